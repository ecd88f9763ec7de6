/- The share is what all rows bring together. -/
import Derived.Test.YtlglnacpabmjnaaWWorthRowsModels
import Derived.Test.YtlglnacpabmjnaaPuRows
set_option linter.all false
namespace Go.Pu
open Go.Fw Go.Mo
def flatLC (l : List (List Int)) (i : Nat) : LC := match l with | [] => [] | p :: r => rowLC p i ++ flatLC r i
theorem flat_same : ∀ n : Nat, n < 6 → (List.range n).all (fun i => LC.same (2 ^ n) (flatLC (allRows n) i) (shareLC n i)) = true := by decide +kernel
theorem flat_share {n i : Nat} (hn : n < 6) (hi : i < n) (v : Nat → Int) : LC.ev (flatLC (allRows n) i) v = LC.ev (shareLC n i) v := LC.same_ev (List.all_eq_true.1 (flat_same n hn) i (List.mem_range.2 hi)) v
theorem all_len : ∀ n : Nat, n < 6 → 0 < n → ((allRows n).length : Int) = fct n := by decide +kernel
theorem flat_sum (v : Nat → Int) (i : Nat) : ∀ l : List (List Int), LC.ev (flatLC l i) v = sumN l.length (fun j => LC.ev (rowLC (nth l j) i) v)
  | [] => rfl
  | p :: r => by
    have ih := flat_sum v i r
    have h : ∀ (m : Nat) (f : Nat → Int), sumN (m + 1) f = f 0 + sumN m (fun j => f (j + 1)) := by
      intro m f
      induction m with
      | zero => simp [sumN]
      | succ m ih => simp only [sumN] at ih ⊢; rw [ih]; omega
    simp only [flatLC, LC.ev_append, List.length_cons, ih]
    rw [h]; rfl
theorem inSum_add (n s : Nat) (f g : Nat → Int) : inSum n s (fun i => f i + g i) = inSum n s f + inSum n s g := by
  unfold inSum; rw [← sumN_add]
  exact sumN_congr fun i _ => by dsimp only; split <;> omega
theorem inSum_congr {n s : Nat} {f g : Nat → Int} (h : ∀ i, i < n → f i = g i) : inSum n s f = inSum n s g := sumN_congr fun i hi => by rw [h i hi]
theorem inSum_zero (n s : Nat) : inSum n s (fun _ => 0) = 0 := by
  unfold inSum; rw [sumN_congr (g := fun _ => 0) fun i _ => by split <;> rfl, sumN_zero]
theorem flat_ge {n s : Nat} {v : Nat → Int} {x : Int} : ∀ l : List (List Int), (∀ p ∈ l, x ≤ inSum n s (fun i => LC.ev (rowLC p i) v)) → (l.length : Int) * x ≤ inSum n s (fun i => LC.ev (flatLC l i) v)
  | [], _ => by simp [flatLC, LC.ev, inSum_zero]
  | p :: r, h => by
    have ih := flat_ge r fun q hq => h q (by simp [hq])
    have hp := h p (by simp)
    simp only [flatLC, LC.ev_append, inSum_add, List.length_cons]
    rw [Int.natCast_add, Int.add_mul]
    simp only [Int.natCast_one, Int.one_mul]
    omega
theorem flat_eq {n s : Nat} {v : Nat → Int} {x : Int} : ∀ l : List (List Int), (∀ p ∈ l, inSum n s (fun i => LC.ev (rowLC p i) v) = x) → inSum n s (fun i => LC.ev (flatLC l i) v) = (l.length : Int) * x
  | [], _ => by simp [flatLC, LC.ev, inSum_zero]
  | p :: r, h => by
    have ih := flat_eq r fun q hq => h q (by simp [hq])
    have hp := h p (by simp)
    simp only [flatLC, LC.ev_append, inSum_add, List.length_cons]
    rw [Int.natCast_add, Int.add_mul]
    simp only [Int.natCast_one, Int.one_mul]
    omega
end Go.Pu
