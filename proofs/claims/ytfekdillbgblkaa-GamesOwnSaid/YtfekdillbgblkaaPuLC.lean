/- Combinations of the values of sets: two of them are the same if each set has the same part in both. -/
import Derived.Test.YtfekdillbgblkaaPuMat
set_option linter.all false
namespace Go.Pu
open Go.Fw
abbrev LC := List (Int × Nat)
def LC.ev (L : LC) (v : Nat → Int) : Int := match L with | [] => 0 | p :: r => p.1 * v p.2 + LC.ev r v
def LC.cf (L : LC) (s : Nat) : Int := match L with | [] => 0 | p :: r => (if p.2 = s then p.1 else 0) + LC.cf r s
theorem LC.ev_append (L M : LC) (v : Nat → Int) : LC.ev (L ++ M) v = LC.ev L v + LC.ev M v := by
  induction L with
  | nil => simp [LC.ev]
  | cons p L ih => simp only [List.cons_append, LC.ev, ih]; omega
theorem LC.ev_cf {N : Nat} (v : Nat → Int) : ∀ (L : LC), (∀ p ∈ L, p.2 < N) → LC.ev L v = sumN N (fun s => LC.cf L s * v s)
  | [], _ => by simp only [LC.ev, LC.cf, Int.zero_mul, sumN_zero]
  | p :: L, h => by
    have ih := LC.ev_cf v L fun q hq => h q (by simp [hq])
    simp only [LC.ev, LC.cf]
    rw [ih]
    have : sumN N (fun s => ((if p.2 = s then p.1 else 0) + LC.cf L s) * v s) = sumN N (fun s => (if s = p.2 then p.1 * v p.2 else 0) + LC.cf L s * v s) := sumN_congr fun s _ => by
      by_cases hs : p.2 = s
      · subst hs; rw [if_pos rfl, if_pos rfl, Int.add_mul]
      · rw [if_neg hs, if_neg (Ne.symm hs), Int.add_mul, Int.zero_mul]
    rw [this, sumN_add, sumN_single (h p (by simp))]
/-- the same parts -/
def LC.same (N : Nat) (L M : LC) : Bool := L.all (fun p => decide (p.2 < N)) && M.all (fun p => decide (p.2 < N)) && (List.range N).all fun s => decide (LC.cf L s = LC.cf M s)
theorem LC.same_ev {N : Nat} {L M : LC} (h : LC.same N L M = true) (v : Nat → Int) : LC.ev L v = LC.ev M v := by
  simp only [LC.same, Bool.and_eq_true, List.all_eq_true, decide_eq_true_eq, List.mem_range] at h
  rw [LC.ev_cf v L h.1.1, LC.ev_cf v M h.1.2]
  exact sumN_congr fun s hs => by rw [h.2 s hs]
theorem LC.ev_add (L : LC) (v w : Nat → Int) : LC.ev L (fun s => v s + w s) = LC.ev L v + LC.ev L w := by
  induction L with
  | nil => simp [LC.ev]
  | cons p L ih => simp only [LC.ev]; rw [ih, Int.mul_add]; omega
theorem LC.ev_congr {L : LC} {N : Nat} {v w : Nat → Int} (h : ∀ p ∈ L, p.2 < N) (e : ∀ s, s < N → v s = w s) : LC.ev L v = LC.ev L w := by
  induction L with
  | nil => rfl
  | cons p L ih => simp only [LC.ev]; rw [ih fun q hq => h q (by simp [hq]), e _ (h p (by simp))]
def LC.neg (L : LC) : LC := L.map fun p => (-p.1, p.2)
theorem LC.ev_neg (L : LC) (v : Nat → Int) : LC.ev (LC.neg L) v = - LC.ev L v := by
  induction L with
  | nil => simp [LC.ev, LC.neg]
  | cons p L ih => simp only [LC.neg, List.map_cons, LC.ev] at ih ⊢; rw [ih, Int.neg_mul]; omega
/-- sets below N, each a combination -/
def LC.all (f : Nat → LC) : Nat → LC
  | 0 => []
  | n + 1 => LC.all f n ++ f n
theorem LC.ev_all (f : Nat → LC) (v : Nat → Int) (n : Nat) : LC.ev (LC.all f n) v = sumN n (fun s => LC.ev (f s) v) := by
  induction n with
  | zero => rfl
  | succ n ih => simp only [LC.all, LC.ev_append, sumN, ih]
end Go.Pu
