/- Two weights against each other: the sets that the heavier one turns. -/
import Derived.Test.YtlglnacpabmjnaaWPowerTurnsModels
import Derived.Test.YtlglnacpabmjnaaPuPow
set_option linter.all false
namespace Go.Pu
open Go.Fw Go.Mo
/-- sets with neither: with the one against with the other one -/
def cmpPart (D : LC) (i k T : Nat) : LC := if has T i || has T k then [] else [(LC.cf D (T + 2 ^ i), T + 2 ^ i), (-(LC.cf D (T + 2 ^ i)), T + 2 ^ k)]
def cmpLC (n : Nat) (D : LC) (i k : Nat) : LC := LC.all (cmpPart D i k) (2 ^ n)
def cmpOk (n : Nat) (D : LC) (i k : Nat) : Bool := LC.same (2 ^ n) D (cmpLC n D i k) && (List.range (2 ^ n)).all (fun T => has T i || has T k || decide (0 ≤ LC.cf D (T + 2 ^ i)))
theorem swing_cmp : ∀ n : Nat, n < 7 → ∀ i : Nat, i < n → ∀ k : Nat, k < n → i ≠ k → cmpOk n (swingLC n i ++ LC.neg (swingLC n k)) i k = true := by decide +kernel
theorem sumN_nnn {n : Nat} {f : Nat → Int} (h : ∀ x, x < n → 0 ≤ f x) : 0 ≤ sumN n f := by
  have := sumN_le h; rw [sumN_zero] at this; exact this
theorem wt_with {w : List Int} (h6 : w.length ≤ 6) {s i : Nat} (hs : s < 64) (hi : i < w.length) (hb : has s i = false) : wt w w.length (s + 2 ^ i) = wt w w.length s + nth w i := by
  have : wt w w.length (s + 2 ^ i) = wt w w.length s + sumN w.length (fun j => if j = i then nth w i else 0) := by
    unfold wt
    rw [← sumN_add]
    refine sumN_congr fun j hj => ?_
    rw [with_has s hs i (by omega) hb j (by omega)]
    by_cases hji : j = i
    · subst hji; simp [hb]
    · simp [hji]
  rw [sumN_single hi] at this; omega
theorem cmp_ev {w : List Int} {q : Int} (h : Vote w q) {D : LC} {i k : Nat} (hi : i < w.length) (hk : k < w.length) (hc : cmpOk w.length D i k = true) (hw : nth w k ≤ nth w i) : 0 ≤ LC.ev D (win w q) := by
  have h6 := h.n6; have hp := pow_le w.length (by omega)
  simp only [cmpOk, Bool.and_eq_true, List.all_eq_true, List.mem_range] at hc
  rw [LC.same_ev hc.1]
  unfold cmpLC
  rw [LC.ev_all]
  refine sumN_nnn fun T hT => ?_
  have hn := hc.2 T hT
  unfold cmpPart
  cases h1 : has T i with
  | true => simp [LC.ev]
  | false =>
    cases h2 : has T k with
    | true => simp [LC.ev]
    | false =>
      rw [h1, h2] at hn
      simp only [Bool.false_or, decide_eq_true_eq] at hn
      simp only [Bool.or_self, Bool.false_eq_true, if_false, LC.ev]
      have e1 := wt_with h6 (show T < 64 by omega) hi h1
      have e2 := wt_with h6 (show T < 64 by omega) hk h2
      have hle : win w q (T + 2 ^ k) ≤ win w q (T + 2 ^ i) := by
        unfold win
        rw [e1, e2]; split <;> split <;> omega
      generalize LC.cf D (T + 2 ^ i) = c at *
      have := Int.mul_le_mul_of_nonneg_left hle hn
      grind
end Go.Pu
