/- The plain law: who could block turns as often as who could win. -/
import Derived.Test.YtlglnacpabmjnaaWPowerDualModels
import Derived.Test.YtlglnacpabmjnaaPuTurns
import Derived.Test.YtlglnacpabmjnaaPuGood
import Derived.Test.YtlglnacpabmjnaaPuEq
set_option linter.all false
namespace Go.Pu
open Go.Fw Go.Mo
def otherLC (N : Nat) (L : LC) : LC := match L with | [] => [] | p :: r => (p.1, N - 1) :: (-p.1, N - 1 - p.2) :: otherLC N r
theorem other_ev (N : Nat) (L : LC) (v : Nat → Int) : LC.ev L (fun s => v (N - 1) - v (N - 1 - s)) = LC.ev (otherLC N L) v := by
  induction L with
  | nil => rfl
  | cons p L ih => simp only [LC.ev, otherLC, ih]; grind
theorem swing_other : ∀ n : Nat, n < 7 → ∀ i : Nat, i < n → LC.same (2 ^ n) (otherLC (2 ^ n) (swingLC n i)) (swingLC n i) = true := by decide +kernel
theorem turn_other : ∀ n : Nat, n < 7 → ∀ i : Nat, i < n → LC.same (2 ^ n) (otherLC (2 ^ n) (turnLC n i)) (turnLC n i) = true := by decide +kernel
theorem swing_in : ∀ n : Nat, n < 7 → ∀ i : Nat, i < n → List.all (swingLC n i) (fun p => decide (p.2 < 2 ^ n)) = true := by decide +kernel
theorem turn_in : ∀ n : Nat, n < 7 → ∀ i : Nat, i < n → List.all (turnLC n i) (fun p => decide (p.2 < 2 ^ n)) = true := by decide +kernel
theorem comp_has : ∀ n : Nat, n < 7 → ∀ s : Nat, s < 2 ^ n → ∀ i : Nat, i < n → has (2 ^ n - 1 - s) i = !has s i := by decide +kernel
theorem dual_win {w : List Int} {q : Int} (h : Vote w q) {s : Nat} (hs : s < 2 ^ w.length) : win w (w.sum + 1 - q) s = win w q (2 ^ w.length - 1) - win w q (2 ^ w.length - 1 - s) := by
  have h6 := h.n6; have hp0 := pow_pos' w.length
  have tot : ∀ t, t < 2 ^ w.length → wt w w.length t + wt w w.length (2 ^ w.length - 1 - t) = w.sum := fun t ht => by
    have : ∀ k, k ≤ w.length → (w.take k).sum = sumN k (nth w) := by
      intro k
      induction k with
      | zero => intro _; simp [sumN]
      | succ k ih => intro hk; rw [sum_take_succ (by omega), ih (by omega)]; rfl
    have e := this w.length (Nat.le_refl _)
    rw [List.take_length] at e
    rw [e]
    unfold wt
    rw [← sumN_add]
    exact sumN_congr fun i hi => by
      rw [comp_has w.length (by omega) t ht i hi]
      cases has t i <;> simp
  have z : wt w w.length 0 = 0 := by
    unfold wt
    rw [sumN_congr (g := fun _ => 0) (fun i hi => ?_), sumN_zero]
    have : has 0 i = false := by simp [has]
    rw [this]; rfl
  have t0 := tot 0 hp0
  have ts := tot s hs
  rw [Nat.sub_zero, z] at t0
  have h1 := h.q1; have h2 := h.qs
  unfold win
  rw [show wt w w.length (2 ^ w.length - 1) = w.sum by omega, if_pos h2]
  split <;> split <;> omega
theorem PowerDual (x0 : List Int) (_ : (∀ x ∈ x0, (Lit.int .i64 x).wf = true) ∧ x0.length ≤ maxLen) (x1 : Int) (_ : (Lit.int .i64 x1).wf = true) : pk_PowerDual_m x0 x1 = some true := by
  obtain ⟨w, q, ew, hw⟩ := weightsOf_ok x0 x1
  have h1 := hw.n1; have h6 := hw.n6; have q1 := hw.q1; have qs := hw.qs
  have hv : Vote w (w.sum + 1 - q) := ⟨hw.n1, hw.n6, hw.val, by omega, by omega⟩
  have hsum := wsum_bound hw.val w.length (Nat.le_refl _)
  rw [List.take_length] at hsum
  obtain ⟨a, ea, ha⟩ := swings_ok hw
  obtain ⟨b, eb, hb⟩ := swings_ok hv
  obtain ⟨c, ec, hc⟩ := turns_ok hw
  obtain ⟨d, ed, hd⟩ := turns_ok hv
  have eqw : ∀ s, s < 2 ^ w.length → win w (w.sum + 1 - q) s = win w q (2 ^ w.length - 1) - win w q (2 ^ w.length - 1 - s) := fun s hs => dual_win hw hs
  have hab : b = a := hb.ext (ha.congr fun i hi => by
    have hin := swing_in w.length (by omega) i hi
    simp only [List.all_eq_true, decide_eq_true_eq] at hin
    rw [LC.ev_congr hin eqw, other_ev, LC.same_ev (swing_other w.length (by omega) i hi)])
  have hcd : d = c := hd.ext (hc.congr fun i hi => by
    have hin := turn_in w.length (by omega) i hi
    simp only [List.all_eq_true, decide_eq_true_eq] at hin
    rw [LC.ev_congr hin eqw, other_ev, LC.same_ev (turn_other w.length (by omega) i hi)])
  subst hab hcd
  have e1 : wsub (wadd w.sum 1) q = w.sum + 1 - q := by rw [wadd_of (by omega) (by omega), wsub_of (by omega) (by omega)]
  apply Ok.eq
  unfold pk_PowerDual_m
  rw [powers_t]
  simp [ew, ea, eb, ec, ed, wsum_ok hw.val h6, e1, good_at, equal_ok, ok_bind, ok_bindR, ok_ite, ok_some, flok_nx]
end Go.Pu
