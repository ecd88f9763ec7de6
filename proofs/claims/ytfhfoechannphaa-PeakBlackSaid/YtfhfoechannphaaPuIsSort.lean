/- Whether numbers stand in order. -/
import Derived.Test.YtfhfoechannphaaWPeakBlackModels
import Derived.Test.YtfhfoechannphaaPuIns
set_option linter.all false
namespace Go.Pu
open Go.Fw Go.Mo
theorem inOrd_ok {l : List Int} (hl : l.length ≤ 1000000) (h : l.Pairwise (· < ·)) : slices_IsSorted_int_int_m l = some true := by
  apply Ok.eq
  unfold slices_IsSorted_int_int_m
  rw [wsub_of (by omega) (by omega), ok_bindR]
  refine ok_loopM (fun (x : Int) => -1 ≤ x ∧ x < (l.length : Int)) (fun x => (x + 1).toNat) (fun x hx => ?_) _ _ ⟨by omega, by omega⟩ (by omega)
  unfold slices_IsSorted_int_int_b1
  by_cases h0 : x > 0
  · obtain ⟨k, rfl⟩ : ∃ k : Nat, x = ((k + 1 : Nat) : Int) := ⟨(x - 1).toNat, by omega⟩
    have hs := (List.pairwise_iff_getElem.1 h) k (k + 1) (by omega) (by omega) (by omega)
    rw [← nth_get (by omega : k + 1 < l.length), ← nth_get (by omega : k < l.length)] at hs
    rw [if_pos (by rw [decide_eq_true_eq]; exact h0), idx_nat, nth_at (by omega), Option.bind_some, wsub_of (by omega) (by omega), show ((k + 1 : Nat) : Int) - 1 = (k : Int) by omega, idx_nat, nth_at (by omega), Option.bind_some, cmpLess_ok, Option.bind_some, if_neg (by rw [decide_eq_true_eq]; omega), ok_some, flok_nx]
    exact ⟨⟨by omega, by omega⟩, by omega⟩
  · rw [if_neg (by rw [decide_eq_true_eq]; exact h0), ok_some, flok_br, ok_some]
end Go.Pu
