/- The plain law: those who have one bid no less than the price, all others no more. -/
import Derived.Test.YtflbneojjnpegaaWUnitsSoldModels
import Derived.Test.YtflbneojjnpegaaPuUnits
import Derived.Test.YtflbneojjnpegaaPuList
import Derived.Test.YtflbneojjnpegaaPuFl
set_option linter.all false
namespace Go.Pu
open Go.Fw Go.Mo
theorem UnitsSold (x0 : List Int) (h0 : (∀ x ∈ x0, (Lit.int .i64 x).wf = true) ∧ x0.length ≤ maxLen) (x1 : Int) (_ : (Lit.int .i64 x1).wf = true) : pk_UnitsSold_m x0 x1 = some true := by
  obtain ⟨l, el, hl, hb⟩ := bidsOf_ok x0 h0.2
  have hbl : Bids l := ⟨by omega, fun x hx => by have := hb x hx; omega⟩
  have a0 := Int.emod_nonneg x1 (b := 11) (by decide)
  have a1 := Int.emod_lt_of_pos x1 (b := 11) (by decide)
  obtain ⟨w, p, es, s⟩ := sell_ok (n := x1 % 11) hbl (by omega)
  have hwl : w.length ≤ l.length := by have := s.len; split at this <;> omega
  apply Ok.eq
  unfold pk_UnitsSold_m
  rw [sells_t, Option.bind_some, if_neg (by decide), el, Option.bind_some, within_at x1 11 (by decide) (by decide), Option.bind_some, es, Option.bind_some]
  dsimp only
  rw [inOrd_ok (by omega) s.asc, if_neg (by decide), if_neg (by
    rw [bne_iff_ne]; have := s.len; split at this <;> split <;> omega)]
  simp only [Option.bind_some, Bool.not_true, ok_bindR, ok_some, flok_nx, Bool.false_eq_true, if_false]
  refine ok_rangeN (fun _ _ => True) trivial (fun i _ hi _ => ?_) fun _ _ => trivial
  unfold pk_UnitsSold_b1
  rw [idx_nat, nth_at hi, Option.bind_some, contains_ok, Option.bind_some]
  dsimp only
  by_cases hin : (i : Int) ∈ w
  · have := s.ge _ hin
    rw [Int.toNat_natCast] at this
    simp [hin, ok_bindF, ok_some, flok_nx]
    rw [if_neg (by omega)]
    simp [ok_bindF, ok_some, flok_nx]
  · have := s.le i hi hin
    simp [hin, ok_bindF, ok_some, flok_nx]
    rw [if_neg (by omega)]
    simp [ok_bindF, ok_some, flok_nx]
end Go.Pu
