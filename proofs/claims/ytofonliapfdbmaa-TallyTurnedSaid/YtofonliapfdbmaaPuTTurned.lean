/- The plain law: all votes the other way round. -/
import Derived.Test.YtofonliapfdbmaaWTallyTurnedModels
import Derived.Test.YtofonliapfdbmaaPuReverse
import Derived.Test.YtofonliapfdbmaaPuWide
set_option linter.all false
namespace Go.Pu
open Go.Fw Go.Mo
theorem TallyTurned (x0 : Int) (_ : (Lit.int .i64 x0).wf = true) (x1 : List (List Int)) (_ : (∀ r ∈ x1, (∀ x ∈ r, (Lit.int .i64 x).wf = true) ∧ r.length ≤ maxLen) ∧ x1.length ≤ maxLen) : pk_TallyTurned_m x0 x1 = some true := by
  obtain ⟨n, n1, n6, hn⟩ := one_within x0 6 (by decide) (by decide)
  rw [show ((6 : Nat) : Int) = 6 from rfl] at hn
  obtain ⟨v, ev, _, hv⟩ := votesOf_ok n x1 n1 n6
  have hw := turn_votes hv
  obtain ⟨a, ea, hA⟩ := duels_ok n1 n6 hv
  obtain ⟨b, eb, hB⟩ := duels_ok n1 n6 hw
  obtain ⟨p, ep, hP⟩ := points_ok n1 n6 hv
  obtain ⟨q, eq, hQ⟩ := points_ok n1 n6 hw
  have hvl := hv.1
  apply Ok.eq
  unfold pk_TallyTurned_m
  rw [tallies_t', Option.bind_some, if_neg (by decide), within_at x0 6 (by decide) (by decide), Option.bind_some, hn, ev, Option.bind_some, ea, Option.bind_some, turned_ok n6 hv, Option.bind_some, eb, Option.bind_some, ep, Option.bind_some]
  simp only [turned_ok n6 hv, Option.bind_some, eq, good_at, tableOf_ok hA, tableOf_ok hB, hP.len, hQ.len, List.all_cons, List.all_nil, Bool.and_self, beq_self_eq_true, bne_self_eq_false, Bool.not_true, Bool.false_eq_true, if_false, if_true]
  rw [ok_bindR, ok_some, flok_nx, if_neg (by decide), chk_t (by omega), Option.bind_some, ok_bindR]
  refine ok_rangeN (fun _ _ => True) trivial (fun i u hi _ => ?_) fun _ _ => by rw [ok_some]
  rw [Int.toNat_natCast] at hi
  unfold pk_TallyTurned_b1
  simp only
  rw [hn, chk_t (by omega), Option.bind_some, ok_bindF]
  refine ok_rangeN (fun _ _ => True) trivial (fun j u hj _ => ?_) fun _ _ => ?_
  · rw [Int.toNat_natCast] at hj
    unfold pk_TallyTurned_b2
    simp only [idx_nat, hA.row? hi, hB.row? hj, hA.cell? hi hj, hB.cell? hj hi, Option.bind_some, turn_duel hv.2 hj hi, bne_self_eq_false, Bool.false_eq_true, if_false]
    rw [ok_some, flok_nx]; trivial
  · show Ok _ _
    simp only [idx_nat, hP.at? hi, hQ.at? hi, Option.bind_some]
    have h1 := turn_pts hv.2 hi
    have h2 := pts_bound n1 n6 hv.2 hi
    have h3 := pts_bound n1 n6 hw.2 hi
    have h4 := hw.1
    have h5 : ((n : Int) - 1) * (v.length : Int) ≤ 5 * 30 := Int.mul_le_mul (by omega) (by omega) (by omega) (by omega)
    rw [wadd_of (by omega) (by omega), wsub_of (x := (n : Int)) (by omega) (by omega), wmul_of (by omega) (by omega), h1, bne_self_eq_false, if_neg (by decide), ok_some, flok_nx]
    trivial
end Go.Pu
