/- The plain law: nobody gets what he likes better by telling another order. -/
import Derived.Test.YtnkhelpadbickaaWTradeTruthModels
import Derived.Test.YtnkhelpadbickaaPuSwapL
import Derived.Test.YtnkhelpadbickaaPuGood
set_option linter.all false
namespace Go.Pu
open Go.Fw Go.Mo
theorem TradeTruth (x0 : Int) (_ : (Lit.int .i64 x0).wf = true) (x1 : List (List Int)) (_ : (∀ r ∈ x1, (∀ x ∈ r, (Lit.int .i64 x).wf = true) ∧ r.length ≤ maxLen) ∧ x1.length ≤ maxLen) (x2 : Int) (_ : (Lit.int .i64 x2).wf = true) (x3 : List Int) (_ : (∀ x ∈ x3, (Lit.int .i64 x).wf = true) ∧ x3.length ≤ maxLen) : pk_TradeTruth_m x0 x1 x2 x3 = some true := by
  obtain ⟨n, n1, n6, hn⟩ := one_within x0 6 (by decide) (by decide)
  rw [show ((6 : Nat) : Int) = 6 from rfl] at hn
  obtain ⟨l, el, hl⟩ := likesOf_ok n1 n6 x1
  obtain ⟨p, ep, hp⟩ := orderOf_ok n x3 n1 (by omega)
  have hll := hl.len
  have d0 := Int.emod_nonneg x2 (b := (n : Int)) (by omega)
  have d1 := Int.emod_lt_of_pos x2 (b := (n : Int)) (by omega)
  obtain ⟨i, ei⟩ : ∃ i : Nat, x2 % (n : Int) = (i : Int) := ⟨(x2 % (n : Int)).toNat, by omega⟩
  rw [ei] at d1
  have hi : i < n := by omega
  have ht : Likes n (l.set i p) := by
    refine ⟨n1, n6, by rw [List.length_set]; exact hll, fun j hj => ?_⟩
    rw [nth_set (by omega)]
    split
    · exact hp
    · exact hl.ord j hj
  obtain ⟨g, r, G, ρ, K, es, s⟩ := swap_ok hl
  obtain ⟨g', r', G', ρ', K', es', s'⟩ := swap_ok ht
  have cl : slices_Clone_rows_m l = some l := by unfold slices_Clone_rows_m; rw [chk_t (by omega)]; rfl
  have key := s.ttc.truth s'.ttc hi (fun j hj hji x => by unfold rk; rw [nth_set (by omega), if_neg hji]) (fun j x y hj hx hy e => hl.inj hj hx hy e)
  apply Ok.eq
  unfold pk_TradeTruth_m
  have hil : i < l.length := by omega
  rw [trades_t, Option.bind_some, if_neg (by decide), within_at x0 6 (by decide) (by decide), Option.bind_some, hn, el, Option.bind_some, within_at x2 _ (by omega) (by omega), Option.bind_some, ei, es, Option.bind_some, cl, Option.bind_some]
  have g1 := s.gl; have g2 := s'.gl
  simp only [idx_nat, nth_at hil, ep, Option.bind_some, Int.toNat_natCast, es', good_at, nth_at (show i < g.length by omega), nth_at (show i < g'.length by omega), s.got i hi, s'.got i hi, hl.index hi (s.ttc.lt i hi), hl.index hi (s'.ttc.lt i hi)]
  rw [if_pos (by decide), if_pos (by rw [beq_iff_eq]; omega), if_pos (by rw [beq_iff_eq]; omega), ok_bindR, ok_some, flok_nx, ok_some, decide_eq_true_eq]
  omega
end Go.Pu
