/- The plain law: nobody is paid, nobody pays more than it is worth to him, and who gets nothing pays nothing. -/
import Derived.Test.YtdmolnfnpinhcaaWGrovesPaysModels
import Derived.Test.YtdmolnfnpinhcaaPuGrovL
set_option linter.all false
namespace Go.Pu
open Go.Fw Go.Mo
theorem GrovesPays (x0 : Int) (_ : (Lit.int .i64 x0).wf = true) (x1 : Int) (_ : (Lit.int .i64 x1).wf = true) (x2 : List Int) (_ : (∀ x ∈ x2, (Lit.int .i64 x).wf = true) ∧ x2.length ≤ maxLen) : pk_GrovesPays_m x0 x1 x2 = some true := by
  obtain ⟨n, n1, n4, hn⟩ := one_within x0 4 (by decide) (by decide)
  obtain ⟨k, k1, k4, hk⟩ := one_within x1 4 (by decide) (by decide)
  rw [show ((4 : Nat) : Int) = 4 from rfl] at hn hk
  obtain ⟨w, ew, hw⟩ := goodsOf_ok (n := n) (k := k) n4 k4 x2
  obtain ⟨g, v, p, es, ep, s⟩ := groves_ok hw
  apply Ok.eq
  unfold pk_GrovesPays_m
  rw [vickreys_t, Option.bind_some, if_neg (by decide), within_at x0 4 (by decide) (by decide), Option.bind_some, within_at x1 4 (by decide) (by decide), Option.bind_some, hn, hk, ew, Option.bind_some, es, Option.bind_some, ep, Option.bind_some, good_at, Option.bind_some]
  have hgl := s.opt.fits.len
  have hwl := hw.1
  have hpl := s.len
  dsimp only
  rw [if_neg (by decide), if_neg (by rw [bne_iff_ne]; omega), ok_bindR, ok_some, flok_nx, if_neg (by rw [bne_iff_ne]; omega), ok_bindR]
  refine ok_rangeN (fun _ _ => True) trivial (fun i t hi _ => ?_) fun t _ => by rw [ok_some]
  have hiw : i < w.length := by omega
  have hf := s.fair hw (i := i) (by omega)
  have hrow := hw.row (i := i) (by omega)
  unfold pk_GrovesPays_b1
  dsimp only
  rw [hk]
  simp only [idx_nat, nth_at (show i < g.length by omega), nth_at (show i < p.length by omega), nth_at hiw, Option.bind_some]
  rcases s.opt.fits.at hiw with hx | ⟨j, hj, hx⟩
  · rw [hx, own_none] at hf
    rw [hx, if_neg (by decide), if_neg (by rw [decide_eq_true_eq]; omega), if_neg (by rw [decide_eq_true_eq]; omega), if_pos (by decide), if_neg (by rw [bne_iff_ne]; omega), if_neg (by decide), ok_bindF, ok_some, flok_nx, if_neg (by decide), ok_some, flok_nx]; trivial
  · rw [hx] at hf
    unfold own at hf
    rw [if_neg (by omega), Int.toNat_natCast] at hf
    rw [hx, if_neg (by rw [decide_eq_true_eq]; omega), if_neg (by rw [decide_eq_true_eq]; omega), if_neg (by rw [decide_eq_true_eq]; omega), if_neg (by rw [decide_eq_true_eq]; omega), if_pos (by rw [decide_eq_true_eq]; omega), idx_nat, nth_at hj, Option.bind_some, ok_bindF, ok_some, flok_nx, if_neg (by rw [decide_eq_true_eq]; omega), ok_some, flok_nx]; trivial
end Go.Pu
