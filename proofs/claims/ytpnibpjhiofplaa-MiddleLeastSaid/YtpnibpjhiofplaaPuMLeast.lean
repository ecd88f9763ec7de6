/- The plain law: no order is nearer to all votes, and in the nearest one nobody is beaten by the next one. -/
import Derived.Test.YtpnibpjhiofplaaWMiddleLeastModels
import Derived.Test.YtpnibpjhiofplaaPuMFar
import Derived.Test.YtpnibpjhiofplaaPuGood
set_option linter.all false
namespace Go.Pu
open Go.Fw Go.Mo
theorem middles_t : pk_middles_m = some true := by decide +kernel
theorem MiddleLeast (x0 : Int) (_ : (Lit.int .i64 x0).wf = true) (x1 : List (List Int)) (_ : (∀ r ∈ x1, (∀ x ∈ r, (Lit.int .i64 x).wf = true) ∧ r.length ≤ maxLen) ∧ x1.length ≤ maxLen) (x2 : List Int) (_ : (∀ x ∈ x2, (Lit.int .i64 x).wf = true) ∧ x2.length ≤ maxLen) : pk_MiddleLeast_m x0 x1 x2 = some true := by
  obtain ⟨n, n1, n6, hn⟩ := one_within x0 6 (by decide) (by decide)
  rw [show ((6 : Nat) : Int) = 6 from rfl] at hn
  obtain ⟨v, ev, _, hv⟩ := votesOf_ok n x1 n1 n6
  obtain ⟨q, eq, hq⟩ := orderOf_ok n x2 n1 (by omega)
  obtain ⟨m, em, hM⟩ := duels_ok n1 n6 hv
  obtain ⟨p, ep, hp, hbest⟩ := best_ok n1 n6 hv
  have hle := hbest q hq
  have hpl := hp.len
  have hnlt : ¬ cost n (duel v) q < cost n (duel v) p := by omega
  apply Ok.eq
  unfold pk_MiddleLeast_m
  rw [middles_t]
  simp only [Option.bind_some, Bool.not_true, Bool.false_eq_true, if_false, within_at x0 6 (by decide) (by decide), hn, ev, eq, ep, em, mfar_ok n1 n6 hv hp, mfar_ok n1 n6 hv hq, good_at, order_check n1 n6 hp]
  simp only [ok_bind, ok_bindR, ok_ite, ok_some, flok_nx, hM.len, hnlt, decide_false, List.all_cons, List.all_nil, Bool.and_self, beq_self_eq_true, bne_self_eq_false, Bool.not_true, Bool.false_eq_true, false_implies, true_and, not_false_eq_true, true_implies]
  refine ok_loopM (fun i : Int => 1 ≤ i ∧ i ≤ n) (fun i => n - i.toNat) (fun i hi => ?_) _ _ ⟨by omega, by omega⟩ (by omega)
  obtain ⟨i1, i2⟩ := hi
  obtain ⟨k, rfl⟩ : ∃ k : Nat, i = (k + 1 : Nat) := ⟨(i - 1).toNat, by omega⟩
  unfold pk_MiddleLeast_b1
  simp only [hn, ok_ite, decide_eq_true_eq]
  refine ⟨fun hlt => ?_, fun _ => by simp [ok_some, flok_br]⟩
  have hk : k + 1 < n := by omega
  have va := hp.val (show k < n by omega); have vb := hp.val hk
  have adj := best_next hp hbest hk
  obtain ⟨a, ha⟩ : ∃ a : Nat, nth p k = a := ⟨(nth p k).toNat, by omega⟩
  obtain ⟨b, hb⟩ : ∃ b : Nat, nth p (k + 1) = b := ⟨(nth p (k + 1)).toNat, by omega⟩
  rw [ha, hb, Int.toNat_natCast, Int.toNat_natCast] at adj
  have han : a < n := by omega
  have hbn : b < n := by omega
  have g1 : p[k]? = some (a : Int) := by rw [nth_at (by omega), ha]
  have g2 : p[k + 1]? = some (b : Int) := by rw [nth_at (by omega), hb]
  have e1 : wsub ((k + 1 : Nat) : Int) 1 = (k : Int) := by rw [wsub_of (by omega) (by omega)]; omega
  rw [e1]
  simp only [idx_nat, g1, g2, hM.row? han, hM.row? hbn, hM.cell? han hbn, hM.cell? hbn han, hM.row a han, hM.row b hbn, Option.bind_some, ok_bindF, ok_ite, ok_some, flok_nx, flok_rt, bne_self_eq_false, Bool.false_eq_true, false_implies, true_and, not_false_eq_true, true_implies, decide_eq_true_eq]
  rw [wadd_of (by omega) (by omega)]
  exact ⟨fun hh => by omega, fun _ => ⟨by omega, by omega⟩⟩
end Go.Pu
