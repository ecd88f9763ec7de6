/- The plain law: the distance between orders is a metric. -/
import Derived.Test.YtilgigahabjbaaaWOrderFarModels
import Derived.Test.YtilgigahabjbaaaPuFar
import Derived.Test.YtilgigahabjbaaaPuGood
import Derived.Test.YtilgigahabjbaaaPuEq
set_option linter.all false
namespace Go.Pu
open Go.Fw Go.Mo
theorem OrderFar (x0 : Int) (_ : (Lit.int .i64 x0).wf = true) (x1 : List Int) (_ : (∀ x ∈ x1, (Lit.int .i64 x).wf = true) ∧ x1.length ≤ maxLen) (x2 : List Int) (_ : (∀ x ∈ x2, (Lit.int .i64 x).wf = true) ∧ x2.length ≤ maxLen) (x3 : List Int) (_ : (∀ x ∈ x3, (Lit.int .i64 x).wf = true) ∧ x3.length ≤ maxLen) : pk_OrderFar_m x0 x1 x2 x3 = some true := by
  obtain ⟨n, n1, n6, hn⟩ := one_within x0 6 (by decide) (by decide)
  rw [show ((6 : Nat) : Int) = 6 from rfl] at hn
  obtain ⟨p, ep, hp⟩ := orderOf_ok n x1 n1 (by omega)
  obtain ⟨q, eq, hq⟩ := orderOf_ok n x2 n1 (by omega)
  obtain ⟨r, er, hr⟩ := orderOf_ok n x3 n1 (by omega)
  have b1 := kt_bound n6 p q; have b2 := kt_bound n6 q r
  have t := kt_third (p := p) (r := r) hq
  have z := kt_zero hp hq
  apply Ok.eq
  unfold pk_OrderFar_m
  rw [orders_t]
  simp only [Option.bind_some, Bool.not_true, Bool.false_eq_true, if_false, within_at x0 6 (by decide) (by decide), hn, ep, eq, er, far_ok n1 n6 hp hq, far_ok n1 n6 hq hp, far_ok n1 n6 hq hr, far_ok n1 n6 hp hr, good_at, equal_ok, kt_comm n q p]
  rw [wadd_of (by omega) (by omega)]
  simp [ok_bind, ok_bindR, ok_ite, ok_some, flok_nx, b1.1, t]
  by_cases hz : kt n p q = 0
  · have hpq := z.1 hz
    subst hpq
    simp [hz]
  · have : p ≠ q := fun e => hz (z.2 e)
    simp [hz, this]
end Go.Pu
