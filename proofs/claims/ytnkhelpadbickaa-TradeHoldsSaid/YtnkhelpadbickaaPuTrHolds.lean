/- The plain law: nobody could do better with what some had at first, and nobody has worse than his own. -/
import Derived.Test.YtnkhelpadbickaaWTradeHoldsModels
import Derived.Test.YtnkhelpadbickaaPuHolds
import Derived.Test.YtnkhelpadbickaaPuGood
set_option linter.all false
namespace Go.Pu
open Go.Fw Go.Mo
theorem Swapped.ord {n K : Nat} {l : List (List Int)} {got : List Int} {r : List (List Int)} {G ρ : Nat → Nat} (s : Swapped n l got r G ρ K) : Ord n got := by
  refine ⟨s.gl, fun x => ⟨fun hx => ?_, fun hx => ?_⟩, ?_⟩
  · obtain ⟨i, hi, e⟩ := mem_nth hx
    rw [s.gl] at hi
    rw [s.got i hi] at e
    have := s.ttc.lt i hi
    omega
  · obtain ⟨j, hj, e, _⟩ := s.ttc.onto (i := x.toNat) (by omega)
    have h1 := s.got j hj
    rw [e, Int.toNat_of_nonneg hx.1] at h1
    rw [← h1]; exact nth_mem (by rw [s.gl]; exact hj)
  · rw [List.nodup_iff_pairwise_ne, List.pairwise_iff_getElem]
    intro i j hi hj hij e
    rw [s.gl] at hi hj
    rw [← nth_get, ← nth_get, s.got i hi, s.got j hj] at e
    have := s.ttc.inj hi hj (by omega)
    omega
theorem TradeHolds (x0 : Int) (_ : (Lit.int .i64 x0).wf = true) (x1 : List (List Int)) (_ : (∀ r ∈ x1, (∀ x ∈ r, (Lit.int .i64 x).wf = true) ∧ r.length ≤ maxLen) ∧ x1.length ≤ maxLen) : pk_TradeHolds_m x0 x1 = some true := by
  obtain ⟨n, n1, n6, hn⟩ := one_within x0 6 (by decide) (by decide)
  rw [show ((6 : Nat) : Int) = 6 from rfl] at hn
  obtain ⟨l, el, hl⟩ := likesOf_ok n1 n6 x1
  have hll := hl.len
  obtain ⟨g, r, G, ρ, K, es, s⟩ := swap_ok hl
  obtain ⟨b, eb, hb⟩ := holds_trade hl s.ord s.got
  have hb' : b = true := hb.2 (holds_of n6 ρ fun i x hi hx hle => s.ttc.best i x hi hx hle)
  apply Ok.eq
  unfold pk_TradeHolds_m
  rw [trades_t, Option.bind_some, if_neg (by decide), within_at x0 6 (by decide) (by decide), Option.bind_some, hn, el, Option.bind_some, es, Option.bind_some]
  dsimp only
  rw [eb, Option.bind_some]
  dsimp only
  have hgl := s.gl
  rw [good_at, Option.bind_some, if_neg (by decide), ok_bindR, ok_some, flok_nx, if_neg (by rw [bne_iff_ne]; omega), ok_bindR]
  refine ok_rangeN (fun _ _ => True) trivial (fun i t hi _ => ?_) fun t _ => ?_
  · have hin : i < n := by omega
    unfold pk_TradeHolds_b1
    dsimp only
    have e1 : idx l (i : Int) = some (nth l i) := by rw [idx_nat, nth_at (by omega)]
    have h2 := s.ttc.best i i hin hin (Nat.le_refl _)
    rw [idx_nat, nth_at hi, Option.bind_some, e1, Option.bind_some, s.got i hin, hl.index hin (s.ttc.lt i hin), Option.bind_some, Option.bind_some, hl.index hin hin, Option.bind_some, if_neg (by rw [decide_eq_true_eq]; omega), ok_some, flok_nx]; trivial
  · rw [ok_bindR, hb', if_pos rfl, order_check n1 n6 s.ord, Option.bind_some, ok_some, flok_nx, ok_some]; rfl
end Go.Pu
