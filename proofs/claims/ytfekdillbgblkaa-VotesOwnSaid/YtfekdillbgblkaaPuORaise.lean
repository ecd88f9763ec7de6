/- The plain law: who is raised stands one place ahead. -/
import Derived.Test.YtfekdillbgblkaaWVotesOwnModels
import Derived.Test.YtfekdillbgblkaaPuReverse
import Derived.Test.YtfekdillbgblkaaPuBest
import Derived.Test.YtfekdillbgblkaaPuList
import Derived.Test.YtfekdillbgblkaaPuEq
set_option linter.all false
namespace Go.Pu
open Go.Fw Go.Mo
theorem place_ok {n : Nat} {p : List Int} (h0 : 1 ≤ n) (h6 : n ≤ 6) (hp : Ord n p) {k : Nat} (hk : k < n) : order_Place_m p (k : Int) = some ((p.idxOf (k : Int) : Int), 0) := by
  unfold order_Place_m
  have hm : (k : Int) ∈ p := (hp.mem _).2 (by omega)
  rw [hp.len, order_check h0 h6 hp, Option.bind_some, if_neg (by simp), index_ok, Option.bind_some, if_pos hm, if_pos (by simp)]
theorem raise_ok {n : Nat} {p : List Int} (h0 : 1 ≤ n) (h6 : n ≤ 6) (hp : Ord n p) {k : Nat} (hk : k < n) : order_Raise_m p (k : Int) = some (if p.idxOf (k : Int) = 0 then ([], 6) else (swap p (p.idxOf (k : Int) - 1), 0)) := by
  unfold order_Raise_m
  have hi := hp.idx_lt hk
  have hl := hp.len
  rw [place_ok h0 h6 hp hk, Option.bind_some, if_neg (by simp)]
  by_cases h : p.idxOf (k : Int) = 0
  · rw [if_pos (by simp [h]), if_pos h]
  · rw [if_neg (by simp; omega), if_neg h, clone_ok p (by omega), Option.bind_some]
    simp only
    have e : wsub ((p.idxOf (k : Int) : Nat) : Int) 1 = ((p.idxOf (k : Int) - 1 : Nat) : Int) := by rw [wsub_of (by omega) (by omega)]; omega
    generalize hq : p.idxOf (k : Int) = q at *
    rw [e]
    simp only [Int.toNat_natCast, idx_nat]
    rw [nth_at (by omega), nth_at (by omega)]
    simp only [Option.bind_some]
    rw [nth_at (by rw [List.length_set]; omega)]
    simp only [Option.bind_some]
    unfold swap
    rw [show q - 1 + 1 = q by omega]
theorem kt_cost (n : Nat) (p q : List Int) : kt n p q = cost n (fun y x => b1 (bf q y x)) p := by
  unfold kt cost
  refine sumN_congr fun x _ => sumN_congr fun y _ => ?_
  cases h : bf p x y <;> simp [b1]
theorem kt_rev {n : Nat} (h1 : 1 ≤ n) (h6 : n ≤ 6) {p : List Int} (hp : Ord n p) : 2 * kt n p p.reverse = n * (n - 1) := by
  have e : kt n p p.reverse = sumN n (fun x => (n : Int) - 1 - p.idxOf (x : Int)) := by
    unfold kt
    refine sumN_congr fun x hx => ?_
    rw [← behind_count hp hx]
    refine sumN_congr fun y hy => ?_
    rw [rev_bf hp hy hx, Bool.and_self]
  have e2 : sumN n (fun x => (n : Int) - 1 - p.idxOf (x : Int)) = sumN n (fun i => (n : Int) - 1 - i) := by
    rw [← ord_sum hp]
    refine sumN_congr fun i hi => ?_
    have v0 := hp.val hi
    have := hp.idx hi
    rw [Int.toNat_of_nonneg v0.1, this]
  rw [e, e2]
  have : n = 1 ∨ n = 2 ∨ n = 3 ∨ n = 4 ∨ n = 5 ∨ n = 6 := by omega
  rcases this with rfl | rfl | rfl | rfl | rfl | rfl <;> rfl
theorem swap_idx {n : Nat} {p : List Int} (hp : Ord n p) {k : Nat} (hk : k + 1 < n) {b : Nat} (hb : nth p (k + 1) = b) : (swap p k).idxOf (b : Int) = k := by
  have ho := swap_ord hp hk
  have : nth (swap p k) k = (b : Int) := by rw [swap_nth (by rw [hp.len]; exact hk), if_pos rfl, hb]
  rw [← this]; exact ho.idx (by omega)
theorem OrderRaise (x0 : Int) (_ : (Lit.int .i64 x0).wf = true) (x1 : List Int) (_ : (∀ x ∈ x1, (Lit.int .i64 x).wf = true) ∧ x1.length ≤ maxLen) (x2 : Int) (_ : (Lit.int .i64 x2).wf = true) : pk_OrderRaise_m x0 x1 x2 = some true := by
  obtain ⟨n, n1, n6, hn⟩ := one_within x0 6 (by decide) (by decide)
  rw [show ((6 : Nat) : Int) = 6 from rfl] at hn
  obtain ⟨p, ep, hp⟩ := orderOf_ok n x1 n1 (by omega)
  have hl := hp.len
  have hr := hp.rev
  have hfar := far_ok n1 n6 hp hr
  have hkt := kt_rev n1 n6 hp
  obtain ⟨k, hk, ek⟩ : ∃ k : Nat, k < n ∧ x2 % (n : Int) = k := ⟨(x2 % (n : Int)).toNat, by have := Int.emod_lt_of_pos x2 (show (0 : Int) < n by omega); omega, by have := Int.emod_nonneg x2 (show (n : Int) ≠ 0 by omega); omega⟩
  have hpl := place_ok n1 n6 hp hk
  have hra := raise_ok n1 n6 hp hk
  have hi := hp.idx_lt hk
  have e0 : order_Raise_m ([(0 : Int), (1 : Int), (2 : Int)]) (2 : Int) = some ([0, 2, 1], 0) := by decide +kernel
  unfold pk_OrderRaise_m
  rw [e0, Option.bind_some]
  simp only [bne_self_eq_false, Bool.false_eq_true, if_false, equal_ok, Option.bind_some, decide_true, Bool.not_true, orders_t, bindR]
  rw [within_at x0 6 (by decide) (by decide), Option.bind_some, hn, ep, Option.bind_some, clone_ok p (by omega), Option.bind_some, reverse_ok p (by omega), Option.bind_some, within_at x2 n (by omega) (by omega), Option.bind_some, ek, hra, Option.bind_some, hpl, Option.bind_some, hfar, Option.bind_some]
  have g2 : pk_good_m [0, 0] = some true := by rw [good_at]; rfl
  have g3 : pk_good_m [0, 0, 0] = some true := by rw [good_at]; rfl
  simp only [g2, Option.bind_some, Bool.not_true, Bool.false_eq_true, if_false]
  have hprod : (n : Int) * ((n : Int) - 1) ≤ 6 * 5 := Int.mul_le_mul (by omega) (by omega) (by omega) (by omega)
  have hprod0 : 0 ≤ (n : Int) * ((n : Int) - 1) := Int.mul_nonneg (by omega) (by omega)
  have ew : IntKind.wrap .i64 (Int.tdiv (wmul (n : Int) (wsub (n : Int) 1)) 2) = kt n p p.reverse := by
    rw [wsub_of (by omega) (by omega), wmul_of (by omega) (by omega), Int.tdiv_eq_ediv_of_nonneg hprod0, ← hkt]
    rw [show 2 * kt n p p.reverse / 2 = kt n p p.reverse by omega]
    have : wadd (kt n p p.reverse) 0 = kt n p p.reverse := by rw [wadd_of (by omega) (by omega)]; omega
    unfold wadd at this; rwa [Int.add_zero] at this
  rw [chk_t (by decide), Option.bind_some, ew]
  simp only [bne_self_eq_false, Bool.false_eq_true, if_false]
  by_cases h : p.idxOf (k : Int) = 0
  · rw [if_pos h]
    simp [h]
  · rw [if_neg h]
    simp only [bne_self_eq_false, Bool.false_eq_true, if_false]
    have hk1 : p.idxOf (k : Int) - 1 + 1 < n := by omega
    obtain ⟨a, ha⟩ : ∃ a : Nat, nth p (p.idxOf (k : Int) - 1) = a := ⟨(nth p (p.idxOf (k : Int) - 1)).toNat, by have := hp.val (k := p.idxOf (k : Int) - 1) (by omega); omega⟩
    have hb : nth p (p.idxOf (k : Int) - 1 + 1) = k := by rw [show p.idxOf (k : Int) - 1 + 1 = p.idxOf (k : Int) by omega]; exact hp.at_idx hk
    have hso := swap_ord hp hk1
    have hsi := swap_idx hp hk1 hb
    have han : a < n := by have := hp.val (k := p.idxOf (k : Int) - 1) (by omega); omega
    have hab : bf p a k = true := by
      unfold bf
      have e1 := hp.idx (k := p.idxOf (k : Int) - 1) (by omega)
      rw [ha] at e1
      rw [e1]; simp; omega
    have hba : bf p k a = false := by have := bf_or hp hk han (fun e => by subst e; rw [bf_self] at hab; cases hab); rw [this, hab]; rfl
    have hplS := place_ok n1 n6 hso hk
    rw [hsi] at hplS
    have hf1 := far_ok n1 n6 hp hso
    have hf2 := far_ok n1 n6 hso hr
    have k1 : kt n p (swap p (p.idxOf (k : Int) - 1)) = 1 := by
      rw [kt_comm, kt_cost, swap_cost hp hk1 ha hb, ← kt_cost, (kt_zero hp hp).2 rfl, hab, hba]; rfl
    have k2 : kt n (swap p (p.idxOf (k : Int) - 1)) p.reverse = kt n p p.reverse - 1 := by
      rw [kt_cost, swap_cost hp hk1 ha hb, ← kt_cost, rev_bf hp han hk, rev_bf hp hk han, hab, hba]
      unfold b1; simp
    rw [k1] at hf1
    rw [k2] at hf2
    rw [hplS, Option.bind_some, hf1, Option.bind_some, hf2, Option.bind_some]
    simp only [g3, Option.bind_some, if_true]
    rw [wsub_of (x := ((p.idxOf (k : Int) : Nat) : Int)) (by omega) (by omega), wsub_of (by omega) (by omega), show ((p.idxOf (k : Int) - 1 : Nat) : Int) = ((p.idxOf (k : Int) : Nat) : Int) - 1 by omega]
    simp
end Go.Pu
