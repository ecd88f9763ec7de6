/- The plain law: all orders, each once, rising; any order is one of them. -/
import Derived.Test.YtilgigahabjbaaaWOrderAllModels
import Derived.Test.YtilgigahabjbaaaPuAllOrd
import Derived.Test.YtilgigahabjbaaaPuEq
set_option linter.all false
namespace Go.Pu
open Go.Fw Go.Mo
def fac : Nat → Int | 0 => 1 | n + 1 => (n + 1 : Int) * fac n
theorem fac_le : ∀ k : Nat, k < 7 → 0 ≤ fac k ∧ fac k ≤ 720 := by decide
theorem fac_desc : ∀ n : Nat, n < 7 → ((desc n n : Nat) : Int) = fac n := by decide
theorem many_all {n : Nat} (h1 : 1 ≤ n) (h6 : n ≤ 6) {y : Int} (hy : wadd 1 y = n) : Ok (loopM (γ := Unit) (pk_OrderAll_b1 y) 1048576 ((1 : Int), (2 : Int))) (FlOk (fun p => p.1 = fac n) (fun _ => False) (fun _ => False)) := by
  refine ok_loopM (fun p : Int × Int => ∃ k : Nat, 1 ≤ k ∧ k ≤ n ∧ p = (fac k, (k : Int) + 1)) (fun p => 10 - p.2.toNat) (fun p hp => ?_) _ _ ⟨1, by omega, h1, rfl⟩ (by simp only; omega)
  obtain ⟨k, k1, k2, rfl⟩ := hp
  unfold pk_OrderAll_b1
  simp only [hy, ok_ite, ok_some, flok_nx, flok_br, decide_eq_true_eq]
  refine ⟨fun hle => ?_, fun hgt => ?_⟩
  · have fb := fac_le (k + 1) (by omega)
    have e : fac k * ((k : Int) + 1) = fac (k + 1) := by rw [Int.mul_comm]; rfl
    rw [wmul_of (by omega) (by omega), e, wadd_of (by omega) (by omega)]
    exact ⟨⟨k + 1, by omega, by omega, by simp⟩, by omega⟩
  · have : k = n := by omega
    subst this; rfl
theorem compare_lt {p q : List Int} (hl : p.length = q.length) (h : lexLt p q) : ∃ c, slices_Compare_int_int_m p q = some c ∧ c < 0 := by
  have key : ∀ (p q pre : List Int), p.length = q.length → lexLt p q → ∃ c : Int, c < 0 ∧ rangeL (γ := Unit) (slices_Compare_int_int_b1 (pre ++ q)) p pre.length () = some (.rt c) := by
    intro p
    induction p with
    | nil => intro q pre _ h; exact h.elim
    | cons x p ih =>
      intro q pre hl h
      cases q with
      | nil => exact h.elim
      | cons y q =>
        unfold rangeL
        have e0 : idx (pre ++ y :: q) (pre.length : Int) = some y := by rw [idx_nat, List.getElem?_append_right (by omega)]; simp
        have e1 : slices_Compare_int_int_b1 (pre ++ y :: q) pre.length x () = if x < y then some (.rt (-1)) else if x > y then some (.rt 1) else some (.nx ()) := by
          unfold slices_Compare_int_int_b1 cmp_Compare_int_m cmp_isNaN_int_m
          rw [e0]
          by_cases h1 : x < y
          · simp [h1]; omega
          · by_cases h2 : x > y
            · simp [h1, h2]; try omega
            · simp [h1, h2]; try omega
        rw [e1]
        rcases h with h | ⟨rfl, h⟩
        · rw [if_pos h]; exact ⟨-1, by omega, rfl⟩
        · rw [if_neg (by omega), if_neg (by omega)]
          obtain ⟨c, hc, e⟩ := ih q (pre ++ [x]) (by simpa using hl) h
          refine ⟨c, hc, ?_⟩
          simp only [List.append_assoc, List.singleton_append, List.length_append, List.length_singleton] at e
          exact e
  obtain ⟨c, hc, e⟩ := key p q [] hl h
  refine ⟨c, ?_, hc⟩
  unfold slices_Compare_int_int_m
  simp only [List.nil_append, List.length_nil] at e
  rw [e]; rfl
theorem OrderAll (x0 : Int) (_ : (Lit.int .i64 x0).wf = true) (x1 : List Int) (_ : (∀ x ∈ x1, (Lit.int .i64 x).wf = true) ∧ x1.length ≤ maxLen) : pk_OrderAll_m x0 x1 = some true := by
  obtain ⟨n, n1, n6, hn⟩ := one_within x0 6 (by decide) (by decide)
  rw [show ((6 : Nat) : Int) = 6 from rfl] at hn
  obtain ⟨p, ep, hp⟩ := orderOf_ok n x1 n1 (by omega)
  obtain ⟨l, el, hR, hlen⟩ := all_ok n1 n6
  have hd := desc_bound n (by omega) n (Nat.le_refl _)
  have hf := fac_desc n (by omega)
  apply Ok.eq
  unfold pk_OrderAll_m
  rw [orders_t]
  simp only [Option.bind_some, Bool.not_true, Bool.false_eq_true, if_false, within_at x0 6 (by decide) (by decide), hn, ep, el]
  simp only [ok_bindR]
  refine (many_all n1 n6 hn).mono fun r hr => ?_
  cases r with
  | br _ => exact hr.elim
  | rt _ => exact hr.elim
  | nx q =>
    obtain ⟨m, j⟩ := q
    have hm : m = fac n := hr
    subst hm
    simp only [flok_nx, ok_ite, ok_some, ok_bindR, hlen, hf, bne_self_eq_false, Bool.false_eq_true, false_implies, true_and, not_false_eq_true, true_implies]
    refine ok_rangeN (s := false) (fun k b => b = true ↔ p ∈ l.take k) (by simp) (fun k b hk hb => ?_) fun b hb => ?_
    · have hkl : k < l.length := by omega
      have hrow := hR.row _ (nth_mem hkl)
      unfold pk_OrderAll_b2
      rw [idx_nat, nth_at hkl, Option.bind_some, hn, order_check n1 n6 (rows_ord hrow)]
      have hprev : (if decide ((k : Int) > 0) = true then (idx l (wsub (k : Int) 1)).bind fun y179 => (slices_Compare_int_int_m y179 (nth l k)).bind fun y182 => some (.nx (decide (y182 ≥ (0 : Int)))) else some (.nx false) : Option (Fl Bool Bool Bool)) = some (.nx false) := by
        by_cases hk0 : (k : Int) > 0
        · rw [if_pos (by simpa using hk0), wsub_of (by omega) (by omega), show (k : Int) - 1 = ((k - 1 : Nat) : Int) by omega, idx_nat, nth_at (by omega), Option.bind_some]
          have hlt : lexLt (nth l (k - 1)) (nth l k) := by
            rw [nth_get (show k - 1 < l.length by omega), nth_get hkl]
            exact List.pairwise_iff_getElem.1 hR.lex (k - 1) k (by omega) hkl (by omega)
          obtain ⟨c, ec, hc⟩ := compare_lt (by rw [(hR.row _ (nth_mem (show k - 1 < l.length by omega))).1, hrow.1]) hlt
          rw [ec, Option.bind_some, decide_eq_false (by omega)]
        · rw [if_neg (by simpa using hk0)]
      rw [Option.bind_some, if_neg (by simp), hprev]
      simp only [ok_bindF, ok_ite, ok_some, ok_bind, flok_nx, flok_rt, equal_ok, Bool.false_eq_true, false_implies, true_and, not_false_eq_true, true_implies]
      rw [List.take_succ_eq_append_getElem hkl, List.mem_append]
      have e2 : l[k] = nth l k := (nth_get hkl).symm
      rw [e2]
      simp only [List.mem_singleton, decide_eq_true_eq]
      grind
    · have := hR.all p (ord_row hp)
      rw [← hlen] at hb
      have e3 : b = true := by
        apply hb.2
        rw [List.take_of_length_le (by omega)]; exact this
      exact e3
end Go.Pu
