/- The plain law: all that all are worth is shared, and of two games together it is both shares. -/
import Derived.Test.YtlglnacpabmjnaaWWorthRowsModels
import Derived.Test.YtlglnacpabmjnaaPuWorth
import Derived.Test.YtlglnacpabmjnaaPuGood
import Derived.Test.YtlglnacpabmjnaaPuSeats
set_option linter.all false
namespace Go.Pu
open Go.Fw Go.Mo
theorem share_whole : ∀ n : Nat, n < 7 → 0 < n → LC.same (2 ^ n) (LC.all (fun i => shareLC n i) n) [(fct n, 2 ^ n - 1), (-(fct n), 0)] = true := by decide +kernel
theorem ssum_ok {l : List Int} (h : ∀ k, k < l.length → -100000000000 ≤ nth l k ∧ nth l k ≤ 100000000000) (hl : l.length ≤ 1000) : pk_sum_m l = some l.sum := by
  apply Ok.eq
  unfold pk_sum_m
  simp only [ok_bindR, ok_some]
  have bound : ∀ k : Nat, k ≤ l.length → -100000000000 * (k : Int) ≤ (l.take k).sum ∧ (l.take k).sum ≤ 100000000000 * k := by
    intro k
    induction k with
    | zero => simp
    | succ k ih =>
      intro hk
      have := ih (by omega)
      have := h k (by omega)
      rw [sum_take_succ (by omega)]
      omega
  refine ok_rangeL (s := (0 : Int)) (fun (k : Nat) (s : Int) => s = (l.take k).sum) (by simp) (fun k x s hk hs => ?_) fun s hs => by rw [hs, List.take_length]
  obtain ⟨hx, hkl⟩ := nth_of hk
  have b1 := bound k (by omega)
  have b2 := bound (k + 1) (by omega)
  rw [sum_take_succ hkl] at b2
  unfold pk_sum_b1
  simp only [ok_some, flok_nx]
  rw [hs, sum_take_succ hkl, ← hx, wadd_of (by omega) (by omega)]
theorem vsum {n : Nat} {l : List Int} {f : Nat → Int} (h : Vec n l f) : l.sum = sumN n f := by
  have : ∀ k, k ≤ l.length → (l.take k).sum = sumN k (nth l) := by
    intro k
    induction k with
    | zero => intro _; simp [sumN]
    | succ k ih => intro hk; rw [sum_take_succ (by omega), ih (by omega)]; rfl
  have := this l.length (Nat.le_refl _)
  rw [List.take_length, h.len] at this
  rw [this]; exact sumN_congr h.at_
theorem share_bound {n i : Nat} {v : Nat → Int} (hn : n < 7) (hi : i < n) (hv : ∀ s, s < 2 ^ n → -1000000 ≤ v s ∧ v s ≤ 1000000) : -15360000000 ≤ LC.ev (shareLC n i) v ∧ LC.ev (shareLC n i) v ≤ 15360000000 := by
  have := parts_bound hn hi hv (2 ^ n) (Nat.le_refl _)
  have hp := pow_le n hn
  unfold shareLC
  rw [LC.ev_all]; omega
/-- 1 by 2 by .. by n -/
theorem fct_le : ∀ k : Nat, k < 7 → 0 ≤ fct k ∧ fct k ≤ 720 := by decide
theorem many_ok {n : Nat} (h1 : 1 ≤ n) (h6 : n ≤ 6) {y : Int} (hy : wadd 1 y = n) : Ok (loopM (γ := Unit) (pk_WorthWhole_b2 y) 1048576 ((1 : Int), (2 : Int))) (FlOk (fun p => p.1 = fct n) (fun _ => False) (fun _ => False)) := by
  refine ok_loopM (fun p : Int × Int => ∃ k : Nat, 1 ≤ k ∧ k ≤ n ∧ p = (fct k, (k : Int) + 1)) (fun p => 10 - p.2.toNat) (fun p hp => ?_) _ _ ⟨1, by omega, h1, rfl⟩ (by simp only; omega)
  obtain ⟨k, k1, k2, rfl⟩ := hp
  unfold pk_WorthWhole_b2
  simp only [hy, ok_ite, ok_some, flok_nx, flok_br, decide_eq_true_eq]
  refine ⟨fun hle => ?_, fun hgt => ?_⟩
  · have fb := fct_le (k + 1) (by omega)
    have e : fct k * ((k : Int) + 1) = fct (k + 1) := by rw [Int.mul_comm]; rfl
    rw [wmul_of (by omega) (by omega), e, wadd_of (by omega) (by omega)]
    exact ⟨⟨k + 1, by omega, by omega, by simp⟩, by omega⟩
  · have : k = n := by omega
    subst this; rfl
theorem WorthWhole (x0 : Int) (_ : (Lit.int .i64 x0).wf = true) (x1 : List Int) (h1 : (∀ x ∈ x1, (Lit.int .i64 x).wf = true) ∧ x1.length ≤ maxLen) (x2 : List Int) (h2 : (∀ x ∈ x2, (Lit.int .i64 x).wf = true) ∧ x2.length ≤ maxLen) : pk_WorthWhole_m x0 x1 x2 = some true := by
  obtain ⟨n, n1, n5, hn⟩ := one_within x0 5 (by decide) (by decide)
  rw [show ((5 : Nat) : Int) = 5 from rfl] at hn
  obtain ⟨g, v, eg, hg, bg⟩ := gameOf_ok n1 (by omega) x1 h1.2
  obtain ⟨k, w, ek, hk, bk⟩ := gameOf_ok n1 (by omega) x2 h2.2
  obtain ⟨a, ea, ha⟩ := worth_share hg
  obtain ⟨b, eb, hb⟩ := worth_share hk
  have hp := pow_le n (by omega); have hp0 := pow_pos' n
  apply Ok.eq
  unfold pk_WorthWhole_m
  rw [worths_t]
  simp only [Option.bind_some, Bool.not_true, Bool.false_eq_true, if_false, within_at x0 5 (by decide) (by decide), hn, eg, ek]
  simp only [ok_bind, ok_chk, ok_bindR, hg.vec.len, Int.toNat_natCast]
  refine ⟨by omega, ok_rangeN (fun (s : Nat) (l : List Int) => Vec (2 ^ n) l (fun t => if t < s then v t + w t else 0)) (Vec.zero.congr fun x _ => by simp) (fun s l hs hI => ?_) fun c hc => ?_⟩
  · have := bg s hs; have := bk s hs
    unfold pk_WorthWhole_b1
    simp only [idx_nat, hg.vec.at? hs, hk.vec.at? hs, hI.at? hs, Option.bind_some, ok_some, flok_nx]
    rw [wadd_of (by omega) (by omega)]
    refine (hI.set hs _).congr fun t ht => ?_
    by_cases hts : t = s
    · subst hts; rw [if_pos rfl, if_pos (by omega)]
    · rw [if_neg hts]
      by_cases hlt : t < s
      · rw [if_pos hlt, if_pos (by omega)]
      · rw [if_neg hlt, if_neg (by omega)]
  · have hc' : Game n c (fun t => v t + w t) := ⟨n1, by omega, hc.congr fun x hx => by rw [if_pos hx], fun s hs => by have := bg s hs; have := bk s hs; omega, by rw [hg.zero, hk.zero]; rfl⟩
    obtain ⟨q, eq, hq⟩ := worth_share hc'
    simp only [flok_nx, ea, eb, eq, ok_bind, ok_bindR, ok_ite, ok_some, good_at, ha.len, hb.len, hq.len, List.all_cons, List.all_nil, Bool.and_self, beq_self_eq_true, bne_self_eq_false, Bool.not_true, Bool.false_eq_true, false_implies, true_and, not_false_eq_true, true_implies]
    refine (many_ok n1 (by omega) hn).mono fun r hr => ?_
    cases r with
    | br _ => exact hr.elim
    | rt _ => exact hr.elim
    | nx p =>
      obtain ⟨m, j⟩ := p
      have hm : m = fct n := hr
      subst hm
      simp only [flok_nx]
      refine ok_rangeN (fun _ _ => True) trivial (fun i s hi _ => ?_) fun s _ => ?_
      · have s1 := share_bound (by omega) hi hg.val
        have s2 := share_bound (by omega) hi hk.val
        unfold pk_WorthWhole_b3
        simp only [idx_nat, ha.at? hi, hb.at? hi, hq.at? hi, Option.bind_some, ok_ite, ok_some, flok_nx, flok_rt, bne_iff_ne]
        rw [wadd_of (by omega) (by omega), LC.ev_add]
        grind
      · have hs : pk_sum_m a = some a.sum := ssum_ok (fun i hi => by
          rw [ha.len] at hi
          rw [ha.at_ i hi]
          have := share_bound (by omega) hi hg.val; omega) (by rw [ha.len]; omega)
        have he : a.sum = fct n * v (2 ^ n - 1) := by
          rw [vsum ha, ← LC.ev_all, LC.same_ev (share_whole n (by omega) (by omega))]
          simp only [LC.ev, hg.zero]; omega
        have fb : 0 ≤ fct n ∧ fct n ≤ 120 := by
          have : n = 1 ∨ n = 2 ∨ n = 3 ∨ n = 4 ∨ n = 5 := by omega
          rcases this with rfl | rfl | rfl | rfl | rfl <;> decide
        have bl := bg (2 ^ n - 1) (by omega)
        simp only [flok_nx, hs, ok_bind, ok_some]
        rw [wsub_of (by omega) (by omega), show ((2 ^ n : Nat) : Int) - 1 = ((2 ^ n - 1 : Nat) : Int) by omega, idx_nat, hg.vec.at? (by omega), ok_some]
        have u1 : fct n * v (2 ^ n - 1) ≤ 120 * 30 := by
          have := Int.mul_le_mul_of_nonneg_left bl.2 fb.1
          have := Int.mul_le_mul_of_nonneg_right fb.2 (show (0 : Int) ≤ 30 by omega)
          omega
        have u2 : -1200 ≤ fct n * v (2 ^ n - 1) := by
          have := Int.mul_le_mul_of_nonneg_left bl.1 fb.1
          have := Int.mul_le_mul_of_nonneg_right fb.2 (show (0 : Int) ≤ 10 by omega)
          omega
        rw [wmul_of (by omega) (by omega), he]
        simp
end Go.Pu
