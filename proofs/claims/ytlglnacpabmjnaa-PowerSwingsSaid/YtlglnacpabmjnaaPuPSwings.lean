/- The plain law: swings are twice the winning sets with somebody less all winning sets, and grow with weight. -/
import Derived.Test.YtlglnacpabmjnaaWPowerSwingsModels
import Derived.Test.YtlglnacpabmjnaaPuPCmp
set_option linter.all false
namespace Go.Pu
open Go.Fw Go.Mo
def withLC (n i : Nat) : LC := LC.all (fun s => if has s i then [(1, s)] else []) (2 ^ n)
def allLC (n : Nat) : LC := LC.all (fun s => [(1, s)]) (2 ^ n)
def mul2 (L : LC) : LC := match L with | [] => [] | p :: r => (2 * p.1, p.2) :: mul2 r
theorem mul2_ev (L : LC) (v : Nat → Int) : LC.ev (mul2 L) v = 2 * LC.ev L v := by
  induction L with
  | nil => rfl
  | cons p L ih => simp only [mul2, LC.ev, ih]; grind
theorem swing_all : ∀ n : Nat, n < 7 → ∀ i : Nat, i < n → LC.same (2 ^ n) (swingLC n i) (mul2 (withLC n i) ++ LC.neg (allLC n)) = true := by decide +kernel
theorem swing_more {w : List Int} {q : Int} (h : Vote w q) {i k : Nat} (hi : i < w.length) (hk : k < w.length) (hw : nth w k ≤ nth w i) : LC.ev (swingLC w.length k) (win w q) ≤ LC.ev (swingLC w.length i) (win w q) := by
  by_cases hik : i = k
  · subst hik; exact Int.le_refl _
  · have := cmp_ev h hi hk (swing_cmp w.length (by have := h.n6; omega) i hi k hk hik) hw
    rw [LC.ev_append, LC.ev_neg] at this; omega
theorem PowerSwings (x0 : List Int) (_ : (∀ x ∈ x0, (Lit.int .i64 x).wf = true) ∧ x0.length ≤ maxLen) (x1 : Int) (_ : (Lit.int .i64 x1).wf = true) : pk_PowerSwings_m x0 x1 = some true := by
  obtain ⟨w, q, ew, hw⟩ := weightsOf_ok x0 x1
  obtain ⟨a, ea, ha⟩ := swings_ok hw
  have h1 := hw.n1; have h6 := hw.n6; have hp := pow_le w.length (by omega)
  apply Ok.eq
  unfold pk_PowerSwings_m
  rw [powers_t]
  simp only [Option.bind_some, Bool.not_true, Bool.false_eq_true, if_false, ew, ea, ok_bindR, ok_ite, ok_some, flok_nx, ha.len, bne_self_eq_false, false_implies, true_and, not_false_eq_true, true_implies]
  refine ok_rangeL (fun _ _ => True) trivial (fun i x s hi _ => ?_) fun s _ => by trivial
  obtain ⟨hx, hil⟩ := nth_of hi
  subst hx
  unfold pk_PowerSwings_b1
  rw [pow_ok w.length (by omega)]
  simp only [ok_bind, ok_chk, ok_bindF, Int.toNat_natCast]
  refine ⟨by omega, by omega, ok_rangeN (fun (s : Nat) (p : Int × Int) => 0 ≤ p.1 ∧ p.1 ≤ s ∧ 0 ≤ p.2 ∧ p.2 ≤ s ∧ p.1 = sumN s (fun t => LC.ev (if has t i then [(1, t)] else []) (win w q)) ∧ p.2 = sumN s (fun t => LC.ev [(1, t)] (win w q))) ⟨by simp, by simp, by simp, by simp, rfl, rfl⟩ (fun s p hs hI => ?_) fun p hI => ?_⟩
  · obtain ⟨c, d⟩ := p
    obtain ⟨i1, i2, i3, i4, i5, i6⟩ := hI
    simp only at i1 i2 i3 i4 i5 i6
    have hb := bit_ok s (by omega) i (by omega)
    have wd := win_dec w q s
    unfold pk_PowerSwings_b2
    rw [winsP_ok hw hs, hb]
    simp only [Option.bind_some, ok_bind, ok_chk, ok_ite, ok_some, flok_nx, bne_self_eq_false, Bool.false_eq_true, false_implies, true_and, not_false_eq_true, true_implies]
    refine ⟨fun hwin => ⟨by omega, ?_⟩, fun hno => ?_⟩
    · have hv := wd.1.1 hwin
      cases hbb : has s i with
      | true =>
        simp only [if_true]
        rw [wadd_of (x := c) (by omega) (by omega), wadd_of (x := d) (by omega) (by omega)]
        have e1 : LC.ev (if has s i then [(1, s)] else []) (win w q) = 1 := by rw [hbb]; simp [LC.ev, hv]
        have e2 : LC.ev [(1, s)] (win w q) = 1 := by simp [LC.ev, hv]
        refine ⟨by omega, by omega, by omega, by omega, ?_, ?_⟩
        · rw [show sumN (s + 1) (fun t => LC.ev (if has t i then [(1, t)] else []) (win w q)) = sumN s (fun t => LC.ev (if has t i then [(1, t)] else []) (win w q)) + LC.ev (if has s i then [(1, s)] else []) (win w q) from rfl, e1, i5]
        · rw [show sumN (s + 1) (fun t => LC.ev [(1, t)] (win w q)) = sumN s (fun t => LC.ev [(1, t)] (win w q)) + LC.ev [(1, s)] (win w q) from rfl, e2, i6]
      | false =>
        simp only [Bool.false_eq_true, if_false]
        rw [wadd_of (x := c) (by omega) (by omega), wadd_of (x := d) (by omega) (by omega)]
        have e1 : LC.ev (if has s i then [(1, s)] else []) (win w q) = 0 := by rw [hbb]; rfl
        have e2 : LC.ev [(1, s)] (win w q) = 1 := by simp [LC.ev, hv]
        refine ⟨by omega, by omega, by omega, by omega, ?_, ?_⟩
        · rw [show sumN (s + 1) (fun t => LC.ev (if has t i then [(1, t)] else []) (win w q)) = sumN s (fun t => LC.ev (if has t i then [(1, t)] else []) (win w q)) + LC.ev (if has s i then [(1, s)] else []) (win w q) from rfl, e1, i5]
        · rw [show sumN (s + 1) (fun t => LC.ev [(1, t)] (win w q)) = sumN s (fun t => LC.ev [(1, t)] (win w q)) + LC.ev [(1, s)] (win w q) from rfl, e2, i6]
    · have hv := wd.2.1 (by simpa using hno)
      have e1 : LC.ev (if has s i then [(1, s)] else []) (win w q) = 0 := by split <;> simp [LC.ev, hv]
      have e2 : LC.ev [(1, s)] (win w q) = 0 := by simp [LC.ev, hv]
      refine ⟨by omega, by omega, by omega, by omega, ?_, ?_⟩
      · rw [show sumN (s + 1) (fun t => LC.ev (if has t i then [(1, t)] else []) (win w q)) = sumN s (fun t => LC.ev (if has t i then [(1, t)] else []) (win w q)) + LC.ev (if has s i then [(1, s)] else []) (win w q) from rfl, e1, i5]; omega
      · rw [show sumN (s + 1) (fun t => LC.ev [(1, t)] (win w q)) = sumN s (fun t => LC.ev [(1, t)] (win w q)) + LC.ev [(1, s)] (win w q) from rfl, e2, i6]; omega
  · obtain ⟨c, d⟩ := p
    obtain ⟨i1, i2, i3, i4, i5, i6⟩ := hI
    simp only at i1 i2 i3 i4 i5 i6
    have key : LC.ev (swingLC w.length i) (win w q) = 2 * c - d := by
      rw [LC.same_ev (swing_all w.length (by omega) i hil), LC.ev_append, LC.ev_neg, mul2_ev]
      unfold withLC allLC
      rw [LC.ev_all, LC.ev_all, i5, i6]; omega
    simp only [flok_nx, idx_nat, ha.at? hil, Option.bind_some, ok_ite, ok_some, ok_bindF, flok_rt, bne_iff_ne]
    rw [wmul_of (x := (2 : Int)) (by omega) (by omega), wsub_of (by omega) (by omega)]
    refine ⟨fun hh => absurd key hh, fun _ => ok_rangeL (fun _ _ => True) trivial (fun k x s hk _ => ?_) fun s _ => by trivial⟩
    obtain ⟨hx, hkl⟩ := nth_of hk
    subst hx
    have := swing_more hw hil hkl
    unfold pk_PowerSwings_b3
    simp only [idx_nat, ha.at? hil, ha.at? hkl, Option.bind_some, ok_bindF, ok_ite, ok_some, flok_nx, flok_rt, decide_eq_true_eq]
    grind
end Go.Pu
