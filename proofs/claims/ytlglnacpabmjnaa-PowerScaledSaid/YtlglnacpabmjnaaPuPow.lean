/- Weights of any numbers; more of who turns what. -/
import Derived.Test.YtlglnacpabmjnaaWPowerScaledModels
import Derived.Test.YtlglnacpabmjnaaPuPower
set_option linter.all false
namespace Go.Pu
open Go.Fw Go.Mo
theorem powers_t : pk_powers_m = some true := by decide +kernel
theorem wsum_ok {w : List Int} (h : ∀ k, k < w.length → 0 ≤ nth w k ∧ nth w k ≤ 1000) (h6 : w.length ≤ 6) : pk_sum_m w = some w.sum := psum_ok (B := 1000) (by omega) h (by omega)
theorem weightsOf_ok (x0 : List Int) (x1 : Int) : ∃ w q, pk_WeightsOf_m x0 x1 = some (w, q) ∧ Vote w q := by
  have : Ok (pk_WeightsOf_m x0 x1) (fun r => Vote r.1 r.2) := by
    unfold pk_WeightsOf_m
    have e : (if (5 : Int) < (x0.length : Int) then (5 : Int) else (x0.length : Int)) = ((min 5 x0.length : Nat) : Int) := by omega
    rw [e, List.drop_zero, Int.toNat_natCast]
    simp only [ok_bind, ok_chk, ok_bindR, ok_some]
    have start : ([(1 : Int)] : List Int).length = 0 + 1 ∧ nth ([(1 : Int)] : List Int) 0 = 1 ∧ ∀ k, k < ([(1 : Int)] : List Int).length → 0 ≤ nth ([(1 : Int)] : List Int) k ∧ nth ([(1 : Int)] : List Int) k ≤ 1000 := by
      refine ⟨rfl, rfl, fun k hk => ?_⟩
      have : k = 0 := by simp at hk; omega
      subst this; decide
    refine ⟨by omega, ok_rangeL (fun (k : Nat) (p : List Int) => p.length = k + 1 ∧ nth p 0 = 1 ∧ ∀ k, k < p.length → 0 ≤ nth p k ∧ nth p k ≤ 1000) start (fun k x p hk hI => ?_) fun p hp => ?_⟩
    · obtain ⟨i1, i2, i3⟩ := hI
      have hk' := (List.getElem?_eq_some_iff.1 hk).1
      rw [List.length_take] at hk'
      have a0 := Int.emod_nonneg x (b := 20) (by decide)
      have a1 := Int.emod_lt_of_pos x (b := 20) (by decide)
      unfold pk_WeightsOf_b1
      rw [within_at x 20 (by decide) (by decide)]
      simp only [ok_bind, ok_chk, ok_some, flok_nx]
      refine ⟨by simp; omega, by simp [i1], by rw [nth_append, if_pos (by omega)]; exact i2, fun j hj => ?_⟩
      rw [nth_append]
      split
      · exact i3 j (by assumption)
      · have : j - p.length = 0 := by simp at hj; omega
        rw [this, nth_cons_zero]; omega
    · obtain ⟨i1, i2, i3⟩ := hp
      rw [List.length_take] at i1
      have hpos : 0 < p.sum := by
        match p, i1, i2, i3 with
        | x :: l, i1, i2, i3 =>
          rw [nth_cons_zero] at i2
          have := psum_bound (p := l) (fun k hk => by have := i3 (k + 1) (by simpa using hk); rw [nth_cons_succ] at this; omega) l.length (Nat.le_refl _)
          rw [List.take_length] at this
          simp only [List.sum_cons]; omega
      have hb := wsum_bound i3 p.length (Nat.le_refl _)
      rw [List.take_length] at hb
      have a0 := Int.emod_nonneg x1 (b := p.sum) (by omega)
      have a1 := Int.emod_lt_of_pos x1 hpos
      simp only [flok_nx, ok_bind, wsum_ok i3 (by omega), ok_some, within_at x1 p.sum hpos (by omega)]
      rw [wadd_of (by omega) (by omega)]
      exact ⟨by omega, by omega, i3, by omega, by omega⟩
  obtain ⟨⟨w, q⟩, e, h⟩ := this
  exact ⟨w, q, e, h⟩
theorem winsP_ok {w : List Int} {q : Int} (h : Vote w q) {s : Nat} (hs : s < 2 ^ w.length) : power_Wins_m w q (s : Int) = some (decide (q ≤ wt w w.length s), 0) := by
  have h6 := h.n6; have hp := pow_le w.length (by omega)
  apply Ok.eq
  unfold power_Wins_m
  rw [power_check h, pow_ok w.length (by omega), wins_at h (by omega)]
  simp [ok_bind, ok_bindR, ok_ite, ok_chk, ok_some, flok_nx]
  have : (s : Int) < ((2 ^ w.length : Nat) : Int) := by omega
  simpa using this
theorem win_dec (w : List Int) (q : Int) (s : Nat) : (decide (q ≤ wt w w.length s) = true ↔ win w q s = 1) ∧ (decide (q ≤ wt w w.length s) = false ↔ win w q s = 0) := by
  unfold win; by_cases h : q ≤ wt w w.length s <;> simp [h]
end Go.Pu
