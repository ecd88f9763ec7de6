/- The plain law: in each row just one turns it, who weighs nothing never does, who weighs more no less often. -/
import Derived.Test.YtlglnacpabmjnaaWPowerTurnsModels
import Derived.Test.YtlglnacpabmjnaaPuTurns
import Derived.Test.YtlglnacpabmjnaaPuPCmpT
set_option linter.all false
namespace Go.Pu
open Go.Fw Go.Mo
theorem turn_whole : ∀ n : Nat, n < 7 → 0 < n → LC.same (2 ^ n) (LC.all (fun i => turnLC n i) n) [(fct n, 2 ^ n - 1), (-(fct n), 0)] = true := by decide +kernel
theorem full_has' : ∀ n : Nat, n < 7 → ∀ i : Nat, i < n → has (2 ^ n - 1) i = true := by decide +kernel
theorem fct_le' : ∀ k : Nat, k < 7 → 0 ≤ fct k ∧ fct k ≤ 720 := by decide
theorem many_ok' {n : Nat} (h1 : 1 ≤ n) (h6 : n ≤ 6) {y : List Int × Int} (hy : y.1.length = n) : Ok (loopM (γ := Unit) (pk_PowerTurns_b1 y) 1048576 ((1 : Int), (2 : Int))) (FlOk (fun p => p.1 = fct n) (fun _ => False) (fun _ => False)) := by
  refine ok_loopM (fun p : Int × Int => ∃ k : Nat, 1 ≤ k ∧ k ≤ n ∧ p = (fct k, (k : Int) + 1)) (fun p => 10 - p.2.toNat) (fun p hp => ?_) _ _ ⟨1, by omega, h1, rfl⟩ (by simp only; omega)
  obtain ⟨k, k1, k2, rfl⟩ := hp
  unfold pk_PowerTurns_b1
  simp only [hy, ok_ite, ok_some, flok_nx, flok_br, decide_eq_true_eq]
  refine ⟨fun hle => ?_, fun hgt => ?_⟩
  · have fb := fct_le' (k + 1) (by omega)
    have e : fct k * ((k : Int) + 1) = fct (k + 1) := by rw [Int.mul_comm]; rfl
    rw [wmul_of (by omega) (by omega), e, wadd_of (by omega) (by omega)]
    exact ⟨⟨k + 1, by omega, by omega, by simp⟩, by omega⟩
  · have : k = n := by omega
    subst this; rfl
theorem turn_more {w : List Int} {q : Int} (h : Vote w q) {i k : Nat} (hi : i < w.length) (hk : k < w.length) (hw : nth w k ≤ nth w i) : LC.ev (turnLC w.length k) (win w q) ≤ LC.ev (turnLC w.length i) (win w q) := by
  by_cases hik : i = k
  · subst hik; exact Int.le_refl _
  · have := cmp_ev h hi hk (turn_cmp w.length (by have := h.n6; omega) i hi k hk hik) hw
    rw [LC.ev_append, LC.ev_neg] at this; omega
theorem PowerTurns (x0 : List Int) (_ : (∀ x ∈ x0, (Lit.int .i64 x).wf = true) ∧ x0.length ≤ maxLen) (x1 : Int) (_ : (Lit.int .i64 x1).wf = true) : pk_PowerTurns_m x0 x1 = some true := by
  obtain ⟨w, q, ew, hw⟩ := weightsOf_ok x0 x1
  obtain ⟨a, ea, ha⟩ := turns_ok hw
  have h1 := hw.n1; have h6 := hw.n6; have hp := pow_le w.length (by omega); have hp0 := pow_pos' w.length
  have part : ∀ i, i < w.length → ∀ s, s < 2 ^ w.length → 0 ≤ LC.ev (turn w.length i s) (win w q) ∧ LC.ev (turn w.length i s) (win w q) ≤ 720 := fun i hi s hs => by
    have := turn_bound w.length (by omega) s hs
    rw [turn_ev hw (by omega) hi]; split <;> omega
  have ab : ∀ i, i < w.length → 0 ≤ LC.ev (turnLC w.length i) (win w q) ∧ LC.ev (turnLC w.length i) (win w q) ≤ 46080 := fun i hi => by
    unfold turnLC
    rw [LC.ev_all]
    have l := sumN_le (n := 2 ^ w.length) (f := fun _ => 0) fun s hs => (part i hi s hs).1
    have u := sumN_le (n := 2 ^ w.length) (g := fun _ => 720) fun s hs => (part i hi s hs).2
    rw [sumN_zero] at l
    rw [sumN_const] at u
    omega
  have zero : ∀ i, i < w.length → nth w i = 0 → LC.ev (turnLC w.length i) (win w q) = 0 := fun i hi h0 => by
    unfold turnLC
    rw [LC.ev_all, sumN_congr (g := fun _ => 0) (fun s hs => ?_), sumN_zero]
    rw [turn_ev hw (by omega) hi]
    refine if_neg fun ⟨g1, g2, g3⟩ => ?_
    have := wt_less h6 (show s < 64 by omega) hi g1
    omega
  have tot : a.sum = fct w.length := by
    have e1 : a.sum = sumN w.length (fun i => LC.ev (turnLC w.length i) (win w q)) := by
      have : ∀ k, k ≤ a.length → (a.take k).sum = sumN k (nth a) := by
        intro k
        induction k with
        | zero => intro _; simp [sumN]
        | succ k ih => intro hk; rw [sum_take_succ (by omega), ih (by omega)]; rfl
      have e := this a.length (Nat.le_refl _)
      rw [List.take_length, ha.len] at e
      rw [e]; exact sumN_congr ha.at_
    rw [e1, ← LC.ev_all, LC.same_ev (turn_whole w.length (by omega) (by omega))]
    have f1 : win w q (2 ^ w.length - 1) = 1 := by
      have : wt w w.length (2 ^ w.length - 1) = w.sum := by
        have : ∀ k, k ≤ w.length → (w.take k).sum = sumN k (nth w) := by
          intro k
          induction k with
          | zero => intro _; simp [sumN]
          | succ k ih => intro hk; rw [sum_take_succ (by omega), ih (by omega)]; rfl
        have e := this w.length (Nat.le_refl _)
        rw [List.take_length] at e
        rw [e]
        exact sumN_congr fun i hi => by rw [full_has' w.length (by omega) i hi]; rfl
      unfold win; rw [this, if_pos hw.qs]
    have f0 : win w q 0 = 0 := by
      have : wt w w.length 0 = 0 := by
        unfold wt
        rw [sumN_congr (g := fun _ => 0) (fun i hi => ?_), sumN_zero]
        have : has 0 i = false := by simp [has]
        rw [this]; rfl
      unfold win; rw [this, if_neg (by have := hw.q1; omega)]
    simp only [LC.ev, f1, f0]; omega
  have sa : pk_sum_m a = some (fct w.length) := by
    rw [psum_ok (B := 46080) (by omega) (fun k hk => by rw [ha.len] at hk; rw [ha.at_ k hk]; exact ab k hk) (by rw [ha.len]; omega), tot]
  apply Ok.eq
  unfold pk_PowerTurns_m
  rw [powers_t]
  simp only [Option.bind_some, Bool.not_true, Bool.false_eq_true, if_false, ew, ea, ok_bindR, ok_ite, ok_some, flok_nx, ha.len, bne_self_eq_false, false_implies, true_and, not_false_eq_true, true_implies]
  refine (many_ok' h1 h6 rfl).mono fun r hr => ?_
  cases r with
  | br _ => exact hr.elim
  | rt _ => exact hr.elim
  | nx p =>
    obtain ⟨m, j⟩ := p
    have hm : m = fct w.length := hr
    subst hm
    simp only [flok_nx]
    refine ok_rangeL (fun _ _ => True) trivial (fun i x s hi _ => ?_) fun s _ => by simp [flok_nx, sa, ok_bind, ok_some]
    obtain ⟨hx, hil⟩ := nth_of hi
    subst hx
    have b := ab i hil
    have z := zero i hil
    unfold pk_PowerTurns_b2
    simp only [idx_nat, ha.at? hil, Option.bind_some, ok_bindF, ok_ite, ok_some, flok_nx, flok_rt, beq_iff_eq, bne_iff_ne, decide_eq_true_eq]
    have inner : Ok (rangeL (γ := Unit) (pk_PowerTurns_b3 (nth w i) (a, 0) i) w 0 ()) (FlOk (ρ := Bool) (fun s => True) (fun b => False) (fun r => r = true)) := by
      refine ok_rangeL (fun _ _ => True) trivial (fun k x s hk _ => ?_) fun s _ => trivial
      obtain ⟨hx, hkl⟩ := nth_of hk
      subst hx
      have := turn_more hw hil hkl
      unfold pk_PowerTurns_b3
      simp only [idx_nat, ha.at? hil, ha.at? hkl, Option.bind_some, ok_bindF, ok_ite, ok_some, flok_nx, flok_rt, decide_eq_true_eq]
      grind
    refine ⟨fun h0 => ⟨fun hne => absurd (z h0) hne, fun _ => ⟨fun hlt => by omega, fun _ => ?_⟩⟩, fun h0 => ⟨fun hlt => by omega, fun _ => ?_⟩⟩
    · exact inner.mono fun v hv => by cases v with | nx _ => trivial | br _ => exact hv.elim | rt _ => exact hv
    · exact inner.mono fun v hv => by cases v with | nx _ => trivial | br _ => exact hv.elim | rt _ => exact hv
end Go.Pu
