/- Who turns how many rows. -/
import Derived.Test.YtlglnacpabmjnaaWPowerTurnsModels
import Derived.Test.YtlglnacpabmjnaaPuPow
set_option linter.all false
namespace Go.Pu
open Go.Fw Go.Mo
theorem pfact_ok : ∀ k : Nat, k < 7 → power_factorial_m (k : Int) = some (fct k) := by decide +kernel
theorem turn_bound : ∀ n : Nat, n < 7 → ∀ s : Nat, s < 2 ^ n → 0 ≤ fct (pc s - 1) * fct (n - pc s) ∧ fct (pc s - 1) * fct (n - pc s) ≤ 720 ∧ 0 ≤ fct (pc s - 1) ∧ fct (pc s - 1) ≤ 720 ∧ 0 ≤ fct (n - pc s) ∧ fct (n - pc s) ≤ 720 := by decide +kernel
theorem pc_pos : ∀ s : Nat, s < 64 → ∀ i : Nat, i < 6 → has s i = true → 1 ≤ pc s := by decide +kernel
def cnt (k s : Nat) : Int := sumN k (fun i => if has s i then 1 else 0)
theorem cnt_pc : ∀ n : Nat, n < 7 → ∀ s : Nat, s < 2 ^ n → cnt n s = (pc s : Int) := by decide +kernel
theorem cnt_bound (s k : Nat) : 0 ≤ cnt k s ∧ cnt k s ≤ k := by
  induction k with
  | zero => simp [cnt, sumN]
  | succ k ih =>
    have e : cnt (k + 1) s = cnt k s + (if has s k then 1 else 0) := rfl
    rw [e]; split <;> omega
theorem turns_ok {w : List Int} {q : Int} (h : Vote w q) : ∃ a, power_Turns_m w q = some (a, 0) ∧ Vec w.length a (fun i => LC.ev (turnLC w.length i) (win w q)) := by
  have : Ok (power_Turns_m w q) (fun r => r.2 = 0 ∧ Vec w.length r.1 (fun i => LC.ev (turnLC w.length i) (win w q))) := by
    have h1 := h.n1; have h6 := h.n6; have hp := pow_le w.length (by omega); have hp0 := pow_pos' w.length
    unfold power_Turns_m
    rw [power_check h, pow_ok w.length (by omega)]
    simp only [ok_bindR, ok_ite, ok_some, ok_bind, ok_chk, Int.toNat_natCast, bne_self_eq_false, Bool.false_eq_true, false_implies, true_and, not_false_eq_true, true_implies]
    refine ⟨by omega, by omega, by omega, ok_rangeN (fun s a => Vec w.length a (fun i => sumN s (fun t => LC.ev (turn w.length i t) (win w q)))) (Vec.zero.congr fun x _ => rfl) (fun s a hs hI => ?_) fun a ha => ha.congr fun i hi => by unfold turnLC; rw [LC.ev_all]⟩
    have hs64 : s < 64 := by omega
    have tb := turn_bound w.length (by omega) s hs
    have bound : ∀ i, i < w.length → ∀ k : Nat, k ≤ 2 ^ w.length → 0 ≤ sumN k (fun t => LC.ev (turn w.length i t) (win w q)) ∧ sumN k (fun t => LC.ev (turn w.length i t) (win w q)) ≤ 720 * k := by
      intro i hi k
      induction k with
      | zero => simp [sumN]
      | succ k ih => intro hk; have := ih (by omega); have := turn_bound w.length (by omega) k (by omega); simp only [sumN]; rw [turn_ev h (show k < 64 by omega) hi]; split <;> omega
    unfold power_Turns_b1
    simp only [ok_bindF, ok_some]
    refine ok_rangeL (s := (0 : Int)) (fun (k : Nat) (c : Int) => c = cnt k s) rfl (fun i y c hi hc => ?_) fun c hc => ?_
    · obtain ⟨_, hil⟩ := nth_of hi
      have hb := bit_ok s hs64 i (by omega)
      have cb := cnt_bound s i
      unfold power_Turns_b2
      rw [hb]
      subst hc
      simp only [ok_bind, ok_chk, ok_some, flok_nx]
      have e : cnt (i + 1) s = cnt i s + (if has s i then 1 else 0) := rfl
      rw [wadd_of (by split <;> omega) (by split <;> omega)]
      exact ⟨by omega, e.symm⟩
    · rw [cnt_pc w.length (by omega) s hs] at hc
      subst hc
      simp only [flok_nx]
      have pl := pc_le w.length (by omega) s hs
      refine ok_rangeL (fun j a => Vec w.length a (fun i => sumN s (fun t => LC.ev (turn w.length i t) (win w q)) + if i < j then LC.ev (turn w.length i s) (win w q) else 0)) (hI.congr fun x _ => by simp) (fun i y a hi hI => ?_) fun a ha => ha.congr fun x hx => by simp [sumN, hx]
      obtain ⟨_, hil⟩ := nth_of hi
      have hb := bit_ok s hs64 i (by omega)
      have sb := bound i hil s (by omega)
      have ai : a[i]? = some (sumN s (fun t => LC.ev (turn w.length i t) (win w q))) := by rw [hI.at? hil, if_neg (by omega), Int.add_zero]
      have se := turn_ev (n := w.length) h hs64 hil
      have same : LC.ev (turn w.length i s) (win w q) = 0 → Vec w.length a (fun q' => sumN s (fun t => LC.ev (turn w.length q' t) (win w q)) + if q' < i + 1 then LC.ev (turn w.length q' s) (win w q) else 0) := fun h0 => hI.congr fun x hx => by
        by_cases hxi : x = i
        · subst hxi; rw [if_neg (by omega), if_pos (by omega), h0]
        · by_cases hlt : x < i
          · rw [if_pos hlt, if_pos (by omega)]
          · rw [if_neg hlt, if_neg (by omega)]
      have next : LC.ev (turn w.length i s) (win w q) = fct (pc s - 1) * fct (w.length - pc s) → Vec w.length (a.set i (wadd (sumN s (fun t => LC.ev (turn w.length i t) (win w q))) (wmul (fct (pc s - 1)) (fct (w.length - pc s))))) (fun q' => sumN s (fun t => LC.ev (turn w.length q' t) (win w q)) + if q' < i + 1 then LC.ev (turn w.length q' s) (win w q) else 0) := fun h0 => (hI.set hil _).congr fun x hx => by
        by_cases hxi : x = i
        · subst hxi; rw [if_pos rfl, if_pos (by omega), h0, wmul_of (by omega) (by omega), wadd_of (by omega) (by omega)]
        · rw [if_neg hxi]
          by_cases hlt : x < i
          · rw [if_pos hlt, if_pos (by omega)]
          · rw [if_neg hlt, if_neg (by omega)]
      unfold power_Turns_b3
      rw [hb, wins_at h hs64]
      cases hbb : has s i with
      | false =>
        rw [hbb] at se
        simp [ok_bindF, ok_bind, ok_chk, ok_ite, ok_some, flok_nx]
        exact same (by simpa using se)
      | true =>
        rw [hbb] at se
        have hs2 : s - 2 ^ i < 64 := Nat.lt_of_le_of_lt (Nat.sub_le _ _) hs64
        have pp := pc_pos s hs64 i (by omega) hbb
        have f1 : wsub (pc s : Int) 1 = ((pc s - 1 : Nat) : Int) := by rw [wsub_of (by omega) (by omega)]; omega
        have f2 : wsub (w.length : Int) (pc s : Int) = ((w.length - pc s : Nat) : Int) := by rw [wsub_of (by omega) (by omega)]; omega
        rw [andNot_ok s hs64 i (by omega) hbb, wins_at h hs2, f1, f2, pfact_ok _ (by omega), pfact_ok _ (by omega)]
        simp [ok_bindF, ok_bind, ok_chk, ok_ite, ok_some, flok_nx, idx_nat, ai]
        refine ⟨fun h1 => ⟨fun h2 => next (by rw [se]; simp [h1]; omega), fun h2 => same (by rw [se]; simp [h1]; omega)⟩, fun h1 => same (by rw [se]; simp; omega)⟩
  obtain ⟨⟨a, e⟩, h1, h2, h3⟩ := this
  simp only at h2 h3
  subst h2
  exact ⟨a, h1, h3⟩
end Go.Pu
