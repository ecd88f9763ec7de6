/- The plain law: without whom nothing wins turns each set that wins, and nobody turns more. -/
import Derived.Test.YtlglnacpabmjnaaWPowerVetoModels
import Derived.Test.YtlglnacpabmjnaaPuPow
set_option linter.all false
namespace Go.Pu
open Go.Fw Go.Mo
def outLC (n i : Nat) : LC := LC.all (fun s => if has s i then [] else [(1, s)]) (2 ^ n)
def oneLC (n : Nat) : LC := LC.all (fun s => [(1, s)]) (2 ^ n)
/-- all that win, less the swings: twice those that win without him -/
theorem veto_lc : ∀ n : Nat, n < 7 → ∀ i : Nat, i < n → LC.same (2 ^ n) (oneLC n ++ LC.neg (swingLC n i)) (outLC n i ++ outLC n i) = true := by decide +kernel
theorem full_has : ∀ n : Nat, n < 7 → ∀ i : Nat, i < n → has (2 ^ n - 1) i = true := by decide +kernel
theorem wt_full {w : List Int} (h6 : w.length ≤ 6) : wt w w.length (2 ^ w.length - 1) = w.sum := by
  have : ∀ k, k ≤ w.length → (w.take k).sum = sumN k (nth w) := by
    intro k
    induction k with
    | zero => intro _; simp [sumN]
    | succ k ih => intro hk; rw [sum_take_succ (by omega), ih (by omega)]; rfl
  have e := this w.length (Nat.le_refl _)
  rw [List.take_length] at e
  rw [e]
  exact sumN_congr fun i hi => by rw [full_has w.length (by omega) i hi]; rfl
theorem PowerVeto (x0 : List Int) (_ : (∀ x ∈ x0, (Lit.int .i64 x).wf = true) ∧ x0.length ≤ maxLen) (x1 : Int) (_ : (Lit.int .i64 x1).wf = true) : pk_PowerVeto_m x0 x1 = some true := by
  obtain ⟨w, q, ew, hw⟩ := weightsOf_ok x0 x1
  obtain ⟨a, ea, ha⟩ := swings_ok hw
  have h1 := hw.n1; have h6 := hw.n6; have hp := pow_le w.length (by omega); have hp0 := pow_pos' w.length
  apply Ok.eq
  unfold pk_PowerVeto_m
  rw [powers_t]
  simp only [Option.bind_some, Bool.not_true, Bool.false_eq_true, if_false, ew, ea, ok_bindR, ok_ite, ok_some, flok_nx, ha.len, bne_self_eq_false, false_implies, true_and, not_false_eq_true, true_implies]
  rw [pow_ok w.length (by omega)]
  simp only [ok_bind, ok_chk, Int.toNat_natCast, ok_bindR, ok_some]
  refine ⟨by omega, by omega, ok_rangeN (s := (0 : Int)) (fun (s : Nat) (d : Int) => 0 ≤ d ∧ d ≤ s ∧ d = sumN s (fun t => LC.ev [(1, t)] (win w q))) ⟨by simp, by simp, rfl⟩ (fun s d hs hI => ?_) fun d hI => ?_⟩
  · obtain ⟨i3, i4, i6⟩ := hI
    have wd := win_dec w q s
    have st : sumN (s + 1) (fun t => LC.ev [(1, t)] (win w q)) = d + win w q s := by
      rw [show sumN (s + 1) (fun t => LC.ev [(1, t)] (win w q)) = sumN s (fun t => LC.ev [(1, t)] (win w q)) + LC.ev [(1, s)] (win w q) from rfl, ← i6]
      simp [LC.ev]
    unfold pk_PowerVeto_b1
    rw [winsP_ok hw hs]
    simp only [Option.bind_some, ok_ite, ok_some, flok_nx, bne_self_eq_false, Bool.false_eq_true, false_implies, true_and, not_false_eq_true, true_implies, st]
    refine ⟨fun hwin => ?_, fun hno => ?_⟩
    · rw [wd.1.1 hwin, wadd_of (by omega) (by omega)]; omega
    · rw [wd.2.1 (by simpa using hno)]; omega
  · obtain ⟨i3, i4, i6⟩ := hI
    have hfull : win w q (2 ^ w.length - 1) = 1 := by unfold win; rw [wt_full h6, if_pos hw.qs]
    have dpos : 0 < d := by
      have key : ∀ x, x < 2 ^ w.length → (if x = 2 ^ w.length - 1 then 1 else 0) ≤ LC.ev [(1, x)] (win w q) := fun x hx => by
        have := win01 w q x
        by_cases hxe : x = 2 ^ w.length - 1
        · subst hxe; rw [if_pos rfl]; simp [LC.ev, hfull]
        · rw [if_neg hxe]; simp only [LC.ev]; omega
      have := sumN_le key
      rw [sumN_single (by omega)] at this; omega
    refine ok_rangeL (fun _ _ => True) trivial (fun i x s hi _ => ?_) fun s _ => by simp [ok_some, flok_nx, dpos]
    obtain ⟨hx, hil⟩ := nth_of hi
    subst hx
    have hv := hw.val i hil
    have hsum := wsum_bound hw.val w.length (Nat.le_refl _)
    rw [List.take_length] at hsum
    -- all less his: twice what wins without him
    have e1 : d - LC.ev (swingLC w.length i) (win w q) = 2 * LC.ev (outLC w.length i) (win w q) := by
      have := LC.same_ev (veto_lc w.length (by omega) i hil) (win w q)
      rw [LC.ev_append, LC.ev_append, LC.ev_neg] at this
      have e2 : LC.ev (oneLC w.length) (win w q) = d := by unfold oneLC; rw [LC.ev_all, i6]
      omega
    have out_nn : ∀ t, 0 ≤ LC.ev (if has t i then [] else [(1, t)]) (win w q) := fun t => by
      have := win01 w q t
      split <;> simp [LC.ev]; omega
    have out0 : 0 ≤ LC.ev (outLC w.length i) (win w q) := by
      unfold outLC; rw [LC.ev_all]
      have := sumN_le (n := 2 ^ w.length) (f := fun _ => 0) fun t _ => out_nn t
      rwa [sumN_zero] at this
    have hfi := full_has w.length (by omega) i hil
    have wl := wt_less h6 (show 2 ^ w.length - 1 < 64 by omega) hil hfi
    rw [wt_full h6] at wl
    have iff0 : LC.ev (outLC w.length i) (win w q) = 0 ↔ w.sum - nth w i < q := by
      constructor
      · intro h0
        refine Classical.byContradiction fun hn => ?_
        have hlt : 2 ^ w.length - 1 - 2 ^ i < 2 ^ w.length := Nat.lt_of_le_of_lt (Nat.sub_le _ _) (by omega)
        have hno : has (2 ^ w.length - 1 - 2 ^ i) i = false := by rw [less_has _ (show 2 ^ w.length - 1 < 64 by omega) i (by omega) hfi i (by omega)]; simp
        have hone : win w q (2 ^ w.length - 1 - 2 ^ i) = 1 := by unfold win; rw [wl, if_pos (by omega)]
        have key : ∀ x, x < 2 ^ w.length → (if x = 2 ^ w.length - 1 - 2 ^ i then 1 else 0) ≤ LC.ev (if has x i then [] else [(1, x)]) (win w q) := fun x hx => by
          by_cases hxe : x = 2 ^ w.length - 1 - 2 ^ i
          · subst hxe; rw [if_pos rfl, hno]; simp [LC.ev, hone]
          · rw [if_neg hxe]; exact out_nn x
        have := sumN_le key
        rw [sumN_single hlt] at this
        unfold outLC at h0; rw [LC.ev_all] at h0
        omega
      · intro hlt
        unfold outLC; rw [LC.ev_all]
        rw [sumN_congr (g := fun _ => 0) (fun t ht => ?_), sumN_zero]
        cases hb : has t i with
        | true => rfl
        | false =>
          have hz : win w q t = 0 := by
            unfold win
            refine if_neg fun hq => ?_
            have hle : wt w w.length t ≤ wt w w.length (2 ^ w.length - 1 - 2 ^ i) := sumN_le fun j hj => by
              have hvj := (hw.val j hj).1
              rw [less_has _ (show 2 ^ w.length - 1 < 64 by omega) i (by omega) hfi j (by omega), full_has w.length (by omega) j hj]
              by_cases hji : j = i
              · subst hji; simp [hb]
              · simp [hji]; split <;> omega
            omega
          simp [LC.ev, hz]
    unfold pk_PowerVeto_b2
    simp only [idx_nat, ha.at? hil, Option.bind_some, ok_bindF, ok_bind, ok_ite, ok_some, flok_nx, flok_rt, decide_eq_true_eq, wsum_ok hw.val h6]
    rw [wsub_of (by omega) (by omega)]
    refine ⟨fun hgt => by omega, fun _ => ⟨fun hne => ?_, fun _ => trivial⟩⟩
    exfalso
    have : ((LC.ev (swingLC w.length i) (win w q) == d) = (decide (w.sum - nth w i < q))) := by
      rw [Bool.eq_iff_iff, beq_iff_eq, decide_eq_true_eq, ← iff0]; omega
    rw [this] at hne
    simp at hne
end Go.Pu
