/- Who turns a vote: sets that win, as combinations. -/
import Derived.Test.YtlglnacpabmjnaaWPowerScaledModels
import Derived.Test.YtlglnacpabmjnaaPuLC
import Derived.Test.YtlglnacpabmjnaaPuSets
import Derived.Test.YtlglnacpabmjnaaPuSeats
set_option linter.all false
namespace Go.Pu
open Go.Fw Go.Mo
structure Vote (w : List Int) (q : Int) : Prop where
  n1 : 1 ≤ w.length
  n6 : w.length ≤ 6
  val : ∀ k, k < w.length → 0 ≤ nth w k ∧ nth w k ≤ 1000
  q1 : 1 ≤ q
  qs : q ≤ w.sum
def wt (w : List Int) (k s : Nat) : Int := sumN k (fun i => if has s i then nth w i else 0)
def win (w : List Int) (q : Int) (s : Nat) : Int := if q ≤ wt w w.length s then 1 else 0
theorem win01 (w : List Int) (q : Int) (s : Nat) : win w q s = 0 ∨ win w q s = 1 := by unfold win; split <;> simp
theorem wsum_bound {w : List Int} (h : ∀ k, k < w.length → 0 ≤ nth w k ∧ nth w k ≤ 1000) : ∀ k : Nat, k ≤ w.length → 0 ≤ (w.take k).sum ∧ (w.take k).sum ≤ 1000 * k := by
  intro k
  induction k with
  | zero => simp
  | succ k ih =>
    intro hk
    have := ih (by omega)
    have := h k (by omega)
    rw [sum_take_succ (by omega)]
    omega
theorem wt_bound {w : List Int} (h : ∀ k, k < w.length → 0 ≤ nth w k ∧ nth w k ≤ 1000) (s : Nat) : ∀ k : Nat, k ≤ w.length → 0 ≤ wt w k s ∧ wt w k s ≤ 1000 * k := by
  intro k
  induction k with
  | zero => simp [wt, sumN]
  | succ k ih =>
    intro hk
    have ih' := ih (by omega)
    have v := h k (by omega)
    have e : wt w (k + 1) s = wt w k s + (if has s k then nth w k else 0) := rfl
    rw [e]
    split <;> omega
theorem power_check {w : List Int} {q : Int} (h : Vote w q) : power_Check_m w q = some 0 := by
  apply Ok.eq
  have := h.n1; have := h.n6; have := h.q1; have := h.qs
  unfold power_Check_m
  simp only [ok_bindR, ok_ite, ok_some, flok_nx, decide_eq_true_eq]
  refine ⟨fun _ => by omega, fun _ => ⟨fun _ => by omega, fun _ => ?_⟩⟩
  refine ok_rangeL (s := (0 : Int)) (fun (k : Nat) (s : Int) => s = (w.take k).sum) (by simp) (fun k x s hk hs => ?_) fun s hs => ?_
  · obtain ⟨hx, hkl⟩ := nth_of hk
    have v := h.val k hkl
    have b := wsum_bound h.val k (by omega)
    subst hs
    unfold power_Check_b1
    simp only [ok_bindF, ok_ite, ok_some, flok_nx, flok_rt, decide_eq_true_eq]
    rw [sum_take_succ hkl, wadd_of (by omega) (by omega), hx]
    grind
  · rw [List.take_length] at hs
    subst hs
    grind
theorem wins_at {w : List Int} {q : Int} (h : Vote w q) {s : Nat} (hs : s < 64) : power_wins_m w q (s : Int) = some (decide (q ≤ wt w w.length s)) := by
  apply Ok.eq
  have h6 := h.n6
  unfold power_wins_m
  simp only [ok_bindR, ok_some]
  refine ok_rangeL (s := (0 : Int)) (fun (k : Nat) (x : Int) => x = wt w k s) rfl (fun k y x hk hx => ?_) fun x hx => by rw [hx]
  obtain ⟨hy, hkl⟩ := nth_of hk
  have hb := bit_ok s hs k (by omega)
  have b1 := wt_bound h.val s k (by omega)
  have b2 := h.val k hkl
  unfold power_wins_b1
  rw [hb]
  subst hx hy
  simp only [ok_bind, ok_chk, ok_ite, ok_some, flok_nx, beq_iff_eq]
  rw [wadd_of (by omega) (by omega)]
  refine ⟨by omega, fun hh => ?_, fun hh => ?_⟩
  · have : has s k = true := by cases hc : has s k with | true => rfl | false => rw [hc] at hh; simp at hh
    simp [wt, sumN, this]
  · have : has s k = false := by cases hc : has s k with | false => rfl | true => rw [hc] at hh; simp at hh
    simp [wt, sumN, this]
theorem andNot_ok : ∀ s : Nat, s < 64 → ∀ i : Nat, i < 6 → has s i = true → bits .andNot .i64 (s : Int) (IntKind.wrap .i64 ((1 : Int) * 2 ^ (min (i : Int).toNat (IntKind.bits .i64)))) = ((s - 2 ^ i : Nat) : Int) := by decide +kernel
theorem less_has : ∀ s : Nat, s < 64 → ∀ i : Nat, i < 6 → has s i = true → ∀ j : Nat, j < 6 → has (s - 2 ^ i) j = (has s j && j != i) := by decide +kernel
theorem wt_less {w : List Int} (h6 : w.length ≤ 6) {s i : Nat} (hs : s < 64) (hi : i < w.length) (hb : has s i = true) : wt w w.length (s - 2 ^ i) = wt w w.length s - nth w i := by
  have : wt w w.length s = wt w w.length (s - 2 ^ i) + sumN w.length (fun j => if j = i then nth w i else 0) := by
    unfold wt
    rw [← sumN_add]
    refine sumN_congr fun j hj => ?_
    rw [less_has s hs i (by omega) hb j (by omega)]
    by_cases hji : j = i
    · subst hji; simp [hb]
    · simp [hji]
  rw [sumN_single hi] at this; omega
theorem win_less {w : List Int} {q : Int} (h : Vote w q) {s i : Nat} (hs : s < 64) (hi : i < w.length) (hb : has s i = true) : win w q (s - 2 ^ i) ≤ win w q s := by
  have e := wt_less h.n6 hs hi hb
  have := (h.val i hi).1
  unfold win
  rw [e]; split <;> split <;> omega
/-- i turns s -/
theorem turn_iff {w : List Int} {q : Int} (h : Vote w q) {s i : Nat} (hs : s < 64) (hi : i < w.length) (hb : has s i = true) : win w q s - win w q (s - 2 ^ i) = if q ≤ wt w w.length s ∧ ¬ q ≤ wt w w.length (s - 2 ^ i) then 1 else 0 := by
  have e := wt_less h.n6 hs hi hb
  have := (h.val i hi).1
  unfold win
  rw [e]
  split <;> split <;> split <;> omega
def swing (i s : Nat) : LC := if has s i then [(1, s), (-1, s - 2 ^ i)] else []
def turn (n i s : Nat) : LC := if has s i then [(fct (pc s - 1) * fct (n - pc s), s), (-(fct (pc s - 1) * fct (n - pc s)), s - 2 ^ i)] else []
def swingLC (n i : Nat) : LC := LC.all (swing i) (2 ^ n)
def turnLC (n i : Nat) : LC := LC.all (turn n i) (2 ^ n)
theorem swing_ev {w : List Int} {q : Int} (h : Vote w q) {s i : Nat} (hs : s < 64) (hi : i < w.length) : LC.ev (swing i s) (win w q) = if has s i = true ∧ q ≤ wt w w.length s ∧ ¬ q ≤ wt w w.length (s - 2 ^ i) then 1 else 0 := by
  unfold swing
  cases hb : has s i with
  | true =>
    have := turn_iff h hs hi hb
    simp only [if_true, LC.ev, true_and]
    rw [← this]; omega
  | false => simp [LC.ev]
theorem turn_ev {w : List Int} {q : Int} (h : Vote w q) {n s i : Nat} (hs : s < 64) (hi : i < w.length) : LC.ev (turn n i s) (win w q) = if has s i = true ∧ q ≤ wt w w.length s ∧ ¬ q ≤ wt w w.length (s - 2 ^ i) then fct (pc s - 1) * fct (n - pc s) else 0 := by
  unfold turn
  cases hb : has s i with
  | true =>
    have := turn_iff h hs hi hb
    simp only [if_true, LC.ev, true_and]
    generalize fct (pc s - 1) * fct (n - pc s) = c at *
    have e : c * win w q s + (-c * win w q (s - 2 ^ i) + 0) = c * (win w q s - win w q (s - 2 ^ i)) := by grind
    rw [e, this]; split <;> omega
  | false => simp [LC.ev]
theorem swings_ok {w : List Int} {q : Int} (h : Vote w q) : ∃ a, power_Swings_m w q = some (a, 0) ∧ Vec w.length a (fun i => LC.ev (swingLC w.length i) (win w q)) := by
  have : Ok (power_Swings_m w q) (fun r => r.2 = 0 ∧ Vec w.length r.1 (fun i => LC.ev (swingLC w.length i) (win w q))) := by
    have h1 := h.n1; have h6 := h.n6; have hp := pow_le w.length (by omega); have hp0 := pow_pos' w.length
    unfold power_Swings_m
    rw [power_check h, pow_ok w.length (by omega)]
    simp only [ok_bindR, ok_ite, ok_some, ok_bind, ok_chk, Int.toNat_natCast, bne_self_eq_false, Bool.false_eq_true, false_implies, true_and, not_false_eq_true, true_implies]
    refine ⟨by omega, by omega, by omega, ok_rangeN (fun s a => Vec w.length a (fun i => sumN s (fun t => LC.ev (swing i t) (win w q)))) (Vec.zero.congr fun x _ => rfl) (fun s a hs hI => ?_) fun a ha => ha.congr fun i hi => by unfold swingLC; rw [LC.ev_all]⟩
    have hs64 : s < 64 := by omega
    have bound : ∀ i, i < w.length → ∀ k : Nat, k ≤ 64 → 0 ≤ sumN k (fun t => LC.ev (swing i t) (win w q)) ∧ sumN k (fun t => LC.ev (swing i t) (win w q)) ≤ k := by
      intro i hi k
      induction k with
      | zero => simp [sumN]
      | succ k ih => intro hk; have := ih (by omega); simp only [sumN]; rw [swing_ev h (show k < 64 by omega) hi]; split <;> omega
    unfold power_Swings_b1
    simp only [ok_bindF, ok_some]
    refine ok_rangeL (fun j a => Vec w.length a (fun i => sumN s (fun t => LC.ev (swing i t) (win w q)) + if i < j then LC.ev (swing i s) (win w q) else 0)) (hI.congr fun x _ => by simp) (fun i y a hi hI => ?_) fun a ha => flok_nx.2 (ha.congr fun x hx => by simp [sumN, hx])
    obtain ⟨_, hil⟩ := nth_of hi
    have hb := bit_ok s hs64 i (by omega)
    have sb := bound i hil s (by omega)
    have ai : a[i]? = some (sumN s (fun t => LC.ev (swing i t) (win w q))) := by rw [hI.at? hil, if_neg (by omega), Int.add_zero]
    have se := swing_ev h hs64 hil
    have same : LC.ev (swing i s) (win w q) = 0 → Vec w.length a (fun q' => sumN s (fun t => LC.ev (swing q' t) (win w q)) + if q' < i + 1 then LC.ev (swing q' s) (win w q) else 0) := fun h0 => hI.congr fun x hx => by
      by_cases hxi : x = i
      · subst hxi; rw [if_neg (by omega), if_pos (by omega), h0]
      · by_cases hlt : x < i
        · rw [if_pos hlt, if_pos (by omega)]
        · rw [if_neg hlt, if_neg (by omega)]
    have next : LC.ev (swing i s) (win w q) = 1 → Vec w.length (a.set i (wadd (sumN s (fun t => LC.ev (swing i t) (win w q))) 1)) (fun q' => sumN s (fun t => LC.ev (swing q' t) (win w q)) + if q' < i + 1 then LC.ev (swing q' s) (win w q) else 0) := fun h0 => (hI.set hil _).congr fun x hx => by
      by_cases hxi : x = i
      · subst hxi; rw [if_pos rfl, if_pos (by omega), h0, wadd_of (by omega) (by omega)]
      · rw [if_neg hxi]
        by_cases hlt : x < i
        · rw [if_pos hlt, if_pos (by omega)]
        · rw [if_neg hlt, if_neg (by omega)]
    unfold power_Swings_b2
    rw [hb, wins_at h hs64]
    cases hbb : has s i with
    | false =>
      rw [hbb] at se
      simp [ok_bindF, ok_bind, ok_chk, ok_ite, ok_some, flok_nx]
      exact same (by simpa using se)
    | true =>
      rw [hbb] at se
      have hs2 : s - 2 ^ i < 64 := Nat.lt_of_le_of_lt (Nat.sub_le _ _) hs64
      rw [andNot_ok s hs64 i (by omega) hbb, wins_at h hs2]
      simp [ok_bindF, ok_bind, ok_chk, ok_ite, ok_some, flok_nx, idx_nat, ai]
      refine ⟨fun h1 => ⟨fun h2 => next (by rw [se]; simp [h1]; omega), fun h2 => same (by rw [se]; simp [h1]; omega)⟩, fun h1 => same (by rw [se]; simp; omega)⟩
  obtain ⟨⟨a, e⟩, h1, h2, h3⟩ := this
  simp only at h2 h3
  subst h2
  exact ⟨a, h1, h3⟩
end Go.Pu
