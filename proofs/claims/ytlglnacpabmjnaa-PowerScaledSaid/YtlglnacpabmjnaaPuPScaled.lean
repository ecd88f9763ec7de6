/- The plain law: all so many times as heavy is the same vote, and a player who weighs nothing changes nothing. -/
import Derived.Test.YtlglnacpabmjnaaWPowerScaledModels
import Derived.Test.YtlglnacpabmjnaaPuPow
import Derived.Test.YtlglnacpabmjnaaPuEq
import Derived.Test.YtlglnacpabmjnaaPuGood
import Derived.Test.YtlglnacpabmjnaaPuReverse
set_option linter.all false
namespace Go.Pu
open Go.Fw Go.Mo
theorem weightsOf_small (x0 : List Int) (x1 : Int) : ∃ w q, pk_WeightsOf_m x0 x1 = some (w, q) ∧ Vote w q ∧ ∀ k, k < w.length → nth w k ≤ 20 := by
  obtain ⟨w, q, e, h⟩ := weightsOf_ok x0 x1
  refine ⟨w, q, e, h, ?_⟩
  have : Ok (pk_WeightsOf_m x0 x1) (fun r => ∀ k, k < r.1.length → nth r.1 k ≤ 20) := by
    unfold pk_WeightsOf_m at e ⊢
    have e' : (if (5 : Int) < (x0.length : Int) then (5 : Int) else (x0.length : Int)) = ((min 5 x0.length : Nat) : Int) := by omega
    rw [e', List.drop_zero, Int.toNat_natCast] at e ⊢
    rw [chk_t (by omega), Option.bind_some] at e ⊢
    have key : Ok (rangeL (ρ := List Int × Int) (γ := Unit) pk_WeightsOf_b1 (x0.take (min 5 x0.length)) 0 [(1 : Int)]) (FlOk (fun p => ∀ k, k < p.length → nth p k ≤ 20) (fun _ => False) (fun _ => False)) := by
      refine ok_rangeL (fun (k : Nat) (p : List Int) => p.length = k + 1 ∧ ∀ k, k < p.length → nth p k ≤ 20) ⟨rfl, fun k hk => ?_⟩ (fun k x p hk hI => ?_) fun p hp => hp.2
      · have : k = 0 := by simp at hk; omega
        subst this; decide
      · obtain ⟨i1, i3⟩ := hI
        have hk' := (List.getElem?_eq_some_iff.1 hk).1
        rw [List.length_take] at hk'
        have a1 := Int.emod_lt_of_pos x (b := 20) (by decide)
        unfold pk_WeightsOf_b1
        rw [within_at x 20 (by decide) (by decide)]
        simp only [ok_bind, ok_chk, ok_some, flok_nx]
        refine ⟨by simp; omega, by simp [i1], fun j hj => ?_⟩
        rw [nth_append]
        split
        · exact i3 j (by assumption)
        · have : j - p.length = 0 := by simp at hj; omega
          rw [this, nth_cons_zero]; omega
    obtain ⟨y, ey, hy⟩ := key
    rw [ey] at e ⊢
    match y, hy with
    | .nx p, hy =>
      simp only [bindR] at e ⊢
      obtain ⟨s, es, ek⟩ := Option.bind_eq_some_iff.1 e
      obtain ⟨z, ez, ek⟩ := Option.bind_eq_some_iff.1 ek
      rw [es, Option.bind_some, ez, Option.bind_some, ok_some]
      exact hy
  obtain ⟨r, e2, h2⟩ := this
  rw [e] at e2
  cases e2
  exact h2
theorem sum_nth (l : List Int) : l.sum = sumN l.length (nth l) := by
  induction l with
  | nil => rfl
  | cons x l ih =>
    have : ∀ (n : Nat) (f : Nat → Int), sumN (n + 1) f = f 0 + sumN n (fun i => f (i + 1)) := fun n f => by
      induction n with
      | zero => simp [sumN]
      | succ n ih => rw [sumN, ih]; simp only [sumN]; omega
    rw [List.sum_cons, List.length_cons, this, ih]; rfl
theorem wt_scale {w : List Int} {c : Int} (s : Nat) : ∀ k, k ≤ w.length → wt (w.map (· * c)) k s = c * wt w k s := by
  intro k hk
  unfold wt
  rw [← sumN_mul]
  refine sumN_congr fun i hi => ?_
  rw [nth_map (by omega)]
  split
  · exact Int.mul_comm _ _
  · simp
theorem le_scale {a b c : Int} (hc : 0 < c) : a * c ≤ c * b ↔ a ≤ b := by
  rw [Int.mul_comm]
  exact ⟨fun h => Int.le_of_mul_le_mul_left h hc, fun h => Int.mul_le_mul_of_nonneg_left h (by omega)⟩
theorem scaled_vote {w : List Int} {q c : Int} (h : Vote w q) (hs : ∀ k, k < w.length → nth w k ≤ 20) (hc : 1 ≤ c) (hc2 : c ≤ 40) : Vote (w.map (· * c)) (q * c) := by
  refine ⟨by rw [List.length_map]; exact h.n1, by rw [List.length_map]; exact h.n6, fun k hk => ?_, ?_, ?_⟩
  · rw [List.length_map] at hk
    rw [nth_map hk]
    have h1 := h.val k hk
    have h2 := hs k hk
    refine ⟨Int.mul_nonneg h1.1 (by omega), ?_⟩
    have : nth w k * c ≤ 20 * 40 := Int.mul_le_mul h2 hc2 (by omega) (by omega)
    omega
  · have := Int.mul_le_mul h.q1 hc (by omega) (by have := h.q1; omega)
    omega
  · have e : (w.map (· * c)).sum = c * w.sum := by
      rw [sum_nth, sum_nth, List.length_map, ← sumN_mul]
      exact sumN_congr fun i hi => by rw [nth_map hi, Int.mul_comm]
    rw [e, le_scale (by omega)]; exact h.qs
theorem has_top : ∀ n : Nat, n < 6 → ∀ s : Nat, s < 2 ^ n → has s n = false ∧ s + 2 ^ n < 2 ^ (n + 1) ∧ s < 64 := by decide +kernel
theorem scaled_loop {w : List Int} {c : Int} {r : Int} (y : List Int × Int) (hy : y.1 = w) (hr : wadd (1 : Int) r = c) (h6 : w.length ≤ 6) (hb : ∀ k, k < w.length → 0 ≤ nth w k ∧ nth w k ≤ 20) (hc : 1 ≤ c) (hc2 : c ≤ 40) :
    rangeN (ρ := Bool) (γ := Unit) (pk_PowerScaled_b1 y r) w.length 0 ([] : List Int) = some (.nx (w.map (· * c))) := by
  have : Ok (rangeN (ρ := Bool) (γ := Unit) (pk_PowerScaled_b1 y r) w.length 0 ([] : List Int)) (FlOk (fun l => l = w.map (· * c)) (fun _ => False) (fun _ => False)) := by
    refine ok_rangeN (fun k (l : List Int) => l = (w.take k).map (· * c)) rfl (fun k l hk hl => ?_) fun l hl => by rw [hl, List.take_length]
    have h1 := hb k hk
    have hp : nth w k * c ≤ 20 * 40 := Int.mul_le_mul h1.2 hc2 (by omega) (by omega)
    have hp0 : 0 ≤ nth w k * c := Int.mul_nonneg h1.1 (by omega)
    have ll : l.length ≤ 6 := by rw [hl, List.length_map, List.length_take]; omega
    unfold pk_PowerScaled_b1
    rw [hy, hr, idx_nat, nth_at hk, Option.bind_some, chk_t (by simp; omega), Option.bind_some, ok_some, flok_nx, wmul_of (by omega) (by omega), hl]
    have et : w.take (k + 1) = w.take k ++ [nth w k] := by rw [List.take_succ, nth_at hk]; rfl
    rw [et, List.map_append]; rfl
  obtain ⟨f, e, hf⟩ := this
  match f, hf with
  | .nx l, hf =>
    have hf' : l = w.map (· * c) := hf
    rw [e, hf']
theorem PowerScaled (x0 : List Int) (_ : (∀ x ∈ x0, (Lit.int .i64 x).wf = true) ∧ x0.length ≤ maxLen) (x1 : Int) (_ : (Lit.int .i64 x1).wf = true) (x2 : Int) (_ : (Lit.int .i64 x2).wf = true) (x3 : Int) (_ : (Lit.int .i64 x3).wf = true) : pk_PowerScaled_m x0 x1 x2 x3 = some true := by
  obtain ⟨w, q, ew, hV, hs⟩ := weightsOf_small x0 x1
  obtain ⟨c, c1, c40, hc⟩ := one_within x2 40 (by decide) (by decide)
  rw [show ((40 : Nat) : Int) = 40 from rfl] at hc
  have hV2 := scaled_vote (c := (c : Int)) hV hs (by omega) (by omega)
  have h1 := hV.n1; have h6 := hV.n6
  have hp := pow_le w.length (by omega); have hp0 := pow_pos' w.length
  obtain ⟨a, ea, hA⟩ := swings_ok hV
  obtain ⟨b, eb, hB⟩ := swings_ok hV2
  have hlen : (w.map (· * (c : Int))).length = w.length := List.length_map ..
  have hdec : ∀ s, (q * (c : Int) ≤ wt (w.map (· * (c : Int))) (w.map (· * (c : Int))).length s) ↔ q ≤ wt w w.length s := fun s => by
    rw [hlen, wt_scale s _ (Nat.le_refl _), le_scale (by omega)]
  have hwin : win (w.map (· * (c : Int))) (q * (c : Int)) = win w q := by
    funext s; unfold win; simp only [hdec]
  rw [hwin, hlen] at hB
  have hab : a = b := hA.ext hB
  have hqb : wmul q (c : Int) = q * c := by
    have hq := hV.qs
    have hb := wsum_bound hV.val w.length (Nat.le_refl _)
    rw [List.take_length] at hb
    have hq1 := hV.q1
    have : q * (c : Int) ≤ 6000 * 40 := Int.mul_le_mul (by omega) (by omega) (by omega) (by omega)
    have h0 : 0 ≤ q * (c : Int) := Int.mul_nonneg (by omega) (by omega)
    exact wmul_of (by omega) (by omega)
  obtain ⟨s, hs2, es⟩ : ∃ s : Nat, s < 2 ^ w.length ∧ x3 % ((2 ^ w.length : Nat) : Int) = s := ⟨(x3 % ((2 ^ w.length : Nat) : Int)).toNat, by have := Int.emod_lt_of_pos x3 (show (0 : Int) < ((2 ^ w.length : Nat) : Int) by omega); omega, by have := Int.emod_nonneg x3 (show ((2 ^ w.length : Nat) : Int) ≠ 0 by omega); omega⟩
  have w1 := winsP_ok hV hs2
  have w2 := winsP_ok hV2 (s := s) (by rw [hlen]; exact hs2)
  simp only [hdec] at w2
  have g4 : pk_good_m [0, 0, 0, 0] = some true := by rw [good_at]; rfl
  have hloop := scaled_loop (w, q) rfl hc h6 (fun k hk => ⟨(hV.val k hk).1, hs k hk⟩) (show (1 : Int) ≤ c by omega) (show (c : Int) ≤ 40 by omega)
  unfold pk_PowerScaled_m
  rw [powers_t, Option.bind_some, if_neg (by decide), ew, Option.bind_some, within_at x2 40 (by decide) (by decide), Option.bind_some]
  simp only [hloop, bindR]
  rw [hc, ea, Option.bind_some, hqb, eb, Option.bind_some, chk_t (by omega), Option.bind_some, pow_ok w.length (by omega), within_at x3 _ (by omega) (by omega), Option.bind_some, es, w1, Option.bind_some, w2, Option.bind_some]
  simp only [g4, Option.bind_some, Bool.not_true, Bool.false_eq_true, if_false, equal_ok, hab, decide_true, beq_self_eq_true]
  by_cases h66 : w.length = 6
  · rw [if_pos (by rw [h66]; rfl)]
  · rw [if_neg (by rw [beq_iff_eq]; omega), clone_ok w (by omega), Option.bind_some, chk_t (by simp; omega), Option.bind_some]
    obtain ⟨t1, t2, t3⟩ := has_top w.length (by omega) s hs2
    have hor := or_ok s t3 w.length (by omega) t1
    rw [pow_ok w.length (by omega)] at hor
    have hV3 : Vote (w ++ [0]) q := by
      refine ⟨by simp, by simp; omega, fun k hk => ?_, hV.q1, by simpa using hV.qs⟩
      rw [nth_append]
      split
      · rename_i h; exact hV.val k h
      · have : k - w.length = 0 := by simp at hk; omega
        rw [this, nth_cons_zero]; decide
    have w3 := winsP_ok hV3 (s := s + 2 ^ w.length) (by simpa using t2)
    have hwt : wt (w ++ [0]) (w ++ [0]).length (s + 2 ^ w.length) = wt w w.length s := by
      rw [show (w ++ [(0 : Int)]).length = w.length + 1 by simp]
      unfold wt
      simp only [sumN]
      have e0 : nth (w ++ [(0 : Int)]) w.length = 0 := by rw [nth_append, if_neg (by omega), Nat.sub_self, nth_cons_zero]
      rw [e0, ite_self, Int.add_zero]
      refine sumN_congr fun i hi => ?_
      have hh := with_has s t3 w.length (by omega) t1 i (by omega)
      rw [hh, nth_append, if_pos hi, show (i == w.length) = false by rw [beq_eq_false_iff_ne]; omega, Bool.or_false]
    rw [hwt] at w3
    rw [hor, w3, Option.bind_some]
    simp
end Go.Pu
