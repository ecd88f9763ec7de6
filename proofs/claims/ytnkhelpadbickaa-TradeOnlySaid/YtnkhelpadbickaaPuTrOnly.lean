/- The plain law: what does not hold is done better by some; who all have what they like best hold. -/
import Derived.Test.YtnkhelpadbickaaWTradeOnlyModels
import Derived.Test.YtnkhelpadbickaaPuHolds
set_option linter.all false
namespace Go.Pu
open Go.Fw Go.Mo
theorem two_holds : trade_Holds_m ([([(1 : Int), (0 : Int)] : (List Int)), ([(0 : Int), (1 : Int)] : (List Int))] : (List (List Int))) ([(0 : Int), (1 : Int)] : (List Int)) = some (false, 0) ∨ trade_Holds_m ([([(1 : Int), (0 : Int)] : (List Int)), ([(0 : Int), (1 : Int)] : (List Int))] : (List (List Int))) ([(0 : Int), (1 : Int)] : (List Int)) = some (true, 0) := by decide +kernel
theorem TradeOnly (x0 : Int) (_ : (Lit.int .i64 x0).wf = true) (x1 : List (List Int)) (_ : (∀ r ∈ x1, (∀ x ∈ r, (Lit.int .i64 x).wf = true) ∧ r.length ≤ maxLen) ∧ x1.length ≤ maxLen) (x2 : List Int) (_ : (∀ x ∈ x2, (Lit.int .i64 x).wf = true) ∧ x2.length ≤ maxLen) : pk_TradeOnly_m x0 x1 x2 = some true := by
  obtain ⟨n, n1, n6, hn⟩ := one_within x0 6 (by decide) (by decide)
  rw [show ((6 : Nat) : Int) = 6 from rfl] at hn
  obtain ⟨l, el, hl⟩ := likesOf_ok n1 n6 x1
  obtain ⟨g, eg, hg⟩ := orderOf_ok n x2 n1 (by omega)
  have hll := hl.len
  have hgl := hg.len
  have hgv : ∀ i, i < n → nth g i = ((nth g i).toNat : Int) := fun i hi => by have := hg.val hi; omega
  have hgn : ∀ i, i < n → (nth g i).toNat < n := fun i hi => by have := hg.val hi; omega
  obtain ⟨b, eb, hb⟩ := holds_trade hl hg hgv
  have e0 : trade_Holds_m ([([(1 : Int), (0 : Int)] : (List Int)), ([(0 : Int), (1 : Int)] : (List Int))] : (List (List Int))) ([(0 : Int), (1 : Int)] : (List Int)) = some (false, 0) := by decide +kernel
  apply Ok.eq
  unfold pk_TradeOnly_m
  rw [e0, Option.bind_some]
  dsimp only
  rw [if_neg (by decide), if_neg (by decide), trades_t, Option.bind_some, ok_bindR, ok_some, flok_nx, if_neg (by decide), within_at x0 6 (by decide) (by decide), Option.bind_some, hn, el, Option.bind_some, eg, Option.bind_some, eb, Option.bind_some]
  dsimp only
  rw [if_neg (by decide), ok_bindR]
  have idxl : ∀ i : Nat, i < n → idx l (i : Int) = some (nth l i) := fun i hi => by rw [idx_nat, nth_at (by omega)]
  refine ok_rangeN (fun k (s : Bool × Bool) => (s.1 = true → ∀ i, i < k → rk l i (nth g i).toNat = 0) ∧ (s.2 = true ↔ ∀ i, i < k → rk l i (nth g i).toNat ≤ rk l i i)) ⟨fun _ i hi => by omega, ⟨fun _ i hi => by omega, fun _ => rfl⟩⟩ (fun k s hk hI => ?_) fun s hs => ?_
  · have hkn : k < n := by omega
    obtain ⟨s1, s2⟩ := s
    obtain ⟨h1, h2⟩ := hI
    dsimp only at h1 h2
    have hop := hl.ord k hkn
    unfold pk_TradeOnly_b1
    dsimp only
    rw [idx_nat, nth_at hk, Option.bind_some, ok_bindF, idxl k hkn]
    have snd : ∀ c : Bool, (c = true → ∀ i, i < k + 1 → rk l i (nth g i).toNat = 0) → Ok (bindF (ρ := Bool) (β := Bool × Bool) (σ := Bool) (if s2 then (some (nth l k)).bind fun y219 => (slices_Index_int_int_m y219 (nth g k)).bind fun y222 => (some (nth l k)).bind fun y224 => (slices_Index_int_int_m y224 (k : Int)).bind fun y227 => some (.nx (decide (y222 ≤ y227))) else some (.nx false)) fun x210 => some (.nx (c, x210))) (FlOk (fun (s : Bool × Bool) => (s.1 = true → ∀ i, i < k + 1 → rk l i (nth g i).toNat = 0) ∧ (s.2 = true ↔ ∀ i, i < k + 1 → rk l i (nth g i).toNat ≤ rk l i i)) (fun _ => False) (fun _ => False)) := fun c hc => by
      rw [ok_bindF]
      by_cases hs2 : s2 = true
      · rw [if_pos hs2, Option.bind_some, hgv k hkn, hl.index hkn (hgn k hkn), Option.bind_some, Option.bind_some, hl.index hkn hkn, Option.bind_some, ok_some, flok_nx, ok_some, flok_nx]
        refine ⟨hc, ?_⟩
        dsimp only
        rw [decide_eq_true_eq]
        have h3 := h2.1 hs2
        constructor
        · intro hle i hi
          by_cases e : i = k
          · subst e; omega
          · exact h3 i (by omega)
        · intro h; have := h k (by omega); omega
      · rw [if_neg hs2, ok_some, flok_nx, ok_some, flok_nx]
        refine ⟨hc, ?_⟩
        dsimp only
        exact Iff.intro (fun h => by cases h) fun h => absurd (h2.2 fun i hi => h i (by omega)) hs2
    by_cases hs1 : s1 = true
    · have hl0 : (nth l k)[0]? = some (nth (nth l k) 0) := nth_at (by rw [hop.len]; omega)
      rw [if_pos hs1, Option.bind_some, show (0 : Int) = ((0 : Nat) : Int) from rfl, idx_nat, hl0, Option.bind_some, ok_some, flok_nx]
      refine (snd _ fun hc i hi => ?_).fl (fun _ h => h) (fun _ h => h.elim) (fun _ h => h.elim)
      rw [beq_iff_eq] at hc
      by_cases e : i = k
      · subst e
        unfold rk
        rw [← hgv i hkn, ← hc, hop.idx (by omega)]
      · exact h1 hs1 i (by omega)
    · rw [if_neg hs1, ok_some, flok_nx]
      exact (snd false fun h => by cases h).fl (fun _ h => h) (fun _ h => h.elim) (fun _ h => h.elim)
  · obtain ⟨s1, s2⟩ := s
    rw [hgl] at hs
    obtain ⟨h1, h2⟩ := hs
    dsimp only at h1 h2 ⊢
    -- who all have the best hold
    have c1 : s1 = true → b = true := fun h => hb.2 (holds_of n6 (fun _ => 0) fun i x hi hx _ => by rw [h1 h i hi]; exact Nat.zero_le _)
    -- who has worse than his own is better off alone
    have c2 : b = true → s2 = true := fun h => by
      rw [h2]
      intro i hi
      by_cases hle : rk l i (nth g i).toNat ≤ rk l i i
      · exact hle
      · have h3 := hb.1 h (2 ^ i) Nat.one_le_two_pow (Nat.pow_lt_pow_right (by decide) hi)
        rw [bet_one n6 hi (by simp; omega) n 0 0 (by omega) (fun _ => by unfold has; simp)] at h3
        cases h3
    rw [ok_bindR]
    clear hb h1 h2 eb
    cases s1 <;> cases s2 <;> cases b <;> first | exact ⟨_, rfl, true, rfl, rfl⟩ | exact absurd (c1 rfl) (by decide) | exact absurd (c2 rfl) (by decide)
end Go.Pu
