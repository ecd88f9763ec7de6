/- The plain law: a winner who is raised by some has won still, and nobody new has. -/
import Derived.Test.YtpnibpjhiofplaaWRulesRaiseModels
import Derived.Test.YtpnibpjhiofplaaPuMono
set_option linter.all false
namespace Go.Pu
open Go.Fw Go.Mo
theorem am_all {g : Nat → Int} {n : Nat} (h : ∀ i j, i < n → j < n → g i = g j) : (am g n).length = n := by
  have : am g n = List.range n := by
    unfold am
    refine List.filter_eq_self.2 fun i hi => ?_
    rw [decide_eq_true_eq]
    intro j hj
    rw [h j i hj (List.mem_range.1 hi)]; exact Int.le_refl _
  rw [this, List.length_range]
theorem val_nil {k : Int} {n : Nat} {g : Nat → Int} (hg : Val k n [] g) : ∀ i, i < n → g i = 0 := by
  intro i hi
  rcases hg with ⟨e, hg⟩ | ⟨e, hg⟩ | ⟨e, hg⟩ | ⟨e, hg⟩
  · rw [hg]; rfl
  · rw [hg]; rfl
  · rw [hg]
    unfold cope
    have : ∀ y, sgn (duel [] i y) (duel [] y i) = 0 := fun y => rfl
    rw [sumN_congr (g := fun _ => 0) fun y _ => this y, sumN_zero]
  · obtain ⟨a1, a2, a3, a4⟩ := hg i hi
    rcases a4 with a4 | ⟨y, hy, a4⟩
    · omega
    · simp only [duel] at a4; omega
theorem RulesRaise (x0 : Int) (_ : (Lit.int .i64 x0).wf = true) (x1 : Int) (_ : (Lit.int .i64 x1).wf = true) (x2 : List (List Int)) (_ : (∀ r ∈ x2, (∀ x ∈ r, (Lit.int .i64 x).wf = true) ∧ r.length ≤ maxLen) ∧ x2.length ≤ maxLen) (x3 : Int) (_ : (Lit.int .i64 x3).wf = true) : pk_RulesRaise_m x0 x1 x2 x3 = some true := by
  obtain ⟨k, k1, k5, hk⟩ := one_within x0 4 (by decide) (by decide)
  rw [show ((4 : Nat) : Int) = 4 from rfl] at hk
  obtain ⟨n, n1, n6, hn⟩ := one_within x1 6 (by decide) (by decide)
  rw [show ((6 : Nat) : Int) = 6 from rfl] at hn
  obtain ⟨v, ev, hl0, hv⟩ := votesOf_ok n x2 n1 n6
  obtain ⟨g, hg, eg⟩ := winners_am n1 n6 hv (k := (k : Int)) (by omega)
  have hne := am_ne (g := g) n1
  have h30 := hv.1
  unfold pk_RulesRaise_m
  rw [winners_t, Option.bind_some, if_neg (by decide), within_at x0 4 (by decide) (by decide), Option.bind_some, within_at x1 6 (by decide) (by decide), Option.bind_some, hn, ev, Option.bind_some, hk, eg, Option.bind_some]
  have hz : (((((am g n).map fun (i : Nat) => (i : Int)).length : Nat) : Int) == 0) = false := by rw [beq_eq_false_iff_ne, List.length_map]; omega
  simp only [hz, bne_self_eq_false, Bool.false_eq_true, if_false, bindR]
  by_cases hv0 : v = []
  · subst hv0
    have := val_nil hg
    rw [if_pos (by rfl), List.length_map, am_all (g := g) (n := n) fun i j hi hj => by rw [this i hi, this j hj]]
    simp
  · have hvl : 0 < v.length := List.length_pos_iff.2 hv0
    rw [if_neg (by rw [beq_iff_eq]; omega)]
    obtain ⟨b, hb0⟩ : ∃ b, nth (am g n) 0 = b := ⟨_, rfl⟩
    have hbm := nth_mem hne
    rw [hb0] at hbm
    have hb := am_mem.1 hbm
    have e0 : idx ((am g n).map fun (i : Nat) => (i : Int)) (0 : Int) = some (b : Int) := by
      rw [show (0 : Int) = ((0 : Nat) : Int) from rfl, idx_nat, List.getElem?_map, nth_at hne, hb0]; rfl
    obtain ⟨i, hi, ei⟩ : ∃ i : Nat, i < v.length ∧ x3 % (v.length : Int) = i := ⟨(x3 % (v.length : Int)).toNat, by have := Int.emod_lt_of_pos x3 (show (0 : Int) < v.length by omega); omega, by have := Int.emod_nonneg x3 (show (v.length : Int) ≠ 0 by omega); omega⟩
    have hp : Ord n (nth v i) := hv.2 _ (nth_mem hi)
    rw [e0, Option.bind_some, within_at x3 _ (by omega) (by omega), Option.bind_some, ei, idx_nat, nth_at hi, Option.bind_some, raise_ok n1 n6 hp hb.1, Option.bind_some]
    by_cases h0 : (nth v i).idxOf (b : Int) = 0
    · rw [if_pos h0]; rfl
    · rw [if_neg h0]
      have hil := hp.idx_lt hb.1
      have hk1 : (nth v i).idxOf (b : Int) - 1 + 1 < n := by omega
      have hbk : nth (nth v i) ((nth v i).idxOf (b : Int) - 1 + 1) = b := by rw [show (nth v i).idxOf (b : Int) - 1 + 1 = (nth v i).idxOf (b : Int) by omega]; exact hp.at_idx hb.1
      obtain ⟨u1, u2, u3⟩ := raise_up hv.2 hi hk1 hbk
      have hso := swap_ord hp hk1
      generalize swap (nth v i) ((nth v i).idxOf (b : Int) - 1) = q at *
      have hw : Votes n (v.set i q) := ⟨by rw [List.length_set]; exact h30, fun p hp' => by
        rcases List.mem_or_eq_of_mem_set hp' with h | h
        · exact hv.2 p h
        · rw [h]; exact hso⟩
      obtain ⟨h, hh, eh⟩ := winners_am n1 n6 hw (k := (k : Int)) (by omega)
      obtain ⟨m1, m2⟩ := val_up hv.2 hw.2 hb.1 u1 u2 u3 hg hh
      have hbin : b ∈ am h n := am_mem.2 ⟨hb.1, fun j hj => by
        by_cases e : j = b
        · rw [e]; exact Int.le_refl _
        · have := m2 j hj e; have := hb.2 j hj; omega⟩
      have hsub : ∀ y, y ∈ am h n → y ∈ am g n := fun y hy => by
        obtain ⟨y1, y2⟩ := am_mem.1 hy
        by_cases e : y = b
        · rw [e]; exact hbm
        · refine am_mem.2 ⟨y1, fun j hj => ?_⟩
          have := y2 b hb.1; have := m2 y y1 e; have := hb.2 j hj; omega
      simp only [bne_self_eq_false, Bool.false_eq_true, if_false, idx_nat, nth_at hi, Option.bind_some, Int.toNat_natCast, eh, contains_ok]
      rw [decide_eq_true (show (b : Int) ∈ (am h n).map fun (i : Nat) => (i : Int) from List.mem_map.2 ⟨b, hbin, rfl⟩)]
      simp only [Bool.not_true, Bool.false_eq_true, if_false]
      rw [contains_none (fun x hx => ?_)]
      · rfl
      · obtain ⟨y, hy, rfl⟩ := List.mem_map.1 hx
        unfold pk_RulesRaise_1_m
        rw [contains_ok, Option.bind_some, decide_eq_true (show (y : Int) ∈ (am g n).map fun (i : Nat) => (i : Int) from List.mem_map.2 ⟨y, hsub y hy, rfl⟩)]
        rfl
end Go.Pu
