/- The plain law: whoever bids what one is worth to him has no less of it than by any other bid. -/
import Derived.Test.YtflbneojjnpegaaWUnitsTruthModels
import Derived.Test.YtflbneojjnpegaaPuUnits
import Derived.Test.YtflbneojjnpegaaPuList
set_option linter.all false
namespace Go.Pu
open Go.Fw Go.Mo
theorem Sold.price {l w : List Int} {n p : Int} (h : Sold l n w p) (hb : Bids l) : 0 ≤ p ∧ p ≤ 1000000 := by
  by_cases hn : n < (l.length : Int)
  · obtain ⟨j, j1, j2, j3⟩ := h.one hn
    have := hb.at j1; omega
  · have := h.all (by omega); omega
theorem unitsHas_ok {l : List Int} {own n i : Int} (h : Bids l) (h0 : 0 ≤ n ∧ n ≤ 10) (ho : 0 ≤ own ∧ own ≤ 1000000) : ∃ w p, Sold l n w p ∧ pk_UnitsTruth_1_m l own n i = some (if i ∈ w then own - p else 0) := by
  obtain ⟨w, p, e, s⟩ := sell_ok h h0
  have hp := s.price h
  refine ⟨w, p, s, ?_⟩
  unfold pk_UnitsTruth_1_m
  rw [e, Option.bind_some]
  dsimp only
  rw [if_neg (by decide), contains_ok, Option.bind_some]
  by_cases hi : i ∈ w
  · simp [hi, bindR]
    exact wsub_of (by omega) (by omega)
  · simp [hi, bindR]
theorem Sold.most {l m w v : List Int} {n p q : Int} {i : Nat} (s : Sold l n w p) (t : Sold m n v q) (hn : 0 ≤ n) (hm : m.length = l.length) (hi : i < l.length) (hs : ∀ k, k < l.length → k ≠ i → nth m k = nth l k) (hv : (i : Int) ∈ v) : if (i : Int) ∈ w then p ≤ q else nth l i ≤ q := by
  have hsub : ∀ x, x ∈ v.erase (i : Int) → True := fun _ _ => trivial
  have hvl : (v.erase (i : Int)).length = v.length - 1 := List.length_erase_of_mem hv
  have hvp := List.length_pos_of_mem hv
  have big : ∀ j : Nat, j < l.length → j ≠ i → q < nth l j → (j : Int) ∈ v.erase (i : Int) := fun j hj hji hq => by
    rw [List.mem_erase_of_ne (by omega)]
    apply Decidable.byContradiction
    intro hno
    have := t.le j (by omega) hno
    rw [hs j hj hji] at this; omega
  by_cases hc : n < (l.length : Int)
  · have hwl := s.len
    have htl := t.len
    rw [hm] at htl
    rw [if_pos hc] at hwl htl
    split
    · rename_i hiw
      apply Int.le_of_not_gt; intro hpq
      obtain ⟨j, j1, j2, j3⟩ := s.one hc
      have hji : j ≠ i := fun e => j2 (by rw [e]; exact hiw)
      have := nodup_sub (l := (j : Int) :: w.erase (i : Int)) (m := v.erase (i : Int)) (by
        rw [List.nodup_cons]
        exact ⟨fun h => j2 (List.mem_of_mem_erase h), s.nodup.erase _⟩) fun x hx => by
          rcases List.mem_cons.1 hx with rfl | hx
          · exact big j j1 hji (by omega)
          · obtain ⟨x0, x1⟩ := s.nodup.mem_erase_iff.1 hx
            have r := s.rng x x1
            have g := s.ge x x1
            have := big x.toNat (by omega) (by omega) (by omega)
            rwa [show ((x.toNat : Nat) : Int) = x by omega] at this
      rw [List.length_cons, List.length_erase_of_mem hiw, hvl] at this
      have := List.length_pos_of_mem hiw
      omega
    · rename_i hiw
      apply Int.le_of_not_gt; intro hpq
      have hlp := s.le i hi hiw
      have := nodup_sub (l := w) (m := v.erase (i : Int)) s.nodup fun x hx => by
        have r := s.rng x hx
        have g := s.ge x hx
        have hxi : x ≠ i := fun e => hiw (by rw [← e]; exact hx)
        have := big x.toNat (by omega) (by omega) (by omega)
        rwa [show ((x.toNat : Nat) : Int) = x by omega] at this
      rw [hvl] at this
      omega
  · have hp := s.all (by omega)
    have hq := t.all (by omega)
    have hwl := s.len
    rw [if_neg hc] at hwl
    have hiw : (i : Int) ∈ w := by
      apply Decidable.byContradiction
      intro hno
      have := nodup_sub (l := (i : Int) :: w) (m := inds l.length) (by rw [List.nodup_cons]; exact ⟨hno, s.nodup⟩) fun x hx => by
        rw [inds_mem]
        rcases List.mem_cons.1 hx with rfl | hx
        · omega
        · exact s.rng x hx
      rw [inds_len, List.length_cons] at this
      omega
    rw [if_pos hiw]; omega
theorem UnitsTruth (x0 : List Int) (h0 : (∀ x ∈ x0, (Lit.int .i64 x).wf = true) ∧ x0.length ≤ maxLen) (x1 : Int) (_ : (Lit.int .i64 x1).wf = true) (x2 : Int) (_ : (Lit.int .i64 x2).wf = true) (x3 : Int) (_ : (Lit.int .i64 x3).wf = true) : pk_UnitsTruth_m x0 x1 x2 x3 = some true := by
  obtain ⟨l, el, hl, hb⟩ := bidsOf_ok x0 h0.2
  have hbl : Bids l := ⟨by omega, fun x hx => by have := hb x hx; omega⟩
  unfold pk_UnitsTruth_m
  rw [sells_t, Option.bind_some, if_neg (by decide), el, Option.bind_some]
  by_cases hz : l.length = 0
  · rw [if_pos (by simp [hz])]
  have a0 := Int.emod_nonneg x1 (b := 11) (by decide)
  have a1 := Int.emod_lt_of_pos x1 (b := 11) (by decide)
  have b0 := Int.emod_nonneg x3 (b := 130) (by decide)
  have b1 := Int.emod_lt_of_pos x3 (b := 130) (by decide)
  have c0 := Int.emod_nonneg x2 (b := (l.length : Int)) (by omega)
  have c1 := Int.emod_lt_of_pos x2 (b := (l.length : Int)) (by omega)
  rw [if_neg (by rw [beq_iff_eq]; omega), within_at x1 11 (by decide) (by decide), within_at x2 (l.length : Int) (by omega) (by omega), within_at x3 130 (by decide) (by decide), clone_int (by omega)]
  simp only [Option.bind_some]
  obtain ⟨i, hi⟩ : ∃ i : Nat, x2 % (l.length : Int) = i := ⟨(x2 % (l.length : Int)).toNat, by omega⟩
  rw [hi] at c0 c1 ⊢
  have hil : i < l.length := by omega
  rw [idx_nat, nth_at hil, Option.bind_some, Option.bind_some, Int.toNat_natCast]
  have vi := hbl.at hil
  have hbm : Bids (l.set i (x3 % 130)) := ⟨by rw [List.length_set]; omega, fun x hx => by
    rcases List.mem_or_eq_of_mem_set hx with hx | rfl
    · exact hbl.2 x hx
    · omega⟩
  obtain ⟨w, p, s, e1⟩ := unitsHas_ok (own := nth l i) (n := x1 % 11) (i := (i : Int)) hbl (by omega) vi
  obtain ⟨v, q, t, e2⟩ := unitsHas_ok (own := nth l i) (n := x1 % 11) (i := (i : Int)) hbm (by omega) vi
  rw [e1, Option.bind_some, Option.bind_some, e2, Option.bind_some]
  have key : (i : Int) ∈ v → if (i : Int) ∈ w then p ≤ q else nth l i ≤ q := fun hv => s.most t (by omega) (List.length_set ..) hil (fun k hk hki => by rw [nth_set hil, if_neg hki]) hv
  have hge : (i : Int) ∈ w → p ≤ nth l i := fun h => by have := s.ge _ h; rwa [Int.toNat_natCast] at this
  by_cases h1 : (i : Int) ∈ w
  · have g1 := hge h1
    by_cases h2 : (i : Int) ∈ v
    · have g2 := key h2
      rw [if_pos h1] at g2
      rw [if_pos h1, if_pos h2, if_pos (by rw [decide_eq_true_eq]; omega)]
      simp [bindR]; omega
    · rw [if_pos h1, if_neg h2, if_pos (by rw [decide_eq_true_eq]; omega)]
      simp [bindR]; omega
  · by_cases h2 : (i : Int) ∈ v
    · have g2 := key h2
      rw [if_neg h1] at g2
      rw [if_neg h1, if_pos h2, if_pos (by decide)]
      simp [bindR]; omega
    · rw [if_neg h1, if_neg h2, if_pos (by decide)]
      simp [bindR]
end Go.Pu
