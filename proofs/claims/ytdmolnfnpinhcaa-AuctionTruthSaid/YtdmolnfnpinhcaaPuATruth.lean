/- The plain law: in a second price auction nobody gains by another bid than what it is worth to him. -/
import Derived.Test.YtdmolnfnpinhcaaWAuctionTruthModels
import Derived.Test.YtdmolnfnpinhcaaPuAuction
set_option linter.all false
namespace Go.Pu
open Go.Fw Go.Mo
theorem has_ok {l : List Int} {own r i : Int} (h : Bids l) (h0 : 0 ≤ r) (h1 : r ≤ 1000000) (ho : 0 ≤ own ∧ own ≤ 1000000) : ∃ b o, Two l r b o ∧ pk_AuctionTruth_1_m l own r i = some (if 0 ≤ b ∧ b = i then own - o else 0) := by
  obtain ⟨b, o, h2, e⟩ := second_ok h h0 h1
  refine ⟨b, o, h2, ?_⟩
  have hoo : 0 ≤ o ∧ o ≤ 1000000 := by
    have := h2.ge
    rcases h2.is with h3 | ⟨k, k1, k2, k3⟩
    · omega
    · have := h.at k1; omega
  apply Ok.eq
  unfold pk_AuctionTruth_1_m
  rw [e]
  by_cases hb : b < 0
  · simp only [hb, if_true, Option.bind_some, ok_bindR, ok_ite, ok_some, flok_nx]
    simp
    omega
  · simp only [hb, if_false, Option.bind_some, ok_bindR, ok_ite, ok_some, flok_nx]
    by_cases hi : b = i
    · simp [hi]
      rw [wsub_of (by omega) (by omega)]
      omega
    · simp [hi]
theorem AuctionTruth (x0 : List Int) (h0 : (∀ x ∈ x0, (Lit.int .i64 x).wf = true) ∧ x0.length ≤ maxLen) (x1 : Int) (_ : (Lit.int .i64 x1).wf = true) (x2 : Int) (_ : (Lit.int .i64 x2).wf = true) (x3 : Int) (_ : (Lit.int .i64 x3).wf = true) : pk_AuctionTruth_m x0 x1 x2 x3 = some true := by
  obtain ⟨l, el, hl, hb⟩ := bidsOf_ok x0 h0.2
  have hbl : Bids l := ⟨by omega, fun x hx => by have := hb x hx; omega⟩
  unfold pk_AuctionTruth_m
  rw [auctions_t]
  simp only [Option.bind_some, Bool.not_true, Bool.false_eq_true, if_false, el]
  by_cases hz : l.length = 0
  · rw [if_pos (by simp [hz])]
  rw [if_neg (by rw [beq_iff_eq]; omega), within_at x1 50 (by decide) (by decide), within_at x2 (l.length : Int) (by omega) (by omega), within_at x3 130 (by decide) (by decide)]
  have a0 := Int.emod_nonneg x1 (b := 50) (by decide)
  have a1 := Int.emod_lt_of_pos x1 (b := 50) (by decide)
  have b0 := Int.emod_nonneg x3 (b := 130) (by decide)
  have b1 := Int.emod_lt_of_pos x3 (b := 130) (by decide)
  have c0 := Int.emod_nonneg x2 (b := (l.length : Int)) (by omega)
  have c1 := Int.emod_lt_of_pos x2 (b := (l.length : Int)) (by omega)
  generalize x1 % 50 = r at *
  generalize x3 % 130 = u at *
  obtain ⟨i, hi⟩ : ∃ i : Nat, x2 % (l.length : Int) = (i : Int) := ⟨(x2 % (l.length : Int)).toNat, by omega⟩
  rw [hi] at c0 c1 ⊢
  have hil : i < l.length := by omega
  have hw := hbl.at hil
  have hbs : Bids (l.set i u) := ⟨by simpa using hbl.1, fun x hx => by
    rcases List.mem_or_eq_of_mem_set hx with h | h
    · exact hbl.2 x h
    · omega⟩
  obtain ⟨b, o, t1, e1⟩ := has_ok (own := nth l i) (i := (i : Int)) hbl a0 (by omega) hw
  obtain ⟨b', o', t2, e2⟩ := has_ok (own := nth l i) (i := (i : Int)) hbs a0 (by omega) hw
  simp only [Option.bind_some, clone_int (show l.length ≤ 68719476736 by omega), idx_nat, nth_at hil, e1, Int.toNat_natCast, e2]
  have h1 := t1.one; have h2 := t1.none; have h3 := t2.ge; have h4 := t2.all; have h5 := t1.is; have h6 := t1.ge
  have hsame : ∀ k : Nat, k < l.length → k ≠ i → nth (l.set i u) k = nth l k := fun k hk hki => by rw [nth_set hil, if_neg hki]
  have key : ∀ (a b : Int), 0 ≤ a → b ≤ a → bindR (ρ := Bool) (β := Unit) (σ := Bool) (if decide (a ≥ 0) = true then some (.nx (decide (a ≥ b))) else some (.nx false)) (fun x61 => some x61) = some true := fun a b ha hb => by
    rw [if_pos (by simpa using ha)]; simp [bindR]; exact hb
  refine key _ _ ?_ ?_
  · split
    · rename_i hh
      obtain ⟨g1, g2⟩ := hh
      have hone := h1 g1
      rcases h5 with h5 | ⟨k, k1, k2, k3⟩
      · have : b.toNat = i := by omega
        rw [this] at hone; omega
      · have : b.toNat = i := by omega
        rw [this] at hone
        have := hone.2.2.1 k k1; omega
    · omega
  · by_cases hb' : 0 ≤ b' ∧ b' = (i : Int)
    · rw [if_pos hb']
      by_cases hbb : 0 ≤ b ∧ b = (i : Int)
      · rw [if_pos hbb]
        have := Two.same t1 t2 (by simp) hsame hbb.2 hb'.2
        omega
      · rw [if_neg hbb]
        have hlen : (l.set i u).length = l.length := by simp
        by_cases hneg : b < 0
        · have := (h2 hneg).2 i hil; omega
        · have hone := h1 (by omega)
          have g1 := hone.2.2.1 i hil
          have g2 := h4 b.toNat (by omega) (by omega)
          rw [hsame b.toNat (by omega) (by omega)] at g2
          omega
    · rw [if_neg hb']
      split
      · rename_i hh
        obtain ⟨g1, g2⟩ := hh
        have hone := h1 g1
        have : b.toNat = i := by omega
        rw [this] at hone
        rcases h5 with h5 | ⟨k, k1, k2, k3⟩
        · omega
        · have := hone.2.2.1 k k1; omega
      · omega
end Go.Pu
