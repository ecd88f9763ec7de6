/- The plain law: what the two auctions charge, and to whom. -/
import Derived.Test.YtdmolnfnpinhcaaWAuctionRiseModels
import Derived.Test.YtdmolnfnpinhcaaPuAuction
set_option linter.all false
namespace Go.Pu
open Go.Fw Go.Mo
theorem second_of {l : List Int} {r b o : Int} (h : Bids l) (h0 : 0 ≤ r) (h1 : r ≤ 1000000) (e : auction_two_m l r = some (b, o)) : auction_Second_m l r = some (if b < 0 then (0, 0, 4) else (b, o, 0)) := by
  unfold auction_Second_m
  rw [bids_check h h0 h1, Option.bind_some, if_neg (by decide), e, Option.bind_some]
  by_cases hb : b < 0
  · simp [hb]
  · simp [hb]
theorem first_of {l : List Int} {r b o : Int} (h : Bids l) (h0 : 0 ≤ r) (h1 : r ≤ 1000000) (e : auction_two_m l r = some (b, o)) (t : Two l r b o) : auction_First_m l r = some (if b < 0 then (0, 0, 4) else (b, nth l b.toNat, 0)) := by
  unfold auction_First_m
  rw [bids_check h h0 h1, Option.bind_some, if_neg (by decide), e, Option.bind_some]
  by_cases hb : b < 0
  · simp [hb]
  · have hl := (t.one (by omega)).1
    obtain ⟨i, rfl⟩ : ∃ i : Nat, b = i := ⟨b.toNat, by omega⟩
    simp only [hb, decide_false, Bool.false_eq_true, if_false, idx_nat, nth_at (show i < l.length by omega), Option.bind_some, Int.toNat_natCast]
theorem none_at {l : List Int} {r : Int} (h : ∀ k : Nat, k < l.length → nth l k < r) : slices_ContainsFunc_int_int_m l (fun a => pk_AuctionPays_1_m a r) = some false := by
  apply Ok.eq
  unfold slices_ContainsFunc_int_int_m slices_IndexFunc_int_int_m
  simp only [ok_bind, ok_bindR, ok_some]
  refine ok_rangeL (fun _ _ => True) trivial (fun k x s hk _ => ?_) fun s _ => by simp
  obtain ⟨hx, hkl⟩ := nth_of hk
  have := h k hkl
  unfold slices_IndexFunc_int_int_b1 pk_AuctionPays_1_m
  simp only [ok_bind, ok_some, ok_ite, flok_nx, flok_rt, decide_eq_true_eq]
  exact ⟨fun _ => by omega, fun _ => trivial⟩
theorem AuctionPays (x0 : List Int) (h0 : (∀ x ∈ x0, (Lit.int .i64 x).wf = true) ∧ x0.length ≤ maxLen) (x1 : Int) (_ : (Lit.int .i64 x1).wf = true) : pk_AuctionPays_m x0 x1 = some true := by
  obtain ⟨l, el, hl, hb⟩ := bidsOf_ok x0 h0.2
  have hbl : Bids l := ⟨by omega, fun x hx => by have := hb x hx; omega⟩
  unfold pk_AuctionPays_m
  rw [auctions_t]
  simp only [Option.bind_some, Bool.not_true, Bool.false_eq_true, if_false, el]
  rw [within_at x1 110 (by decide) (by decide)]
  have a0 := Int.emod_nonneg x1 (b := 110) (by decide)
  have a1 := Int.emod_lt_of_pos x1 (b := 110) (by decide)
  generalize x1 % 110 = r at *
  obtain ⟨⟨b, o⟩, e, t⟩ := two_ok l r
  simp only at t
  rw [Option.bind_some, second_of hbl a0 (by omega) e, Option.bind_some, first_of hbl a0 (by omega) e t, Option.bind_some]
  by_cases hneg : b < 0
  · have hn := (t.none hneg).2
    simp only [if_pos hneg]
    rw [none_at hn]
    rfl
  · simp only [if_neg hneg]
    have h1 := t.one (by omega); have h4 := t.all; have h5 := t.is; have h6 := t.ge
    obtain ⟨i, rfl⟩ : ∃ i : Nat, b = i := ⟨b.toNat, by omega⟩
    simp only [Int.toNat_natCast] at h1 ⊢
    have ho : o ≤ nth l i := by
      rcases h5 with h5 | ⟨k, k1, k2, k3⟩
      · omega
      · have := h1.2.2.1 k k1; omega
    apply Ok.eq
    simp only [ok_bindR, ok_bind, ok_ite, ok_some, ok_idx, flok_nx, flok_rt, decide_eq_true_eq, bne_iff_ne, Int.toNat_natCast]
    refine ⟨fun hc => absurd rfl hc, fun _ => ⟨fun hc => absurd rfl hc, fun _ => ⟨fun hc => absurd rfl hc, fun _ => ⟨fun hc => by omega, fun _ => ⟨fun hc => by omega, fun _ => ⟨by omega, by omega, fun hc => absurd rfl hc, fun _ => ⟨fun hc => by omega, fun _ => ⟨fun hc => by omega, fun _ => ?_⟩⟩⟩⟩⟩⟩⟩⟩
    refine ok_rangeN (fun _ _ => True) trivial (fun k s hk _ => ?_) fun _ _ => trivial
    unfold pk_AuctionPays_b1
    have hk2 := h4 k hk
    have hk3 := h1.2.2.2 k
    simp only [idx_nat, nth_at hk, Option.bind_some, ok_bindF, ok_ite, ok_some, flok_nx, flok_rt, decide_eq_true_eq, bne_iff_ne, beq_iff_eq]
    refine ⟨fun hne => ⟨fun hgt => ?_, fun _ => ⟨fun heq => ⟨fun hlt => ?_, fun _ => trivial⟩, fun _ => by simp⟩⟩, fun _ => by simp⟩
    · have := hk2 hne; omega
    · have := hk3 hlt; omega
end Go.Pu
