/- What the auction's functions answer. -/
import Derived.Test.YtfekdillbgblkaaWVotesOwnModels
import Derived.Test.YtfekdillbgblkaaPuWp
import Derived.Test.YtfekdillbgblkaaPuWithin
set_option linter.all false
namespace Go.Pu
open Go.Fw Go.Mo
def Bids (l : List Int) : Prop := l.length ≤ 10 ∧ ∀ x ∈ l, 0 ≤ x ∧ x ≤ 1000000
theorem Bids.at {l : List Int} (h : Bids l) {k : Nat} (hk : k < l.length) : 0 ≤ nth l k ∧ nth l k ≤ 1000000 := h.2 _ (nth_mem hk)
theorem bids_check {l : List Int} {r : Int} (h : Bids l) (h0 : 0 ≤ r) (h1 : r ≤ 1000000) : auction_Check_m l r = some 0 := by
  apply Ok.eq
  unfold auction_Check_m
  have hl := h.1
  simp only [ok_ite, ok_some, ok_bindR, decide_eq_true_eq]
  refine ⟨fun _ => by omega, fun _ => ok_rangeL (fun _ _ => True) trivial (fun k x s hk _ => ?_) fun s _ => ?_⟩
  · have := h.2 x (List.mem_of_getElem? hk)
    unfold auction_Check_b1
    simp only [ok_ite, ok_some, ok_bindF, flok_nx, flok_rt, decide_eq_true_eq]
    grind
  · simp only [ok_ite, ok_some, flok_nx, decide_eq_true_eq]
    grind
structure Two (l : List Int) (r b o : Int) : Prop where
  ge : r ≤ o
  all : ∀ k : Nat, k < l.length → (k : Int) ≠ b → nth l k ≤ o
  is : o = r ∨ ∃ k : Nat, k < l.length ∧ (k : Int) ≠ b ∧ o = nth l k
  none : b < 0 → b = -1 ∧ ∀ k : Nat, k < l.length → nth l k < r
  one : 0 ≤ b → b < l.length ∧ r ≤ nth l b.toNat ∧ (∀ k : Nat, k < l.length → nth l k ≤ nth l b.toNat) ∧ (∀ k : Nat, (k : Int) < b → nth l k < nth l b.toNat)
theorem two_ok (l : List Int) (r : Int) : Ok (auction_two_m l r) (fun p => Two l r p.1 p.2) := by
  unfold auction_two_m
  simp only [ok_bindR, ok_some]
  refine ok_rangeL (fun (k : Nat) (b : Int) => (b < 0 → b = -1 ∧ ∀ j : Nat, j < k → nth l j < r) ∧ (0 ≤ b → b < k ∧ r ≤ nth l b.toNat ∧ (∀ j : Nat, j < k → nth l j ≤ nth l b.toNat) ∧ (∀ j : Nat, (j : Int) < b → nth l j < nth l b.toNat))) (by grind) (fun k x b hk hI => ?_) fun b hb => ?_
  · obtain ⟨hx, hkl⟩ := nth_of hk
    unfold auction_two_b1
    simp only [ok_ite, ok_some, ok_bindF, ok_bind, ok_idx, flok_nx, flok_rt, decide_eq_true_eq, Int.toNat_natCast]
    repeat' first | apply And.intro | intro _
    all_goals grind
  · refine ok_rangeL (fun (k : Nat) (o : Int) => r ≤ o ∧ (∀ j : Nat, j < k → (j : Int) ≠ b → nth l j ≤ o) ∧ (o = r ∨ ∃ j : Nat, j < l.length ∧ (j : Int) ≠ b ∧ o = nth l j)) (by grind) (fun k x o hk hI => ?_) fun o ho => ?_
    · obtain ⟨hx, hkl⟩ := nth_of hk
      unfold auction_two_b2
      simp only [ok_ite, ok_some, flok_nx, bne_iff_ne]
      grind
    · exact ⟨ho.1, ho.2.1, ho.2.2, hb.1, hb.2⟩
theorem second_ok {l : List Int} {r : Int} (h : Bids l) (h0 : 0 ≤ r) (h1 : r ≤ 1000000) : ∃ b o, Two l r b o ∧ auction_Second_m l r = some (if b < 0 then (0, 0, 4) else (b, o, 0)) := by
  obtain ⟨⟨b, o⟩, e, h2⟩ := two_ok l r
  refine ⟨b, o, h2, ?_⟩
  unfold auction_Second_m
  rw [bids_check h h0 h1, Option.bind_some, if_neg (by decide), e, Option.bind_some]
  by_cases hb : b < 0
  · simp [hb]
  · simp [hb]
theorem bidsOf_ok (x0 : List Int) (h : x0.length ≤ maxLen) : ∃ l, pk_BidsOf_m x0 = some l ∧ l.length = min 10 x0.length ∧ ∀ x ∈ l, 0 ≤ x ∧ x ≤ 100 := by
  have : Ok (pk_BidsOf_m x0) (fun l => l.length = min 10 x0.length ∧ ∀ x ∈ l, 0 ≤ x ∧ x ≤ 100) := by
    unfold pk_BidsOf_m
    have e : (if (10 : Int) < (x0.length : Int) then (10 : Int) else (x0.length : Int)) = ((min 10 x0.length : Nat) : Int) := by omega
    rw [e, List.drop_zero, Int.toNat_natCast]
    simp only [ok_bind, ok_chk, ok_bindR, ok_some]
    refine ⟨by omega, ok_rangeL (fun k l => l.length = k ∧ ∀ x ∈ l, 0 ≤ x ∧ x ≤ 100) (by simp) (fun k x l hk hI => ?_) fun l hl => ⟨by rw [hl.1, List.length_take]; omega, hl.2⟩⟩
    unfold pk_BidsOf_b1
    have hk' := (List.getElem?_eq_some_iff.1 hk).1
    rw [List.length_take] at hk'
    have a0 := Int.emod_nonneg x (b := 101) (by decide)
    have a1 := Int.emod_lt_of_pos x (b := 101) (by decide)
    rw [within_at x 101 (by decide) (by decide)]
    simp only [ok_bind, ok_chk, ok_some, flok_nx]
    refine ⟨by simp; omega, by simp [hI.1], fun y hy => ?_⟩
    rcases List.mem_append.1 hy with hy | hy
    · exact hI.2 y hy
    · simp at hy; subst hy; omega
  exact this
theorem clone_int {l : List Int} (h : l.length ≤ 68719476736) : slices_Clone_int_int_m l = some l := by
  unfold slices_Clone_int_int_m; rw [chk_t (by omega)]; rfl
theorem auctions_t : pk_auctions_m = some true := by decide +kernel
theorem Two.same {l m : List Int} {r b o b' o' : Int} {i : Nat} (h : Two l r b o) (h' : Two m r b' o') (hl : m.length = l.length) (hs : ∀ k : Nat, k < l.length → k ≠ i → nth m k = nth l k) (hb : b = i) (hb' : b' = i) : o = o' := by
  have h1 := h.all; have h2 := h'.all; have h3 := h.is; have h4 := h'.is; have h5 := h.ge; have h6 := h'.ge
  subst hb hb'
  rcases h3 with h3 | ⟨k, k1, k2, k3⟩ <;> rcases h4 with h4 | ⟨j, j1, j2, j3⟩
  · omega
  · have := h1 j (by omega) j2; have := hs j (by omega) (by omega); omega
  · have := h2 k (by omega) k2; have := hs k (by omega) (by omega); omega
  · have := h1 j (by omega) j2; have := hs j (by omega) (by omega)
    have := h2 k (by omega) k2; have := hs k (by omega) (by omega); omega
end Go.Pu
