/- Several alike sold at one price: what units.Sell answers. -/
import Derived.Test.YtfhfoechannphaaWPeakBlackModels
import Derived.Test.YtfhfoechannphaaPuIns
import Derived.Test.YtfhfoechannphaaPuAuction
import Derived.Test.YtfhfoechannphaaPuEq
import Derived.Test.YtfhfoechannphaaPuIsSort
import Derived.Test.YtfhfoechannphaaPuGood
import Derived.Test.YtfhfoechannphaaPuReverse
set_option linter.all false
namespace Go.Pu
open Go.Fw Go.Mo
theorem nodup_sub {α : Type} [BEq α] [LawfulBEq α] : ∀ {l m : List α}, l.Nodup → (∀ x ∈ l, x ∈ m) → l.length ≤ m.length
  | [], m, _, _ => Nat.zero_le _
  | a :: l, m, hn, hs => by
    have ha := hs a (by simp)
    rw [List.nodup_cons] at hn
    have := nodup_sub (l := l) (m := m.erase a) hn.2 fun x hx => by
      have hxa : x ≠ a := fun e => by subst e; exact hn.1 hx
      exact (List.mem_erase_of_ne hxa).2 (hs x (List.mem_cons_of_mem _ hx))
    rw [List.length_erase_of_mem ha] at this
    have := List.length_pos_of_mem ha
    simp only [List.length_cons]; omega
def inds (n : Nat) : List Int := (List.range n).map fun (i : Nat) => (i : Int)
theorem inds_len {n : Nat} : (inds n).length = n := by simp [inds]
theorem inds_mem {n : Nat} {x : Int} : x ∈ inds n ↔ 0 ≤ x ∧ x < n := by
  unfold inds
  rw [List.mem_map]
  constructor
  · rintro ⟨i, hi, rfl⟩; rw [List.mem_range] at hi; omega
  · intro h; exact ⟨x.toNat, by rw [List.mem_range]; omega, by omega⟩
theorem inds_asc {n : Nat} : (inds n).Pairwise (· < ·) := by
  unfold inds
  rw [List.pairwise_map]
  exact List.pairwise_lt_range.imp fun h => by omega
theorem inds_nodup {n : Nat} : (inds n).Nodup := inds_asc.imp fun h e => by omega
theorem nth_inds {n k : Nat} (h : k < n) : nth (inds n) k = (k : Int) := by
  unfold inds; rw [nth_get (by simpa using h)]; simp
theorem fill_ok {ρ : Type} {b : Nat → List Int → Option (Fl ρ (List Int) (List Int))} {n : Nat} (hb : ∀ i l, i < n → l.length = n → b i l = some (.nx (l.set i (i : Int)))) (s : List Int) (hs : s.length = n) : rangeN (γ := Unit) b n 0 s = some (.nx (inds n)) := by
  obtain ⟨v, e, h⟩ := ok_rangeN (γ := Unit) (body := b) (n := n) (s := s) (B := fun _ => False) (R := fun _ => False) (N := fun l => l = inds n) (fun k l => l.length = n ∧ ∀ i, i < k → nth l i = (i : Int)) ⟨hs, fun i hi => by omega⟩ (fun k l hk hI => by
    rw [hb k l hk hI.1, ok_some, flok_nx]
    refine ⟨by rw [List.length_set, hI.1], fun i hi => ?_⟩
    rw [nth_set (by rw [hI.1]; exact hk)]
    by_cases h : i = k
    · rw [if_pos h, h]
    · rw [if_neg h]; exact hI.2 i (by omega)) (fun l hl => nth_ext (by rw [hl.1, inds_len]) fun k hk => by
    rw [hl.1] at hk
    rw [hl.2 k hk, nth_inds hk])
  cases v with
  | nx s => rw [e]; rw [flok_nx] at h; rw [h]
  | br _ => exact h.elim
  | rt _ => exact h.elim
/-- those who have one, and the price -/
structure Sold (l : List Int) (n : Int) (w : List Int) (p : Int) : Prop where
  len : (w.length : Int) = if n < (l.length : Int) then n else (l.length : Int)
  asc : w.Pairwise (· < ·)
  rng : ∀ x ∈ w, 0 ≤ x ∧ x < (l.length : Int)
  ge : ∀ x ∈ w, p ≤ nth l x.toNat
  le : ∀ i, i < l.length → (i : Int) ∉ w → nth l i ≤ p
  all : (l.length : Int) ≤ n → p = 0
  one : n < (l.length : Int) → ∃ j, j < l.length ∧ (j : Int) ∉ w ∧ nth l j = p
  tie : ∀ x ∈ w, ∀ j : Nat, j < l.length → (j : Int) ∉ w → nth l j < nth l x.toNat ∨ (nth l j = nth l x.toNat ∧ x < (j : Int))
  fst : n = 1 → ∀ x ∈ w, ∀ j : Nat, (j : Int) < x → nth l j < nth l x.toNat
theorem sortedAsc {l m : List Int} (h : Sorted (fun a b : Int => decide (a < b)) l m) (hn : l.Nodup) : m.Pairwise (· < ·) := by
  have hn' : m.Nodup := h.perm.nodup_iff.2 hn
  exact (List.pairwise_and_iff.2 ⟨h.asc, hn'⟩).imp fun ⟨a, b⟩ => by simp at a; omega
theorem sell_ok {l : List Int} {n : Int} (h : Bids l) (h0 : 0 ≤ n ∧ n ≤ 10) : ∃ w p, units_Sell_m l n = some (w, p, 0) ∧ Sold l n w p := by
  have hl := h.1
  have hw : Weak (fun a b : Int => decide (nth l b.toNat < nth l a.toNat)) := ⟨fun a b h => by simp at h ⊢; omega, fun a b c h1 h2 => by simp at h1 h2 ⊢; omega⟩
  obtain ⟨m, em, hm⟩ := sortStable_int (l := inds l.length) (g := fun a0 a1 => units_Sell_1_m a0 a1 l) hw (fun a ha b hb => by
    rw [inds_mem] at ha hb
    have va := h.at (k := a.toNat) (by omega)
    have vb := h.at (k := b.toNat) (by omega)
    refine ⟨nth l b.toNat - nth l a.toNat, ?_, ?_⟩
    · unfold units_Sell_1_m
      rw [idx_at hb.1, nth_at (by omega), Option.bind_some, idx_at ha.1, nth_at (by omega), Option.bind_some, wsub_of (by omega) (by omega)]
    · rw [decide_eq_decide]; omega) (by rw [inds_len]; omega)
  have hml : m.length = l.length := by rw [hm.perm.length_eq, inds_len]
  have hmm : ∀ x, x ∈ m ↔ 0 ≤ x ∧ x < (l.length : Int) := fun x => by rw [hm.perm.mem_iff, inds_mem]
  have hmn : m.Nodup := hm.perm.nodup_iff.2 inds_nodup
  have hle : ∀ {i j : Nat}, i < j → j < m.length → nth l (nth m j).toNat ≤ nth l (nth m i).toNat := fun {i j} hij hj => by
    have := (List.pairwise_iff_getElem.1 hm.asc) i j (by omega) hj hij
    rw [← nth_get hj, ← nth_get (by omega : i < m.length)] at this
    simpa using this
  have hne : ∀ {i j : Nat}, i < j → j < m.length → nth m i ≠ nth m j := fun {i j} hij hj => by
    have := (List.pairwise_iff_getElem.1 hmn) i j (by omega) hj hij
    rwa [← nth_get hj, ← nth_get (by omega : i < m.length)] at this
  unfold units_Sell_m
  rw [bids_check h (by decide) (by decide), Option.bind_some, if_neg (by decide), if_neg (by rw [decide_eq_true_eq]; omega)]
  simp only [bindR]
  rw [if_neg (by rw [decide_eq_true_eq]; omega), chk_t ⟨by omega, by omega⟩, Option.bind_some, Int.toNat_natCast, List.length_replicate, fill_ok (fun i s hi hs => by
    unfold units_Sell_b1
    rw [idx_nat, nth_at (by omega), Option.bind_some]) _ (List.length_replicate ..)]
  dsimp only
  rw [em, Option.bind_some]
  have hcol : ∀ q, q ≤ m.length → (m.take q).Nodup := fun q _ => hmn.sublist (List.take_sublist _ _)
  by_cases hn : n < (l.length : Int)
  · have nn : (n.toNat : Int) = n := by omega
    have hnm : n.toNat < m.length := by omega
    have hmem := (hmm (nth m n.toNat)).1 (nth_mem hnm)
    rw [if_pos (by rw [decide_eq_true_eq, hml]; exact hn), idx_at h0.1, nth_at hnm, Option.bind_some, idx_at hmem.1, nth_at (by omega), Option.bind_some, chk_t ⟨h0.1, by omega⟩, Option.bind_some]
    dsimp only
    obtain ⟨w, ew, hw'⟩ := sort_ok (l := m.take n.toNat) (by rw [List.length_take]; omega)
    rw [ew, Option.bind_some]
    refine ⟨w, nth l (nth m n.toNat).toNat, rfl, ?_⟩
    have hin : ∀ x, x ∈ w ↔ ∃ k, k < n.toNat ∧ nth m k = x := fun x => by
      rw [hw'.perm.mem_iff]
      constructor
      · intro hx
        obtain ⟨k, hk, e⟩ := mem_nth hx
        rw [List.length_take] at hk
        rw [nth_take (by omega)] at e
        exact ⟨k, by omega, e⟩
      · rintro ⟨k, hk, rfl⟩
        rw [← nth_take hk]; exact nth_mem (by rw [List.length_take]; omega)
    refine ⟨?_, sortedAsc hw' (hcol _ (by omega)), fun x hx => ?_, fun x hx => ?_, fun i hi hx => ?_, fun hh => by omega, fun _ => ?_, fun x hx j hj hjw => ?_, fun h1 x hx j hj => ?_⟩
    · rw [if_pos hn, hw'.perm.length_eq, List.length_take]; omega
    · obtain ⟨k, hk, rfl⟩ := (hin x).1 hx
      exact (hmm _).1 (nth_mem (by omega))
    · obtain ⟨k, hk, rfl⟩ := (hin x).1 hx
      exact hle hk hnm
    · obtain ⟨k, hk, e⟩ := mem_nth ((hmm (i : Int)).2 ⟨by omega, by omega⟩)
      have hkn : ¬ k < n.toNat := fun hh => hx ((hin _).2 ⟨k, hh, e⟩)
      by_cases e2 : k = n.toNat
      · rw [← e2, e, Int.toNat_natCast]; exact Int.le_refl _
      · have := hle (show n.toNat < k by omega) hk
        rwa [e, Int.toNat_natCast] at this
    · refine ⟨(nth m n.toNat).toNat, by omega, fun hx => ?_, rfl⟩
      obtain ⟨k, hk, e⟩ := (hin _).1 hx
      exact hne hk hnm (by omega)
    · obtain ⟨k, hk, rfl⟩ := (hin x).1 hx
      obtain ⟨i, hi, e⟩ := mem_nth ((hmm (j : Int)).2 ⟨by omega, by omega⟩)
      have hki : k < i := by
        apply Decidable.byContradiction; intro hno
        exact hjw ((hin _).2 ⟨i, by omega, e⟩)
      have h1 := hle hki hi
      rw [e, Int.toNat_natCast] at h1
      by_cases he : nth l j = nth l (nth m k).toNat
      · right
        refine ⟨he, ?_⟩
        have hst := hm.stable (fun y => nth l y.toNat == nth l j) (fun a b ha hb => by
          rw [beq_iff_eq] at ha hb; rw [ha, hb, decide_eq_false_iff_not]; omega)
        have hasc : (m.filter (fun y => nth l y.toNat == nth l j)).Pairwise (· < ·) := by
          rw [hst]; exact inds_asc.sublist List.filter_sublist
        rw [List.pairwise_filter] at hasc
        have := (List.pairwise_iff_getElem.1 hasc) k i (by omega) hi hki
        rw [← nth_get hi, ← nth_get (by omega : k < m.length), e] at this
        exact this (by rw [beq_iff_eq, he]) (by rw [beq_iff_eq, Int.toNat_natCast])
      · left; omega
    · obtain ⟨k, hk, rfl⟩ := (hin x).1 hx
      have k0 : k = 0 := by omega
      subst k0
      have hx0 := (hmm (nth m 0)).1 (nth_mem (by omega))
      have hst := hm.stable (fun y => nth l y.toNat == nth l (nth m 0).toNat) (fun a b ha hb => by
        rw [beq_iff_eq] at ha hb; rw [ha, hb, decide_eq_false_iff_not]; omega)
      have hjl : nth l j ≤ nth l (nth m 0).toNat := by
        obtain ⟨k, hk, e⟩ := mem_nth ((hmm (j : Int)).2 ⟨by omega, by omega⟩)
        by_cases k0 : k = 0
        · subst k0; omega
        · have := hle (show 0 < k by omega) hk
          rwa [e, Int.toNat_natCast] at this
      by_cases he : nth l j = nth l (nth m 0).toNat
      · exfalso
        have hasc : (m.filter (fun y => nth l y.toNat == nth l (nth m 0).toNat)).Pairwise (· < ·) := by
          rw [hst]; exact inds_asc.sublist List.filter_sublist
        have hms : m = nth m 0 :: m.drop 1 := by
          cases m with
          | nil => simp at hml; omega
          | cons a m => rfl
        have hj2 : (j : Int) ∈ m.filter (fun y => nth l y.toNat == nth l (nth m 0).toNat) := by
          rw [List.mem_filter]; exact ⟨(hmm _).2 ⟨by omega, by omega⟩, by rw [beq_iff_eq, Int.toNat_natCast]; exact he⟩
        generalize nth m 0 = x at hms hasc hj2 hj
        rw [hms, List.filter_cons, if_pos (by rw [beq_iff_eq])] at hasc hj2
        rw [List.pairwise_cons] at hasc
        rcases List.mem_cons.1 hj2 with hj2 | hj2
        · omega
        · have := hasc.1 _ hj2; omega
      · omega
  · rw [if_neg (by rw [decide_eq_true_eq, hml]; exact hn)]
    dsimp only
    obtain ⟨w, ew, hw'⟩ := sort_ok (l := m) (by omega)
    rw [ew, Option.bind_some]
    have hin : ∀ x, x ∈ w ↔ 0 ≤ x ∧ x < (l.length : Int) := fun x => by rw [hw'.perm.mem_iff, hmm]
    refine ⟨w, 0, rfl, ?_, sortedAsc hw' hmn, fun x hx => (hin x).1 hx, fun x hx => (h.at (k := x.toNat) (by have := (hin x).1 hx; omega)).1, fun i hi hx => ?_, fun _ => rfl, fun hh => by omega, fun x hx j hj hjw => absurd ((hin _).2 ⟨by omega, by omega⟩) hjw, fun h1 x hx j hj => ?_⟩
    · rw [if_neg hn, hw'.perm.length_eq, hml]
    · exact absurd ((hin _).2 ⟨by omega, by omega⟩) hx
    · have := (hin x).1 hx; omega
theorem Sold.nodup {l w : List Int} {n p : Int} (h : Sold l n w p) : w.Nodup := h.asc.imp fun a b => by omega
theorem sells_t : pk_sells_m = some true := by decide +kernel
end Go.Pu
