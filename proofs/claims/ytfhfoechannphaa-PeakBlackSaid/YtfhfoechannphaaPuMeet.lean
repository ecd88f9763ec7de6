/- Buyers and sellers of the like: how many deal, and at what price. -/
import Derived.Test.YtfhfoechannphaaWPeakBlackModels
import Derived.Test.YtfhfoechannphaaPuUnits
set_option linter.all false
namespace Go.Pu
open Go.Fw Go.Mo
/-- in a list in which those that are so stand first, it is so of just the first ones -/
theorem count_first {q : Int → Bool} : ∀ {l : List Int}, l.Pairwise (fun a b => q b = true → q a = true) → ∀ i, i < l.length → (q (nth l i) = true ↔ i < l.countP q)
  | [], _, i, hi => by (cases hi)
  | a :: l, h, i, hi => by
    rw [List.pairwise_cons] at h
    by_cases ha : q a = true
    · rw [List.countP_cons_of_pos ha]
      cases i with
      | zero => simp [nth_cons_zero, ha]
      | succ i =>
        rw [nth_cons_succ, count_first h.2 i (by simpa using hi)]; omega
    · have hz : l.countP q = 0 := List.countP_eq_zero.2 fun b hb hqb => ha (h.1 b hb hqb)
      rw [List.countP_cons_of_neg ha, hz]
      cases i with
      | zero => simp [nth_cons_zero, ha]
      | succ i =>
        rw [nth_cons_succ]
        constructor
        · intro hq; exact absurd (h.1 _ (nth_mem (by simpa using hi)) hq) ha
        · intro h0; omega
/-- sorted down -/
structure Down (b D : List Int) : Prop where
  perm : D.Perm b
  desc : D.Pairwise fun x y => y ≤ x
/-- sorted up -/
structure Up (s A : List Int) : Prop where
  perm : A.Perm s
  asc : A.Pairwise fun x y => x ≤ y
theorem Down.len {b D : List Int} (h : Down b D) : D.length = b.length := h.perm.length_eq
theorem Up.len {b D : List Int} (h : Up b D) : D.length = b.length := h.perm.length_eq
theorem Down.ge {b D : List Int} (h : Down b D) (p : Int) {i : Nat} (hi : i < D.length) : p ≤ nth D i ↔ i < b.countP (fun v => decide (p ≤ v)) := by
  rw [← h.perm.countP_eq, ← count_first (h.desc.imp fun {x y} hxy hq => by rw [decide_eq_true_eq] at hq ⊢; omega) i hi, decide_eq_true_eq]
theorem Down.gt {b D : List Int} (h : Down b D) (p : Int) {i : Nat} (hi : i < D.length) : p < nth D i ↔ i < b.countP (fun v => decide (p < v)) := by
  rw [← h.perm.countP_eq, ← count_first (h.desc.imp fun {x y} hxy hq => by rw [decide_eq_true_eq] at hq ⊢; omega) i hi, decide_eq_true_eq]
theorem Up.le {b D : List Int} (h : Up b D) (p : Int) {i : Nat} (hi : i < D.length) : nth D i ≤ p ↔ i < b.countP (fun v => decide (v ≤ p)) := by
  rw [← h.perm.countP_eq, ← count_first (h.asc.imp fun {x y} hxy hq => by rw [decide_eq_true_eq] at hq ⊢; omega) i hi, decide_eq_true_eq]
theorem Up.lt {b D : List Int} (h : Up b D) (p : Int) {i : Nat} (hi : i < D.length) : nth D i < p ↔ i < b.countP (fun v => decide (v < p)) := by
  rw [← h.perm.countP_eq, ← count_first (h.asc.imp fun {x y} hxy hq => by rw [decide_eq_true_eq] at hq ⊢; omega) i hi, decide_eq_true_eq]
theorem Down.mono {b D : List Int} (h : Down b D) {i j : Nat} (hij : i ≤ j) (hj : j < D.length) : nth D j ≤ nth D i := by
  by_cases e : i = j
  · subst e; exact Int.le_refl _
  · have := (List.pairwise_iff_getElem.1 h.desc) i j (by omega) hj (by omega)
    rwa [← nth_get hj, ← nth_get (by omega : i < D.length)] at this
theorem Up.mono {b D : List Int} (h : Up b D) {i j : Nat} (hij : i ≤ j) (hj : j < D.length) : nth D i ≤ nth D j := by
  by_cases e : i = j
  · subst e; exact Int.le_refl _
  · have := (List.pairwise_iff_getElem.1 h.asc) i j (by omega) hj (by omega)
    rwa [← nth_get hj, ← nth_get (by omega : i < D.length)] at this
theorem Down.mem {b D : List Int} (h : Down b D) {i : Nat} (hi : i < D.length) : nth D i ∈ b := h.perm.mem_iff.1 (nth_mem hi)
theorem Up.mem {b D : List Int} (h : Up b D) {i : Nat} (hi : i < D.length) : nth D i ∈ b := h.perm.mem_iff.1 (nth_mem hi)
theorem down_ok {b : List Int} (hb : b.length ≤ 12) : ∃ m D, slices_Sort_int_int_m b = some m ∧ slices_Reverse_int_int_m m = some D ∧ Down b D := by
  obtain ⟨m, em, hm⟩ := sort_ok hb
  refine ⟨m, m.reverse, em, reverse_ok m (by have := hm.perm.length_eq; omega), (List.reverse_perm _).trans hm.perm, ?_⟩
  rw [List.pairwise_reverse]
  exact hm.asc.imp fun {x y} h => by simp at h; exact h
theorem up_ok {b : List Int} (hb : b.length ≤ 12) : ∃ A, slices_Sort_int_int_m b = some A ∧ Up b A := by
  obtain ⟨m, em, hm⟩ := sort_ok hb
  exact ⟨m, em, hm.perm, hm.asc.imp fun {x y} h => by simp at h; exact h⟩
/-- so many deal, at any price between those two -/
structure Met (D A : List Int) (n : Nat) : Prop where
  d : n ≤ D.length
  a : n ≤ A.length
  yes : ∀ i, i < n → nth A i ≤ nth D i
  no : n < D.length → n < A.length → nth D n < nth A n
theorem meet_ok {b s : List Int} (hb : Bids b) (hs : Bids s) : ∃ D A n, Down b D ∧ Up s A ∧ Met D A n ∧ (slices_Sort_int_int_m b).bind slices_Reverse_int_int_m = some D ∧ slices_Sort_int_int_m s = some A ∧
    units_Meet_m b s = some (if n = 0 then (0, 0, 0, 4) else ((n : Int), (if n < D.length ∧ nth A (n - 1) < nth D n then nth D n else nth A (n - 1)), (if n < A.length ∧ nth A n < nth D (n - 1) then nth A n else nth D (n - 1)), 0)) := by
  obtain ⟨m, D, em, eD, hD⟩ := down_ok (b := b) (by have := hb.1; omega)
  obtain ⟨A, eA, hA⟩ := up_ok (b := s) (by have := hs.1; omega)
  have hDl := hD.len
  have hAl := hA.len
  have hb1 := hb.1
  have hs1 := hs.1
  have hloop : Ok (loopM (γ := Unit) (units_Meet_b1 D A) 1048576 (0 : Int)) (FlOk (fun x => ∃ n : Nat, x = n ∧ Met D A n) (fun _ => False) (fun _ : Int × Int × Int × Int => False)) := by
    refine ok_loopM (fun (x : Int) => ∃ n : Nat, x = n ∧ n ≤ D.length ∧ n ≤ A.length ∧ ∀ i, i < n → nth A i ≤ nth D i) (fun x => (D.length - x).toNat) (fun x hx => ?_) _ _ ⟨0, rfl, by omega, by omega, fun i hi => by omega⟩ (by omega)
    obtain ⟨n, rfl, h1, h2, h3⟩ := hx
    unfold units_Meet_b1
    by_cases c1 : n < D.length
    · rw [if_pos (by rw [decide_eq_true_eq]; omega)]
      by_cases c2 : n < A.length
      · rw [if_pos (by rw [decide_eq_true_eq]; omega), idx_nat, nth_at c1, Option.bind_some, idx_nat, nth_at c2, Option.bind_some]
        by_cases c3 : nth A n ≤ nth D n
        · rw [decide_eq_true (by omega)]
          simp only [bindF]
          rw [if_pos trivial, wadd_of (by omega) (by omega), ok_some, flok_nx]
          refine ⟨⟨n + 1, by omega, by omega, by omega, fun i hi => ?_⟩, by omega⟩
          by_cases e : i = n
          · subst e; exact c3
          · exact h3 i (by omega)
        · rw [decide_eq_false (by omega)]
          simp only [bindF]
          rw [if_neg (by decide), ok_some, flok_br]
          exact ⟨n, rfl, h1, h2, h3, fun _ _ => by omega⟩
      · rw [if_neg (by rw [decide_eq_true_eq]; omega)]
        simp only [bindF]
        rw [if_neg (by decide), ok_some, flok_br]
        exact ⟨n, rfl, h1, h2, h3, fun _ h => by omega⟩
    · rw [if_neg (by rw [decide_eq_true_eq]; omega)]
      simp only [bindF]
      rw [if_neg (by decide), ok_some, flok_br]
      exact ⟨n, rfl, h1, h2, h3, fun h _ => by omega⟩
  obtain ⟨v, ev, hv⟩ := hloop
  cases v with
  | br _ => exact hv.elim
  | rt _ => exact hv.elim
  | nx x =>
    obtain ⟨n, rfl, hn⟩ := hv
    refine ⟨D, A, n, hD, hA, hn, by rw [em, Option.bind_some, eD], eA, ?_⟩
    unfold units_Meet_m
    rw [bids_check hb (by decide) (by decide), Option.bind_some, if_neg (by decide), bids_check hs (by decide) (by decide), Option.bind_some, if_neg (by decide), clone_int (by omega), Option.bind_some, clone_int (by omega), Option.bind_some, em, Option.bind_some, eD, Option.bind_some, eA, Option.bind_some, ev]
    simp only [bindR]
    by_cases h0 : n = 0
    · subst h0; rfl
    · have nd := hn.d
      have na := hn.a
      rw [if_neg (by rw [beq_iff_eq]; omega), if_neg h0, wsub_of (by omega) (by omega), show (n : Int) - 1 = ((n - 1 : Nat) : Int) by omega, idx_nat, nth_at (by omega), Option.bind_some, idx_nat, nth_at (by omega), Option.bind_some]
      by_cases c1 : n < D.length
      · rw [if_pos (by rw [decide_eq_true_eq]; omega), idx_nat, nth_at c1, Option.bind_some]
        by_cases c2 : n < A.length
        · simp only [c1, c2, true_and, gt_iff_lt]
          rw [if_pos (by rw [decide_eq_true_eq]; omega), idx_nat, nth_at c2, Option.bind_some]
        · simp only [c1, c2, true_and, false_and, gt_iff_lt, if_false]
          rw [if_neg (by rw [decide_eq_true_eq]; omega)]
      · rw [if_neg (by rw [decide_eq_true_eq]; omega)]
        by_cases c2 : n < A.length
        · simp only [c1, c2, true_and, false_and, gt_iff_lt, if_false]
          rw [if_pos (by rw [decide_eq_true_eq]; omega), idx_nat, nth_at c2, Option.bind_some]
        · simp only [c1, c2, false_and, gt_iff_lt, if_false]
          rw [if_neg (by rw [decide_eq_true_eq]; omega)]
/-- how many are so -/
theorem count_ok {γ ρ : Type} {bd : Nat → Int → Option (Fl ρ Int Int)} {l : List Int} {q : Int → Bool} (hl : l.length ≤ 1000) (h : ∀ i x, i < l.length → bd i x = some (.nx (if q (nth l i) = true then wadd x 1 else x))) : rangeN (γ := γ) bd l.length 0 (0 : Int) = some (.nx (l.countP q : Int)) := by
  have key : Ok (rangeN (γ := γ) bd l.length 0 (0 : Int)) (FlOk (fun x => x = (l.countP q : Int)) (fun _ => False) (fun _ => False)) := by
    refine ok_rangeN (fun k x => x = ((l.take k).countP q : Int)) (by simp) (fun k x hk hI => ?_) fun x hx => by rw [hx, List.take_length]
    subst hI
    have hc : (l.take k).countP q ≤ k := Nat.le_trans List.countP_le_length (by rw [List.length_take]; omega)
    rw [h k _ hk, ok_some, flok_nx, List.take_succ, List.countP_append, nth_at hk]
    by_cases hq : q (nth l k) = true
    · rw [if_pos hq, wadd_of (by omega) (by omega)]; simp [hq]
    · rw [if_neg hq]; simp [hq]
  obtain ⟨v, e, hv⟩ := key
  cases v with
  | br _ => exact hv.elim
  | rt _ => exact hv.elim
  | nx x => rw [flok_nx] at hv; rw [e, hv]
end Go.Pu
