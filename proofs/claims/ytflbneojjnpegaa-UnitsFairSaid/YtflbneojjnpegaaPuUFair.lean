/- The plain law: with a deal less nobody could have more by telling another price. -/
import Derived.Test.YtflbneojjnpegaaWUnitsFairModels
import Derived.Test.YtflbneojjnpegaaPuMeet
set_option linter.all false
namespace Go.Pu
open Go.Fw Go.Mo
theorem fair_ok {b s : List Int} (hb : Bids b) (hs : Bids s) : ∃ D A n, Down b D ∧ Up s A ∧ Met D A n ∧ units_Fair_m b s = some (if n = 0 then (0, 0, 0, 4) else (((n - 1 : Nat) : Int), nth D (n - 1), nth A (n - 1), 0)) := by
  obtain ⟨D, A, n, hD, hA, hn, e1, e2, em⟩ := meet_ok hb hs
  refine ⟨D, A, n, hD, hA, hn, ?_⟩
  have nd := hn.d
  have na := hn.a
  have hDl := hD.len
  have hb1 := hb.1
  have hs1 := hs.1
  unfold units_Fair_m
  rw [em, Option.bind_some]
  by_cases h0 : n = 0
  · subst h0; rfl
  · rw [if_neg h0, if_neg h0]
    dsimp only
    obtain ⟨m, e3, e4⟩ := Option.bind_eq_some_iff.1 e1
    rw [if_neg (by decide), clone_int (by omega), Option.bind_some, clone_int (by omega), Option.bind_some, e3, Option.bind_some, e4, Option.bind_some, e2, Option.bind_some, wsub_of (by omega) (by omega), show (n : Int) - 1 = ((n - 1 : Nat) : Int) by omega, idx_nat, nth_at (by omega), Option.bind_some, idx_nat, nth_at (by omega), Option.bind_some]
theorem fair_t : units_Fair_m [9, 5, 2] [3, 4, 7] = some (1, 5, 4, 0) := by decide +kernel
theorem count_set {q : Int → Bool} {l : List Int} {i : Nat} {x : Int} (hi : i < l.length) : (l.set i x).countP q + (if q (nth l i) = true then 1 else 0) = l.countP q + (if q x = true then 1 else 0) := by
  rw [List.countP_set hi, ← nth_get hi]
  have : q (nth l i) = true → 0 < l.countP q := fun h => List.countP_pos_iff.2 ⟨_, nth_mem hi, h⟩
  split <;> split <;> simp_all <;> omega
/-- he who pays more than the price has it with another bid for no less -/
theorem fair_law {b s D A D' A' : List Int} {n n' i : Nat} {x : Int} (hi : i < b.length) (hD : Down b D) (hA : Up s A) (hn : Met D A n) (hD' : Down (b.set i x) D') (hA' : Up s A') (hn' : Met D' A' n') (n0 : n ≠ 0) (n0' : n' ≠ 0) (h1 : nth D (n - 1) < nth b i) (h2 : nth D' (n' - 1) < x) : nth D (n - 1) ≤ nth D' (n' - 1) := by
  apply Int.le_of_not_gt; intro hlt
  have e1 := hD.len; have e2 := hD'.len; have e3 := hA.len; have e4 := hA'.len
  rw [List.length_set] at e2
  have d1 := hn.d; have d2 := hn'.d; have a1 := hn.a; have a2 := hn'.a
  -- those who bid as much as the price
  have g1 := (hD.ge (nth D (n - 1)) (i := n - 1) (by omega)).1 (Int.le_refl _)
  have g2 : b.countP (fun v => decide (nth D (n - 1) ≤ v)) ≤ b.countP (fun v => decide (nth D' (n' - 1) < v)) := List.countP_mono_left fun v _ h => by rw [decide_eq_true_eq] at h ⊢; omega
  have s1 := count_set (q := fun v => decide (nth D' (n' - 1) < v)) (x := x) hi
  rw [if_pos (by rw [decide_eq_true_eq]; omega), if_pos (by rw [decide_eq_true_eq]; omega)] at s1
  have g3 : (b.set i x).countP (fun v => decide (nth D' (n' - 1) < v)) ≤ n' - 1 := by
    apply Nat.le_of_not_lt; intro h
    have := (hD'.gt (nth D' (n' - 1)) (i := n' - 1) (by omega)).2 h
    omega
  -- one more deals now
  have hAA : nth A n = nth A' n := by
    have p1 := (hA.le (nth A' n) (i := n) (by omega)).2 ((hA'.le (nth A' n) (i := n) (by omega)).1 (Int.le_refl _))
    have p2 := (hA'.le (nth A n) (i := n) (by omega)).2 ((hA.le (nth A n) (i := n) (by omega)).1 (Int.le_refl _))
    omega
  have y1 := hn'.yes (n' - 1) (by omega)
  have y2 := hA'.mono (i := n) (j := n' - 1) (by omega) (by omega)
  have g4 := (hD'.ge (nth A n) (i := n' - 1) (by omega)).1 (by omega)
  have s2 := count_set (q := fun v => decide (nth A n ≤ v)) (x := x) hi
  rw [if_pos (by rw [decide_eq_true_eq]; omega), if_pos (by rw [decide_eq_true_eq]; omega)] at s2
  have c1 : b.countP (fun v => decide (nth A n ≤ v)) ≤ b.length := List.countP_le_length
  have g5 := (hD.ge (nth A n) (i := n) (by omega)).2 (by omega)
  have := hn.no (by omega) (by omega)
  omega
theorem UnitsFair (x0 : List Int) (h0 : (∀ x ∈ x0, (Lit.int .i64 x).wf = true) ∧ x0.length ≤ maxLen) (x1 : List Int) (h1 : (∀ x ∈ x1, (Lit.int .i64 x).wf = true) ∧ x1.length ≤ maxLen) (x2 : Int) (_ : (Lit.int .i64 x2).wf = true) (x3 : Int) (_ : (Lit.int .i64 x3).wf = true) : pk_UnitsFair_m x0 x1 x2 x3 = some true := by
  obtain ⟨b, eb, hbl, hb⟩ := bidsOf_ok x0 h0.2
  obtain ⟨s, es, hsl, hs⟩ := bidsOf_ok x1 h1.2
  have hB : Bids b := ⟨by omega, fun x hx => by have := hb x hx; omega⟩
  have hS : Bids s := ⟨by omega, fun x hx => by have := hs x hx; omega⟩
  obtain ⟨D, A, n, hD, hA, hn, em⟩ := fair_ok hB hS
  have hDl := hD.len
  have hAl := hA.len
  have nd := hn.d
  have na := hn.a
  unfold pk_UnitsFair_m
  rw [fair_t, Option.bind_some]
  dsimp only
  rw [if_neg (by decide), if_neg (by decide), if_neg (by decide), if_neg (by decide), sells_t]
  simp only [Option.bind_some, bindR, Bool.not_true, Bool.false_eq_true, if_false, eb, es, em]
  by_cases n0 : n = 0
  · subst n0; rfl
  rw [if_neg n0]
  dsimp only
  have vA := hs _ (hA.mem (i := n - 1) (by omega))
  have vD := hb _ (hD.mem (i := n - 1) (by omega))
  have y1 := hn.yes (n - 1) (by omega)
  rw [if_neg (by decide), count_ok (γ := Unit) (ρ := Bool) (q := fun v => decide (nth D (n - 1) < v)) (l := b) (by omega) (fun i x hi => by
    unfold pk_UnitsFair_b1
    rw [idx_nat, nth_at hi, Option.bind_some]
    by_cases h : nth D (n - 1) < nth b i
    · simp [h]
    · simp [h])]
  dsimp only
  rw [count_ok (γ := Unit) (ρ := Bool) (q := fun v => decide (v < nth A (n - 1))) (l := s) (by omega) (fun i x hi => by
    unfold pk_UnitsFair_b2
    rw [idx_nat, nth_at hi, Option.bind_some]
    by_cases h : nth s i < nth A (n - 1)
    · simp [h]
    · simp [h])]
  dsimp only
  have k1 : b.countP (fun v => decide (nth D (n - 1) < v)) ≤ n - 1 := by
    apply Nat.le_of_not_lt; intro hh
    have := (hD.gt (nth D (n - 1)) (i := n - 1) (by omega)).2 hh
    omega
  have k2 : s.countP (fun v => decide (v < nth A (n - 1))) ≤ n - 1 := by
    apply Nat.le_of_not_lt; intro hh
    have := (hA.lt (nth A (n - 1)) (i := n - 1) (by omega)).2 hh
    omega
  rw [if_neg (by rw [decide_eq_true_eq]; omega), if_neg (by rw [decide_eq_true_eq]; omega), if_neg (by rw [decide_eq_true_eq]; omega)]
  dsimp only
  rw [if_neg (by rw [decide_eq_true_eq]; omega), within_at x2 (b.length : Int) (by omega) (by omega), within_at x3 130 (by decide) (by decide), clone_int (by omega)]
  simp only [Option.bind_some]
  have b0 := Int.emod_nonneg x3 (b := 130) (by decide)
  have b1 := Int.emod_lt_of_pos x3 (b := 130) (by decide)
  have c0 := Int.emod_nonneg x2 (b := (b.length : Int)) (by omega)
  have c1 := Int.emod_lt_of_pos x2 (b := (b.length : Int)) (by omega)
  obtain ⟨i, hi⟩ : ∃ i : Nat, x2 % (b.length : Int) = i := ⟨(x2 % (b.length : Int)).toNat, by omega⟩
  rw [hi] at c0 c1 ⊢
  have hil : i < b.length := by omega
  rw [idx_nat, nth_at hil, Option.bind_some, Int.toNat_natCast]
  obtain ⟨D', A', n', hD', hA', hn', em'⟩ := fair_ok (b := b.set i (x3 % 130)) (s := s) ⟨by rw [List.length_set]; omega, fun x hx => by
    rcases List.mem_or_eq_of_mem_set hx with hx | rfl
    · exact hB.2 x hx
    · omega⟩ hS
  rw [em', Option.bind_some, Option.bind_some]
  by_cases q1 : nth D (n - 1) < nth b i
  · rw [if_pos (by rw [decide_eq_true_eq]; omega)]
    by_cases n1 : n' = 0
    · subst n1; rfl
    · rw [if_neg n1]
      dsimp only
      rw [if_pos (by decide)]
      by_cases q2 : nth D' (n' - 1) < x3 % 130
      · have := fair_law hil hD hA hn hD' hA' hn' n0 n1 q1 q2
        rw [decide_eq_true (by omega)]
        simp
        omega
      · rw [decide_eq_false (by omega)]; rfl
  · rw [if_neg (by rw [decide_eq_true_eq]; omega)]; rfl
end Go.Pu
