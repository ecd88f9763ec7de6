/- The plain law: at each price between both just so many can deal; and no more. -/
import Derived.Test.YtflbneojjnpegaaWUnitsMeetModels
import Derived.Test.YtflbneojjnpegaaPuMeet
import Derived.Test.YtflbneojjnpegaaPuMax
import Derived.Test.YtflbneojjnpegaaPuMin
import Derived.Test.YtflbneojjnpegaaPuFl
set_option linter.all false
namespace Go.Pu
open Go.Fw Go.Mo
theorem count_le_of {b : List Int} {q r : Int → Bool} (h : ∀ x, q x = true → r x = true) : b.countP q ≤ b.countP r := List.countP_mono_left fun x _ => h x
/-- two countings at once -/
theorem count2_ok {bd : Nat → Int × Int → Option (Fl Bool (Int × Int) (Int × Int))} {l : List Int} {q r : Int → Bool} (hl : l.length ≤ 1000) (h : ∀ i x y, i < l.length → bd i (x, y) = some (.nx (if q (nth l i) = true then wadd x 1 else x, if r (nth l i) = true then wadd y 1 else y))) : rangeN (γ := Unit) bd l.length 0 ((0 : Int), (0 : Int)) = some (.nx ((l.countP q : Int), (l.countP r : Int))) := by
  have key : Ok (rangeN (γ := Unit) bd l.length 0 ((0 : Int), (0 : Int))) (FlOk (fun x => x = ((l.countP q : Int), (l.countP r : Int))) (fun _ => False) (fun _ => False)) := by
    refine ok_rangeN (fun k x => x = (((l.take k).countP q : Int), ((l.take k).countP r : Int))) (by simp) (fun k x hk hI => ?_) fun x hx => by rw [hx, List.take_length]
    subst hI
    have hc : (l.take k).countP q ≤ k := Nat.le_trans List.countP_le_length (by rw [List.length_take]; omega)
    have hd : (l.take k).countP r ≤ k := Nat.le_trans List.countP_le_length (by rw [List.length_take]; omega)
    rw [h k _ _ hk, ok_some, flok_nx, List.take_succ, List.countP_append, List.countP_append, nth_at hk, Prod.mk.injEq]
    constructor
    · by_cases hq : q (nth l k) = true
      · rw [if_pos hq, wadd_of (by omega) (by omega)]; simp [hq]
      · rw [if_neg hq]; simp [hq]
    · by_cases hq : r (nth l k) = true
      · rw [if_pos hq, wadd_of (by omega) (by omega)]; simp [hq]
      · rw [if_neg hq]; simp [hq]
  obtain ⟨v, e, hv⟩ := key
  cases v with
  | br _ => exact hv.elim
  | rt _ => exact hv.elim
  | nx x => rw [flok_nx] at hv; rw [e, hv]
theorem UnitsMeet (x0 : List Int) (h0 : (∀ x ∈ x0, (Lit.int .i64 x).wf = true) ∧ x0.length ≤ maxLen) (x1 : List Int) (h1 : (∀ x ∈ x1, (Lit.int .i64 x).wf = true) ∧ x1.length ≤ maxLen) (x2 : Int) (_ : (Lit.int .i64 x2).wf = true) : pk_UnitsMeet_m x0 x1 x2 = some true := by
  obtain ⟨b, eb, hbl, hb⟩ := bidsOf_ok x0 h0.2
  obtain ⟨s, es, hsl, hs⟩ := bidsOf_ok x1 h1.2
  obtain ⟨D, A, n, hD, hA, hn, _, _, em⟩ := meet_ok (b := b) (s := s) ⟨by omega, fun x hx => by have := hb x hx; omega⟩ ⟨by omega, fun x hx => by have := hs x hx; omega⟩
  have hDl := hD.len
  have hAl := hA.len
  have nd := hn.d
  have na := hn.a
  apply Ok.eq
  unfold pk_UnitsMeet_m
  rw [sells_t, Option.bind_some, if_neg (by decide), eb, Option.bind_some, es, Option.bind_some, em, Option.bind_some]
  by_cases n0 : n = 0
  · subst n0
    dsimp only
    rw [if_pos rfl]
    dsimp only
    rw [if_pos (by decide), if_pos (by decide), ok_bindR]
    by_cases c1 : b.length = 0
    · rw [if_pos (by rw [beq_iff_eq]; omega), ok_some, flok_nx, ok_some]
    · rw [if_neg (by rw [beq_iff_eq]; omega)]
      by_cases c2 : s.length = 0
      · rw [if_pos (by rw [beq_iff_eq]; omega), ok_some, flok_nx, ok_some]
      · rw [if_neg (by rw [beq_iff_eq]; omega)]
        obtain ⟨mx, e1, m1, m2⟩ := max_ok (l := b) (by omega) (by omega)
        obtain ⟨mn, e2, m3, m4⟩ := min_ok (l := s) (by omega) (by omega)
        rw [e1, Option.bind_some, e2, Option.bind_some, ok_some, flok_nx, ok_some, decide_eq_true_eq]
        have := hn.no (by omega) (by omega)
        obtain ⟨i, hi, e3⟩ := mem_nth (hD.perm.mem_iff.2 m1)
        obtain ⟨j, hj, e4⟩ := mem_nth (hA.perm.mem_iff.2 m3)
        have := hD.mono (Nat.zero_le i) hi
        have := hA.mono (Nat.zero_le j) hj
        omega
  · rw [if_neg n0]
    dsimp only
    rw [if_neg (by decide)]
    -- the highest number
    have hAn := hA.mono (i := 0) (j := n - 1) (by omega) (by omega)
    have vA := hs _ (hA.mem (i := n - 1) (by omega))
    have vD := hb _ (hD.mem (i := n - 1) (by omega))
    have top : ∀ p : Int, ¬ (n < b.countP (fun v => decide (p ≤ v)) ∧ n < s.countP (fun v => decide (v ≤ p))) := by
      intro p ⟨h1, h2⟩
      have l1 : b.countP (fun v => decide (p ≤ v)) ≤ b.length := List.countP_le_length
      have l2 : s.countP (fun v => decide (v ≤ p)) ≤ s.length := List.countP_le_length
      have g1 := (hD.ge p (i := n) (by omega)).2 h1
      have g2 := (hA.le p (i := n) (by omega)).2 h2
      have := hn.no (by omega) (by omega)
      omega
    have low : n - 1 < b.countP (fun v => decide (nth A (n - 1) ≤ v)) ∧ n - 1 < s.countP (fun v => decide (v ≤ nth A (n - 1))) :=
      ⟨(hD.ge _ (i := n - 1) (by omega)).1 (hn.yes _ (by omega)), (hA.le _ (i := n - 1) (by omega)).1 (Int.le_refl _)⟩
    rw [ok_bindR]
    refine Ok.fl (N := fun s : Int × Int => s.1 = n) (B := fun _ => False) (R := fun _ => False) (ok_loopM (fun st : Int × Int => 0 ≤ st.2 ∧ st.2 ≤ 101 ∧ 0 ≤ st.1 ∧ st.1 ≤ n ∧ (nth A (n - 1) < st.2 → st.1 = n)) (fun st => (101 - st.2).toNat) (fun st hst => ?_) _ _ ⟨by decide, by decide, by decide, by omega, fun h => by dsimp only at h; omega⟩ (by decide)) (fun st hst => ?_) (fun _ h => h.elim) (fun _ h => h.elim)
    · obtain ⟨m, p⟩ := st
      obtain ⟨s1, s2, s3, s4, s5⟩ := hst
      dsimp only at s1 s2 s3 s4 s5
      unfold pk_UnitsMeet_b1
      dsimp only
      by_cases hp : p < 101
      · rw [if_pos (by rw [decide_eq_true_eq]; exact hp)]
        rw [count_ok (γ := Int × Int) (ρ := Bool) (q := fun v => decide (p ≤ v)) (l := b) (by omega) (fun i x hi => by
          unfold pk_UnitsMeet_b2
          rw [idx_nat, nth_at hi, Option.bind_some]
          by_cases h : p ≤ nth b i
          · simp [h]
          · simp [h])]
        simp only [bindF]
        rw [count_ok (γ := Int × Int) (ρ := Bool) (q := fun v => decide (v ≤ p)) (l := s) (by omega) (fun i x hi => by
          unfold pk_UnitsMeet_b3
          rw [idx_nat, nth_at hi, Option.bind_some]
          by_cases h : nth s i ≤ p
          · simp [h]
          · simp [h])]
        dsimp only
        have tp := top p
        rw [wadd_of (by omega) (by omega), ok_some, flok_nx]
        refine ⟨⟨by dsimp only; omega, by dsimp only; omega, by dsimp only; split <;> split <;> omega, by dsimp only; split <;> split <;> omega, fun h => ?_⟩, by dsimp only; omega⟩
        dsimp only at h ⊢
        by_cases he : p = nth A (n - 1)
        · rw [← he] at low
          split <;> split <;> omega
        · have := s5 (by omega)
          split <;> split <;> omega
      · rw [if_neg (by rw [decide_eq_true_eq]; exact hp), ok_some, flok_br]
        exact s5 (by omega)
    · obtain ⟨m, p⟩ := st
      dsimp only at hst
      subst hst
      dsimp only
      generalize hlo : (if n < D.length ∧ nth A (n - 1) < nth D n then nth D n else nth A (n - 1)) = lo
      generalize hhi : (if n < A.length ∧ nth A n < nth D (n - 1) then nth A n else nth D (n - 1)) = hi
      have y1 := hn.yes (n - 1) (by omega)
      have f1 : lo ≤ hi ∧ nth A (n - 1) ≤ lo ∧ hi ≤ nth D (n - 1) ∧ (n < D.length → nth D n ≤ lo) ∧ (n < A.length → hi ≤ nth A n) := by
        have lo1 : n < D.length → nth A (n - 1) < nth D n → lo = nth D n := fun c1 c => by rw [← hlo, if_pos ⟨c1, c⟩]
        have lo2 : ¬ (n < D.length ∧ nth A (n - 1) < nth D n) → lo = nth A (n - 1) := fun c => by rw [← hlo, if_neg c]
        have hi1 : n < A.length → nth A n < nth D (n - 1) → hi = nth A n := fun c1 c => by rw [← hhi, if_pos ⟨c1, c⟩]
        have hi2 : ¬ (n < A.length ∧ nth A n < nth D (n - 1)) → hi = nth D (n - 1) := fun c => by rw [← hhi, if_neg c]
        have d1 : n < D.length → nth D n ≤ nth D (n - 1) := fun c => hD.mono (by omega) c
        have d2 : n < A.length → nth A (n - 1) ≤ nth A n := fun c => hA.mono (by omega) c
        have d3 := hn.no
        clear hlo hhi
        by_cases c1 : n < D.length <;> by_cases c2 : n < A.length <;> by_cases c3 : nth A (n - 1) < nth D n <;> by_cases c4 : nth A n < nth D (n - 1) <;> grind
      obtain ⟨f1, f2, f3, f4, f5⟩ := f1
      rw [ok_bindR, if_neg (by rw [decide_eq_true_eq]; omega), ok_some, flok_nx, if_neg (by simp), wsub_of (by omega) (by omega), wadd_of (by omega) (by omega), within_at x2 _ (by omega) (by omega), Option.bind_some]
      have a0 := Int.emod_nonneg x2 (b := hi - lo + 1) (by omega)
      have a1 := Int.emod_lt_of_pos x2 (b := hi - lo + 1) (by omega)
      generalize x2 % (hi - lo + 1) = at_ at a0 a1
      rw [count2_ok (q := fun v => decide (lo + at_ < v)) (r := fun v => decide (lo + at_ ≤ v)) (by omega) (fun i x y hi => by
        unfold pk_UnitsMeet_b4
        dsimp only
        rw [idx_nat, nth_at hi, Option.bind_some]
        rw [wadd_of (by omega) (by omega)]
        by_cases h : lo + at_ < nth b i
        · have h' : lo + at_ ≤ nth b i := by omega
          simp [h, h', bindF]
        · by_cases h' : lo + at_ ≤ nth b i
          · simp [h, h', bindF]
          · simp [h, h', bindF])]
      simp only [bindR]
      rw [count2_ok (q := fun v => decide (v < lo + at_)) (r := fun v => decide (v ≤ lo + at_)) (by omega) (fun i x y hi => by
        unfold pk_UnitsMeet_b5
        dsimp only
        rw [idx_nat, nth_at hi, Option.bind_some]
        rw [wadd_of (by omega) (by omega)]
        by_cases h : nth s i < lo + at_
        · have h' : nth s i ≤ lo + at_ := by omega
          simp [h, h', bindF]
        · by_cases h' : nth s i ≤ lo + at_
          · simp [h, h', bindF]
          · simp [h, h', bindF])]
      dsimp only
      have k1 : b.countP (fun v => decide (lo + at_ < v)) ≤ n := by
        apply Nat.le_of_not_lt; intro hh
        have := List.countP_le_length (p := fun v => decide (lo + at_ < v)) (l := b)
        have := (hD.gt (lo + at_) (i := n) (by omega)).2 hh
        have := f4 (by omega); omega
      have k2 : s.countP (fun v => decide (v < lo + at_)) ≤ n := by
        apply Nat.le_of_not_lt; intro hh
        have := List.countP_le_length (p := fun v => decide (v < lo + at_)) (l := s)
        have := (hA.lt (lo + at_) (i := n) (by omega)).2 hh
        have := f5 (by omega); omega
      have k3 := (hD.ge (lo + at_) (i := n - 1) (by omega)).1 (by omega)
      have k4 := (hA.le (lo + at_) (i := n - 1) (by omega)).1 (by omega)
      rw [if_pos (by rw [decide_eq_true_eq]; omega), if_pos (by rw [decide_eq_true_eq]; omega), if_pos (by rw [decide_eq_true_eq]; omega), ok_some, decide_eq_true_eq]
      omega
end Go.Pu
