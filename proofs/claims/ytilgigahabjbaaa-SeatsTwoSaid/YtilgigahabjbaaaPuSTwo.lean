/- The plain law: of two parties it is the same by odd numbers and by parts. -/
import Derived.Test.YtilgigahabjbaaaWSeatsTwoModels
import Derived.Test.YtilgigahabjbaaaPuParts
import Derived.Test.YtilgigahabjbaaaPuGood
import Derived.Test.YtilgigahabjbaaaPuEq
set_option linter.all false
namespace Go.Pu
open Go.Fw Go.Mo
theorem SeatsTwo (x0 : Int) (_ : (Lit.int .i64 x0).wf = true) (x1 : Int) (_ : (Lit.int .i64 x1).wf = true) (x2 : Int) (_ : (Lit.int .i64 x2).wf = true) : pk_SeatsTwo_m x0 x1 x2 = some true := by
  have a0 := Int.emod_nonneg x2 (b := 101) (by decide)
  have a1 := Int.emod_lt_of_pos x2 (b := 101) (by decide)
  have b0 := Int.emod_nonneg x1 (b := 500) (by decide)
  have b1 := Int.emod_lt_of_pos x1 (b := 500) (by decide)
  obtain ⟨h, hh⟩ : ∃ h : Nat, x2 % 101 = (h : Int) := ⟨(x2 % 101).toNat, by omega⟩
  obtain ⟨x, hx0, hx2, hx⟩ := one_within x0 500 (by decide) (by decide)
  rw [show ((500 : Nat) : Int) = 500 from rfl] at hx
  obtain ⟨y, hy⟩ : ∃ y : Nat, x1 % 500 = (y : Int) := ⟨(x1 % 500).toNat, by omega⟩
  have hp : People [(x : Int), (y : Int)] := ⟨by simp, by simp, fun k hk => by
    match k, hk with
    | 0, _ => rw [nth_cons_zero]; omega
    | 1, _ => rw [nth_cons_succ, nth_cons_zero]; omega, by simp; omega⟩
  obtain ⟨a, ea, da⟩ := share_div hp (h := h) (by omega) (w := 2) (by omega) (by omega)
  obtain ⟨b, P, eb, H⟩ := parts_ok hp (h := h) (by omega)
  have hla : a.length = 2 := da.len
  have hlb : b.length = 2 := H.len
  have sa : pk_sum_m a = some (h : Int) := by rw [psum_ok (B := 1000) (by omega) (fun k hk => by have := da.val k (by rw [← da.len]; exact hk); omega) (by rw [da.len]; simp), da.sum]
  have heq : a = b := by
    have fin : nth a 0 = nth b 0 ∧ nth a 1 = nth b 1 := by
      have p0 : nth [(x : Int), (y : Int)] 0 = x := rfl
      have p1 : nth [(x : Int), (y : Int)] 1 = y := rfl
      have hs : ([(x : Int), (y : Int)] : List Int).sum = x + y := by simp
      have sum_a := da.sum
      rw [sum_sumN a, hla] at sum_a
      simp only [sumN] at sum_a
      have hsum := H.sum
      rw [show ([(x : Int), (y : Int)] : List Int).length = 2 from rfl] at hsum
      simp only [sumN] at hsum
      have f01 := da.fair (by omega) (fun k hk => (hp.val k hk).1) 0 1 (by simp) (by simp)
      have f10 := da.fair (by omega) (fun k hk => (hp.val k hk).1) 1 0 (by simp) (by simp)
      rw [p0, p1] at f01 f10
      have o01 := H.ord 0 1 (by simp) (by simp)
      have o10 := H.ord 1 0 (by simp) (by simp)
      have q0 := quo_rst hp h 0
      have q1 := quo_rst hp h 1
      rw [hs, p0] at q0
      rw [hs, p1] at q1
      have v0 := da.val 0 (by simp)
      have v1 := da.val 1 (by simp)
      have e0 := H.at_ 0 (by simp)
      have e1 := H.at_ 1 (by simp)
      generalize quo [(x : Int), (y : Int)] h 0 = Q0 at *
      generalize quo [(x : Int), (y : Int)] h 1 = Q1 at *
      generalize rst [(x : Int), (y : Int)] h 0 = R0 at *
      generalize rst [(x : Int), (y : Int)] h 1 = R1 at *
      generalize nth a 0 = A0 at *
      generalize nth a 1 = A1 at *
      -- how far the first one's seats are from his part
      have up : (x + y : Int) * (2 * A0) ≤ 2 * (x * h) + (x + y) := by
        by_cases hz : A0 = 0
        · subst hz; have := Int.mul_nonneg (show (0 : Int) ≤ x by omega) (show (0 : Int) ≤ h by omega); omega
        · have := f01 (by omega)
          have e : A1 = h - A0 := by omega
          subst e
          have g : (y : Int) * (2 * (A0 - 1) + 1) ≤ x * (2 * (h - A0) + 1) := by omega
          grind
      have lo : 2 * (x * h) - (x + y) < (x + y : Int) * (2 * A0) := by
        by_cases hz : A1 = 0
        · have e : A0 = h := by omega
          subst e
          have := Int.mul_nonneg (show (0 : Int) ≤ y by omega) (show (0 : Int) ≤ h by omega)
          grind
        · have := f10 (by omega)
          have e : A1 = h - A0 := by omega
          have g : (x : Int) * (2 * (A1 - 1) + 1) < y * (2 * A0 + 1) := by omega
          subst e
          grind
      have hb : ∀ i, bi (P i) = 0 ∨ bi (P i) = 1 := fun i => by unfold bi; split <;> simp
      have hP : ∀ i, (P i = true ↔ bi (P i) = 1) ∧ (P i = false ↔ bi (P i) = 0) := fun i => by cases P i <;> simp [bi]
      rw [(hP 0).1, (hP 1).2] at o01
      rw [(hP 1).1, (hP 0).2] at o10
      have hb0 := hb 0
      have hb1 := hb 1
      generalize bi (P 0) = B0 at *
      generalize bi (P 1) = B1 at *
      -- the rests are nothing, or as much as all together
      have tot : (x + y : Int) * (B0 + B1) = R0 + R1 := by
        have : (x + y : Int) * Q0 + R0 + ((x + y : Int) * Q1 + R1) = (x + y) * h := by grind
        have : (h : Int) = Q0 + B0 + (Q1 + B1) := by omega
        grind
      have key : A0 = Q0 + B0 := by
        have c1 : (x + y : Int) * (2 * A0 - 2 * Q0) ≤ 2 * R0 + (x + y) := by grind
        have c2 : 2 * R0 - (x + y) < (x + y : Int) * (2 * A0 - 2 * Q0) := by grind
        have hpos : (0 : Int) < x + y := by omega
        have hd : A0 - Q0 = 0 ∨ A0 - Q0 = 1 := by
          refine Classical.byContradiction fun hn => ?_
          have : A0 - Q0 ≤ -1 ∨ 2 ≤ A0 - Q0 := by omega
          rcases this with h | h
          · have := Int.mul_le_mul_of_nonneg_left (show 2 * A0 - 2 * Q0 ≤ -2 by omega) (show (0 : Int) ≤ x + y by omega); omega
          · have := Int.mul_le_mul_of_nonneg_left (show 4 ≤ 2 * A0 - 2 * Q0 by omega) (show (0 : Int) ≤ x + y by omega); omega
        rcases hd with h | h
        · have e : 2 * A0 - 2 * Q0 = 0 := by omega
          rw [e] at c1 c2
          rcases hb0 with g0 | g0 <;> rcases hb1 with g1 | g1 <;> subst g0 g1 <;> omega
        · have e : 2 * A0 - 2 * Q0 = 2 := by omega
          rw [e] at c1 c2
          rcases hb0 with g0 | g0 <;> rcases hb1 with g1 | g1 <;> subst g0 g1 <;> omega
      constructor <;> omega
    refine nth_ext (by rw [hla, hlb]) fun k hk => ?_
    rw [hla] at hk
    have : k = 0 ∨ k = 1 := by omega
    rcases this with rfl | rfl
    · exact fin.1
    · exact fin.2
  apply Ok.eq
  unfold pk_SeatsTwo_m
  rw [shares_t]
  simp only [Option.bind_some, Bool.not_true, Bool.false_eq_true, if_false, within_at x0 500 (by decide) (by decide), within_at x1 500 (by decide) (by decide), within_at x2 101 (by decide) (by decide), hh, hx, hy, ea, eb, good_at]
  rw [← heq]
  simp [ok_bind, ok_bindR, ok_ite, ok_some, flok_nx, equal_ok, sa]
end Go.Pu
