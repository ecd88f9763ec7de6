/- The plain law: of two points the row of one and the place of the other one are a point, too. -/
import Derived.Test.YtocimbokgngofaaWSaddleSwapModels
import Derived.Test.YtocimbokgngofaaPuSad
import Derived.Test.YtocimbokgngofaaPuWithin
set_option linter.all false
namespace Go.Pu
open Go.Fw Go.Mo
theorem pt_swap {r c : Nat} {m : List (List Int)} {f : Nat → Nat → Int} (h : Tbl r c m f) {x y a b : Nat} (hx : x < r) (hy : y < c) (ha : a < r) (hb : b < c) (hp : isPt r c f x y = true) (hq : isPt r c f a b = true) : isPt r c f x b = true := by
  have v1 := (pt_val h hx hy hp).1
  have v2 := (pt_val h ha hb hq).1
  obtain ⟨p1, p2⟩ := isPt_iff.1 hp
  obtain ⟨q1, q2⟩ := isPt_iff.1 hq
  have e1 := p1 b hb
  have e2 := q2 x hx
  exact isPt_iff.2 ⟨fun k hk => by have := p1 k hk; omega, fun k hk => by have := q2 k hk; omega⟩
theorem SaddleSwap (x0 : List (List Int)) (_ : (∀ r ∈ x0, (∀ x ∈ r, (Lit.int .i64 x).wf = true) ∧ r.length ≤ maxLen) ∧ x0.length ≤ maxLen) (x1 : Int) (_ : (Lit.int .i64 x1).wf = true) (x2 : Int) (_ : (Lit.int .i64 x2).wf = true) : pk_SaddleSwap_m x0 x1 x2 = some true := by
  apply Ok.eq
  unfold pk_SaddleSwap_m
  rw [saddles_t, Option.bind_some, if_neg (by decide)]
  rcases sad_split x0 with ⟨r, c, f, h⟩ | ⟨e, he, hc⟩
  · rw [points_sad h, Option.bind_some]
    simp only [bne_self_eq_false, Bool.false_eq_true, if_false]
    rw [ok_bindR, ok_some, flok_nx]
    by_cases hz : (ptsL c (isPt r c f) r).length = 0
    · rw [hz]; simp [ok_some]
    · rw [if_neg (by rw [beq_iff_eq]; omega)]
      have hle := @len_ptsL_le r c (isPt r c f)
      have : r * c ≤ 6 * 6 := Nat.mul_le_mul h.r6 h.c6
      have key : ∀ z : Int, ∃ k : Nat, k < (ptsL c (isPt r c f) r).length ∧ z % ((ptsL c (isPt r c f) r).length : Int) = k := fun z => ⟨(z % ((ptsL c (isPt r c f) r).length : Int)).toNat, by have := Int.emod_lt_of_pos z (show (0 : Int) < (ptsL c (isPt r c f) r).length by omega); omega, by have := Int.emod_nonneg z (show ((ptsL c (isPt r c f) r).length : Int) ≠ 0 by omega); omega⟩
      obtain ⟨i, hi, ei⟩ := key x1
      obtain ⟨k, hk, ek⟩ := key x2
      obtain ⟨x, y, hx, hy, hp, e1⟩ := mem_ptsL.1 (nth_mem hi)
      obtain ⟨a, b, ha, hb, hq, e2⟩ := mem_ptsL.1 (nth_mem hk)
      have m1 := mem_ptsL.2 ⟨x, b, hx, hb, pt_swap h hx hy ha hb hp hq, rfl⟩
      have m2 := mem_ptsL.2 ⟨a, y, ha, hy, pt_swap h ha hb hx hy hq hp, rfl⟩
      have i0 : ∀ x y : Nat, idx [(x : Int), (y : Int)] (0 : Int) = some (x : Int) := fun _ _ => rfl
      have i1 : ∀ x y : Nat, idx [(x : Int), (y : Int)] (1 : Int) = some (y : Int) := fun _ _ => rfl
      rw [within_at x1 ((ptsL c (isPt r c f) r).length : Int) (by omega) (by omega), Option.bind_some, ei, idx_nat, nth_at hi, Option.bind_some, within_at x2 ((ptsL c (isPt r c f) r).length : Int) (by omega) (by omega), Option.bind_some, ek, idx_nat, nth_at hk, Option.bind_some, e1, e2]
      simp only [i0, i1, Option.bind_some, contains_pairs_ok, decide_eq_true m1, decide_eq_true m2, if_true]
      simp [ok_bindR, ok_some, flok_nx]
  · rw [points_no he hc, Option.bind_some]
    have hb : (e != 0) = true := by simpa using he
    simp only [hb, if_true]
    simp [ok_bindR, ok_some, flok_nx]
end Go.Pu
