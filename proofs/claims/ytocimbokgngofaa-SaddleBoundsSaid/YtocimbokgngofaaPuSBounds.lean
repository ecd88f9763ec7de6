/- The plain law: the one is never sure of more than the other one can hold him to; of as much just if there is a point. -/
import Derived.Test.YtocimbokgngofaaWSaddleBoundsModels
import Derived.Test.YtocimbokgngofaaPuSad
set_option linter.all false
namespace Go.Pu
open Go.Fw Go.Mo
theorem SaddleBounds (x0 : List (List Int)) (_ : (∀ r ∈ x0, (∀ x ∈ r, (Lit.int .i64 x).wf = true) ∧ r.length ≤ maxLen) ∧ x0.length ≤ maxLen) : pk_SaddleBounds_m x0 = some true := by
  apply Ok.eq
  unfold pk_SaddleBounds_m
  rw [saddles_t, Option.bind_some, if_neg (by decide)]
  rcases sad_split x0 with ⟨r, c, f, h⟩ | ⟨e, he, hc⟩
  · rw [bounds_ok h, Option.bind_some, points_sad h, Option.bind_some]
    simp only [bne_self_eq_false, Bool.false_eq_true, if_false]
    rw [ok_bindR, ok_some, flok_nx, if_neg (by decide), ok_bindR]
    refine ok_rangeN (fun _ _ => True) trivial (fun i u hi _ => ?_) fun _ _ => ?_
    · obtain ⟨x, y, hx, hy, hp, e⟩ := mem_ptsL.1 (nth_mem hi)
      have hv := (pt_val h hx hy hp).1
      have hl := h.mat.len
      have i0 : idx [(x : Int), (y : Int)] (0 : Int) = some (x : Int) := rfl
      have i1 : idx [(x : Int), (y : Int)] (1 : Int) = some (y : Int) := rfl
      unfold pk_SaddleBounds_b1
      simp only
      rw [idx_nat, nth_at hi, Option.bind_some, e]
      simp only [i0, i1, Option.bind_some, idx_nat, h.mat.row? hx, h.mat.cell? hx hy, h.mat.row x hx, hl]
      rw [if_neg (by simp), if_neg (by simp; omega), if_neg (by simp), if_neg (by simp; omega), ok_bindF, ok_some, flok_nx, hv, bne_self_eq_false, if_neg (by decide), ok_some, flok_nx]
      trivial
    · obtain ⟨x, y, hx, hy, l1, l2, l3, l4⟩ := low_high h
      rw [if_pos (by simp; omega), ok_bindR, ok_some, flok_nx, ok_some]
      by_cases hz : (ptsL c (isPt r c f) r).length = 0
      · have hne : lowS r c f ≠ highS r c f := fun e => by
          have hp : isPt r c f x y = true := isPt_iff.2 ⟨fun k hk => by have := l3 k hk; omega, fun k hk => by have := l4 k hk; omega⟩
          have := List.length_pos_of_mem (mem_ptsL.2 ⟨x, y, hx, hy, hp, rfl⟩)
          omega
        rw [hz, beq_eq_false_iff_ne.2 hne]; rfl
      · obtain ⟨x', y', hx', hy', hp, e⟩ := mem_ptsL.1 (nth_mem (l := ptsL c (isPt r c f) r) (k := 0) (by omega))
        obtain ⟨v1, v2⟩ := pt_val h hx' hy' hp
        rw [v1, v2]
        simp; omega
  · rw [bounds_no he hc, Option.bind_some, points_no he hc, Option.bind_some]
    have hb : (e != 0) = true := by simpa using he
    simp only [hb, if_true]
    simp [ok_bindR, ok_some, flok_nx]
end Go.Pu
