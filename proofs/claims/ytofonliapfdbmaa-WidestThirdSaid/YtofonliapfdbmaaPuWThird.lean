/- The plain law: a way by a third side is no wider than the widest one, and a duel that is won is a way. -/
import Derived.Test.YtofonliapfdbmaaWWidestThirdModels
import Derived.Test.YtofonliapfdbmaaPuWide
set_option linter.all false
namespace Go.Pu
open Go.Fw Go.Mo
theorem WidestThird (x0 : List (List Int)) (_ : (∀ r ∈ x0, (∀ x ∈ r, (Lit.int .i64 x).wf = true) ∧ r.length ≤ maxLen) ∧ x0.length ≤ maxLen) : pk_WidestThird_m x0 = some true := by
  apply Ok.eq
  unfold pk_WidestThird_m
  have e1 : pk_wides_m = some true := by decide +kernel
  rw [e1]
  simp only [Option.bind_some, Bool.not_true, Bool.false_eq_true, if_false]
  rcases tab_split x0 with ⟨d, h, ec⟩ | ⟨e, he, ec⟩
  · obtain ⟨p, ep, hp⟩ := paths_ok h
    have et := tableOf_ok hp
    have hM := h.mat
    generalize hN : x0.length = n at *
    simp only [ep, et, ok_bind, ok_ite, ok_bindR, ok_some, flok_nx, bne_self_eq_false, Bool.not_true, Bool.false_eq_true, false_implies, true_and, not_false_eq_true, true_implies]
    refine ok_rangeL (fun _ _ => True) trivial (fun x r s hx _ => ?_) fun s _ => by trivial
    obtain ⟨hr, hxl⟩ := nth_of hx
    rw [hN] at hxl
    subst hr
    unfold pk_WidestThird_b1
    simp only [ok_bindF, ok_some]
    refine ok_rangeL (fun _ _ => True) trivial (fun y q s hy _ => ?_) fun s _ => by trivial
    obtain ⟨hq, hyl⟩ := nth_of hy
    rw [hN] at hyl
    subst hq
    unfold pk_WidestThird_b2
    simp only [ok_bindF, ok_some]
    refine ok_rangeL (fun _ _ => True) trivial (fun z q s hz _ => ?_) fun s _ => ?_
    · obtain ⟨_, hzl⟩ := nth_of hz
      rw [hN] at hzl
      unfold pk_WidestThird_b3
      simp only [idx_nat, hp.row? hxl, hp.row? hyl, hp.row? hzl, hp.cell? hxl hyl, hp.cell? hyl hzl, hp.cell? hxl hzl, Option.bind_some, ok_bindF, ok_ite, ok_some, flok_nx, flok_rt, bne_iff_ne, decide_eq_true_eq]
      have key : (x : Int) ≠ y → (y : Int) ≠ z → (x : Int) ≠ z → ¬ (if wide d n y z < wide d n x y then wide d n y z else wide d n x y) > wide d n x z := fun h1 h2 h3 => by
        have := wide_third (d := d) n (x := x) (y := z) (z := y) hyl (by omega) (by omega) (by omega)
        split <;> omega
      grind
    · have a1 := wide_nn h.val n (Nat.le_refl _) hxl hyl
      have a2 := wide_self (d := d) x n
      have a3 := wide_duel (d := d) (k := n) (x := x) (y := y)
      simp only [idx_nat, hM.cell? hxl hyl, hM.cell? hyl hxl, hp.row? hxl, hp.cell? hxl hyl, hp.cell? hxl hxl, Option.bind_some, ok_bindF, ok_ite, ok_some, flok_nx, flok_rt, bne_iff_ne, decide_eq_true_eq, a2]
      grind
  · have ep : widest_Paths_m x0 = some ([], e) := by
      unfold widest_Paths_m
      rw [ec, Option.bind_some, if_pos (by simpa using he)]
    simp only [ep, ok_bind, ok_ite, ok_bindR, ok_some, flok_nx, bne_iff_ne]
    simp [he]
end Go.Pu
