/- The plain law: to have a wider way than back goes on over a third side, so there is a winner. -/
import Derived.Test.YtofonliapfdbmaaWWidestOrderModels
import Derived.Test.YtofonliapfdbmaaPuWide
set_option linter.all false
namespace Go.Pu
open Go.Fw Go.Mo
theorem wide_goes {d : Nat → Nat → Int} {n x y z : Nat} (hx : x < n) (hy : y < n) (hz : z < n) (h1 : wide d n y x < wide d n x y) (h2 : wide d n z y < wide d n y z) : wide d n z x < wide d n x z := by
  have hxy : x ≠ y := fun e => by subst e; omega
  have hyz : y ≠ z := fun e => by subst e; omega
  have hxz : x ≠ z := fun e => by subst e; omega
  have a := wide_third (d := d) n (x := x) (y := z) (z := y) hy hxz hxy hyz
  have b := wide_third (d := d) n (x := z) (y := y) (z := x) hx (by omega) (by omega) (by omega)
  have c := wide_third (d := d) n (x := y) (y := x) (z := z) hz (by omega) (by omega) (by omega)
  omega
/-- a relation that goes on has somebody that nobody is above -/
theorem max_ex {R : Nat → Nat → Prop} (ir : ∀ x, ¬ R x x) {n : Nat} (tr : ∀ x y z, x < n → y < n → z < n → R x y → R y z → R x z) : ∀ m, m < n → ∃ x, x ≤ m ∧ ∀ y, y ≤ m → ¬ R y x
  | 0, _ => ⟨0, Nat.le_refl _, fun y hy => by
      have : y = 0 := by omega
      subst this; exact ir 0⟩
  | m + 1, hm => by
    obtain ⟨x, h1, h2⟩ := max_ex ir tr m (by omega)
    by_cases hR : R (m + 1) x
    · refine ⟨m + 1, Nat.le_refl _, fun y hy hy' => ?_⟩
      by_cases hym : y = m + 1
      · subst hym; exact ir _ hy'
      · exact h2 y (by omega) (tr y (m + 1) x (by omega) hm (by omega) hy' hR)
    · refine ⟨x, by omega, fun y hy hy' => ?_⟩
      by_cases hym : y = m + 1
      · subst hym; exact hR hy'
      · exact h2 y (by omega) hy'
theorem wide_winner {d : Nat → Nat → Int} {n : Nat} (h : 1 ≤ n) : ∃ x, x < n ∧ WideWins n d x := by
  obtain ⟨x, h1, h2⟩ := max_ex (R := fun x y => wide d n y x < wide d n x y) (fun x => by omega) (n := n) (fun x y z hx hy hz a b => wide_goes hx hy hz a b) (n - 1) (by omega)
  exact ⟨x, by omega, fun y hy => by have := h2 y (by omega); omega⟩
theorem WidestOrder (x0 : List (List Int)) (_ : (∀ r ∈ x0, (∀ x ∈ r, (Lit.int .i64 x).wf = true) ∧ r.length ≤ maxLen) ∧ x0.length ≤ maxLen) : pk_WidestOrder_m x0 = some true := by
  apply Ok.eq
  unfold pk_WidestOrder_m
  have e1 : pk_wides_m = some true := by decide +kernel
  rw [e1]
  simp only [Option.bind_some, Bool.not_true, Bool.false_eq_true, if_false]
  rcases tab_split x0 with ⟨d, h, ec⟩ | ⟨e, he, ec⟩
  · obtain ⟨p, ep, hp⟩ := paths_ok h
    have ew := winners_ok h
    have et := tableOf_ok hp
    have hM := h.mat; have h1 := h.n1
    generalize hN : x0.length = n at *
    simp only [ep, ew, et, ok_bind, ok_ite, ok_bindR, ok_some, flok_nx, bne_self_eq_false, Bool.not_true, Bool.false_eq_true, false_implies, true_and, not_false_eq_true, true_implies]
    refine ok_rangeL (fun _ _ => True) trivial (fun x r s hx _ => ?_) fun s _ => ?_
    · obtain ⟨_, hxl⟩ := nth_of hx
      rw [hN] at hxl
      unfold pk_WidestOrder_b1
      simp only [ok_bindF, ok_some]
      refine ok_rangeL (fun _ _ => True) trivial (fun y q s hy _ => ?_) fun s _ => by trivial
      obtain ⟨_, hyl⟩ := nth_of hy
      rw [hN] at hyl
      unfold pk_WidestOrder_b2
      simp only [ok_bindF, ok_some]
      refine ok_rangeL (fun _ _ => True) trivial (fun z q s hz _ => ?_) fun s _ => by trivial
      obtain ⟨_, hzl⟩ := nth_of hz
      rw [hN] at hzl
      have key := wide_goes (d := d) hxl hyl hzl
      unfold pk_WidestOrder_b3
      simp only [idx_nat, hp.row? hxl, hp.row? hyl, hp.row? hzl, hp.cell? hxl hyl, hp.cell? hyl hxl, hp.cell? hyl hzl, hp.cell? hzl hyl, hp.cell? hxl hzl, hp.cell? hzl hxl, Option.bind_some, ok_bindF, ok_ite, ok_some, flok_nx, flok_rt, bne_iff_ne, decide_eq_true_eq]
      grind
    · obtain ⟨x, hx, hw⟩ := wide_winner (d := d) h1
      have hm : (x : Int) ∈ pickB (wideB n d) n := mem_pickB.2 ⟨x, hx, wideB_iff.2 hw, rfl⟩
      have hl := List.length_pos_of_mem hm
      simp [ok_ite, ok_some, flok_nx, ok_bindR]
      exact hl
  · have ep : widest_Paths_m x0 = some ([], e) := by
      unfold widest_Paths_m
      rw [ec, Option.bind_some, if_pos (by simpa using he)]
    have ew : widest_Winners_m x0 = some ([], e) := by
      unfold widest_Winners_m
      rw [ep, Option.bind_some, if_pos (by simpa using he)]
    simp only [ep, ew, ok_bind, ok_ite, ok_bindR, ok_some, flok_nx, bne_iff_ne]
    simp [he]
end Go.Pu
