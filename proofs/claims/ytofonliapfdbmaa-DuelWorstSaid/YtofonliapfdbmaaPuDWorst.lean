/- The plain law: the greatest defeat is some opponent's, and no one's is greater. -/
import Derived.Test.YtofonliapfdbmaaWDuelWorstModels
import Derived.Test.YtofonliapfdbmaaPuWorst
set_option linter.all false
namespace Go.Pu
open Go.Fw Go.Mo
theorem DuelWorst (x0 : List (List Int)) (_ : (∀ r ∈ x0, (∀ x ∈ r, (Lit.int .i64 x).wf = true) ∧ r.length ≤ maxLen) ∧ x0.length ≤ maxLen) : pk_DuelWorst_m x0 = some true := by
  apply Ok.eq
  unfold pk_DuelWorst_m
  have e0 : duel_Worst_m ([([(0 : Int), (3 : Int)] : (List Int)), ([(1 : Int), (0 : Int)] : (List Int))] : (List (List Int))) = some ([0, 2], 0) := by decide +kernel
  have e1 : pk_duels_m = some true := by decide +kernel
  rw [e0, e1]
  simp only [ok_bind, ok_ite, ok_bindR, ok_some, equal_ok, flok_nx, bne_self_eq_false, Bool.false_eq_true, false_implies, true_and, not_false_eq_true, true_implies, decide_true, Bool.not_true]
  rcases tab_split x0 with ⟨d, h, ec⟩ | ⟨e, he, ec⟩
  · obtain ⟨w, ew, hw, hI⟩ := worst_ok h
    have hM := h.mat
    simp only [ew, ok_bind, ok_ite, ok_bindR, ok_some, flok_nx, hw, bne_self_eq_false, Bool.false_eq_true, false_implies, true_and, not_false_eq_true, true_implies]
    refine ok_rangeL (fun _ _ => True) trivial (fun k r s hk _ => ?_) fun s _ => by trivial
    obtain ⟨hr, hkl⟩ := nth_of hk
    subst hr
    obtain ⟨a1, a2, a3, a4⟩ := hI k hkl
    unfold pk_DuelWorst_b1
    simp only [idx_nat, nth_at (show k < w.length by omega), Option.bind_some, ok_bindF]
    refine ok_rangeL (fun j b => b = true ↔ (nth w k = 0 ∨ ∃ y, y < j ∧ nth w k = d y k - d k y)) (by simp) (fun j q b hj hb => ?_) fun b hb => ?_
    · obtain ⟨hq, hjl⟩ := nth_of hj
      subst hq
      have v1 := h.val k j hkl hjl
      have v2 := h.val j k hjl hkl
      have a3' := a3 j hjl
      unfold pk_DuelWorst_b2
      simp only [idx_nat, hM.cell? hkl hjl, hM.cell? hjl hkl, nth_at (show k < w.length by omega), Option.bind_some, ok_ite, ok_bindF, ok_some, flok_nx, flok_rt, decide_eq_true_eq]
      rw [wsub_of (by omega) (by omega)]
      refine ⟨fun hh => by omega, fun _ => ⟨fun ht => ?_, fun hf => ?_⟩⟩
      · simp only [true_iff]
        rcases hb.1 ht with h | ⟨y, h1, h2⟩
        · exact .inl h
        · exact .inr ⟨y, by omega, h2⟩
      · rw [beq_iff_eq]
        constructor
        · intro e; exact .inr ⟨j, by omega, e.symm⟩
        · rintro (h0 | ⟨y, h1, h2⟩)
          · exact absurd (hb.2 (.inl h0)) hf
          · by_cases hyj : y = j
            · subst hyj; exact h2.symm
            · exact absurd (hb.2 (.inr ⟨y, by omega, h2⟩)) hf
    · have hbt : b = true := hb.2 a4
      subst hbt
      simp only [idx_nat, nth_at (show k < w.length by omega), Option.bind_some, ok_ite, ok_bindF, ok_some, flok_nx, flok_rt, decide_eq_true_eq, Bool.not_true, Bool.false_eq_true, false_implies, true_and, not_false_eq_true, true_implies]
      grind
  · have ew : duel_Worst_m x0 = some ([], e) := by
      unfold duel_Worst_m
      rw [ec, Option.bind_some, if_pos (by simpa using he)]
    simp only [ew, ok_bind, ok_ite, ok_bindR, ok_some, flok_nx, bne_iff_ne]
    simp [he]
end Go.Pu
