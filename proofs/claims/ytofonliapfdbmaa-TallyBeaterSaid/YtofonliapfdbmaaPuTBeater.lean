/- The plain law: who beats all others is one alone, and beats each. -/
import Derived.Test.YtofonliapfdbmaaWTallyBeaterModels
import Derived.Test.YtofonliapfdbmaaPuBeater
set_option linter.all false
namespace Go.Pu
open Go.Fw Go.Mo
theorem TallyBeater (x0 : Int) (_ : (Lit.int .i64 x0).wf = true) (x1 : List (List Int)) (h1 : (∀ r ∈ x1, (∀ x ∈ r, (Lit.int .i64 x).wf = true) ∧ r.length ≤ maxLen) ∧ x1.length ≤ maxLen) : pk_TallyBeater_m x0 x1 = some true := by
  apply Ok.eq
  unfold pk_TallyBeater_m
  rw [tallies_t]
  have a0 := Int.emod_nonneg x0 (b := 6) (by decide)
  have a1 := Int.emod_lt_of_pos x0 (b := 6) (by decide)
  simp only [Option.bind_some, Bool.not_true, Bool.false_eq_true, if_false, within_at x0 6 (by decide) (by decide)]
  obtain ⟨n, hn0, hn6, hn⟩ := one_within x0 6 (by decide) (by decide)
  rw [show ((6 : Nat) : Int) = 6 from rfl] at hn
  obtain ⟨v, ev, _, hv⟩ := votesOf_ok n x1 hn0 hn6
  obtain ⟨m, em, hM⟩ := duels_ok hn0 hn6 hv
  obtain ⟨x, e, eb, hb⟩ := beater_ok hn0 hn6 hv
  simp only [hn, ev, em, eb, Option.bind_some, ok_bind, ok_ite, ok_chk, ok_bindR, ok_some, flok_nx, hM.len, bne_self_eq_false, Bool.false_eq_true, false_implies, true_and, not_false_eq_true, true_implies, Int.toNat_natCast]
  refine ⟨by omega, ok_rangeN (fun _ _ => True) trivial (fun k s hk _ => ?_) fun s _ => ?_⟩
  · unfold pk_TallyBeater_b1
    simp only [ok_bind, ok_chk, ok_bindF, ok_ite, ok_some, flok_nx, flok_rt, hn, Int.toNat_natCast]
    refine ⟨by omega, ok_rangeN (fun j b => b = true ↔ ∀ y, y < j → y ≠ k → duel v y k < duel v k y) (by simp) (fun j b hj hb => ?_) fun b hb' => ?_⟩
    · unfold pk_TallyBeater_b2
      simp only [idx_nat, hM.row? hk, hM.row? hj, Option.bind_some, hM.cell? hk hj, hM.cell? hj hk, hM.row k hk, hM.row j hj, hn, ok_bindF, ok_ite, ok_some, flok_nx, flok_rt, beq_iff_eq, decide_eq_true_eq, bne_self_eq_false, Bool.false_eq_true, false_implies, true_and, not_false_eq_true, true_implies]
      grind
    · have hiff : b = true ↔ Beats n (duel v) k := hb'
      simp only [flok_nx, ok_ite, ok_some, flok_rt, beq_iff_eq, Bool.not_eq_true', beq_eq_false_iff_ne, ne_eq]
      rcases hb with ⟨a, ha, rfl, rfl, hB⟩ | ⟨rfl, rfl, hN⟩
      · refine ⟨fun _ => ⟨fun hh => ?_, fun _ => trivial⟩, fun hh => absurd rfl hh⟩
        by_cases hak : a = k
        · subst hak; have := hiff.2 hB; simp [this] at hh
        · have : ¬ Beats n (duel v) k := fun hk' => hak (Beats.one ha hk hB hk')
          have hbf : b = false := by cases hbb : b with | false => rfl | true => exact absurd (hiff.1 hbb) this
          have : ((a : Int) == (k : Int)) = false := by simp; omega
          rw [hbf, this] at hh; exact absurd rfl hh
      · refine ⟨fun hh => by omega, fun _ => ⟨fun hh => ?_, fun _ => trivial⟩⟩
        have hbf : b = false := by cases hbb : b with | false => rfl | true => exact absurd (hiff.1 hbb) (hN k hk)
        exact absurd hbf hh
  · simp only [flok_nx, ok_ite, ok_some, beq_iff_eq]
    rcases hb with ⟨a, ha, rfl, rfl, hB⟩ | ⟨rfl, rfl, hN⟩
    · exact ⟨fun _ => trivial, fun hh => absurd rfl hh⟩
    · exact ⟨fun hh => by omega, fun _ => ⟨fun _ => by simp, fun hh => absurd rfl hh⟩⟩
end Go.Pu
