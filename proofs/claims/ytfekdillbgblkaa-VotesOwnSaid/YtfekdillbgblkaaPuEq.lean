/- What slices.Equal answers. -/
import Derived.Test.YtfekdillbgblkaaWVotesOwnModels
import Derived.Test.YtfekdillbgblkaaPuWp
set_option linter.all false
namespace Go.Pu
open Go.Fw Go.Mo
theorem equal_ok (a b : List Int) : slices_Equal_int_int_m a b = some (decide (a = b)) := by
  apply Ok.eq
  unfold slices_Equal_int_int_m
  simp only [ok_ite, ok_some, ok_bindR, bne_iff_ne]
  refine ⟨fun h => ?_, fun h => ?_⟩
  · rw [eq_comm, decide_eq_false_iff_not]; intro e; subst e; exact h rfl
  · have hl : a.length = b.length := by omega
    refine ok_rangeL (fun k _ => ∀ j, j < k → nth a j = nth b j) (by intro j hj; omega) (fun k x s hk hI => ?_) fun s hs => ?_
    · obtain ⟨hx, hka⟩ := nth_of hk
      unfold slices_Equal_int_int_b1
      simp only [idx_nat, nth_at (show k < b.length by omega), Option.bind_some, ok_ite, ok_some, flok_rt, flok_nx, bne_iff_ne]
      refine ⟨fun hne => ?_, fun heq j hj => ?_⟩
      · rw [eq_comm, decide_eq_false_iff_not]; intro e; subst e; exact hne hx.symm
      · by_cases hjk : j = k
        · subst hjk; rw [hx]; exact Classical.not_not.1 heq
        · exact hI j (by omega)
    · rw [eq_comm, decide_eq_true_eq]; exact nth_ext hl hs
end Go.Pu
