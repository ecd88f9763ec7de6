/- slices.Sort of however many numbers. -/
import Derived.Test.YtfhfoechannphaaWPeakBlackModels
import Derived.Test.YtfhfoechannphaaPuIns
set_option linter.all false
namespace Go.Pu
open Go.Fw Go.Mo
theorem sort_any {l : List Int} (hl : l.length ≤ 1000000) : ∃ m, slices_Sort_int_int_m l = some m ∧ m.Perm l ∧ m.Pairwise (· ≤ ·) := by
  by_cases h : l.length ≤ 12
  · obtain ⟨m, e, hm⟩ := sort_ok h
    exact ⟨m, e, hm.perm, hm.asc.imp fun {a b} h => by simp at h; exact h⟩
  · refine ⟨l.mergeSort fun x y => decide (x ≤ y), ?_, List.mergeSort_perm _ _, ?_⟩
    · unfold slices_Sort_int_int_m
      rw [if_neg h, chk_t (by omega), Option.bind_some]
    · have := List.pairwise_mergeSort (le := fun x y : Int => decide (x ≤ y)) (fun a b c h1 h2 => by simp at *; omega) (fun a b => by simp; omega) l
      exact this.imp fun {a b} h => by simpa using h
end Go.Pu
