/- What the helpers of the laws answer: good, Contains. -/
import Derived.Test.YtfekdillbgblkaaWVotesOwnModels
import Derived.Test.YtfekdillbgblkaaPuKit
set_option linter.all false
namespace Go.Pu
open Go.Fw Go.Mo
theorem good_at (l : List Int) : pk_good_m l = some (l.all (· == 0)) := by
  unfold pk_good_m slices_ContainsFunc_api_Errno_api_Errno_m slices_IndexFunc_api_Errno_api_Errno_m
  rw [rangeL_first (γ := Unit) (fun x => x != 0) l (fun i x _ => by
    unfold slices_IndexFunc_api_Errno_api_Errno_b1 pk_good_1_m
    simp only [Option.bind_some])]
  by_cases hl : l.any (fun x => x != 0) = true
  · rw [if_pos hl]
    simp only [bindR, Option.bind_some]
    have h1 : l.all (· == 0) = false := by
      rw [List.any_eq_true] at hl
      obtain ⟨x, hx, hx'⟩ := hl
      rw [List.all_eq_false]
      exact ⟨x, hx, by simpa using hx'⟩
    rw [h1]
    simp only [Nat.zero_add, Option.some.injEq, Bool.not_eq_false', decide_eq_true_eq]
    omega
  · rw [if_neg hl]
    have h1 : l.all (· == 0) = true := by
      rw [List.all_eq_true]
      intro x hx
      have : ¬ ∃ x, x ∈ l ∧ (x != 0) = true := by rwa [List.any_eq_true] at hl
      by_cases h : x = 0
      · simp [h]
      · exact absurd ⟨x, hx, by simpa using h⟩ this
    rw [h1]; rfl
end Go.Pu
