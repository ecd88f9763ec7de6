/- The plain law: two equal piles change nothing, and two piles are won just if they differ. -/
import Derived.Test.YtbkginapdldffaaWPilesPairsModels
import Derived.Test.YtbkginapdldffaaPuPiles
import Derived.Test.YtbkginapdldffaaPuGood
import Derived.Test.YtbkginapdldffaaPuNims
set_option linter.all false
namespace Go.Pu
open Go.Fw Go.Mo
theorem PilesPairs (x0 : List Int) (h0 : (∀ x ∈ x0, (Lit.int .i64 x).wf = true) ∧ x0.length ≤ maxLen) (x1 : Int) (_ : (Lit.int .i64 x1).wf = true) (x2 : Int) (_ : (Lit.int .i64 x2).wf = true) : pk_PilesPairs_m x0 x1 x2 = some true := by
  unfold pk_PilesPairs_m
  rw [nims_t]
  obtain ⟨l, e, hl, hp⟩ := pilesOf_ok x0 h0.2
  simp only [Option.bind_some, Bool.not_true, Bool.false_eq_true, if_false, e]
  rw [chk_t (by split <;> constructor <;> omega), within_at x1 41 (by decide) (by decide), within_at x2 41 (by decide) (by decide)]
  simp only [Option.bind_some, List.drop_zero]
  have hm : (List.take (if (4 : Int) < (l.length : Int) then (4 : Int) else (l.length : Int)).toNat l).length ≤ 4 := by
    rw [List.length_take]; split <;> omega
  have hmp : ∀ x ∈ List.take (if (4 : Int) < (l.length : Int) then (4 : Int) else (l.length : Int)).toNat l, 0 ≤ x ∧ x ≤ 40 := fun x hx => hp x (List.mem_of_mem_take hx)
  generalize List.take (if (4 : Int) < (l.length : Int) then (4 : Int) else (l.length : Int)).toNat l = m at *
  have a0 := Int.emod_nonneg x1 (b := 41) (by decide)
  have a1 := Int.emod_lt_of_pos x1 (b := 41) (by decide)
  have b0 := Int.emod_nonneg x2 (b := 41) (by decide)
  have b1 := Int.emod_lt_of_pos x2 (b := 41) (by decide)
  generalize x1 % 41 = a at *
  generalize x2 % 41 = b at *
  rw [wins_ok ⟨by omega, hmp⟩]
  have hc : slices_Clone_int_int_m m = some m := by unfold slices_Clone_int_int_m; rw [chk_t (by omega)]; rfl
  simp only [Option.bind_some, hc]
  rw [chk_t (by simp; omega)]
  simp only [Option.bind_some]
  rw [wins_ok (l := m ++ [a, a]) ⟨by simp; omega, fun x hx => by
    rcases List.mem_append.1 hx with hx | hx
    · exact hmp x hx
    · simp at hx; subst hx; omega⟩, wins_ok (l := [a, b]) ⟨by simp, fun x hx => by
    simp at hx
    rcases hx with rfl | rfl <;> omega⟩]
  simp only [Option.bind_some, good_at]
  have e1 : nsum (m ++ [a, a]) = nsum m := by rw [nsum_append, nsum_two, Nat.xor_self, Nat.xor_zero]
  rw [e1, nsum_two]
  have e2 : decide (a.toNat ^^^ b.toNat ≠ 0) = (a != b) := by
    by_cases hab : a = b
    · subst hab; simp
    · have : a.toNat ^^^ b.toNat ≠ 0 := fun h => hab (by have := xor_zero_eq h; omega)
      simp [hab, this]
  rw [e2]
  simp [bindR]
end Go.Pu
