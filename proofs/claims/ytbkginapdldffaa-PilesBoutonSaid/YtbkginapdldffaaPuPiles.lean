/- The piles that are read out of any numbers. -/
import Derived.Test.YtbkginapdldffaaWPilesBoutonModels
import Derived.Test.YtbkginapdldffaaPuKit
import Derived.Test.YtbkginapdldffaaPuWithin
import Derived.Test.YtbkginapdldffaaPuWins
set_option linter.all false
namespace Go.Pu
open Go.Fw Go.Mo
/-- the piles that are read out of any numbers -/
theorem pilesOf_ok (x0 : List Int) (hl : x0.length ≤ maxLen) : ∃ l, pk_PilesOf_m x0 = some l ∧ Pile l := by
  unfold pk_PilesOf_m
  rw [chk_t (by split <;> constructor <;> omega)]
  simp only [Option.bind_some]
  have hlen : (List.take (if (6 : Int) < (x0.length : Int) then (6 : Int) else (x0.length : Int)).toNat x0).length ≤ 6 := by
    rw [List.length_take]; split <;> omega
  rw [List.drop_zero]
  generalize List.take (if (6 : Int) < (x0.length : Int) then (6 : Int) else (x0.length : Int)).toNat x0 = q at *
  obtain ⟨s, e, h1, h2⟩ := rangeL_inv (γ := Unit) (body := pk_PilesOf_b1) (fun i (s : List Int) => s.length = i ∧ ∀ x ∈ s, 0 ≤ x ∧ x ≤ 40) q 0 [] ⟨rfl, by simp⟩ (fun k x s hk hI => by
    have hk' : k < q.length := (List.getElem?_eq_some_iff.1 hk).1
    unfold pk_PilesOf_b1
    rw [within_at x 41 (by decide) (by decide)]
    simp only [Option.bind_some]
    rw [chk_t (by simp; omega)]
    refine ⟨_, rfl, by simp [hI.1], ?_⟩
    intro y hy
    rcases List.mem_append.1 hy with hy | hy
    · exact hI.2 y hy
    · simp at hy; subst hy
      have h0 := Int.emod_nonneg x (b := 41) (by decide)
      have h1 := Int.emod_lt_of_pos x (b := 41) (by decide)
      omega)
  rw [e]
  refine ⟨s, rfl, by omega, h2⟩
end Go.Pu
