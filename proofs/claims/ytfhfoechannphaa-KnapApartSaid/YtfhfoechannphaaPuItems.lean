/- The things that are read out of any pairs of numbers. -/
import Derived.Test.YtfhfoechannphaaWKnapApartModels
import Derived.Test.YtfhfoechannphaaPuKit
import Derived.Test.YtfhfoechannphaaPuWithin
import Derived.Test.YtfhfoechannphaaPuKnap
set_option linter.all false
namespace Go.Pu
open Go.Fw Go.Mo
theorem knaps_t : pk_knaps_m = some true := by decide +kernel
theorem itemsOf_ok (x0 : List (List Int)) (h : (∀ x ∈ x0, x.length = 2 ∧ ∀ y ∈ x, (Lit.int .i64 y).wf = true) ∧ x0.length ≤ maxLen) : ∃ l, pk_ItemsOf_m x0 = some l ∧ Items l ∧ l.length = min 12 x0.length := by
  unfold pk_ItemsOf_m
  rw [chk_t (by split <;> constructor <;> omega)]
  simp only [Option.bind_some]
  have hlen : (List.take (if (12 : Int) < (x0.length : Int) then (12 : Int) else (x0.length : Int)).toNat x0).length = min 12 x0.length := by
    rw [List.length_take]; split <;> omega
  have hmem : ∀ x ∈ List.take (if (12 : Int) < (x0.length : Int) then (12 : Int) else (x0.length : Int)).toNat x0, x.length = 2 := fun x hx => (h.1 x (List.mem_of_mem_take hx)).1
  rw [List.drop_zero]
  generalize List.take (if (12 : Int) < (x0.length : Int) then (12 : Int) else (x0.length : Int)).toNat x0 = q at *
  obtain ⟨s, e, h1, h2⟩ := rangeL_inv (γ := Unit) (body := pk_ItemsOf_b1) (fun i (s : List (Int × Int)) => s.length = i ∧ ∀ x ∈ s, 1 ≤ x.1 ∧ x.1 ≤ 100 ∧ 0 ≤ x.2 ∧ x.2 ≤ 1000000) q 0 [] ⟨rfl, by simp⟩ (fun k x s hk hI => by
    have hk' : k < q.length := (List.getElem?_eq_some_iff.1 hk).1
    have hx := hmem x (List.mem_of_getElem? hk)
    unfold pk_ItemsOf_b1
    have g0 : idx x (0 : Int) = some (x[0]) := by rw [show (0 : Int) = ((0 : Nat) : Int) from rfl, idx_nat, List.getElem?_eq_getElem (by omega)]
    have g1 : idx x (1 : Int) = some (x[1]) := by rw [show (1 : Int) = ((1 : Nat) : Int) from rfl, idx_nat, List.getElem?_eq_getElem (by omega)]
    rw [g0, g1]
    simp only [Option.bind_some]
    rw [within_at _ 20 (by decide) (by decide), within_at _ 50 (by decide) (by decide)]
    have a0 := Int.emod_nonneg (x[0]) (b := 20) (by decide)
    have a1 := Int.emod_lt_of_pos (x[0]) (b := 20) (by decide)
    have b0 := Int.emod_nonneg (x[1]) (b := 50) (by decide)
    have b1 := Int.emod_lt_of_pos (x[1]) (b := 50) (by decide)
    simp only [Option.bind_some]
    rw [chk_t (by simp; omega), wadd_of (by omega) (by omega)]
    refine ⟨_, rfl, by simp [hI.1], ?_⟩
    intro y hy
    rcases List.mem_append.1 hy with hy | hy
    · exact hI.2 y hy
    · simp at hy; subst hy; simp only; omega)
  rw [e]
  refine ⟨s, rfl, ⟨by omega, h2⟩, by omega⟩
end Go.Pu
