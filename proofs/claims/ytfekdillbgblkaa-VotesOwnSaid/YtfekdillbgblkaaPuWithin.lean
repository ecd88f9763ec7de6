/- A number brought into a range. -/
import Derived.Test.YtfekdillbgblkaaWVotesOwnModels
namespace Go.Pu
open Go.Fw Go.Mo
theorem within_at (x : Int) (n : Int) (h0 : 0 < n) (h1 : n ≤ 1000000) : pk_Within_m x n = some (x % n) := by
  have h2 : n ≠ 0 := by omega
  have he : 0 ≤ x % n := Int.emod_nonneg x h2
  have hl : x % n < n := Int.emod_lt_of_pos x h0
  unfold pk_Within_m ref_Rest_m
  simp only [chk, ne_eq, h2, not_false_eq_true, if_true, Option.bind_some]
  by_cases hx : 0 ≤ x
  · have ht : x.tmod n = x % n := Int.tmod_eq_emod_of_nonneg hx
    rw [ht]
    rw [if_neg (by simp; omega)]
    rfl
  · by_cases hd : x.tmod n < 0
    · rw [if_pos (by simpa using hd)]
      simp only [bindR, Option.bind_some]
      have : wadd (x.tmod n) n = x % n := by
        unfold wadd
        rw [IntKind.wrap_i64]
        have ht := Int.tmod_eq_emod (a := x) (b := n)
        have hnd : ¬ n ∣ x := fun hh => by rw [Int.tmod_eq_zero_of_dvd hh] at hd; omega
        simp [hx, hnd] at ht
        omega
      rw [this]
    · rw [if_neg (by simpa using hd)]
      simp only [bindR, Option.bind_some]
      have ht := Int.tmod_eq_emod (a := x) (b := n)
      by_cases hnd : n ∣ x
      · simp [hnd] at ht; rw [ht]
      · simp [hx, hnd] at ht; omega
theorem one_within (x : Int) (c : Nat) (h0 : 0 < c) (h1 : c ≤ 1000000) : ∃ n : Nat, 1 ≤ n ∧ n ≤ c ∧ wadd 1 (x % (c : Int)) = (n : Int) := by
  have a0 := Int.emod_nonneg x (b := (c : Int)) (by omega)
  have a1 := Int.emod_lt_of_pos x (b := (c : Int)) (by omega)
  refine ⟨(1 + x % (c : Int)).toNat, by omega, by omega, ?_⟩
  unfold wadd
  rw [IntKind.wrap_i64]; omega
end Go.Pu
