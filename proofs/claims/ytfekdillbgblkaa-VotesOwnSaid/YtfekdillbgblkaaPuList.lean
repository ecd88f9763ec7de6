/- What the library's functions on lists of numbers answer. -/
import Derived.Test.YtfekdillbgblkaaWVotesOwnModels
import Derived.Test.YtfekdillbgblkaaPuWp
set_option linter.all false
namespace Go.Pu
open Go.Fw Go.Mo
theorem index_ok (l : List Int) (x : Int) : slices_Index_int_int_m l x = some (if x ∈ l then (l.idxOf x : Int) else -1) := by
  unfold slices_Index_int_int_m
  rw [rangeL_first (γ := Unit) (fun y => x == y) l (fun i y _ => by unfold slices_Index_int_int_b1; rfl)]
  have h1 : (fun y => x == y) = (fun y => y == x) := by funext y; exact Bool.eq_iff_iff.2 ⟨fun h => by rw [beq_iff_eq] at h ⊢; exact h.symm, fun h => by rw [beq_iff_eq] at h ⊢; exact h.symm⟩
  by_cases hx : x ∈ l
  · rw [if_pos (List.any_eq_true.2 ⟨x, hx, by simp⟩), if_pos hx]
    simp only [bindR, Nat.zero_add, List.idxOf, h1]
  · rw [if_neg (by rw [List.any_eq_true]; rintro ⟨y, hy, e⟩; simp at e; subst e; exact hx hy), if_neg hx]
    rfl
theorem contains_ok (l : List Int) (x : Int) : slices_Contains_int_int_m l x = some (decide (x ∈ l)) := by
  unfold slices_Contains_int_int_m
  rw [index_ok, Option.bind_some]
  by_cases hx : x ∈ l
  · simp [hx]
  · simp [hx]
/-- those below n that are chosen -/
def pickB (p : Nat → Bool) : Nat → List Int
  | 0 => []
  | n + 1 => pickB p n ++ if p n then [(n : Int)] else []
theorem mem_pickB {p : Nat → Bool} {n : Nat} {x : Int} : x ∈ pickB p n ↔ ∃ k : Nat, k < n ∧ p k = true ∧ x = k := by
  induction n with
  | zero => simp [pickB]
  | succ n ih =>
    simp only [pickB, List.mem_append, ih]
    constructor
    · rintro (⟨k, h1, h2, h3⟩ | h)
      · exact ⟨k, by omega, h2, h3⟩
      · split at h
        · rename_i hp; simp at h; exact ⟨n, by omega, hp, h⟩
        · cases h
    · rintro ⟨k, h1, h2, h3⟩
      by_cases hk : k = n
      · subst hk; right; rw [if_pos h2]; simp [h3]
      · left; exact ⟨k, by omega, h2, h3⟩
theorem pickB_len {p : Nat → Bool} {n : Nat} : (pickB p n).length ≤ n := by
  induction n with
  | zero => simp [pickB]
  | succ n ih => simp only [pickB, List.length_append]; split <;> simp <;> omega
theorem pickB_sorted {p : Nat → Bool} {n : Nat} : (pickB p n).Pairwise (· < ·) := by
  induction n with
  | zero => simp [pickB]
  | succ n ih =>
    simp only [pickB]
    rw [List.pairwise_append]
    refine ⟨ih, by split <;> simp, fun a ha b hb => ?_⟩
    obtain ⟨k, h1, _, rfl⟩ := mem_pickB.1 ha
    split at hb
    · simp at hb; omega
    · cases hb
theorem pickB_congr {p q : Nat → Bool} {n : Nat} (h : ∀ k, k < n → p k = q k) : pickB p n = pickB q n := by
  induction n with
  | zero => rfl
  | succ n ih => simp only [pickB]; rw [ih fun k hk => h k (by omega), h n (by omega)]
theorem pickB_nd {p : Nat → Bool} {n : Nat} : (pickB p n).Nodup := pickB_sorted.imp fun h => by omega
end Go.Pu
