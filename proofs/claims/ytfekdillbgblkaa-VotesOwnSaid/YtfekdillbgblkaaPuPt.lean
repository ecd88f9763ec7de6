/- What the library's functions on lists of pairs answer. -/
import Derived.Test.YtfekdillbgblkaaWVotesOwnModels
import Derived.Test.YtfekdillbgblkaaPuList
import Derived.Test.YtfekdillbgblkaaPuEq
import Derived.Test.YtfekdillbgblkaaPuMat
set_option linter.all false
namespace Go.Pu
open Go.Fw Go.Mo
theorem contains_pairs_ok (l : List (List Int)) (x : List Int) : slices_Contains_pairs_m l x = some (decide (x ∈ l)) := by
  unfold slices_Contains_pairs_m slices_Index_pairs_m
  rw [rangeL_first (γ := Unit) (fun y => decide (x = y)) l (fun i y _ => by unfold slices_Index_pairs_b1; rfl)]
  by_cases hx : x ∈ l
  · rw [if_pos (List.any_eq_true.2 ⟨x, hx, by simp⟩)]
    simp only [bindR, Nat.zero_add, Option.bind_some]
    simp [hx]
  · rw [if_neg (by rw [List.any_eq_true]; rintro ⟨y, hy, e⟩; simp at e; subst e; exact hx hy)]
    simp [hx, bindR]
theorem equal_pairs_ok (a b : List (List Int)) : slices_Equal_pairs_m a b = some (decide (a = b)) := by
  apply Ok.eq
  unfold slices_Equal_pairs_m
  simp only [ok_ite, ok_some, ok_bindR, bne_iff_ne]
  refine ⟨fun h => ?_, fun h => ?_⟩
  · rw [eq_comm, decide_eq_false_iff_not]; intro e; subst e; exact h rfl
  · have hl : a.length = b.length := by omega
    refine ok_rangeL (fun k _ => ∀ j, j < k → nth a j = nth b j) (by intro j hj; omega) (fun k x s hk hI => ?_) fun s hs => ?_
    · obtain ⟨hx, hka⟩ := nth_of hk
      unfold slices_Equal_pairs_b1
      simp only [idx_nat, nth_at (show k < b.length by omega), Option.bind_some, ok_ite, ok_some, flok_rt, flok_nx, Bool.not_eq_true', decide_eq_false_iff_not]
      refine ⟨fun hne => ?_, fun heq j hj => ?_⟩
      · rw [eq_comm, decide_eq_false_iff_not]; intro e; subst e; exact hne hx.symm
      · by_cases hjk : j = k
        · subst hjk; rw [hx]; exact Classical.not_not.1 heq
        · exact hI j (by omega)
    · rw [eq_comm, decide_eq_true_eq]; exact nth_ext hl hs
/-- the places of a table that are chosen, row by row -/
def rowP (x : Nat) (P : Nat → Nat → Bool) : Nat → List (List Int)
  | 0 => []
  | k + 1 => rowP x P k ++ if P x k then [[(x : Int), (k : Int)]] else []
def ptsL (c : Nat) (P : Nat → Nat → Bool) : Nat → List (List Int)
  | 0 => []
  | x + 1 => ptsL c P x ++ rowP x P c
theorem mem_rowP {x : Nat} {P : Nat → Nat → Bool} {c : Nat} {p : List Int} : p ∈ rowP x P c ↔ ∃ y, y < c ∧ P x y = true ∧ p = [(x : Int), (y : Int)] := by
  induction c with
  | zero => simp [rowP]
  | succ c ih =>
    simp only [rowP, List.mem_append, ih]
    constructor
    · rintro (⟨y, h1, h2, h3⟩ | h)
      · exact ⟨y, by omega, h2, h3⟩
      · split at h
        · rename_i hp; simp at h; exact ⟨c, by omega, hp, h⟩
        · cases h
    · rintro ⟨y, h1, h2, h3⟩
      by_cases e : y = c
      · subst e; right; rw [if_pos h2]; simp [h3]
      · left; exact ⟨y, by omega, h2, h3⟩
theorem mem_ptsL {r c : Nat} {P : Nat → Nat → Bool} {p : List Int} : p ∈ ptsL c P r ↔ ∃ x y, x < r ∧ y < c ∧ P x y = true ∧ p = [(x : Int), (y : Int)] := by
  induction r with
  | zero => simp [ptsL]
  | succ r ih =>
    simp only [ptsL, List.mem_append, ih, mem_rowP]
    constructor
    · rintro (⟨x, y, h1, h2, h3, h4⟩ | ⟨y, h2, h3, h4⟩)
      · exact ⟨x, y, by omega, h2, h3, h4⟩
      · exact ⟨r, y, by omega, h2, h3, h4⟩
    · rintro ⟨x, y, h1, h2, h3, h4⟩
      by_cases e : x = r
      · subst e; right; exact ⟨y, h2, h3, h4⟩
      · left; exact ⟨x, y, by omega, h2, h3, h4⟩
theorem len_rowP {x : Nat} {P : Nat → Nat → Bool} {c : Nat} : ((rowP x P c).length : Int) = sumN c (fun y => if P x y then 1 else 0) := by
  induction c with
  | zero => rfl
  | succ c ih => simp only [rowP, List.length_append, sumN, Int.natCast_add, ih]; split <;> simp
theorem len_ptsL {r c : Nat} {P : Nat → Nat → Bool} : ((ptsL c P r).length : Int) = sumN r (fun x => sumN c (fun y => if P x y then 1 else 0)) := by
  induction r with
  | zero => rfl
  | succ r ih => simp only [ptsL, List.length_append, sumN, Int.natCast_add, ih, len_rowP]
theorem len_rowP_le {x : Nat} {P : Nat → Nat → Bool} {c : Nat} : (rowP x P c).length ≤ c := by
  induction c with
  | zero => simp [rowP]
  | succ c ih => simp only [rowP, List.length_append]; split <;> simp <;> omega
theorem len_ptsL_le {r c : Nat} {P : Nat → Nat → Bool} : (ptsL c P r).length ≤ r * c := by
  induction r with
  | zero => simp [ptsL]
  | succ r ih => simp only [ptsL, List.length_append, Nat.add_mul]; have := @len_rowP_le r P c; omega
theorem rowP_congr {x c : Nat} {P Q : Nat → Nat → Bool} (h : ∀ y, y < c → P x y = Q x y) : rowP x P c = rowP x Q c := by
  induction c with
  | zero => rfl
  | succ c ih => simp only [rowP]; rw [ih fun y hy => h y (by omega), h c (by omega)]
theorem ptsL_congr {r c : Nat} {P Q : Nat → Nat → Bool} (h : ∀ x y, x < r → y < c → P x y = Q x y) : ptsL c P r = ptsL c Q r := by
  induction r with
  | zero => rfl
  | succ r ih => simp only [ptsL]; rw [ih fun x y hx hy => h x y (by omega) hy, rowP_congr fun y hy => h r y (by omega) hy]
end Go.Pu
