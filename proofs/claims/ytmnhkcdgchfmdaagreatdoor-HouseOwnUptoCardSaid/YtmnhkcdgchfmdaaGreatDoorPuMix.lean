/- Lines over [0,1]: the most of the least of them is at an end or where two of them cross. Integers alone. -/
import Derived.Test.YtmnhkcdgchfmdaaGreatDoorWHouseOwnModels
import Derived.Test.YtmnhkcdgchfmdaaGreatDoorPuSad
set_option linter.all false
namespace Go.Pu
open Go.Fw Go.Mo
theorem cancel_le {a b c : Int} (hc : 0 < c) (h : a * c ≤ b * c) : a ≤ b := Int.le_of_mul_le_mul_right h hc
theorem cancel_lt {a b c : Int} (hc : 0 < c) (h : a * c < b * c) : a < b := Int.lt_of_mul_lt_mul_right h (by omega)
theorem mul_le {a b c : Int} (hc : 0 ≤ c) (h : a ≤ b) : a * c ≤ b * c := Int.mul_le_mul_of_nonneg_right h hc
theorem mul_lt {a b c : Int} (hc : 0 < c) (h : a < b) : a * c < b * c := Int.mul_lt_mul_of_pos_right h hc
/-- of those with u at most 0, all with w above 0, one has the greatest -u by w -/
theorem ratio_max {u w : Nat → Int} : ∀ {n : Nat}, (∀ k, k < n → u k ≤ 0 → 0 < w k) → (∃ k, k < n ∧ u k ≤ 0) → ∃ i, i < n ∧ u i ≤ 0 ∧ ∀ k, k < n → u k ≤ 0 → u i * w k ≤ u k * w i
  | n + 1, hw, ⟨k0, hk0, hu0⟩ => by
    by_cases ex : ∃ k, k < n ∧ u k ≤ 0
    · obtain ⟨i, hi, hui, hb⟩ := ratio_max (u := u) (w := w) (n := n) (fun k hk => hw k (by omega)) ex
      by_cases hn : u n ≤ 0
      · by_cases hc : u i * w n ≤ u n * w i
        · refine ⟨i, by omega, hui, fun k hk hku => ?_⟩
          by_cases e : k = n
          · subst e; exact hc
          · exact hb k (by omega) hku
        · refine ⟨n, by omega, hn, fun k hk hku => ?_⟩
          by_cases e : k = n
          · subst e; exact Int.le_refl _
          · have h1 := hb k (by omega) hku
            have wi := hw i (by omega) hui
            have wk := hw k hk hku
            have wn := hw n (by omega) hn
            refine cancel_le wi ?_
            have a1 := mul_le (show 0 ≤ w n by omega) h1
            have a2 := mul_le (show 0 ≤ w k by omega) (show u n * w i ≤ u i * w n by omega)
            grind
      · exact ⟨i, by omega, hui, fun k hk hku => by
          by_cases e : k = n
          · subst e; exact absurd hku hn
          · exact hb k (by omega) hku⟩
    · have e : k0 = n := by
        by_cases e : k0 = n
        · exact e
        · exact absurd ⟨k0, by omega, hu0⟩ ex
      subst e
      exact ⟨k0, by omega, hu0, fun k hk hku => by
        by_cases e : k = k0
        · subst e; exact Int.le_refl _
        · exact absurd ⟨k, by omega, hku⟩ ex⟩
theorem pos_of_mul {a b : Int} (hb : 0 ≤ b) (h : 0 < a * b) : 0 < a := by
  rcases Int.lt_or_le 0 a with h' | h'
  · exact h'
  · have := mul_le hb h'; omega
/-- lines above 0 at one point, where one begins at most 0 and one ends so: all are above 0 where two of these cross -/
theorem cross {u w : Nat → Int} {n : Nat} {p r : Int} (hp : 0 ≤ p) (hr : 0 ≤ r) (hx : ∀ k, k < n → 0 < w k * p + u k * r) (hu : ∃ k, k < n ∧ u k ≤ 0) (hw : ∃ k, k < n ∧ w k ≤ 0) :
    ∃ i j, i < n ∧ j < n ∧ 0 < u j - u i ∧ 0 < w i - w j ∧ ∀ k, k < n → 0 < w k * (u j - u i) + u k * (w i - w j) := by
  have pu : ∀ k, k < n → u k ≤ 0 → 0 < w k := fun k hk h => by
    have h1 := hx k hk
    have h2 := mul_le hr h
    exact pos_of_mul hp (by omega)
  have pw : ∀ k, k < n → w k ≤ 0 → 0 < u k := fun k hk h => by
    have h1 := hx k hk
    have h2 := mul_le hp h
    exact pos_of_mul hr (by omega)
  obtain ⟨i, hi, ui, bi⟩ := ratio_max pu hu
  obtain ⟨j, hj, wj, bj⟩ := ratio_max (u := w) (w := u) pw hw
  have wi := pu i hi ui
  have uj := pw j hj wj
  have main : u i * w j < w i * u j := by
    have h1 := hx i hi
    have h2 := hx j hj
    rcases Int.lt_or_le 0 p with hp' | hp'
    · rcases Int.lt_or_le 0 r with hr' | hr'
      · have a1 : (- (u i)) * r < w i * p := by rw [Int.neg_mul]; omega
        have a2 : (- (w j)) * p < u j * r := by rw [Int.neg_mul]; omega
        have b1 : (- (u i)) * r * ((- (w j)) * p) ≤ w i * p * ((- (w j)) * p) := mul_le (Int.mul_nonneg (by omega) hp) (by omega)
        have b2 : (- (w j)) * p * (w i * p) < u j * r * (w i * p) := mul_lt (Int.mul_pos wi hp') a2
        have b3 : u i * w j * (p * r) < w i * u j * (p * r) := by grind
        exact cancel_lt (Int.mul_pos hp' hr') b3
      · have : r = 0 := by omega
        subst this
        have : w j * p ≤ 0 * p := mul_le hp wj
        rw [Int.mul_zero] at h2; omega
    · have : p = 0 := by omega
      subst this
      have : u i * r ≤ 0 * r := mul_le hr ui
      rw [Int.mul_zero] at h1; omega
  refine ⟨i, j, hi, hj, by omega, by omega, fun k hk => ?_⟩
  have ei : w i * (u j - u i) + u i * (w i - w j) = w i * u j - u i * w j := by grind
  have ej : w j * (u j - u i) + u j * (w i - w j) = w i * u j - u i * w j := by grind
  rcases Int.lt_or_le 0 (u k) with huk | huk
  · rcases Int.lt_or_le 0 (w k) with hwk | hwk
    · have a := Int.mul_pos hwk (show 0 < u j - u i by omega)
      have b := Int.mul_pos huk (show 0 < w i - w j by omega)
      omega
    · have hb := bj k hk hwk
      refine cancel_lt uj ?_
      have a1 := mul_le (show 0 ≤ u j - u i by omega) hb
      have a2 := Int.mul_pos (show 0 < u k from huk) (show 0 < w i * u j - u i * w j by omega)
      rw [Int.zero_mul]
      grind
  · have hb := bi k hk huk
    have hwk := pu k hk huk
    refine cancel_lt wi ?_
    have a1 := mul_le (show 0 ≤ w i - w j by omega) hb
    have a2 := Int.mul_pos hwk (show 0 < w i * u j - u i * w j by omega)
    rw [Int.zero_mul]
    grind
end Go.Pu
