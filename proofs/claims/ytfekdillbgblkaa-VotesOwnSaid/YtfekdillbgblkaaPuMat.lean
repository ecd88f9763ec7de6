/- Square tables of numbers. -/
import Derived.Test.YtfekdillbgblkaaPuWp
set_option linter.all false
namespace Go.Pu
open Go.Fw
/-- a table of n by k, by a function -/
structure Mat (n k : Nat) (m : List (List Int)) (f : Nat → Nat → Int) : Prop where
  len : m.length = n
  row : ∀ x, x < n → (nth m x).length = k
  at_ : ∀ x y, x < n → y < k → nth (nth m x) y = f x y
section
variable {n k : Nat} {m : List (List Int)} {f g : Nat → Nat → Int}
theorem Mat.congr (h : Mat n k m f) (e : ∀ x y, x < n → y < k → f x y = g x y) : Mat n k m g := ⟨h.len, h.row, fun x y hx hy => by rw [h.at_ x y hx hy, e x y hx hy]⟩
theorem Mat.row? (h : Mat n k m f) {x : Nat} (hx : x < n) : m[x]? = some (nth m x) := nth_at (by rw [h.len]; exact hx)
theorem Mat.cell? (h : Mat n k m f) {x y : Nat} (hx : x < n) (hy : y < k) : (nth m x)[y]? = some (f x y) := by rw [nth_at (by rw [h.row x hx]; exact hy), h.at_ x y hx hy]
theorem Mat.set (h : Mat n k m f) {x y : Nat} (hx : x < n) (hy : y < k) (v : Int) : Mat n k (m.set x ((nth m x).set y v)) (fun a b => if a = x ∧ b = y then v else f a b) := by
  have hxl : x < m.length := by rw [h.len]; exact hx
  refine ⟨by simpa using h.len, fun a ha => ?_, fun a b ha hb => ?_⟩
  · rw [nth_set hxl]
    split
    · simpa using h.row x hx
    · exact h.row a ha
  · rw [nth_set hxl]
    by_cases hax : a = x
    · subst hax
      rw [if_pos rfl, nth_set (by rw [h.row a ha]; exact hy)]
      by_cases hby : b = y
      · simp [hby]
      · simp [hby]; exact h.at_ a b ha hb
    · rw [if_neg hax, if_neg (by simp [hax])]; exact h.at_ a b ha hb
theorem Mat.setRow (h : Mat n k m f) {x : Nat} (hx : x < n) {r : List Int} {v : Nat → Int} (hr : r.length = k) (hv : ∀ y, y < k → nth r y = v y) : Mat n k (m.set x r) (fun a b => if a = x then v b else f a b) := by
  have hxl : x < m.length := by rw [h.len]; exact hx
  refine ⟨by simpa using h.len, fun a ha => ?_, fun a b ha hb => ?_⟩
  · rw [nth_set hxl]
    split
    · exact hr
    · exact h.row a ha
  · rw [nth_set hxl]
    split
    · exact hv b hb
    · exact h.at_ a b ha hb
theorem Mat.ext {m' : List (List Int)} (h : Mat n k m f) (h' : Mat n k m' f) : m = m' := by
  refine nth_ext (by rw [h.len, h'.len]) fun x hx => ?_
  rw [h.len] at hx
  refine nth_ext (by rw [h.row x hx, h'.row x hx]) fun y hy => ?_
  rw [h.row x hx] at hy
  rw [h.at_ x y hx hy, h'.at_ x y hx hy]
theorem Mat.self (h1 : m.length = n) (h2 : ∀ r ∈ m, r.length = k) : Mat n k m (fun x y => nth (nth m x) y) := ⟨h1, fun x hx => h2 _ (nth_mem (by omega)), fun _ _ _ _ => rfl⟩
end
/-- a list of numbers, by a function -/
structure Vec (n : Nat) (l : List Int) (f : Nat → Int) : Prop where
  len : l.length = n
  at_ : ∀ x, x < n → nth l x = f x
section
variable {n : Nat} {l : List Int} {f g : Nat → Int}
theorem Vec.congr (h : Vec n l f) (e : ∀ x, x < n → f x = g x) : Vec n l g := ⟨h.len, fun x hx => by rw [h.at_ x hx, e x hx]⟩
theorem Vec.at? (h : Vec n l f) {x : Nat} (hx : x < n) : l[x]? = some (f x) := by rw [nth_at (by rw [h.len]; exact hx), h.at_ x hx]
theorem Vec.set (h : Vec n l f) {x : Nat} (hx : x < n) (v : Int) : Vec n (l.set x v) (fun a => if a = x then v else f a) :=
  ⟨by simpa using h.len, fun a ha => by rw [nth_set (by rw [h.len]; exact hx)]; split; rfl; exact h.at_ a ha⟩
theorem Vec.ext {l' : List Int} (h : Vec n l f) (h' : Vec n l' f) : l = l' := nth_ext (by rw [h.len, h'.len]) fun x hx => by rw [h.len] at hx; rw [h.at_ x hx, h'.at_ x hx]
theorem Vec.self (h : l.length = n) : Vec n l (nth l) := ⟨h, fun _ _ => rfl⟩
theorem Vec.zero : Vec n (List.replicate n 0) (fun _ => 0) := ⟨by simp, fun x hx => nth_replicate hx⟩
theorem Vec.nil : Vec 0 [] f := ⟨rfl, fun x hx => by omega⟩
theorem Vec.snoc (h : Vec n l f) {v : Int} (e : v = f n) : Vec (n + 1) (l ++ [v]) f := ⟨by simp [h.len], fun x hx => by
  rw [nth_append, h.len]
  split
  · rename_i h'; exact h.at_ x h'
  · have : x = n := by omega
    subst this; simp [e]; rfl⟩
end
/-- sums over the first n numbers -/
def sumN (n : Nat) (f : Nat → Int) : Int := match n with | 0 => 0 | n + 1 => sumN n f + f n
theorem sumN_congr {n : Nat} {f g : Nat → Int} (h : ∀ x, x < n → f x = g x) : sumN n f = sumN n g := by
  induction n with
  | zero => rfl
  | succ n ih => simp only [sumN]; rw [ih fun x hx => h x (by omega), h n (by omega)]
theorem sumN_add {n : Nat} {f g : Nat → Int} : sumN n (fun x => f x + g x) = sumN n f + sumN n g := by
  induction n with
  | zero => rfl
  | succ n ih => simp only [sumN]; omega
theorem sumN_zero {n : Nat} : sumN n (fun _ => 0) = 0 := by
  induction n with
  | zero => rfl
  | succ n ih => simp only [sumN]; omega
theorem sumN_mul {n : Nat} {f : Nat → Int} {c : Int} : sumN n (fun x => c * f x) = c * sumN n f := by
  induction n with
  | zero => simp [sumN]
  | succ n ih => simp only [sumN]; rw [ih, Int.mul_add]
theorem sumN_const {n : Nat} {c : Int} : sumN n (fun _ => c) = n * c := by
  induction n with
  | zero => simp [sumN]
  | succ n ih => simp only [sumN]; rw [ih, Int.natCast_add, Int.add_mul]; simp
theorem sumN_le {n : Nat} {f g : Nat → Int} (h : ∀ x, x < n → f x ≤ g x) : sumN n f ≤ sumN n g := by
  induction n with
  | zero => exact Int.le_refl _
  | succ n ih => simp only [sumN]; have := ih fun x hx => h x (by omega); have := h n (by omega); omega
theorem sumN_comm {n k : Nat} {f : Nat → Nat → Int} : sumN n (fun x => sumN k (fun y => f x y)) = sumN k (fun y => sumN n (fun x => f x y)) := by
  induction n with
  | zero => simp only [sumN, sumN_zero]
  | succ n ih => simp only [sumN]; rw [ih, sumN_add]
theorem sumN_neg {n : Nat} {f : Nat → Int} : sumN n (fun x => - f x) = - sumN n f := by
  induction n with
  | zero => rfl
  | succ n ih => simp only [sumN]; omega
theorem sumN_sub {n : Nat} {f g : Nat → Int} : sumN n (fun x => f x - g x) = sumN n f - sumN n g := by
  induction n with
  | zero => rfl
  | succ n ih => simp only [sumN]; omega
theorem sumN_single {n k : Nat} {c : Int} (h : k < n) : sumN n (fun x => if x = k then c else 0) = c := by
  induction n with
  | zero => omega
  | succ n ih =>
    simp only [sumN]
    by_cases hk : k = n
    · subst hk
      rw [if_pos rfl, sumN_congr (g := fun _ => 0) (fun x hx => if_neg (by omega)), sumN_zero]; omega
    · rw [ih (by omega), if_neg (Ne.symm hk)]; omega
end Go.Pu
