/- The plain law: the greedy choice, or the best single thing, has half of the best worth. -/
import Derived.Test.YtbkginapdldffaaWKnapHalfModels
import Derived.Test.YtbkginapdldffaaPuItems
import Derived.Test.YtbkginapdldffaaPuWeigh
import Derived.Test.YtbkginapdldffaaPuGood
import Derived.Test.YtbkginapdldffaaPuMat
set_option linter.all false
namespace Go.Pu
open Go.Fw Go.Mo
/-- weight and worth of the i-th -/
def wt (l : List (Int × Int)) (i : Nat) : Int := (nth l i).1
def vl (l : List (Int × Int)) (i : Nat) : Int := (nth l i).2
theorem sumN_shift : ∀ (m : Nat) (f : Nat → Int), sumN (m + 1) f = f 0 + sumN m (fun j => f (j + 1)) := by
  intro m f
  induction m with
  | zero => simp [sumN]
  | succ m ih => simp only [sumN] at ih ⊢; rw [ih]; omega
/-- a price for the room bounds the best -/
theorem lag (R c d : Int) (hc : 0 ≤ c) (hd : 0 ≤ d) : ∀ (l : List (Int × Int)) (r : Int), (∀ x ∈ l, 1 ≤ x.1) → 0 ≤ r → r ≤ R → c * best l r ≤ sumN l.length (fun i => if wt l i ≤ R then max 0 (c * vl l i - d * wt l i) else 0) + d * r
  | [], r, _, h0, _ => by
    have := Int.mul_nonneg hd h0
    simpa [best, sumN] using this
  | x :: l, r, hx, h0, hr => by
    have hx1 := hx x (by simp)
    have ih := lag R c d hc hd l r (fun y hy => hx y (by simp [hy])) h0 hr
    rw [List.length_cons, sumN_shift]
    have e0 : wt (x :: l) 0 = x.1 := rfl
    have e1 : vl (x :: l) 0 = x.2 := rfl
    have es : (fun j => if wt (x :: l) (j + 1) ≤ R then max 0 (c * vl (x :: l) (j + 1) - d * wt (x :: l) (j + 1)) else 0) = (fun i => if wt l i ≤ R then max 0 (c * vl l i - d * wt l i) else 0) := rfl
    rw [es, e0, e1]
    have hpos : 0 ≤ (if x.1 ≤ R then max 0 (c * x.2 - d * x.1) else 0) := by split <;> omega
    simp only [best]
    by_cases hxr : x.1 ≤ r
    · have ih2 := lag R c d hc hd l (r - x.1) (fun y hy => hx y (by simp [hy])) (by omega) (by omega)
      rw [if_pos hxr]
      rw [if_pos (show x.1 ≤ R by omega)] at hpos ⊢
      have e2 : d * (r - x.1) = d * r - d * x.1 := Int.mul_sub d r x.1
      have e3 : c * (x.2 + best l (r - x.1)) = c * x.2 + c * best l (r - x.1) := Int.mul_add c _ _
      by_cases hm : best l r ≤ x.2 + best l (r - x.1)
      · rw [Int.max_eq_right hm, e3]; omega
      · rw [Int.max_eq_left (by omega)]; omega
    · rw [if_neg hxr]; omega
/-- there is a densest -/
theorem densest {l : List (Int × Int)} (hl : ∀ x ∈ l, 1 ≤ x.1 ∧ 0 ≤ x.2) (P : Nat → Prop) : ∀ n : Nat, n ≤ l.length → (∃ j, j < n ∧ P j) → ∃ k, k < n ∧ P k ∧ ∀ j, j < n → P j → vl l j * wt l k ≤ vl l k * wt l j := by
  intro n
  induction n with
  | zero => rintro _ ⟨j, hj, -⟩; omega
  | succ n ih =>
    rintro hn ⟨j, hj, hP⟩
    by_cases hex : ∃ j, j < n ∧ P j
    · obtain ⟨k, hk, hPk, hmax⟩ := ih (by omega) hex
      by_cases hPn : P n
      · have wn := (hl _ (nth_mem (show n < l.length by omega)))
        have wk := (hl _ (nth_mem (show k < l.length by omega)))
        by_cases hb : vl l n * wt l k ≤ vl l k * wt l n
        · refine ⟨k, by omega, hPk, fun i hi hPi => ?_⟩
          by_cases e : i = n
          · rw [e]; exact hb
          · exact hmax i (by omega) hPi
        · refine ⟨n, by omega, hPn, fun i hi hPi => ?_⟩
          by_cases e : i = n
          · rw [e]; exact Int.le_refl _
          · have h1 := hmax i (by omega) hPi
            have wi := (hl _ (nth_mem (show i < l.length by omega)))
            have m1 := Int.mul_le_mul_of_nonneg_right h1 (show 0 ≤ wt l n by unfold wt; omega)
            have m2 := Int.mul_le_mul_of_nonneg_right (show vl l k * wt l n ≤ vl l n * wt l k by omega) (show 0 ≤ wt l i by unfold wt; omega)
            have m3 : vl l i * wt l n * wt l k ≤ vl l n * wt l i * wt l k := by
              have a1 : vl l i * wt l n * wt l k = vl l i * wt l k * wt l n := Int.mul_right_comm _ _ _
              have a2 : vl l n * wt l i * wt l k = vl l n * wt l k * wt l i := Int.mul_right_comm _ _ _
              have a3 : vl l k * wt l i * wt l n = vl l k * wt l n * wt l i := Int.mul_right_comm _ _ _
              omega
            exact Int.le_of_mul_le_mul_right m3 (by unfold wt; omega)
      · exact ⟨k, by omega, hPk, fun i hi hPi => by
          by_cases e : i = n
          · rw [e] at hPi; exact (hPn hPi).elim
          · exact hmax i (by omega) hPi⟩
    · have : j = n := Classical.byContradiction fun h => hex ⟨j, by omega, hP⟩
      subst this
      exact ⟨j, by omega, hP, fun i hi hPi => by
        by_cases e : i = j
        · rw [e]; exact Int.le_refl _
        · exact (hex ⟨i, by omega, hPi⟩).elim⟩
def on (f : List Int) (i : Nat) (x : Int) : Int := if nth f i = 1 then x else 0
structure Gr (l : List (Int × Int)) (R : Int) (room : Int) (f : List Int) (v : Int) : Prop where
  len : f.length = l.length
  bit : ∀ i, i < l.length → nth f i = 0 ∨ nth f i = 1
  rm : room = R - sumN l.length (fun i => on f i (wt l i))
  val : v = sumN l.length (fun i => on f i (vl l i))
  pos : 0 ≤ room
  good : (∃ k, k < l.length ∧ wt l k ≤ R ∧ best l R ≤ v + vl l k) ∨ (∀ i j, i < l.length → j < l.length → nth f i = 1 → nth f j = 0 → wt l j ≤ R → vl l j * wt l i ≤ vl l i * wt l j)
/-- while the densest were taken: one more that does not fit bounds the best -/
theorem Gr.bound {l : List (Int × Int)} (hl : Items l) {R room v : Int} {f : List Int} (hR : 0 ≤ R) (h : Gr l R room f v) (ph : ∀ i j, i < l.length → j < l.length → nth f i = 1 → nth f j = 0 → wt l j ≤ R → vl l j * wt l i ≤ vl l i * wt l j) {k : Nat} (hk : k < l.length) (fk : nth f k = 0) (wk : wt l k ≤ R) (big : room < wt l k)
    (top : ∀ j, j < l.length → nth f j = 0 ∧ wt l j ≤ R → vl l j * wt l k ≤ vl l k * wt l j) : best l R ≤ v + vl l k := by
  have ik := hl.2 _ (nth_mem hk)
  have hw1 : 1 ≤ wt l k := ik.1
  have hv0 : 0 ≤ vl l k := ik.2.2.1
  have hlag := lag R (wt l k) (vl l k) (by omega) hv0 l R (fun x hx => (hl.2 x hx).1) hR (Int.le_refl _)
  have hs : sumN l.length (fun i => if wt l i ≤ R then max 0 (wt l k * vl l i - vl l k * wt l i) else 0) ≤ sumN l.length (fun i => wt l k * on f i (vl l i) - vl l k * on f i (wt l i)) := sumN_le fun i hi => by
    rcases h.bit i hi with fi | fi
    · have e : on f i (vl l i) = 0 ∧ on f i (wt l i) = 0 := by unfold on; rw [fi]; simp
      rw [e.1, e.2, Int.mul_zero, Int.mul_zero]
      by_cases hw : wt l i ≤ R
      · rw [if_pos hw]
        have := top i hi ⟨fi, hw⟩
        rw [Int.mul_comm (vl l i)] at this
        omega
      · rw [if_neg hw]; exact Int.le_refl _
    · have e : on f i (vl l i) = vl l i ∧ on f i (wt l i) = wt l i := by unfold on; rw [fi]; simp
      rw [e.1, e.2]
      have := ph i k hi hk fi fk wk
      rw [Int.mul_comm (vl l i)] at this
      split <;> omega
  rw [sumN_sub, sumN_mul, sumN_mul, ← h.val] at hs
  have hroom := h.rm
  have e1 : sumN l.length (fun i => on f i (wt l i)) = R - room := by omega
  rw [e1] at hs
  have e2 : vl l k * (R - room) = vl l k * R - vl l k * room := Int.mul_sub _ _ _
  rw [e2] at hs
  have e3 : vl l k * room ≤ vl l k * wt l k := Int.mul_le_mul_of_nonneg_left (by omega) hv0
  have e4 : wt l k * best l R ≤ wt l k * (v + vl l k) := by
    rw [Int.mul_add, Int.mul_comm (wt l k) (vl l k)]; omega
  exact Int.le_of_mul_le_mul_left e4 (by omega)
theorem Gr.all {l : List (Int × Int)} (hl : Items l) {R room v : Int} {f : List Int} (hR : 0 ≤ R) (h : Gr l R room f v) (top : ∀ j, j < l.length → ¬ (nth f j = 0 ∧ wt l j ≤ R)) : best l R ≤ v := by
  have hlag := lag R 1 0 (by omega) (by omega) l R (fun x hx => (hl.2 x hx).1) hR (Int.le_refl _)
  have hs : sumN l.length (fun i => if wt l i ≤ R then max 0 (1 * vl l i - 0 * wt l i) else 0) ≤ sumN l.length (fun i => on f i (vl l i)) := sumN_le fun i hi => by
    have iv : 0 ≤ vl l i := (hl.2 _ (nth_mem hi)).2.2.1
    rcases h.bit i hi with fi | fi
    · have := top i hi
      rw [if_neg fun hw => this ⟨fi, hw⟩]
      unfold on; rw [fi]; simp
    · have e : on f i (vl l i) = vl l i := by unfold on; rw [fi]; simp
      rw [e]; split <;> omega
  rw [← h.val] at hs
  omega
theorem gsel {l : List (Int × Int)} (hl : Items l) {R room v : Int} {f : List Int} (h : Gr l R room f v) : Ok (rangeL (ρ := (List Int) × Int × Int) (γ := (Int × (List Int) × Int)) (knap_Greedy_b2 f room l) l 0 (-1 : Int)) (FlOk (fun x => (x = -1 ∧ ∀ j, j < l.length → nth f j = 0 → room < wt l j) ∨ ∃ m : Nat, x = (m : Int) ∧ m < l.length ∧ nth f m = 0 ∧ wt l m ≤ room ∧ ∀ j, j < l.length → nth f j = 0 → wt l j ≤ room → vl l j * wt l m ≤ vl l m * wt l j) (fun _ => False) (fun _ => False)) := by
  refine ok_rangeL (fun k (x : Int) => (x = -1 ∧ ∀ j, j < k → nth f j = 0 → room < wt l j) ∨ ∃ m : Nat, x = (m : Int) ∧ m < k ∧ nth f m = 0 ∧ wt l m ≤ room ∧ ∀ j, j < k → nth f j = 0 → wt l j ≤ room → vl l j * wt l m ≤ vl l m * wt l j) (.inl ⟨rfl, fun j hj => by omega⟩) (fun k y x hk hI => ?_) fun x hx => hx
  obtain ⟨hy, hkl⟩ := nth_of hk
  have hyw : y.1 = wt l k := by rw [← hy]; rfl
  have hyv : y.2 = vl l k := by rw [← hy]; rfl
  have ik := hl.2 _ (nth_mem hkl)
  rw [hy, hyw, hyv] at ik
  have hfl : k < f.length := by rw [h.len]; exact hkl
  unfold knap_Greedy_b2
  rw [ok_bindF, idx_nat, nth_at hfl, Option.bind_some, hyw, hyv]
  have skip : (nth f k = 0 → room < wt l k) → (x = -1 ∧ ∀ j, j < k + 1 → nth f j = 0 → room < wt l j) ∨ ∃ m : Nat, x = (m : Int) ∧ m < k + 1 ∧ nth f m = 0 ∧ wt l m ≤ room ∧ ∀ j, j < k + 1 → nth f j = 0 → wt l j ≤ room → vl l j * wt l m ≤ vl l m * wt l j := fun hs => by
    rcases hI with ⟨e, hall⟩ | ⟨m, e, hm, fm, wm, hmax⟩
    · exact .inl ⟨e, fun j hj fj => by
        by_cases ej : j = k
        · rw [ej] at fj ⊢; exact hs fj
        · exact hall j (by omega) fj⟩
    · exact .inr ⟨m, e, by omega, fm, wm, fun j hj fj wj => by
        by_cases ej : j = k
        · rw [ej] at fj wj; have := hs fj; omega
        · exact hmax j (by omega) fj wj⟩
  by_cases f0 : nth f k = 0
  · rw [if_pos (by simpa using f0)]
    by_cases hw : wt l k ≤ room
    · rw [if_pos (by simpa using hw)]
      rcases hI with ⟨e, hall⟩ | ⟨m, e, hm, fm, wm, hmax⟩
      · subst e
        rw [if_pos (by decide), ok_some, flok_nx, if_pos rfl, ok_some, flok_nx]
        exact .inr ⟨k, rfl, by omega, f0, hw, fun j hj fj wj => by
          by_cases ej : j = k
          · rw [ej]; exact Int.le_refl _
          · have := hall j (by omega) fj; omega⟩
      · subst e
        have im := hl.2 _ (nth_mem (show m < l.length by omega))
        have hmw : (nth l m).1 = wt l m := rfl
        have hmv : (nth l m).2 = vl l m := rfl
        rw [hmw, hmv] at im
        have b1 : 0 ≤ vl l k * wt l m := Int.mul_nonneg (by omega) (by omega)
        have b2 : vl l k * wt l m ≤ 1000000 * 100 := Int.mul_le_mul (by omega) (by omega) (by omega) (by omega)
        have b3 : 0 ≤ vl l m * wt l k := Int.mul_nonneg (by omega) (by omega)
        have b4 : vl l m * wt l k ≤ 1000000 * 100 := Int.mul_le_mul (by omega) (by omega) (by omega) (by omega)
        rw [if_neg (by simp), idx_nat, nth_at (show m < l.length by omega), Option.bind_some, Option.bind_some, hmw, hmv, wmul_of (by omega) (by omega), wmul_of (by omega) (by omega), ok_some, flok_nx]
        simp only [ok_ite, ok_some, flok_nx, decide_eq_true_eq]
        refine ⟨fun hgt => .inr ⟨k, rfl, by omega, f0, hw, fun j hj fj wj => ?_⟩, fun hle => .inr ⟨m, rfl, by omega, fm, wm, fun j hj fj wj => ?_⟩⟩
        · by_cases ej : j = k
          · rw [ej]; exact Int.le_refl _
          · have h1 := hmax j (by omega) fj wj
            have ij := hl.2 _ (nth_mem (show j < l.length by omega))
            have m1 := Int.mul_le_mul_of_nonneg_right h1 (show 0 ≤ wt l k by omega)
            have m2 := Int.mul_le_mul_of_nonneg_right (show vl l m * wt l k ≤ vl l k * wt l m by omega) (show 0 ≤ wt l j by unfold wt; omega)
            have m3 : vl l j * wt l k * wt l m ≤ vl l k * wt l j * wt l m := by
              have a1 : vl l j * wt l k * wt l m = vl l j * wt l m * wt l k := Int.mul_right_comm _ _ _
              have a2 : vl l k * wt l j * wt l m = vl l k * wt l m * wt l j := Int.mul_right_comm _ _ _
              have a3 : vl l m * wt l j * wt l k = vl l m * wt l k * wt l j := Int.mul_right_comm _ _ _
              omega
            exact Int.le_of_mul_le_mul_right m3 (by omega)
        · by_cases ej : j = k
          · rw [ej]; omega
          · exact hmax j (by omega) fj wj
    · rw [if_neg (by simpa using hw), ok_some, flok_nx, if_neg (by decide), ok_some, flok_nx]
      exact skip fun _ => by omega
  · rw [if_neg (by simpa using f0), ok_some, flok_nx, if_neg (by decide), ok_some, flok_nx]
    exact skip fun hh => (f0 hh).elim
theorem on_set {f : List Int} {n k : Nat} (hf : f.length = n) (hk : k < n) (f0 : nth f k = 0) (x : Nat → Int) : sumN n (fun i => on (f.set k 1) i (x i)) = sumN n (fun i => on f i (x i)) + x k := by
  have : sumN n (fun i => on (f.set k 1) i (x i)) = sumN n (fun i => on f i (x i) + if i = k then x k else 0) := sumN_congr fun i hi => by
    unfold on
    rw [nth_set (by omega)]
    by_cases e : i = k
    · subst e; rw [if_pos rfl, if_pos rfl, if_pos rfl, f0]; simp
    · rw [if_neg e, if_neg e]; simp
  rw [this, sumN_add, sumN_single hk]
theorem Gr.step {l : List (Int × Int)} (hl : Items l) {R room v : Int} {f : List Int} (hR : 0 ≤ R) (h : Gr l R room f v) {m : Nat} (hm : m < l.length) (fm : nth f m = 0) (wm : wt l m ≤ room) (hmax : ∀ j, j < l.length → nth f j = 0 → wt l j ≤ room → vl l j * wt l m ≤ vl l m * wt l j) : Gr l R (room - wt l m) (f.set m 1) (v + vl l m) := by
  have im := hl.2 _ (nth_mem hm)
  have hmw : (nth l m).1 = wt l m := rfl
  have hmv : (nth l m).2 = vl l m := rfl
  rw [hmw, hmv] at im
  have hrm := h.rm
  have nset : ∀ i, nth (f.set m 1) i = if i = m then 1 else nth f i := fun i => nth_set (by rw [h.len]; exact hm)
  refine ⟨by simpa using h.len, fun i hi => ?_, by rw [on_set h.len hm fm]; omega, by rw [on_set h.len hm fm, h.val], by omega, ?_⟩
  · rw [nset]; split
    · exact .inr rfl
    · exact h.bit i hi
  · rcases h.good with ⟨k, hk, wk, hb⟩ | ph
    · exact .inl ⟨k, hk, wk, by omega⟩
    · by_cases hex : ∃ j, j < l.length ∧ (nth f j = 0 ∧ wt l j ≤ R) ∧ vl l m * wt l j < vl l j * wt l m
      · obtain ⟨j, hj, ⟨fj, wj⟩, hlt⟩ := hex
        obtain ⟨k, hk, ⟨fk, wk⟩, top⟩ := densest (fun x hx => ⟨(hl.2 x hx).1, (hl.2 x hx).2.2.1⟩) (fun j => nth f j = 0 ∧ wt l j ≤ R) l.length (Nat.le_refl _) ⟨j, hj, fj, wj⟩
        have big : room < wt l k := Classical.byContradiction fun hh => by
          have h1 := hmax k hk fk (by omega)
          have h2 := top j hj ⟨fj, wj⟩
          have ij := hl.2 _ (nth_mem hj)
          have ik := hl.2 _ (nth_mem hk)
          have m1 := Int.mul_le_mul_of_nonneg_right h2 (show 0 ≤ wt l m by omega)
          have m2 := Int.mul_le_mul_of_nonneg_right h1 (show 0 ≤ wt l j by unfold wt; omega)
          have m3 := Int.mul_lt_mul_of_pos_right hlt (show 0 < wt l k by unfold wt; omega)
          have a1 : vl l m * wt l j * wt l k = vl l m * wt l k * wt l j := Int.mul_right_comm _ _ _
          have a2 : vl l j * wt l m * wt l k = vl l j * wt l k * wt l m := Int.mul_right_comm _ _ _
          have a3 : vl l k * wt l j * wt l m = vl l k * wt l m * wt l j := Int.mul_right_comm _ _ _
          omega
        exact .inl ⟨k, hk, wk, by have := Gr.bound hl hR h ph hk fk wk big top; omega⟩
      · refine .inr fun i j hi hj fi fj wj => ?_
        rw [nset] at fi fj
        by_cases ej : j = m
        · rw [if_pos ej] at fj; omega
        · rw [if_neg ej] at fj
          by_cases ei : i = m
          · subst ei
            exact Classical.byContradiction fun hh => hex ⟨j, hj, ⟨fj, wj⟩, by omega⟩
          · rw [if_neg ei] at fi
            exact ph i j hi hj fi fj wj
theorem on_best : ∀ (l : List (Int × Int)) (q : Nat → Bool) (r : Int), (∀ x ∈ l, 1 ≤ x.1 ∧ 0 ≤ x.2) → sumN l.length (fun i => if q i = true then wt l i else 0) ≤ r → sumN l.length (fun i => if q i = true then vl l i else 0) ≤ best l r
  | [], q, r, _, _ => by simp [sumN, best]
  | x :: l, q, r, h, hr => by
    have hx := h x (by simp)
    have hl : ∀ y ∈ l, 1 ≤ y.1 ∧ 0 ≤ y.2 := fun y hy => h y (by simp [hy])
    rw [List.length_cons, sumN_shift] at hr ⊢
    have e0 : wt (x :: l) 0 = x.1 := rfl
    have e1 : vl (x :: l) 0 = x.2 := rfl
    have w1 : (fun j => if q (j + 1) = true then wt (x :: l) (j + 1) else 0) = (fun j => if q (j + 1) = true then wt l j else 0) := rfl
    have v1 : (fun j => if q (j + 1) = true then vl (x :: l) (j + 1) else 0) = (fun j => if q (j + 1) = true then vl l j else 0) := rfl
    rw [e0, w1] at hr
    rw [e1, v1]
    have wn : 0 ≤ sumN l.length (fun j => if q (j + 1) = true then wt l j else 0) := by
      have := sumN_le (n := l.length) (f := fun _ => 0) (g := fun j => if q (j + 1) = true then wt l j else 0) fun i hi => by
        have := hl _ (nth_mem hi); unfold wt; split <;> omega
      rwa [sumN_zero] at this
    simp only [best]
    by_cases hq : q 0 = true
    · rw [if_pos hq] at hr ⊢
      have ih := on_best l (fun j => q (j + 1)) (r - x.1) hl (by omega)
      rw [if_pos (by omega)]
      omega
    · rw [if_neg hq] at hr ⊢
      have ih := on_best l (fun j => q (j + 1)) r hl (by omega)
      split <;> omega
theorem greedy_ok {l : List (Int × Int)} (hl : Items l) {R : Nat} (hR : R ≤ 1000) : ∃ s v, knap_Greedy_m l (R : Int) = some (s, v, 0) ∧ Incr l.length s ∧ wsum l s ≤ R ∧ vsum l s = v ∧ v ≤ best l R ∧ (best l R ≤ v ∨ ∃ k, k < l.length ∧ wt l k ≤ R ∧ best l R ≤ v + vl l k) := by
  have hlen := hl.1
  have bnd : ∀ i, i < l.length → 1 ≤ wt l i ∧ wt l i ≤ 100 ∧ 0 ≤ vl l i ∧ vl l i ≤ 1000000 := fun i hi => hl.2 _ (nth_mem hi)
  have : Ok (knap_Greedy_m l (R : Int)) (fun p => p.2.2 = 0 ∧ Incr l.length p.1 ∧ wsum l p.1 ≤ R ∧ vsum l p.1 = p.2.1 ∧ p.2.1 ≤ best l R ∧ (best l R ≤ p.2.1 ∨ ∃ k, k < l.length ∧ wt l k ≤ R ∧ best l R ≤ p.2.1 + vl l k)) := by
    unfold knap_Greedy_m
    rw [knap_check hl hR, Option.bind_some, if_neg (by decide), chk_t (by omega), Option.bind_some, ok_bindR, Int.toNat_natCast]
    refine ok_loopM (B := fun s : Int × List Int × Int => Ok (bindR (ρ := (List Int) × Int × Int) (β := Unit) (σ := (List Int)) (rangeL (γ := Unit) (knap_Greedy_b3 s.2.1) l 0 ([])) fun l416 => some (l416, s.2.2, (0 : Int))) (fun p => p.2.2 = 0 ∧ Incr l.length p.1 ∧ wsum l p.1 ≤ R ∧ vsum l p.1 = p.2.1 ∧ p.2.1 ≤ best l R ∧ (best l R ≤ p.2.1 ∨ ∃ k, k < l.length ∧ wt l k ≤ R ∧ best l R ≤ p.2.1 + vl l k))) (fun s : Int × List Int × Int => Gr l R s.1 s.2.1 s.2.2) (fun s => s.1.toNat) (fun s hI => ?_) _ _ ⟨by simp, fun i hi => .inl (nth_replicate hi), ?_, ?_, by simp, .inr fun i j hi hj fi => ?_⟩ (by simp only; omega)
    · obtain ⟨room, f, v⟩ := s
      simp only at hI
      have hrm := hI.rm
      have hpos := hI.pos
      have wn : 0 ≤ sumN l.length (fun i => on f i (wt l i)) := by
        have := sumN_le (n := l.length) (f := fun _ => 0) (g := fun i => on f i (wt l i)) fun i hi => by have := bnd i hi; unfold on; split <;> omega
        rwa [sumN_zero] at this
      have vn : 0 ≤ v ∧ v ≤ 12000000 := by
        have a := sumN_le (n := l.length) (f := fun _ => 0) (g := fun i => on f i (vl l i)) fun i hi => by have := bnd i hi; unfold on; split <;> omega
        have b := sumN_le (n := l.length) (f := fun i => on f i (vl l i)) (g := fun _ => 1000000) fun i hi => by have := bnd i hi; unfold on; split <;> omega
        rw [sumN_zero, ← hI.val] at a
        rw [sumN_const, ← hI.val] at b
        omega
      unfold knap_Greedy_b1
      simp only
      rw [ok_bindF]
      refine (gsel hl hI).mono fun x hx => ?_
      cases x with
      | br _ => exact hx.elim
      | rt _ => exact hx.elim
      | nx x =>
        rw [flok_nx] at hx ⊢
        rcases hx with ⟨e, hnone⟩ | ⟨m, e, hm, fm, wm, hmax⟩
        · subst e
          rw [if_pos (by decide), ok_some, flok_br]
          simp only
          have hfin : best l R ≤ v ∨ ∃ k, k < l.length ∧ wt l k ≤ R ∧ best l R ≤ v + vl l k := by
            rcases hI.good with h | ph
            · exact .inr h
            · by_cases hex : ∃ j, j < l.length ∧ (nth f j = 0 ∧ wt l j ≤ R)
              · obtain ⟨j, hj, hP⟩ := hex
                obtain ⟨k, hk, ⟨fk, wk⟩, top⟩ := densest (fun x hx => ⟨(hl.2 x hx).1, (hl.2 x hx).2.2.1⟩) (fun j => nth f j = 0 ∧ wt l j ≤ R) l.length (Nat.le_refl _) ⟨j, hj, hP⟩
                exact .inr ⟨k, hk, wk, Gr.bound hl (by omega) hI ph hk fk wk (hnone k hk fk) top⟩
              · exact .inl (Gr.all hl (by omega) hI fun j hj hh => hex ⟨j, hj, hh⟩)
          have hle : v ≤ best l R := by
            have hb := on_best l (fun i => decide (nth f i = 1)) R (fun x hx => ⟨(hl.2 x hx).1, (hl.2 x hx).2.2.1⟩)
            simp only [decide_eq_true_eq] at hb
            have h1 : sumN l.length (fun i => if nth f i = 1 then wt l i else 0) = sumN l.length (fun i => on f i (wt l i)) := rfl
            have h2 : sumN l.length (fun i => if nth f i = 1 then vl l i else 0) = sumN l.length (fun i => on f i (vl l i)) := rfl
            rw [h1, h2, ← hI.val] at hb
            exact hb (by omega)
          rw [ok_bindR]
          refine ok_rangeL (fun k (s : List Int) => s.length ≤ k ∧ (∀ x ∈ s, 0 ≤ x ∧ x < (k : Int)) ∧ s.Pairwise (· < ·) ∧ wsum l s = sumN k (fun i => on f i (wt l i)) ∧ vsum l s = sumN k (fun i => on f i (vl l i))) ⟨by simp, by simp, by simp, rfl, rfl⟩ (fun k y s hk hJ => ?_) fun s hs => ?_
          · obtain ⟨hy, hkl⟩ := nth_of hk
            obtain ⟨j1, j2, j3, j4, j5⟩ := hJ
            have hget : l.getD k (0, 0) = nth l k := rfl
            unfold knap_Greedy_b3
            rw [idx_nat, nth_at (by rw [hI.len]; exact hkl), Option.bind_some]
            by_cases f1 : nth f k = 1
            · rw [if_pos (by simpa using f1), chk_t (by simp; omega), Option.bind_some, ok_some, flok_nx]
              have o : ∀ x, on f k x = x := fun x => by unfold on; rw [if_pos f1]
              refine ⟨by simp; omega, fun x hx => ?_, ?_, ?_, ?_⟩
              · rcases List.mem_append.1 hx with hx | hx
                · have := j2 x hx; omega
                · simp at hx; omega
              · rw [List.pairwise_append]
                exact ⟨j3, by simp, fun a ha b hb => by have := j2 a ha; simp at hb; omega⟩
              · simp only [sumN, o, ← j4]; unfold wsum; simp; rfl
              · simp only [sumN, o, ← j5]; unfold vsum; simp; rfl
            · rw [if_neg (by simpa using f1), ok_some, flok_nx]
              have o : ∀ x, on f k x = 0 := fun x => by unfold on; rw [if_neg f1]
              refine ⟨by omega, fun x hx => by have := j2 x hx; omega, j3, ?_, ?_⟩
              · simp only [sumN, o, ← j4]; omega
              · simp only [sumN, o, ← j5]; omega
          · obtain ⟨j1, j2, j3, j4, j5⟩ := hs
            rw [ok_some]
            exact ⟨rfl, ⟨j1, j2, j3⟩, by simp only; omega, by simp only; rw [j5, ← hI.val], hle, hfin⟩
        · subst e
          have hst := hI.step hl (by omega) hm fm wm hmax
          have bm := bnd m hm
          have hmw : (nth l m).1 = wt l m := rfl
          have hmv : (nth l m).2 = vl l m := rfl
          rw [if_neg (by simp), idx_nat, nth_at (by rw [hI.len]; exact hm), Option.bind_some, idx_nat, nth_at hm, Option.bind_some, Option.bind_some, ok_some, flok_nx, hmw, hmv, Int.toNat_natCast, wsub_of (by omega) (by omega), wadd_of (by omega) (by omega)]
          exact ⟨hst, by simp only; omega⟩
    · rw [sumN_congr (g := fun _ => 0) fun i hi => by unfold on; rw [nth_replicate hi]; rfl, sumN_zero]; omega
    · rw [sumN_congr (g := fun _ => 0) fun i hi => by unfold on; rw [nth_replicate hi]; rfl, sumN_zero]
    · rw [nth_replicate hi] at fi; omega
  obtain ⟨⟨s, v, e⟩, h1, h2, h3, h4, h5, h7, h6⟩ := this
  simp only at h2 h3 h4 h5 h6 h7
  subst h2
  exact ⟨s, v, h1, h3, h4, h5, h7, h6⟩
theorem half_max {l : List (Int × Int)} (hl : Items l) {R v : Int} (hv0 : 0 ≤ v) (hv1 : v ≤ 12000000) : Ok (rangeL (ρ := Bool) (γ := Unit) (pk_KnapHalf_b1 R) l 0 v) (FlOk (fun x => (v ≤ x ∧ x ≤ 12000000) ∧ (∀ i, i < l.length → wt l i ≤ R → vl l i ≤ x) ∧ 0 ≤ x) (fun _ => False) (fun _ => False)) := by
  refine ok_rangeL (fun k (x : Int) => (v ≤ x ∧ x ≤ 12000000) ∧ (∀ i, i < k → wt l i ≤ R → vl l i ≤ x) ∧ 0 ≤ x) ⟨⟨Int.le_refl _, hv1⟩, fun i hi => by omega, hv0⟩ (fun k y x hk hI => ?_) fun x hx => hx
  obtain ⟨hy, hkl⟩ := nth_of hk
  obtain ⟨⟨i1, i2⟩, i3, i4⟩ := hI
  have ik := hl.2 _ (nth_mem hkl)
  have hyw : y.1 = wt l k := by rw [← hy]; rfl
  have hyv : y.2 = vl l k := by rw [← hy]; rfl
  rw [hy, hyw, hyv] at ik
  unfold pk_KnapHalf_b1
  rw [hyw, hyv]
  have up : ∀ z : Int, x ≤ z → z ≤ 12000000 → (wt l k ≤ R → vl l k ≤ z) → (v ≤ z ∧ z ≤ 12000000) ∧ (∀ i, i < k + 1 → wt l i ≤ R → vl l i ≤ z) ∧ 0 ≤ z := fun z h1 h2 h3 => ⟨⟨by omega, h2⟩, fun i hi hw => by
    by_cases e : i = k
    · rw [e] at hw ⊢; exact h3 hw
    · have := i3 i (by omega) hw; omega, by omega⟩
  simp only [ok_ite, ok_some, flok_nx, decide_eq_true_eq]
  refine ⟨fun hw => ?_, fun hw => up x (Int.le_refl _) i2 fun h => (hw h).elim⟩
  refine up _ ?_ ?_ fun _ => ?_ <;> split <;> omega
theorem khgood : pk_good_m [0, 0] = some true := by rw [good_at]; rfl
theorem KnapHalf (x0 : List (List Int)) (h0 : (∀ x ∈ x0, x.length = 2 ∧ ∀ y ∈ x, (Lit.int .i64 y).wf = true) ∧ x0.length ≤ maxLen) (x1 : Int) (_ : (Lit.int .i64 x1).wf = true) : pk_KnapHalf_m x0 x1 = some true := by
  obtain ⟨l, el, hl, _⟩ := itemsOf_ok x0 h0
  have a0 := Int.emod_nonneg x1 (b := 120) (by decide)
  have a1 := Int.emod_lt_of_pos x1 (b := 120) (by decide)
  obtain ⟨R, hR⟩ : ∃ R : Nat, x1 % 120 = (R : Int) := ⟨(x1 % 120).toNat, by omega⟩
  obtain ⟨s, es, -, -, -⟩ := most_ok hl (R := R) (by omega)
  obtain ⟨t, v, et, ht, hw, hv, hle, hor⟩ := greedy_ok hl (R := R) (by omega)
  have hb := best_bound l (R : Int) fun x hx => (hl.2 x hx).2.2
  have hlen := hl.1
  have hv0 : 0 ≤ v := by
    rw [← hv]; unfold vsum
    refine sum_nonneg _ (fun x => ?_) t
    by_cases hx : x.toNat < l.length
    · have := (hl.2 _ (nth_mem hx)).2.2.1
      exact this
    · rw [List.getD_eq_getElem?_getD, List.getElem?_eq_none (by omega)]; simp
  apply Ok.eq
  unfold pk_KnapHalf_m
  rw [knaps_t, Option.bind_some, if_neg (by decide), el, Option.bind_some, within_at x1 120 (by decide) (by decide), hR, Option.bind_some, es, Option.bind_some, et, Option.bind_some, weighed_ok hl ht, Option.bind_some, khgood, Option.bind_some]
  simp only [Bool.not_true, Bool.false_eq_true, if_false, hv, bne_self_eq_false]
  rw [if_neg (by simpa using hw), ok_bindR, ok_some, flok_nx, if_neg (by simpa using hle), ok_bindR]
  refine (half_max hl hv0 (by omega)).mono fun x hx => ?_
  cases x with
  | br _ => exact hx.elim
  | rt _ => exact hx.elim
  | nx x =>
    rw [flok_nx] at hx ⊢
    obtain ⟨hx1, hx2, hx3⟩ := hx
    rw [ok_some, wmul_of (by omega) (by omega), decide_eq_true_eq]
    rcases hor with h | ⟨k, hk, wk, h⟩
    · have : 0 ≤ x := hx3
      omega
    · have := hx2 k hk wk
      omega
end Go.Pu
