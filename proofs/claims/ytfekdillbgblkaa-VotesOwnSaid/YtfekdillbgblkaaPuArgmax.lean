/- What best answers: all indexes of the greatest, rising. -/
import Derived.Test.YtfekdillbgblkaaWVotesOwnModels
import Derived.Test.YtfekdillbgblkaaPuRMostL
set_option linter.all false
namespace Go.Pu
open Go.Fw Go.Mo
def am (g : Nat → Int) (k : Nat) : List Nat := (List.range k).filter fun i => decide (∀ j, j < k → g j ≤ g i)
theorem am_mem {g : Nat → Int} {k i : Nat} : i ∈ am g k ↔ i < k ∧ ∀ j, j < k → g j ≤ g i := by
  unfold am; rw [List.mem_filter, List.mem_range, decide_eq_true_eq]
theorem am_congr {g h : Nat → Int} {k : Nat} (e : ∀ i j, i < k → j < k → (g i ≤ g j ↔ h i ≤ h j)) : am g k = am h k := by
  unfold am
  apply List.filter_congr
  intro i hi
  rw [List.mem_range] at hi
  rw [decide_eq_decide]
  exact ⟨fun H j hj => (e j i hj hi).1 (H j hj), fun H j hj => (e j i hj hi).2 (H j hj)⟩
theorem am_more {g : Nat → Int} {k : Nat} (h : ∀ i, i < k → g i < g k) : am g (k + 1) = [k] := by
  unfold am
  rw [List.range_succ, List.filter_append]
  have e1 : (List.range k).filter (fun i => decide (∀ j, j < k + 1 → g j ≤ g i)) = [] := by
    rw [List.filter_eq_nil_iff]
    intro i hi
    rw [List.mem_range] at hi
    rw [decide_eq_true_eq]
    intro H
    have := H k (by omega); have := h i hi; omega
  have e2 : decide (∀ j, j < k + 1 → g j ≤ g k) = true := by
    rw [decide_eq_true_eq]
    intro j hj
    by_cases e : j = k
    · rw [e]; exact Int.le_refl _
    · have := h j (by omega); omega
  rw [e1]
  simp only [List.filter_cons, List.filter_nil, e2, if_true, List.nil_append]
theorem am_same {g : Nat → Int} {k m : Nat} (hm : m ∈ am g k) (e : g k = g m) : am g (k + 1) = am g k ++ [k] := by
  have hmm := am_mem.1 hm
  unfold am
  rw [List.range_succ, List.filter_append]
  have e1 : (List.range k).filter (fun i => decide (∀ j, j < k + 1 → g j ≤ g i)) = (List.range k).filter (fun i => decide (∀ j, j < k → g j ≤ g i)) := by
    apply List.filter_congr
    intro i hi
    rw [decide_eq_decide]
    refine ⟨fun H j hj => H j (by omega), fun H j hj => ?_⟩
    by_cases ej : j = k
    · rw [ej, e]; exact H m hmm.1
    · exact H j (by omega)
  have e2 : decide (∀ j, j < k + 1 → g j ≤ g k) = true := by
    rw [decide_eq_true_eq]
    intro j hj
    by_cases ej : j = k
    · rw [ej]; exact Int.le_refl _
    · rw [e]; exact hmm.2 j (by omega)
  rw [e1]
  simp only [List.filter_cons, List.filter_nil, e2, if_true]
theorem am_less {g : Nat → Int} {k m : Nat} (hm : m ∈ am g k) (e : g k < g m) : am g (k + 1) = am g k := by
  have hmm := am_mem.1 hm
  unfold am
  rw [List.range_succ, List.filter_append]
  have e1 : (List.range k).filter (fun i => decide (∀ j, j < k + 1 → g j ≤ g i)) = (List.range k).filter (fun i => decide (∀ j, j < k → g j ≤ g i)) := by
    apply List.filter_congr
    intro i hi
    rw [decide_eq_decide]
    refine ⟨fun H j hj => H j (by omega), fun H j hj => ?_⟩
    by_cases ej : j = k
    · rw [ej]; have := H m hmm.1; omega
    · exact H j (by omega)
  have e2 : decide (∀ j, j < k + 1 → g j ≤ g k) = false := by
    rw [decide_eq_false_iff_not]
    intro H
    have := H m (by omega); omega
  rw [e1]
  simp only [List.filter_cons, List.filter_nil, e2, Bool.false_eq_true, if_false, List.append_nil]
theorem best_am {n : Nat} (h6 : n ≤ 100) {a : List Int} {g : Nat → Int} (ha : Vec n a g) : rules_best_m a = some ((am g n).map fun (i : Nat) => (i : Int)) := by
  apply Ok.eq
  unfold rules_best_m
  rw [ok_bindR]
  refine ok_rangeL (fun k (s : List Int) => s = (am g k).map fun (i : Nat) => (i : Int)) rfl (fun k y s hk hI => ?_) fun s hs => by rw [ok_some, hs, ha.len]
  obtain ⟨hy, hkl⟩ := nth_of hk
  rw [ha.len] at hkl
  rw [ha.at_ k hkl] at hy
  subst hy
  unfold rules_best_b1
  have app : ∀ (B R : List Int → Prop) (t : List Nat), t.length ≤ 100 → Ok ((chk (((t.map fun (i : Nat) => (i : Int))).length + (([(k : Int)] : (List Int))).length ≤ 68719476736)).bind fun _ => some (.nx ((t.map fun (i : Nat) => (i : Int)) ++ ([(k : Int)] : (List Int)))) : Option (Fl (List Int) (List Int) (List Int))) (FlOk (fun s => s = (t ++ [k]).map fun (i : Nat) => (i : Int)) B R) := fun B R t ht => by
    rw [chk_t (by simp; omega), Option.bind_some, ok_some, flok_nx]; simp
  have lam : (am g k).length ≤ 100 := by
    unfold am
    have := List.length_filter_le (fun i => decide (∀ j, j < k → g j ≤ g i)) (List.range k)
    rw [List.length_range] at this; omega
  subst hI
  by_cases hz : am g k = []
  · have k0 : ∀ i, i < k → g i < g k := fun i hi => by
      exfalso
      obtain ⟨m, hm, hmax⟩ : ∃ m, m < k ∧ ∀ j, j < k → g j ≤ g m := by
        have : ∀ q, q < k → ∃ m, m ≤ q ∧ ∀ j, j ≤ q → g j ≤ g m := by
          intro q
          induction q with
          | zero => intro _; exact ⟨0, Nat.le_refl _, fun j hj => by rw [show j = 0 by omega]; exact Int.le_refl _⟩
          | succ q ih =>
            intro hq
            obtain ⟨m, hm, h⟩ := ih (by omega)
            by_cases c : g (q + 1) ≤ g m
            · exact ⟨m, by omega, fun j hj => by
                by_cases e : j = q + 1
                · rw [e]; exact c
                · exact h j (by omega)⟩
            · exact ⟨q + 1, Nat.le_refl _, fun j hj => by
                by_cases e : j = q + 1
                · rw [e]; exact Int.le_refl _
                · have := h j (by omega); omega⟩
        obtain ⟨m, hm, h⟩ := this (k - 1) (by omega)
        exact ⟨m, by omega, fun j hj => h j (by omega)⟩
      have : m ∈ am g k := am_mem.2 ⟨hm, hmax⟩
      rw [hz] at this; cases this
    rw [am_more k0, hz]
    simp only [List.map_nil]
    rw [ok_bindF, if_neg (by simp), ok_some, flok_nx, ok_bindF, if_neg (by decide), ok_some, flok_nx, ok_bindF, if_pos (by simp), ok_some, flok_nx, if_pos rfl]
    exact app _ _ [] (by simp)
  · obtain ⟨m, r, hmr⟩ : ∃ m r, am g k = m :: r := by
      cases h : am g k with
      | nil => exact (hz h).elim
      | cons m r => exact ⟨m, r, rfl⟩
    have hm : m ∈ am g k := by rw [hmr]; simp
    have hmm := am_mem.1 hm
    have hi0 : ∀ q : List Nat, idx ((m :: q).map fun (i : Nat) => (i : Int)) (0 : Int) = some (m : Int) := fun q => rfl
    have ham : a[m]? = some (g m) := ha.at? (by omega)
    rw [ok_bindF, hmr]
    rw [if_pos (by simp), hi0, Option.bind_some, idx_nat, ham, Option.bind_some, ok_some, flok_nx, ok_bindF]
    by_cases c1 : g k > g m
    · rw [if_pos (by simpa using c1), ok_some, flok_nx, ok_bindF, if_pos (by simp), ok_some, flok_nx, if_pos rfl, am_more fun i hi => by have := hmm.2 i hi; omega]
      exact app _ _ [] (by simp)
    · rw [if_neg (by simpa using c1), ok_some, flok_nx, ok_bindF, if_neg (by simp; omega), hi0, Option.bind_some, idx_nat, ham, Option.bind_some, ok_some, flok_nx, ok_ite]
      rw [← hmr]
      refine ⟨fun c2 => ?_, fun c2 => ?_⟩
      · rw [am_same hm (by simpa using c2)]
        exact app _ _ _ lam
      · have c2 : g k ≠ g m := by simpa using c2
        rw [am_less hm (by omega), ok_some, flok_nx]
end Go.Pu
