/- The plain law: who is first for more than half is the one winner, by four of the rules. -/
import Derived.Test.YtfekdillbgblkaaWVotesOwnModels
import Derived.Test.YtfekdillbgblkaaPuRMay
import Derived.Test.YtfekdillbgblkaaPuRoads
set_option linter.all false
namespace Go.Pu
open Go.Fw Go.Mo
theorem best_one {l : List Int} {i : Nat} (hl : l.length ≤ 100) (hi : i < l.length) (h : ∀ j, j < l.length → j ≠ i → nth l j < nth l i) : rules_best_m l = some [(i : Int)] := by
  apply Ok.eq
  unfold rules_best_m
  rw [ok_bindR]
  refine ok_rangeL (fun k (s : List Int) => (k ≤ i → s.length ≤ k ∧ ∀ x ∈ s, 0 ≤ x ∧ x < (k : Int)) ∧ (i < k → s = [(i : Int)])) ⟨fun _ => by simp, fun h => by omega⟩ (fun k y s hk hI => ?_) fun s hs => by rw [ok_some]; exact hs.2 hi
  obtain ⟨hy, hkl⟩ := nth_of hk
  subst hy
  unfold rules_best_b1
  by_cases hki : i < k
  · have hs := hI.2 hki
    subst hs
    have hlt := h k hkl (by omega)
    rw [ok_bindF, if_pos (by simp), show idx [(i : Int)] 0 = some (i : Int) from rfl, Option.bind_some, idx_nat, nth_at hi, Option.bind_some, ok_some, flok_nx, ok_bindF, if_neg (by simp; omega), ok_some, flok_nx, ok_bindF, if_neg (by simp), show idx [(i : Int)] 0 = some (i : Int) from rfl, Option.bind_some, idx_nat, nth_at hi, Option.bind_some, ok_some, flok_nx, if_neg (by simp; omega), ok_some, flok_nx]
    exact ⟨fun hh => by omega, fun _ => rfl⟩
  · obtain ⟨i1, i2⟩ := hI.1 (by omega)
    have reset : Ok (if decide (((s).length : Int) > (0 : Int)) then (idx s (0 : Int)).bind fun y122 => (idx l y122).bind fun y124 => some (.nx (decide (nth l k > y124))) else some (.nx false) : Option (Fl (List Int) (List Int) Bool)) (FlOk (fun b => k = i → s.length > 0 → b = true) (fun _ => False) (fun _ => False)) := by
      by_cases hs : s.length > 0
      · have hm := i2 _ (nth_mem (l := s) (k := 0) hs)
        obtain ⟨z, hz⟩ : ∃ z : Nat, nth s 0 = (z : Int) := ⟨(nth s 0).toNat, by omega⟩
        rw [if_pos (by simpa using hs), show (0 : Int) = ((0 : Nat) : Int) from rfl, idx_nat, nth_at hs, Option.bind_some, hz, idx_nat, nth_at (by omega), Option.bind_some, ok_some, flok_nx]
        intro e _
        have := h z (by omega) (by omega)
        rw [e]; simpa using this
      · rw [if_neg (by simpa using hs), ok_some, flok_nx]
        intro _ hh; exact (hs hh).elim
    rw [ok_bindF]
    refine reset.mono fun b hb => ?_
    cases b with
    | br _ => exact hb.elim
    | rt _ => exact hb.elim
    | nx b =>
      rw [flok_nx] at hb ⊢
      rw [ok_bindF]
      have mid : ∀ t : List Int, t.length ≤ k → (∀ x ∈ t, 0 ≤ x ∧ x < (k : Int)) → (k = i → t = []) → Ok (bindF (ρ := (List Int)) (β := (List Int)) (σ := Bool) (if ((t).length : Int) == (0 : Int) then some (.nx true) else (idx t (0 : Int)).bind fun y161 => (idx l y161).bind fun y163 => some (.nx (nth l k == y163))) fun x152 => (if x152 then (chk ((t).length + (([(k : Int)] : (List Int))).length ≤ 68719476736)).bind fun _ => some (.nx (t ++ ([(k : Int)] : (List Int)))) else some (.nx t)) : Option (Fl (List Int) (List Int) (List Int))) (FlOk (fun s => (k + 1 ≤ i → s.length ≤ k + 1 ∧ ∀ x ∈ s, 0 ≤ x ∧ x < ((k + 1 : Nat) : Int)) ∧ (i < k + 1 → s = [(i : Int)])) (fun _ => False) (fun _ => False)) := fun t t1 t2 t3 => by
        have app : (k + 1 ≤ i → (t ++ [(k : Int)]).length ≤ k + 1 ∧ ∀ x ∈ t ++ [(k : Int)], 0 ≤ x ∧ x < ((k + 1 : Nat) : Int)) ∧ (i < k + 1 → t ++ [(k : Int)] = [(i : Int)]) := ⟨fun _ => ⟨by simp; omega, fun x hx => by
          rcases List.mem_append.1 hx with hx | hx
          · have := t2 x hx; omega
          · simp at hx; omega⟩, fun hh => by
          have e : k = i := by omega
          rw [t3 e, e]; rfl⟩
        rw [ok_bindF]
        by_cases ht : t.length = 0
        · rw [if_pos (by simpa using ht), ok_some, flok_nx, if_pos rfl, chk_t (by simp; omega), Option.bind_some, ok_some, flok_nx]
          exact app
        · have hm := t2 _ (nth_mem (l := t) (k := 0) (by omega))
          obtain ⟨z, hz⟩ : ∃ z : Nat, nth t 0 = (z : Int) := ⟨(nth t 0).toNat, by omega⟩
          have hki' : k ≠ i := fun e => ht (by rw [t3 e]; rfl)
          rw [if_neg (by simpa using ht), show (0 : Int) = ((0 : Nat) : Int) from rfl, idx_nat, nth_at (show 0 < t.length by omega), Option.bind_some, hz, idx_nat, nth_at (by omega), Option.bind_some, ok_some, flok_nx, ok_ite]
          refine ⟨fun _ => ?_, fun _ => ?_⟩
          · rw [chk_t (by simp; omega), Option.bind_some, ok_some, flok_nx]; exact app
          · rw [ok_some, flok_nx]
            exact ⟨fun _ => ⟨by omega, fun x hx => by have := t2 x hx; omega⟩, fun hh => by omega⟩
      cases b with
      | true =>
        rw [if_pos rfl, ok_some, flok_nx]
        exact (mid [] (by simp) (by simp) fun _ => rfl).mono fun v hv => by
          cases v with
          | br _ => exact hv.elim
          | rt _ => exact hv.elim
          | nx v => exact hv
      | false =>
        rw [if_neg (by decide), ok_some, flok_nx]
        refine (mid s i1 i2 fun e => ?_).mono fun v hv => by
          cases v with
          | br _ => exact hv.elim
          | rt _ => exact hv.elim
          | nx v => exact hv
        by_cases hs : s.length > 0
        · have := hb e hs; cases this
        · exact List.length_eq_zero_iff.1 (by omega)
theorem sumN_ge {n i : Nat} {f : Nat → Int} (h : ∀ x, x < n → 0 ≤ f x) (hi : i < n) : f i ≤ sumN n f := by
  have := sumN_le (n := n) (f := fun x => if x = i then f i else 0) (g := f) fun x hx => by
    by_cases e : x = i
    · rw [if_pos e, e]; exact Int.le_refl _
    · rw [if_neg e]; exact h x hx
  rwa [sumN_single hi] at this
theorem sumN_two {n i j : Nat} {f : Nat → Int} (h : ∀ x, x < n → 0 ≤ f x) (hi : i < n) (hj : j < n) (hij : i ≠ j) : f i + f j ≤ sumN n f := by
  have := sumN_le (n := n) (f := fun x => (if x = i then f i else 0) + (if x = j then f j else 0)) (g := f) fun x hx => by
    by_cases e : x = i
    · subst e; rw [if_pos rfl, if_neg hij]; omega
    · rw [if_neg e]
      by_cases e' : x = j
      · subst e'; rw [if_pos rfl]; omega
      · rw [if_neg e']; have := h x hx; omega
  rwa [sumN_add, sumN_single hi, sumN_single hj] at this
/-- whoever is put first is put before each other -/
theorem fst_duel {n : Nat} {v : List (List Int)} (h : ∀ p ∈ v, Ord n p) {i j : Nat} (hi : i < n) (hj : j < n) (hij : i ≠ j) : fst1 v i ≤ duel v i j := by
  induction v with
  | nil => exact Int.le_refl _
  | cons p v ih =>
    have := ih fun q hq => h q (by simp [hq])
    have hp := h p (by simp)
    have e1 : fst1 (p :: v) i = fst1 v i + (if p.idxOf (i : Int) = 0 then 1 else 0) := rfl
    have e2 : duel (p :: v) i j = duel v i j + (if bf p i j then 1 else 0) := rfl
    rw [e1, e2]
    by_cases h0 : p.idxOf (i : Int) = 0
    · have hb : bf p i j = true := by
        unfold bf
        rw [decide_eq_true_eq]
        have : p.idxOf (j : Int) ≠ 0 := fun hh => hij (hp.idx_inj hi hj (by omega))
        omega
      rw [if_pos h0, hb]; simp; omega
    · rw [if_neg h0]; split <;> omega
end Go.Pu
