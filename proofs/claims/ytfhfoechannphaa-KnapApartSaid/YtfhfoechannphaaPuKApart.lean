/- The plain law: two heaps with a part of the room each are worth no more than both together with all of it; and some part is as good. -/
import Derived.Test.YtfhfoechannphaaWKnapApartModels
import Derived.Test.YtfhfoechannphaaPuKnap
import Derived.Test.YtfhfoechannphaaPuItems
import Derived.Test.YtfhfoechannphaaPuGood
import Derived.Test.YtfhfoechannphaaPuWithin
import Derived.Test.YtfhfoechannphaaPuFl
set_option linter.all false
namespace Go.Pu
open Go.Fw Go.Mo
def Fair (l : List (Int × Int)) : Prop := ∀ x ∈ l, 0 ≤ x.1 ∧ 0 ≤ x.2
theorem Fair.tail {x : Int × Int} {l : List (Int × Int)} (h : Fair (x :: l)) : Fair l := fun y hy => h y (by simp [hy])
theorem best_part : ∀ (a b : List (Int × Int)) (p r : Int), Fair a → Fair b → p ≤ r → 0 ≤ p → best a p + best b (r - p) ≤ best (a ++ b) r
  | [], b, p, r, _, hb, _, h0 => by
    have := best_mono b (r := r - p) (q := r) (fun x hx => (hb x hx).2) (by omega)
    simp only [best, List.nil_append]; omega
  | x :: a, b, p, r, ha, hb, hp, h0 => by
    have hx := ha x (by simp)
    have h1 := best_part a b p r ha.tail hb hp h0
    simp only [best, List.cons_append]
    by_cases c : x.1 ≤ p
    · have h2 := best_part a b (p - x.1) (r - x.1) ha.tail hb (by omega) (by omega)
      rw [show r - x.1 - (p - x.1) = r - p by omega] at h2
      rw [if_pos c, if_pos (by omega)]; omega
    · rw [if_neg c]; split <;> omega
theorem best_some : ∀ (a b : List (Int × Int)) (r : Int), Fair a → Fair b → 0 ≤ r → ∃ p, 0 ≤ p ∧ p ≤ r ∧ best a p + best b (r - p) = best (a ++ b) r
  | [], b, r, _, _, h0 => ⟨0, Int.le_refl _, h0, by simp [best]⟩
  | x :: a, b, r, ha, hb, h0 => by
    have hx := ha x (by simp)
    obtain ⟨p, p0, p1, e⟩ := best_some a b r ha.tail hb h0
    have up : ∀ q, 0 ≤ q → q ≤ r → best (x :: a) q + best b (r - q) ≤ best (x :: a ++ b) r := fun q q0 q1 => best_part (x :: a) b q r ha hb q1 q0
    by_cases c : x.1 ≤ r
    · obtain ⟨s, s0, s1, es⟩ := best_some a b (r - x.1) ha.tail hb (by omega)
      by_cases m : best (a ++ b) r ≤ x.2 + best (a ++ b) (r - x.1)
      · refine ⟨s + x.1, by omega, by omega, ?_⟩
        have u := up (s + x.1) (by omega) (by omega)
        simp only [best, List.cons_append] at u ⊢
        rw [if_pos (show x.1 ≤ s + x.1 by omega), if_pos c, show s + x.1 - x.1 = s by omega] at u ⊢
        rw [show r - x.1 - s = r - (s + x.1) by omega] at es
        omega
      · refine ⟨p, p0, p1, ?_⟩
        have u := up p p0 p1
        simp only [best, List.cons_append] at u ⊢
        rw [if_pos c] at u ⊢
        split at u <;> rename_i hc
        · rw [if_pos hc]; omega
        · rw [if_neg hc]; omega
    · refine ⟨p, p0, p1, ?_⟩
      simp only [best, List.cons_append]
      rw [if_neg (by omega), if_neg c]; exact e
theorem KnapApart (x0 : List (List Int)) (h0 : (∀ x ∈ x0, x.length = 2 ∧ ∀ y ∈ x, (Lit.int .i64 y).wf = true) ∧ x0.length ≤ maxLen) (x1 : List (List Int)) (h1 : (∀ x ∈ x1, x.length = 2 ∧ ∀ y ∈ x, (Lit.int .i64 y).wf = true) ∧ x1.length ≤ maxLen) (x2 : Int) (_ : (Lit.int .i64 x2).wf = true) : pk_KnapApart_m x0 x1 x2 = some true := by
  obtain ⟨A, eA, hA, hAl⟩ := itemsOf_ok x0 h0
  obtain ⟨B, eB, hB, hBl⟩ := itemsOf_ok x1 h1
  have a0 := Int.emod_nonneg x2 (b := 60) (by decide)
  have a1 := Int.emod_lt_of_pos x2 (b := 60) (by decide)
  apply Ok.eq
  unfold pk_KnapApart_m
  have mA : (if (6 : Int) < (A.length : Int) then (6 : Int) else (A.length : Int)) = ((min 6 A.length : Nat) : Int) := by omega
  have mB : (if (6 : Int) < (B.length : Int) then (6 : Int) else (B.length : Int)) = ((min 6 B.length : Nat) : Int) := by omega
  rw [knaps_t, Option.bind_some, if_neg (by decide), eA, Option.bind_some, eB, Option.bind_some, mA, mB, chk_t ⟨by omega, by omega⟩, Option.bind_some, chk_t ⟨by omega, by omega⟩, Option.bind_some, within_at x2 60 (by decide) (by decide), Option.bind_some, Int.toNat_natCast, Int.toNat_natCast, List.drop_zero, List.drop_zero]
  have hloop : ∀ i x, pk_KnapApart_b1 A B (x2 % 60) i x = (knap_Most_m (A.take (min 6 A.length)) (i : Int)).bind fun y99 => (knap_Most_m (B.take (min 6 B.length)) (wsub (x2 % 60) (i : Int))).bind fun y105 => (pk_good_m ([y99.2.2, y105.2.2] : (List Int))).bind fun y112 => (if !y112 then some (.rt false) else some (.nx (if (wadd y99.2.1 y105.2.1) > x then wadd y99.2.1 y105.2.1 else x))) := fun i x => by
    unfold pk_KnapApart_b1
    rw [mA, mB, Int.toNat_natCast, Int.toNat_natCast, List.drop_zero, List.drop_zero]
  generalize hR : x2 % 60 = R at *
  obtain ⟨r, rfl⟩ : ∃ r : Nat, R = r := ⟨R.toNat, by omega⟩
  have iA : Items (A.take (min 6 A.length)) := ⟨by rw [List.length_take]; omega, fun x hx => hA.2 x (List.mem_of_mem_take hx)⟩
  have iB : Items (B.take (min 6 B.length)) := ⟨by rw [List.length_take]; omega, fun x hx => hB.2 x (List.mem_of_mem_take hx)⟩
  have lA : (A.take (min 6 A.length)).length ≤ 6 := by rw [List.length_take]; omega
  have lB : (B.take (min 6 B.length)).length ≤ 6 := by rw [List.length_take]; omega
  generalize A.take (min 6 A.length) = a at *
  generalize B.take (min 6 B.length) = b at *
  have iAB : Items (a ++ b) := ⟨by rw [List.length_append]; omega, fun x hx => by
    rcases List.mem_append.1 hx with h | h
    · exact iA.2 x h
    · exact iB.2 x h⟩
  have fA : Fair a := fun x hx => by have := iA.2 x hx; omega
  have fB : Fair b := fun x hx => by have := iB.2 x hx; omega
  have bA := fun q => best_bound a q fun x hx => (iA.2 x hx).2.2
  have bB := fun q => best_bound b q fun x hx => (iB.2 x hx).2.2
  obtain ⟨s, es, _⟩ := most_ok iAB (R := r) (by omega)
  unfold slices_Clone_api_Item_api_Item_m
  rw [chk_t (by omega), Option.bind_some, Option.bind_some, chk_t (by omega), Option.bind_some, es, Option.bind_some, wadd_of (by omega) (by omega), chk_t (by omega), Option.bind_some, ok_bindR, show ((r : Int) + 1).toNat = r + 1 by omega]
  obtain ⟨P, P0, P1, eP⟩ := best_some a b (r : Int) fA fB (by omega)
  refine ok_rangeN (fun k m => 0 ≤ m ∧ m ≤ best (a ++ b) r ∧ (P < k → m = best (a ++ b) r)) ⟨Int.le_refl _, (best_bound (a ++ b) r fun x hx => (iAB.2 x hx).2.2).1, fun h => by omega⟩ (fun k m hk hI => ?_) fun m hm => ?_
  · obtain ⟨i0, i1, i2⟩ := hI
    obtain ⟨s1, e1, _⟩ := most_ok iA (R := k) (by omega)
    obtain ⟨s2, e2, _⟩ := most_ok iB (R := r - k) (by omega)
    have b1 := bA k; have b2 := bB ((r - k : Nat) : Int)
    have up := best_part a b k r fA fB (by omega) (by omega)
    rw [hloop, e1, Option.bind_some, wsub_of (by omega) (by omega), show (r : Int) - k = ((r - k : Nat) : Int) by omega, e2, Option.bind_some, good_at]
    rw [show (r : Int) - k = ((r - k : Nat) : Int) by omega] at up
    dsimp only
    rw [Option.bind_some, if_neg (by decide), ok_some, flok_nx, wadd_of (by omega) (by omega)]
    refine ⟨by split <;> omega, by split <;> omega, fun h => ?_⟩
    by_cases e : P = k
    · subst e
      rw [show (r : Int) - k = ((r - k : Nat) : Int) by omega] at eP
      split <;> omega
    · have := i2 (by omega)
      split <;> omega
  · dsimp only
    rw [ok_bindR, if_pos (by decide), ok_some, flok_nx, ok_some, beq_iff_eq]
    exact (hm.2.2 (by omega)).symm
end Go.Pu
