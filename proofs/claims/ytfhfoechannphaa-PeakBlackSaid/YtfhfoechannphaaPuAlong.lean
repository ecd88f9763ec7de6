/- Along a line: from the last one on, each stands at an end of those that are left. -/
import Derived.Test.YtfhfoechannphaaWPeakBlackModels
import Derived.Test.YtfhfoechannphaaPuReverse
import Derived.Test.YtfhfoechannphaaPuRNames
import Derived.Test.YtfhfoechannphaaPuAllOrd
set_option linter.all false
namespace Go.Pu
open Go.Fw Go.Mo
def al (line p : List Int) : Nat → Nat → Bool
  | 0, _ => true
  | i + 1, lo => if nth p (i + 1) = nth line lo then al line p i (lo + 1) else if nth p (i + 1) = nth line (lo + i + 1) then al line p i lo else false
def along (n : Nat) (line p : List Int) : Bool := al line p (n - 1) 0
theorem along_ok {n : Nat} {line p : List Int} (h0 : 1 ≤ n) (h6 : n ≤ 6) (hl : Ord n line) (hp : Ord n p) : peak_Along_m line p = some (along n line p, 0) := by
  have c1 := order_check h0 h6 hl
  have c2 := order_check h0 h6 hp
  apply Ok.eq
  unfold peak_Along_m
  rw [hl.len, c1, Option.bind_some, if_neg (by simp), c2, Option.bind_some, if_neg (by simp), ok_bindR, hp.len, wsub_of (by omega) (by omega)]
  have key : Ok (loopM (γ := Unit) (peak_Along_b1 p line) 1048576 ((0 : Int), (n : Int) - 1, (n : Int) - 1)) (FlOk (fun _ => along n line p = true) (fun _ => False) (fun r => r = (along n line p, 0))) := by
    refine ok_loopM (fun s : Int × Int × Int => ∃ lo i : Nat, s = ((lo : Int), (lo : Int) + i, (i : Int)) ∧ lo + i < n ∧ al line p i lo = along n line p) (fun s => s.2.2.toNat) (fun s hs => ?_) 1048576 _ ⟨0, n - 1, ?_, by omega, rfl⟩ (by simp only; omega)
    · obtain ⟨lo, i, rfl, hlt, he⟩ := hs
      unfold peak_Along_b1
      cases i with
      | zero =>
        simp only
        rw [if_neg (by simp), ok_some, flok_br, ← he]; rfl
      | succ i =>
        simp only
        rw [if_pos (by simp), idx_nat, nth_at (show i + 1 < p.length by rw [hp.len]; omega), Option.bind_some, idx_nat, nth_at (show lo < line.length by rw [hl.len]; omega), Option.bind_some]
        simp only [al] at he
        by_cases h1 : nth p (i + 1) = nth line lo
        · rw [if_pos h1] at he
          rw [if_pos (by rw [h1]; simp), ok_some, flok_nx, wadd_of (by omega) (by omega), wsub_of (by omega) (by omega)]
          refine ⟨⟨lo + 1, i, ?_, by omega, he⟩, by simp⟩
          rw [Prod.mk.injEq, Prod.mk.injEq]; omega
        · rw [if_neg h1] at he
          have e2 : idx line ((lo : Int) + ((i + 1 : Nat) : Int)) = some (nth line (lo + i + 1)) := by
            rw [show (lo : Int) + ((i + 1 : Nat) : Int) = ((lo + i + 1 : Nat) : Int) by omega, idx_nat, nth_at (by rw [hl.len]; omega)]
          rw [if_neg (by simpa using h1), e2, Option.bind_some]
          by_cases h2 : nth p (i + 1) = nth line (lo + i + 1)
          · rw [if_pos h2] at he
            rw [if_pos (by rw [h2]; simp), ok_some, flok_nx, wsub_of (by omega) (by omega), wsub_of (by omega) (by omega)]
            refine ⟨⟨lo, i, ?_, by omega, he⟩, by simp⟩
            rw [Prod.mk.injEq, Prod.mk.injEq]; omega
          · rw [if_neg h2] at he
            rw [if_neg (by simpa using h2), ok_some, flok_rt, ← he]
    · rw [Prod.mk.injEq, Prod.mk.injEq]; omega
  refine key.mono ?_
  rintro (s | b | r) hs
  · obtain ⟨x, y, z⟩ := s
    have : along n line p = true := hs
    rw [flok_nx, ok_some, this]
  · exact hs.elim
  · exact hs
theorem al_ren {n : Nat} {line p q : List Int} (hl : Ord n line) (hp : Ord n p) (hq : Ord n q) : ∀ (i lo : Nat), lo + i < n → al (line.map (nm q)) (p.map (nm q)) i lo = al line p i lo
  | 0, _, _ => rfl
  | i + 1, lo, h => by
    have key : ∀ x y : Int, 0 ≤ x → x < n → 0 ≤ y → y < n → (nm q x = nm q y ↔ x = y) := fun x y x0 xn y0 yn => by
      constructor
      · intro e
        obtain ⟨a, rfl⟩ : ∃ a : Nat, x = a := ⟨x.toNat, by omega⟩
        obtain ⟨b, rfl⟩ : ∃ a : Nat, y = a := ⟨y.toNat, by omega⟩
        rw [nm_pi hq (by omega), nm_pi hq (by omega)] at e
        have := pi_inj hq (x := a) (y := b) (by omega) (by omega) (by omega)
        omega
      · intro e; rw [e]
    have vp := hp.val (show i + 1 < n by omega)
    have v1 := hl.val (show lo < n by omega)
    have v2 := hl.val (show lo + i + 1 < n by omega)
    simp only [al]
    rw [nth_map (by rw [hp.len]; omega), nth_map (by rw [hl.len]; omega), nth_map (by rw [hl.len]; omega), al_ren hl hp hq i (lo + 1) (by omega), al_ren hl hp hq i lo (by omega)]
    simp only [key _ _ vp.1 vp.2 v1.1 v1.2, key _ _ vp.1 vp.2 v2.1 v2.2]
theorem al_rev {n : Nat} {line p : List Int} (hl : Ord n line) : ∀ (i lo : Nat), lo + i < n → al line.reverse p i (n - 1 - (lo + i)) = al line p i lo
  | 0, _, _ => rfl
  | i + 1, lo, h => by
    simp only [al]
    have r1 : nth line.reverse (n - 1 - (lo + (i + 1))) = nth line (lo + i + 1) := by
      rw [nth_rev (by rw [hl.len]; omega), hl.len]; congr 1; omega
    have r2 : nth line.reverse (n - 1 - (lo + (i + 1)) + i + 1) = nth line lo := by
      rw [nth_rev (by rw [hl.len]; omega), hl.len]; congr 1; omega
    have a1 := al_rev (p := p) hl i lo (by omega)
    have a2 := al_rev (p := p) hl i (lo + 1) (by omega)
    rw [r1, r2, show n - 1 - (lo + (i + 1)) + 1 = n - 1 - (lo + i) by omega, a1, show n - 1 - (lo + (i + 1)) = n - 1 - (lo + 1 + i) by omega, a2]
    have ne : nth line lo ≠ nth line (lo + i + 1) := fun e => by
      have h1 := hl.idx (show lo < n by omega)
      have h2 := hl.idx (show lo + i + 1 < n by omega)
      rw [e] at h1; omega
    by_cases c1 : nth p (i + 1) = nth line lo
    · rw [if_pos c1, if_neg (fun e => ne (by rw [← c1, e])), if_pos c1]
    · rw [if_neg c1, if_neg c1]
end Go.Pu
