/- The plain law: of one thing it is the one who bids most, for the second price. -/
import Derived.Test.YtflbneojjnpegaaWUnitsOneModels
import Derived.Test.YtflbneojjnpegaaPuUnits
set_option linter.all false
namespace Go.Pu
open Go.Fw Go.Mo
theorem UnitsOne (x0 : List Int) (h0 : (∀ x ∈ x0, (Lit.int .i64 x).wf = true) ∧ x0.length ≤ maxLen) : pk_UnitsOne_m x0 = some true := by
  obtain ⟨l, el, hl, hb⟩ := bidsOf_ok x0 h0.2
  have hbl : Bids l := ⟨by omega, fun x hx => by have := hb x hx; omega⟩
  obtain ⟨w, p, es, s⟩ := sell_ok (n := 1) hbl (by decide)
  obtain ⟨b, o, t, et⟩ := second_ok (r := 0) hbl (by decide) (by decide)
  unfold pk_UnitsOne_m
  rw [sells_t, auctions_t]
  simp only [Option.bind_some, Bool.not_true, bindR, Bool.false_eq_true, if_false, el, es, et]
  by_cases hz : l.length = 0
  · have hb0 : b < 0 := by
      apply Int.lt_of_not_ge; intro hb
      have := (t.one hb).1; omega
    have hw : w.length = 0 := by have := s.len; rw [if_neg (by omega)] at this; omega
    have hp : p = 0 := s.all (by omega)
    rw [if_pos (by rw [beq_iff_eq]; omega), if_pos hb0]
    simp [bindR, hw, hp]
  · have hb0 : 0 ≤ b := by
      apply Int.le_of_not_gt; intro hb
      have := (t.none hb).2 0 (by omega)
      have := hbl.at (k := 0) (by omega); omega
    obtain ⟨b1, _, b2, b3⟩ := t.one hb0
    have hwl : w.length = 1 := by have := s.len; split at this <;> omega
    obtain ⟨x, rfl⟩ : ∃ x, w = [x] := List.length_eq_one_iff.1 hwl
    have rx := s.rng x (by simp)
    have gx := s.ge x (by simp)
    have fx := s.fst rfl x (by simp)
    have hmx : nth l b.toNat ≤ nth l x.toNat := by
      by_cases e : b = x
      · rw [e]; exact Int.le_refl _
      · have := s.le b.toNat (by omega) (by simp; omega)
        omega
    have hxb : x = b := by
      apply Decidable.byContradiction; intro hne
      by_cases h : x < b
      · have := b3 x.toNat (by omega); omega
      · have := fx b.toNat (by omega)
        have := b2 x.toNat (by omega); omega
    subst hxb
    have hpo : p = o := by
      by_cases h1 : (1 : Int) < (l.length : Int)
      · obtain ⟨j, j1, j2, j3⟩ := s.one h1
        have hjx : (j : Int) ≠ x := fun e => j2 (by simp [e])
        have q1 := t.all j j1 hjx
        rcases t.is with e | ⟨k, k1, k2, k3⟩
        · have := hbl.at j1; omega
        · have := s.le k k1 (by simp; omega); omega
      · have hp := s.all (by omega)
        rcases t.is with e | ⟨k, k1, k2, k3⟩
        · omega
        · omega
    rw [if_neg (by rw [beq_iff_eq]; omega), if_neg (by omega), good_at]
    simp [bindR, equal_ok, hpo]
end Go.Pu
