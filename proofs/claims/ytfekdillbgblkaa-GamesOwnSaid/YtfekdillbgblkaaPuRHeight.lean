/- The plain law: a move changes the height by what the mover's pay changes. -/
import Derived.Test.YtfekdillbgblkaaWGamesOwnModels
import Derived.Test.YtfekdillbgblkaaPuRoads
import Derived.Test.YtfekdillbgblkaaPuAuction
set_option linter.all false
namespace Go.Pu
open Go.Fw Go.Mo
theorem rgood00 : pk_good_m [0, 0] = some true := by rw [good_at]; rfl
theorem RoadsHeight (x0 : List (List Int)) (h0 : (∀ r ∈ x0, (∀ x ∈ r, (Lit.int .i64 x).wf = true) ∧ r.length ≤ maxLen) ∧ x0.length ≤ maxLen) (x1 : List Int) (h1 : (∀ x ∈ x1, (Lit.int .i64 x).wf = true) ∧ x1.length ≤ maxLen) (x2 : Int) (_ : (Lit.int .i64 x2).wf = true) (x3 : Int) (_ : (Lit.int .i64 x3).wf = true) : pk_RoadsHeight_m x0 x1 x2 x3 = some true := by
  have hml : maxLen = 9223372036854775807 := by decide
  have hm0 : x0.length ≤ 9223372036854775807 := hml ▸ h0.2
  have hm1 : x1.length ≤ 9223372036854775807 := hml ▸ h1.2
  obtain ⟨c, ec, hc⟩ := rchk_ok x0 x1 hm0 hm1
  unfold pk_RoadsHeight_m
  rw [crowds_t, Option.bind_some, if_neg (by decide)]
  by_cases c0 : c = 0
  · have h := hc.1 c0
    obtain ⟨d, ed, hd⟩ := costs_ok h
    have h4 := h.m4; have h6 := h.n6; have hmm := h.m1
    rw [height_ok h, Option.bind_some, ed, Option.bind_some]
    by_cases hz : x1.length = 0
    · have hd0 : x1 = [] := List.length_eq_zero_iff.1 hz
      subst hd0
      have hH : Hgt x0 [] = 0 := by
        unfold Hgt
        rw [show hgt x0 [] = fun _ => 0 from rfl, sumN_zero]
      rw [hH]; rfl
    · obtain ⟨i, hi⟩ : ∃ i : Nat, x2 % (x1.length : Int) = (i : Int) := ⟨(x2 % (x1.length : Int)).toNat, by have := Int.emod_nonneg x2 (b := (x1.length : Int)) (by omega); omega⟩
      have hil : i < x1.length := by have := Int.emod_lt_of_pos x2 (b := (x1.length : Int)) (by omega); omega
      obtain ⟨r, hr⟩ : ∃ r : Nat, x3 % (x0.length : Int) = (r : Int) := ⟨(x3 % (x0.length : Int)).toNat, by have := Int.emod_nonneg x3 (b := (x0.length : Int)) (by omega); omega⟩
      have hrl : r < x0.length := by have := Int.emod_lt_of_pos x3 (b := (x0.length : Int)) (by omega); omega
      have h' := h.set hil hrl
      obtain ⟨d', ed', hd'⟩ := costs_ok h'
      have hmove := move_ok h hil hrl
      have b1 := Hgt_le h; have b2 := Hgt_le h'
      have q1 := pay_le h hil; have q2 := pay_le h' (show i < (x1.set i (r : Int)).length by simpa using hil)
      have hl' : d'.length = x1.length := by rw [hd'.len]; simp
      have hz1 : ((x1.length : Int) == 0) = false := by simpa using hz
      simp only [bne_self_eq_false, Bool.false_eq_true, if_false, hz1, hd.len, bindR]
      rw [within_at x2 _ (by omega) (by omega), hi, Option.bind_some, within_at x3 _ (by omega) (by omega), hr, Option.bind_some, clone_int (by omega), Option.bind_some, idx_nat, nth_at hil, Option.bind_some, Int.toNat_natCast, height_ok h', Option.bind_some, ed', Option.bind_some, rgood00, Option.bind_some]
      simp only [if_true, hl', beq_self_eq_true, idx_nat, hd.at? hil, hd'.at? (show i < (x1.set i (r : Int)).length by simpa using hil), Option.bind_some]
      rw [wsub_of (by omega) (by omega), wsub_of (by omega) (by omega), hmove]
      simp
  · rw [height_bad ec c0, Option.bind_some, costs_bad ec c0, Option.bind_some]
    have : (c != 0) = true := by simpa using c0
    simp [this, bindR]
end Go.Pu
