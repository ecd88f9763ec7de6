/- The plain law: no seat would be better taken from one party and given to another one. -/
import Derived.Test.YtilgigahabjbaaaWSeatsDivideModels
import Derived.Test.YtilgigahabjbaaaPuSeats
set_option linter.all false
namespace Go.Pu
open Go.Fw Go.Mo
theorem SeatsDivide (x0 : Int) (_ : (Lit.int .i64 x0).wf = true) (x1 : List Int) (_ : (∀ x ∈ x1, (Lit.int .i64 x).wf = true) ∧ x1.length ≤ maxLen) (x2 : Int) (_ : (Lit.int .i64 x2).wf = true) : pk_SeatsDivide_m x0 x1 x2 = some true := by
  obtain ⟨p, ep, hp, hp1⟩ := peopleOf_ok x1
  have a0 := Int.emod_nonneg x2 (b := 101) (by decide)
  have a1 := Int.emod_lt_of_pos x2 (b := 101) (by decide)
  obtain ⟨h, hh⟩ : ∃ h : Nat, x2 % 101 = (h : Int) := ⟨(x2 % 101).toNat, by omega⟩
  obtain ⟨w, hw0, hw2, hw⟩ := one_within x0 2 (by decide) (by decide)
  rw [show ((2 : Nat) : Int) = 2 from rfl] at hw
  obtain ⟨a, ea, da⟩ := share_div hp (h := h) (by omega) (w := (w : Int)) (by omega) (by omega)
  apply Ok.eq
  unfold pk_SeatsDivide_m
  rw [shares_t]
  simp only [Option.bind_some, Bool.not_true, Bool.false_eq_true, if_false, within_at x0 2 (by decide) (by decide), within_at x2 101 (by decide) (by decide), hh, hw, ep, ea]
  simp only [ok_bind, ok_ite, ok_bindR, ok_some, flok_nx, da.len, bne_self_eq_false, Bool.false_eq_true, false_implies, true_and, not_false_eq_true, true_implies]
  refine ok_rangeL (fun _ _ => True) trivial (fun i x s hi _ => ?_) fun s _ => by trivial
  obtain ⟨hx, hil⟩ := nth_of hi
  subst hx
  unfold pk_SeatsDivide_b1
  simp only [ok_bindF, ok_some]
  refine ok_rangeL (fun _ _ => True) trivial (fun k x s hk _ => ?_) fun s _ => by trivial
  obtain ⟨hx, hkl⟩ := nth_of hk
  subst hx
  have v1 := da.val i hil
  have v2 := da.val k hkl
  have q1 := hp.val i hil
  have q2 := hp.val k hkl
  have fair := da.fair (by omega) (fun k hk => (hp.val k hk).1) i k hil hkl
  unfold pk_SeatsDivide_b2
  simp only [idx_nat, nth_at (show i < a.length by rw [da.len]; exact hil), nth_at (show k < a.length by rw [da.len]; exact hkl), Option.bind_some, ok_bindF, ok_ite, ok_some, flok_nx, flok_rt, decide_eq_true_eq, hw]
  refine ⟨fun hpos => ⟨fun hlt => ?_, fun _ => trivial⟩, fun _ => ⟨fun hh => by (first | cases hh | exact hh.elim), fun _ => trivial⟩⟩
  exfalso
  have f := fair hpos
  have : w = 1 ∨ w = 2 := by omega
  have c1 : 0 ≤ (w : Int) * nth a k ∧ (w : Int) * nth a k ≤ 200 := by rcases this with rfl | rfl <;> omega
  have c2 : 0 ≤ (w : Int) * (nth a i - 1) ∧ (w : Int) * (nth a i - 1) ≤ 200 := by rcases this with rfl | rfl <;> omega
  have c3 : (w : Int) * (nth a i - 1) = w * nth a i - w := by rcases this with rfl | rfl <;> omega
  rw [wsub_of (by omega) (by omega), wmul_of (x := (w : Int)) (y := nth a k) (by omega) (by omega), wmul_of (x := (w : Int)) (y := nth a i - 1) (by omega) (by omega), wadd_of (by omega) (by omega), wadd_of (by omega) (by omega)] at hlt
  have m1 : 0 ≤ nth p i * ((w : Int) * nth a k + 1) := Int.mul_nonneg q1.1 (by omega)
  have m2 : nth p i * ((w : Int) * nth a k + 1) ≤ 1000000 * 201 := Int.mul_le_mul q1.2 (by omega) (by omega) (by omega)
  have m3 : 0 ≤ nth p k * ((w : Int) * (nth a i - 1) + 1) := Int.mul_nonneg q2.1 (by omega)
  have m4 : nth p k * ((w : Int) * (nth a i - 1) + 1) ≤ 1000000 * 201 := Int.mul_le_mul q2.2 (by omega) (by omega) (by omega)
  rw [wmul_of (by omega) (by omega), wmul_of (by omega) (by omega)] at hlt
  rcases f with f | ⟨f, _⟩ | f
  · omega
  · omega
  · subst f
    have : nth p i * ((w : Int) * (nth a i - 1) + 1) ≤ nth p i * ((w : Int) * nth a i + 1) := Int.mul_le_mul_of_nonneg_left (by omega) q1.1
    omega
end Go.Pu
