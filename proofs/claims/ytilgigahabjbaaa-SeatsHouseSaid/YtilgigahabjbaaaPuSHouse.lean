/- The plain law: all seats are given, and one seat more goes to just one party. -/
import Derived.Test.YtilgigahabjbaaaWSeatsHouseModels
import Derived.Test.YtilgigahabjbaaaPuSeats
import Derived.Test.YtilgigahabjbaaaPuGood
set_option linter.all false
namespace Go.Pu
open Go.Fw Go.Mo
theorem SeatsHouse (x0 : Int) (_ : (Lit.int .i64 x0).wf = true) (x1 : List Int) (_ : (∀ x ∈ x1, (Lit.int .i64 x).wf = true) ∧ x1.length ≤ maxLen) (x2 : Int) (_ : (Lit.int .i64 x2).wf = true) : pk_SeatsHouse_m x0 x1 x2 = some true := by
  obtain ⟨p, ep, hp, _⟩ := peopleOf_ok x1
  have a0 := Int.emod_nonneg x2 (b := 100) (by decide)
  have a1 := Int.emod_lt_of_pos x2 (b := 100) (by decide)
  obtain ⟨h, hh⟩ : ∃ h : Nat, x2 % 100 = (h : Int) := ⟨(x2 % 100).toNat, by omega⟩
  obtain ⟨w, hw0, hw2, hw⟩ := one_within x0 2 (by decide) (by decide)
  rw [show ((2 : Nat) : Int) = 2 from rfl] at hw
  obtain ⟨a, ea, da⟩ := share_div hp (h := h) (by omega) (w := (w : Int)) (by omega) (by omega)
  obtain ⟨b, eb, db⟩ := share_div hp (h := h + 1) (by omega) (w := (w : Int)) (by omega) (by omega)
  have e1 : wadd (h : Int) 1 = ((h + 1 : Nat) : Int) := by rw [wadd_of (by omega) (by omega)]; omega
  have n8 := hp.n8
  have sa : pk_sum_m a = some (h : Int) := by rw [psum_ok (B := 1000) (by omega) (fun k hk => by have := da.val k (by rw [← da.len]; exact hk); omega) (by rw [da.len]; omega), da.sum]
  have sb : pk_sum_m b = some ((h + 1 : Nat) : Int) := by rw [psum_ok (B := 1000) (by omega) (fun k hk => by have := db.val k (by rw [← db.len]; exact hk); omega) (by rw [db.len]; omega), db.sum]
  apply Ok.eq
  unfold pk_SeatsHouse_m
  rw [shares_t]
  simp only [Option.bind_some, Bool.not_true, Bool.false_eq_true, if_false, within_at x0 2 (by decide) (by decide), within_at x2 100 (by decide) (by decide), hh, hw, ep, ea, e1, eb, good_at]
  simp only [ok_bind, ok_ite, ok_bindR, ok_some, flok_nx, sa, sb, da.len, db.len, List.all_cons, List.all_nil, Bool.and_self, beq_self_eq_true, bne_self_eq_false, Bool.not_true, Bool.false_eq_true, false_implies, true_and, not_false_eq_true, true_implies]
  refine ok_rangeN (fun _ _ => True) trivial (fun k s hk _ => ?_) fun s _ => by trivial
  have v := da.val k hk
  cases db with
  | @seat _ a' c d1 hb =>
    obtain rfl := da.one d1
    have hca : c < a.length := by rw [da.len]; exact hb.lt
    unfold pk_SeatsHouse_b1
    simp only [idx_nat, nth_at (show k < a.length by rw [da.len]; exact hk), nth_at (show k < (a.set c (nth a c + 1)).length by simp; rw [da.len]; exact hk), Option.bind_some, ok_bindF, ok_ite, ok_some, flok_nx, flok_rt, decide_eq_true_eq]
    rw [wadd_of (by omega) (by omega), nth_set hca]
    by_cases hkc : k = c
    · subst hkc; simp only [if_true]; grind
    · simp only [if_neg hkc]; grind
end Go.Pu
