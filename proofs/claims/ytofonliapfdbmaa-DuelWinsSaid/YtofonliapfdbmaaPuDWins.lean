/- The plain law: duels won less those that are lost come to nothing together, and who wins most is a top side. -/
import Derived.Test.YtofonliapfdbmaaWDuelWinsModels
import Derived.Test.YtofonliapfdbmaaPuTop
import Derived.Test.YtofonliapfdbmaaPuCopeland
import Derived.Test.YtofonliapfdbmaaPuMax
set_option linter.all false
namespace Go.Pu
open Go.Fw Go.Mo
theorem cope_top {n : Nat} {d : Nat → Nat → Int} (hd : ∀ x, x < n → d x x = 0) {x t : Nat} (hx : x < n) (ht : t < n) (h1 : Tops n d t) (h2 : ¬ Tops n d x) : cope n d x < cope n d t := by
  have key : ∀ y, y < n → sgn (d x y) (d y x) + (if y = x then 1 else 0) ≤ sgn (d t y) (d y t) := by
    intro y hy
    by_cases hyx : y = x
    · subst hyx
      have := tops_beat ht hx h1 h2
      have e1 : sgn (d t y) (d y t) = 1 := if_pos this
      have e2 : sgn (d y y) (d y y) = 0 := by unfold sgn; rw [if_neg (by omega), if_neg (by omega)]
      rw [e1, e2, if_pos rfl]; omega
    · rw [if_neg hyx]
      by_cases hyt : Tops n d y
      · have := tops_beat hy hx hyt h2
        have e1 : sgn (d x y) (d y x) = -1 := by unfold sgn; rw [if_neg (by omega), if_pos (by omega)]
        have := sgn_val (d t y) (d y t)
        omega
      · have := tops_beat ht hy h1 hyt
        have e1 : sgn (d t y) (d y t) = 1 := if_pos this
        have := sgn_val (d x y) (d y x)
        omega
  have := sumN_le key
  rw [sumN_add, sumN_single hx] at this
  unfold cope; omega
theorem DuelWins (x0 : List (List Int)) (_ : (∀ r ∈ x0, (∀ x ∈ r, (Lit.int .i64 x).wf = true) ∧ r.length ≤ maxLen) ∧ x0.length ≤ maxLen) : pk_DuelWins_m x0 = some true := by
  apply Ok.eq
  unfold pk_DuelWins_m
  have e1 : pk_duels_m = some true := by decide +kernel
  rw [e1]
  simp only [Option.bind_some, Bool.not_true, Bool.false_eq_true, if_false]
  rcases tab_split x0 with ⟨d, h, ec⟩ | ⟨e, he, ec⟩
  · obtain ⟨w, ew, hw⟩ := wins_ok h
    have et := top_ok h
    have hn := h.n1; have hn6 := h.n6
    simp only [ew, et, ok_bind, ok_ite, ok_bindR, ok_some, flok_nx, hw.len, bne_self_eq_false, Bool.false_eq_true, false_implies, true_and, not_false_eq_true, true_implies]
    refine ok_rangeN (s := (0 : Int)) (fun (k : Nat) (s : Int) => s = sumN k (cope x0.length d)) rfl (fun k s hk hs => ?_) fun s hs => ?_
    · subst hs
      unfold pk_DuelWins_b1
      simp only [idx_nat, hw.at? hk, Option.bind_some, ok_some, flok_nx]
      have hb : ∀ j, j ≤ x0.length → -36 ≤ sumN j (cope x0.length d) ∧ sumN j (cope x0.length d) ≤ 36 := by
        have hc : ∀ x, -(6 : Int) ≤ cope x0.length d x ∧ cope x0.length d x ≤ 6 := fun x => by
          have := cope_bound (n := x0.length) (f := fun y => sgn (d x y) (d y x)) fun y => sgn_val _ _
          unfold cope; omega
        have : ∀ j : Nat, -(6 : Int) * j ≤ sumN j (cope x0.length d) ∧ sumN j (cope x0.length d) ≤ 6 * j := by
          intro j
          induction j with
          | zero => simp [sumN]
          | succ j ih => simp only [sumN]; have := hc j; omega
        intro j hj; have := this j; omega
      have b1 := hb k (by omega)
      have b2 := hb (k + 1) (by omega)
      simp only [sumN] at b2
      rw [wadd_of (by omega) (by omega)]; rfl
    · rw [cope_sum] at hs
      subst hs
      obtain ⟨v, ev, hv1, hv2⟩ := max_ok (l := w) (by rw [hw.len]; exact hn) (by rw [hw.len]; omega)
      simp only [flok_nx, ev, ok_bind, ok_bindR, ok_some]
      refine ok_rangeN (fun _ _ => True) trivial (fun k s hk _ => ?_) fun s _ => by trivial
      unfold pk_DuelWins_b2
      simp only [idx_nat, hw.at? hk, Option.bind_some, ok_bindF, ok_ite, ok_some, flok_nx, flok_rt, contains_ok, beq_iff_eq, Bool.not_eq_true', decide_eq_false_iff_not, Bool.false_eq_true, false_implies, true_and, not_false_eq_true, true_implies, implies_true, and_true]
      intro hmax hno
      exfalso
      refine hno (mem_pickB.2 ⟨k, hk, topB_iff.2 (Classical.byContradiction fun hnt => ?_), rfl⟩)
      obtain ⟨t, ht, hT⟩ := tops_ex (d := d) hn
      have h1 := cope_top h.diag hk ht hT hnt
      have h2 := hv2 _ (nth_mem (l := w) (k := t) (by rw [hw.len]; exact ht))
      rw [hw.at_ t ht] at h2
      omega
  · have ew : duel_Wins_m x0 = some ([], e) := by
      unfold duel_Wins_m
      rw [ec, Option.bind_some, if_pos (by simpa using he)]
    have et : duel_Top_m x0 = some ([], e) := by
      unfold duel_Top_m
      rw [ec, Option.bind_some, if_pos (by simpa using he)]
    simp only [ew, et, ok_bind, ok_ite, ok_bindR, ok_some, flok_nx, bne_iff_ne]
    simp [he]
end Go.Pu
