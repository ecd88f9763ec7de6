/- The plain law: how far an order is from all votes is how many are against it in its duels. -/
import Derived.Test.YtldkahoceefngaaWTopFarModels
import Derived.Test.YtldkahoceefngaaPuMFar
import Derived.Test.YtldkahoceefngaaPuWorth
set_option linter.all false
namespace Go.Pu
open Go.Fw Go.Mo
theorem works_t : top_works_m = some true := by decide +kernel
theorem tgood2 : top_good_m [0, 0] = some true := by decide +kernel
theorem TopFar (x0 : Int) (_ : (Lit.int .i64 x0).wf = true) (x1 : List (List Int)) (_ : (∀ r ∈ x1, (∀ x ∈ r, (Lit.int .i64 x).wf = true) ∧ r.length ≤ maxLen) ∧ x1.length ≤ maxLen) (x2 : List Int) (_ : (∀ x ∈ x2, (Lit.int .i64 x).wf = true) ∧ x2.length ≤ maxLen) : top_TopFar_m x0 x1 x2 = some true := by
  obtain ⟨n, n1, n6, hn⟩ := one_within x0 6 (by decide) (by decide)
  rw [show ((6 : Nat) : Int) = 6 from rfl] at hn
  obtain ⟨v, ev, _, hv⟩ := votesOf_ok n x1 n1 n6
  obtain ⟨p, ep, hp⟩ := orderOf_ok n x2 n1 (by omega)
  obtain ⟨m, em, hM⟩ := duels_ok n1 n6 hv
  have hpl := hp.len
  have hd : ∀ x y, 0 ≤ duel v x y ∧ duel v x y ≤ 30 := fun x y => by have := duel_bound v x y; have := hv.1; omega
  apply Ok.eq
  unfold top_TopFar_m
  rw [works_t]
  simp only [Option.bind_some, within_at x0 6 (by decide) (by decide), hn, ev, ep, em, mfar_ok n1 n6 hv hp, tgood2]
  simp only [ok_bind, ok_bindR, ok_ite, ok_some, flok_nx, hM.len, hpl, bne_self_eq_false, Bool.not_true, Bool.false_eq_true, false_implies, true_and, not_false_eq_true, true_implies]
  let R : Nat → Nat → Int := fun i k => sumN k (fun j => duel v (nth p i).toNat (nth p j).toNat)
  have rb : ∀ i k : Nat, 0 ≤ R i k ∧ R i k ≤ 30 * k := fun i k => by
    show 0 ≤ sumN k (fun j => duel v (nth p i).toNat (nth p j).toNat) ∧ sumN k (fun j => duel v (nth p i).toNat (nth p j).toNat) ≤ 30 * k
    have := row_bound (n := k) (k := k) (f := fun j => duel v (nth p i).toNat (nth p j).toNat) (Nat.le_refl _) fun x _ => hd _ _
    exact this
  have tb : ∀ k : Nat, k ≤ n → 0 ≤ sumN k (fun i => R i i) ∧ sumN k (fun i => R i i) ≤ 180 * k := by
    intro k
    induction k with
    | zero => simp [sumN]
    | succ k ih => intro hk; have := ih (by omega); have := rb k k; simp only [sumN]; omega
  refine ok_rangeN (s := (0 : Int)) (fun (i : Nat) (c : Int) => c = sumN i (fun i => R i i)) rfl (fun i c hi hc => ?_) fun c hc => ?_
  · have vi := hp.val hi
    obtain ⟨a, ha⟩ : ∃ a : Nat, nth p i = a := ⟨(nth p i).toNat, by omega⟩
    have han : a < n := by omega
    have g1 : p[i]? = some (a : Int) := by rw [nth_at (by omega), ha]
    have t1 := tb i (by omega)
    unfold top_TopFar_b1
    simp only [ok_bind, ok_chk, ok_bindF, ok_some, Int.toNat_natCast]
    refine ⟨by omega, ok_rangeN (fun (k : Nat) (c' : Int) => c' = c + R i k) (by show c = c + sumN 0 _; simp [sumN]) (fun k c' hk hc' => ?_) fun c' hc' => by rw [hc', hc]; rfl⟩
    have vk := hp.val (show k < n by omega)
    obtain ⟨b, hb⟩ : ∃ b : Nat, nth p k = b := ⟨(nth p k).toNat, by omega⟩
    have hbn : b < n := by omega
    have g2 : p[k]? = some (b : Int) := by rw [nth_at (by omega), hb]
    have r1 := rb i k
    have dv := hd a b
    unfold top_TopFar_b2
    simp only [idx_nat, g1, g2, hM.row? han, hM.cell? han hbn, hM.row a han, Option.bind_some, ok_ite, ok_some, flok_nx, flok_rt, hn, bne_self_eq_false, Bool.false_eq_true, false_implies, true_and, not_false_eq_true, true_implies]
    have e1 : R i (k + 1) = R i k + duel v a b := by
      show sumN (k + 1) (fun j => duel v (nth p i).toNat (nth p j).toNat) = sumN k (fun j => duel v (nth p i).toNat (nth p j).toNat) + duel v a b
      simp only [sumN]; rw [ha, hb, Int.toNat_natCast, Int.toNat_natCast]
    rw [wadd_of (by omega) (by omega), e1]; omega
  · have key : cost n (duel v) p = sumN n (fun i => R i i) := by
      rw [cost_pos hp, sumN_comm]
      exact sumN_congr fun i hi => by
        show _ = sumN i (fun j => duel v (nth p i).toNat (nth p j).toNat)
        exact sumN_lt_one (by omega)
    rw [key, hc]
    simp
end Go.Pu
