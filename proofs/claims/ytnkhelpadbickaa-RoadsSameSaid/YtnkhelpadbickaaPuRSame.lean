/- The plain law: who is called what changes nothing on the roads. -/
import Derived.Test.YtnkhelpadbickaaWRoadsSameModels
import Derived.Test.YtnkhelpadbickaaPuRoads
import Derived.Test.YtnkhelpadbickaaPuRHeight
import Derived.Test.YtnkhelpadbickaaPuFar
set_option linter.all false
namespace Go.Pu
open Go.Fw Go.Mo
structure Turn (x1 p y : List Int) : Prop where
  len : y.length = x1.length
  at_ : ∀ i, i < x1.length → nth y (nth p i).toNat = nth x1 i
theorem Turn.cnt {x1 p y : List Int} (h : Turn x1 p y) (hp : Ord x1.length p) (r : Nat) : cnt y r y.length = cnt x1 r x1.length := by
  unfold Pu.cnt
  rw [h.len, ← ord_sum hp (fun j => if nth y j = (r : Int) then 1 else 0)]
  exact sumN_congr fun i hi => by rw [h.at_ i hi]
theorem Turn.roads {x0 : List (List Int)} {x1 p y : List Int} (h : Turn x1 p y) (hp : Ord x1.length p) (hr : Roads x0 x1) : Roads x0 y := by
  refine ⟨hr.m1, hr.m4, by rw [h.len]; exact hr.n6, fun r hrl => by rw [h.len]; exact hr.row r hrl, fun j hj => ?_⟩
  rw [h.len] at hj
  have := h.at_ (p.idxOf (j : Int)) (hp.idx_lt hj)
  rw [hp.at_idx hj, Int.toNat_natCast] at this
  rw [this]; exact hr.at_ _ (hp.idx_lt hj)
theorem Turn.hgt {x0 : List (List Int)} {x1 p y : List Int} (h : Turn x1 p y) (hp : Ord x1.length p) : Hgt x0 y = Hgt x0 x1 := sumN_congr fun r _ => by unfold Pu.hgt; rw [h.cnt hp r]
theorem Turn.pay {x0 : List (List Int)} {x1 p y : List Int} (h : Turn x1 p y) (hp : Ord x1.length p) {i : Nat} (hi : i < x1.length) : pay x0 y (nth p i).toNat = pay x0 x1 i := by
  unfold Pu.pay; rw [h.at_ i hi, h.cnt hp]
theorem RoadsSame (x0 : List (List Int)) (h0 : (∀ r ∈ x0, (∀ x ∈ r, (Lit.int .i64 x).wf = true) ∧ r.length ≤ maxLen) ∧ x0.length ≤ maxLen) (x1 : List Int) (h1 : (∀ x ∈ x1, (Lit.int .i64 x).wf = true) ∧ x1.length ≤ maxLen) (x2 : List Int) (h2 : (∀ x ∈ x2, (Lit.int .i64 x).wf = true) ∧ x2.length ≤ maxLen) : pk_RoadsSame_m x0 x1 x2 = some true := by
  have hml : maxLen = 9223372036854775807 := by decide
  have hm0 : x0.length ≤ 9223372036854775807 := hml ▸ h0.2
  have hm1 : x1.length ≤ 9223372036854775807 := hml ▸ h1.2
  obtain ⟨c, ec, hc⟩ := rchk_ok x0 x1 hm0 hm1
  unfold pk_RoadsSame_m
  rw [crowds_t, Option.bind_some, if_neg (by decide)]
  by_cases c0 : c = 0
  · have h := hc.1 c0
    obtain ⟨d, ed, hd⟩ := costs_ok h
    have h4 := h.m4; have h6 := h.n6; have hmm := h.m1
    rw [height_ok h, Option.bind_some, ed, Option.bind_some]
    by_cases hz : x1.length = 0
    · have hd0 : x1 = [] := List.length_eq_zero_iff.1 hz
      subst hd0
      rfl
    · have hz1 : ((x1.length : Int) == 0) = false := by simpa using hz
      obtain ⟨p, ep, hp⟩ := orderOf_ok x1.length x2 (by omega) (by omega)
      apply Ok.eq
      simp only [bne_self_eq_false, Bool.false_eq_true, if_false, hz1, hd.len]
      rw [ok_bindR, ok_some, flok_nx, if_neg (by decide), ep, Option.bind_some, chk_t (by omega), Option.bind_some, ok_bindR, Int.toNat_natCast, hp.len]
      refine ok_rangeN (fun k (y : List Int) => y.length = x1.length ∧ ∀ i, i < k → nth y (nth p i).toNat = nth x1 i) ⟨by simp, fun i hi => by omega⟩ (fun k y hk hI => ?_) fun y hy => ?_
      · have hv := hp.val hk
        obtain ⟨j, hj⟩ : ∃ j : Nat, nth p k = (j : Int) := ⟨(nth p k).toNat, by omega⟩
        have hjl : j < y.length := by rw [hI.1]; omega
        unfold pk_RoadsSame_b1
        rw [idx_nat, nth_at (by rw [hp.len]; exact hk), Option.bind_some, idx_nat, nth_at hk, Option.bind_some, hj, idx_nat, nth_at hjl, Option.bind_some, ok_some, flok_nx, Int.toNat_natCast]
        refine ⟨by simpa using hI.1, fun i hi => ?_⟩
        rw [nth_set hjl]
        by_cases e : i = k
        · subst e; rw [hj, Int.toNat_natCast, if_pos rfl]
        · have hne : ¬ (nth p i).toNat = j := fun he => by
            have v1 := hp.val (show i < x1.length by omega)
            have : nth p i = nth p k := by rw [hj]; omega
            have i1 := hp.idx (show i < x1.length by omega)
            have i2 := hp.idx hk
            rw [this, i2] at i1
            omega
          rw [if_neg hne]; exact hI.2 i (by omega)
      · have t : Turn x1 p y := ⟨hy.1, hy.2⟩
        have hr := t.roads hp h
        obtain ⟨d', ed', hd'⟩ := costs_ok hr
        rw [height_ok hr, Option.bind_some, ed', Option.bind_some, rgood00, Option.bind_some, t.hgt hp]
        simp only [Bool.not_true, Bool.false_eq_true, if_false, hd'.len, t.len, bne_self_eq_false]
        rw [ok_bindR, ok_some, flok_nx, if_neg (by decide), ok_bindR]
        refine ok_rangeN (fun _ _ => True) trivial (fun k u hk _ => ?_) fun _ _ => by rw [ok_some]
        have hv := hp.val hk
        have hpy := t.pay (x0 := x0) hp hk
        obtain ⟨j, hj⟩ : ∃ j : Nat, nth p k = (j : Int) := ⟨(nth p k).toNat, by omega⟩
        rw [hj, Int.toNat_natCast] at hpy
        unfold pk_RoadsSame_b2
        rw [idx_nat, nth_at (by rw [hp.len]; exact hk), Option.bind_some, idx_nat, hd.at? hk, Option.bind_some, hj, idx_nat, hd'.at? (by rw [t.len]; omega), Option.bind_some, hpy]
        simp [ok_some, flok_nx]
  · rw [height_bad ec c0, Option.bind_some, costs_bad ec c0, Option.bind_some]
    have : (c != 0) = true := by simpa using c0
    simp [this, bindR]
end Go.Pu
