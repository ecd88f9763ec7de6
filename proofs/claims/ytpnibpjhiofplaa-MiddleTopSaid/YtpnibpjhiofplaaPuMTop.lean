/- The plain law: in the nearest order the top sides stand ahead of all others. -/
import Derived.Test.YtpnibpjhiofplaaWMiddleTopModels
import Derived.Test.YtpnibpjhiofplaaPuMFar
import Derived.Test.YtpnibpjhiofplaaPuTop
import Derived.Test.YtpnibpjhiofplaaPuGood
set_option linter.all false
namespace Go.Pu
open Go.Fw Go.Mo
theorem middles_t' : pk_middles_m = some true := by decide +kernel
theorem pick_count (p : Nat → Bool) (n : Nat) : ((pickB p n).length : Int) = sumN n (fun x => b1 (p x)) := by
  induction n with
  | zero => rfl
  | succ n ih => simp only [pickB, List.length_append, sumN, Int.natCast_add, ih]; unfold b1; split <;> simp
theorem MiddleTop (x0 : Int) (_ : (Lit.int .i64 x0).wf = true) (x1 : List (List Int)) (_ : (∀ r ∈ x1, (∀ x ∈ r, (Lit.int .i64 x).wf = true) ∧ r.length ≤ maxLen) ∧ x1.length ≤ maxLen) : pk_MiddleTop_m x0 x1 = some true := by
  obtain ⟨n, n1, n6, hn⟩ := one_within x0 6 (by decide) (by decide)
  rw [show ((6 : Nat) : Int) = 6 from rfl] at hn
  obtain ⟨v, ev, _, hv⟩ := votesOf_ok n x1 n1 n6
  obtain ⟨m, em, hM⟩ := duels_ok n1 n6 hv
  obtain ⟨p, ep, hp, hbest⟩ := best_ok n1 n6 hv
  have hpl := hp.len
  have hT : Tab n m (duel v) := ⟨hM, n1, n6, fun x y _ _ => by have := duel_bound v x y; have := hv.1; omega, fun x _ => duel_self v x⟩
  have et := top_ok hT
  have ed : pk_duels_m = some true := by decide +kernel
  -- behind a side that is not at the top none is
  have step : ∀ k, k + 1 < n → Tops n (duel v) (nth p (k + 1)).toNat → Tops n (duel v) (nth p k).toNat := fun k hk ht => by
    have va := hp.val (show k < n by omega); have vb := hp.val hk
    refine Classical.byContradiction fun hno => ?_
    have := tops_beat (show (nth p (k + 1)).toNat < n by omega) (show (nth p k).toNat < n by omega) ht hno
    have := best_next hp hbest hk
    omega
  have down : ∀ i j, i ≤ j → j < n → Tops n (duel v) (nth p j).toNat → Tops n (duel v) (nth p i).toNat := by
    intro i j hij
    induction j with
    | zero => intro _ h; have : i = 0 := by omega
              subst this; exact h
    | succ j ih =>
      intro hj h
      by_cases he : i = j + 1
      · subst he; exact h
      · exact ih (by omega) (by omega) (step j hj h)
  have hcount : ((pickB (topB n (duel v)) n).length : Int) = sumN n (fun i => b1 (topB n (duel v) (nth p i).toNat)) := by
    rw [pick_count, ord_sum hp (fun x => b1 (topB n (duel v) x))]
  have hmem : ∀ i, i < n → (topB n (duel v) (nth p i).toNat = true ↔ (i : Int) < ((pickB (topB n (duel v)) n).length : Int)) := fun i hi => by
    rw [hcount]
    constructor
    · intro ht
      have hall : ∀ j, j < i + 1 → b1 (topB n (duel v) (nth p j).toNat) = 1 := fun j hj => by
        have := topB_iff.2 (down j i (by omega) hi (topB_iff.1 ht))
        rw [this]; rfl
      have e1 : sumN (i + 1) (fun i => b1 (topB n (duel v) (nth p i).toNat)) = (i + 1 : Nat) := by rw [sumN_congr (g := fun _ => 1) hall, sumN_const]; omega
      have e2 : sumN (i + 1) (fun i => b1 (topB n (duel v) (nth p i).toNat)) ≤ sumN n (fun i => b1 (topB n (duel v) (nth p i).toNat)) := by
        rw [← sumN_lt_one (n := n) (i := i + 1) (by omega)]
        refine sumN_le fun j _ => ?_
        have := b1_val (topB n (duel v) (nth p j).toNat)
        split <;> omega
      omega
    · intro hlt
      refine Classical.byContradiction fun hno => ?_
      have e2 : sumN n (fun i => b1 (topB n (duel v) (nth p i).toNat)) ≤ sumN n (fun j => if j < i then 1 else 0) := sumN_le fun j hj => by
        by_cases hji : j < i
        · rw [if_pos hji]; exact (b1_val _).2
        · rw [if_neg hji]
          have : topB n (duel v) (nth p j).toNat = false := by
            cases h : topB n (duel v) (nth p j).toNat with
            | false => rfl
            | true => exact absurd (topB_iff.2 (down i j (by omega) hj (topB_iff.1 h))) hno
          rw [this]; exact Int.le_refl _
      rw [sumN_lt_one (f := fun _ => 1) (by omega), sumN_const] at e2
      omega
  apply Ok.eq
  unfold pk_MiddleTop_m
  rw [middles_t', ed]
  simp only [ok_bind, ok_bindR, ok_ite, ok_some, flok_nx, within_at x0 6 (by decide) (by decide), hn, ev, em, ep, et, good_at, hpl, List.all_cons, List.all_nil, Bool.and_self, beq_self_eq_true, bne_self_eq_false, Bool.not_true, Bool.false_eq_true, false_implies, true_and, not_false_eq_true, true_implies]
  refine ok_rangeL (fun _ _ => True) trivial (fun i x s hi _ => ?_) fun s _ => by trivial
  obtain ⟨hx, hil⟩ := nth_of hi
  rw [hpl] at hil
  have vx := hp.val hil
  have h1 := hmem i hil
  have h2 : x ∈ pickB (topB n (duel v)) n ↔ topB n (duel v) (nth p i).toNat = true := by
    rw [← hx, mem_pickB]
    constructor
    · rintro ⟨k, _, h, e⟩; rw [e, Int.toNat_natCast]; exact h
    · intro h; exact ⟨(nth p i).toNat, by omega, h, by omega⟩
  have h3 : (decide (x ∈ pickB (topB n (duel v)) n) == decide ((i : Int) < ((pickB (topB n (duel v)) n).length : Int))) = true := by
    rw [beq_iff_eq]; exact Bool.eq_iff_iff.2 (by rw [decide_eq_true_eq, decide_eq_true_eq, h2, h1])
  unfold pk_MiddleTop_b1
  rw [contains_ok, Option.bind_some, h3]
  simp [ok_some, flok_nx]
end Go.Pu
