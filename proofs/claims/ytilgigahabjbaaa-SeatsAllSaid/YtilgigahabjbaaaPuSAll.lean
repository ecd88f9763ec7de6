/- The plain law: with as many seats as people each party has as many as it has people. -/
import Derived.Test.YtilgigahabjbaaaWSeatsAllModels
import Derived.Test.YtilgigahabjbaaaPuParts
import Derived.Test.YtilgigahabjbaaaPuEq
set_option linter.all false
namespace Go.Pu
open Go.Fw Go.Mo
theorem div_all {p a : List Int} {w h : Nat} (hw : 1 ≤ w) (hp : ∀ k, k < p.length → 0 ≤ nth p k) (hs : p.sum = h) (d : Div p w h a) : a = p := by
  have hle : ∀ i, i < p.length → nth a i ≤ nth p i := fun i hi => by
    refine Classical.byContradiction fun hn => ?_
    have hex : ∃ k, k < p.length ∧ nth a k < nth p k := by
      refine Classical.byContradiction fun hno => ?_
      have key : ∀ x, x < p.length → nth p x + (if x = i then 1 else 0) ≤ nth a x := fun x hx => by
        by_cases hxi : x = i
        · subst hxi; rw [if_pos rfl]; omega
        · rw [if_neg hxi]; have hnn : ¬ nth a x < nth p x := fun h => hno ⟨x, hx, h⟩; omega
      have := sumN_le key
      rw [sumN_add, sumN_single hi] at this
      have e1 := d.sum
      rw [sum_sumN a, d.len] at e1
      rw [sum_sumN p] at hs
      omega
    obtain ⟨k, hk, hlt⟩ := hex
    have fair := d.fair (by omega) hp i k hi hk (by have := hp i hi; omega)
    have hge : nth p k * ((w : Int) * (nth a i - 1) + 1) ≤ nth p i * ((w : Int) * nth a k + 1) := by
      rcases fair with f | ⟨f, _⟩ | f
      · omega
      · omega
      · subst f; omega
    have ak := d.val k hk
    have h1 : nth p i * ((w : Int) * nth a k + 1) ≤ nth p i * ((w : Int) * (nth p k - 1) + 1) := Int.mul_le_mul_of_nonneg_left (by have := Int.mul_le_mul_of_nonneg_left (show nth a k ≤ nth p k - 1 by omega) (show (0 : Int) ≤ w by omega); omega) (hp i hi)
    have h2 : nth p k * ((w : Int) * nth p i + 1) ≤ nth p k * ((w : Int) * (nth a i - 1) + 1) := Int.mul_le_mul_of_nonneg_left (by have := Int.mul_le_mul_of_nonneg_left (show nth p i ≤ nth a i - 1 by omega) (show (0 : Int) ≤ w by omega); omega) (hp k hk)
    have h3 : nth p i * ((w : Int) * (nth p k - 1) + 1) = nth p k * ((w : Int) * nth p i + 1) - nth p k - (nth p i * (w - 1)) := by grind
    have h4 : 0 ≤ nth p i * ((w : Int) - 1) := Int.mul_nonneg (hp i hi) (by omega)
    have := hp k hk
    omega
  refine nth_ext d.len fun k hk => ?_
  rw [d.len] at hk
  refine Classical.byContradiction fun hne => ?_
  have key : ∀ x, x < p.length → nth a x + (if x = k then 1 else 0) ≤ nth p x := fun x hx => by
    have := hle x hx
    by_cases hxk : x = k
    · subst hxk; rw [if_pos rfl]; omega
    · rw [if_neg hxk]; omega
  have := sumN_le key
  rw [sumN_add, sumN_single hk] at this
  have e1 := d.sum
  rw [sum_sumN a, d.len] at e1
  rw [sum_sumN p] at hs
  omega
theorem ham_all {p a : List Int} {h : Nat} {P : Nat → Bool} (hp : People p) (hs : p.sum = h) (H : Ham p h a P) : a = p := by
  have q : ∀ i, quo p h i = nth p i := fun i => by unfold quo; rw [← hs]; exact Int.mul_ediv_cancel _ (by have := hp.pos; omega)
  have hb : ∀ i, 0 ≤ bi (P i) := fun i => by unfold bi; split <;> omega
  refine nth_ext H.len fun k hk => ?_
  rw [H.len] at hk
  have e := H.sum
  have e2 : sumN p.length (fun i => quo p h i + bi (P i)) = sumN p.length (nth p) + sumN p.length (fun i => bi (P i)) := by
    rw [sumN_add, sumN_congr (g := nth p) fun x _ => q x]
  rw [e2, ← sum_sumN, hs] at e
  have h0 : bi (P k) = 0 := by
    refine Classical.byContradiction fun hn => ?_
    have key : ∀ x, x < p.length → (if x = k then 1 else 0) ≤ bi (P x) := fun x hx => by
      have := hb x
      by_cases hxk : x = k
      · subst hxk; rw [if_pos rfl]; omega
      · rw [if_neg hxk]; omega
    have := sumN_le key
    rw [sumN_single hk] at this
    omega
  rw [H.at_ k hk, q, h0]; omega
theorem SeatsAll (x0 : Int) (_ : (Lit.int .i64 x0).wf = true) (x1 : List Int) (_ : (∀ x ∈ x1, (Lit.int .i64 x).wf = true) ∧ x1.length ≤ maxLen) : pk_SeatsAll_m x0 x1 = some true := by
  obtain ⟨w, hw0, hw2, hw⟩ := one_within x0 3 (by decide) (by decide)
  rw [show ((3 : Nat) : Int) = 3 from rfl] at hw
  apply Ok.eq
  unfold pk_SeatsAll_m
  rw [shares_t]
  have e : (if (7 : Int) < (x1.length : Int) then (7 : Int) else (x1.length : Int)) = ((min 7 x1.length : Nat) : Int) := by omega
  simp only [Option.bind_some, Bool.not_true, Bool.false_eq_true, if_false, within_at x0 3 (by decide) (by decide), hw]
  rw [e, List.drop_zero, Int.toNat_natCast]
  simp only [ok_bind, ok_chk, ok_bindR, ok_some]
  have start : ([(1 : Int)] : List Int).length = 0 + 1 ∧ nth ([(1 : Int)] : List Int) 0 = 1 ∧ ∀ k, k < ([(1 : Int)] : List Int).length → 0 ≤ nth ([(1 : Int)] : List Int) k ∧ nth ([(1 : Int)] : List Int) k ≤ 13 := by
    refine ⟨rfl, rfl, fun k hk => ?_⟩
    have : k = 0 := by simp at hk; omega
    subst this; decide
  refine ⟨by omega, ok_rangeL (fun (k : Nat) (p : List Int) => p.length = k + 1 ∧ nth p 0 = 1 ∧ ∀ k, k < p.length → 0 ≤ nth p k ∧ nth p k ≤ 13) start (fun k x p hk hI => ?_) fun p hp => ?_⟩
  · obtain ⟨i1, i2, i3⟩ := hI
    have hk' := (List.getElem?_eq_some_iff.1 hk).1
    rw [List.length_take] at hk'
    have a0 := Int.emod_nonneg x (b := 14) (by decide)
    have a1 := Int.emod_lt_of_pos x (b := 14) (by decide)
    unfold pk_SeatsAll_b1
    rw [within_at x 14 (by decide) (by decide)]
    simp only [ok_bind, ok_chk, ok_some, flok_nx]
    refine ⟨by simp; omega, by simp [i1], by rw [nth_append, if_pos (by omega)]; exact i2, fun j hj => ?_⟩
    rw [nth_append]
    split
    · exact i3 j (by assumption)
    · have : j - p.length = 0 := by simp at hj; omega
      rw [this, nth_cons_zero]; omega
  · obtain ⟨i1, i2, i3⟩ := hp
    rw [List.length_take] at i1
    have b13 : ∀ k, k ≤ p.length → 0 ≤ (p.take k).sum ∧ (p.take k).sum ≤ 13 * k := by
      intro k
      induction k with
      | zero => simp
      | succ k ih => intro hk; have := ih (by omega); have := i3 k (by omega); rw [sum_take_succ (by omega)]; omega
    have hsb := b13 p.length (Nat.le_refl _)
    rw [List.take_length] at hsb
    have hpos : 0 < p.sum := by
      match p, i1, i2, i3 with
      | x :: l, i1, i2, i3 =>
        rw [nth_cons_zero] at i2
        have := psum_bound (p := l) (fun k hk => by have := i3 (k + 1) (by simpa using hk); rw [nth_cons_succ] at this; omega) l.length (Nat.le_refl _)
        rw [List.take_length] at this
        simp only [List.sum_cons]; omega
    have hp : People p := ⟨by omega, by omega, fun k hk => by have := i3 k hk; omega, hpos⟩
    obtain ⟨h, hh⟩ : ∃ h : Nat, p.sum = (h : Int) := ⟨p.sum.toNat, by omega⟩
    simp only [flok_nx, ok_bind, psum_ok (B := 13) (by omega) i3 (by omega), ok_some, hh]
    -- at most 92 seats: 1 + 7 * 13
    have h92 : p.sum ≤ 92 := by
      match p, i1, i2, i3 with
      | x :: l, i1, i2, i3 =>
        rw [nth_cons_zero] at i2
        have b : ∀ k, k ≤ l.length → (l.take k).sum ≤ 13 * k := by
          intro k
          induction k with
          | zero => simp
          | succ k ih => intro hk; have := ih (by omega); have := i3 (k + 1) (by simp; omega); rw [nth_cons_succ] at this; rw [sum_take_succ (by omega)]; omega
        have := b l.length (Nat.le_refl _)
        rw [List.take_length] at this
        simp only [List.sum_cons, List.length_cons] at *; omega
    have : w = 3 ∨ (1 ≤ w ∧ w ≤ 2) := by omega
    rcases this with rfl | hw'
    · obtain ⟨a, P, ea, H⟩ := parts_ok hp (h := h) (by omega)
      have := ham_all hp hh H
      subst this
      rw [show ((3 : Nat) : Int) = 3 from rfl, ea]
      simp [ok_some, ok_bindR, ok_ite, ok_bind, flok_nx, equal_ok]
    · obtain ⟨a, ea, da⟩ := share_div hp (h := h) (by omega) (w := (w : Int)) (by omega) (by omega)
      have := div_all hw0 (fun k hk => (hp.val k hk).1) hh da
      subst this
      rw [ea]
      simp [ok_some, ok_bindR, ok_ite, ok_bind, flok_nx, equal_ok]
end Go.Pu
