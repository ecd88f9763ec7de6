/- The plain law: by parts each has its part rounded down, or one more; by whole numbers no less than that. -/
import Derived.Test.YtilgigahabjbaaaWSeatsQuotaModels
import Derived.Test.YtilgigahabjbaaaPuParts
import Derived.Test.YtilgigahabjbaaaPuGood
set_option linter.all false
namespace Go.Pu
open Go.Fw Go.Mo
theorem ham_pos {p : List Int} (hp : People p) {h : Int} {a : List Int} {P : Nat → Bool} (H : Ham p h a P) {i : Nat} (hi : i < p.length) (hP : P i = true) : 0 < rst p h i := by
  refine Classical.byContradiction fun hn => ?_
  have r0 := (quo_rst hp h i).2.1
  have e := quo_sum hp h
  have hs := H.sum
  rw [sumN_add] at hs
  have e2 : h - sumN p.length (quo p h) = sumN p.length (fun i => bi (P i)) := by omega
  rw [e2, ← sumN_mul] at e
  have hlt : sumN p.length (rst p h) < sumN p.length (fun x => p.sum * bi (P x)) := by
    have key : ∀ x, x < p.length → rst p h x + (if x = i then p.sum else 0) ≤ p.sum * bi (P x) := fun x hx => by
      have rx := quo_rst hp h x
      by_cases hxi : x = i
      · subst hxi; rw [if_pos rfl, hP]; simp [bi]; omega
      · rw [if_neg hxi]
        cases hx' : P x with
        | true => simp [bi]; omega
        | false => have := H.ord i x hi hx hP hx'; simp [bi]; omega
    have := sumN_le key
    rw [sumN_add, sumN_single hi] at this
    have := hp.pos
    omega
  omega
theorem lower {p a : List Int} (hp : People p) {h : Nat} (d : Div p 1 h a) {i : Nat} (hi : i < p.length) : quo p h i ≤ nth a i := by
  have hpos := hp.pos
  have qi := hp.val i hi
  have ai := d.val i hi
  by_cases hz : nth p i = 0
  · unfold quo; rw [hz]; simp; omega
  have fair := d.fair (by omega) (fun k hk => (hp.val k hk).1)
  have key : ∀ k, k < p.length → nth p i * nth a k + (if k = i then nth p i else 0) ≤ nth p k * (nth a i + 1) := fun k hk => by
    by_cases hki : k = i
    · subst hki; rw [if_pos rfl, Int.mul_add]; omega
    · rw [if_neg hki]
      have ak := d.val k hk
      by_cases hak : nth a k = 0
      · rw [hak]; have := Int.mul_nonneg (hp.val k hk).1 (show 0 ≤ nth a i + 1 by omega); omega
      · rcases fair k i hk hi (by omega) with f | ⟨f, _⟩ | f
        · rw [show (1 : Int) * (nth a k - 1) + 1 = nth a k by omega, show (1 : Int) * nth a i + 1 = nth a i + 1 by omega] at f; omega
        · rw [show (1 : Int) * (nth a k - 1) + 1 = nth a k by omega, show (1 : Int) * nth a i + 1 = nth a i + 1 by omega] at f; omega
        · exact absurd f hki
  have := sumN_le key
  rw [sumN_add, sumN_single hi, sumN_mul] at this
  have e1 : sumN p.length (nth a) = h := by rw [← d.sum, sum_sumN a, d.len]
  have e2 : sumN p.length (fun k => nth p k * (nth a i + 1)) = p.sum * (nth a i + 1) := by
    rw [sum_sumN p, Int.mul_comm, ← sumN_mul]; exact sumN_congr fun x _ => Int.mul_comm _ _
  rw [e1, e2] at this
  unfold quo
  have h3 : nth p i * (h : Int) < (nth a i + 1) * p.sum := by rw [Int.mul_comm (nth a i + 1)]; omega
  have := Int.ediv_lt_of_lt_mul hpos h3
  omega
theorem SeatsQuota (x0 : List Int) (_ : (∀ x ∈ x0, (Lit.int .i64 x).wf = true) ∧ x0.length ≤ maxLen) (x1 : Int) (_ : (Lit.int .i64 x1).wf = true) : pk_SeatsQuota_m x0 x1 = some true := by
  obtain ⟨p, ep, hp, hp1⟩ := peopleOf_ok x0
  have a0 := Int.emod_nonneg x1 (b := 101) (by decide)
  have a1 := Int.emod_lt_of_pos x1 (b := 101) (by decide)
  obtain ⟨h, hh⟩ : ∃ h : Nat, x1 % 101 = (h : Int) := ⟨(x1 % 101).toNat, by omega⟩
  obtain ⟨a, P, ea, H⟩ := parts_ok hp (h := h) (by omega)
  obtain ⟨b, eb, db⟩ := share_div hp (h := h) (by omega) (w := 1) (by omega) (by omega)
  have n8 := hp.n8
  have hpos := hp.pos
  have sb8 := psum_bound hp.val p.length (Nat.le_refl _)
  rw [List.take_length] at sb8
  have qb : ∀ i, i < p.length → 0 ≤ quo p h i ∧ quo p h i ≤ 100 := fun i hi => by
    have l := lower hp db hi
    have v := db.val i hi
    exact ⟨Int.ediv_nonneg (Int.mul_nonneg (hp.val i hi).1 (by omega)) (by omega), by omega⟩
  have bb : ∀ i, 0 ≤ bi (P i) ∧ bi (P i) ≤ 1 := fun i => by unfold bi; split <;> omega
  have sa : pk_sum_m a = some (h : Int) := by
    rw [psum_ok (B := 1000) (by omega) (fun k hk => by
      rw [H.len] at hk
      have := H.at_ k hk; have := qb k hk; have := bb k; omega) (by rw [H.len]; omega)]
    rw [sum_sumN a, H.len, sumN_congr H.at_, H.sum]
  have sb : pk_sum_m b = some (h : Int) := by rw [psum_ok (B := 1000) (by omega) (fun k hk => by have := db.val k (by rw [← db.len]; exact hk); omega) (by rw [db.len]; omega), db.sum]
  have sp : pk_sum_m p = some p.sum := psum_ok (B := 1000000) (by omega) hp.val (by omega)
  apply Ok.eq
  unfold pk_SeatsQuota_m
  rw [shares_t]
  simp only [Option.bind_some, Bool.not_true, Bool.false_eq_true, if_false, within_at x1 101 (by decide) (by decide), hh, ep, ea, eb, good_at]
  simp only [ok_bind, ok_ite, ok_bindR, ok_some, flok_nx, sa, sb, sp, H.len, db.len, List.all_cons, List.all_nil, Bool.and_self, beq_self_eq_true, bne_self_eq_false, Bool.not_true, Bool.false_eq_true, false_implies, true_and, not_false_eq_true, true_implies]
  refine ok_rangeL (fun _ _ => True) trivial (fun k x s hk _ => ?_) fun s _ => by trivial
  obtain ⟨hx, hkl⟩ := nth_of hk
  subst hx
  have v := hp.val k hkl
  have h1 : 0 ≤ nth p k * (h : Int) := Int.mul_nonneg v.1 (by omega)
  have h2 : nth p k * (h : Int) ≤ 1000000 * 100 := Int.mul_le_mul v.2 (by omega) (by omega) (by omega)
  have q1 := qb k hkl
  have e1 : IntKind.i64.wrap ((wmul (nth p k) (h : Int)).tdiv p.sum) = quo p h k := by
    rw [wmul_of (by omega) (by omega), Int.tdiv_eq_ediv_of_nonneg h1, IntKind.wrap_i64]
    show _ = quo p h k
    unfold quo at q1 ⊢
    omega
  have e2 : (wmul (nth p k) (h : Int)).tmod p.sum = rst p h k := by
    rw [wmul_of (by omega) (by omega), Int.tmod_eq_emod_of_nonneg h1]; rfl
  have hk1 := H.at_ k hkl
  have hb1 := bb k
  have hl := lower hp db hkl
  have hpk : bi (P k) = 1 → 0 < rst p h k := fun hb => ham_pos hp H hkl (by cases hc : P k with | true => rfl | false => rw [hc] at hb; simp [bi] at hb)
  unfold pk_SeatsQuota_b1
  simp only [idx_nat, nth_at (show k < a.length by rw [H.len]; exact hkl), nth_at (show k < b.length by rw [db.len]; exact hkl), Option.bind_some, ok_bind, ok_chk, ok_bindF, ok_ite, ok_some, flok_nx, flok_rt, decide_eq_true_eq, beq_iff_eq, e1, e2]
  rw [wadd_of (by omega) (by omega)]
  grind
end Go.Pu
