/- The plain law: two parties that go together lose no seats, by whole numbers. -/
import Derived.Test.YtilgigahabjbaaaWSeatsJoinModels
import Derived.Test.YtilgigahabjbaaaPuSeats
import Derived.Test.YtilgigahabjbaaaPuParts
set_option linter.all false
namespace Go.Pu
open Go.Fw Go.Mo
/-- the list without its place s -/
def drp (l : List Int) (s : Nat) : List Int := l.take s ++ l.drop (s + 1)
def up (s k : Nat) : Nat := if k < s then k else k + 1
theorem drp_len {l : List Int} {s : Nat} (h : s < l.length) : (drp l s).length = l.length - 1 := by unfold drp; rw [List.length_append, List.length_take, List.length_drop]; omega
theorem drp_nth {l : List Int} {s k : Nat} (h : s < l.length) : nth (drp l s) k = nth l (up s k) := by
  unfold drp up
  rw [nth_append, List.length_take]
  by_cases hk : k < s
  · rw [if_pos (by omega), if_pos hk, nth_take hk]
  · rw [if_neg (by omega), if_neg hk, nth_drop]; congr 1; omega
theorem sumN_drop {n s : Nat} {f : Nat → Int} (h : s < n) : sumN n f = f s + sumN (n - 1) (fun k => f (up s k)) := by
  induction n with
  | zero => omega
  | succ n ih =>
    simp only [sumN, Nat.add_sub_cancel]
    by_cases hs : s = n
    · subst hs
      have : sumN s (fun k => f (up s k)) = sumN s f := sumN_congr fun k hk => by unfold up; rw [if_pos hk]
      omega
    · rw [ih (by omega)]
      obtain ⟨m, rfl⟩ : ∃ m, n = m + 1 := ⟨n - 1, by omega⟩
      simp only [sumN, Nat.add_sub_cancel]
      have : up s m = m + 1 := by unfold up; rw [if_neg (by omega)]
      rw [this]; omega
theorem join_law {p a b : List Int} {h f s : Nat} (hp : People p) (hs : s < p.length) (hfs : f < s) (d : Div p 1 h a) (e : Div (drp (p.set f (nth p f + nth p s)) s) 1 h b) : nth a f + nth a s ≤ nth b f := by
  have hfl : f < p.length := by omega
  have hpl : (p.set f (nth p f + nth p s)).length = p.length := by simp
  have hql := drp_len (l := p.set f (nth p f + nth p s)) (s := s) (by omega)
  rw [hpl] at hql
  have q_at : ∀ k, k ≠ f → nth (drp (p.set f (nth p f + nth p s)) s) k = nth p (up s k) := fun k hk => by
    rw [drp_nth (by omega), nth_set hfl, if_neg (by unfold up; split <;> omega)]
  have q_f : nth (drp (p.set f (nth p f + nth p s)) s) f = nth p f + nth p s := by
    have : up s f = f := by unfold up; rw [if_pos hfs]
    rw [drp_nth (by omega), this, nth_set hfl, if_pos rfl]
  have up_lt : ∀ k, k < p.length - 1 → up s k < p.length := fun k hk => by unfold up; split <;> omega
  have q_nn : ∀ k, k < (drp (p.set f (nth p f + nth p s)) s).length → 0 ≤ nth (drp (p.set f (nth p f + nth p s)) s) k := fun k hk => by
    rw [hql] at hk
    by_cases hkf : k = f
    · subst hkf; rw [q_f]; have := (hp.val k hfl).1; have := (hp.val s hs).1; omega
    · rw [q_at k hkf]; exact (hp.val _ (up_lt k hk)).1
  refine Classical.byContradiction fun hn => ?_
  -- somebody else has more than before
  have hex : ∃ j, j < p.length - 1 ∧ j ≠ f ∧ nth a (up s j) < nth b j := by
    refine Classical.byContradiction fun hno => ?_
    have key : ∀ k, k < p.length - 1 → nth b k + (if k = f then nth a s + 1 else 0) ≤ nth a (up s k) + (if k = f then nth a s + nth a s else 0) := fun k hk => by
      by_cases hkf : k = f
      · subst hkf
        rw [if_pos rfl, if_pos rfl]
        have : up s k = k := by unfold up; rw [if_pos hfs]
        rw [this]; omega
      · rw [if_neg hkf, if_neg hkf]
        have hnn : ¬ nth a (up s k) < nth b k := fun h => hno ⟨k, hk, hkf, h⟩
        omega
    have := sumN_le key
    rw [sumN_add, sumN_add, sumN_single (by omega), sumN_single (by omega)] at this
    have s1 := d.sum
    rw [sum_sumN a, d.len, sumN_drop hs] at s1
    have s2 := e.sum
    rw [sum_sumN b, e.len, hql] at s2
    omega
  obtain ⟨j, hj, hjf, hlt⟩ := hex
  have hJ : up s j < p.length := up_lt j hj
  have hJf : up s j ≠ f := by unfold up; split <;> omega
  have hJs : up s j ≠ s := by unfold up; split <;> omega
  have fb := e.fair (by omega) q_nn j f (by omega) (by omega) (by have := (d.val _ hJ).1; omega)
  have ff := d.fair (by omega) (fun k hk => (hp.val k hk).1) f (up s j) hfl hJ
  have fs := d.fair (by omega) (fun k hk => (hp.val k hk).1) s (up s j) hs hJ
  rw [q_f, q_at j hjf] at fb
  have pf := (hp.val f hfl).1
  have ps := (hp.val s hs).1
  have pj := (hp.val _ hJ).1
  have af := (d.val f hfl).1
  have as := (d.val s hs).1
  have aj := (d.val _ hJ).1
  have hup : up s j < f → j < f := by unfold up; split <;> omega
  have hup2 : j < f → up s j < f := by unfold up; split <;> omega
  generalize up s j = J at *
  have m1 : nth p J * (nth b f + 1) ≤ nth p J * (nth a f + nth a s) := Int.mul_le_mul_of_nonneg_left (by omega) pj
  have m2 : (nth p f + nth p s) * (nth a J + 1) ≤ (nth p f + nth p s) * nth b j := Int.mul_le_mul_of_nonneg_left (by omega) (by omega)
  have g1 : nth p J * nth a f ≤ nth p f * (nth a J + 1) ∧ (nth a f ≠ 0 → nth p J * nth a f = nth p f * (nth a J + 1) → f < J) := by
    by_cases hz : nth a f = 0
    · rw [hz]; have := Int.mul_nonneg pf (show 0 ≤ nth a J + 1 by omega); exact ⟨by omega, fun hh => absurd rfl hh⟩
    · rcases ff (by omega) with q | ⟨q, q'⟩ | q
      · exact ⟨by grind, fun _ _ => by grind⟩
      · exact ⟨by grind, fun _ _ => by omega⟩
      · exact absurd q.symm hJf
  have g2 : nth p J * nth a s ≤ nth p s * (nth a J + 1) ∧ (nth a s ≠ 0 → nth p J * nth a s = nth p s * (nth a J + 1) → s < J) := by
    by_cases hz : nth a s = 0
    · rw [hz]; have := Int.mul_nonneg ps (show 0 ≤ nth a J + 1 by omega); exact ⟨by omega, fun hh => absurd rfl hh⟩
    · rcases fs (by omega) with q | ⟨q, q'⟩ | q
      · exact ⟨by grind, fun _ _ => by grind⟩
      · exact ⟨by grind, fun _ _ => by omega⟩
      · exact absurd q.symm hJs
  have e1 : nth p J * (nth a f + nth a s) = nth p J * nth a f + nth p J * nth a s := Int.mul_add _ _ _
  have e2 : (nth p f + nth p s) * (nth a J + 1) = nth p f * (nth a J + 1) + nth p s * (nth a J + 1) := Int.add_mul _ _ _
  rcases fb with q | ⟨q, q'⟩ | q
  · have : (nth p f + nth p s) * nth b j < nth p J * (nth b f + 1) := by grind
    omega
  · have hq : (nth p f + nth p s) * nth b j = nth p J * (nth b f + 1) := by grind
    have bf0 : 0 ≤ nth b f := (e.val f (by omega)).1
    have : nth a f ≠ 0 ∨ nth a s ≠ 0 := by omega
    rcases this with hz | hz
    · have := g1.2 hz (by omega)
      have := hup2 (by omega)
      omega
    · have := g2.2 hz (by omega)
      have := hup2 (by omega)
      omega
  · exact absurd q hjf
theorem clone_int' {l : List Int} (h : l.length ≤ 68719476736) : slices_Clone_int_int_m l = some l := by
  unfold slices_Clone_int_int_m; rw [chk_t h]; rfl
theorem SeatsJoin (x0 : List Int) (_ : (∀ x ∈ x0, (Lit.int .i64 x).wf = true) ∧ x0.length ≤ maxLen) (x1 : Int) (_ : (Lit.int .i64 x1).wf = true) (x2 : Int) (_ : (Lit.int .i64 x2).wf = true) (x3 : Int) (_ : (Lit.int .i64 x3).wf = true) : pk_SeatsJoin_m x0 x1 x2 x3 = some true := by
  obtain ⟨p, ep, hp, hp1⟩ := peopleOf_ok x0
  have n8 := hp.n8; have n1 := hp.n1
  have a0 := Int.emod_nonneg x1 (b := 101) (by decide)
  have a1 := Int.emod_lt_of_pos x1 (b := 101) (by decide)
  have c0 := Int.emod_nonneg x2 (b := (p.length : Int)) (by omega)
  have c1 := Int.emod_lt_of_pos x2 (b := (p.length : Int)) (by omega)
  have d0 := Int.emod_nonneg x3 (b := (p.length : Int)) (by omega)
  have d1 := Int.emod_lt_of_pos x3 (b := (p.length : Int)) (by omega)
  obtain ⟨h, hh⟩ : ∃ h : Nat, x1 % 101 = (h : Int) := ⟨(x1 % 101).toNat, by omega⟩
  obtain ⟨i, hi⟩ : ∃ i : Nat, x2 % (p.length : Int) = (i : Int) := ⟨(x2 % (p.length : Int)).toNat, by omega⟩
  obtain ⟨k, hk⟩ : ∃ k : Nat, x3 % (p.length : Int) = (k : Int) := ⟨(x3 % (p.length : Int)).toNat, by omega⟩
  obtain ⟨a, ea, da⟩ := share_div hp (h := h) (by omega) (w := 1) (by omega) (by omega)
  have sa : pk_sum_m a = some (h : Int) := by rw [psum_ok (B := 1000) (by omega) (fun k hk => by have := da.val k (by rw [← da.len]; exact hk); omega) (by rw [da.len]; omega), da.sum]
  have e1 : (if (k : Int) < (i : Int) then (k : Int) else (i : Int)) = ((min i k : Nat) : Int) := by omega
  have e2 : (if (k : Int) > (i : Int) then (k : Int) else (i : Int)) = ((max i k : Nat) : Int) := by omega
  apply Ok.eq
  unfold pk_SeatsJoin_m
  rw [shares_t]
  simp only [Option.bind_some, Bool.not_true, Bool.false_eq_true, if_false, within_at x1 101 (by decide) (by decide), hh, ep, ea, within_at x2 (p.length : Int) (by omega) (by omega), within_at x3 (p.length : Int) (by omega) (by omega), hi, hk]
  simp only [ok_bind, ok_bindR, ok_ite, ok_some, flok_nx, da.len, bne_self_eq_false, Bool.false_eq_true, false_implies, true_and, not_false_eq_true, true_implies, sa, beq_self_eq_true, implies_true, beq_iff_eq]
  intro hne
  have hik : i ≠ k := fun e => hne (by rw [e])
  rw [clone_int' (by omega), ok_some, e1, e2]
  have hf : min i k < p.length := by omega
  have hs : max i k < p.length := by omega
  have hfs : min i k < max i k := by omega
  generalize min i k = f at *
  generalize max i k = s at *
  have vf := hp.val f hf
  have vs := hp.val s hs
  have w1 := hp1 f hf
  have w2 := hp1 s hs
  simp only [ok_idx, ok_bind, Int.toNat_natCast]
  rw [wadd_of (x := nth p f) (by omega) (by omega), wadd_of (x := (s : Int)) (by omega) (by omega)]
  have hdel : slices_Delete_int_int_m (p.set f (nth p f + nth p s)) (s : Int) ((s : Int) + 1) = some (drp (p.set f (nth p f + nth p s)) s) := by
    unfold slices_Delete_int_int_m drp
    rw [chk_t (by simp; omega), Option.bind_some]
    rw [show ((s : Int) + 1).toNat = s + 1 by omega, Int.toNat_natCast]
  have hql := drp_len (l := p.set f (nth p f + nth p s)) (s := s) (by simpa using hs)
  rw [List.length_set] at hql
  have hq : People (drp (p.set f (nth p f + nth p s)) s) := by
    refine ⟨by omega, by omega, fun j hj => ?_, ?_⟩
    · rw [drp_nth (by simpa using hs), nth_set hf]
      have : up s j < p.length := by unfold up; split <;> omega
      have := hp.val _ this
      split <;> omega
    · have e3 : (drp (p.set f (nth p f + nth p s)) s).sum = p.sum := by
        have t1 := sum_set (v := nth p f + nth p s) hf
        have t2 := sumN_drop (n := (p.set f (nth p f + nth p s)).length) (s := s) (f := nth (p.set f (nth p f + nth p s))) (by simpa using hs)
        rw [← sum_sumN] at t2
        rw [sum_sumN (drp _ s), hql, sumN_congr (g := fun k => nth (p.set f (nth p f + nth p s)) (up s k)) (fun x hx => drp_nth (by simpa using hs))]
        rw [List.length_set, nth_set hf, if_neg (by omega)] at t2
        omega
      rw [e3]; exact hp.pos
  obtain ⟨b, eb, db⟩ := share_div hq (h := h) (by omega) (w := 1) (by omega) (by omega)
  have key := join_law hp hs hfs da db
  have vb := da.val f hf
  have vc := da.val s hs
  have hbl := db.len
  have hal := da.len
  simp only [hdel, eb, ok_some, hbl, ok_bind, ok_idx, ok_ite, flok_nx, beq_self_eq_true, Int.toNat_natCast]
  have hw : wadd (nth a f) (nth a s) = nth a f + nth a s := wadd_of (by omega) (by omega)
  simp [hw]
  omega
end Go.Pu
