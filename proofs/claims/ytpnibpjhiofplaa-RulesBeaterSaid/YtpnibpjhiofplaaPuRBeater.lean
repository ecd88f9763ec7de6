/- The plain law: who beats all others has won alone by duels and by the least bad defeat, and is never last by points. -/
import Derived.Test.YtpnibpjhiofplaaWRulesBeaterModels
import Derived.Test.YtpnibpjhiofplaaPuMono
import Derived.Test.YtpnibpjhiofplaaPuBeater
import Derived.Test.YtpnibpjhiofplaaPuMin
set_option linter.all false
namespace Go.Pu
open Go.Fw Go.Mo
theorem beats_cope {n : Nat} {d : Nat → Nat → Int} {a : Nat} (ha : a < n) (h : Beats n d a) : ∀ j, j < n → j ≠ a → cope n d j < cope n d a := by
  intro j hj hja
  have e : cope n d a = sumN n (fun y => if y = a then 0 else 1) := by
    unfold cope
    refine sumN_congr fun y hy => ?_
    by_cases e : y = a
    · subst e; rw [if_pos rfl]; unfold sgn; simp
    · have := h y hy e
      rw [if_neg e]; unfold sgn; rw [if_pos this]
  rw [e]
  refine sumN_lt ha (fun y hy => ?_) ?_
  · have := (sgn_val (d j y) (d y j)).2
    by_cases e : y = a
    · subst e
      have := h j hj hja
      rw [if_pos rfl]; unfold sgn; rw [if_neg (by omega), if_pos this]; omega
    · rw [if_neg e]; exact this
  · have := h j hj hja
    show sgn (d j a) (d a j) < if a = a then 0 else 1
    rw [if_pos rfl]; unfold sgn; rw [if_neg (by omega), if_pos this]; omega
theorem duel_all' {n : Nat} {v : List (List Int)} (hv : ∀ p ∈ v, Ord n p) : 2 * sumN n (pts n v) = n * ((n : Int) - 1) * v.length := by
  have e : sumN n (pts n v) = sumN n (fun x => sumN n (fun y => duel v x y)) := sumN_congr fun x hx => (duel_pts hv hx).symm
  have e2 : sumN n (fun x => sumN n (fun y => duel v y x)) = sumN n (pts n v) := by rw [e]; exact sumN_comm
  have e3 : sumN n (fun x => sumN n (fun y => duel v x y + duel v y x)) = 2 * sumN n (pts n v) := by
    have : (fun x => sumN n (fun y => duel v x y + duel v y x)) = fun x => sumN n (fun y => duel v x y) + sumN n (fun y => duel v y x) := by
      funext x; exact sumN_add
    rw [this, sumN_add, e2, ← e]; omega
  have e4 : sumN n (fun x => sumN n (fun y => duel v x y + duel v y x)) = sumN n (fun _ => ((n : Int) - 1) * v.length) := by
    refine sumN_congr fun x hx => ?_
    have : sumN n (fun y => duel v x y + duel v y x) = sumN n (fun y => (v.length : Int) - if y = x then (v.length : Int) else 0) := by
      refine sumN_congr fun y hy => ?_
      by_cases h : y = x
      · subst h; rw [duel_self, if_pos rfl]; omega
      · rw [if_neg h, duel_sum hv hx hy (Ne.symm h)]; omega
    rw [this, sumN_sub, sumN_single hx, sumN_const, Int.sub_mul]; omega
  rw [← e3, e4, sumN_const, Int.mul_assoc]
theorem beats_pts {n : Nat} (h2 : 2 ≤ n) {v : List (List Int)} (hv : ∀ p ∈ v, Ord n p) {x : Nat} (hx : x < n) (hl : Beats n (duel v) x) : ¬ ∀ j, j < n → pts n v x ≤ pts n v j := by
  intro hmax
  have e1 := duel_all' hv
  have e2 : n * pts n v x ≤ sumN n (pts n v) := by
    rw [← sumN_const]; exact sumN_le hmax
  obtain ⟨z, hz, hzx⟩ : ∃ z, z < n ∧ z ≠ x := by
    by_cases h : x = 0
    · exact ⟨1, by omega, by omega⟩
    · exact ⟨0, by omega, by omega⟩
  have e3 : ((n : Int) - 1) * v.length < 2 * pts n v x := by
    rw [← duel_pts hv hx, ← sumN_mul]
    have : sumN n (fun y => (v.length : Int) - if y = x then (v.length : Int) else 0) = ((n : Int) - 1) * v.length := by
      rw [sumN_sub, sumN_single hx, sumN_const, Int.sub_mul]; omega
    rw [← this]
    refine sumN_lt hz (fun y hy => ?_) ?_
    · by_cases h : y = x
      · subst h; rw [duel_self, if_pos rfl]; omega
      · have := duel_sum hv hx hy (Ne.symm h)
        have := hl y hy h
        rw [if_neg h]; omega
    · have := duel_sum hv hx hz (Ne.symm hzx)
      have := hl z hz hzx
      try simp only
      rw [if_neg hzx]; omega
  have e4 : (n : Int) * (((n : Int) - 1) * v.length) < n * (2 * pts n v x) := Int.mul_lt_mul_of_pos_left e3 (by omega)
  rw [Int.mul_assoc] at e1
  have : (n : Int) * (2 * pts n v x) = 2 * (n * pts n v x) := by rw [← Int.mul_assoc, Int.mul_comm (n : Int) 2, Int.mul_assoc]
  omega
theorem RulesBeater (x0 : Int) (_ : (Lit.int .i64 x0).wf = true) (x1 : List (List Int)) (_ : (∀ r ∈ x1, (∀ x ∈ r, (Lit.int .i64 x).wf = true) ∧ r.length ≤ maxLen) ∧ x1.length ≤ maxLen) : pk_RulesBeater_m x0 x1 = some true := by
  obtain ⟨n, n1, n6, hn⟩ := one_within x0 6 (by decide) (by decide)
  rw [show ((6 : Nat) : Int) = 6 from rfl] at hn
  obtain ⟨v, ev, _, hv⟩ := votesOf_ok n x1 n1 n6
  obtain ⟨x, e, eb, hB⟩ := beater_ok n1 n6 hv
  obtain ⟨g, hg, eg⟩ := winners_am n1 n6 hv (k := (3 : Int)) (by omega)
  obtain ⟨h, hh, eh⟩ := winners_am n1 n6 hv (k := (4 : Int)) (by omega)
  obtain ⟨p, ep, hP⟩ := points_ok n1 n6 hv
  have g3 : pk_good_m [0, 0, 0] = some true := by rw [good_at]; rfl
  unfold pk_RulesBeater_m
  rw [winners_t, Option.bind_some, if_neg (by decide), tallies_t, Option.bind_some]
  simp only [Bool.not_true, bindR, Bool.false_eq_true, if_false]
  rw [within_at x0 6 (by decide) (by decide), Option.bind_some, hn, ev, Option.bind_some, eb, Option.bind_some]
  rcases hB with ⟨a, ha, rfl, rfl, hB⟩ | ⟨rfl, rfl, _⟩
  · rcases hg with ⟨e, _⟩ | ⟨e, _⟩ | ⟨_, hg⟩ | ⟨e, _⟩ <;> try omega
    rcases hh with ⟨e, _⟩ | ⟨e, _⟩ | ⟨e, _⟩ | ⟨_, hh⟩ <;> try omega
    subst hg
    have m1 : am (cope n (duel v)) n = [a] := am_only ha (beats_cope ha hB)
    have m2 : am h n = [a] := am_only ha fun j hj hja => by
      obtain ⟨a1, a2, a3, a4⟩ := hh a ha
      obtain ⟨c1, c2, c3, c4⟩ := hh j hj
      have h0 : h a = 0 := by
        rcases a4 with a4 | ⟨y, hy, a4⟩
        · omega
        · by_cases e : y = a
          · subst e; omega
          · have := hB y hy e; omega
      have := c3 a ha
      have := hB j hj hja
      omega
    rw [m1] at eg
    rw [m2] at eh
    simp only [bne_self_eq_false, Bool.false_eq_true, if_false, eg, eh, ep, Option.bind_some, g3, Bool.not_true, hP.len, List.map_cons, List.map_nil, equal_ok, decide_true, if_true]
    rw [if_neg (by simp)]
    simp only
    rw [show decide ((a : Int) ≥ (n : Int)) = false by rw [decide_eq_false_iff_not]; omega]
    simp only [Bool.false_eq_true, if_false]
    by_cases hn1 : n = 1
    · subst hn1; rfl
    · rw [if_neg (by rw [beq_iff_eq]; omega), idx_nat, hP.at? ha, Option.bind_some]
      obtain ⟨m, em, hm, hmin⟩ := min_ok (l := p) (by rw [hP.len]; omega) (by rw [hP.len]; omega)
      rw [em, Option.bind_some]
      have : pts n v a > m := by
        refine Classical.byContradiction fun hc => beats_pts (by omega) hv.2 ha hB fun j hj => ?_
        have := hmin (pts n v j) (List.mem_of_getElem? (hP.at? hj))
        omega
      rw [decide_eq_true this]
  · rfl
end Go.Pu
