/- The plain law: who is beaten by all others never wins by points, or by duels. -/
import Derived.Test.YtpnibpjhiofplaaWRulesLoserModels
import Derived.Test.YtpnibpjhiofplaaPuReverse
import Derived.Test.YtpnibpjhiofplaaPuRename
import Derived.Test.YtpnibpjhiofplaaPuBeater
import Derived.Test.YtpnibpjhiofplaaPuList
set_option linter.all false
namespace Go.Pu
open Go.Fw Go.Mo
theorem sumN_lt {n : Nat} {f g : Nat → Int} {k : Nat} (hk : k < n) (h : ∀ x, x < n → f x ≤ g x) (hs : f k < g k) : sumN n f < sumN n g := by
  induction n with
  | zero => omega
  | succ n ih =>
    simp only [sumN]
    by_cases e : k = n
    · subst e
      have := sumN_le (n := k) (f := f) (g := g) fun x hx => h x (by omega)
      omega
    · have := ih (by omega) fun x hx => h x (by omega)
      have := h n (by omega)
      omega
theorem duel_all {n : Nat} {v : List (List Int)} (hv : ∀ p ∈ v, Ord n p) : 2 * sumN n (pts n v) = n * ((n : Int) - 1) * v.length := by
  have e : sumN n (pts n v) = sumN n (fun x => sumN n (fun y => duel v x y)) := sumN_congr fun x hx => (duel_pts hv hx).symm
  have e2 : sumN n (fun x => sumN n (fun y => duel v y x)) = sumN n (pts n v) := by rw [e]; exact sumN_comm
  have e3 : sumN n (fun x => sumN n (fun y => duel v x y + duel v y x)) = 2 * sumN n (pts n v) := by
    have : (fun x => sumN n (fun y => duel v x y + duel v y x)) = fun x => sumN n (fun y => duel v x y) + sumN n (fun y => duel v y x) := by
      funext x; exact sumN_add
    rw [this, sumN_add, e2, ← e]; omega
  have e4 : sumN n (fun x => sumN n (fun y => duel v x y + duel v y x)) = sumN n (fun _ => ((n : Int) - 1) * v.length) := by
    refine sumN_congr fun x hx => ?_
    have : sumN n (fun y => duel v x y + duel v y x) = sumN n (fun y => (v.length : Int) - if y = x then (v.length : Int) else 0) := by
      refine sumN_congr fun y hy => ?_
      by_cases h : y = x
      · subst h; rw [duel_self, if_pos rfl]; omega
      · rw [if_neg h, duel_sum hv hx hy (Ne.symm h)]; omega
    rw [this, sumN_sub, sumN_single hx, sumN_const, Int.sub_mul]; omega
  rw [← e3, e4, sumN_const, Int.mul_assoc]
theorem loser_pts {n : Nat} (h2 : 2 ≤ n) {v : List (List Int)} (hv : ∀ p ∈ v, Ord n p) {x : Nat} (hx : x < n) (hl : ∀ y, y < n → y ≠ x → duel v x y < duel v y x) : ¬ ∀ j, j < n → pts n v j ≤ pts n v x := by
  intro hmax
  have e1 := duel_all hv
  have e2 : sumN n (pts n v) ≤ n * pts n v x := by
    rw [← sumN_const]; exact sumN_le hmax
  obtain ⟨z, hz, hzx⟩ : ∃ z, z < n ∧ z ≠ x := by
    by_cases h : x = 0
    · exact ⟨1, by omega, by omega⟩
    · exact ⟨0, by omega, by omega⟩
  have e3 : 2 * pts n v x < ((n : Int) - 1) * v.length := by
    rw [← duel_pts hv hx, ← sumN_mul]
    have : sumN n (fun y => (v.length : Int) - if y = x then (v.length : Int) else 0) = ((n : Int) - 1) * v.length := by
      rw [sumN_sub, sumN_single hx, sumN_const, Int.sub_mul]; omega
    rw [← this]
    refine sumN_lt hz (fun y hy => ?_) ?_
    · by_cases h : y = x
      · subst h; rw [duel_self, if_pos rfl]; omega
      · have := duel_sum hv hx hy (Ne.symm h)
        have := hl y hy h
        rw [if_neg h]; omega
    · have := duel_sum hv hx hz (Ne.symm hzx)
      have := hl z hz hzx
      try simp only
      rw [if_neg hzx]; omega
  have e4 : (n : Int) * (2 * pts n v x) < n * (((n : Int) - 1) * v.length) := Int.mul_lt_mul_of_pos_left e3 (by omega)
  rw [Int.mul_assoc] at e1
  have : (n : Int) * (2 * pts n v x) = 2 * (n * pts n v x) := by rw [← Int.mul_assoc, Int.mul_comm (n : Int) 2, Int.mul_assoc]
  omega
theorem loser_cope {n : Nat} (h2 : 2 ≤ n) {d : Nat → Nat → Int} {x : Nat} (hx : x < n) (hl : ∀ y, y < n → y ≠ x → d x y < d y x) : ¬ ∀ j, j < n → cope n d j ≤ cope n d x := by
  intro hmax
  have e1 := cope_sum n d
  have e2 : sumN n (cope n d) ≤ n * cope n d x := by rw [← sumN_const]; exact sumN_le hmax
  obtain ⟨z, hz, hzx⟩ : ∃ z, z < n ∧ z ≠ x := by
    by_cases h : x = 0
    · exact ⟨1, by omega, by omega⟩
    · exact ⟨0, by omega, by omega⟩
  have e3 : cope n d x < 0 := by
    have : sumN n (fun _ => (0 : Int)) = 0 := sumN_zero
    unfold cope
    rw [← this]
    refine sumN_lt hz (fun y hy => ?_) ?_
    · by_cases h : y = x
      · subst h; unfold sgn; simp
      · have := hl y hy h
        unfold sgn; rw [if_neg (by omega), if_pos this]; omega
    · have := hl z hz hzx
      try simp only
      unfold sgn; rw [if_neg (by omega), if_pos this]; omega
  have : (n : Int) * cope n d x < n * 0 := Int.mul_lt_mul_of_pos_left e3 (by omega)
  omega
theorem RulesLoser (x0 : Int) (_ : (Lit.int .i64 x0).wf = true) (x1 : List (List Int)) (_ : (∀ r ∈ x1, (∀ x ∈ r, (Lit.int .i64 x).wf = true) ∧ r.length ≤ maxLen) ∧ x1.length ≤ maxLen) : pk_RulesLoser_m x0 x1 = some true := by
  obtain ⟨n, n2, n6, hn⟩ : ∃ n : Nat, 2 ≤ n ∧ n ≤ 6 ∧ wadd 2 (x0 % (5 : Int)) = (n : Int) := by
    have h1 := Int.emod_nonneg x0 (show (5 : Int) ≠ 0 by decide)
    have h2 := Int.emod_lt_of_pos x0 (show (0 : Int) < 5 by decide)
    exact ⟨(2 + x0 % 5).toNat, by omega, by omega, by rw [wadd_of (by omega) (by omega)]; omega⟩
  obtain ⟨v, ev, _, hv⟩ := votesOf_ok n x1 (by omega) n6
  have hw := turn_votes hv
  obtain ⟨x, e, eb, hB⟩ := beater_ok (by omega) n6 hw
  obtain ⟨g, hg, eg⟩ := winners_am (by omega) n6 hv (k := (2 : Int)) (by omega)
  obtain ⟨h, hh, eh⟩ := winners_am (by omega) n6 hv (k := (3 : Int)) (by omega)
  have g2 : pk_good_m [0, 0] = some true := by rw [good_at]; rfl
  unfold pk_RulesLoser_m
  rw [winners_t, Option.bind_some, if_neg (by decide), tallies_t, Option.bind_some]
  simp only [Bool.not_true, bindR, Bool.false_eq_true, if_false]
  rw [within_at x0 5 (by decide) (by decide), Option.bind_some, hn, ev, Option.bind_some, turned_ok n6 hv, Option.bind_some, eb, Option.bind_some]
  rcases hB with ⟨a, ha, rfl, rfl, hB⟩ | ⟨rfl, rfl, _⟩
  · have hl : ∀ y, y < n → y ≠ a → duel v a y < duel v y a := fun y hy hya => by
      have := hB y hy hya
      rwa [turn_duel hv.2 hy ha, turn_duel hv.2 ha hy] at this
    rcases hg with ⟨e, _⟩ | ⟨_, hg⟩ | ⟨e, _⟩ | ⟨e, _⟩ <;> try omega
    rcases hh with ⟨e, _⟩ | ⟨e, _⟩ | ⟨_, hh⟩ | ⟨e, _⟩ <;> try omega
    have m1 : (a : Int) ∉ (am g n).map fun (i : Nat) => (i : Int) := fun hm => by
      obtain ⟨i, hi, e⟩ := List.mem_map.1 hm
      have : i = a := by omega
      subst this
      rw [hg] at hi
      exact loser_pts n2 hv.2 ha hl (am_mem.1 hi).2
    have m2 : (a : Int) ∉ (am h n).map fun (i : Nat) => (i : Int) := fun hm => by
      obtain ⟨i, hi, e⟩ := List.mem_map.1 hm
      have : i = a := by omega
      subst this
      rw [hh] at hi
      exact loser_cope n2 ha hl (am_mem.1 hi).2
    simp only [bne_self_eq_false, Bool.false_eq_true, if_false, eg, eh, Option.bind_some, g2, if_true, contains_ok, decide_eq_false m1, decide_eq_false m2, Bool.not_false]
  · rfl
end Go.Pu
