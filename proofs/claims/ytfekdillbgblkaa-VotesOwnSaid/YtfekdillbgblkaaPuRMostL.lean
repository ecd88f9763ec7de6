/- The plain law: who is first for more than half is the one winner, by four of the rules. -/
import Derived.Test.YtfekdillbgblkaaWVotesOwnModels
import Derived.Test.YtfekdillbgblkaaPuRounds
set_option linter.all false
namespace Go.Pu
open Go.Fw Go.Mo
/-- of some there is a best -/
theorem best_some {l : List Int} (hl : l.length ≤ 100) (h0 : 1 ≤ l.length) : ∃ s, rules_best_m l = some s ∧ 0 < s.length := by
  have : Ok (rules_best_m l) (fun s => 0 < s.length) := by
    unfold rules_best_m
    rw [ok_bindR]
    refine ok_rangeL (fun k (s : List Int) => s.length ≤ k ∧ (∀ x ∈ s, 0 ≤ x ∧ x < (k : Int)) ∧ (0 < k → 0 < s.length)) ⟨by simp, by simp, fun h => by omega⟩ (fun k y s hk hI => ?_) fun s hs => by rw [ok_some]; exact hs.2.2 (by omega)
    obtain ⟨hy, hkl⟩ := nth_of hk
    obtain ⟨i1, i2, i3⟩ := hI
    unfold rules_best_b1
    have reset : Ok (if decide (((s).length : Int) > (0 : Int)) then (idx s (0 : Int)).bind fun y122 => (idx l y122).bind fun y124 => some (.nx (decide (y > y124))) else some (.nx false) : Option (Fl (List Int) (List Int) Bool)) (FlOk (fun b => True) (fun _ => False) (fun _ => False)) := by
      by_cases hs : s.length > 0
      · have hm := i2 _ (nth_mem (l := s) (k := 0) hs)
        obtain ⟨z, hz⟩ : ∃ z : Nat, nth s 0 = (z : Int) := ⟨(nth s 0).toNat, by omega⟩
        rw [if_pos (by simpa using hs), show (0 : Int) = ((0 : Nat) : Int) from rfl, idx_nat, nth_at hs, Option.bind_some, hz, idx_nat, nth_at (by omega), Option.bind_some, ok_some, flok_nx]
        trivial
      · rw [if_neg (by simpa using hs), ok_some, flok_nx]
        trivial
    rw [ok_bindF]
    refine reset.mono fun b hb => ?_
    cases b with
    | br _ => exact hb.elim
    | rt _ => exact hb.elim
    | nx b =>
      rw [flok_nx, ok_bindF]
      have mid : ∀ t : List Int, t.length ≤ k → (∀ x ∈ t, 0 ≤ x ∧ x < (k : Int)) → Ok (bindF (ρ := (List Int)) (β := (List Int)) (σ := Bool) (if ((t).length : Int) == (0 : Int) then some (.nx true) else (idx t (0 : Int)).bind fun y161 => (idx l y161).bind fun y163 => some (.nx (y == y163))) fun x152 => (if x152 then (chk ((t).length + (([(k : Int)] : (List Int))).length ≤ 68719476736)).bind fun _ => some (.nx (t ++ ([(k : Int)] : (List Int)))) else some (.nx t)) : Option (Fl (List Int) (List Int) (List Int))) (FlOk (fun s => s.length ≤ k + 1 ∧ (∀ x ∈ s, 0 ≤ x ∧ x < ((k + 1 : Nat) : Int)) ∧ (0 < k + 1 → 0 < s.length)) (fun _ => False) (fun _ => False)) := fun t t1 t2 => by
        have app : (t ++ [(k : Int)]).length ≤ k + 1 ∧ (∀ x ∈ t ++ [(k : Int)], 0 ≤ x ∧ x < ((k + 1 : Nat) : Int)) ∧ (0 < k + 1 → 0 < (t ++ [(k : Int)]).length) := ⟨by simp; omega, fun x hx => by
          rcases List.mem_append.1 hx with hx | hx
          · have := t2 x hx; omega
          · simp at hx; omega, fun _ => by simp⟩
        rw [ok_bindF]
        by_cases ht : t.length = 0
        · rw [if_pos (by simpa using ht), ok_some, flok_nx, if_pos rfl, chk_t (by simp; omega), Option.bind_some, ok_some, flok_nx]
          exact app
        · have hm := t2 _ (nth_mem (l := t) (k := 0) (by omega))
          obtain ⟨z, hz⟩ : ∃ z : Nat, nth t 0 = (z : Int) := ⟨(nth t 0).toNat, by omega⟩
          rw [if_neg (by simpa using ht), show (0 : Int) = ((0 : Nat) : Int) from rfl, idx_nat, nth_at (show 0 < t.length by omega), Option.bind_some, hz, idx_nat, nth_at (by omega), Option.bind_some, ok_some, flok_nx, ok_ite]
          refine ⟨fun _ => ?_, fun _ => ?_⟩
          · rw [chk_t (by simp; omega), Option.bind_some, ok_some, flok_nx]; exact app
          · rw [ok_some, flok_nx]
            exact ⟨by omega, fun x hx => by have := t2 x hx; omega, fun _ => by omega⟩
      cases b with
      | true =>
        rw [if_pos rfl, ok_some, flok_nx]
        exact (mid [] (by simp) (by simp)).mono fun v hv => by
          cases v with
          | br _ => exact hv.elim
          | rt _ => exact hv.elim
          | nx v => exact hv
      | false =>
        rw [if_neg (by decide), ok_some, flok_nx]
        exact (mid s i1 i2).mono fun v hv => by
          cases v with
          | br _ => exact hv.elim
          | rt _ => exact hv.elim
          | nx v => exact hv
  exact this
/-- best of a list by a function -/
theorem best_vec {n : Nat} (h1 : 1 ≤ n) (h6 : n ≤ 6) {a : List Int} {g : Nat → Int} (ha : Vec n a g) : ∃ s, rules_best_m a = some s ∧ 0 < s.length ∧ ∀ i, i < n → (∀ j, j < n → j ≠ i → g j < g i) → s = [(i : Int)] := by
  obtain ⟨s, es, hs⟩ := best_some (l := a) (by rw [ha.len]; omega) (by rw [ha.len]; omega)
  refine ⟨s, es, hs, fun i hi h => ?_⟩
  have := best_one (l := a) (by rw [ha.len]; omega) (by rw [ha.len]; exact hi) fun j hj hne => by
    rw [ha.len] at hj
    rw [ha.at_ j hj, ha.at_ i hi]; exact h j hj hne
  rw [es] at this
  exact Option.some.inj this
def Maj (n : Nat) (v : List (List Int)) (w : List Int) : Prop := 0 < w.length ∧ ∀ i, i < n → (v.length : Int) < 2 * fst1 v i → w = [(i : Int)]
theorem fst_lt {n : Nat} (h1 : 1 ≤ n) {v : List (List Int)} (hv : ∀ p ∈ v, Ord n p) {i : Nat} (hi : i < n) (hm : (v.length : Int) < 2 * fst1 v i) : ∀ j, j < n → j ≠ i → fst1 v j < fst1 v i := fun j hj hne => by
  have h := sumN_two (n := n) (f := fst1 v) (fun x _ => (fst1_bound v x).1) hi hj (Ne.symm hne)
  rw [fst1_sum h1 hv] at h
  omega
theorem beats {n : Nat} {v : List (List Int)} (hv : ∀ p ∈ v, Ord n p) {i : Nat} (hi : i < n) (hm : (v.length : Int) < 2 * fst1 v i) : ∀ j, j < n → j ≠ i → duel v j i < duel v i j := fun j hj hne => by
  have h1 := fst_duel hv hi hj (Ne.symm hne)
  have h2 := duel_sum hv hi hj (Ne.symm hne)
  omega
theorem winners_maj {n : Nat} (h1 : 1 ≤ n) (h6 : n ≤ 6) {v : List (List Int)} (hv : Votes n v) {k : Int} (hk : k = 1 ∨ k = 3 ∨ k = 4 ∨ k = 5) : ∃ w, rules_Winners_m k (n : Int) v = some (w, 0) ∧ Maj n v w := by
  obtain ⟨m, em, hM⟩ := duels_ok h1 h6 hv
  have t := tabV h1 h6 hv hM
  have g : (if decide (k < (1 : Int)) then some (Fl.nx true) else some (Fl.nx (decide (k > (5 : Int))))) = (some (Fl.nx false) : Option (Fl (List Int × Int) Unit Bool)) := by
    rw [if_neg (by simp; omega)]; simp; omega
  unfold rules_Winners_m
  rw [g, bindR, if_neg (by decide), em, Option.bind_some, if_neg (by simp)]
  rcases hk with e | e | e | e <;> subst e
  · obtain ⟨a, ea, ha⟩ := firsts_ok h1 h6 hv
    obtain ⟨s, es, s0, hs⟩ := best_vec h1 h6 ha
    rw [if_pos (by decide), ea, Option.bind_some, es]
    exact ⟨s, rfl, s0, fun i hi hm => hs i hi (fst_lt h1 hv.2 hi hm)⟩
  · obtain ⟨w, ew, hw⟩ := wins_ok t
    obtain ⟨s, es, s0, hs⟩ := best_vec h1 h6 hw
    rw [if_neg (by decide), if_neg (by decide), if_pos (by decide), ew, Option.bind_some, es]
    refine ⟨s, rfl, s0, fun i hi hm => hs i hi fun x hx hne => ?_⟩
    have hb := beats hv.2 hi hm
    have hle : sumN n (fun y => sgn (duel v x y) (duel v y x) + if y = i then 1 else 0) ≤ sumN n (fun y => sgn (duel v i y) (duel v y i)) := sumN_le fun y hy => by
      by_cases e : y = i
      · subst e
        have := hb x hx hne
        have e1 : sgn (duel v x y) (duel v y x) = -1 := by unfold sgn; rw [if_neg (by omega), if_pos (by omega)]
        have e2 : sgn (duel v y y) (duel v y y) = 0 := by unfold sgn; rw [if_neg (by omega), if_neg (by omega)]
        rw [e1, e2, if_pos rfl]; omega
      · have := hb y hy e
        have e1 : sgn (duel v i y) (duel v y i) = 1 := by unfold sgn; rw [if_pos (by omega)]
        have := sgn_val (duel v x y) (duel v y x)
        rw [e1, if_neg e]; omega
    rw [sumN_add, sumN_single hi] at hle
    unfold cope; omega
  · obtain ⟨w, ew, hwl, hw⟩ := worst_ok t
    have lo : Ok (rangeN (ρ := List Int × Int) (γ := Unit) rules_Winners_b1 w.length 0 w) (FlOk (fun l => Vec n l (fun x => - nth w x)) (fun _ => False) (fun _ => False)) := by
      rw [hwl]
      refine ok_rangeN (fun k (l : List Int) => Vec n l (fun x => if x < k then - nth w x else nth w x)) ((Vec.self hwl).congr fun x _ => by simp) (fun k l hk hI => ?_) fun l hl => hl.congr fun x hx => by rw [if_pos hx]
      have hb := hw k hk
      unfold rules_Winners_b1
      rw [idx_nat, hI.at? hk, Option.bind_some, Option.bind_some, if_neg (by omega), ok_some, flok_nx, wsub_of (by have := hb.1; have := hb.2.1; omega) (by have := hb.1; have := hb.2.1; omega)]
      refine (hI.set hk _).congr fun x hx => ?_
      by_cases e : x = k
      · subst e; rw [if_pos rfl, if_pos (by omega)]; omega
      · rw [if_neg e]
        by_cases c : x < k
        · rw [if_pos c, if_pos (by omega)]
        · rw [if_neg c, if_neg (by omega)]
    obtain ⟨r, er, hr⟩ := lo
    cases r with
    | br _ => exact hr.elim
    | rt _ => exact hr.elim
    | nx l =>
      have hr' : Vec n l (fun x => - nth w x) := hr
      obtain ⟨s, es, s0, hs⟩ := best_vec h1 h6 hr'
      rw [if_neg (by decide), if_neg (by decide), if_neg (by decide), if_pos (by decide), ew, Option.bind_some]
      simp only
      rw [er, bindR, es]
      refine ⟨s, rfl, s0, fun i hi hm => hs i hi fun x hx hne => ?_⟩
      have hb := beats hv.2 hi hm
      have wi := hw i hi
      have wx := hw x hx
      have x1 := wx.2.2.1 i hi
      have := hb x hx hne
      have i0 : nth w i = 0 := by
        rcases wi.2.2.2 with h | ⟨y, hy, h⟩
        · exact h
        · have w0 := wi.1
          by_cases e : y = i
          · subst e; omega
          · have := hb y hy e; omega
      omega
  · obtain ⟨x, ex, hx⟩ := rounds_ok h1 h6 hv
    rw [if_neg (by decide), if_neg (by decide), if_neg (by decide), if_neg (by decide), if_pos (by decide), ex]
    exact ⟨_, rfl, by simp, fun i hi hm => by rw [hx i hi hm]⟩
theorem RulesMost (x0 : Int) (_ : (Lit.int .i64 x0).wf = true) (x1 : Int) (_ : (Lit.int .i64 x1).wf = true) (x2 : List (List Int)) (_ : (∀ r ∈ x2, (∀ x ∈ r, (Lit.int .i64 x).wf = true) ∧ r.length ≤ maxLen) ∧ x2.length ≤ maxLen) : pk_RulesMost_m x0 x1 x2 = some true := by
  obtain ⟨n, n1, n6, hn⟩ := one_within x1 6 (by decide) (by decide)
  rw [show ((6 : Nat) : Int) = 6 from rfl] at hn
  obtain ⟨v, ev, -, hv⟩ := votesOf_ok n x2 n1 n6
  obtain ⟨a, ea, ha⟩ := firsts_ok n1 n6 hv
  have a0 := Int.emod_nonneg x0 (b := 4) (by decide)
  have a1 := Int.emod_lt_of_pos x0 (b := 4) (by decide)
  obtain ⟨k, hk, ek⟩ : ∃ k : Int, (k = 1 ∨ k = 3 ∨ k = 4 ∨ k = 5) ∧ idx ([(1 : Int), (3 : Int), (4 : Int), (5 : Int)] : (List Int)) (x0 % 4) = some k := by
    rcases (show x0 % 4 = 0 ∨ x0 % 4 = 1 ∨ x0 % 4 = 2 ∨ x0 % 4 = 3 by omega) with e | e | e | e <;> rw [e]
    · exact ⟨1, by simp, rfl⟩
    · exact ⟨3, by simp, rfl⟩
    · exact ⟨4, by simp, rfl⟩
    · exact ⟨5, by simp, rfl⟩
  obtain ⟨w, ew, w0, hw⟩ := winners_maj n1 n6 hv hk
  have h30 := hv.1
  apply Ok.eq
  unfold pk_RulesMost_m
  rw [winners_t, Option.bind_some, if_neg (by decide), within_at x0 4 (by decide) (by decide), Option.bind_some, ek, Option.bind_some, within_at x1 6 (by decide) (by decide), Option.bind_some, hn, ev, Option.bind_some, ea, Option.bind_some, ew, Option.bind_some, mgood, Option.bind_some]
  simp only [Bool.not_true, Bool.false_eq_true, if_false, ha.len, bne_self_eq_false]
  rw [ok_bindR, ok_some, flok_nx, if_neg (by decide), ok_bindR]
  refine ok_rangeN (fun _ _ => True) trivial (fun i u hi _ => ?_) fun _ _ => by rw [ok_some]; simpa using w0
  have fb := fst1_bound v i
  unfold pk_RulesMost_b1
  rw [idx_nat, ha.at? hi, Option.bind_some, wmul_of (by omega) (by omega), ok_ite]
  refine ⟨fun hm => ?_, fun _ => by rw [ok_some, flok_nx]; trivial⟩
  have hm : (v.length : Int) < 2 * fst1 v i := by simpa using hm
  rw [equal_ok, Option.bind_some, ok_some, flok_rt, hw i hi hm]
  simp
end Go.Pu
