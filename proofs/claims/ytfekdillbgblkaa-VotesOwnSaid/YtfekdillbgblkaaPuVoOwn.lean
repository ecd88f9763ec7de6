/- The plain law: what is made of orders, votes and duels is nobody else's. -/
import Derived.Test.YtfekdillbgblkaaWVotesOwnModels
import Derived.Test.YtfekdillbgblkaaPuOwn
import Derived.Test.YtfekdillbgblkaaPuDuels
import Derived.Test.YtfekdillbgblkaaPuSums
import Derived.Test.YtfekdillbgblkaaPuORaise
import Derived.Test.YtfekdillbgblkaaPuRename
import Derived.Test.YtfekdillbgblkaaPuRounds
import Derived.Test.YtfekdillbgblkaaPuRNames
import Derived.Test.YtfekdillbgblkaaPuRMay
import Derived.Test.YtfekdillbgblkaaPuOrdAny
import Derived.Test.YtfekdillbgblkaaPuFar
import Derived.Test.YtfekdillbgblkaaPuBeater
set_option linter.all false
namespace Go.Pu
open Go.Fw Go.Mo
theorem votes_any (x0 : Int) (v : List (List Int)) : Ok (tally_Check_m x0 v) (fun e => e = 0 → ∃ n : Nat, x0 = (n : Int) ∧ 1 ≤ n ∧ n ≤ 6 ∧ Votes n v) := by
  unfold tally_Check_m
  by_cases h1 : x0 < 1
  · rw [if_pos (by simpa using h1), ok_bindR, ok_some, flok_nx, if_pos rfl, ok_some]; intro h; exact absurd h (by decide)
  rw [if_neg (by simpa using h1), ok_bindR, ok_some, flok_nx]
  by_cases h6 : x0 > 6
  · rw [if_pos (by simpa using h6), ok_some]; intro h; exact absurd h (by decide)
  rw [if_neg (by simpa using h6)]
  by_cases h3 : (v.length : Int) > 30
  · rw [if_pos (by simpa using h3), ok_some]; intro h; exact absurd h (by decide)
  rw [if_neg (by simpa using h3), ok_bindR]
  obtain ⟨n, rfl⟩ : ∃ n : Nat, x0 = (n : Int) := ⟨x0.toNat, by omega⟩
  refine ok_rangeL (fun k _ => ∀ p ∈ v.take k, Ord n p) (by simp) (fun k p s hk hI => ?_) fun s hs => ?_
  · have htk : v.take (k + 1) = v.take k ++ [p] := by rw [List.take_succ, hk]; rfl
    unfold tally_Check_b1
    obtain ⟨e, he, ho⟩ := order_any n p
    rw [he, Option.bind_some]
    by_cases e0 : e = 0
    · rw [if_neg (by simpa using e0), ok_some, flok_nx, htk]
      intro q hq
      rcases List.mem_append.1 hq with hq | hq
      · exact hI q hq
      · rw [List.mem_singleton] at hq; subst hq
        obtain ⟨m, hm, _, _, h⟩ := ho e0
        have : m = n := by omega
        subst this; exact h
    · rw [if_pos (by simpa using e0), ok_some, flok_rt]; intro h; exact absurd h (by decide)
  · rw [List.take_length] at hs
    rw [ok_some]
    exact fun _ => ⟨n, rfl, by omega, by omega, by omega, hs⟩
theorem raise_any (p : List Int) (x : Int) : ∃ a e, order_Raise_m p x = some (a, e) := by
  obtain ⟨c, hc, ho⟩ := order_any p.length p
  by_cases c0 : c = 0
  · obtain ⟨n, hn, n1, n6, hp⟩ := ho c0
    have hl := hp.len
    by_cases hx : 0 ≤ x ∧ x < n
    · obtain ⟨k, rfl⟩ : ∃ k : Nat, x = (k : Int) := ⟨x.toNat, by omega⟩
      rw [raise_ok n1 n6 hp (by omega)]
      split
      · exact ⟨_, _, rfl⟩
      · exact ⟨_, _, rfl⟩
    · have hm : x ∉ p := fun h => hx ((hp.mem x).1 h)
      refine ⟨[], 4, ?_⟩
      unfold order_Raise_m order_Place_m
      rw [hc, Option.bind_some, if_neg (by simpa using c0), index_ok, Option.bind_some, if_neg hm, if_neg (by simp)]
      rfl
  · refine ⟨[], c, ?_⟩
    unfold order_Raise_m order_Place_m
    rw [hc, Option.bind_some, if_pos (by simpa using c0), Option.bind_some]
    dsimp only
    rw [if_pos (by simpa using c0)]
theorem duels_any (x0 : Int) (v : List (List Int)) : (∃ c, c ≠ 0 ∧ tally_Duels_m x0 v = some ([], c) ∧ tally_Firsts_m x0 v = some ([], c)) ∨ ∃ n : Nat, x0 = (n : Int) ∧ 1 ≤ n ∧ n ≤ 6 ∧ Votes n v := by
  obtain ⟨c, hc, ho⟩ := votes_any x0 v
  by_cases c0 : c = 0
  · exact .inr (ho c0)
  · left
    refine ⟨c, c0, ?_, ?_⟩
    · unfold tally_Duels_m; rw [hc, Option.bind_some, if_pos (by simpa using c0)]
    · unfold tally_Firsts_m; rw [hc, Option.bind_some, if_pos (by simpa using c0)]
theorem winners_any {n : Nat} (n1 : 1 ≤ n) (n6 : n ≤ 6) {v : List (List Int)} (hv : Votes n v) {k : Int} (h1 : 1 ≤ k) (h5 : k ≤ 5) : ∃ w, rules_Winners_m k (n : Int) v = some (w, 0) := by
  by_cases e : k = 5
  · subst e
    have := winners5 n1 n6 hv
    obtain ⟨x, hx, _⟩ := rounds_ok n1 n6 hv
    rw [hx] at this
    exact ⟨_, this⟩
  · obtain ⟨g, _, h⟩ := winners_am n1 n6 hv (k := k) (by omega)
    exact ⟨_, h⟩
theorem winners_bad {x0 k c : Int} {v : List (List Int)} (h1 : 1 ≤ k) (h5 : k ≤ 5) (c0 : c ≠ 0) (h : tally_Duels_m x0 v = some ([], c)) : rules_Winners_m k x0 v = some ([], c) := by
  unfold rules_Winners_m
  rw [if_neg (by simp; omega)]
  simp only [bindR]
  rw [decide_eq_false (by omega)]
  simp only [Bool.false_eq_true, if_false]
  rw [h, Option.bind_some]
  dsimp only
  rw [if_pos (by simpa using c0)]
theorem mcg_any (x0 : Int) (l : List (List Int)) (h : l.length ≤ 5864062014634) : ∃ a e, duel_Votes_m x0 l = some (a, e) := by
  have : Ok (duel_Votes_m x0 l) (fun _ => True) := by
    unfold duel_Votes_m
    by_cases h1 : x0 < 1
    · rw [if_pos (by simpa using h1), ok_bindR, ok_some, flok_nx, if_pos rfl, ok_some]; trivial
    rw [if_neg (by simpa using h1), ok_bindR, ok_some, flok_nx]
    by_cases h6 : x0 > 6
    · rw [if_pos (by simpa using h6), ok_some]; trivial
    rw [if_neg (by simpa using h6), wmul_of (by omega) (by omega)]
    by_cases h3 : 2 * (l.length : Int) > 30
    · rw [if_pos (by simpa using h3), ok_some]; trivial
    rw [if_neg (by simpa using h3), ok_bindR]
    obtain ⟨n, rfl⟩ : ∃ n : Nat, x0 = (n : Int) := ⟨x0.toNat, by omega⟩
    refine ok_rangeL (fun k (s : List (List Int)) => s.length = 2 * k) rfl (fun k y s hk hI => ?_) fun s _ => by rw [ok_some]; trivial
    have hkl := (List.getElem?_eq_some_iff.1 hk).1
    unfold duel_Votes_b1
    by_cases hy : (y.length : Int) = 2
    · have i0 : idx y (0 : Int) = some (nth y 0) := by rw [show (0 : Int) = ((0 : Nat) : Int) from rfl, idx_nat, nth_at (by omega)]
      have i1 : idx y (1 : Int) = some (nth y 1) := by rw [show (1 : Int) = ((1 : Nat) : Int) from rfl, idx_nat, nth_at (by omega)]
      have inner : Ok (rangeN (ρ := (List (List Int)) × Int) (γ := (List (List Int))) (duel_Votes_b2 y) n 0 (([nth y 0, nth y 1] : (List Int)), [])) (FlOk (fun s : List Int × List Int => s.1.length ≤ 2 + n ∧ s.2.length ≤ n) (fun _ => False) (fun _ => False)) := by
        refine ok_rangeN (fun k (s : List Int × List Int) => s.1.length ≤ 2 + k ∧ s.2.length ≤ k) ⟨Nat.le_refl _, Nat.le_refl _⟩ (fun j t hj hJ => ?_) fun t ht => ht
        obtain ⟨a, b⟩ := t
        obtain ⟨j1, j2⟩ := hJ
        dsimp only at j1 j2
        unfold duel_Votes_b2
        dsimp only
        have fin : ∀ b' : Bool, Ok (if b' then (chk (a.length + (([(j : Int)] : (List Int))).length ≤ 68719476736)).bind fun _ => (chk ((([(j : Int)] : (List Int))).length + b.length ≤ 68719476736)).bind fun _ => some (Fl.nx ((a ++ ([(j : Int)] : (List Int))), (([(j : Int)] : (List Int)) ++ b))) else some (Fl.nx (a, b))) (FlOk (fun s : List Int × List Int => s.1.length ≤ 2 + (j + 1) ∧ s.2.length ≤ j + 1) (fun _ : List Int × List Int => False) (fun _ : List (List Int) × Int => False)) := by
          intro b'
          cases b' with
          | true => rw [if_pos rfl, chk_t (by simp only [List.length_cons, List.length_nil]; omega), Option.bind_some, chk_t (by simp only [List.length_cons, List.length_nil]; omega), Option.bind_some, ok_some, flok_nx]; simp only [List.length_append, List.length_cons, List.length_nil]; omega
          | false => rw [if_neg (by decide), ok_some, flok_nx]; dsimp only; omega
        rw [ok_bindF]
        simp only [i0, i1, Option.bind_some]
        by_cases c : ((j : Int) != nth y 0) = true
        · rw [if_pos c, ok_some, flok_nx]; exact (fin _).mono fun z hz => by cases z with | nx _ => exact hz | br _ => exact hz.elim | rt _ => exact hz.elim
        · rw [if_neg c, ok_some, flok_nx]; exact (fin _).mono fun z hz => by cases z with | nx _ => exact hz | br _ => exact hz.elim | rt _ => exact hz.elim
      obtain ⟨z, ez, hz⟩ := inner
      rw [if_neg (by rw [bne_iff_ne]; omega), ok_bindF]
      simp only [i0, i1, Option.bind_some, Int.toNat_natCast]
      rw [ez]
      cases z with
      | br _ => exact hz.elim
      | rt _ => exact hz.elim
      | nx t =>
        obtain ⟨a, b⟩ := t
        obtain ⟨j1, j2⟩ := hz
        dsimp only at j1 j2
        simp only [bindF]
        rw [chk_t (show (n : Int) ≤ 9223372036854775807 by omega), chk_t (show b.length + [nth y 0, nth y 1].length ≤ 68719476736 by simp only [List.length_cons, List.length_nil]; omega), chk_t (show s.length + [a, b ++ [nth y 0, nth y 1]].length ≤ 68719476736 by simp only [List.length_cons, List.length_nil]; omega)]
        simp only [Option.bind_some]
        have go : ∀ (B : List (List Int) → Prop) (x : Bool), Ok (if x = true then some (Fl.rt (([] : List (List Int)), (3 : Int))) else some (Fl.nx (s ++ [a, b ++ [nth y 0, nth y 1]]))) (FlOk (fun s : List (List Int) => s.length = 2 * (k + 1)) B (fun _ => True)) := by
          intro B x
          cases x with
          | true => rw [if_pos rfl, ok_some, flok_rt]; trivial
          | false => rw [if_neg (by decide), ok_some, flok_nx, List.length_append, hI]; simp only [List.length_cons, List.length_nil]; omega
        split
        · rw [ok_some, flok_nx]; exact go _ _
        split
        · rw [ok_some, flok_nx]; exact go _ _
        split
        · rw [ok_some, flok_nx]; exact go _ _
        split
        · rw [ok_some, flok_nx]; exact go _ _
        · rw [ok_some, flok_nx]; exact go _ _
    · rw [if_pos (by rw [bne_iff_ne]; exact hy), ok_bindF, ok_some, flok_nx, if_pos rfl, ok_some, flok_rt]; trivial
  obtain ⟨⟨a, e⟩, h, _⟩ := this
  exact ⟨a, e, h⟩
theorem noRow {l : List (List Int)} {g : List Int → Option Bool} (h : ∀ r ∈ l, g r = some false) : slices_ContainsFunc_rows_m l g = some false := by
  apply Ok.eq
  unfold slices_ContainsFunc_rows_m slices_IndexFunc_rows_m
  rw [ok_bind, ok_bindR]
  refine ok_rangeL (fun _ _ => True) trivial (fun k r s hk _ => ?_) fun s _ => by rw [ok_some, ok_some]; rfl
  unfold slices_IndexFunc_rows_b1
  rw [h r (List.mem_of_getElem? hk), Option.bind_some, if_neg (by decide), ok_some, flok_nx]
  trivial
theorem duels_t : pk_duels_m = some true := by decide +kernel
theorem VotesOwn (x0 : Int) (_ : (Lit.int .i64 x0).wf = true) (x1 : List Int) (h1 : (∀ x ∈ x1, (Lit.int .i64 x).wf = true) ∧ x1.length ≤ maxLen) (b1 : x1.length ≤ 17592186043904) (x2 : List (List Int)) (h2 : (∀ r ∈ x2, (∀ x ∈ r, (Lit.int .i64 x).wf = true) ∧ r.length ≤ maxLen) ∧ x2.length ≤ maxLen) (b2 : x2.length ≤ 5864062014634 ∧ ∀ r ∈ x2, r.length ≤ 17592186043904)
    (x3 : Int) (_ : (Lit.int .i64 x3).wf = true) : pk_VotesOwn_m x0 x1 x2 x3 = some true := by
  obtain ⟨a, ae, ea⟩ := raise_any x1 x3
  obtain ⟨u, ue, eu⟩ := mcg_any x0 x2 b2.1
  have k0 := Int.emod_nonneg x3 (b := 5) (by decide)
  have k1 := Int.emod_lt_of_pos x3 (b := 5) (by decide)
  have key : ∃ m c f fe w we, tally_Duels_m x0 x2 = some (m, c) ∧ tally_Firsts_m x0 x2 = some (f, fe) ∧ rules_Winners_m (1 + x3 % 5) x0 x2 = some (w, we) ∧ ∀ r ∈ m, (-7 : Int) ∉ r := by
    rcases duels_any x0 x2 with ⟨c, c0, e1, e2⟩ | ⟨n, rfl, n1, n6, hv⟩
    · exact ⟨[], c, [], c, [], c, e1, e2, winners_bad (by omega) (by omega) c0 e1, by simp⟩
    · obtain ⟨m, e1, hm⟩ := duels_ok n1 n6 hv
      obtain ⟨f, e2, _⟩ := firsts_ok n1 n6 hv
      obtain ⟨w, e3⟩ := winners_any n1 n6 hv (k := 1 + x3 % 5) (by omega) (by omega)
      refine ⟨m, 0, f, 0, w, 0, e1, e2, e3, fun r hr h7 => ?_⟩
      obtain ⟨i, hi, rfl⟩ := mem_nth hr
      obtain ⟨j, hj, e⟩ := mem_nth h7
      rw [hm.len] at hi
      rw [hm.row i hi] at hj
      rw [hm.at_ i j hi hj] at e
      have := (duel_bound x2 i j).1
      omega
  obtain ⟨m, c, f, fe, w, we, e1, e2, e3, hm⟩ := key
  unfold pk_VotesOwn_m
  rw [orders_t, Option.bind_some, if_neg (by decide), tallies_t, Option.bind_some, if_neg (by decide), duels_t, Option.bind_some, if_neg (by decide), winners_t, Option.bind_some]
  simp only [bindR, Bool.not_true, Bool.false_eq_true, if_false]
  rw [clone_intB (by omega), Option.bind_some, copied_ok b2, Option.bind_some, ea, Option.bind_some, spoil_ok, Option.bind_some, e1, Option.bind_some]
  rw [show rangeN (γ := Unit) pk_VotesOwn_b1 (m, c).1.length 0 (m, c).1 = _ from spoil_rows (b := pk_VotesOwn_b1) (fun _ => -7) (fun i l => rfl) m]
  dsimp only
  rw [e2, Option.bind_some, spoil_ok, Option.bind_some, within_at x3 5 (by decide) (by decide), Option.bind_some, wadd_of (by omega) (by omega), e3, Option.bind_some, spoil_ok, Option.bind_some, eu, Option.bind_some]
  rw [show rangeN (γ := Unit) pk_VotesOwn_b2 (u, ue).1.length 0 (u, ue).1 = _ from spoil_rows (b := pk_VotesOwn_b2) (fun _ => -7) (fun i l => rfl) u]
  dsimp only
  rw [Option.bind_some]
  simp only [sameRows_ok, equal_ok, Option.bind_some, if_true, beq_self_eq_true, decide_true]
  rw [noRow (fun r hr => by unfold pk_VotesOwn_1_m; rw [contains_ok, Option.bind_some, decide_eq_false (hm r hr)])]
  rfl
end Go.Pu
