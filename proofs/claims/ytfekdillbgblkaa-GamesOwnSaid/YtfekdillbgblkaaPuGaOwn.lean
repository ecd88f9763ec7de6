/- The plain law: what is made of tables, games, rows and roads is nobody else's. -/
import Derived.Test.YtfekdillbgblkaaWGamesOwnModels
import Derived.Test.YtfekdillbgblkaaPuOwn
import Derived.Test.YtfekdillbgblkaaPuEqu
import Derived.Test.YtfekdillbgblkaaPuSTurned
import Derived.Test.YtfekdillbgblkaaPuWorth
import Derived.Test.YtfekdillbgblkaaPuRRest
set_option linter.all false
namespace Go.Pu
open Go.Fw Go.Mo
theorem worth_any (x0 : Int) (l : List Int) : Ok (worth_Check_m x0 l) (fun e => e = 0 → ∃ (n : Nat) (v : Nat → Int), x0 = (n : Int) ∧ Game n l v) := by
  unfold worth_Check_m
  by_cases h1 : x0 < 1
  · rw [if_pos (by simpa using h1), ok_bindR, ok_some, flok_nx, if_pos rfl, ok_some]; intro h; exact absurd h (by decide)
  rw [if_neg (by simpa using h1), ok_bindR, ok_some, flok_nx]
  by_cases h6 : x0 > 6
  · rw [if_pos (by simpa using h6), ok_some]; intro h; exact absurd h (by decide)
  rw [if_neg (by simpa using h6), chk_t (by omega), Option.bind_some]
  obtain ⟨n, rfl⟩ : ∃ n : Nat, x0 = (n : Int) := ⟨x0.toNat, by omega⟩
  have hp0 := pow_pos' n
  rw [pow_ok n (by omega)]
  by_cases hl : (l.length : Int) = ((2 ^ n : Nat) : Int)
  · rw [if_neg (by rw [bne_iff_ne]; omega), ok_bindR]
    refine ok_rangeL (fun k _ => ∀ i, i < k → -1000000 ≤ nth l i ∧ nth l i ≤ 1000000) (fun i hi => by omega) (fun k x s hk hI => ?_) fun s hs => ?_
    · obtain ⟨hx, hkl⟩ := nth_of hk
      unfold worth_Check_b1
      by_cases c1 : x < -1000000
      · rw [if_pos (by simpa using c1), ok_bindF, ok_some, flok_nx, if_pos rfl, ok_some, flok_rt]; intro h; exact absurd h (by decide)
      · rw [if_neg (by simpa using c1), ok_bindF, ok_some, flok_nx]
        by_cases c2 : x > 1000000
        · rw [if_pos (by simpa using c2), ok_some, flok_rt]; intro h; exact absurd h (by decide)
        · rw [if_neg (by simpa using c2), ok_some, flok_nx]
          intro i hi
          by_cases e : i = k
          · subst e; rw [hx]; omega
          · exact hI i (by omega)
    · have hlen : l.length = 2 ^ n := by omega
      have e0 : idx l (0 : Int) = some (nth l 0) := by rw [show (0 : Int) = ((0 : Nat) : Int) from rfl, idx_nat, nth_at (by omega)]
      rw [e0, Option.bind_some]
      by_cases hz : nth l 0 = 0
      · rw [if_neg (by simpa using hz), ok_some]
        exact fun _ => ⟨n, nth l, rfl, by omega, by omega, ⟨hlen, fun i hi => rfl⟩, fun s hs' => hs s (by omega), hz⟩
      · rw [if_pos (by simpa using hz), ok_some]; intro h; exact absurd h (by decide)
  · rw [if_pos (by rw [bne_iff_ne]; exact hl), ok_some]; intro h; exact absurd h (by decide)
theorem share_any (x0 : Int) (l : List Int) : ∃ a e, worth_Share_m x0 l = some (a, e) ∧ a.length ≤ 1048576 := by
  obtain ⟨e, h1, h2⟩ := worth_any x0 l
  by_cases he : e = 0
  · obtain ⟨n, v, rfl, hg⟩ := h2 he
    obtain ⟨a, ha, hv⟩ := worth_share hg
    have := hg.n6
    exact ⟨a, 0, ha, by rw [hv.len]; omega⟩
  · refine ⟨[], e, ?_, Nat.zero_le _⟩
    unfold worth_Share_m; rw [h1, Option.bind_some, if_pos (by simpa using he)]
theorem turned_any (m : List (List Int)) : ∃ t e, saddle_Turned_m m = some (t, e) := by
  rcases sad_split m with ⟨r, c, f, h⟩ | ⟨e, he, hc⟩
  · obtain ⟨t, ht, _⟩ := turned_sad h
    exact ⟨t, 0, ht⟩
  · refine ⟨[], e, ?_⟩
    unfold saddle_Turned_m; rw [hc, Option.bind_some, if_pos (by simpa using he)]
theorem left_any (a b : List (List Int)) : ∃ x y e, equil_Left_m a b = some (x, y, e) := by
  rcases eq_split a b with ⟨r, c, f, g, ha, hb⟩ | ⟨e, he, hc⟩
  · obtain ⟨R, C, e, _⟩ := left_ok ha hb
    exact ⟨_, _, _, e⟩
  · exact ⟨_, _, _, left_no he hc⟩
theorem roads_any (l : List (List Int)) (who : List Int) (h0 : l.length ≤ 5864062014634) (h1 : who.length ≤ 17592186043904) : (∃ a s e, roads_Settle_m l who = some (a, s, e)) ∧ ∃ a e, roads_Costs_m l who = some (a, e) := by
  obtain ⟨c, ec, hc⟩ := rchk_ok l who (by omega) (by omega)
  by_cases c0 : c = 0
  · have hr := hc.1 c0
    obtain ⟨a, s, e1, _⟩ := settle_ok hr
    obtain ⟨b, e2, _⟩ := costs_ok hr
    exact ⟨⟨_, _, _, e1⟩, _, _, e2⟩
  · refine ⟨⟨[], 0, c, ?_⟩, _, _, costs_bad ec c0⟩
    unfold roads_Settle_m; rw [ec, Option.bind_some, if_pos (by simpa using c0)]
theorem GamesOwn (x0 : List (List Int)) (h0 : (∀ r ∈ x0, (∀ x ∈ r, (Lit.int .i64 x).wf = true) ∧ r.length ≤ maxLen) ∧ x0.length ≤ maxLen) (b0 : x0.length ≤ 5864062014634 ∧ ∀ r ∈ x0, r.length ≤ 17592186043904) (x1 : Int) (_ : (Lit.int .i64 x1).wf = true) (x2 : List Int) (h2 : (∀ x ∈ x2, (Lit.int .i64 x).wf = true) ∧ x2.length ≤ maxLen) (b2 : x2.length ≤ 17592186043904)
    (x3 : List (List Int)) {P : Prop} (_ : P) (b3 : x3.length ≤ 5864062014634) (x4 : List Int) (h4 : (∀ x ∈ x4, (Lit.int .i64 x).wf = true) ∧ x4.length ≤ maxLen) (b4 : x4.length ≤ 17592186043904) : pk_GamesOwn_m x0 x1 x2 x3 x4 = some true := by
  obtain ⟨t, te, et⟩ := turned_any x0
  obtain ⟨a, b, c, el⟩ := left_any x0 x0
  obtain ⟨s, e, es, hs⟩ := share_any x1 x2
  obtain ⟨⟨w, ws, we, ew⟩, k, ke, ek⟩ := roads_any x3 x4 b3 b4
  unfold pk_GamesOwn_m
  rw [saddles_t, Option.bind_some, if_neg (by decide), worths_t, Option.bind_some, if_neg (by decide), crowds_t, Option.bind_some, if_neg (by decide), equils_t, Option.bind_some]
  simp only [bindR, Bool.not_true, Bool.false_eq_true, if_false]
  rw [copied_ok b0, Option.bind_some, clone_intB (by omega), Option.bind_some, clone_intB (by omega), Option.bind_some, et, Option.bind_some]
  rw [show rangeN (γ := Unit) pk_GamesOwn_b1 (t, te).1.length 0 (t, te).1 = _ from spoil_rows (b := pk_GamesOwn_b1) (fun _ => -7) (fun i l => rfl) t]
  dsimp only
  rw [el, Option.bind_some, spoil_ok, Option.bind_some, es, Option.bind_some, spoil_ok, Option.bind_some, ew, Option.bind_some, spoil_ok, Option.bind_some, ek, Option.bind_some, spoil_ok, Option.bind_some, Option.bind_some, clone_int (by dsimp only; omega), Option.bind_some, spoil_ok, Option.bind_some, Option.bind_some]
  simp only [sameRows_ok, equal_ok, Option.bind_some, if_true, beq_self_eq_true, decide_true]
end Go.Pu
