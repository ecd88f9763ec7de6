/- The plain law: of an odd number of votes along a line to beat goes on over a third side. -/
import Derived.Test.YtfhfoechannphaaWPeakBlackModels
import Derived.Test.YtfhfoechannphaaPuPkAl
import Derived.Test.YtfhfoechannphaaPuWide
import Derived.Test.YtfhfoechannphaaPuBeater
import Derived.Test.YtfhfoechannphaaPuGood
set_option linter.all false
namespace Go.Pu
open Go.Fw Go.Mo
theorem peaks_y : pk_peaks_m = some true := by decide +kernel
/-- votes that all stand along one line -/
structure AlongV (n : Nat) (line : List Int) (v : List (List Int)) : Prop where
  len : v.length ≤ 30
  ok : ∀ p ∈ v, Ord n p ∧ along n line p = true
theorem AlongV.votes {n : Nat} {line : List Int} {v : List (List Int)} (h : AlongV n line v) : Votes n v := ⟨h.len, fun p hp => (h.ok p hp).1⟩
theorem all_al {n : Nat} {line : List Int} {v : List (List Int)} (h0 : 1 ≤ n) (h6 : n ≤ 6) (hl : Ord n line) (h : AlongV n line v) : peak_All_m line v = some (true, 0) := by
  apply Ok.eq
  unfold peak_All_m
  rw [hl.len, order_check h0 h6 hl, Option.bind_some, if_neg (by decide), tally_check h0 h6 h.votes, Option.bind_some, if_neg (by decide), ok_bindR]
  refine ok_rangeL (fun _ _ => True) trivial (fun k p _ hk _ => ?_) fun _ _ => by rw [ok_some]
  have hp := h.ok p (List.mem_of_getElem? hk)
  unfold peak_All_b1
  rw [along_ok h0 h6 hl hp.1, Option.bind_some, hp.2]
  dsimp only
  rw [if_neg (by decide), ok_some, flok_nx]; trivial
theorem alongs_ok {ρ β : Type} {n : Nat} {line : List Int} (h0 : 1 ≤ n) (h6 : n ≤ 6) (hl : Ord n line) {b : Nat → List Int → List (List Int) → Option (Fl ρ (List (List Int)) (List (List Int)))}
    (hb : ∀ i x w, b i x w = (pk_along_m line x).bind fun y => (chk (w.length + [y].length ≤ 68719476736)).bind fun _ => some (.nx (w ++ [y]))) (x2 : List (List Int)) (h2 : ∀ r ∈ x2, r.length ≤ maxLen) :
    ∃ v, rangeL (γ := β) b (x2.take (min 30 x2.length)) 0 ([] : List (List Int)) = some (.nx v) ∧ AlongV n line v ∧ v.length = min 30 x2.length := by
  have key : Ok (rangeL (γ := β) b (x2.take (min 30 x2.length)) 0 ([] : List (List Int))) (FlOk (fun v => AlongV n line v ∧ v.length = min 30 x2.length) (fun _ => False) (fun _ => False)) := by
    refine ok_rangeL (fun k w => w.length = k ∧ ∀ p ∈ w, Ord n p ∧ along n line p = true) ⟨rfl, by simp⟩ (fun k x w hk hI => ?_) fun w hw => ⟨⟨by rw [hw.1, List.length_take]; omega, hw.2⟩, by rw [hw.1, List.length_take]; omega⟩
    have hkl := (List.getElem?_eq_some_iff.1 hk).1
    rw [List.length_take] at hkl
    obtain ⟨p, e, hp⟩ := pkAlong_ok h0 h6 hl x (h2 x (List.mem_of_mem_take (List.mem_of_getElem? hk)))
    rw [hb, e, Option.bind_some, chk_t (by simp [hI.1]; omega), Option.bind_some, ok_some, flok_nx]
    refine ⟨by simp [hI.1], fun q hq => ?_⟩
    rcases List.mem_append.1 hq with hq | hq
    · exact hI.2 q hq
    · rw [List.mem_singleton] at hq; subst hq; exact hp
  obtain ⟨v, e, hv⟩ := key
  cases v with
  | nx s => exact ⟨s, e, hv⟩
  | br _ => exact hv.elim
  | rt _ => exact hv.elim
theorem PeakOrder (x0 : Int) (_ : (Lit.int .i64 x0).wf = true) (x1 : List Int) (h1 : (∀ x ∈ x1, (Lit.int .i64 x).wf = true) ∧ x1.length ≤ maxLen) (x2 : List (List Int)) (h2 : (∀ r ∈ x2, (∀ x ∈ r, (Lit.int .i64 x).wf = true) ∧ r.length ≤ maxLen) ∧ x2.length ≤ maxLen) : pk_PeakOrder_m x0 x1 x2 = some true := by
  obtain ⟨n, n1, n6, hn⟩ := one_within x0 6 (by decide) (by decide)
  rw [show ((6 : Nat) : Int) = 6 from rfl] at hn
  obtain ⟨line, el, hl⟩ := orderOf_ok n x1 n1 (by omega)
  apply Ok.eq
  unfold pk_PeakOrder_m
  have hm : (if (30 : Int) < (x2.length : Int) then (30 : Int) else (x2.length : Int)) = ((min 30 x2.length : Nat) : Int) := by omega
  rw [peaks_y, tallies_t, Option.bind_some, if_neg (by decide), Option.bind_some, ok_bindR, ok_some, flok_nx, if_neg (by decide), within_at x0 6 (by decide) (by decide), Option.bind_some, hn, el, Option.bind_some, hm, chk_t ⟨by omega, by omega⟩, Option.bind_some, Int.toNat_natCast, List.drop_zero]
  obtain ⟨v, ev, hv, hvl⟩ := alongs_ok (ρ := Bool) (β := Unit) n1 n6 hl (b := pk_PeakOrder_b1 line) (fun i x w => rfl) x2 (fun r hr => (h2.1 r hr).2)
  rw [ev]
  simp only [bindR]
  rw [chk_t (show (2 : Int) ≠ 0 by decide), Option.bind_some]
  have hv30 := hv.len
  -- an odd number of them
  have step1 : Ok (if (Int.tmod (v.length : Int) (2 : Int)) == (0 : Int) then (chk (0 ≤ (if (wsub (v.length : Int) (1 : Int)) > (0 : Int) then wsub (v.length : Int) (1 : Int) else (0 : Int)) ∧ (if (wsub (v.length : Int) (1 : Int)) > (0 : Int) then wsub (v.length : Int) (1 : Int) else (0 : Int)) ≤ v.length)).bind fun _ => (pk_along_m line x1).bind fun y191 => (chk (((List.take ((if (wsub (v.length : Int) (1 : Int)) > (0 : Int) then wsub (v.length : Int) (1 : Int) else (0 : Int)).toNat) v)).length + (([y191] : (List (List Int)))).length ≤ 68719476736)).bind fun _ => some (Fl.nx (ρ := Bool) (β := Unit) (List.take ((if (wsub (v.length : Int) (1 : Int)) > (0 : Int) then wsub (v.length : Int) (1 : Int) else (0 : Int)).toNat) v ++ ([y191] : (List (List Int))))) else some (.nx v)) (FlOk (fun w => AlongV n line w ∧ 1 ≤ w.length) (fun _ => False) (fun _ => False)) := by
    rw [wsub_of (by omega) (by omega)]
    have e1 : (if ((v.length : Int) - 1) > (0 : Int) then (v.length : Int) - 1 else (0 : Int)) = ((v.length - 1 : Nat) : Int) := by split <;> omega
    rw [e1, Int.toNat_natCast]
    by_cases c : (Int.tmod (v.length : Int) 2 == 0) = true
    · obtain ⟨p, ep, hp⟩ := pkAlong_ok n1 n6 hl x1 h1.2
      rw [if_pos c, chk_t ⟨by omega, by omega⟩, Option.bind_some, ep, Option.bind_some, chk_t (by rw [List.length_take]; simp; omega), Option.bind_some, ok_some, flok_nx]
      refine ⟨⟨by rw [List.length_append, List.length_take]; simp; omega, fun q hq => ?_⟩, by simp⟩
      rcases List.mem_append.1 hq with hq | hq
      · exact hv.ok q (List.mem_of_mem_take hq)
      · rw [List.mem_singleton] at hq; subst hq; exact hp
    · rw [if_neg c, ok_some, flok_nx]
      refine ⟨hv, Nat.pos_of_ne_zero fun e => c ?_⟩
      rw [e]; rfl
  obtain ⟨w1, e1, hw1⟩ := step1
  cases w1 with
  | br _ => exact hw1.elim
  | rt _ => exact hw1.elim
  | nx w =>
    rw [flok_nx] at hw1
    rw [e1]
    dsimp only
    rw [Option.bind_some]
    have step2 : Ok (if (Int.tmod (w.length : Int) (2 : Int)) == (0 : Int) then (chk (0 ≤ (1 : Int) ∧ (1 : Int) ≤ w.length)).bind fun _ => some (Fl.nx (ρ := Bool) (β := Unit) ((List.take w.length w).drop (((1 : Int)).toNat))) else some (.nx w)) (FlOk (fun w => AlongV n line w) (fun _ => False) (fun _ => False)) := by
      by_cases c : (Int.tmod (w.length : Int) 2 == 0) = true
      · rw [if_pos c, chk_t ⟨by omega, by omega⟩, Option.bind_some, ok_some, flok_nx, List.take_length]
        exact ⟨by rw [List.length_drop]; have := hw1.1.len; omega, fun q hq => hw1.1.ok q (List.mem_of_mem_drop hq)⟩
      · rw [if_neg c, ok_some, flok_nx]; exact hw1.1
    obtain ⟨u1, e2, hu1⟩ := step2
    cases u1 with
    | br _ => exact hu1.elim
    | rt _ => exact hu1.elim
    | nx u =>
      rw [flok_nx] at hu1
      rw [e2]
      dsimp only
      obtain ⟨M, eM, hM⟩ := duels_ok n1 n6 hu1.votes
      rw [all_al n1 n6 hl hu1, Option.bind_some, eM, Option.bind_some, good_at]
      dsimp only
      rw [Option.bind_some, if_neg (by decide), if_neg (by decide), tableOf_ok hM, Option.bind_some]
      dsimp only
      rw [if_neg (by decide), chk_t (by omega), Option.bind_some, Int.toNat_natCast]
      have fin : Ok (rangeN (γ := Unit) (pk_PeakOrder_b2 (x0 % 6) (M, (0 : Int))) n 0 ()) (FlOk (fun _ => True) (fun _ => False) (fun _ => False)) := by
        refine ok_rangeN (fun _ _ => True) trivial (fun a _ ha _ => ?_) fun _ _ => trivial
        unfold pk_PeakOrder_b2
        rw [hn, chk_t (by omega), Option.bind_some, ok_bindF, Int.toNat_natCast]
        refine ok_rangeN (fun _ _ => True) trivial (fun b _ hb _ => ?_) fun _ _ => by rw [ok_some, flok_nx]; trivial
        unfold pk_PeakOrder_b3
        rw [hn, chk_t (by omega), Option.bind_some, ok_bindF, Int.toNat_natCast]
        refine ok_rangeN (fun _ _ => True) trivial (fun c _ hc _ => ?_) fun _ _ => by rw [ok_some, flok_nx]; trivial
        unfold pk_PeakOrder_b4
        dsimp only
        simp only [idx_nat, hM.row? ha, hM.row? hb, hM.row? hc, Option.bind_some, hM.cell? ha hb, hM.cell? hb ha, hM.cell? hb hc, hM.cell? hc hb, hM.cell? ha hc, hM.cell? hc ha]
        have hgo : Ok (some (Fl.nx (ρ := Bool) (β := Unit) false)) (FlOk (fun x1275 => Ok (if x1275 = true then some (Fl.rt (σ := Unit) (β := Unit) false) else some (.nx ())) (FlOk (fun _ => True) (fun _ => False) (fun _ => False))) (fun _ => False) (fun _ => False)) := by
          rw [ok_some, flok_nx, if_neg (by decide), ok_some, flok_nx]; trivial
        rw [ok_bindF]
        by_cases q1 : a = c
        · rw [if_neg (by rw [bne_iff_ne]; omega), ok_some, flok_nx, if_neg (by decide), ok_some, flok_nx]; trivial
        · rw [if_pos (by rw [bne_iff_ne]; omega)]
          by_cases q2 : duel u b a < duel u a b
          · rw [if_pos (by rw [decide_eq_true_eq]; exact q2)]
            by_cases q3 : duel u c b < duel u b c
            · have := beat_trans n1 hl hu1.ok ha hb hc q1 q2 q3
              rw [if_pos (by rw [decide_eq_true_eq]; exact q3), decide_eq_false (by omega), ok_some, flok_nx, if_neg (by decide), ok_some, flok_nx]; trivial
            · rw [if_neg (by rw [decide_eq_true_eq]; exact q3), ok_some, flok_nx, if_neg (by decide), ok_some, flok_nx]; trivial
          · rw [if_neg (by rw [decide_eq_true_eq]; exact q2), ok_some, flok_nx, if_neg (by decide), ok_some, flok_nx]; trivial
      obtain ⟨z, ez, hz⟩ := fin
      cases z with
      | br _ => exact hz.elim
      | rt _ => exact hz.elim
      | nx z => rw [ez, ok_some]
end Go.Pu
