/- The plain law: of two sides each rule takes the one that more put first (May). -/
import Derived.Test.YtfekdillbgblkaaWVotesOwnModels
import Derived.Test.YtfekdillbgblkaaPuSums
import Derived.Test.YtfekdillbgblkaaPuWorst
import Derived.Test.YtfekdillbgblkaaPuCopeland
import Derived.Test.YtfekdillbgblkaaPuGood
import Derived.Test.YtfekdillbgblkaaPuEq
set_option linter.all false
namespace Go.Pu
open Go.Fw Go.Mo
theorem ord2 {p : List Int} (h : Ord 2 p) : p = [0, 1] ∨ p = [1, 0] := by
  have hl := h.len
  match p, hl with
  | [x, y], _ =>
    have h0 := (h.mem x).1 (by simp)
    have h1 := (h.mem y).1 (by simp)
    have hn := h.nd
    simp at hn
    rcases (show x = 0 ∨ x = 1 by omega) with e | e <;> rcases (show y = 0 ∨ y = 1 by omega) with e' | e' <;> subst e e' <;> simp_all
theorem two_sums : ∀ v : List (List Int), (∀ p ∈ v, Ord 2 p) → duel v 0 1 = fst1 v 0 ∧ duel v 1 0 = fst1 v 1 ∧ pts 2 v 0 = fst1 v 0 ∧ pts 2 v 1 = fst1 v 1
  | [], _ => ⟨rfl, rfl, rfl, rfl⟩
  | p :: v, h => by
    obtain ⟨a, b, c, d⟩ := two_sums v fun q hq => h q (by simp [hq])
    have e : duel (p :: v) 0 1 = duel v 0 1 + (if bf p 0 1 then 1 else 0) ∧ duel (p :: v) 1 0 = duel v 1 0 + (if bf p 1 0 then 1 else 0) := ⟨rfl, rfl⟩
    have e2 : fst1 (p :: v) 0 = fst1 v 0 + (if p.idxOf ((0 : Nat) : Int) = 0 then 1 else 0) ∧ fst1 (p :: v) 1 = fst1 v 1 + (if p.idxOf ((1 : Nat) : Int) = 0 then 1 else 0) := ⟨rfl, rfl⟩
    have e3 : pts 2 (p :: v) 0 = pts 2 v 0 + (((2 : Nat) : Int) - 1 - p.idxOf ((0 : Nat) : Int)) ∧ pts 2 (p :: v) 1 = pts 2 v 1 + (((2 : Nat) : Int) - 1 - p.idxOf ((1 : Nat) : Int)) := ⟨rfl, rfl⟩
    rw [e.1, e.2, e2.1, e2.2, e3.1, e3.2, a, b, c, d]
    rcases ord2 (h p (by simp)) with e | e <;> subst e <;> exact ⟨rfl, rfl, rfl, rfl⟩
def better2 (p q : Int) : List Int := if q < p then [0] else if p < q then [1] else [0, 1]
theorem best2 (p q : Int) : rules_best_m [p, q] = some (better2 p q) := by
  unfold better2
  by_cases h1 : q < p
  · have : ¬ p < q := by omega
    have : ¬ q = p := by omega
    simp [rules_best_m, rangeL, rules_best_b1, bindF, bindR, idx, chk, *]
  · by_cases h2 : p < q
    · simp [rules_best_m, rangeL, rules_best_b1, bindF, bindR, idx, chk, *]
    · have : p = q := by omega
      subst this
      simp [rules_best_m, rangeL, rules_best_b1, bindF, bindR, idx, chk]
theorem cnt2 {v : List (List Int)} (hv : Votes 2 v) : Ok (rangeL (ρ := List Int) (γ := (List Bool) × Int) (rules_rounds_b2 (List.replicate 6 false)) v 0 (List.replicate 6 (0 : Int))) (FlOk (fun l => l = [fst1 v 0, fst1 v 1, 0, 0, 0, 0]) (fun _ => False) (fun _ => False)) := by
  have h30 := hv.1
  refine ok_rangeL (fun k l => l = [fst1 (v.take k) 0, fst1 (v.take k) 1, 0, 0, 0, 0]) rfl (fun k p l hk hI => ?_) fun l hl => by rw [List.take_length] at hl; exact hl
  have hkl := (List.getElem?_eq_some_iff.1 hk).1
  have et : v.take (k + 1) = v.take k ++ [p] := by rw [List.take_succ, hk]; rfl
  have b0 := fst1_bound (v.take k) 0
  have b1 := fst1_bound (v.take k) 1
  have bl : (v.take k).length ≤ 30 := by rw [List.length_take]; omega
  rw [et, fst1_append, fst1_append]
  subst hI
  unfold rules_rounds_b2
  rw [ok_bindF]
  rcases ord2 (hv.2 p (List.mem_of_getElem? hk)) with e | e <;> subst e
  · have f0 : fst1 [[0, 1]] 0 = 1 := rfl
    have f1 : fst1 [[0, 1]] 1 = 0 := rfl
    rw [f0, f1, Int.add_zero]
    simp only [rangeL, rules_rounds_b3, idx]
    simp [ok_some, flok_nx]
    rw [wadd_of (by omega) (by omega)]
  · have f0 : fst1 [[1, 0]] 0 = 0 := rfl
    have f1 : fst1 [[1, 0]] 1 = 1 := rfl
    rw [f0, f1, Int.add_zero]
    simp only [rangeL, rules_rounds_b3, idx]
    simp [ok_some, flok_nx]
    rw [wadd_of (by omega) (by omega)]
theorem any2 {v : List (List Int)} (hv : Votes 2 v) {f : List Bool} (hf : f.length = 6) : Ok (rangeL (ρ := List Int) (γ := (List Bool) × Int) (rules_rounds_b2 f) v 0 (List.replicate 6 (0 : Int))) (FlOk (fun l => l.length = 6) (fun _ => False) (fun _ => False)) := by
  refine ok_rangeL (fun k l => l.length = 6) rfl (fun k p l hk hI => ?_) fun l hl => hl
  unfold rules_rounds_b2
  rw [ok_bindF]
  have hp : ∀ x ∈ p, 0 ≤ x ∧ x < 2 := fun x hx => ((hv.2 p (List.mem_of_getElem? hk)).mem x).1 hx
  refine ok_rangeL (fun k (l : List Int) => l.length = 6) hI (fun j y l hj hJ => ?_) fun l hl => ⟨_, rfl, hl⟩
  have hy := hp y (List.mem_of_getElem? hj)
  obtain ⟨i, rfl⟩ : ∃ i : Nat, y = i := ⟨y.toNat, by omega⟩
  unfold rules_rounds_b3
  rw [idx_nat, nth_at (by omega), Option.bind_some, idx_nat, nth_at (by omega), Option.bind_some, Option.bind_some]
  simp only [ok_ite, ok_some, flok_nx, flok_br]
  exact ⟨fun _ => by simpa using hJ, fun _ => hJ⟩
theorem rounds2 {v : List (List Int)} (hv : Votes 2 v) : rules_rounds_m 2 v = some (if fst1 v 1 ≤ fst1 v 0 then [0] else [1]) := by
  apply Ok.eq
  unfold rules_rounds_m
  rw [ok_bindR]
  refine ok_loopM (fun s : List Bool × Int => s = (List.replicate 6 false, 2) ∨ s = ((List.replicate 6 false).set (if fst1 v 1 ≤ fst1 v 0 then 1 else 0) true, 1)) (fun s => s.2.toNat) (fun s hI => ?_) _ _ (.inl rfl) (by simp)
  rcases hI with e | e <;> subst e
  · unfold rules_rounds_b1
    simp only
    rw [ok_bindF]
    refine (cnt2 hv).mono fun l hl => ?_
    cases l with
    | br _ => exact hl.elim
    | rt _ => exact hl.elim
    | nx l =>
      rw [flok_nx] at hl ⊢
      subst hl
      rw [chk_t (by omega), Option.bind_some, ok_bindF]
      by_cases hc : fst1 v 1 ≤ fst1 v 0
      · have : rangeN (ρ := List Int) (γ := (List Bool) × Int) (rules_rounds_b4 (List.replicate 6 false) [fst1 v 0, fst1 v 1, 0, 0, 0, 0]) (2 : Int).toNat 0 (-1 : Int) = some (.nx 1) := by
          simp [rangeN, rules_rounds_b4, bindF, idx, hc]
        rw [this, ok_some, flok_nx, if_pos hc]
        exact ⟨_, rfl, .inr rfl, by decide⟩
      · have : rangeN (ρ := List Int) (γ := (List Bool) × Int) (rules_rounds_b4 (List.replicate 6 false) [fst1 v 0, fst1 v 1, 0, 0, 0, 0]) (2 : Int).toNat 0 (-1 : Int) = some (.nx 0) := by
          simp [rangeN, rules_rounds_b4, bindF, idx, hc]
        rw [this, ok_some, flok_nx, if_neg hc]
        exact ⟨_, rfl, .inr rfl, by decide⟩
  · unfold rules_rounds_b1
    simp only
    rw [ok_bindF]
    refine (any2 hv (by simp)).mono fun l hl => ?_
    cases l with
    | br _ => exact hl.elim
    | rt _ => exact hl.elim
    | nx l =>
      rw [flok_nx] at hl ⊢
      rw [chk_t (by omega), Option.bind_some, ok_bindF]
      by_cases hc : fst1 v 1 ≤ fst1 v 0
      · have : rangeN (ρ := List Int) (γ := (List Bool) × Int) (rules_rounds_b4 ((List.replicate 6 false).set 1 true) l) (2 : Int).toNat 0 (-1 : Int) = some (.nx 0) := by
          simp [rangeN, rules_rounds_b4, bindF, idx]
        rw [if_pos hc, if_pos hc, this]
        exact ⟨_, rfl, ⟨_, rfl, rfl⟩⟩
      · have : rangeN (ρ := List Int) (γ := (List Bool) × Int) (rules_rounds_b4 ((List.replicate 6 false).set 0 true) l) (2 : Int).toNat 0 (-1 : Int) = some (.nx 1) := by
          simp [rangeN, rules_rounds_b4, bindF, idx]
        rw [if_neg hc, if_neg hc, this]
        exact ⟨_, rfl, ⟨_, rfl, rfl⟩⟩
theorem vec2 {l : List Int} {f : Nat → Int} (h : Vec 2 l f) : l = [f 0, f 1] := nth_ext (by rw [h.len]; rfl) fun k hk => by
  rw [h.len] at hk
  rw [h.at_ k hk]
  rcases (show k = 0 ∨ k = 1 by omega) with e | e <;> subst e <;> rfl
theorem tabV {n : Nat} {v : List (List Int)} {m : List (List Int)} (h1 : 1 ≤ n) (h6 : n ≤ 6) (hv : Votes n v) (hM : Mat n n m (duel v)) : Tab n m (duel v) := ⟨hM, h1, h6, fun x y _ _ => by have := duel_bound v x y; have := hv.1; omega, fun x _ => duel_self v x⟩
theorem winners2 {v : List (List Int)} (hv : Votes 2 v) {k : Nat} (k1 : 1 ≤ k) (k5 : k ≤ 5) : rules_Winners_m (k : Int) 2 v = some (if k = 5 then (if fst1 v 1 ≤ fst1 v 0 then [0] else [1]) else better2 (fst1 v 0) (fst1 v 1), 0) := by
  obtain ⟨m, em, hM⟩ := duels_ok (by decide) (by decide) hv
  have ts := two_sums v hv.2
  have t := tabV (by decide) (by decide) hv hM
  have em' : tally_Duels_m 2 v = some (m, 0) := em
  have g : (if decide ((k : Int) < (1 : Int)) then some (Fl.nx true) else some (Fl.nx (decide ((k : Int) > (5 : Int))))) = (some (Fl.nx false) : Option (Fl (List Int × Int) Unit Bool)) := by
    rw [if_neg (by simp; omega)]; simp; omega
  unfold rules_Winners_m
  rw [g, bindR, if_neg (by decide), em', Option.bind_some, if_neg (by simp)]
  rcases (show k = 1 ∨ k = 2 ∨ k = 3 ∨ k = 4 ∨ k = 5 by omega) with e | e | e | e | e <;> subst e
  · obtain ⟨a, ea, ha⟩ := firsts_ok (by decide) (by decide) hv
    have ea' : tally_Firsts_m 2 v = some (a, 0) := ea
    rw [if_pos (by decide), ea', Option.bind_some, vec2 ha, best2]; rfl
  · obtain ⟨a, ea, ha⟩ := points_ok (by decide) (by decide) hv
    have ea' : tally_Points_m 2 v = some (a, 0) := ea
    rw [if_neg (by decide), if_pos (by decide), ea', Option.bind_some, vec2 ha, best2, ts.2.2.1, ts.2.2.2]; rfl
  · obtain ⟨w, ew, hw⟩ := wins_ok t
    have c0 : cope 2 (duel v) 0 = sgn (fst1 v 0) (fst1 v 1) := by
      unfold cope; simp only [sumN]; rw [ts.1, ts.2.1, duel_self]; simp [sgn]
    have c1 : cope 2 (duel v) 1 = sgn (fst1 v 1) (fst1 v 0) := by
      unfold cope; simp only [sumN]; rw [ts.1, ts.2.1, duel_self]; simp [sgn]
    rw [if_neg (by decide), if_neg (by decide), if_pos (by decide), ew, Option.bind_some, vec2 hw, best2, c0, c1]
    have : better2 (sgn (fst1 v 0) (fst1 v 1)) (sgn (fst1 v 1) (fst1 v 0)) = better2 (fst1 v 0) (fst1 v 1) := by
      unfold better2 sgn
      generalize fst1 v 0 = a
      generalize fst1 v 1 = b
      by_cases h1 : b < a <;> by_cases h2 : a < b <;> simp [h1, h2] <;> omega
    rw [this]; rfl
  · obtain ⟨w, ew, hwl, hw⟩ := worst_ok t
    have w0 := hw 0 (by decide)
    have w1 := hw 1 (by decide)
    obtain ⟨x, y, rfl⟩ : ∃ x y, w = [x, y] := ⟨nth w 0, nth w 1, nth_ext (by rw [hwl]; rfl) fun k hk => by
      rw [hwl] at hk
      rcases (show k = 0 ∨ k = 1 by omega) with e | e <;> subst e <;> rfl⟩
    have w0' : IsWorst 2 (duel v) 0 x := w0
    have w1' : IsWorst 2 (duel v) 1 y := w1
    have lo : rangeN (ρ := List Int × Int) (γ := Unit) rules_Winners_b1 ([x, y] : List Int).length 0 [x, y] = some (.nx [wsub 0 x, wsub 0 y]) := by
      simp [rangeN, rules_Winners_b1, idx]
    have b0 : 0 ≤ x ∧ x ≤ 30 := ⟨w0'.1, w0'.2.1⟩
    have b1 : 0 ≤ y ∧ y ≤ 30 := ⟨w1'.1, w1'.2.1⟩
    rw [if_neg (by decide), if_neg (by decide), if_neg (by decide), if_pos (by decide), ew, Option.bind_some]
    simp only
    rw [lo, bindR, best2, wsub_of (by omega) (by omega), wsub_of (by omega) (by omega)]
    have d00 := duel_self v 0
    have d11 := duel_self v 1
    have key : better2 (0 - x) (0 - y) = better2 (fst1 v 0) (fst1 v 1) := by
      have p0 := w0'.2.2.1 1 (by decide)
      have p1 := w1'.2.2.1 0 (by decide)
      rw [ts.1, ts.2.1] at p0 p1
      have q0 : x = 0 ∨ x = fst1 v 1 - fst1 v 0 := by
        rcases w0'.2.2.2 with h | ⟨z, hz, h⟩
        · exact .inl h
        · rcases (show z = 0 ∨ z = 1 by omega) with e | e <;> subst e
          · rw [d00] at h; exact .inl (by omega)
          · rw [ts.1, ts.2.1] at h; exact .inr h
      have q1 : y = 0 ∨ y = fst1 v 0 - fst1 v 1 := by
        rcases w1'.2.2.2 with h | ⟨z, hz, h⟩
        · exact .inl h
        · rcases (show z = 0 ∨ z = 1 by omega) with e | e <;> subst e
          · rw [ts.1, ts.2.1] at h; exact .inr h
          · rw [d11] at h; exact .inl (by omega)
      unfold better2
      generalize fst1 v 0 = a at *
      generalize fst1 v 1 = b at *
      by_cases h1 : b < a
      · rw [if_pos h1, if_pos (by omega)]
      · rw [if_neg h1, if_neg (by omega)]
        by_cases h2 : a < b
        · rw [if_pos h2, if_pos (by omega)]
        · rw [if_neg h2, if_neg (by omega)]
    rw [key]; rfl
  · rw [if_neg (by decide), if_neg (by decide), if_neg (by decide), if_neg (by decide), if_pos (by decide), rounds2 hv]; rfl
theorem winners_t : pk_winners_m = some true := by decide +kernel
theorem mgood : pk_good_m [0, 0] = some true := by rw [good_at]; rfl
theorem RulesMay (x0 : Int) (_ : (Lit.int .i64 x0).wf = true) (x1 : List (List Int)) (_ : (∀ r ∈ x1, (∀ x ∈ r, (Lit.int .i64 x).wf = true) ∧ r.length ≤ maxLen) ∧ x1.length ≤ maxLen) : pk_RulesMay_m x0 x1 = some true := by
  obtain ⟨k, k1, k5, hk⟩ := one_within x0 5 (by decide) (by decide)
  rw [show ((5 : Nat) : Int) = 5 from rfl] at hk
  obtain ⟨v, ev, -, hv⟩ := votesOf_ok 2 x1 (by decide) (by decide)
  have ev' : pk_VotesOf_m 2 x1 = some v := ev
  obtain ⟨a, ea, ha⟩ := firsts_ok (by decide) (by decide) hv
  have ea' : tally_Firsts_m 2 v = some (a, 0) := ea
  have i0 : ∀ p q : Int, idx [p, q] (0 : Int) = some p := fun p q => rfl
  have i1 : ∀ p q : Int, idx [p, q] (1 : Int) = some q := fun p q => rfl
  unfold pk_RulesMay_m
  rw [winners_t, Option.bind_some, if_neg (by decide), within_at x0 5 (by decide) (by decide), Option.bind_some, ev', Option.bind_some, hk, winners2 hv k1 k5, Option.bind_some, ea', Option.bind_some, vec2 ha]
  simp only [mgood, Option.bind_some, Bool.not_true, Bool.false_eq_true, if_false, equal_ok, i0, i1]
  rw [show (some (Fl.nx (((([fst1 v 0, fst1 v 1] : List Int).length : Int) != 2))) : Option (Fl Bool Unit Bool)) = some (.nx false) from rfl]
  simp only [bindR, Bool.false_eq_true, if_false]
  generalize fst1 v 0 = p
  generalize fst1 v 1 = q
  have hk5 : ((k : Int) == 5) = decide (k = 5) := by
    by_cases h : k = 5
    · subst h; rfl
    · rw [decide_eq_false h, beq_eq_false_iff_ne]; omega
  rw [hk5]
  unfold better2
  by_cases h1 : q < p
  · have h1' : p > q := h1
    have h3 : q ≤ p := by omega
    by_cases h5 : k = 5 <;> simp [h1, h3, h5]
  · by_cases h2 : p < q
    · have h3 : ¬ q ≤ p := by omega
      by_cases h5 : k = 5 <;> simp [h1, h2, h3, h5]
    · have : p = q := by omega
      subst this
      by_cases h5 : k = 5 <;> simp [h5]
end Go.Pu
