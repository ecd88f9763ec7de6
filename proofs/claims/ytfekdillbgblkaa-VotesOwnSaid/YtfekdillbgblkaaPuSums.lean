/- The plain law: points are the duels' votes, a pair has all votes, and firsts are as many as votes. -/
import Derived.Test.YtfekdillbgblkaaWVotesOwnModels
import Derived.Test.YtfekdillbgblkaaPuFar
import Derived.Test.YtfekdillbgblkaaPuGood
set_option linter.all false
namespace Go.Pu
open Go.Fw Go.Mo
def pts (n : Nat) : List (List Int) → Nat → Int
  | [], _ => 0
  | p :: v, x => pts n v x + (n - 1 - p.idxOf (x : Int))
def fst1 : List (List Int) → Nat → Int
  | [], _ => 0
  | p :: v, x => fst1 v x + if p.idxOf (x : Int) = 0 then 1 else 0
theorem pts_append (n : Nat) (v w : List (List Int)) (x : Nat) : pts n (v ++ w) x = pts n v x + pts n w x := by
  induction v with
  | nil => simp [pts]
  | cons p v ih => simp only [List.cons_append, pts, ih]; omega
theorem fst1_append (v w : List (List Int)) (x : Nat) : fst1 (v ++ w) x = fst1 v x + fst1 w x := by
  induction v with
  | nil => simp [fst1]
  | cons p v ih => simp only [List.cons_append, fst1, ih]; omega
theorem pts_bound {n : Nat} (h0 : 1 ≤ n) (h6 : n ≤ 6) {v : List (List Int)} (h : ∀ p ∈ v, Ord n p) {x : Nat} (hx : x < n) : 0 ≤ pts n v x ∧ pts n v x ≤ 6 * v.length := by
  induction v with
  | nil => simp [pts]
  | cons p v ih =>
    have := ih fun q hq => h q (by simp [hq])
    have := (h p (by simp)).idx_lt hx
    simp only [pts, List.length_cons]; omega
theorem fst1_bound (v : List (List Int)) (x : Nat) : 0 ≤ fst1 v x ∧ fst1 v x ≤ v.length := by
  induction v with
  | nil => simp [fst1]
  | cons p v ih => simp only [fst1, List.length_cons]; split <;> omega
theorem points_ok {n : Nat} {v : List (List Int)} (h0 : 1 ≤ n) (h6 : n ≤ 6) (h : Votes n v) : ∃ a, tally_Points_m (n : Int) v = some (a, 0) ∧ Vec n a (pts n v) := by
  have : Ok (tally_Points_m (n : Int) v) (fun r => r.2 = 0 ∧ Vec n r.1 (pts n v)) := by
    unfold tally_Points_m
    rw [tally_check h0 h6 h]
    simp only [ok_bind, ok_ite, ok_chk, ok_bindR, ok_some, Int.toNat_natCast, bne_self_eq_false, Bool.false_eq_true, false_implies, true_and, not_false_eq_true, true_implies]
    refine ⟨by omega, ok_rangeL (fun k a => Vec n a (pts n (v.take k))) (Vec.zero.congr fun x _ => by simp [pts]) (fun k p a hk hI => ?_) fun a ha => by rw [List.take_length] at ha; exact ha⟩
    have hp := h.2 p (List.mem_of_getElem? hk)
    have hkl := (List.getElem?_eq_some_iff.1 hk).1
    have pb : ∀ x, x < n → 0 ≤ pts n (v.take k) x ∧ pts n (v.take k) x ≤ 200 := fun x hx => by
      have := pts_bound h0 h6 (v := v.take k) (fun q hq => h.2 q (List.mem_of_mem_take hq)) hx
      have := h.1
      rw [List.length_take] at *; omega
    unfold tally_Points_b1
    simp only [ok_bindF, ok_some]
    refine ok_rangeL (fun i a => Vec n a (fun x => pts n (v.take k) x + if p.idxOf (x : Int) < i then ((n : Int) - 1 - p.idxOf (x : Int)) else 0)) (hI.congr fun x _ => by simp) (fun i y a hi hI => ?_) fun a ha => flok_nx.2 (ha.congr fun x hx => ?_)
    · obtain ⟨hy, hil⟩ := nth_of hi
      rw [hp.len] at hil
      have vy := hp.val hil
      obtain ⟨x, hx⟩ : ∃ x : Nat, y = x := ⟨y.toNat, by omega⟩
      have hxn : x < n := by omega
      have hidx : p.idxOf (x : Int) = i := by rw [← hx, ← hy]; exact hp.idx hil
      have b := pb x hxn
      subst hx
      unfold tally_Points_b2
      simp only [idx_nat, hI.at? hxn, Option.bind_some, ok_some, flok_nx, Int.toNat_natCast, hidx, Nat.lt_irrefl, if_false]
      rw [wsub_of (x := (n : Int)) (by omega) (by omega), wsub_of (by omega) (by omega), wadd_of (by omega) (by omega)]
      refine (hI.set hxn _).congr fun z hz => ?_
      by_cases hzx : z = x
      · subst hzx; rw [if_pos rfl, if_pos (by omega), hidx]; omega
      · rw [if_neg hzx]
        have hne : p.idxOf (z : Int) ≠ i := fun e => hzx (hp.idx_inj hz hxn (by omega))
        by_cases hlt : p.idxOf (z : Int) < i
        · rw [if_pos hlt, if_pos (by omega)]
        · rw [if_neg hlt, if_neg (by omega)]
    · have := hp.idx_lt hx
      rw [hp.len, if_pos this, List.take_succ_eq_append_getElem hkl, pts_append]
      have e1 : v[k] = p := (List.getElem?_eq_some_iff.1 hk).2
      rw [e1]; simp only [pts]; omega
  obtain ⟨⟨a, e⟩, h1, h2, h3⟩ := this
  simp only at h2 h3
  subst h2
  exact ⟨a, h1, h3⟩
theorem firsts_ok {n : Nat} {v : List (List Int)} (h0 : 1 ≤ n) (h6 : n ≤ 6) (h : Votes n v) : ∃ a, tally_Firsts_m (n : Int) v = some (a, 0) ∧ Vec n a (fst1 v) := by
  have : Ok (tally_Firsts_m (n : Int) v) (fun r => r.2 = 0 ∧ Vec n r.1 (fst1 v)) := by
    unfold tally_Firsts_m
    rw [tally_check h0 h6 h]
    simp only [ok_bind, ok_ite, ok_chk, ok_bindR, ok_some, Int.toNat_natCast, bne_self_eq_false, Bool.false_eq_true, false_implies, true_and, not_false_eq_true, true_implies]
    refine ⟨by omega, ok_rangeL (fun k a => Vec n a (fst1 (v.take k))) (Vec.zero.congr fun x _ => by simp [fst1]) (fun k p a hk hI => ?_) fun a ha => by rw [List.take_length] at ha; exact ha⟩
    have hp := h.2 p (List.mem_of_getElem? hk)
    have hkl := (List.getElem?_eq_some_iff.1 hk).1
    have hn0 : 0 < n := by omega
    have vy := hp.val hn0
    obtain ⟨x, hx⟩ : ∃ x : Nat, nth p 0 = x := ⟨(nth p 0).toNat, by omega⟩
    have hxn : x < n := by omega
    have hidx : p.idxOf (x : Int) = 0 := by rw [← hx]; exact hp.idx hn0
    have b := fst1_bound (v.take k) x
    have hb : ((v.take k).length : Int) ≤ 30 := by rw [List.length_take]; have := h.1; omega
    unfold tally_Firsts_b1
    rw [show idx p (0 : Int) = some (x : Int) by rw [show (0 : Int) = ((0 : Nat) : Int) from rfl, idx_nat, nth_at (by rw [hp.len]; exact hn0), hx]]
    simp only [idx_nat, hI.at? hxn, Option.bind_some, ok_some, flok_nx, Int.toNat_natCast]
    rw [wadd_of (by omega) (by omega)]
    refine (hI.set hxn _).congr fun z hz => ?_
    rw [List.take_succ_eq_append_getElem hkl, fst1_append]
    have e1 : v[k] = p := (List.getElem?_eq_some_iff.1 hk).2
    rw [e1]; simp only [fst1]
    by_cases hzx : z = x
    · subst hzx; rw [if_pos rfl, if_pos hidx]; omega
    · rw [if_neg hzx, if_neg fun e => hzx (hp.idx_inj hz hxn (by omega))]; omega
  obtain ⟨⟨a, e⟩, h1, h2, h3⟩ := this
  simp only at h2 h3
  subst h2
  exact ⟨a, h1, h3⟩
theorem duel_pts {n : Nat} {v : List (List Int)} (h : ∀ p ∈ v, Ord n p) {x : Nat} (hx : x < n) : sumN n (fun y => duel v x y) = pts n v x := by
  induction v with
  | nil => simp only [duel, pts, sumN_zero]
  | cons p v ih =>
    have := ih fun q hq => h q (by simp [hq])
    simp only [duel, pts]
    rw [sumN_add, this]
    have := behind_count (h p (by simp)) hx
    unfold b1 at this
    rw [this]
theorem fst1_sum {n : Nat} (h0 : 1 ≤ n) {v : List (List Int)} (h : ∀ p ∈ v, Ord n p) : sumN n (fst1 v) = v.length := by
  induction v with
  | nil => simp only [fst1, sumN_zero, List.length_nil]; rfl
  | cons p v ih =>
    have e := ih fun q hq => h q (by simp [hq])
    have hp := h p (by simp)
    have : sumN n (fst1 (p :: v)) = sumN n (fst1 v) + sumN n (fun x => if x = (nth p 0).toNat then 1 else 0) := by
      rw [← sumN_add]
      refine sumN_congr fun x hx => ?_
      simp only [fst1]
      congr 1
      have v0 := hp.val (show 0 < n by omega)
      by_cases hxz : x = (nth p 0).toNat
      · rw [if_pos hxz, if_pos]
        rw [hxz, Int.toNat_of_nonneg v0.1]; exact hp.idx (by omega)
      · rw [if_neg hxz, if_neg]
        intro e; apply hxz
        have := hp.at_idx hx
        rw [e] at this; omega
    have v0 := hp.val (show 0 < n by omega)
    rw [this, e, sumN_single (by omega), List.length_cons]; omega
theorem tallies_t' : pk_tallies_m = some true := by decide +kernel
theorem TallySums (x0 : Int) (_ : (Lit.int .i64 x0).wf = true) (x1 : List (List Int)) (_ : (∀ r ∈ x1, (∀ x ∈ r, (Lit.int .i64 x).wf = true) ∧ r.length ≤ maxLen) ∧ x1.length ≤ maxLen) : pk_TallySums_m x0 x1 = some true := by
  obtain ⟨n, n1, n6, hn⟩ := one_within x0 6 (by decide) (by decide)
  rw [show ((6 : Nat) : Int) = 6 from rfl] at hn
  obtain ⟨v, ev, _, hv⟩ := votesOf_ok n x1 n1 n6
  obtain ⟨m, em, hM⟩ := duels_ok n1 n6 hv
  obtain ⟨a, ea, ha⟩ := points_ok n1 n6 hv
  obtain ⟨f, ef, hf⟩ := firsts_ok n1 n6 hv
  have hvl := hv.1
  apply Ok.eq
  unfold pk_TallySums_m
  rw [tallies_t']
  simp only [Option.bind_some, Bool.not_true, Bool.false_eq_true, if_false, within_at x0 6 (by decide) (by decide), hn, ev, em, ea, ef, good_at]
  simp only [ok_bind, ok_bindR, ok_ite, ok_chk, ok_some, flok_nx, hM.len, ha.len, hf.len, List.all_cons, List.all_nil, Bool.and_self, beq_self_eq_true, bne_self_eq_false, Bool.not_true, Bool.false_eq_true, false_implies, true_and, not_false_eq_true, true_implies, Int.toNat_natCast]
  refine ⟨by omega, ok_rangeN (s := (0 : Int)) (fun (x : Nat) (c : Int) => c = sumN x (fst1 v)) rfl (fun x c hx hc => ?_) fun c hc => ?_⟩
  · have fb : ∀ k : Nat, 0 ≤ sumN k (fst1 v) ∧ sumN k (fst1 v) ≤ 30 * k := by
      intro k
      induction k with
      | zero => simp [sumN]
      | succ k ih => simp only [sumN]; have := fst1_bound v k; omega
    have fx := fb x
    have f1 := fst1_bound v x
    have dp := duel_pts hv.2 hx
    unfold pk_TallySums_b1
    simp only [idx_nat, hM.row? hx, Option.bind_some, ok_bind, ok_chk, ok_ite, ok_bindF, ok_some, flok_nx, flok_rt, hM.row x hx, hn, bne_self_eq_false, Bool.false_eq_true, false_implies, true_and, not_false_eq_true, true_implies, Int.toNat_natCast]
    refine ⟨by omega, ok_rangeN (s := (0 : Int)) (fun (y : Nat) (c : Int) => c = sumN y (fun y => duel v x y)) rfl (fun y c hy hc => ?_) fun d hd => ?_⟩
    · have db : ∀ k : Nat, 0 ≤ sumN k (fun y => duel v x y) ∧ sumN k (fun y => duel v x y) ≤ 30 * k := by
        intro k
        induction k with
        | zero => simp [sumN]
        | succ k ih => simp only [sumN]; have := duel_bound v x k; omega
      have d1 := db y
      have d2 := duel_bound v x y
      have d3 := duel_bound v y x
      have ds : x ≠ y → duel v x y + duel v y x = v.length := fun h => duel_sum hv.2 hx hy h
      unfold pk_TallySums_b2
      simp only [idx_nat, hM.row? hx, hM.row? hy, hM.cell? hx hy, hM.cell? hy hx, Option.bind_some, ok_bindF, ok_ite, ok_some, flok_nx, flok_rt, hM.row y hy, hn, bne_self_eq_false, Bool.false_eq_true, false_implies, true_and, not_false_eq_true, true_implies, bne_iff_ne]
      subst hc
      rw [wadd_of (x := duel v x y) (by omega) (by omega), wadd_of (by omega) (by omega)]
      simp only [sumN]
      grind
    · rw [dp] at hd
      subst hd hc
      simp only [flok_nx, idx_nat, hf.at? hx, ha.at? hx, Option.bind_some, ok_bindF, ok_ite, ok_some, flok_rt, bne_self_eq_false, decide_eq_true_eq, Bool.false_eq_true, false_implies, true_and, not_false_eq_true, true_implies]
      rw [wadd_of (by omega) (by omega)]
      simp only [sumN]
      grind
  · rw [fst1_sum n1 hv.2] at hc
    simp [flok_nx, ok_some, hc]
end Go.Pu
