/- Votes, and who stands ahead of whom in how many. -/
import Derived.Test.YtfekdillbgblkaaWVotesOwnModels
import Derived.Test.YtfekdillbgblkaaPuOrd
import Derived.Test.YtfekdillbgblkaaPuMat
set_option linter.all false
namespace Go.Pu
open Go.Fw Go.Mo
def Votes (n : Nat) (v : List (List Int)) : Prop := v.length ≤ 30 ∧ ∀ p ∈ v, Ord n p
theorem votesOf_ok (n : Nat) (l : List (List Int)) (h0 : 1 ≤ n) (h : n ≤ 6) : ∃ v, pk_VotesOf_m (n : Int) l = some v ∧ v.length = min 30 l.length ∧ Votes n v := by
  have : Ok (pk_VotesOf_m (n : Int) l) (fun v => v.length = min 30 l.length ∧ ∀ p ∈ v, Ord n p) := by
    unfold pk_VotesOf_m
    have e : (if (30 : Int) < (l.length : Int) then (30 : Int) else (l.length : Int)) = ((min 30 l.length : Nat) : Int) := by omega
    rw [e, List.drop_zero, Int.toNat_natCast]
    simp only [ok_bind, ok_chk, ok_bindR, ok_some]
    refine ⟨by omega, ok_rangeL (fun k v => v.length = k ∧ ∀ p ∈ v, Ord n p) (by simp) (fun k x v hk hI => ?_) fun v hv => ⟨by rw [hv.1, List.length_take]; omega, hv.2⟩⟩
    have hk' := (List.getElem?_eq_some_iff.1 hk).1
    rw [List.length_take] at hk'
    obtain ⟨p, e1, hp⟩ := orderOf_ok n x h0 (by omega)
    unfold pk_VotesOf_b1
    simp only [ok_bind, e1, ok_chk, ok_some, flok_nx]
    refine ⟨by simp; omega, by simp [hI.1], fun q hq => ?_⟩
    rcases List.mem_append.1 hq with hq | hq
    · exact hI.2 q hq
    · simp at hq; subst hq; exact hp
  obtain ⟨v, e, h1, h2⟩ := this
  exact ⟨v, e, h1, by omega, h2⟩
theorem tally_check {n : Nat} {v : List (List Int)} (h0 : 1 ≤ n) (h6 : n ≤ 6) (h : Votes n v) : tally_Check_m (n : Int) v = some 0 := by
  apply Ok.eq
  unfold tally_Check_m
  have hl := h.1
  simp only [ok_bindR, ok_ite, ok_some, flok_nx, decide_eq_true_eq]
  refine ⟨fun _ => by omega, fun _ => ⟨fun _ => by omega, fun _ => ⟨fun _ => by omega, fun _ => ?_⟩⟩⟩
  refine ok_rangeL (fun _ _ => True) trivial (fun k x s hk _ => ?_) fun s _ => by trivial
  unfold tally_Check_b1
  rw [order_check h0 h6 (h.2 x (List.mem_of_getElem? hk))]
  simp [ok_bind, ok_ite, ok_some, flok_nx]
/-- so many have a ahead of b -/
def duel : List (List Int) → Nat → Nat → Int
  | [], _, _ => 0
  | p :: v, a, b => duel v a b + if bf p a b then 1 else 0
theorem duel_append (v w : List (List Int)) (a b : Nat) : duel (v ++ w) a b = duel v a b + duel w a b := by
  induction v with
  | nil => simp [duel]
  | cons p v ih => simp only [List.cons_append, duel, ih]; omega
theorem duel_bound (v : List (List Int)) (a b : Nat) : 0 ≤ duel v a b ∧ duel v a b ≤ v.length := by
  induction v with
  | nil => simp [duel]
  | cons p v ih => simp only [duel, List.length_cons]; split <;> omega
theorem duel_self (v : List (List Int)) (a : Nat) : duel v a a = 0 := by
  induction v with
  | nil => rfl
  | cons p v ih => simp [duel, ih, bf_self]
theorem duel_sum {n : Nat} {v : List (List Int)} (h : ∀ p ∈ v, Ord n p) {a b : Nat} (ha : a < n) (hb : b < n) (hab : a ≠ b) : duel v a b + duel v b a = v.length := by
  induction v with
  | nil => simp [duel]
  | cons p v ih =>
    have := ih fun q hq => h q (by simp [hq])
    have h1 := bf_or (h p (by simp)) ha hb hab
    simp only [duel, List.length_cons]
    cases h2 : bf p b a <;> rw [h2] at h1 <;> simp [h1] <;> omega
theorem duels_ok {n : Nat} {v : List (List Int)} (h0 : 1 ≤ n) (h6 : n ≤ 6) (h : Votes n v) : ∃ m, tally_Duels_m (n : Int) v = some (m, 0) ∧ Mat n n m (duel v) := by
  have : Ok (tally_Duels_m (n : Int) v) (fun r => r.2 = 0 ∧ Mat n n r.1 (duel v)) := by
    unfold tally_Duels_m
    rw [tally_check h0 h6 h]
    simp only [ok_bind, ok_ite, ok_chk, ok_bindR, ok_some, Int.toNat_natCast, List.length_replicate, bne_self_eq_false, Bool.false_eq_true, false_implies, true_and, not_false_eq_true, true_implies]
    refine ⟨by omega, ?_⟩
    refine ok_rangeN (fun k W => W.length = n ∧ ∀ x, x < k → nth W x = List.replicate n 0) ⟨by simp, fun x hx => by omega⟩ (fun k W hk hI => ?_) fun W hW => ?_
    · obtain ⟨h1, h2⟩ := hI
      unfold tally_Duels_b1
      simp only [ok_bind, ok_chk, ok_idx, ok_some, flok_nx, Int.toNat_natCast]
      refine ⟨by omega, by omega, by omega, by simpa using h1, fun x hx => ?_⟩
      rw [nth_set (by omega)]
      split
      · rfl
      · exact h2 x (by omega)
    · obtain ⟨h1, h2⟩ := hW
      have hM : Mat n n W (fun _ _ => 0) := ⟨h1, fun x hx => by rw [h2 x hx]; simp, fun x y hx hy => by rw [h2 x hx]; exact nth_replicate hy⟩
      refine ok_rangeL (fun k W => Mat n n W (duel (v.take k))) (by simpa [duel] using hM) (fun k p W hk hW => ?_) fun W hW => by simpa using hW
      have hp := h.2 p (List.mem_of_getElem? hk)
      have hkl := (List.getElem?_eq_some_iff.1 hk).1
      have hlen := hp.len
      unfold tally_Duels_b2
      simp only [ok_bindF, ok_some]
      have hb0 := duel_bound (v.take k)
      have hkb : ((v.take k).length : Int) ≤ 30 := by rw [List.length_take]; have := h.1; omega
      generalize hbase : duel (v.take k) = base at *
      refine ok_rangeL (fun i W => Mat n n W (fun a b => base a b + if p.idxOf (a : Int) < i ∧ p.idxOf (a : Int) < p.idxOf (b : Int) then 1 else 0)) (hW.congr fun x y hx hy => by simp) (fun i x W hi hW => ?_) fun W hW => ?_
      · obtain ⟨hx1, hil⟩ := nth_of hi
        have hx := (hp.mem x).1 (List.mem_of_getElem? hi)
        obtain ⟨a, rfl⟩ : ∃ a : Nat, x = a := ⟨x.toNat, by omega⟩
        have han : a < n := by omega
        have hia : p.idxOf (a : Int) = i := by rw [← hx1]; exact hp.idx (by omega)
        unfold tally_Duels_b3
        simp only [ok_bind, ok_chk, ok_bindF, ok_some]
        rw [wadd_of (by omega) (by omega), List.take_length, show ((i : Int) + 1).toNat = i + 1 by omega]
        refine ⟨by omega, ?_⟩
        refine ok_rangeL (fun j W => Mat n n W (fun a b => base a b + if (p.idxOf (a : Int) < i ∧ p.idxOf (a : Int) < p.idxOf (b : Int)) ∨ (p.idxOf (a : Int) = i ∧ p.idxOf (a : Int) < p.idxOf (b : Int) ∧ p.idxOf (b : Int) < i + 1 + j) then 1 else 0)) (hW.congr fun x y hx hy => ?_) (fun j y W hj hW => ?_) fun W hW => ?_
        · congr 1
          by_cases hc : p.idxOf (x : Int) < i ∧ p.idxOf (x : Int) < p.idxOf (y : Int)
          · rw [if_pos hc, if_pos (.inl hc)]
          · rw [if_neg hc, if_neg (by omega)]
        · have hjl := (List.getElem?_eq_some_iff.1 hj).1
          rw [List.length_drop] at hjl
          rw [List.getElem?_drop] at hj
          obtain ⟨hy1, _⟩ := nth_of hj
          have hy := (hp.mem y).1 (List.mem_of_getElem? hj)
          obtain ⟨b, rfl⟩ : ∃ b : Nat, y = b := ⟨y.toNat, by omega⟩
          have hbn : b < n := by omega
          have hib : p.idxOf (b : Int) = i + 1 + j := by rw [← hy1]; exact hp.idx (by omega)
          unfold tally_Duels_b4
          simp only [idx_nat, hW.row? han, Option.bind_some, hW.cell? han hbn, Int.toNat_natCast, ok_some, flok_nx]
          have := hb0 a b
          have hv : (base a b + if (p.idxOf (a : Int) < i ∧ p.idxOf (a : Int) < p.idxOf (b : Int)) ∨ (p.idxOf (a : Int) = i ∧ p.idxOf (a : Int) < p.idxOf (b : Int) ∧ p.idxOf (b : Int) < i + 1 + j) then 1 else 0) = base a b := by
            rw [if_neg (by omega)]; omega
          rw [hv, wadd_of (by omega) (by omega)]
          refine (hW.set han hbn _).congr fun x y hx hy => ?_
          by_cases hxy : x = a ∧ y = b
          · obtain ⟨rfl, rfl⟩ := hxy
            rw [if_pos ⟨rfl, rfl⟩, if_pos (by omega)]
          · rw [if_neg hxy]
            congr 1
            have hne : ¬ (p.idxOf (x : Int) = i ∧ p.idxOf (y : Int) = i + 1 + j) := fun ⟨g1, g2⟩ => hxy ⟨hp.idx_inj hx han (by omega), hp.idx_inj hy hbn (by omega)⟩
            by_cases hc : (p.idxOf (x : Int) < i ∧ p.idxOf (x : Int) < p.idxOf (y : Int)) ∨ (p.idxOf (x : Int) = i ∧ p.idxOf (x : Int) < p.idxOf (y : Int) ∧ p.idxOf (y : Int) < i + 1 + j)
            · rw [if_pos hc, if_pos (by omega)]
            · rw [if_neg hc, if_neg (by omega)]
        · refine flok_nx.2 (hW.congr fun x y hx hy => ?_)
          congr 1
          have := hp.idx_lt hy
          rw [List.length_drop]
          by_cases hc : p.idxOf (x : Int) < i + 1 ∧ p.idxOf (x : Int) < p.idxOf (y : Int)
          · rw [if_pos hc, if_pos (by omega)]
          · rw [if_neg hc, if_neg (by omega)]
      · refine flok_nx.2 (hW.congr fun x y hx hy => ?_)
        rw [List.take_succ_eq_append_getElem hkl, duel_append, hbase]
        congr 1
        have := hp.idx_lt hx
        have e1 : v[k] = p := (List.getElem?_eq_some_iff.1 hk).2
        rw [e1]
        simp only [duel, bf, decide_eq_true_eq]
        by_cases hc : p.idxOf (x : Int) < p.idxOf (y : Int)
        · rw [if_pos hc, if_pos (by omega)]; omega
        · rw [if_neg hc, if_neg (by omega)]; omega
  obtain ⟨⟨m, e⟩, h1, h2, h3⟩ := this
  simp only at h2 h3
  subst h2
  exact ⟨m, h1, h3⟩
end Go.Pu
