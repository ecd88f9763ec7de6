/- The plain law: a game is round if, and only if, all that come in one after the other have no more to gain apart. -/
import Derived.Test.YtlglnacpabmjnaaWWorthRoundModels
import Derived.Test.YtlglnacpabmjnaaPuRound
import Derived.Test.YtlglnacpabmjnaaPuGood
set_option linter.all false
namespace Go.Pu
open Go.Fw Go.Mo
def Core (n : Nat) (v : Nat → Int) (p : List Int) : Prop := (∀ s, s < 2 ^ n → v s ≤ inSum n s (fun i => LC.ev (rowLC p i) v)) ∧ inSum n (2 ^ n - 1) (fun i => LC.ev (rowLC p i) v) = v (2 ^ n - 1)
def backGood (n : Nat) : Bool := (List.range (2 ^ n)).all fun s => (List.range (2 ^ n)).all fun t => (allRows n).any fun p => LC.same (2 ^ n) (inLC n t p) [(1, s &&& t), (1, s ||| t), (-1, s), (-1, 0)] && LC.same (2 ^ n) (inLC n t p) (inLC n t p)
theorem backs : ∀ n : Nat, n < 5 → 0 < n → backGood n = true := by decide +kernel
theorem cvx_core {n : Nat} (h1 : 1 ≤ n) (hn : n < 5) {v : Nat → Int} (h0 : v 0 = 0) : Cvx n v ↔ ∀ p ∈ allRows n, Core n v p := by
  refine ⟨fun hc p hp => row_core hn hp hc h0, fun h s hs t ht => ?_⟩
  have hb := backs n hn (by omega)
  simp only [backGood, List.all_eq_true, List.mem_range, List.any_eq_true, Bool.and_eq_true] at hb
  obtain ⟨p, hp, e, -⟩ := hb s hs t ht
  have := LC.same_ev e v
  rw [inLC_ev] at this
  have hc := (h p hp).1 t ht
  rw [this] at hc
  simp only [LC.ev, h0] at hc
  omega
theorem round_ok {n : Nat} {l : List Int} {v : Nat → Int} (h : Game n l v) (hn : n < 5) : ∃ b, worth_Round_m (n : Int) l = some (b, 0) ∧ (b = true ↔ Cvx n v) := by
  have : Ok (worth_Round_m (n : Int) l) (fun r => r.2 = 0 ∧ (r.1 = true ↔ Cvx n v)) := by
    have h1 := h.n1; have h6 := h.n6; have hl := h.vec.len; have hp0 := pow_pos' n
    have hp2 : 2 ^ n ≤ 16 := Nat.pow_le_pow_right (n := 2) (by omega) (show n ≤ 4 by omega)
    unfold worth_Round_m
    rw [worth_check h, Option.bind_some, if_neg (by decide)]
    simp only [ok_bindR]
    refine ok_rangeL (fun k _ => ∀ s, s < k → ∀ t, t < 2 ^ n → v s + v t ≤ v (s ||| t) + v (s &&& t)) (fun s hs => by omega) (fun s x u hk hI => ?_) fun _ hI => ?_
    · obtain ⟨hx, hsl⟩ := nth_of hk
      rw [hl] at hsl
      rw [h.vec.at_ s hsl] at hx
      subst hx
      unfold worth_Round_b1
      rw [ok_bindF]
      refine ok_rangeL (fun k _ => ∀ t, t < k → v s + v t ≤ v (s ||| t) + v (s &&& t)) (fun t ht => by omega) (fun t y u hk hJ => ?_) fun _ hJ => ?_
      · obtain ⟨hy, htl⟩ := nth_of hk
        rw [hl] at htl
        rw [h.vec.at_ t htl] at hy
        subst hy
        have o1 := or_lt n (by omega) s hsl t htl
        have a1 := and_lt n (by omega) s hsl t htl
        have v1 := h.val _ hsl; have v2 := h.val _ htl; have v3 := h.val _ o1; have v4 := h.val _ a1
        unfold worth_Round_b2
        rw [or2_ok s (by omega) t (by omega), and_ok s (by omega) t (by omega), idx_nat, h.vec.at? o1, Option.bind_some, idx_nat, h.vec.at? a1, Option.bind_some, wadd_of (by omega) (by omega), wadd_of (by omega) (by omega)]
        simp only [ok_ite, ok_some, flok_nx, flok_rt, decide_eq_true_eq]
        refine ⟨fun hc => ⟨trivial, fun hh => by simp at hh, fun hh => ?_⟩, fun hc q hq => ?_⟩
        · have := hh s hsl t htl; omega
        · by_cases e : q = t
          · subst e; omega
          · exact hJ q (by omega)
      · rw [hl] at hJ
        simp only [ok_some, flok_nx]
        intro q hq
        by_cases e : q = s
        · rw [e]; exact hJ
        · exact hI q (by omega)
    · rw [hl] at hI
      simp only [ok_some]
      exact ⟨trivial, fun _ => hI, fun _ => trivial⟩
  obtain ⟨⟨b, e⟩, h1, h2, h3⟩ := this
  simp only at h2 h3
  subst h2
  exact ⟨b, h1, h3⟩
theorem row_bound {n : Nat} (hn : n < 6) {p : List Int} (hp : p ∈ allRows n) {l : List Int} {v : Nat → Int} (h : Game n l v) {i : Nat} (hi : i < n) : -2000000 ≤ LC.ev (rowLC p i) v ∧ LC.ev (rowLC p i) v ≤ 2000000 := by
  have g := good_of hn hp
  have v1 := h.val _ (g.lt _ (g.pl i hi))
  have v2 := h.val _ (g.lt' _ (g.pl i hi))
  simp only [rowLC, LC.ev]
  omega
theorem round2 : worth_Round_m (2 : Int) ([(0 : Int), (1 : Int), (1 : Int), (3 : Int)] : (List Int)) = some (true, 0) := by decide +kernel
theorem good00 : pk_good_m [0, 0] = some true := by rw [good_at]; rfl
theorem WorthRound (x0 : Int) (_ : (Lit.int .i64 x0).wf = true) (x1 : List Int) (h1 : (∀ x ∈ x1, (Lit.int .i64 x).wf = true) ∧ x1.length ≤ maxLen) (x2 : List Int) (h2 : (∀ x ∈ x2, (Lit.int .i64 x).wf = true) ∧ x2.length ≤ maxLen) (x3 : Bool) : pk_WorthRound_m x0 x1 x2 x3 = some true := by
  obtain ⟨n, n1, n4, hn⟩ := one_within x0 4 (by decide) (by decide)
  rw [show ((4 : Nat) : Int) = 4 from rfl] at hn
  have e30 : (if (30 : Int) < ((x1).length : Int) then (30 : Int) else ((x1).length : Int)) = ((min 30 x1.length : Nat) : Int) := by omega
  obtain ⟨g, eg, hg, cg⟩ := roundOf_ok n1 (by omega) (x1.take (min 30 x1.length)) (by rw [List.length_take]; omega)
  obtain ⟨k, w, ek, hk, bk⟩ := gameOf_ok n1 (by omega) x1 h1.2
  apply Ok.eq
  unfold pk_WorthRound_m
  rw [round2, worths_t, e30]
  simp only [Option.bind_some, within_at x0 4 (by decide) (by decide), hn, List.drop_zero, Int.toNat_natCast, eg]
  obtain ⟨c, v, ec, hc, hx⟩ : ∃ c v, (if x3 then (pk_GameOf_m (n : Int) x1).bind fun y70 => some (.nx y70) else some (.nx g)) = (some (.nx c) : Option (Fl Bool Unit (List Int))) ∧ Game n c v ∧ (x3 = false → Cvx n v) := by
    cases x3 with
    | true => exact ⟨k, w, by rw [ek]; rfl, hk, fun h => by cases h⟩
    | false => exact ⟨g, _, rfl, hg, fun _ => cg⟩
  rw [ec]
  obtain ⟨b, eb, hb⟩ := round_ok hc (by omega)
  have hall := cvx_core (v := v) n1 (by omega) hc.zero
  rw [ok_bindR, show ((0 : Int) != 0) = false from rfl, if_neg (by decide), if_neg (by decide), ok_some, flok_nx, show (!true) = false from rfl, if_neg (by decide), chk_t (by omega), Option.bind_some, ok_bindR, ok_some, flok_nx, eb, Option.bind_some, all_eq n1 (by omega), Option.bind_some, good00, Option.bind_some, show (!true) = false from rfl, if_neg (by decide), ok_bindR]
  have h95 : (if (!x3) = true then some (Fl.nx (!b)) else some (Fl.nx false)) = (some (.nx false) : Option (Fl Bool Unit Bool)) := by
    cases x3 with
    | true => rfl
    | false =>
      have : b = true := hb.2 (hx rfl)
      rw [this]; rfl
  rw [h95, ok_some, flok_nx, if_neg (by decide), ok_bindR]
  refine ok_rangeN (fun (k : Nat) (x : Bool) => x = true ↔ ∀ j, j < k → Core n v (nth (allRows n) j)) (by simp) (fun j x hj hI => ?_) fun x hI => ?_
  · have hp := nth_mem hj
    obtain ⟨a, ea, ha⟩ := row_ok hc (by omega) hp
    obtain ⟨d, ed, hd⟩ := holds_ok hc ha fun i hi => by have := row_bound (by omega) hp hc hi; omega
    unfold pk_WorthRound_b1
    simp only [idx_nat, nth_at hj, Option.bind_some, hn, ea, ed, good00]
    simp only [Bool.not_true, Bool.false_eq_true, if_false, ok_bindF, ok_ite, ok_some, flok_nx]
    refine ⟨fun hx => ?_, fun hx => ?_⟩
    · refine ⟨fun hdt i hi => ?_, fun h => hd.2 (h j (by omega))⟩
      by_cases e : i = j
      · rw [e]; exact hd.1 hdt
      · exact hI.1 hx i (by omega)
    · exact iff_of_false (by simp) fun h => hx (hI.2 fun i hi => h i (by omega))
  · rw [ok_some]
    have hx' : x = true ↔ Cvx n v := by
      rw [hI, hall]
      refine ⟨fun h p hp => ?_, fun h j hj => h _ (nth_mem hj)⟩
      obtain ⟨j, hj, rfl⟩ := mem_nth hp
      exact h j hj
    have : b = x := Bool.eq_iff_iff.2 (hb.trans hx'.symm)
    rw [this]; exact beq_self_eq_true x
end Go.Pu
