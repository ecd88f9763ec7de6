/- Orders along a line: who stands between two is never the last of the three. -/
import Derived.Test.YtfhfoechannphaaWPeakBlackModels
import Derived.Test.YtfhfoechannphaaPuAlong
import Derived.Test.YtfhfoechannphaaPuDuels
import Derived.Test.YtfhfoechannphaaPuFl
set_option linter.all false
namespace Go.Pu
open Go.Fw Go.Mo
theorem al_append {line p r : List Int} : ∀ (i lo : Nat), i < p.length → al line (p ++ r) i lo = al line p i lo
  | 0, _, _ => rfl
  | i + 1, lo, h => by
    simp only [al]
    rw [nth_append, if_pos h, al_append i (lo + 1) (by omega), al_append i lo (by omega)]
/-- what is known of an order that is being laid along a line -/
structure Laid (n : Nat) (line p : List Int) (lo i : Nat) : Prop where
  len : p.length = i
  pos : 1 ≤ i
  hi : lo + i ≤ n
  ok : al line p (i - 1) lo = true
  nd : p.Nodup
  mem : ∀ x, x ∈ p ↔ ∃ t, lo ≤ t ∧ t < lo + i ∧ x = nth line t
theorem line_inj {n : Nat} {line : List Int} (hl : Ord n line) {s t : Nat} (hs : s < n) (ht : t < n) (e : nth line s = nth line t) : s = t := by
  have h1 := hl.idx hs
  have h2 := hl.idx ht
  rw [e] at h1; omega
theorem Laid.low {n lo i : Nat} {line p : List Int} (hl : Ord n line) (h : Laid n line p (lo + 1) i) : Laid n line (p ++ [nth line lo]) lo (i + 1) := by
  have h1 := h.len; have h2 := h.pos; have h3 := h.hi
  refine ⟨by simp [h1], by omega, by omega, ?_, ?_, fun x => ?_⟩
  · have e : i + 1 - 1 = (i - 1) + 1 := by omega
    have e2 : nth (p ++ [nth line lo]) (i - 1 + 1) = nth line lo := by rw [nth_append, if_neg (by omega), show i - 1 + 1 - p.length = 0 by omega]; rfl
    rw [e, al, e2, if_pos rfl, al_append _ _ (by omega)]
    exact h.ok
  · rw [List.nodup_append]
    refine ⟨h.nd, by simp, fun x hx y hy e => ?_⟩
    rw [List.mem_singleton] at hy
    obtain ⟨t, t1, t2, rfl⟩ := (h.mem x).1 hx
    have := line_inj hl (by omega) (by omega) (e.trans hy)
    omega
  · rw [List.mem_append, h.mem, List.mem_singleton]
    constructor
    · rintro (⟨t, t1, t2, rfl⟩ | rfl)
      · exact ⟨t, by omega, by omega, rfl⟩
      · exact ⟨lo, by omega, by omega, rfl⟩
    · rintro ⟨t, t1, t2, rfl⟩
      by_cases e : t = lo
      · right; rw [e]
      · left; exact ⟨t, by omega, by omega, rfl⟩
theorem Laid.high {n lo i : Nat} {line p : List Int} (hl : Ord n line) (h : Laid n line p lo i) (hin : lo + i < n) : Laid n line (p ++ [nth line (lo + i)]) lo (i + 1) := by
  have h1 := h.len; have h2 := h.pos; have h3 := h.hi
  refine ⟨by simp [h1], by omega, by omega, ?_, ?_, fun x => ?_⟩
  · have e : i + 1 - 1 = (i - 1) + 1 := by omega
    have e2 : nth (p ++ [nth line (lo + i)]) (i - 1 + 1) = nth line (lo + i) := by rw [nth_append, if_neg (by omega), show i - 1 + 1 - p.length = 0 by omega]; rfl
    rw [e, al, e2, show lo + (i - 1) + 1 = lo + i by omega]
    rw [if_neg (fun e => by have := line_inj hl (by omega) (by omega) e; omega), if_pos rfl, al_append _ _ (by omega)]
    exact h.ok
  · rw [List.nodup_append]
    refine ⟨h.nd, by simp, fun x hx y hy e => ?_⟩
    rw [List.mem_singleton] at hy
    obtain ⟨t, t1, t2, rfl⟩ := (h.mem x).1 hx
    have := line_inj hl (by omega) (by omega) (e.trans hy)
    omega
  · rw [List.mem_append, h.mem, List.mem_singleton]
    constructor
    · rintro (⟨t, t1, t2, rfl⟩ | rfl)
      · exact ⟨t, by omega, by omega, rfl⟩
      · exact ⟨lo + i, by omega, by omega, rfl⟩
    · rintro ⟨t, t1, t2, rfl⟩
      by_cases e : t = lo + i
      · right; rw [e]
      · left; exact ⟨t, by omega, by omega, rfl⟩
theorem Laid.ord {n : Nat} {line p : List Int} (hl : Ord n line) (h : Laid n line p 0 n) : Ord n p := by
  refine ⟨h.len, fun x => ?_, h.nd⟩
  rw [h.mem, ← hl.mem]
  constructor
  · rintro ⟨t, _, t2, rfl⟩; exact nth_mem (by rw [hl.len]; omega)
  · intro hx
    obtain ⟨t, ht, rfl⟩ := mem_nth hx
    rw [hl.len] at ht
    exact ⟨t, by omega, by omega, rfl⟩
theorem pkAlong_ok {n : Nat} {line : List Int} (h0 : 1 ≤ n) (h6 : n ≤ 6) (hl : Ord n line) (l : List Int) (hll : l.length ≤ maxLen) : ∃ p, pk_along_m line l = some p ∧ Ord n p ∧ along n line p = true := by
  have hlen := hl.len
  have hll' : l.length ≤ 9223372036854775807 := hll
  have key : Ok (pk_along_m line l) (fun p => Ord n p ∧ along n line p = true) := by
    unfold pk_along_m
    rw [if_neg (by rw [beq_iff_eq]; omega), ok_bindR]
    have first : Ok (if decide ((l.length : Int) > (0 : Int)) = true then (idx l (0 : Int)).bind fun y26 => (pk_Within_m y26 (line.length : Int)).bind fun y28 => some (Fl.nx (ρ := List Int) (β := Unit) y28) else some (.nx (0 : Int))) (FlOk (fun at_ => ∃ a : Nat, at_ = a ∧ a < n) (fun _ => False) (fun _ => False)) := by
      by_cases hz : (l.length : Int) > 0
      · rw [if_pos (by rw [decide_eq_true_eq]; exact hz), show (0 : Int) = ((0 : Nat) : Int) from rfl, idx_nat, nth_at (by omega), Option.bind_some, within_at _ _ (by omega) (by omega), Option.bind_some, ok_some, flok_nx]
        have b0 := Int.emod_nonneg (nth l 0) (b := (line.length : Int)) (by omega)
        have b1 := Int.emod_lt_of_pos (nth l 0) (b := (line.length : Int)) (by omega)
        exact ⟨(nth l 0 % (line.length : Int)).toNat, by omega, by omega⟩
      · rw [if_neg (by rw [decide_eq_true_eq]; exact hz), ok_some, flok_nx]
        exact ⟨0, rfl, by omega⟩
    refine first.fl (fun at_ h => ?_) (fun _ h => h.elim) (fun _ h => h.elim)
    obtain ⟨a, rfl, ha⟩ := h
    rw [idx_nat, nth_at (by omega), Option.bind_some, ok_bindR, wsub_of (by omega) (by omega), wadd_of (by omega) (by omega)]
    refine Ok.fl (N := fun s : List Int × Int × Int × Int => ∃ lo, Laid n line s.1 lo n) (B := fun _ => False) (R := fun _ => False) (ok_loopM (fun s : List Int × Int × Int × Int => ∃ lo i : Nat, s = (s.1, (lo : Int) - 1, ((lo + i : Nat) : Int), (i : Int)) ∧ Laid n line s.1 lo i) (fun s => (n - s.2.2.2).toNat) (fun s hs => ?_) _ _ ⟨a, 1, by simp, ⟨rfl, by omega, by omega, rfl, by simp, fun x => ?_⟩⟩ (by dsimp only; omega)) (fun s hs => ?_) (fun _ h => h.elim) (fun _ h => h.elim)
    · obtain ⟨out, low, high, k⟩ := s
      obtain ⟨lo, i, e, hL⟩ := hs
      simp only [Prod.mk.injEq] at e
      obtain ⟨_, rfl, rfl, rfl⟩ := e
      dsimp only at hL ⊢
      have hol := hL.len
      have hhi := hL.hi
      unfold pk_along_b1
      dsimp only
      rw [hlen]
      by_cases hin : i < n
      · rw [if_pos (by rw [decide_eq_true_eq]; omega)]
        have goHigh : lo + i < n → Ok ((idx line ((lo + i : Nat) : Int)).bind fun y167 => (chk (out.length + [y167].length ≤ 68719476736)).bind fun _ => some (Fl.nx (ρ := List Int) (β := List Int × Int × Int × Int) (out ++ [y167], (lo : Int) - 1, wadd ((lo + i : Nat) : Int) 1, wadd (i : Int) 1))) (FlOk (fun s' => (∃ lo i : Nat, s' = (s'.1, (lo : Int) - 1, ((lo + i : Nat) : Int), (i : Int)) ∧ Laid n line s'.1 lo i) ∧ (n - s'.2.2.2).toNat < ((n : Int) - (i : Int)).toNat) (fun s => ∃ lo, Laid n line s.1 lo n) (fun _ => False)) := fun hlt => by
          rw [idx_nat, nth_at (by omega), Option.bind_some, chk_t (by simp; omega), Option.bind_some, ok_some, flok_nx, wadd_of (by omega) (by omega), wadd_of (by omega) (by omega)]
          exact ⟨⟨lo, i + 1, by dsimp only; rw [Prod.mk.injEq, Prod.mk.injEq, Prod.mk.injEq]; exact ⟨rfl, rfl, by omega, by omega⟩, hL.high hl hlt⟩, by dsimp only; omega⟩
        have goLow : 1 ≤ lo → Ok ((idx line ((lo : Int) - 1)).bind fun y155 => (chk (out.length + [y155].length ≤ 68719476736)).bind fun _ => some (Fl.nx (ρ := List Int) (β := List Int × Int × Int × Int) (out ++ [y155], wsub ((lo : Int) - 1) 1, ((lo + i : Nat) : Int), wadd (i : Int) 1))) (FlOk (fun s' => (∃ lo i : Nat, s' = (s'.1, (lo : Int) - 1, ((lo + i : Nat) : Int), (i : Int)) ∧ Laid n line s'.1 lo i) ∧ (n - s'.2.2.2).toNat < ((n : Int) - (i : Int)).toNat) (fun s => ∃ lo, Laid n line s.1 lo n) (fun _ => False)) := fun hlt => by
          obtain ⟨lo', rfl⟩ : ∃ q, lo = q + 1 := ⟨lo - 1, by omega⟩
          rw [show ((lo' + 1 : Nat) : Int) - 1 = (lo' : Int) by omega, idx_nat, nth_at (by omega), Option.bind_some, chk_t (by simp; omega), Option.bind_some, ok_some, flok_nx, wadd_of (by omega) (by omega), wsub_of (by omega) (by omega)]
          exact ⟨⟨lo', i + 1, by dsimp only; rw [Prod.mk.injEq, Prod.mk.injEq, Prod.mk.injEq]; exact ⟨rfl, rfl, by omega, by omega⟩, hL.low hl⟩, by dsimp only; omega⟩
        by_cases c1 : lo + i = n
        · rw [if_pos (by rw [decide_eq_true_eq]; omega)]
          simp only [bindF, if_true]
          exact goLow (by omega)
        · rw [if_neg (by rw [decide_eq_true_eq]; omega)]
          by_cases c2 : 1 ≤ lo
          · rw [if_pos (by rw [decide_eq_true_eq]; omega)]
            by_cases c3 : i < l.length
            · rw [if_pos (by rw [decide_eq_true_eq]; omega), idx_nat, nth_at c3, Option.bind_some, chk_t (by decide), Option.bind_some]
              simp only [bindF]
              by_cases c4 : (Int.tmod (nth l i) 2 == 0) = true
              · rw [if_pos c4]; exact goLow c2
              · rw [if_neg c4]; exact goHigh (by omega)
            · rw [if_neg (by rw [decide_eq_true_eq]; omega)]
              simp only [bindF, Bool.false_eq_true, if_false]
              exact goHigh (by omega)
          · rw [if_neg (by rw [decide_eq_true_eq]; omega)]
            simp only [bindF, Bool.false_eq_true, if_false]
            exact goHigh (by omega)
      · rw [if_neg (by rw [decide_eq_true_eq]; omega), ok_some, flok_br]
        have : i = n := by omega
        subst this
        exact ⟨lo, hL⟩
    · dsimp only
      rw [List.mem_singleton]
      constructor
      · rintro rfl; exact ⟨a, by omega, by omega, rfl⟩
      · rintro ⟨t, t1, t2, rfl⟩; rw [show t = a by omega]
    · obtain ⟨out, low, high, k⟩ := s
      obtain ⟨lo, hL⟩ := hs
      dsimp only at hL ⊢
      rw [ok_some]
      have : lo = 0 := by have := hL.hi; omega
      subst this
      exact ⟨hL.ord hl, hL.ok⟩
  exact key
/-- who stands between is not the last of the three -/
theorem al_sp {n : Nat} {line p : List Int} (hl : Ord n line) (hp : Ord n p) : ∀ (i lo : Nat), lo + i < n → al line p i lo = true → (∀ t, lo ≤ t → t ≤ lo + i → p.idxOf (nth line t) ≤ i) → ∀ u v w, lo ≤ u → u < v → v < w → w ≤ lo + i → p.idxOf (nth line v) < p.idxOf (nth line u) ∨ p.idxOf (nth line v) < p.idxOf (nth line w)
  | 0, lo, h, _, _, u, v, w, h1, h2, h3, h4 => by omega
  | i + 1, lo, h, ha, hI, u, v, w, h1, h2, h3, h4 => by
    have inj : ∀ s t, s < n → t < n → p.idxOf (nth line s) = p.idxOf (nth line t) → s = t := fun s t hs ht e => by
      have vs := hl.val hs; have vt := hl.val ht
      have e1 := hp.idx_inj (x := (nth line s).toNat) (y := (nth line t).toNat) (by omega) (by omega) (by
        rw [show (((nth line s).toNat : Nat) : Int) = nth line s by omega, show (((nth line t).toNat : Nat) : Int) = nth line t by omega]; exact e)
      exact line_inj hl hs ht (by omega)
    have ve := hp.idx (show i + 1 < n by omega)
    simp only [al] at ha
    have hv := hI v (by omega) (by omega)
    by_cases c1 : nth p (i + 1) = nth line lo
    · rw [if_pos c1] at ha
      rw [c1] at ve
      by_cases cu : u = lo
      · subst cu
        left
        have := inj v u (by omega) (by omega)
        omega
      · refine al_sp hl hp i (lo + 1) (by omega) ha (fun t t1 t2 => ?_) u v w (by omega) h2 h3 (by omega)
        have := hI t (by omega) (by omega)
        have := inj t lo (by omega) (by omega)
        omega
    · rw [if_neg c1] at ha
      by_cases c2 : nth p (i + 1) = nth line (lo + i + 1)
      · rw [if_pos c2] at ha
        rw [c2] at ve
        by_cases cw : w = lo + i + 1
        · subst cw
          right
          have := inj v (lo + i + 1) (by omega) (by omega)
          omega
        · refine al_sp hl hp i lo (by omega) ha (fun t t1 t2 => ?_) u v w h1 h2 h3 (by omega)
          have := hI t (by omega) (by omega)
          have := inj t (lo + i + 1) (by omega) (by omega)
          omega
      · rw [if_neg c2] at ha; cases ha
theorem along_sp {n : Nat} {line p : List Int} (h0 : 1 ≤ n) (hl : Ord n line) (hp : Ord n p) (h : along n line p = true) {u v w : Nat} (h1 : u < v) (h2 : v < w) (h3 : w < n) : p.idxOf (nth line v) < p.idxOf (nth line u) ∨ p.idxOf (nth line v) < p.idxOf (nth line w) := by
  refine al_sp hl hp (n - 1) 0 (by omega) h (fun t _ ht => ?_) u v w (by omega) h1 h2 (by omega)
  have vt := hl.val (show t < n by omega)
  have := hp.idx_lt (x := (nth line t).toNat) (by omega)
  rw [show (((nth line t).toNat : Nat) : Int) = nth line t by omega] at this
  omega
/-- b stands between a and c on the line -/
def btw (line : List Int) (a b c : Nat) : Prop := (line.idxOf (a : Int) < line.idxOf (b : Int) ∧ line.idxOf (b : Int) < line.idxOf (c : Int)) ∨ (line.idxOf (c : Int) < line.idxOf (b : Int) ∧ line.idxOf (b : Int) < line.idxOf (a : Int))
theorem btw_bf {n : Nat} {line p : List Int} (h0 : 1 ≤ n) (hl : Ord n line) (hp : Ord n p) (h : along n line p = true) {a b c : Nat} (ha : a < n) (hb : b < n) (hc : c < n) (hm : btw line a b c) : bf p b a = true ∨ bf p b c = true := by
  have la := hl.idx_lt ha; have lb := hl.idx_lt hb; have lc := hl.idx_lt hc
  have ea := hl.at_idx ha; have eb := hl.at_idx hb; have ec := hl.at_idx hc
  unfold bf
  rw [decide_eq_true_eq, decide_eq_true_eq]
  rcases hm with ⟨m1, m2⟩ | ⟨m1, m2⟩
  · have := along_sp h0 hl hp h m1 m2 lc
    rw [ea, eb, ec] at this; exact this
  · have := along_sp h0 hl hp h m1 m2 la
    rw [ea, eb, ec] at this; exact this.symm
theorem btw_or {n : Nat} {line : List Int} (hl : Ord n line) {a b c : Nat} (ha : a < n) (hb : b < n) (hc : c < n) (hab : a ≠ b) (hbc : b ≠ c) (hac : a ≠ c) : btw line a b c ∨ btw line b a c ∨ btw line a c b := by
  have h1 : line.idxOf (a : Int) ≠ line.idxOf (b : Int) := fun e => hab (hl.idx_inj ha hb e)
  have h2 : line.idxOf (b : Int) ≠ line.idxOf (c : Int) := fun e => hbc (hl.idx_inj hb hc e)
  have h3 : line.idxOf (a : Int) ≠ line.idxOf (c : Int) := fun e => hac (hl.idx_inj ha hc e)
  unfold btw; omega
theorem duel_le {v : List (List Int)} {a b c d : Nat} (h : ∀ p ∈ v, bf p a b = true → bf p c d = true) : duel v a b ≤ duel v c d := by
  induction v with
  | nil => simp [duel]
  | cons p v ih =>
    have := ih fun q hq => h q (by simp [hq])
    have hp := h p (by simp)
    simp only [duel]
    split
    · rename_i h1; rw [if_pos (hp h1)]; omega
    · split <;> omega
theorem bf_trans {p : List Int} {a b c : Nat} (h1 : bf p a b = true) (h2 : bf p b c = true) : bf p a c = true := by
  unfold bf at *; rw [decide_eq_true_eq] at *; omega
/-- to beat goes on over a third -/
theorem beat_trans {n : Nat} {line : List Int} {v : List (List Int)} (h0 : 1 ≤ n) (hl : Ord n line) (hv : ∀ p ∈ v, Ord n p ∧ along n line p = true) {a b c : Nat} (ha : a < n) (hb : b < n) (hc : c < n) (hac : a ≠ c) (h1 : duel v b a < duel v a b) (h2 : duel v c b < duel v b c) : duel v c a < duel v a c := by
  have hab : a ≠ b := fun e => by subst e; omega
  have hbc : b ≠ c := fun e => by subst e; omega
  have hO : ∀ p ∈ v, Ord n p := fun p hp => (hv p hp).1
  have s1 := duel_sum hO ha hb hab
  have s2 := duel_sum hO hb hc hbc
  have s3 := duel_sum hO ha hc hac
  rcases btw_or hl ha hb hc hab hbc hac with m | m | m
  · have : duel v a b ≤ duel v a c := duel_le fun p hp hpb => by
      rcases btw_bf h0 hl (hO p hp) (hv p hp).2 ha hb hc m with h | h
      · have := bf_or (hO p hp) ha hb hab; rw [hpb, h] at this; cases this
      · exact bf_trans hpb h
    omega
  · have : duel v b c ≤ duel v a c := duel_le fun p hp hpb => by
      rcases btw_bf h0 hl (hO p hp) (hv p hp).2 hb ha hc m with h | h
      · exact bf_trans h hpb
      · exact h
    omega
  · have : duel v b c ≤ duel v b a := duel_le fun p hp hpb => by
      rcases btw_bf h0 hl (hO p hp) (hv p hp).2 ha hc hb m with h | h
      · exact bf_trans hpb h
      · have := bf_or (hO p hp) hb hc hbc; rw [hpb, h] at this; cases this
    omega
end Go.Pu
