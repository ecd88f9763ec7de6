/- The plain law: whoever shall beat whom, there are votes by which it is so. -/
import Derived.Test.YtfhfoechannphaaWDuelMcGarveyModels
import Derived.Test.YtfhfoechannphaaPuDuels
import Derived.Test.YtfhfoechannphaaPuGood
import Derived.Test.YtfhfoechannphaaPuEq
import Derived.Test.YtfhfoechannphaaPuFl
set_option linter.all false
namespace Go.Pu
open Go.Fw Go.Mo
abbrev Pr := Nat × Nat
def rw_ (p : Pr) : List Int := [(p.1 : Int), (p.2 : Int)]
def rows2 (l : List Pr) : List (List Int) := l.map rw_
def rest_ (n : Nat) (p : Pr) : List Int := (sides n).filter fun k => decide (k ≠ (p.1 : Int) ∧ k ≠ (p.2 : Int))
def vA (n : Nat) (p : Pr) : List Int := rw_ p ++ rest_ n p
def vB (n : Nat) (p : Pr) : List Int := (rest_ n p).reverse ++ rw_ p
/-- whoever is told, each pair once -/
structure Goodp (n : Nat) (l : List Pr) : Prop where
  val : ∀ p ∈ l, p.1 < n ∧ p.2 < n ∧ p.1 ≠ p.2
  once : l.Pairwise fun p q => p ≠ q ∧ p ≠ (q.2, q.1)
theorem rw_inj {p q : Pr} : rw_ p = rw_ q ↔ p = q := by
  obtain ⟨a, b⟩ := p; obtain ⟨c, d⟩ := q
  simp [rw_]; omega
theorem in_all {n x y : Nat} (hn : n < 7) (hx : x < n) (hy : y < n) : (x, y) ∈ ((List.range 6).flatMap fun a => (List.range 6).map fun b => (a, b)) := by
  rw [List.mem_flatMap]
  exact ⟨x, List.mem_range.2 (by omega), List.mem_map.2 ⟨y, List.mem_range.2 (by omega), rfl⟩⟩
def isP {ρ β : Type} (x : Option (Fl ρ β (List Int × List Int))) (y : List Int × List Int) : Bool := match x with | some (.nx s) => decide (s = y) | _ => false
theorem isP_eq {ρ β : Type} {x : Option (Fl ρ β (List Int × List Int))} {y : List Int × List Int} (h : isP x y = true) : x = some (.nx y) := by
  unfold isP at h
  split at h
  · rw [of_decide_eq_true h]
  · cases h
def allP : List Pr := (List.range 6).flatMap fun a => (List.range 6).map fun b => (a, b)
theorem loop_all : (List.range 7).all (fun n => allP.all fun p => !(decide (p.1 < n) && decide (p.2 < n) && decide (p.1 ≠ p.2)) || isP (rangeN (γ := List (List Int)) (duel_Votes_b2 (rw_ p)) n 0 (rw_ p, [])) (vA n p, (rest_ n p).reverse)) = true := by decide +kernel
theorem perm_all : (List.range 7).all (fun n => allP.all fun p => !(decide (p.1 < n) && decide (p.2 < n) && decide (p.1 ≠ p.2)) || ((vA n p).isPerm (sides n) && (vB n p).isPerm (sides n))) = true := by decide +kernel
def dif (v : List (List Int)) (a b : Nat) : Int := duel v a b - duel v b a
def want (p : Pr) (a b : Nat) : Int := if p = (a, b) then 2 else if p = (b, a) then -2 else 0
theorem dif_all : (List.range 7).all (fun n => allP.all fun p => !(decide (p.1 < n) && decide (p.2 < n) && decide (p.1 ≠ p.2)) || (List.range n).all fun a => (List.range n).all fun b => decide (dif [vA n p, vB n p] a b = want p a b)) = true := by decide +kernel
section
variable {n : Nat} {p : Pr}
theorem p_in (hn : n < 7) (h1 : p.1 < n) (h2 : p.2 < n) (_ : p.1 ≠ p.2) : p ∈ allP := in_all hn h1 h2
theorem loop_at (hn : n < 7) (h1 : p.1 < n) (h2 : p.2 < n) (h3 : p.1 ≠ p.2) : rangeN (γ := List (List Int)) (duel_Votes_b2 (rw_ p)) n 0 (rw_ p, []) = some (.nx (vA n p, (rest_ n p).reverse)) := by
  have := List.all_eq_true.1 (List.all_eq_true.1 loop_all n (List.mem_range.2 hn)) p (p_in hn h1 h2 h3)
  apply isP_eq
  simpa [h1, h2, h3] using this
theorem perm_at (hn : n < 7) (h1 : p.1 < n) (h2 : p.2 < n) (h3 : p.1 ≠ p.2) : Ord n (vA n p) ∧ Ord n (vB n p) := by
  have := List.all_eq_true.1 (List.all_eq_true.1 perm_all n (List.mem_range.2 hn)) p (p_in hn h1 h2 h3)
  simp only [h1, h2, h3, decide_true, Bool.and_self, ne_eq, not_false_eq_true, Bool.not_true, Bool.false_or, Bool.and_eq_true, List.isPerm_iff] at this
  exact ⟨(sides_ord n).perm this.1, (sides_ord n).perm this.2⟩
theorem dif_at (hn : n < 7) (h1 : p.1 < n) (h2 : p.2 < n) (h3 : p.1 ≠ p.2) {a b : Nat} (ha : a < n) (hb : b < n) : dif [vA n p, vB n p] a b = want p a b := by
  have := List.all_eq_true.1 (List.all_eq_true.1 dif_all n (List.mem_range.2 hn)) p (p_in hn h1 h2 h3)
  simp only [h1, h2, h3, decide_true, Bool.and_self, ne_eq, not_false_eq_true, Bool.not_true, Bool.false_or] at this
  exact of_decide_eq_true (List.all_eq_true.1 (List.all_eq_true.1 this a (List.mem_range.2 ha)) b (List.mem_range.2 hb))
end
/-- two votes for each -/
def votes2 (n : Nat) (l : List Pr) : List (List Int) := l.flatMap fun p => [vA n p, vB n p]
theorem votes2_len (n : Nat) (l : List Pr) : (votes2 n l).length = 2 * l.length := by
  induction l with
  | nil => rfl
  | cons p l ih => simp only [votes2, List.flatMap_cons, List.length_append, List.length_cons, List.length_nil] at ih ⊢; omega
def code (p : Pr) : Nat := (if p.1 < p.2 then p.1 else p.2) * 6 + if p.1 < p.2 then p.2 else p.1
theorem code_all : allP.all (fun p => (decide (p.1 = p.2)) || decide (code p ∈ [1, 2, 3, 4, 5, 8, 9, 10, 11, 15, 16, 17, 22, 23, 29])) = true := by decide +kernel
theorem code_eq {n : Nat} {p q : Pr} (hn : n < 7) (h1 : p.1 < n ∧ p.2 < n) (h2 : q.1 < n ∧ q.2 < n) (e : code p = code q) : p = q ∨ p = (q.2, q.1) := by
  obtain ⟨a, b⟩ := p; obtain ⟨c, d⟩ := q
  simp only [code] at e h1 h2 ⊢
  simp only [Prod.mk.injEq]
  split at e <;> split at e <;> omega
theorem nodup_subN : ∀ {l m : List Nat}, l.Nodup → (∀ x ∈ l, x ∈ m) → l.length ≤ m.length
  | [], m, _, _ => Nat.zero_le _
  | a :: l, m, hn, hs => by
    have ha := hs a (by simp)
    rw [List.nodup_cons] at hn
    have := nodup_subN (l := l) (m := m.erase a) hn.2 fun x hx => by
      have hxa : x ≠ a := fun e => by subst e; exact hn.1 hx
      exact (List.mem_erase_of_ne hxa).2 (hs x (List.mem_cons_of_mem _ hx))
    rw [List.length_erase_of_mem ha] at this
    have := List.length_pos_of_mem ha
    simp only [List.length_cons]; omega
theorem Goodp.len {n : Nat} {l : List Pr} (h : Goodp n l) (hn : n < 7) : l.length ≤ 15 := by
  have := nodup_subN (l := l.map code) (m := [1, 2, 3, 4, 5, 8, 9, 10, 11, 15, 16, 17, 22, 23, 29]) (by
    rw [List.Nodup, List.pairwise_map]
    refine h.once.imp_of_mem fun {p q} hp hq hpq e => ?_
    have v1 := h.val p hp; have v2 := h.val q hq
    rcases code_eq hn ⟨v1.1, v1.2.1⟩ ⟨v2.1, v2.2.1⟩ e with e | e
    · exact hpq.1 e
    · exact hpq.2 e) fun x hx => by
    obtain ⟨p, hp, rfl⟩ := List.mem_map.1 hx
    have v := h.val p hp
    have := List.all_eq_true.1 code_all p (in_all hn v.1 v.2.1)
    simpa [v.2.2] using this
  simpa using this
theorem Goodp.cons {n : Nat} {p : Pr} {l : List Pr} (h : Goodp n (p :: l)) : Goodp n l := ⟨fun q hq => h.val q (by simp [hq]), (List.pairwise_cons.1 h.once).2⟩
theorem dif_ok {n : Nat} (hn : n < 7) {a b : Nat} (ha : a < n) (hb : b < n) : ∀ {l : List Pr}, Goodp n l → dif (votes2 n l) a b = if (a, b) ∈ l then 2 else if (b, a) ∈ l then -2 else 0
  | [], _ => by simp [dif, votes2, duel]
  | p :: l, h => by
    have ih := dif_ok hn ha hb h.cons
    have v := h.val p (by simp)
    have hp := dif_at hn v.1 v.2.1 v.2.2 ha hb
    have hc := (List.pairwise_cons.1 h.once).1
    have e : dif (votes2 n (p :: l)) a b = dif [vA n p, vB n p] a b + dif (votes2 n l) a b := by
      simp only [votes2, List.flatMap_cons, dif, duel_append]; omega
    rw [e, hp, ih]
    unfold want
    by_cases c1 : p = (a, b)
    · subst c1
      have n1 : (a, b) ∉ l := fun hm => (hc _ hm).1 rfl
      have n2 : (b, a) ∉ l := fun hm => (hc _ hm).2 rfl
      simp [n1, n2]
    · by_cases c2 : p = (b, a)
      · subst c2
        have n1 : (a, b) ∉ l := fun hm => (hc _ hm).2 rfl
        have n2 : (b, a) ∉ l := fun hm => (hc _ hm).1 rfl
        have : ¬ (a, b) = (b, a) := fun e => c1 e.symm
        simp [n1, n2, c1, this]
      · have m1 : ((a, b) ∈ p :: l) ↔ (a, b) ∈ l := by simp [show ¬ (a, b) = p from fun e => c1 e.symm]
        have m2 : ((b, a) ∈ p :: l) ↔ (b, a) ∈ l := by simp [show ¬ (b, a) = p from fun e => c2 e.symm]
        simp only [c1, c2, if_false, m1, m2]; omega
theorem votes_ok {n : Nat} {l : List Pr} (h0 : 1 ≤ n) (hn : n < 7) (h : Goodp n l) : duel_Votes_m (n : Int) (rows2 l) = some (votes2 n l, 0) := by
  have hl := h.len hn
  have hrl : (rows2 l).length = l.length := by simp [rows2]
  apply Ok.eq
  unfold duel_Votes_m
  rw [ok_bindR, if_neg (by rw [decide_eq_true_eq]; omega), ok_some, flok_nx, if_neg (by rw [decide_eq_true_eq]; omega), hrl, wmul_of (by omega) (by omega), if_neg (by rw [decide_eq_true_eq]; omega), ok_bindR]
  refine ok_rangeL (fun k w => w = votes2 n (l.take k)) rfl (fun k r w hk hI => ?_) fun w hw => by rw [ok_some, hw, hrl, List.take_length]
  subst hI
  obtain ⟨p, hp, rfl⟩ : ∃ p, l[k]? = some p ∧ rw_ p = r := by
    simpa [rows2, List.getElem?_map] using hk
  have v := h.val p (List.mem_of_getElem? hp)
  have hkl := (List.getElem?_eq_some_iff.1 hp).1
  have i0 : idx (rw_ p) (0 : Int) = some (p.1 : Int) := rfl
  have i1 : idx (rw_ p) (1 : Int) = some (p.2 : Int) := rfl
  have hw := votes2_len n (l.take k)
  rw [List.length_take] at hw
  have oA := (perm_at hn v.1 v.2.1 v.2.2).1.len
  have hrr : (rest_ n p).reverse.length ≤ n := by
    have : (vA n p).length = 2 + (rest_ n p).length := by simp [vA, rw_]; omega
    rw [List.length_reverse]; omega
  unfold duel_Votes_b1
  simp only [i0, i1, Option.bind_some]
  rw [if_neg (by simp [rw_]), if_neg (by rw [decide_eq_true_eq]; omega), if_neg (by rw [decide_eq_true_eq]; omega), if_neg (by rw [decide_eq_true_eq]; omega), if_neg (by rw [decide_eq_true_eq]; omega), ok_bindF, ok_some, flok_nx, if_neg (by rw [beq_iff_eq]; omega), chk_t (by omega), Option.bind_some, show ([(p.1 : Int), (p.2 : Int)] : List Int) = rw_ p from rfl, Int.toNat_natCast, loop_at hn v.1 v.2.1 v.2.2]
  simp only [bindF]
  rw [chk_t (by rw [rw_, List.length_cons, List.length_cons, List.length_nil]; omega), Option.bind_some, chk_t (by simp; omega), Option.bind_some, ok_some, flok_nx, List.take_succ, hp]
  simp [votes2, vB]
theorem has_ok (l : List Pr) (x y : Nat) : pk_DuelMcGarvey_1_m (x : Int) (y : Int) (rows2 l) = some (decide ((x, y) ∈ l)) := by
  unfold pk_DuelMcGarvey_1_m slices_ContainsFunc_rows_m slices_IndexFunc_rows_m
  rw [rangeL_first (γ := Unit) (fun r => decide (r = rw_ (x, y))) (rows2 l) (fun i r hr => by
    obtain ⟨p, hp, rfl⟩ := List.mem_map.1 hr
    have i0 : idx (rw_ p) (0 : Int) = some (p.1 : Int) := rfl
    have i1 : idx (rw_ p) (1 : Int) = some (p.2 : Int) := rfl
    unfold slices_IndexFunc_rows_b1 pk_DuelMcGarvey_1_1_m
    dsimp only
    rw [i0, i1, Option.bind_some, Option.bind_some]
    by_cases h : p.1 = x
    · by_cases h' : p.2 = y
      · have : p = (x, y) := by rw [← h, ← h']
        subst this; simp [bindR, rw_]
      · have : ¬ rw_ p = rw_ (x, y) := fun e => h' (by rw [rw_inj] at e; rw [e])
        have h'' : ¬ (p.2 : Int) = y := by omega
        simp [bindR, h, h'', this]
    · have : ¬ rw_ p = rw_ (x, y) := fun e => h (by rw [rw_inj] at e; rw [e])
      have h'' : ¬ (p.1 : Int) = x := by omega
      simp [bindR, h'', this])]
  have hm : (rows2 l).any (fun r => decide (r = rw_ (x, y))) = decide ((x, y) ∈ l) := by
    rw [Bool.eq_iff_iff, List.any_eq_true, decide_eq_true_eq]
    constructor
    · rintro ⟨r, hr, e⟩
      obtain ⟨p, hp, rfl⟩ := List.mem_map.1 hr
      rw [decide_eq_true_eq, rw_inj] at e; rw [← e]; exact hp
    · intro h; exact ⟨rw_ (x, y), List.mem_map.2 ⟨_, h, rfl⟩, by simp⟩
  rw [hm]
  by_cases h : (x, y) ∈ l
  · simp [bindR, h]
  · simp [bindR, h]
end Go.Pu
