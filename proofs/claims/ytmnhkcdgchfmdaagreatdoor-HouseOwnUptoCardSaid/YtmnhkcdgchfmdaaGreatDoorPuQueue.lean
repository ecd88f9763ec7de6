/- What is offered: what the queue's functions answer. -/
import Derived.Test.YtmnhkcdgchfmdaaGreatDoorWHouseOwnModels
import Derived.Test.YtmnhkcdgchfmdaaGreatDoorPuWp
import Derived.Test.YtmnhkcdgchfmdaaGreatDoorPuGood
import Derived.Test.YtmnhkcdgchfmdaaGreatDoorPuFl
set_option linter.all false
namespace Go.Pu
open Go.Fw Go.Mo
abbrev Deal := List UInt8 × List UInt8 × Int × Int × Int × Int
abbrev Acct := List UInt8 × Int × Int
def Short (s : List UInt8) : Prop := s.length ≤ 9223372036854775807
def ShortD (d : Deal) : Prop := Short d.1 ∧ Short d.2.1
/-- is it a name? -/
def nm (s : List UInt8) : Bool := (ledger_named_m s).getD false
theorem named_ok {s : List UInt8} (h : Short s) : ledger_named_m s = some (nm s) := by
  have : Ok (ledger_named_m s) (fun _ => True) := by
    unfold ledger_named_m
    rw [chk_t (show s.length ≤ 9223372036854775807 from h), Option.bind_some, ok_bindR]
    refine ok_rangeL (fun _ _ => True) trivial (fun i x t hi _ => ?_) fun t _ => ?_
    · unfold ledger_named_b1
      simp only [ok_bindF, ok_ite, ok_some, flok_nx, flok_rt]
      simp
    · simp only [ok_bindR, ok_ite, ok_some, flok_nx, flok_rt]
      simp
  obtain ⟨b, e, _⟩ := this
  unfold nm; rw [e]; rfl
/-- is the deal in a right form? -/
def rt (d : Deal) : Int := (ledger_Right_m d).getD 0
theorem right_all {d : Deal} (h : ShortD d) : Ok (ledger_Right_m d) (fun e => e = 0 → (0 ≤ d.2.2.1 ∧ d.2.2.1 ≤ 1000000) ∧ (0 ≤ d.2.2.2.1 ∧ d.2.2.2.1 ≤ 1000000) ∧ (0 ≤ d.2.2.2.2.1 ∧ d.2.2.2.2.1 ≤ 1000000) ∧ (1 ≤ d.2.2.2.2.2 ∧ d.2.2.2.2.2 ≤ 100) ∧ nm d.1 = true ∧ nm d.2.1 = true ∧ d.1 ≠ d.2.1) := by
  unfold ledger_Right_m
  rw [named_ok h.1, named_ok h.2]
  simp only [Option.bind_some, ok_bindR, ok_ite, ok_some, flok_nx, decide_eq_true_eq, Bool.not_eq_true', beq_iff_eq]
  grind
theorem right_ok {d : Deal} (h : ShortD d) : ledger_Right_m d = some (rt d) := by
  obtain ⟨e, he, _⟩ := right_all h
  unfold rt; rw [he]; rfl
theorem rt_facts {d : Deal} (h : ShortD d) (h0 : rt d = 0) : (0 ≤ d.2.2.1 ∧ d.2.2.1 ≤ 1000000) ∧ (0 ≤ d.2.2.2.1 ∧ d.2.2.2.1 ≤ 1000000) ∧ (0 ≤ d.2.2.2.2.1 ∧ d.2.2.2.2.1 ≤ 1000000) ∧ (1 ≤ d.2.2.2.2.2 ∧ d.2.2.2.2.2 ≤ 100) ∧ nm d.1 = true ∧ nm d.2.1 = true ∧ d.1 ≠ d.2.1 := by
  obtain ⟨e, he, hf⟩ := right_all h
  have : rt d = e := by unfold rt; rw [he]; rfl
  exact hf (by omega)
/-- whose, and which -/
def key (d : Deal) : List UInt8 × Int := (d.1, d.2.2.1)
theorem findQ_ok (l : List Deal) (s : List UInt8) (n : Int) : queue_find_m l s n = some (if l.any (fun d => key d == (s, n)) then (l.findIdx (fun d => key d == (s, n)) : Int) else -1) := by
  unfold queue_find_m slices_IndexFunc_api_Deal_api_Deal_m
  rw [rangeL_first (γ := Unit) (fun d => key d == (s, n)) l (fun i x _ => by
    unfold slices_IndexFunc_api_Deal_api_Deal_b1 queue_find_1_m
    have : (key x == (s, n)) = (x.1 == s && x.2.2.1 == n) := rfl
    rw [this]
    dsimp only
    by_cases h1 : (x.1 == s) = true
    · rw [if_pos h1, h1, Bool.true_and]; rfl
    · rw [if_neg h1]
      have h1' : (x.1 == s) = false := by simpa using h1
      rw [h1']; rfl)]
  by_cases h : l.any (fun d => key d == (s, n)) = true
  · rw [if_pos h, if_pos h]; simp [bindR]
  · rw [if_neg h, if_neg h]; rfl
/-- each key once, all in a right form -/
structure Queue (l : List Deal) : Prop where
  len : l.length ≤ 20
  right : ∀ d ∈ l, rt d = 0
  once : ∀ i j, i < j → j < l.length → key (nth l i) ≠ key (nth l j)
theorem any_key {l : List Deal} {k : List UInt8 × Int} : l.any (fun d => key d == k) = true ↔ ∃ i, i < l.length ∧ key (nth l i) = k := by
  rw [List.any_eq_true]
  constructor
  · rintro ⟨d, hd, e⟩
    obtain ⟨i, hi, rfl⟩ := mem_nth hd
    exact ⟨i, hi, by simpa using e⟩
  · rintro ⟨i, hi, e⟩
    exact ⟨nth l i, nth_mem hi, by simpa using e⟩
theorem checkQ_ok {l : List Deal} (hs : ∀ d ∈ l, ShortD d) : ∃ e, queue_Check_m l = some e ∧ (e = 0 ↔ Queue l) := by
  have : Ok (queue_Check_m l) (fun e => e = 0 ↔ Queue l) := by
    unfold queue_Check_m
    by_cases h20 : (l.length : Int) > 20
    · rw [if_pos (by rw [decide_eq_true_eq]; exact h20), ok_some]
      exact ⟨fun h => by (cases h), fun h => by have := h.len; omega⟩
    · rw [if_neg (by rw [decide_eq_true_eq]; exact h20), ok_bindR]
      refine ok_rangeL (fun k _ => (∀ i, i < k → rt (nth l i) = 0) ∧ ∀ i j, i < j → j < k → key (nth l i) ≠ key (nth l j)) ⟨fun i hi => by omega, fun i j _ hj => by omega⟩ (fun k d t hk hI => ?_) fun t ht => ?_
      · obtain ⟨hd, hkl⟩ := nth_of hk
        have hsd := hs d (List.mem_of_getElem? hk)
        unfold queue_Check_b1
        rw [right_ok hsd, Option.bind_some]
        by_cases hr : rt d = 0
        · rw [if_neg (by rw [bne_iff_ne]; exact fun h => h hr), chk_t (by omega), Option.bind_some, findQ_ok, Option.bind_some, Int.toNat_natCast, List.drop_zero]
          by_cases ha : (l.take k).any (fun x => key x == (d.1, d.2.2.1)) = true
          · rw [if_pos ha, if_pos (by rw [decide_eq_true_eq]; omega), ok_some, flok_rt]
            obtain ⟨i, hi, e⟩ := any_key.1 ha
            rw [List.length_take] at hi
            rw [nth_take (by omega)] at e
            exact ⟨fun h => by (cases h), fun h => absurd (e.trans (show (d.1, d.2.2.1) = key (nth l k) by rw [hd]; rfl)) (h.once i k (by omega) hkl)⟩
          · rw [if_neg ha, if_neg (by decide), ok_some, flok_nx]
            refine ⟨fun i hi => ?_, fun i j hij hj => ?_⟩
            · by_cases e : i = k
              · subst e; rw [hd]; exact hr
              · exact hI.1 i (by omega)
            · by_cases e : j = k
              · subst e
                intro h
                refine ha (any_key.2 ⟨i, by rw [List.length_take]; omega, ?_⟩)
                rw [nth_take hij, h, hd]; rfl
              · exact hI.2 i j hij (by omega)
        · rw [if_pos (by rw [bne_iff_ne]; exact hr), ok_some, flok_rt]
          exact ⟨fun h => absurd h hr, fun h => absurd (h.right d (List.mem_of_getElem? hk)) hr⟩
      · rw [ok_some]
        refine ⟨fun _ => ⟨by omega, fun d hd => ?_, ht.2⟩, fun _ => rfl⟩
        obtain ⟨i, hi, rfl⟩ := mem_nth hd
        exact ht.1 i hi
  exact this
/-- the place of a key that is there -/
theorem Queue.idx {l : List Deal} (h : Queue l) {i : Nat} (hi : i < l.length) : l.any (fun d => key d == key (nth l i)) = true ∧ l.findIdx (fun d => key d == key (nth l i)) = i := by
  have ha : l.any (fun d => key d == key (nth l i)) = true := any_key.2 ⟨i, hi, rfl⟩
  refine ⟨ha, ?_⟩
  have hlt : l.findIdx (fun d => key d == key (nth l i)) < l.length := List.findIdx_lt_length.2 (by rw [List.any_eq_true] at ha; exact ha)
  have hk := List.findIdx_getElem (w := hlt)
  rw [← nth_get hlt, beq_iff_eq] at hk
  by_cases e : l.findIdx (fun d => key d == key (nth l i)) = i
  · exact e
  · rcases Nat.lt_or_gt_of_ne e with h1 | h1
    · exact absurd hk (h.once _ _ h1 hi)
    · exact absurd hk.symm (h.once _ _ h1 hlt)
/-- what queue.Add comes to -/
inductive Added (l : List Deal) (d : Deal) : List Deal × Int → Prop
  | no (e : Int) : e ≠ 0 → Added l d ([], e)
  | at (i : Nat) : Queue l → rt d = 0 → i < l.length → key (nth l i) = key d → (nth l i).2.2.2.2.1 < d.2.2.2.2.1 → Added l d (l.set i d, 0)
  | end_ : Queue l → rt d = 0 → (∀ i, i < l.length → key (nth l i) ≠ key d) → l.length < 20 → Added l d (l ++ [d], 0)
theorem cloneQ (l : List Deal) (h : l.length ≤ 1000) : slices_Clone_api_Deal_api_Deal_m l = some l := by unfold slices_Clone_api_Deal_api_Deal_m; rw [chk_t (by omega)]; rfl
theorem add_ok {l : List Deal} {d : Deal} (hs : ∀ d ∈ l, ShortD d) (hd : ShortD d) : Ok (queue_Add_m l d) (Added l d) := by
  obtain ⟨e, he, hq⟩ := checkQ_ok hs
  unfold queue_Add_m
  rw [he, Option.bind_some]
  by_cases h0 : e = 0
  · have hQ := hq.1 h0
    have hlen := hQ.len
    rw [if_neg (by rw [bne_iff_ne]; exact fun h => h h0), right_ok hd, Option.bind_some]
    by_cases hr : rt d = 0
    · rw [if_neg (by rw [bne_iff_ne]; exact fun h => h hr), findQ_ok, Option.bind_some]
      by_cases ha : l.any (fun x => key x == (d.1, d.2.2.1)) = true
      · obtain ⟨i, hi, ei⟩ := any_key.1 ha
        have hx := (hQ.idx hi).2
        rw [ei] at hx
        rw [if_pos ha, if_pos (by rw [decide_eq_true_eq]; omega), hx, idx_nat, nth_at hi, Option.bind_some]
        by_cases hf : d.2.2.2.2.1 ≤ (nth l i).2.2.2.2.1
        · rw [if_pos (by rw [decide_eq_true_eq]; exact hf), ok_some]; exact .no 7 (by decide)
        · rw [if_neg (by rw [decide_eq_true_eq]; exact hf), cloneQ l (by omega), Option.bind_some, idx_nat, nth_at hi, Option.bind_some, ok_some, Int.toNat_natCast]
          exact .at i hQ hr hi ei (by omega)
      · rw [if_neg ha, if_neg (by decide)]
        by_cases h20 : l.length = 20
        · rw [if_pos (by rw [beq_iff_eq]; omega), ok_some]; exact .no 8 (by decide)
        · rw [if_neg (by rw [beq_iff_eq]; omega), cloneQ l (by omega), Option.bind_some, chk_t (by simp only [List.length_cons, List.length_nil]; omega), Option.bind_some, ok_some]
          exact .end_ hQ hr (fun i hi e => ha (any_key.2 ⟨i, hi, e⟩)) (by omega)
    · rw [if_pos (by rw [bne_iff_ne]; exact hr), ok_some]; exact .no _ hr
  · rw [if_pos (by rw [bne_iff_ne]; exact h0), ok_some]; exact .no _ h0
theorem Queue.set {l : List Deal} (h : Queue l) {i : Nat} {d : Deal} (hi : i < l.length) (hr : rt d = 0) (hk : key (nth l i) = key d) : Queue (l.set i d) := by
  have kk : ∀ j, key (nth (l.set i d) j) = key (nth l j) := fun j => by
    rw [nth_set hi]
    split
    · rename_i e; subst e; exact hk.symm
    · rfl
  refine ⟨by rw [List.length_set]; exact h.len, fun x hx => ?_, fun a b hab hb => by rw [kk, kk]; exact h.once a b hab (by rw [List.length_set] at hb; exact hb)⟩
  rcases List.mem_or_eq_of_mem_set hx with hx | hx
  · exact h.right x hx
  · subst hx; exact hr
theorem Queue.snoc {l : List Deal} (h : Queue l) {d : Deal} (hr : rt d = 0) (hk : ∀ i, i < l.length → key (nth l i) ≠ key d) (hl : l.length < 20) : Queue (l ++ [d]) := by
  refine ⟨by simp; omega, fun x hx => ?_, fun a b hab hb => ?_⟩
  · rcases List.mem_append.1 hx with hx | hx
    · exact h.right x hx
    · rw [List.mem_singleton] at hx; subst hx; exact hr
  · rw [List.length_append, List.length_singleton] at hb
    rw [nth_append, nth_append, if_pos (by omega)]
    by_cases e : b < l.length
    · rw [if_pos e]; exact h.once a b hab e
    · rw [if_neg e, show b - l.length = 0 by omega]; exact hk a (by omega)
theorem Added.queue {l : List Deal} {d : Deal} {p : List Deal × Int} (h : Added l d p) (h0 : p.2 = 0) : Queue p.1 := by
  cases h with
  | no e he => exact absurd h0 he
  | «at» i hQ hr hi hk hf => exact hQ.set hi hr hk
  | end_ hQ hr hk hl => exact hQ.snoc hr hk hl
theorem queues_t : pk_queues_m = some true := by decide +kernel
theorem equal_deal (a b : List Deal) : slices_Equal_api_Deal_api_Deal_m a b = some (decide (a = b)) := by
  apply Ok.eq
  unfold slices_Equal_api_Deal_api_Deal_m
  simp only [ok_ite, ok_some, ok_bindR, bne_iff_ne]
  refine ⟨fun h => ?_, fun h => ?_⟩
  · rw [eq_comm, decide_eq_false_iff_not]; intro e; subst e; exact h rfl
  · have hl : a.length = b.length := by omega
    refine ok_rangeL (fun k _ => ∀ j, j < k → nth a j = nth b j) (by intro j hj; omega) (fun k x s hk hI => ?_) fun s hs => ?_
    · obtain ⟨hx, hka⟩ := nth_of hk
      unfold slices_Equal_api_Deal_api_Deal_b1
      rw [idx_nat, nth_at (show k < b.length by omega), Option.bind_some]
      by_cases e : x = nth b k
      · rw [if_neg (by simp [e]), ok_some, flok_nx]
        intro j hj
        by_cases hjk : j = k
        · subst hjk; rw [hx]; exact e
        · exact hI j (by omega)
      · rw [if_pos (by simp [e]), ok_some, flok_rt, eq_comm, decide_eq_false_iff_not]
        intro h'; subst h'; exact e hx.symm
    · rw [eq_comm, decide_eq_true_eq]; exact nth_ext hl hs
end Go.Pu
