/- Plain lemmas about the small language of the models: loops that keep an invariant, loops that fold. -/
import Derived.Test.YtpapmcdhinblaaaGreatDoorFwF
import Derived.Test.YtpapmcdhinblaaaGreatDoorWHouseOwnModels
set_option linter.all false
namespace Go.Pu
open Go.Fw
section
variable {ρ σ α β γ : Type}
theorem rangeL_first {body : Nat → α → Unit → Option (Fl Int Unit Unit)} (q : α → Bool) (l : List α) (h : ∀ i x, x ∈ l → body i x () = if q x then some (.rt (i : Int)) else some (.nx ())) :
    ∀ i, rangeL (γ := γ) body l i () = if l.any q then some (.rt ((i + l.findIdx q : Nat) : Int)) else some (.nx ()) := by
  induction l with
  | nil => intro i; rfl
  | cons x l ih =>
    intro i
    unfold rangeL
    rw [h i x (by simp)]
    by_cases hx : q x = true
    · simp [hx, List.findIdx_cons]
    · have hx' : q x = false := by simpa using hx
      rw [hx']
      simp only [Bool.false_eq_true, if_false]
      rw [ih (fun i y hy => h i y (by simp [hy])) (i + 1)]
      simp only [List.any_cons, hx', Bool.false_or, List.findIdx_cons, cond_false]
      split
      · congr 3; omega
      · rfl
theorem idx_nat {l : List α} {i : Nat} : idx l (i : Int) = l[i]? := by
  unfold idx
  rw [if_pos (by omega)]
  simp
theorem idx_at {l : List α} {i : Int} (h0 : 0 ≤ i) : idx l i = l[i.toNat]? := by unfold idx; rw [if_pos h0]
theorem wadd_of {x y : Int} (h0 : -9223372036854775808 ≤ x + y) (h1 : x + y ≤ 9223372036854775807) : wadd x y = x + y := by
  unfold wadd; rw [IntKind.wrap_i64]; omega
theorem wsub_of {x y : Int} (h0 : -9223372036854775808 ≤ x - y) (h1 : x - y ≤ 9223372036854775807) : wsub x y = x - y := by
  unfold wsub; rw [IntKind.wrap_i64]; omega
theorem wmul_of {x y : Int} (h0 : -9223372036854775808 ≤ x * y) (h1 : x * y ≤ 9223372036854775807) : wmul x y = x * y := by
  unfold wmul; rw [IntKind.wrap_i64]; omega
theorem chk_t {p : Prop} [Decidable p] (h : p) : chk p = some () := if_pos h
end
end Go.Pu
set_option linter.all false
namespace Go.Pu
open Go.Fw
def Ok {α : Type} (x : Option α) (P : α → Prop) : Prop := ∃ v, x = some v ∧ P v
def FlOk {ρ β σ : Type} (N : σ → Prop) (B : β → Prop) (R : ρ → Prop) : Fl ρ β σ → Prop
  | .nx s => N s
  | .br b => B b
  | .rt r => R r
def nth {α : Type} [Inhabited α] (l : List α) (k : Nat) : α := l.getD k default
section
variable {ρ σ α β γ τ : Type} {P : α → Prop} {N : σ → Prop} {B : β → Prop} {R : ρ → Prop}
theorem Ok.mono {x : Option α} {Q : α → Prop} (h : Ok x P) (hPQ : ∀ v, P v → Q v) : Ok x Q := let ⟨v, e, p⟩ := h; ⟨v, e, hPQ v p⟩
theorem Ok.eq {x : Option α} {v : α} (h : Ok x (fun y => y = v)) : x = some v := by obtain ⟨y, e, rfl⟩ := h; exact e
theorem Ok.of {x : Option α} {v : α} (h : x = some v) (p : P v) : Ok x P := ⟨v, h, p⟩
theorem ok_some {v : α} : Ok (some v) P ↔ P v := ⟨fun ⟨_, e, p⟩ => by cases e; exact p, fun p => ⟨v, rfl, p⟩⟩
theorem ok_bind {x : Option τ} {k : τ → Option α} : Ok (x.bind k) P ↔ Ok x (fun v => Ok (k v) P) := by
  constructor
  · rintro ⟨v, e, p⟩
    obtain ⟨y, hy, hk⟩ := Option.bind_eq_some_iff.1 e
    exact ⟨y, hy, v, hk, p⟩
  · rintro ⟨y, rfl, v, e, p⟩; exact ⟨v, e, p⟩
theorem ok_ite {p : Prop} [Decidable p] {x y : Option α} : Ok (if p then x else y) P ↔ (p → Ok x P) ∧ (¬ p → Ok y P) := by
  split
  · rename_i h; simp [h]
  · rename_i h; simp [h]
theorem flok_nx {s : σ} : FlOk N B R (.nx s) ↔ N s := Iff.rfl
theorem flok_br {b : β} : FlOk N B R (.br b) ↔ B b := Iff.rfl
theorem flok_rt {r : ρ} : FlOk N B R (.rt r) ↔ R r := Iff.rfl
theorem ok_bindR {x : Option (Fl ρ β σ)} {k : σ → Option ρ} {P : ρ → Prop} : Ok (bindR x k) P ↔ Ok x (FlOk (fun s => Ok (k s) P) (fun _ => False) P) := by
  constructor
  · rintro ⟨v, e, p⟩
    cases x with
    | none => cases e
    | some y =>
      cases y with
      | nx s => exact ⟨_, rfl, v, e, p⟩
      | br b => cases e
      | rt r => cases e; exact ⟨_, rfl, p⟩
  · rintro ⟨y, rfl, h⟩
    cases y with
    | nx s => exact h
    | br b => exact h.elim
    | rt r => exact ⟨r, rfl, h⟩
theorem ok_bindF {x : Option (Fl ρ β σ)} {k : σ → Option (Fl ρ β τ)} {P : Fl ρ β τ → Prop} : Ok (bindF x k) P ↔ Ok x (FlOk (fun s => Ok (k s) P) (fun b => P (.br b)) (fun r => P (.rt r))) := by
  constructor
  · rintro ⟨v, e, p⟩
    cases x with
    | none => cases e
    | some y =>
      cases y with
      | nx s => exact ⟨_, rfl, v, e, p⟩
      | br b => cases e; exact ⟨_, rfl, p⟩
      | rt r => cases e; exact ⟨_, rfl, p⟩
  · rintro ⟨y, rfl, h⟩
    cases y with
    | nx s => exact h
    | br b => exact ⟨_, rfl, h⟩
    | rt r => exact ⟨_, rfl, h⟩
theorem nth_at [Inhabited α] {l : List α} {k : Nat} (h : k < l.length) : l[k]? = some (nth l k) := by
  unfold nth; rw [List.getD_eq_getElem?_getD, List.getElem?_eq_getElem h]; rfl
theorem nth_get [Inhabited α] {l : List α} {k : Nat} (h : k < l.length) : nth l k = l[k] := by
  unfold nth; rw [List.getD_eq_getElem?_getD, List.getElem?_eq_getElem h]; rfl
theorem nth_of [Inhabited α] {l : List α} {k : Nat} {x : α} (h : l[k]? = some x) : nth l k = x ∧ k < l.length := by
  unfold nth; rw [List.getD_eq_getElem?_getD, h]; exact ⟨rfl, (List.getElem?_eq_some_iff.1 h).1⟩
theorem nth_mem [Inhabited α] {l : List α} {k : Nat} (h : k < l.length) : nth l k ∈ l := List.mem_of_getElem? (nth_at h)
theorem mem_nth [Inhabited α] {l : List α} {x : α} (h : x ∈ l) : ∃ k, k < l.length ∧ nth l k = x := by
  obtain ⟨k, hk, e⟩ := List.mem_iff_getElem.1 h
  exact ⟨k, hk, by rw [nth_get hk, e]⟩
theorem nth_set [Inhabited α] {l : List α} {i k : Nat} {x : α} (h : i < l.length) : nth (l.set i x) k = if k = i then x else nth l k := by
  unfold nth
  simp only [List.getD_eq_getElem?_getD]
  split
  · rename_i e; subst e; rw [List.getElem?_set_self h]; rfl
  · rename_i e; rw [List.getElem?_set_ne (Ne.symm e)]
theorem nth_append [Inhabited α] {l m : List α} {k : Nat} : nth (l ++ m) k = if k < l.length then nth l k else nth m (k - l.length) := by
  unfold nth
  simp only [List.getD_eq_getElem?_getD]
  split
  · rename_i h; rw [List.getElem?_append_left h]
  · rename_i h; rw [List.getElem?_append_right (by omega)]
theorem nth_replicate [Inhabited α] {n k : Nat} {x : α} (h : k < n) : nth (List.replicate n x) k = x := by
  unfold nth; simp [List.getD_eq_getElem?_getD, h]
theorem nth_take [Inhabited α] {l : List α} {n k : Nat} (h : k < n) : nth (l.take n) k = nth l k := by
  unfold nth; simp only [List.getD_eq_getElem?_getD]; rw [List.getElem?_take_of_lt h]
theorem nth_drop [Inhabited α] {l : List α} {n k : Nat} : nth (l.drop n) k = nth l (n + k) := by
  unfold nth; simp only [List.getD_eq_getElem?_getD, List.getElem?_drop]
theorem nth_ext [Inhabited α] {l m : List α} (h1 : l.length = m.length) (h2 : ∀ k, k < l.length → nth l k = nth m k) : l = m := by
  apply List.ext_getElem h1
  intro k hk hk'
  rw [← nth_get hk, ← nth_get hk', h2 k hk]
theorem nth_map [Inhabited α] [Inhabited β] {l : List α} {f : α → β} {k : Nat} (h : k < l.length) : nth (l.map f) k = f (nth l k) := by
  rw [nth_get (by simpa using h), nth_get h]; simp
theorem nth_cons_succ [Inhabited α] {l : List α} {x : α} {k : Nat} : nth (x :: l) (k + 1) = nth l k := rfl
theorem ok_rangeL {body : Nat → τ → σ → Option (Fl ρ σ σ)} {l : List τ} (I : Nat → σ → Prop) {s : σ} {B : γ → Prop} (h0 : I 0 s)
    (hs : ∀ k x s, l[k]? = some x → I k s → Ok (body k x s) (FlOk (I (k + 1)) N R)) (he : ∀ s, I l.length s → N s) : Ok (rangeL (γ := γ) body l 0 s) (FlOk N B R) := by
  have key : ∀ (d i : Nat) (s : σ), i + d = l.length → I i s → Ok (rangeL (γ := γ) body (l.drop i) i s) (FlOk N B R) := by
    intro d
    induction d with
    | zero =>
      intro i s hi hI
      rw [List.drop_of_length_le (by omega)]
      have : i = l.length := by omega
      subst this
      exact ⟨_, rfl, he s hI⟩
    | succ d ih =>
      intro i s hi hI
      have hlt : i < l.length := by omega
      rw [List.drop_eq_getElem_cons hlt]
      unfold rangeL
      obtain ⟨v, e, p⟩ := hs i l[i] s (List.getElem?_eq_getElem hlt) hI
      rw [e]
      cases v with
      | nx s' => exact ih (i + 1) s' (by omega) p
      | br s' => exact ⟨_, rfl, p⟩
      | rt r => exact ⟨_, rfl, p⟩
  have := key l.length 0 s (by omega) h0
  simpa using this
theorem ok_rangeN {body : Nat → σ → Option (Fl ρ σ σ)} {n : Nat} (I : Nat → σ → Prop) {s : σ} {B : γ → Prop} (h0 : I 0 s)
    (hs : ∀ k s, k < n → I k s → Ok (body k s) (FlOk (I (k + 1)) N R)) (he : ∀ s, I n s → N s) : Ok (rangeN (γ := γ) body n 0 s) (FlOk N B R) := by
  have key : ∀ (d i : Nat) (s : σ), i + d = n → I i s → Ok (rangeN (γ := γ) body d i s) (FlOk N B R) := by
    intro d
    induction d with
    | zero =>
      intro i s hi hI
      have : i = n := by omega
      subst this
      exact ⟨_, rfl, he s hI⟩
    | succ d ih =>
      intro i s hi hI
      unfold rangeN
      obtain ⟨v, e, p⟩ := hs i s (by omega) hI
      rw [e]
      cases v with
      | nx s' => exact ih (i + 1) s' (by omega) p
      | br s' => exact ⟨_, rfl, p⟩
      | rt r => exact ⟨_, rfl, p⟩
  exact key n 0 s (by omega) h0
theorem ok_loopM {body : σ → Option (Fl ρ β σ)} (I : σ → Prop) (μ : σ → Nat) {C : γ → Prop} (hs : ∀ s, I s → Ok (body s) (FlOk (fun s' => I s' ∧ μ s' < μ s) B R)) : ∀ (n : Nat) (s : σ), I s → μ s < n → Ok (loopM (γ := γ) body n s) (FlOk B C R) := by
  intro n
  induction n with
  | zero => intro s _ h; omega
  | succ n ih =>
    intro s hI hn
    unfold loopM
    obtain ⟨v, e, p⟩ := hs s hI
    rw [e]
    cases v with
    | nx s' => exact ih s' p.1 (by have := p.2; omega)
    | br b => exact ⟨_, rfl, p⟩
    | rt r => exact ⟨_, rfl, p⟩
end
end Go.Pu
set_option linter.all false
namespace Go.Pu
open Go.Fw Go.Mo
end Go.Pu
set_option linter.all false
namespace Go.Pu
open Go.Fw
theorem Ok.fl {ρ σ β : Type} {x : Option (Fl ρ β σ)} {N N' : σ → Prop} {B B' : β → Prop} {R R' : ρ → Prop} (h : Ok x (FlOk N B R)) (hN : ∀ s, N s → N' s) (hB : ∀ s, B s → B' s) (hR : ∀ s, R s → R' s) : Ok x (FlOk N' B' R') := h.mono fun v hv => by
  cases v with
  | nx s => exact hN s hv
  | br b => exact hB b hv
  | rt r => exact hR r hv
end Go.Pu
set_option linter.all false
namespace Go.Pu
open Go.Fw Go.Mo
abbrev Deal := List UInt8 × List UInt8 × Int × Int × Int × Int
abbrev Acct := List UInt8 × Int × Int
def Short (s : List UInt8) : Prop := s.length ≤ 9223372036854775807
def ShortD (d : Deal) : Prop := Short d.1 ∧ Short d.2.1
def nm (s : List UInt8) : Bool := (ledger_named_m s).getD false
theorem named_ok {s : List UInt8} (h : Short s) : ledger_named_m s = some (nm s) := by
  have : Ok (ledger_named_m s) (fun _ => True) := by
    unfold ledger_named_m
    rw [chk_t (show s.length ≤ 9223372036854775807 from h), Option.bind_some, ok_bindR]
    refine ok_rangeL (fun _ _ => True) trivial (fun i x t hi _ => ?_) fun t _ => ?_
    · unfold ledger_named_b1
      simp only [ok_bindF, ok_ite, ok_some, flok_nx, flok_rt]
      simp
    · simp only [ok_bindR, ok_ite, ok_some, flok_nx, flok_rt]
      simp
  obtain ⟨b, e, _⟩ := this
  unfold nm; rw [e]; rfl
def rt (d : Deal) : Int := (ledger_Right_m d).getD 0
theorem right_all {d : Deal} (h : ShortD d) : Ok (ledger_Right_m d) (fun e => e = 0 → (0 ≤ d.2.2.1 ∧ d.2.2.1 ≤ 1000000) ∧ (0 ≤ d.2.2.2.1 ∧ d.2.2.2.1 ≤ 1000000) ∧ (0 ≤ d.2.2.2.2.1 ∧ d.2.2.2.2.1 ≤ 1000000) ∧ (1 ≤ d.2.2.2.2.2 ∧ d.2.2.2.2.2 ≤ 100) ∧ nm d.1 = true ∧ nm d.2.1 = true ∧ d.1 ≠ d.2.1) := by
  unfold ledger_Right_m
  rw [named_ok h.1, named_ok h.2]
  simp only [Option.bind_some, ok_bindR, ok_ite, ok_some, flok_nx, decide_eq_true_eq, Bool.not_eq_true', beq_iff_eq]
  grind
theorem right_ok {d : Deal} (h : ShortD d) : ledger_Right_m d = some (rt d) := by
  obtain ⟨e, he, _⟩ := right_all h
  unfold rt; rw [he]; rfl
theorem rt_facts {d : Deal} (h : ShortD d) (h0 : rt d = 0) : (0 ≤ d.2.2.1 ∧ d.2.2.1 ≤ 1000000) ∧ (0 ≤ d.2.2.2.1 ∧ d.2.2.2.1 ≤ 1000000) ∧ (0 ≤ d.2.2.2.2.1 ∧ d.2.2.2.2.1 ≤ 1000000) ∧ (1 ≤ d.2.2.2.2.2 ∧ d.2.2.2.2.2 ≤ 100) ∧ nm d.1 = true ∧ nm d.2.1 = true ∧ d.1 ≠ d.2.1 := by
  obtain ⟨e, he, hf⟩ := right_all h
  have : rt d = e := by unfold rt; rw [he]; rfl
  exact hf (by omega)
def key (d : Deal) : List UInt8 × Int := (d.1, d.2.2.1)
theorem findQ_ok (l : List Deal) (s : List UInt8) (n : Int) : queue_find_m l s n = some (if l.any (fun d => key d == (s, n)) then (l.findIdx (fun d => key d == (s, n)) : Int) else -1) := by
  unfold queue_find_m slices_IndexFunc_api_Deal_api_Deal_m
  rw [rangeL_first (γ := Unit) (fun d => key d == (s, n)) l (fun i x _ => by
    unfold slices_IndexFunc_api_Deal_api_Deal_b1 queue_find_1_m
    have : (key x == (s, n)) = (x.1 == s && x.2.2.1 == n) := rfl
    rw [this]
    dsimp only
    by_cases h1 : (x.1 == s) = true
    · rw [if_pos h1, h1, Bool.true_and]; rfl
    · rw [if_neg h1]
      have h1' : (x.1 == s) = false := by simpa using h1
      rw [h1']; rfl)]
  by_cases h : l.any (fun d => key d == (s, n)) = true
  · rw [if_pos h, if_pos h]; simp [bindR]
  · rw [if_neg h, if_neg h]; rfl
structure Queue (l : List Deal) : Prop where
  len : l.length ≤ 20
  right : ∀ d ∈ l, rt d = 0
  once : ∀ i j, i < j → j < l.length → key (nth l i) ≠ key (nth l j)
theorem any_key {l : List Deal} {k : List UInt8 × Int} : l.any (fun d => key d == k) = true ↔ ∃ i, i < l.length ∧ key (nth l i) = k := by
  rw [List.any_eq_true]
  constructor
  · rintro ⟨d, hd, e⟩
    obtain ⟨i, hi, rfl⟩ := mem_nth hd
    exact ⟨i, hi, by simpa using e⟩
  · rintro ⟨i, hi, e⟩
    exact ⟨nth l i, nth_mem hi, by simpa using e⟩
theorem checkQ_ok {l : List Deal} (hs : ∀ d ∈ l, ShortD d) : ∃ e, queue_Check_m l = some e ∧ (e = 0 ↔ Queue l) := by
  have : Ok (queue_Check_m l) (fun e => e = 0 ↔ Queue l) := by
    unfold queue_Check_m
    by_cases h20 : (l.length : Int) > 20
    · rw [if_pos (by rw [decide_eq_true_eq]; exact h20), ok_some]
      exact ⟨fun h => by (cases h), fun h => by have := h.len; omega⟩
    · rw [if_neg (by rw [decide_eq_true_eq]; exact h20), ok_bindR]
      refine ok_rangeL (fun k _ => (∀ i, i < k → rt (nth l i) = 0) ∧ ∀ i j, i < j → j < k → key (nth l i) ≠ key (nth l j)) ⟨fun i hi => by omega, fun i j _ hj => by omega⟩ (fun k d t hk hI => ?_) fun t ht => ?_
      · obtain ⟨hd, hkl⟩ := nth_of hk
        have hsd := hs d (List.mem_of_getElem? hk)
        unfold queue_Check_b1
        rw [right_ok hsd, Option.bind_some]
        by_cases hr : rt d = 0
        · rw [if_neg (by rw [bne_iff_ne]; exact fun h => h hr), chk_t (by omega), Option.bind_some, findQ_ok, Option.bind_some, Int.toNat_natCast, List.drop_zero]
          by_cases ha : (l.take k).any (fun x => key x == (d.1, d.2.2.1)) = true
          · rw [if_pos ha, if_pos (by rw [decide_eq_true_eq]; omega), ok_some, flok_rt]
            obtain ⟨i, hi, e⟩ := any_key.1 ha
            rw [List.length_take] at hi
            rw [nth_take (by omega)] at e
            exact ⟨fun h => by (cases h), fun h => absurd (e.trans (show (d.1, d.2.2.1) = key (nth l k) by rw [hd]; rfl)) (h.once i k (by omega) hkl)⟩
          · rw [if_neg ha, if_neg (by decide), ok_some, flok_nx]
            refine ⟨fun i hi => ?_, fun i j hij hj => ?_⟩
            · by_cases e : i = k
              · subst e; rw [hd]; exact hr
              · exact hI.1 i (by omega)
            · by_cases e : j = k
              · subst e
                intro h
                refine ha (any_key.2 ⟨i, by rw [List.length_take]; omega, ?_⟩)
                rw [nth_take hij, h, hd]; rfl
              · exact hI.2 i j hij (by omega)
        · rw [if_pos (by rw [bne_iff_ne]; exact hr), ok_some, flok_rt]
          exact ⟨fun h => absurd h hr, fun h => absurd (h.right d (List.mem_of_getElem? hk)) hr⟩
      · rw [ok_some]
        refine ⟨fun _ => ⟨by omega, fun d hd => ?_, ht.2⟩, fun _ => rfl⟩
        obtain ⟨i, hi, rfl⟩ := mem_nth hd
        exact ht.1 i hi
  exact this
theorem Queue.idx {l : List Deal} (h : Queue l) {i : Nat} (hi : i < l.length) : l.any (fun d => key d == key (nth l i)) = true ∧ l.findIdx (fun d => key d == key (nth l i)) = i := by
  have ha : l.any (fun d => key d == key (nth l i)) = true := any_key.2 ⟨i, hi, rfl⟩
  refine ⟨ha, ?_⟩
  have hlt : l.findIdx (fun d => key d == key (nth l i)) < l.length := List.findIdx_lt_length.2 (by rw [List.any_eq_true] at ha; exact ha)
  have hk := List.findIdx_getElem (w := hlt)
  rw [← nth_get hlt, beq_iff_eq] at hk
  by_cases e : l.findIdx (fun d => key d == key (nth l i)) = i
  · exact e
  · rcases Nat.lt_or_gt_of_ne e with h1 | h1
    · exact absurd hk (h.once _ _ h1 hi)
    · exact absurd hk.symm (h.once _ _ h1 hlt)
inductive Added (l : List Deal) (d : Deal) : List Deal × Int → Prop
  | no (e : Int) : e ≠ 0 → Added l d ([], e)
  | at (i : Nat) : Queue l → rt d = 0 → i < l.length → key (nth l i) = key d → (nth l i).2.2.2.2.1 < d.2.2.2.2.1 → Added l d (l.set i d, 0)
  | end_ : Queue l → rt d = 0 → (∀ i, i < l.length → key (nth l i) ≠ key d) → l.length < 20 → Added l d (l ++ [d], 0)
theorem cloneQ (l : List Deal) (h : l.length ≤ 1000) : slices_Clone_api_Deal_api_Deal_m l = some l := by unfold slices_Clone_api_Deal_api_Deal_m; rw [chk_t (by omega)]; rfl
theorem add_ok {l : List Deal} {d : Deal} (hs : ∀ d ∈ l, ShortD d) (hd : ShortD d) : Ok (queue_Add_m l d) (Added l d) := by
  obtain ⟨e, he, hq⟩ := checkQ_ok hs
  unfold queue_Add_m
  rw [he, Option.bind_some]
  by_cases h0 : e = 0
  · have hQ := hq.1 h0
    have hlen := hQ.len
    rw [if_neg (by rw [bne_iff_ne]; exact fun h => h h0), right_ok hd, Option.bind_some]
    by_cases hr : rt d = 0
    · rw [if_neg (by rw [bne_iff_ne]; exact fun h => h hr), findQ_ok, Option.bind_some]
      by_cases ha : l.any (fun x => key x == (d.1, d.2.2.1)) = true
      · obtain ⟨i, hi, ei⟩ := any_key.1 ha
        have hx := (hQ.idx hi).2
        rw [ei] at hx
        rw [if_pos ha, if_pos (by rw [decide_eq_true_eq]; omega), hx, idx_nat, nth_at hi, Option.bind_some]
        by_cases hf : d.2.2.2.2.1 ≤ (nth l i).2.2.2.2.1
        · rw [if_pos (by rw [decide_eq_true_eq]; exact hf), ok_some]; exact .no 7 (by decide)
        · rw [if_neg (by rw [decide_eq_true_eq]; exact hf), cloneQ l (by omega), Option.bind_some, idx_nat, nth_at hi, Option.bind_some, ok_some, Int.toNat_natCast]
          exact .at i hQ hr hi ei (by omega)
      · rw [if_neg ha, if_neg (by decide)]
        by_cases h20 : l.length = 20
        · rw [if_pos (by rw [beq_iff_eq]; omega), ok_some]; exact .no 8 (by decide)
        · rw [if_neg (by rw [beq_iff_eq]; omega), cloneQ l (by omega), Option.bind_some, chk_t (by simp only [List.length_cons, List.length_nil]; omega), Option.bind_some, ok_some]
          exact .end_ hQ hr (fun i hi e => ha (any_key.2 ⟨i, hi, e⟩)) (by omega)
    · rw [if_pos (by rw [bne_iff_ne]; exact hr), ok_some]; exact .no _ hr
  · rw [if_pos (by rw [bne_iff_ne]; exact h0), ok_some]; exact .no _ h0
theorem Queue.set {l : List Deal} (h : Queue l) {i : Nat} {d : Deal} (hi : i < l.length) (hr : rt d = 0) (hk : key (nth l i) = key d) : Queue (l.set i d) := by
  have kk : ∀ j, key (nth (l.set i d) j) = key (nth l j) := fun j => by
    rw [nth_set hi]
    split
    · rename_i e; subst e; exact hk.symm
    · rfl
  refine ⟨by rw [List.length_set]; exact h.len, fun x hx => ?_, fun a b hab hb => by rw [kk, kk]; exact h.once a b hab (by rw [List.length_set] at hb; exact hb)⟩
  rcases List.mem_or_eq_of_mem_set hx with hx | hx
  · exact h.right x hx
  · subst hx; exact hr
theorem Queue.snoc {l : List Deal} (h : Queue l) {d : Deal} (hr : rt d = 0) (hk : ∀ i, i < l.length → key (nth l i) ≠ key d) (hl : l.length < 20) : Queue (l ++ [d]) := by
  refine ⟨by simp; omega, fun x hx => ?_, fun a b hab hb => ?_⟩
  · rcases List.mem_append.1 hx with hx | hx
    · exact h.right x hx
    · rw [List.mem_singleton] at hx; subst hx; exact hr
  · rw [List.length_append, List.length_singleton] at hb
    rw [nth_append, nth_append, if_pos (by omega)]
    by_cases e : b < l.length
    · rw [if_pos e]; exact h.once a b hab e
    · rw [if_neg e, show b - l.length = 0 by omega]; exact hk a (by omega)
theorem Added.queue {l : List Deal} {d : Deal} {p : List Deal × Int} (h : Added l d p) (h0 : p.2 = 0) : Queue p.1 := by
  cases h with
  | no e he => exact absurd h0 he
  | «at» i hQ hr hi hk hf => exact hQ.set hi hr hk
  | end_ hQ hr hk hl => exact hQ.snoc hr hk hl
theorem queues_t : pk_queues_m = some true := by decide +kernel
theorem equal_deal (a b : List Deal) : slices_Equal_api_Deal_api_Deal_m a b = some (decide (a = b)) := by
  apply Ok.eq
  unfold slices_Equal_api_Deal_api_Deal_m
  simp only [ok_ite, ok_some, ok_bindR, bne_iff_ne]
  refine ⟨fun h => ?_, fun h => ?_⟩
  · rw [eq_comm, decide_eq_false_iff_not]; intro e; subst e; exact h rfl
  · have hl : a.length = b.length := by omega
    refine ok_rangeL (fun k _ => ∀ j, j < k → nth a j = nth b j) (by intro j hj; omega) (fun k x s hk hI => ?_) fun s hs => ?_
    · obtain ⟨hx, hka⟩ := nth_of hk
      unfold slices_Equal_api_Deal_api_Deal_b1
      rw [idx_nat, nth_at (show k < b.length by omega), Option.bind_some]
      by_cases e : x = nth b k
      · rw [if_neg (by simp [e]), ok_some, flok_nx]
        intro j hj
        by_cases hjk : j = k
        · subst hjk; rw [hx]; exact e
        · exact hI j (by omega)
      · rw [if_pos (by simp [e]), ok_some, flok_rt, eq_comm, decide_eq_false_iff_not]
        intro h'; subst h'; exact e hx.symm
    · rw [eq_comm, decide_eq_true_eq]; exact nth_ext hl hs
end Go.Pu
set_option linter.all false
namespace Go.Pu
open Go.Fw Go.Mo
def WfD (d : Deal) : Prop := d.1.length ≤ maxLen ∧ d.2.1.length ≤ maxLen ∧ (Lit.int .i64 d.2.2.1).wf = true ∧ (Lit.int .i64 d.2.2.2.1).wf = true ∧ (Lit.int .i64 d.2.2.2.2.1).wf = true ∧ (Lit.int .i64 d.2.2.2.2.2).wf = true
theorem WfD.short {d : Deal} (h : WfD d) : ShortD d := ⟨h.1, h.2.1⟩
end Go.Pu
set_option linter.all false
namespace Go.Pu
open Go.Fw Go.Mo
def WfA (a : Acct) : Prop := a.1.length ≤ maxLen ∧ (Lit.int .i64 a.2.1).wf = true ∧ (Lit.int .i64 a.2.2).wf = true
def past (accts : List Acct) (d : Deal) : Bool := accts.any fun a => a.1 == d.1 && decide (d.2.2.1 < a.2.2)
theorem indexA (l : List Acct) (g : Acct → Option Bool) (q : Acct → Bool) (h : ∀ a, g a = some (q a)) : slices_IndexFunc_api_Account_api_Account_m l g = some (if l.any q then (l.findIdx q : Int) else -1) := by
  unfold slices_IndexFunc_api_Account_api_Account_m
  rw [rangeL_first (γ := Unit) q l (fun i x _ => by unfold slices_IndexFunc_api_Account_api_Account_b1; rw [h]; rfl)]
  by_cases ha : l.any q = true
  · rw [if_pos ha, if_pos ha]; simp [bindR]
  · rw [if_neg ha, if_neg ha]; rfl
theorem containsA (l : List Acct) (g : Acct → Option Bool) (q : Acct → Bool) (h : ∀ a, g a = some (q a)) : slices_ContainsFunc_api_Account_api_Account_m l g = some (l.any q) := by
  unfold slices_ContainsFunc_api_Account_api_Account_m
  rw [indexA l g q h, Option.bind_some]
  by_cases ha : l.any q = true
  · rw [if_pos ha, ha]; simp
  · have : l.any q = false := by simpa using ha
    rw [if_neg ha, this]; rfl
theorem clean1_ok (accts : List Acct) (d : Deal) : queue_Clean_1_m d accts = some (past accts d) := by
  unfold queue_Clean_1_m
  rw [containsA accts _ (fun a => a.1 == d.1 && decide (d.2.2.1 < a.2.2)) (fun a => by
    unfold queue_Clean_1_1_m
    by_cases h : (a.1 == d.1) = true
    · rw [if_pos h, h]; rfl
    · have h' : (a.1 == d.1) = false := by simpa using h
      rw [if_neg h, h']; rfl)]
  rfl
theorem indexD (l : List Deal) (g : Deal → Option Bool) (q : Deal → Bool) (h : ∀ a, g a = some (q a)) : slices_IndexFunc_api_Deal_api_Deal_m l g = some (if l.any q then (l.findIdx q : Int) else -1) := by
  unfold slices_IndexFunc_api_Deal_api_Deal_m
  rw [rangeL_first (γ := Unit) q l (fun i x _ => by unfold slices_IndexFunc_api_Deal_api_Deal_b1; rw [h]; rfl)]
  by_cases ha : l.any q = true
  · rw [if_pos ha, if_pos ha]; simp [bindR]
  · rw [if_neg ha, if_neg ha]; rfl
theorem deleteFunc_ok (l : List Deal) (g : Deal → Option Bool) (q : Deal → Bool) (h : ∀ a, g a = some (q a)) (hl : l.length ≤ 1000) : slices_DeleteFunc_api_Deal_api_Deal_m l g = some (l.filter fun d => !q d) := by
  unfold slices_DeleteFunc_api_Deal_api_Deal_m
  rw [indexD l g q h, Option.bind_some]
  by_cases ha : l.any q = true
  · rw [if_pos ha, if_neg (by rw [beq_iff_eq]; omega)]
    have hlt : l.findIdx q < l.length := List.findIdx_lt_length.2 (by rw [List.any_eq_true] at ha; exact ha)
    generalize hi : l.findIdx q = i at *
    apply Ok.eq
    have hpre : ∀ k, k < i → q (nth l k) = false := fun k hk => by
      have := List.not_of_lt_findIdx (xs := l) (p := q) (i := k) (by omega)
      rw [nth_get (by omega)]; simpa using this
    have hat : q (nth l i) = true := by
      have := List.findIdx_getElem (xs := l) (p := q) (w := by omega)
      rw [nth_get hlt]; simpa [hi] using this
    rw [ok_bindR]
    -- x33: so many are left; x34: so many are looked at
    refine ok_loopM (fun (s : List Deal × Int × Int) => ∃ a b : Nat, s.2.1 = (a : Int) ∧ s.2.2 = (b : Int) ∧ a < b ∧ b ≤ l.length ∧ s.1.length = l.length ∧ s.1.take a = (l.take b).filter (fun d => !q d) ∧ ∀ k, b ≤ k → nth s.1 k = nth l k) (fun s => 1000 - s.2.2.toNat) (fun s hs => ?_) _ _ ⟨i, i + 1, rfl, by (try dsimp only); rw [wadd_of (by omega) (by omega)]; omega, by omega, by omega, rfl, ?_, fun k _ => rfl⟩ (by dsimp only; omega)
    · obtain ⟨m, x, y⟩ := s
      obtain ⟨a, b, rfl, rfl, hab, hb, hm, hf, hr⟩ := hs
      dsimp only at hm hf hr
      unfold slices_DeleteFunc_api_Deal_api_Deal_b1
      dsimp only
      by_cases hlt2 : b < l.length
      · rw [hm, if_pos (by rw [decide_eq_true_eq]; omega), idx_nat, nth_at (by omega), Option.bind_some, h, Option.bind_some, hr b (Nat.le_refl _)]
        have hts : l.take (b + 1) = l.take b ++ [nth l b] := by rw [List.take_succ, nth_at hlt2]; rfl
        by_cases hq : q (nth l b) = true
        · rw [if_neg (by simp [hq]), ok_some, flok_nx, wadd_of (by omega) (by omega)]
          refine ⟨⟨a, b + 1, rfl, by (try dsimp only); omega, by omega, by omega, hm, ?_, fun k hk => hr k (by omega)⟩, by dsimp only; omega⟩
          rw [hts, List.filter_append, ← hf]; simp [hq]
        · rw [if_pos (by simpa using hq), idx_nat, nth_at (by omega), Option.bind_some, ok_some, flok_nx, Int.toNat_natCast, wadd_of (by omega) (by omega), wadd_of (by omega) (by omega)]
          refine ⟨⟨a + 1, b + 1, by (try dsimp only); omega, by (try dsimp only); omega, by omega, by omega, by dsimp only; rw [List.length_set]; exact hm, ?_, fun k hk => by dsimp only; rw [nth_set (by omega), if_neg (by omega)]; exact hr k (by omega)⟩, by dsimp only; omega⟩
          dsimp only
          rw [hts, List.filter_append, ← hf, List.take_succ, List.getElem?_set_self (by omega), List.take_set_of_le (by omega)]
          simp [hq]
      · rw [hm, if_neg (by rw [decide_eq_true_eq]; omega), ok_some, flok_br]
        dsimp only
        have hbl : b = l.length := by omega
        subst hbl
        rw [chk_t (by omega), Option.bind_some, chk_t (by omega), Option.bind_some, ok_some, Int.toNat_natCast, hf, List.take_length]
    · dsimp only
      have hts : l.take (i + 1) = l.take i ++ [nth l i] := by rw [List.take_succ, nth_at hlt]; rfl
      rw [hts, List.filter_append]
      have h2 : (l.take i).filter (fun d => !q d) = l.take i := List.filter_eq_self.2 fun d hd => by
        obtain ⟨k, hk, rfl⟩ := mem_nth hd
        rw [List.length_take] at hk
        rw [nth_take (by omega), hpre k (by omega)]; rfl
      rw [h2]; simp [hat]
  · rw [if_neg ha, if_pos (by decide)]
    congr 1
    refine (List.filter_eq_self.2 fun d hd => ?_).symm
    cases e : q d with
    | false => rfl
    | true => exact absurd (List.any_eq_true.2 ⟨d, hd, e⟩) ha
theorem Queue.filter {l : List Deal} (h : Queue l) (q : Deal → Bool) : Queue (l.filter q) := by
  have hsub := List.filter_sublist (l := l) (p := q)
  refine ⟨Nat.le_trans hsub.length_le h.len, fun d hd => h.right d (List.mem_filter.1 hd).1, ?_⟩
  have hp : l.Pairwise (fun a b => key a ≠ key b) := by
    rw [List.pairwise_iff_getElem]
    intro i j hi hj hij
    have := h.once i j hij hj
    rw [nth_get hi, nth_get hj] at this; exact this
  have hp' := hp.sublist hsub
  rw [List.pairwise_iff_getElem] at hp'
  intro i j hij hj
  rw [nth_get (by omega), nth_get hj]
  exact hp' i j (by omega) hj hij
theorem clean_ok {l : List Deal} {accts : List Acct} (hs : ∀ d ∈ l, ShortD d) (hc : ∃ e, ledger_Check_m accts = some e) : ∃ p, queue_Clean_m l accts = some p ∧ ((p.1 = [] ∧ p.2 ≠ 0) ∨ (p = (l.filter (fun d => !past accts d), 0) ∧ Queue l ∧ ledger_Check_m accts = some 0)) := by
  obtain ⟨e, he, hq⟩ := checkQ_ok hs
  obtain ⟨e', he'⟩ := hc
  unfold queue_Clean_m
  rw [he, Option.bind_some]
  by_cases h0 : e = 0
  · have hQ := hq.1 h0
    have h20 := hQ.len
    rw [if_neg (by rw [bne_iff_ne]; exact fun h => h h0), he', Option.bind_some]
    by_cases h1 : e' = 0
    · rw [if_neg (by rw [bne_iff_ne]; exact fun h => h h1), cloneQ l (by omega), Option.bind_some, deleteFunc_ok l _ (past accts) (fun d => clean1_ok accts d) (by omega), Option.bind_some]
      subst h1
      exact ⟨_, rfl, .inr ⟨rfl, hQ, by first | rfl | exact he'⟩⟩
    · rw [if_pos (by rw [bne_iff_ne]; exact h1)]; exact ⟨_, rfl, .inl ⟨rfl, h1⟩⟩
  · rw [if_pos (by rw [bne_iff_ne]; exact h0)]; exact ⟨_, rfl, .inl ⟨rfl, h0⟩⟩
theorem check_some {accts : List Acct} (h : ∀ a ∈ accts, Short a.1) : ∃ e, ledger_Check_m accts = some e := by
  have : Ok (ledger_Check_m accts) (fun _ => True) := by
    unfold ledger_Check_m
    simp only [ok_ite, ok_some, ok_bindR, decide_eq_true_eq]
    refine ⟨fun _ => trivial, fun h6 => ok_rangeL (fun _ _ => True) trivial (fun k a _ hk _ => ?_) fun _ _ => trivial⟩
    obtain ⟨ha, hkl⟩ := nth_of hk
    unfold ledger_Check_b1
    rw [named_ok (h a (List.mem_of_getElem? hk)), Option.bind_some, ok_bindF]
    have fin : ∀ b : Bool, Ok (if b = true then some (Fl.rt (3 : Int)) else bindF (ρ := Int) (β := Unit) (σ := Bool) (if decide (a.2.1 < (0 : Int)) then some (.nx true) else (if decide (a.2.1 > (1000000 : Int)) then some (.nx true) else (if decide (a.2.2 < (0 : Int)) then some (.nx true) else some (.nx (decide (a.2.2 > (1000000 : Int))))))) fun x121 => (if x121 then some (.rt (1 : Int)) else some (.nx ()))) (FlOk (fun (_ : Unit) => True) (fun _ => True) (fun _ => True)) := fun b => by
      simp only [ok_ite, ok_some, ok_bindF, flok_nx, flok_rt]
      simp
    by_cases hn : nm a.1 = true
    · rw [if_neg (by simp [hn])]
      by_cases hk0 : (k : Int) > 0
      · rw [if_pos (by rw [decide_eq_true_eq]; exact hk0), wsub_of (by omega) (by have := Nat.le_of_lt hkl; omega), show (k : Int) - 1 = ((k - 1 : Nat) : Int) by omega, idx_nat, nth_at (by omega), Option.bind_some, ok_some, flok_nx]
        exact (fin _).fl (fun _ h => h) (fun _ _ => trivial) (fun _ h => h)
      · rw [if_neg (by rw [decide_eq_true_eq]; exact hk0), ok_some, flok_nx]
        exact (fin _).fl (fun _ h => h) (fun _ _ => trivial) (fun _ h => h)
    · rw [if_pos (by simpa using hn), ok_some, flok_nx]
      exact (fin _).fl (fun _ h => h) (fun _ _ => trivial) (fun _ h => h)
  obtain ⟨e, he, _⟩ := this
  exact ⟨e, he⟩
end Go.Pu
set_option linter.all false
namespace Go.Pu
open Go.Fw
structure Mat (n k : Nat) (m : List (List Int)) (f : Nat → Nat → Int) : Prop where
  len : m.length = n
  row : ∀ x, x < n → (nth m x).length = k
  at_ : ∀ x y, x < n → y < k → nth (nth m x) y = f x y
section
variable {n k : Nat} {m : List (List Int)} {f g : Nat → Nat → Int}
theorem Mat.congr (h : Mat n k m f) (e : ∀ x y, x < n → y < k → f x y = g x y) : Mat n k m g := ⟨h.len, h.row, fun x y hx hy => by rw [h.at_ x y hx hy, e x y hx hy]⟩
theorem Mat.cell? (h : Mat n k m f) {x y : Nat} (hx : x < n) (hy : y < k) : (nth m x)[y]? = some (f x y) := by rw [nth_at (by rw [h.row x hx]; exact hy), h.at_ x y hx hy]
theorem Mat.set (h : Mat n k m f) {x y : Nat} (hx : x < n) (hy : y < k) (v : Int) : Mat n k (m.set x ((nth m x).set y v)) (fun a b => if a = x ∧ b = y then v else f a b) := by
  have hxl : x < m.length := by rw [h.len]; exact hx
  refine ⟨by simpa using h.len, fun a ha => ?_, fun a b ha hb => ?_⟩
  · rw [nth_set hxl]
    split
    · simpa using h.row x hx
    · exact h.row a ha
  · rw [nth_set hxl]
    by_cases hax : a = x
    · subst hax
      rw [if_pos rfl, nth_set (by rw [h.row a ha]; exact hy)]
      by_cases hby : b = y
      · simp [hby]
      · simp [hby]; exact h.at_ a b ha hb
    · rw [if_neg hax, if_neg (by simp [hax])]; exact h.at_ a b ha hb
theorem Mat.setRow (h : Mat n k m f) {x : Nat} (hx : x < n) {r : List Int} {v : Nat → Int} (hr : r.length = k) (hv : ∀ y, y < k → nth r y = v y) : Mat n k (m.set x r) (fun a b => if a = x then v b else f a b) := by
  have hxl : x < m.length := by rw [h.len]; exact hx
  refine ⟨by simpa using h.len, fun a ha => ?_, fun a b ha hb => ?_⟩
  · rw [nth_set hxl]
    split
    · exact hr
    · exact h.row a ha
  · rw [nth_set hxl]
    split
    · exact hv b hb
    · exact h.at_ a b ha hb
theorem Mat.ext {m' : List (List Int)} (h : Mat n k m f) (h' : Mat n k m' f) : m = m' := by
  refine nth_ext (by rw [h.len, h'.len]) fun x hx => ?_
  rw [h.len] at hx
  refine nth_ext (by rw [h.row x hx, h'.row x hx]) fun y hy => ?_
  rw [h.row x hx] at hy
  rw [h.at_ x y hx hy, h'.at_ x y hx hy]
theorem Mat.self (h1 : m.length = n) (h2 : ∀ r ∈ m, r.length = k) : Mat n k m (fun x y => nth (nth m x) y) := ⟨h1, fun x hx => h2 _ (nth_mem (by omega)), fun _ _ _ _ => rfl⟩
end
structure Vec (n : Nat) (l : List Int) (f : Nat → Int) : Prop where
  len : l.length = n
  at_ : ∀ x, x < n → nth l x = f x
section
variable {n : Nat} {l : List Int} {f g : Nat → Int}
theorem Vec.congr (h : Vec n l f) (e : ∀ x, x < n → f x = g x) : Vec n l g := ⟨h.len, fun x hx => by rw [h.at_ x hx, e x hx]⟩
theorem Vec.set (h : Vec n l f) {x : Nat} (hx : x < n) (v : Int) : Vec n (l.set x v) (fun a => if a = x then v else f a) :=
  ⟨by simpa using h.len, fun a ha => by rw [nth_set (by rw [h.len]; exact hx)]; split; rfl; exact h.at_ a ha⟩
theorem Vec.ext {l' : List Int} (h : Vec n l f) (h' : Vec n l' f) : l = l' := nth_ext (by rw [h.len, h'.len]) fun x hx => by rw [h.len] at hx; rw [h.at_ x hx, h'.at_ x hx]
theorem Vec.self (h : l.length = n) : Vec n l (nth l) := ⟨h, fun _ _ => rfl⟩
theorem Vec.zero : Vec n (List.replicate n 0) (fun _ => 0) := ⟨by simp, fun x hx => nth_replicate hx⟩
theorem Vec.nil : Vec 0 [] f := ⟨rfl, fun x hx => by omega⟩
theorem Vec.snoc (h : Vec n l f) {v : Int} (e : v = f n) : Vec (n + 1) (l ++ [v]) f := ⟨by simp [h.len], fun x hx => by
  rw [nth_append, h.len]
  split
  · rename_i h'; exact h.at_ x h'
  · have : x = n := by omega
    subst this; simp [e]; rfl⟩
end
def sumN (n : Nat) (f : Nat → Int) : Int := match n with | 0 => 0 | n + 1 => sumN n f + f n
theorem sumN_congr {n : Nat} {f g : Nat → Int} (h : ∀ x, x < n → f x = g x) : sumN n f = sumN n g := by
  induction n with
  | zero => rfl
  | succ n ih => simp only [sumN]; rw [ih fun x hx => h x (by omega), h n (by omega)]
theorem sumN_add {n : Nat} {f g : Nat → Int} : sumN n (fun x => f x + g x) = sumN n f + sumN n g := by
  induction n with
  | zero => rfl
  | succ n ih => simp only [sumN]; omega
theorem sumN_zero {n : Nat} : sumN n (fun _ => 0) = 0 := by
  induction n with
  | zero => rfl
  | succ n ih => simp only [sumN]; omega
theorem sumN_sub {n : Nat} {f g : Nat → Int} : sumN n (fun x => f x - g x) = sumN n f - sumN n g := by
  induction n with
  | zero => rfl
  | succ n ih => simp only [sumN]; omega
theorem sumN_single {n k : Nat} {c : Int} (h : k < n) : sumN n (fun x => if x = k then c else 0) = c := by
  induction n with
  | zero => omega
  | succ n ih =>
    simp only [sumN]
    by_cases hk : k = n
    · subst hk
      rw [if_pos rfl, sumN_congr (g := fun _ => 0) (fun x hx => if_neg (by omega)), sumN_zero]; omega
    · rw [ih (by omega), if_neg (Ne.symm hk)]; omega
end Go.Pu
set_option linter.all false
namespace Go.Pu
open Go.Fw Go.Mo
theorem bls_nil (x : List UInt8) : bls x [] = false := by cases x <;> rfl
theorem bls_cons (a b : UInt8) (x y : List UInt8) : bls (a :: x) (b :: y) = (decide (a < b) || (a == b && bls x y)) := rfl
theorem bls_irrefl : ∀ x : List UInt8, bls x x = false
  | [] => rfl
  | a :: x => by
    rw [bls_cons, bls_irrefl x]
    have : ¬ a < a := UInt8.lt_irrefl a
    simp [this]
theorem bls_trans : ∀ x y z : List UInt8, bls x y = true → bls y z = true → bls x z = true
  | x, y, [], _, h => by rw [bls_nil] at h; cases h
  | x, [], z, h, _ => by rw [bls_nil] at h; cases h
  | [], b :: y, c :: z, _, _ => rfl
  | a :: x, b :: y, c :: z, h1, h2 => by
    rw [bls_cons] at h1 h2 ⊢
    have ih := bls_trans x y z
    simp only [Bool.or_eq_true, decide_eq_true_eq, Bool.and_eq_true, beq_iff_eq] at h1 h2 ⊢
    rcases h1 with h1 | ⟨rfl, h1⟩ <;> rcases h2 with h2 | ⟨rfl, h2⟩
    · exact .inl (UInt8.lt_trans h1 h2)
    · exact .inl h1
    · exact .inl h2
    · exact .inr ⟨rfl, ih h1 h2⟩
theorem bls_total : ∀ x y : List UInt8, bls x y = true ∨ x = y ∨ bls y x = true
  | [], [] => .inr (.inl rfl)
  | [], _ :: _ => .inl rfl
  | _ :: _, [] => .inr (.inr rfl)
  | a :: x, b :: y => by
    rw [bls_cons, bls_cons]
    have ih := bls_total x y
    simp only [Bool.or_eq_true, decide_eq_true_eq, Bool.and_eq_true, beq_iff_eq]
    by_cases hab : a = b
    · subst hab
      rcases ih with h | h | h
      · exact .inl (.inr ⟨rfl, h⟩)
      · exact .inr (.inl (by rw [h]))
      · exact .inr (.inr (.inr ⟨rfl, h⟩))
    · rcases Nat.lt_or_gt_of_ne (fun e : a.toNat = b.toNat => hab (UInt8.toNat_inj.1 e)) with h | h
      · exact .inl (.inl (UInt8.lt_iff_toNat_lt.2 h))
      · exact .inr (.inr (.inl (UInt8.lt_iff_toNat_lt.2 h)))
theorem bls_le {x y : List UInt8} : (bls x y || x == y) = false ↔ bls y x = true := by
  constructor
  · intro h
    simp only [Bool.or_eq_false_iff, beq_eq_false_iff_ne] at h
    rcases bls_total x y with h' | h' | h'
    · rw [h.1] at h'; cases h'
    · exact absurd h' h.2
    · exact h'
  · intro h
    have h1 : bls x y = false := by
      cases e : bls x y with
      | false => rfl
      | true => have := bls_trans _ _ _ e h; rw [bls_irrefl] at this; cases this
    have h2 : x ≠ y := fun e => by subst e; rw [bls_irrefl] at h; cases h
    rw [h1, Bool.false_or, beq_eq_false_iff_ne]; exact h2
structure Accts (l : List Acct) : Prop where
  len : l.length ≤ 6
  name : ∀ a ∈ l, nm a.1 = true
  asc : ∀ k, k + 1 < l.length → bls (nth l k).1 (nth l (k + 1)).1 = true
  val : ∀ a ∈ l, (0 ≤ a.2.1 ∧ a.2.1 ≤ 1000000) ∧ 0 ≤ a.2.2 ∧ a.2.2 ≤ 1000000
def ShortA (l : List Acct) : Prop := ∀ a ∈ l, Short a.1
theorem checkA_ok {l : List Acct} (hs : ShortA l) : ∃ e, ledger_Check_m l = some e ∧ (e = 0 ↔ Accts l) := by
  have : Ok (ledger_Check_m l) (fun e => e = 0 ↔ Accts l) := by
    unfold ledger_Check_m
    by_cases h6 : (l.length : Int) > 6
    · rw [if_pos (by rw [decide_eq_true_eq]; exact h6), ok_some]
      exact ⟨fun h => by (cases h), fun h => by have := h.len; omega⟩
    · rw [if_neg (by rw [decide_eq_true_eq]; exact h6), ok_bindR]
      refine ok_rangeL (fun k _ => (∀ i, i < k → nm (nth l i).1 = true ∧ (0 ≤ (nth l i).2.1 ∧ (nth l i).2.1 ≤ 1000000) ∧ 0 ≤ (nth l i).2.2 ∧ (nth l i).2.2 ≤ 1000000) ∧ ∀ i, i + 1 < k → bls (nth l i).1 (nth l (i + 1)).1 = true) ⟨fun i hi => by omega, fun i hi => by omega⟩ (fun k a t hk hI => ?_) fun t ht => ?_
      · obtain ⟨ha, hkl⟩ := nth_of hk
        have hsa := hs a (List.mem_of_getElem? hk)
        have hmem := List.mem_of_getElem? hk
        unfold ledger_Check_b1
        rw [named_ok hsa, Option.bind_some, ok_bindF]
        have bad : ¬ Accts l → Ok (some (Fl.nx (ρ := Int) (β := Unit) true)) (FlOk (fun x98 : Bool => Ok (if x98 then some (.rt (3 : Int)) else bindF (ρ := Int) (β := Unit) (σ := Bool) (if decide (a.2.1 < (0 : Int)) then some (.nx true) else (if decide (a.2.1 > (1000000 : Int)) then some (.nx true) else (if decide (a.2.2 < (0 : Int)) then some (.nx true) else some (.nx (decide (a.2.2 > (1000000 : Int))))))) fun x121 => (if x121 then some (.rt (1 : Int)) else some (.nx ()))) (FlOk (fun (_ : Unit) => (∀ i, i < k + 1 → nm (nth l i).1 = true ∧ (0 ≤ (nth l i).2.1 ∧ (nth l i).2.1 ≤ 1000000) ∧ 0 ≤ (nth l i).2.2 ∧ (nth l i).2.2 ≤ 1000000) ∧ ∀ i, i + 1 < k + 1 → bls (nth l i).1 (nth l (i + 1)).1 = true) (fun _ => False) (fun e => e = 0 ↔ Accts l))) (fun _ => False) (fun _ => False)) := fun hb => by
          rw [ok_some, flok_nx, if_pos rfl, ok_some, flok_rt]
          exact ⟨fun h => by (cases h), fun h => absurd h hb⟩
        have good : nm a.1 = true → (0 < k → bls (nth l (k - 1)).1 a.1 = true) → Ok (some (Fl.nx (ρ := Int) (β := Unit) false)) (FlOk (fun x98 : Bool => Ok (if x98 then some (.rt (3 : Int)) else bindF (ρ := Int) (β := Unit) (σ := Bool) (if decide (a.2.1 < (0 : Int)) then some (.nx true) else (if decide (a.2.1 > (1000000 : Int)) then some (.nx true) else (if decide (a.2.2 < (0 : Int)) then some (.nx true) else some (.nx (decide (a.2.2 > (1000000 : Int))))))) fun x121 => (if x121 then some (.rt (1 : Int)) else some (.nx ()))) (FlOk (fun (_ : Unit) => (∀ i, i < k + 1 → nm (nth l i).1 = true ∧ (0 ≤ (nth l i).2.1 ∧ (nth l i).2.1 ≤ 1000000) ∧ 0 ≤ (nth l i).2.2 ∧ (nth l i).2.2 ≤ 1000000) ∧ ∀ i, i + 1 < k + 1 → bls (nth l i).1 (nth l (i + 1)).1 = true) (fun _ => False) (fun e => e = 0 ↔ Accts l))) (fun _ => False) (fun _ => False)) := fun hn hb => by
          rw [ok_some, flok_nx, if_neg (by decide), ok_bindF]
          by_cases hv : (0 ≤ a.2.1 ∧ a.2.1 ≤ 1000000) ∧ 0 ≤ a.2.2 ∧ a.2.2 ≤ 1000000
          · rw [if_neg (by rw [decide_eq_true_eq]; omega), if_neg (by rw [decide_eq_true_eq]; omega), if_neg (by rw [decide_eq_true_eq]; omega), ok_some, flok_nx, if_neg (by rw [decide_eq_true_eq]; omega), ok_some, flok_nx]
            refine ⟨fun i hi => ?_, fun i hi => ?_⟩
            · by_cases e : i = k
              · subst e; rw [ha]; exact ⟨hn, hv⟩
              · exact hI.1 i (by omega)
            · by_cases e : i + 1 = k
              · subst e; rw [ha]; exact hb (by omega)
              · exact hI.2 i (by omega)
          · have nb : Ok (if decide (a.2.1 < (0 : Int)) then some (Fl.nx (ρ := Int) (β := Unit) true) else (if decide (a.2.1 > (1000000 : Int)) then some (.nx true) else (if decide (a.2.2 < (0 : Int)) then some (.nx true) else some (.nx (decide (a.2.2 > (1000000 : Int))))))) (FlOk (fun b => b = true) (fun _ => False) (fun _ => False)) := by
              simp only [ok_ite, ok_some, flok_nx, decide_eq_true_eq]
              exact ⟨fun _ => trivial, fun _ => ⟨fun _ => trivial, fun _ => ⟨fun _ => trivial, fun _ => by omega⟩⟩⟩
            refine nb.fl (fun b hb' => ?_) (fun _ h => h.elim) (fun _ h => h.elim)
            subst hb'
            rw [if_pos rfl, ok_some, flok_rt]
            exact ⟨fun h => by (cases h), fun h => absurd (h.val a hmem) hv⟩
        by_cases hn : nm a.1 = true
        · rw [if_neg (by simp [hn])]
          by_cases hk0 : (k : Int) > 0
          · rw [if_pos (by rw [decide_eq_true_eq]; exact hk0), wsub_of (by omega) (by omega), show (k : Int) - 1 = ((k - 1 : Nat) : Int) by omega, idx_nat, nth_at (by omega), Option.bind_some]
            cases hb : (bls a.1 (nth l (k - 1)).1 || a.1 == (nth l (k - 1)).1) with
            | true =>
              refine (bad fun h => ?_).fl (fun _ h => h.fl (fun _ h => h) (fun _ h => h.elim) (fun _ h => h)) (fun _ h => h.elim) (fun _ h => h.elim)
              have := h.asc (k - 1) (by omega)
              rw [show k - 1 + 1 = k by omega, ha] at this
              rw [bls_le.2 this] at hb; cases hb
            | false =>
              exact (good hn fun _ => bls_le.1 hb).fl (fun _ h => h.fl (fun _ h => h) (fun _ h => h.elim) (fun _ h => h)) (fun _ h => h.elim) (fun _ h => h.elim)
          · rw [if_neg (by rw [decide_eq_true_eq]; exact hk0)]
            exact (good hn fun h => by omega).fl (fun _ h => h.fl (fun _ h => h) (fun _ h => h.elim) (fun _ h => h)) (fun _ h => h.elim) (fun _ h => h.elim)
        · rw [if_pos (by simpa using hn)]
          exact (bad fun h => hn (h.name a hmem)).fl (fun _ h => h.fl (fun _ h => h) (fun _ h => h.elim) (fun _ h => h)) (fun _ h => h.elim) (fun _ h => h.elim)
      · rw [ok_some]
        refine ⟨fun _ => ⟨by omega, fun a ha => ?_, ht.2, fun a ha => ?_⟩, fun _ => rfl⟩
        · obtain ⟨i, hi, rfl⟩ := mem_nth ha; exact (ht.1 i hi).1
        · obtain ⟨i, hi, rfl⟩ := mem_nth ha; exact (ht.1 i hi).2
  exact this
section
variable {l : List Acct}
theorem Accts.at (h : Accts l) {i : Nat} (hi : i < l.length) : (0 ≤ (nth l i).2.1 ∧ (nth l i).2.1 ≤ 1000000) ∧ 0 ≤ (nth l i).2.2 ∧ (nth l i).2.2 ≤ 1000000 := h.val _ (nth_mem hi)
theorem Accts.chain (h : Accts l) : ∀ d i, i + (d + 1) < l.length → bls (nth l i).1 (nth l (i + (d + 1))).1 = true
  | 0, i, hd => h.asc i hd
  | d + 1, i, hd => bls_trans _ _ _ (h.chain d i (by omega)) (h.asc (i + (d + 1)) (by omega))
theorem Accts.ne (h : Accts l) {i j : Nat} (hij : i < j) (hj : j < l.length) : (nth l i).1 ≠ (nth l j).1 := fun e => by
  have := h.chain (j - i - 1) i (by omega)
  rw [show i + (j - i - 1 + 1) = j by omega, e, bls_irrefl] at this; cases this
theorem Accts.inj (h : Accts l) {i j : Nat} (hi : i < l.length) (hj : j < l.length) (e : (nth l i).1 = (nth l j).1) : i = j := by
  by_cases hij : i = j
  · exact hij
  · rcases Nat.lt_or_gt_of_ne hij with h1 | h1
    · exact absurd e (h.ne h1 hj)
    · exact absurd e.symm (h.ne h1 hi)
theorem findA_ok (l : List Acct) (s : List UInt8) : ledger_find_m l s = some (if l.any (fun a => a.1 == s) then (l.findIdx (fun a => a.1 == s) : Int) else -1) := by
  unfold ledger_find_m
  rw [indexA l (fun a0 => ledger_find_1_m a0 s) (fun a => a.1 == s) (fun a => rfl)]; rfl
theorem findA_at (h : Accts l) {i : Nat} (hi : i < l.length) {s : List UInt8} (e : (nth l i).1 = s) : ledger_find_m l s = some (i : Int) := by
  have ha : l.any (fun a => a.1 == s) = true := List.any_eq_true.2 ⟨nth l i, nth_mem hi, by simpa using e⟩
  rw [findA_ok, if_pos ha]
  have hlt : l.findIdx (fun a => a.1 == s) < l.length := List.findIdx_lt_length.2 (by rw [List.any_eq_true] at ha; exact ha)
  have hk := List.findIdx_getElem (w := hlt)
  rw [← nth_get hlt, beq_iff_eq] at hk
  rw [h.inj hlt hi (hk.trans e.symm)]
theorem findA_no {s : List UInt8} (h : ∀ i, i < l.length → (nth l i).1 ≠ s) : ledger_find_m l s = some (-1) := by
  rw [findA_ok, if_neg]
  intro ha
  obtain ⟨a, ha, e⟩ := List.any_eq_true.1 ha
  obtain ⟨i, hi, rfl⟩ := mem_nth ha
  exact h i hi (by simpa using e)
theorem findA_cases (h : Accts l) (s : List UInt8) : (∃ i, i < l.length ∧ (nth l i).1 = s ∧ ledger_find_m l s = some (i : Int)) ∨ ((∀ i, i < l.length → (nth l i).1 ≠ s) ∧ ledger_find_m l s = some (-1)) := by
  by_cases ex : ∃ i, i < l.length ∧ (nth l i).1 = s
  · obtain ⟨i, hi, e⟩ := ex; exact .inl ⟨i, hi, e, findA_at h hi e⟩
  · have hn : ∀ i, i < l.length → (nth l i).1 ≠ s := fun i hi e => ex ⟨i, hi, e⟩
    exact .inr ⟨hn, findA_no hn⟩
end
theorem cloneA (l : List Acct) (h : l.length ≤ 1000) : slices_Clone_api_Account_api_Account_m l = some l := by unfold slices_Clone_api_Account_api_Account_m; rw [chk_t (by omega)]; rfl
structure Moved (l : List Acct) (i j k : Nat) (a b : Int) (m : List Acct) : Prop where
  len : m.length = l.length
  at_ : ∀ q, q < l.length → nth m q = ((nth l q).1, (nth l q).2.1 - (if q = i then a + b else 0) + (if q = j then a else 0) + (if q = k then b else 0), (nth l q).2.2 + (if q = i then 1 else 0))
inductive Took (l : List Acct) (d : Deal) (t : List UInt8) : List Acct × Int → Prop
  | no (e : Int) : e ≠ 0 → Took l d t ([], e)
  | yes (i j k : Nat) (m : List Acct) : Accts l → rt d = 0 → i < l.length → j < l.length → k < l.length → (nth l i).1 = d.1 → (nth l j).1 = d.2.1 → (nth l k).1 = t → d.2.2.1 = (nth l i).2.2 → d.2.2.2.1 + d.2.2.2.2.1 ≤ (nth l i).2.1 → Moved l i j k d.2.2.2.1 d.2.2.2.2.1 m → Accts m → Took l d t (m, 0)
theorem take_three {l : List Acct} {d : Deal} {t : List UInt8} (hA : Accts l) (hs : ShortA l) (hd : ShortD d) (hr : rt d = 0) {i j k : Nat} (hi : i < l.length) (hj : j < l.length) (hk : k < l.length) (ei : (nth l i).1 = d.1) (ej : (nth l j).1 = d.2.1) (ek : (nth l k).1 = t) :
    ∃ m, Moved l i j k d.2.2.2.1 d.2.2.2.2.1 m ∧ ledger_Take_m l d t = if d.2.2.1 ≠ (nth l i).2.2 then some ([], 6) else if (nth l i).2.1 < d.2.2.2.1 + d.2.2.2.2.1 then some ([], 11) else (ledger_Check_m m).bind fun e => if e != 0 then some ([], 8) else some (m, 0) := by
  obtain ⟨e, he, hq⟩ := checkA_ok hs
  have h0 := hq.2 hA
  subst h0
  obtain ⟨r1, r2, r3, r4, r5, r6, r7⟩ := rt_facts hd hr
  have h6 := hA.len
  have vi := hA.at hi; have vj := hA.at hj; have vk := hA.at hk
  have hij : i ≠ j := fun e => by subst e; exact r7 (ei.symm.trans ej)
  unfold ledger_Take_m
  rw [he, Option.bind_some, if_neg (by decide), right_ok hd, hr, Option.bind_some, if_neg (by decide), findA_at hA hi ei, Option.bind_some, findA_at hA hj ej, Option.bind_some, findA_at hA hk ek, Option.bind_some, if_neg (by rw [decide_eq_true_eq]; omega), if_neg (by rw [decide_eq_true_eq]; omega)]
  have hdk : decide ((k : Int) < 0) = false := by rw [decide_eq_false_iff_not]; omega
  simp only [bindR, hdk, Bool.false_eq_true, if_false]
  rw [idx_nat, nth_at hi, Option.bind_some]
  generalize hl1 : l.set i ((nth l i).1, (nth l i).2.1 - (d.2.2.2.1 + d.2.2.2.2.1), (nth l i).2.2) = l1
  generalize hl2 : l1.set i ((nth l1 i).1, (nth l1 i).2.1, (nth l1 i).2.2 + 1) = l2
  generalize hl3 : l2.set j ((nth l2 j).1, (nth l2 j).2.1 + d.2.2.2.1, (nth l2 j).2.2) = l3
  generalize hl4 : l3.set k ((nth l3 k).1, (nth l3 k).2.1 + d.2.2.2.2.1, (nth l3 k).2.2) = l4
  have n1 : l1.length = l.length := by rw [← hl1, List.length_set]
  have n2 : l2.length = l.length := by rw [← hl2, List.length_set, n1]
  have n3 : l3.length = l.length := by rw [← hl3, List.length_set, n2]
  have n4 : l4.length = l.length := by rw [← hl4, List.length_set, n3]
  have q1 : ∀ q, nth l1 q = if q = i then ((nth l i).1, (nth l i).2.1 - (d.2.2.2.1 + d.2.2.2.2.1), (nth l i).2.2) else nth l q := fun q => by rw [← hl1, nth_set hi]
  have q2 : ∀ q, nth l2 q = if q = i then ((nth l i).1, (nth l i).2.1 - (d.2.2.2.1 + d.2.2.2.2.1), (nth l i).2.2 + 1) else nth l q := fun q => by
    rw [← hl2, nth_set (by omega)]
    by_cases e : q = i
    · rw [if_pos e, if_pos e, q1, if_pos rfl]
    · rw [if_neg e, if_neg e, q1, if_neg e]
  have q2j : nth l2 j = nth l j := by rw [q2, if_neg (fun e => hij e.symm)]
  have q3 : ∀ q, nth l3 q = if q = j then ((nth l j).1, (nth l j).2.1 + d.2.2.2.1, (nth l j).2.2) else nth l2 q := fun q => by rw [← hl3, nth_set (by omega), q2j]
  have b3 : -4000000 ≤ (nth l3 k).2.1 ∧ (nth l3 k).2.1 ≤ 4000000 := by
    rw [q3]
    split
    · dsimp only; omega
    · rw [q2]; split
      · dsimp only; omega
      · omega
  refine ⟨l4, ⟨n4, fun q hq => ?_⟩, ?_⟩
  · rw [← hl4, nth_set (by omega)]
    by_cases e1 : q = k
    · subst e1
      rw [if_pos rfl, if_pos rfl, q3]
      by_cases e2 : q = j
      · subst e2
        rw [if_pos rfl, if_pos rfl, if_neg (fun e => hij e.symm), if_neg (fun e => hij e.symm)]
        dsimp only
        refine Prod.ext rfl (Prod.ext ?_ ?_) <;> dsimp only <;> omega
      · rw [if_neg e2, if_neg e2, q2]
        by_cases e3 : q = i
        · subst e3; simp only [if_true]
          refine Prod.ext rfl (Prod.ext ?_ ?_) <;> dsimp only <;> omega
        · rw [if_neg e3, if_neg e3, if_neg e3]
          refine Prod.ext rfl (Prod.ext ?_ ?_) <;> dsimp only <;> omega
    · rw [if_neg e1, if_neg e1, q3]
      by_cases e2 : q = j
      · subst e2
        rw [if_pos rfl, if_pos rfl, if_neg (fun e => hij e.symm), if_neg (fun e => hij e.symm)]
        refine Prod.ext rfl (Prod.ext ?_ ?_) <;> dsimp only <;> omega
      · rw [if_neg e2, if_neg e2, q2]
        by_cases e3 : q = i
        · subst e3; simp only [if_true]
          refine Prod.ext rfl (Prod.ext ?_ ?_) <;> dsimp only <;> omega
        · rw [if_neg e3, if_neg e3, if_neg e3]
          refine Prod.ext rfl (Prod.ext ?_ ?_) <;> dsimp only <;> omega
  · by_cases hn : d.2.2.1 = (nth l i).2.2
    · rw [if_neg (by rw [bne_iff_ne]; exact fun h => h hn), if_neg (by exact fun h => h hn), Option.bind_some, wadd_of (by omega) (by omega)]
      by_cases hp : (nth l i).2.1 < d.2.2.2.1 + d.2.2.2.2.1
      · rw [if_pos (by rw [decide_eq_true_eq]; exact hp), if_pos hp]
      · rw [if_neg (by rw [decide_eq_true_eq]; exact hp), if_neg hp, cloneA l (by omega), Option.bind_some, idx_nat, nth_at hi, Option.bind_some, Option.bind_some, Int.toNat_natCast, Int.toNat_natCast, Int.toNat_natCast, wsub_of (by omega) (by omega), hl1, idx_nat, nth_at (by omega), Option.bind_some, Option.bind_some]
        have e22 : (nth l1 i).2.2 = (nth l i).2.2 := by rw [q1, if_pos rfl]
        rw [wadd_of (x := (nth l1 i).2.2) (by omega) (by omega), hl2, idx_nat, nth_at (by omega), Option.bind_some, Option.bind_some, wadd_of (x := (nth l2 j).2.1) (by rw [q2j]; omega) (by rw [q2j]; omega), hl3, idx_nat, nth_at (by omega), Option.bind_some, Option.bind_some, wadd_of (x := (nth l3 k).2.1) (by omega) (by omega), hl4]
    · rw [if_pos (by rw [bne_iff_ne]; exact hn), if_pos hn]
theorem Moved.short {l m : List Acct} {i j k : Nat} {a b : Int} (h : Moved l i j k a b m) (hs : ShortA l) : ShortA m := fun x hx => by
  obtain ⟨q, hq, rfl⟩ := mem_nth hx
  rw [h.len] at hq
  rw [h.at_ q hq]
  show Short (nth l q).1
  exact hs _ (nth_mem hq)
theorem take_ok {l : List Acct} {d : Deal} {t : List UInt8} (hs : ShortA l) (hd : ShortD d) : Ok (ledger_Take_m l d t) (Took l d t) := by
  obtain ⟨e, he, hq⟩ := checkA_ok hs
  by_cases h0 : e = 0
  · have hA := hq.1 h0
    subst h0
    by_cases hr : rt d = 0
    · have miss : (¬ ∃ i j k, i < l.length ∧ j < l.length ∧ k < l.length ∧ (nth l i).1 = d.1 ∧ (nth l j).1 = d.2.1 ∧ (nth l k).1 = t) → ledger_Take_m l d t = some ([], 4) := fun hno => by
        unfold ledger_Take_m
        rw [he, Option.bind_some, if_neg (by decide), right_ok hd, hr, Option.bind_some, if_neg (by decide)]
        rcases findA_cases hA d.1 with ⟨i, hi, ei, f1⟩ | ⟨_, f1⟩ <;> rcases findA_cases hA d.2.1 with ⟨j, hj, ej, f2⟩ | ⟨_, f2⟩ <;> rcases findA_cases hA t with ⟨k, hk, ek, f3⟩ | ⟨_, f3⟩
        · exact absurd ⟨i, j, k, hi, hj, hk, ei, ej, ek⟩ hno
        all_goals
          rw [f1, Option.bind_some, f2, Option.bind_some, f3, Option.bind_some]
          simp [bindR]
          try omega
      by_cases ex : ∃ i j k, i < l.length ∧ j < l.length ∧ k < l.length ∧ (nth l i).1 = d.1 ∧ (nth l j).1 = d.2.1 ∧ (nth l k).1 = t
      · obtain ⟨i, j, k, hi, hj, hk, ei, ej, ek⟩ := ex
        obtain ⟨m, hm, e⟩ := take_three hA hs hd hr hi hj hk ei ej ek
        rw [e]
        by_cases hn : d.2.2.1 = (nth l i).2.2
        · rw [if_neg (by exact fun h => h hn)]
          by_cases hp : (nth l i).2.1 < d.2.2.2.1 + d.2.2.2.2.1
          · rw [if_pos hp, ok_some]; exact .no 11 (by decide)
          · rw [if_neg hp]
            obtain ⟨e2, he2, hq2⟩ := checkA_ok (hm.short hs)
            rw [he2, Option.bind_some]
            by_cases hz : e2 = 0
            · rw [if_neg (by rw [bne_iff_ne]; exact fun h => h hz), ok_some]
              exact .yes i j k m hA hr hi hj hk ei ej ek hn (by omega) hm (hq2.1 hz)
            · rw [if_pos (by rw [bne_iff_ne]; exact hz), ok_some]; exact .no 8 (by decide)
        · rw [if_pos hn, ok_some]; exact .no 6 (by decide)
      · rw [miss ex, ok_some]; exact .no 4 (by decide)
    · unfold ledger_Take_m
      rw [he, Option.bind_some, if_neg (by decide), right_ok hd, Option.bind_some, if_pos (by rw [bne_iff_ne]; exact hr), ok_some]
      exact .no _ hr
  · unfold ledger_Take_m
    rw [he, Option.bind_some, if_pos (by rw [bne_iff_ne]; exact h0), ok_some]
    exact .no _ h0
end Go.Pu
set_option linter.all false
namespace Go.Pu
open Go.Fw Go.Mo
def joinW : List (List UInt8) → List UInt8
  | [] => []
  | [w] => w
  | w :: v :: r => w ++ 32 :: joinW (v :: r)
theorem index_w (j : List UInt8) : ∀ w : List UInt8, (32 : UInt8) ∉ w → Lib.index (w ++ 32 :: j) [32] = (w.length : Int)
  | [], _ => by simp [Lib.index, List.isPrefixOf]
  | b :: w, h => by
    have hb : b ≠ 32 := fun e => h (by simp [e])
    have ih := index_w j w (fun e => h (by simp [e]))
    have : ([32] : List UInt8).isPrefixOf (b :: (w ++ 32 :: j)) = false := by simp [List.isPrefixOf, Ne.symm hb]
    rw [List.cons_append, Lib.index, ih, this, if_neg (by simp), if_neg (by rw [beq_iff_eq]; omega), List.length_cons]
    omega
theorem splitK_join : ∀ ws : List (List UInt8), ws ≠ [] → (∀ w ∈ ws, (32 : UInt8) ∉ w) → Lib.splitK [32] 0 (Lib.count (joinW ws) [32]) (joinW ws) = ws
  | [], h, _ => absurd rfl h
  | [w], _, h => by
    rw [joinW, Lib.count_one, List.count_eq_zero.2 (h w (by simp))]; rfl
  | w :: v :: r, _, h => by
    have hw := h w (by simp)
    have ih := splitK_join (v :: r) (by simp) (fun x hx => h x (List.mem_cons_of_mem _ hx))
    rw [Lib.count_one] at ih
    rw [joinW, Lib.count_one, List.count_append, List.count_eq_zero.2 hw, List.count_cons_self, Nat.zero_add, Lib.splitK, index_w _ _ hw, if_neg (by rw [beq_iff_eq]; omega), Int.toNat_natCast]
    rw [show (w ++ 32 :: joinW (v :: r)).take (w.length + 0) = w by simp, show (w ++ 32 :: joinW (v :: r)).drop (w.length + [(32 : UInt8)].length) = joinW (v :: r) by simp, ih]
theorem splitL_join {ws : List (List UInt8)} (h0 : ws ≠ []) (h : ∀ w ∈ ws, (32 : UInt8) ∉ w) : splitL (joinW ws) [32] = ws := by
  unfold splitL
  rw [Lib.splitB_data]; exact splitK_join ws h0 h
theorem dig_val : ∀ d, d < 10 → Lib.digitVal (UInt8.ofNat (48 + d)) = some d := by decide
theorem dig_rng : ∀ d, d < 10 → 48 ≤ (UInt8.ofNat (48 + d)).toNat ∧ (UInt8.ofNat (48 + d)).toNat ≤ 57 := by decide
theorem dec_append (m : List UInt8) : ∀ (l : List UInt8) (a : Nat), Lib.decFrom a (l ++ m) = (Lib.decFrom a l).bind fun x => Lib.decFrom x m
  | [], a => rfl
  | b :: l, a => by
    rw [List.cons_append, Lib.decFrom, Lib.decFrom]
    cases Lib.digitVal b with
    | none => rfl
    | some d => exact dec_append m l _
theorem dec_digits (u : Nat) : Lib.decFrom 0 (Lib.decDigits u) = some u := by
  induction u using Nat.strongRecOn with
  | _ u ih =>
    rw [Lib.decDigits]
    by_cases h : u < 10
    · rw [dif_pos h, Lib.decFrom, dig_val u h]; simp [Lib.decFrom]
    · rw [dif_neg h, dec_append, ih (u / 10) (by omega), Option.bind_some, Lib.decFrom, dig_val _ (by omega)]
      simp [Lib.decFrom]; omega
theorem dec_rng (u : Nat) : ∀ b ∈ Lib.decDigits u, 48 ≤ b.toNat ∧ b.toNat ≤ 57 := by
  induction u using Nat.strongRecOn with
  | _ u ih =>
    rw [Lib.decDigits]
    by_cases h : u < 10
    · rw [dif_pos h]; intro b hb; rw [List.mem_singleton] at hb; subst hb; exact dig_rng u h
    · rw [dif_neg h]; intro b hb
      rcases List.mem_append.1 hb with hb | hb
      · exact ih (u / 10) (by omega) b hb
      · rw [List.mem_singleton] at hb; subst hb; exact dig_rng _ (by omega)
theorem dec_len : ∀ (k u : Nat), u < 10 ^ (k + 1) → (Lib.decDigits u).length ≤ k + 1
  | 0, u, h => by rw [Lib.decDigits, dif_pos (by omega)]; simp
  | k + 1, u, h => by
    rw [Lib.decDigits]
    by_cases h' : u < 10
    · rw [dif_pos h']; simp
    · rw [dif_neg h', List.length_append]
      have : (10 : Nat) ^ (k + 1 + 1) = 10 ^ (k + 1) * 10 := Nat.pow_succ ..
      have := dec_len k (u / 10) (by omega)
      simp only [List.length_cons, List.length_nil]; omega
theorem dec_pos (u : Nat) : 1 ≤ (Lib.decDigits u).length := by
  rw [Lib.decDigits]
  by_cases h : u < 10
  · rw [dif_pos h]; simp
  · rw [dif_neg h]; simp
theorem itoa_at {n : Int} (h0 : 0 ≤ n) : Lib.itoa n = Lib.decDigits n.toNat := by unfold Lib.itoa; rw [if_neg (by omega)]
theorem itoa_len {n : Int} (h0 : 0 ≤ n) (h1 : n ≤ 1000000) : (Lib.itoa n).length ≤ 7 := by rw [itoa_at h0]; exact dec_len 6 _ (by omega)
theorem itoa_len3 {n : Int} (h0 : 0 ≤ n) (h1 : n ≤ 100) : (Lib.itoa n).length ≤ 3 := by rw [itoa_at h0]; exact dec_len 2 _ (by omega)
theorem itoa_no {n : Int} (h0 : 0 ≤ n) : (32 : UInt8) ∉ Lib.itoa n := by
  rw [itoa_at h0]; intro h
  have := (dec_rng _ _ h).1
  exact absurd this (by decide)
theorem atoi_itoa {n : Int} (h0 : 0 ≤ n) : Lib.atoi (Lib.itoa n) = some n := by
  rw [itoa_at h0]
  have h1 := dec_pos n.toNat; have h2 := dec_rng n.toNat; have h3 := dec_digits n.toNat
  cases hl : Lib.decDigits n.toNat with
  | nil => rw [hl] at h1; simp at h1
  | cons b r =>
    rw [hl] at h2 h3
    have hb := (h2 b (by simp)).1
    rw [Lib.atoi, if_neg, if_neg, Lib.decNat, if_neg (by simp), h3, Option.map_some, Int.toNat_of_nonneg h0]
    · intro e; rw [beq_iff_eq] at e; subst e; exact absurd hb (by decide)
    · intro e; rw [beq_iff_eq] at e; subst e; exact absurd hb (by decide)
theorem atoi_m {n : Int} (h0 : 0 ≤ n) (h1 : n ≤ 1000000) : strconv_Atoi_m (Lib.itoa n) = some n := by
  have := itoa_len h0 h1
  unfold strconv_Atoi_m
  rw [chk_t (by omega), Option.bind_some, atoi_itoa h0]
theorem itoa_m {n : Int} (h0 : 0 ≤ n) (h1 : n ≤ 1000000) : strconv_Itoa_m n = some (Lib.itoa n) := by
  unfold strconv_Itoa_m; rw [chk_t (by omega), Option.bind_some]
theorem nm_facts {s : List UInt8} (hs : Short s) (h : nm s = true) : s.length ≤ 8 ∧ 1 ≤ s.length ∧ ∀ b ∈ s, 97 ≤ b.toNat ∧ b.toNat ≤ 122 := by
  have hn := named_ok hs
  rw [h] at hn
  have hl : (intsOf s).length = s.length := by unfold intsOf; simp
  have : Ok (ledger_named_m s) (fun r => r = true → s.length ≤ 8 ∧ 1 ≤ s.length ∧ ∀ i, i < s.length → 97 ≤ nth (intsOf s) i ∧ nth (intsOf s) i ≤ 122) := by
    unfold ledger_named_m
    rw [chk_t (show s.length ≤ 9223372036854775807 from hs), Option.bind_some, ok_bindR]
    refine ok_rangeL (fun k _ => ∀ i, i < k → 97 ≤ nth (intsOf s) i ∧ nth (intsOf s) i ≤ 122) (fun i hi => by omega) (fun k a t hk hI => ?_) fun t ht => ?_
    · obtain ⟨ha, hkl⟩ := nth_of hk
      unfold ledger_named_b1
      simp only [ok_bindF, ok_ite, ok_some, flok_nx, flok_rt, decide_eq_true_eq]
      refine ⟨fun h1 => ⟨fun _ => fun e => by simp at e, fun e => absurd trivial e⟩, fun h1 => ⟨fun _ e => by simp at e, fun h2 i hi => ?_⟩⟩
      by_cases e : i = k
      · subst e; rw [ha]; omega
      · exact hI i (by omega)
    · rw [hl] at ht
      simp only [ok_bindR, ok_ite, ok_some, flok_nx, flok_rt, decide_eq_true_eq]
      exact ⟨fun h1 h2 => ⟨by omega, by omega, ht⟩, fun h1 h2 => by simp at h2⟩
  obtain ⟨b, e, hb⟩ := this
  rw [hn] at e; cases e
  obtain ⟨h1, h2, h3⟩ := hb rfl
  refine ⟨h1, h2, fun b hb => ?_⟩
  obtain ⟨i, hi, rfl⟩ := mem_nth hb
  have := h3 i hi
  rw [show nth (intsOf s) i = ((nth s i).toNat : Int) by unfold intsOf; exact nth_map hi] at this
  omega
theorem nm_no {s : List UInt8} (hs : Short s) (h : nm s = true) : (32 : UInt8) ∉ s := fun hm => by
  have := ((nm_facts hs h).2.2 _ hm).1
  exact absurd this (by decide)
end Go.Pu
set_option linter.all false
namespace Go.Pu
open Go.Fw Go.Mo
abbrev Bs := List UInt8
theorem wrap_u16 (n : Int) : 0 ≤ IntKind.wrap .u16 n ∧ IntKind.wrap .u16 n < 65536 := by
  unfold IntKind.wrap
  have a0 := Int.emod_nonneg n (b := 65536) (by decide)
  have a1 := Int.emod_lt_of_pos n (b := 65536) (by decide)
  exact ⟨a0, a1⟩
theorem wrap_u8 (n : Int) : IntKind.wrap .u8 n = n % 256 := rfl
theorem xor_u16 (a b : Int) : 0 ≤ bits .xor .u16 a b ∧ bits .xor .u16 a b < 65536 := by
  unfold bits; exact wrap_u16 _
theorem sum_ok (s : Bs) (h : s.length ≤ 9223372036854775807) : Ok (log_Sum_m s) (fun v => 0 ≤ v ∧ v < 65536) := by
  unfold log_Sum_m
  rw [chk_t h, Option.bind_some, ok_bindR]
  refine ok_rangeL (fun _ v => 0 ≤ v ∧ v < 65536) (by decide) (fun k a t hk hI => ?_) fun v hv => by rw [ok_some]; exact hv
  unfold log_Sum_b1
  rw [chk_t (by decide), Option.bind_some, ok_bindF]
  refine Ok.fl (N := fun s : Int × Int => 0 ≤ s.1 ∧ s.1 < 65536) (B := fun _ => False) (R := fun _ => False) (ok_loopM (fun s : Int × Int => (0 ≤ s.1 ∧ s.1 < 65536) ∧ 0 ≤ s.2 ∧ s.2 ≤ 8) (fun s => (8 - s.2).toNat) (fun s hs => ?_) _ _ ⟨xor_u16 _ _, Int.le_refl _, by dsimp only; omega⟩ (by dsimp only; omega)) (fun s hs => by rw [ok_some, flok_nx]; exact hs) (fun _ h => h.elim) (fun _ h => h.elim)
  obtain ⟨x, y⟩ := s
  obtain ⟨⟨h1, h2⟩, h3, h4⟩ := hs
  dsimp only at h1 h2 h3 h4
  unfold log_Sum_b2
  dsimp only
  by_cases h8 : y < 8
  · rw [if_pos (by rw [decide_eq_true_eq]; exact h8), chk_t (by decide), Option.bind_some]
    split
    · rw [chk_t (by decide), Option.bind_some, wadd_of (by omega) (by omega), ok_some, flok_nx]
      exact ⟨⟨xor_u16 _ _, by dsimp only; omega, by dsimp only; omega⟩, by dsimp only; omega⟩
    · rw [chk_t (by decide), Option.bind_some, wadd_of (by omega) (by omega), ok_some, flok_nx]
      exact ⟨⟨wrap_u16 _, by dsimp only; omega, by dsimp only; omega⟩, by dsimp only; omega⟩
  · rw [if_neg (by rw [decide_eq_true_eq]; exact h8), ok_some, flok_br]
    exact ⟨h1, h2⟩
def crc (s : Bs) : Int := (log_Sum_m s).getD 0
theorem sum_crc {s : Bs} (h : s.length ≤ 9223372036854775807) : log_Sum_m s = some (crc s) ∧ 0 ≤ crc s ∧ crc s < 65536 := by
  obtain ⟨v, e, hv⟩ := sum_ok s h
  have : crc s = v := by unfold crc; rw [e]; rfl
  rw [this]; exact ⟨e, hv⟩
def byt (n : Int) : UInt8 := UInt8.ofNat n.toNat
def head_ (r : Bs) : Bs := byt r.length :: r
def hi_ (r : Bs) : UInt8 := byt (crc (head_ r) / 256 % 256)
def lo_ (r : Bs) : UInt8 := byt (crc (head_ r) % 256)
def fr (r : Bs) : Bs := head_ r ++ [hi_ r, lo_ r]
theorem fr_len (r : Bs) : (fr r).length = r.length + 3 := by simp [fr, head_]
theorem fdiv_shift (v : Int) : Int.fdiv v (2 ^ (min (8 : Int).toNat (IntKind.bits .u16))) = v / 256 := by
  show Int.fdiv v 256 = v / 256
  rw [Int.fdiv_eq_ediv_of_nonneg _ (by decide)]
theorem byt_nat {n : Int} (h0 : 0 ≤ n) (h1 : n < 256) : ((byt n).toNat : Int) = n := by
  unfold byt
  rw [UInt8.toNat_ofNat', Nat.mod_eq_of_lt (by omega)]; omega
theorem frame_ok (r : Bs) : log_Frame_m r = some (if r.length ≤ 64 then (fr r, 0) else ([], 2)) := by
  unfold log_Frame_m
  by_cases h : r.length ≤ 64
  · rw [if_neg (by rw [decide_eq_true_eq]; omega), if_pos h]
    have e1 : bytesOf [IntKind.wrap .u8 (r.length : Int)] ++ r = head_ r := by
      show byt (IntKind.wrap .u8 (r.length : Int)) :: r = _
      rw [wrap_u8, Int.emod_eq_of_lt (by omega) (by omega)]; rfl
    have hl : (head_ r).length ≤ 9223372036854775807 := by simp [head_]; omega
    rw [e1, (sum_crc hl).1]
    have e2 : bytesOf [IntKind.wrap .u8 (Int.fdiv (crc (head_ r)) (2 ^ (min (8 : Int).toNat (IntKind.bits .u16)))), IntKind.wrap .u8 (crc (head_ r))] = [hi_ r, lo_ r] := by
      rw [fdiv_shift, wrap_u8, wrap_u8]; rfl
    rw [chk_t (by show 1 + r.length ≤ _; omega), Option.bind_some, Option.bind_some, chk_t (by decide), Option.bind_some, e2, chk_t (by simp [head_]; omega), Option.bind_some]
    rfl
  · rw [if_pos (by rw [decide_eq_true_eq]; omega), if_neg h]
def cat : List Bs → Bs
  | [] => []
  | r :: l => fr r ++ cat l
theorem cat_append (l m : List Bs) : cat (l ++ m) = cat l ++ cat m := by
  induction l with
  | nil => rfl
  | cons r l ih => simp [cat, ih]
theorem cat_snoc (l : List Bs) (r : Bs) : cat (l ++ [r]) = cat l ++ fr r := by rw [cat_append]; simp [cat]
theorem cat_len (l : List Bs) : 3 * l.length ≤ (cat l).length := by
  induction l with
  | nil => simp [cat]
  | cons r l ih => simp only [cat, List.length_append, fr_len, List.length_cons]; omega
def whole_ : List Bs → Nat → Nat
  | [], _ => 0
  | r :: l, k => if r.length + 3 ≤ k then whole_ l (k - (r.length + 3)) + 1 else 0
theorem whole_le : ∀ (l : List Bs) (k : Nat), whole_ l k ≤ l.length
  | [], _ => Nat.le_refl _
  | r :: l, k => by
    unfold whole_
    split
    · have := whole_le l (k - (r.length + 3)); simp only [List.length_cons]; omega
    · omega
theorem idx_mid {α : Type} [Inhabited α] {A B : List α} {j : Int} (h0 : 0 ≤ j) (h : j.toNat < B.length) : idx (A ++ B) ((A.length : Int) + j) = some (nth B j.toNat) := by
  rw [idx_at (by omega), List.getElem?_append_right (by omega), show ((A.length : Int) + j).toNat - A.length = j.toNat by omega, nth_at h]
theorem cut_mid {α : Type} {A B : List α} {a b : Nat} (hb : a ≤ b) : ((A ++ B).take (A.length + b)).drop (A.length + a) = (B.take b).drop a := by
  rw [List.take_append, List.take_of_length_le (by omega), show A.length + b - A.length = b by omega, List.drop_append, List.drop_of_length_le (by omega), show A.length + a - A.length = a by omega]; rfl
theorem wrap_i64 (b : UInt8) : IntKind.wrap .i64 (b.toNat : Int) = (b.toNat : Int) := by
  have := b.toNat_lt
  rw [IntKind.wrap_i64]; omega
theorem scan_step {A B : Bs} {r : Bs} (hr : r.length ≤ 64) (l2 : List Bs) (hl : (A ++ (fr r ++ B)).length ≤ 9223372036854775807) (h2 : l2.length < 68719476736) : log_Scan_b1 (A ++ (fr r ++ B)) (l2, (A.length : Int)) = some (.nx (l2 ++ [r], ((A.length + (r.length + 3) : Nat) : Int))) := by
  have hB : (fr r ++ B).length = r.length + 3 + B.length := by rw [List.length_append, fr_len]
  rw [List.length_append, hB] at hl
  have eb : fr r ++ B = byt r.length :: (r ++ ([hi_ r, lo_ r] ++ B)) := by simp [fr, head_]
  have hb0 : nth (fr r ++ B) 0 = byt r.length := by rw [eb]; rfl
  have hn : ((byt (r.length : Int)).toNat : Int) = r.length := byt_nat (by omega) (by omega)
  have hAl : ((A ++ (fr r ++ B)).length : Int) = A.length + (r.length + 3 + B.length) := by rw [List.length_append, hB]; omega
  have hc := sum_crc (s := head_ r) (by simp [head_]; omega)
  have g1 : nth (fr r ++ B) (r.length + 1) = hi_ r := by rw [eb, nth_cons_succ, nth_append, if_neg (by omega), Nat.sub_self]; rfl
  have g2 : nth (fr r ++ B) (r.length + 2) = lo_ r := by rw [eb, nth_cons_succ, nth_append, if_neg (by omega), show r.length + 1 - r.length = 1 by omega]; rfl
  have c1 : ((A ++ (fr r ++ B)).take (A.length + (r.length + 1))).drop (A.length + 0) = head_ r := by
    rw [cut_mid (by omega), eb]
    simp [head_]
  have c2 : ((A ++ (fr r ++ B)).take (A.length + (r.length + 1))).drop (A.length + 1) = r := by
    rw [cut_mid (by omega), eb]
    simp
  unfold log_Scan_b1
  dsimp only
  rw [if_pos (by rw [decide_eq_true_eq]; omega), show (A.length : Int) = (A.length : Int) + 0 by omega, idx_mid (by decide) (by rw [hB]; exact Nat.lt_of_lt_of_le (by decide : (0:Int).toNat < 1) (by omega)), Option.bind_some, show nth (fr r ++ B) (0 : Int).toNat = byt r.length from hb0, wrap_i64, hn, Int.add_zero]
  rw [if_neg (by rw [decide_eq_true_eq]; omega), wsub_of (by omega) (by omega), wadd_of (by omega : -9223372036854775808 ≤ (r.length : Int) + 3) (by omega), wadd_of (by omega : -9223372036854775808 ≤ (A.length : Int) + r.length) (by omega), wadd_of (by omega : -9223372036854775808 ≤ (A.length : Int) + r.length + 1) (by omega), wadd_of (by omega : -9223372036854775808 ≤ (A.length : Int) + r.length + 2) (by omega), wadd_of (by omega : -9223372036854775808 ≤ (A.length : Int) + 1) (by omega), wadd_of (by omega : -9223372036854775808 ≤ (A.length : Int) + 1 + r.length) (by omega), wadd_of (by omega : -9223372036854775808 ≤ (A.length : Int) + (r.length + 3)) (by omega)]
  rw [decide_eq_false (by omega)]
  simp only [bindF, Bool.false_eq_true, if_false]
  rw [chk_t (by omega), Option.bind_some, show ((A.length : Int) + r.length + 1).toNat = A.length + (r.length + 1) by omega, show (A.length : Int).toNat = A.length + 0 by omega, c1, hc.1, Option.bind_some]
  rw [show (A.length : Int) + r.length + 1 = (A.length : Int) + ((r.length + 1 : Nat) : Int) by omega, idx_mid (by omega) (by omega), Option.bind_some, chk_t (by decide), Option.bind_some, Int.toNat_natCast, g1, fdiv_shift, wrap_u8, wrap_u8]
  have d1 := Int.emod_nonneg (crc (head_ r) / 256) (b := 256) (by decide)
  have d2 := Int.emod_lt_of_pos (crc (head_ r) / 256) (b := 256) (by decide)
  have d3 := Int.emod_nonneg (crc (head_ r)) (b := 256) (by decide)
  have d4 := Int.emod_lt_of_pos (crc (head_ r)) (b := 256) (by decide)
  have k1 : ((hi_ r).toNat : Int) = crc (head_ r) / 256 % 256 := byt_nat d1 d2
  have k2 : ((lo_ r).toNat : Int) = crc (head_ r) % 256 := byt_nat d3 d4
  rw [k1, if_neg (by simp), show (A.length : Int) + r.length + 2 = (A.length : Int) + ((r.length + 2 : Nat) : Int) by omega, idx_mid (by omega) (by omega), Option.bind_some, Int.toNat_natCast, g2, k2]
  simp only [bne_self_eq_false, Bool.false_eq_true, if_false]
  rw [chk_t (by omega), Option.bind_some, chk_t (by simp; omega), Option.bind_some, show ((A.length : Int) + 1 + r.length).toNat = A.length + (r.length + 1) by omega, show ((A.length : Int) + 1).toNat = A.length + 1 by omega, c2]
  congr 3
theorem scan_stop {A : Bs} {r : Bs} (hr : r.length ≤ 64) (l2 : List Bs) {k : Nat} (hk : k < r.length + 3) (hl : A.length + k ≤ 9223372036854775807) : log_Scan_b1 (A ++ (fr r).take k) (l2, (A.length : Int)) = some (.br (l2, (A.length : Int))) := by
  have hT : ((fr r).take k).length = k := by rw [List.length_take, fr_len]; omega
  have hAl : ((A ++ (fr r).take k).length : Int) = A.length + k := by rw [List.length_append, hT]; omega
  unfold log_Scan_b1
  dsimp only
  by_cases h0 : k = 0
  · rw [if_neg (by rw [decide_eq_true_eq]; omega)]
  · have hn : ((byt (r.length : Int)).toNat : Int) = r.length := byt_nat (by omega) (by omega)
    rw [if_pos (by rw [decide_eq_true_eq]; omega), show (A.length : Int) = (A.length : Int) + 0 by omega, idx_mid (by decide) (by rw [hT]; exact Nat.pos_of_ne_zero h0), Option.bind_some, show nth ((fr r).take k) (0 : Int).toNat = byt r.length by rw [show (0 : Int).toNat = 0 from rfl, nth_take (by omega)]; rfl, wrap_i64, hn, Int.add_zero]
    rw [if_neg (by rw [decide_eq_true_eq]; omega), wsub_of (by omega) (by omega), wadd_of (by omega : -9223372036854775808 ≤ (r.length : Int) + 3) (by omega), decide_eq_true (by omega)]
    simp only [bindF, if_true]
theorem scan_loop : ∀ (l : List Bs) (k : Nat) (A : Bs) (l2 : List Bs) (f : Nat), (∀ r ∈ l, r.length ≤ 64) → k ≤ (cat l).length → A.length + k ≤ 9223372036854775807 → l2.length + l.length ≤ 68719476736 → l.length < f →
    loopM (γ := Unit) (log_Scan_b1 (A ++ (cat l).take k)) f (l2, (A.length : Int)) = some (.nx (l2 ++ l.take (whole_ l k), ((A.length + (cat (l.take (whole_ l k))).length : Nat) : Int)))
  | [], k, A, l2, f, hr, hk, hA, h2, hf => by
    obtain ⟨f, rfl⟩ : ∃ g, f = g + 1 := ⟨f - 1, by simp at hf; omega⟩
    unfold loopM
    have : log_Scan_b1 (A ++ (cat []).take k) (l2, (A.length : Int)) = some (.br (l2, (A.length : Int))) := by
      unfold log_Scan_b1
      dsimp only
      rw [if_neg (by rw [decide_eq_true_eq]; simp [cat])]
    rw [this]
    simp [cat, whole_]
  | r :: l, k, A, l2, f, hr, hk, hA, h2, hf => by
    obtain ⟨f, rfl⟩ : ∃ g, f = g + 1 := ⟨f - 1, by simp at hf; omega⟩
    have hrl := hr r (by simp)
    have hfl := fr_len r
    have hk' : k ≤ r.length + 3 + (cat l).length := by simpa [cat, fr_len] using hk
    have h2' : l2.length + (l.length + 1) ≤ 68719476736 := by simpa using h2
    have hf' : l.length < f := by simpa using hf
    unfold loopM
    by_cases hw : r.length + 3 ≤ k
    · have e1 : (cat (r :: l)).take k = fr r ++ (cat l).take (k - (r.length + 3)) := by
        rw [cat, List.take_append, List.take_of_length_le (by omega), fr_len]
      rw [e1, scan_step hrl l2 (by simp only [List.length_append, List.length_take]; omega) (by omega)]
      dsimp only
      have ih := scan_loop l (k - (r.length + 3)) (A ++ fr r) (l2 ++ [r]) f (fun x hx => hr x (by simp [hx])) (by omega) (by rw [List.length_append]; omega) (by simp; omega) hf'
      rw [List.length_append, fr_len, List.append_assoc] at ih
      rw [ih]
      have e2 : whole_ (r :: l) k = whole_ l (k - (r.length + 3)) + 1 := by rw [whole_, if_pos hw]
      rw [e2, List.take_succ_cons, cat, List.length_append, fr_len, Nat.add_assoc, List.append_assoc]; rfl
    · have e1 : (cat (r :: l)).take k = (fr r).take k := by
        rw [cat, List.take_append_of_le_length (by omega)]
      rw [e1, scan_stop hrl l2 (by omega) (by omega)]
      have e2 : whole_ (r :: l) k = 0 := by rw [whole_, if_neg hw]
      rw [e2]; simp [cat]
theorem scan_ok {l : List Bs} {k : Nat} (hr : ∀ r ∈ l, r.length ≤ 64) (hk : k ≤ (cat l).length) (hl : l.length < 4194304) : log_Scan_m ((cat l).take k) = some (l.take (whole_ l k), ((cat (l.take (whole_ l k))).length : Int)) := by
  have hc : ∀ l : List Bs, (∀ r ∈ l, r.length ≤ 64) → (cat l).length ≤ 67 * l.length := by
    intro l
    induction l with
    | nil => intro _; simp [cat]
    | cons r l ih =>
      intro h
      have := ih fun x hx => h x (by simp [hx])
      have := h r (by simp)
      simp only [cat, List.length_append, fr_len, List.length_cons]; omega
  have := hc l hr
  have hloop : ∀ f, l.length < f → loopM (γ := Unit) (log_Scan_b1 ((cat l).take k)) f ([], ((0 : Nat) : Int)) = some (.nx (l.take (whole_ l k), ((cat (l.take (whole_ l k))).length : Int))) := fun f hf => by
    have := scan_loop l k [] [] f hr hk (by simp only [List.length_nil]; omega) (by simp only [List.length_nil]; omega) hf
    rw [List.nil_append, List.length_nil, List.nil_append, Nat.zero_add] at this
    exact this
  unfold log_Scan_m
  rw [show (0 : Int) = ((0 : Nat) : Int) from rfl, hloop _ (by omega)]; rfl
theorem whole_all : ∀ (l : List Bs), whole_ l (cat l).length = l.length
  | [] => rfl
  | r :: l => by
    rw [whole_, cat, List.length_append, fr_len, if_pos (by omega), show r.length + 3 + (cat l).length - (r.length + 3) = (cat l).length by omega, whole_all l]; rfl
theorem append_ok (l : List Bs) (safe : Int) (r : Bs) (hd : (cat l).length ≤ 4000) : log_Log_Append_m (cat l, safe) r = some (if r.length ≤ 64 then (if (cat l).length + (r.length + 3) ≤ 4000 then (0, (cat (l ++ [r]), safe)) else (8, (cat l, safe))) else (2, (cat l, safe))) := by
  unfold log_Log_Append_m
  rw [frame_ok, Option.bind_some]
  by_cases h : r.length ≤ 64
  · rw [if_pos h, if_pos h]
    dsimp only
    have hfl := fr_len r
    rw [if_neg (by decide), wadd_of (by omega) (by omega)]
    by_cases hb : (cat l).length + (r.length + 3) ≤ 4000
    · rw [if_neg (by rw [decide_eq_true_eq]; omega), if_pos hb, chk_t (by omega), Option.bind_some, cat_snoc]
    · rw [if_pos (by rw [decide_eq_true_eq]; omega), if_neg hb]
  · rw [if_neg h, if_neg h]; rfl
end Go.Pu
set_option linter.all false
namespace Go.Pu
open Go.Fw Go.Mo
theorem whole_ge : ∀ (l : List Bs) (s k : Nat), s ≤ l.length → (cat (l.take s)).length ≤ k → s ≤ whole_ l k
  | [], s, k, hs, _ => by simp at hs; omega
  | r :: l, 0, k, _, _ => Nat.zero_le _
  | r :: l, s + 1, k, hs, hk => by
    rw [List.take_succ_cons, cat, List.length_append, fr_len] at hk
    have := whole_ge l s (k - (r.length + 3)) (by simpa using hs) (by omega)
    rw [whole_, if_pos (by omega)]; omega
theorem cat_take_le : ∀ (l : List Bs) (s : Nat), (cat (l.take s)).length ≤ (cat l).length
  | [], s => by simp
  | r :: l, 0 => by simp [cat]
  | r :: l, s + 1 => by
    have := cat_take_le l s
    rw [List.take_succ_cons, cat, cat, List.length_append, List.length_append]; omega
theorem cat_take : ∀ (l : List Bs) (k : Nat), k ≤ (cat l).length → (cat (l.take (whole_ l k))).length ≤ k ∧ ((cat l).take k).take (cat (l.take (whole_ l k))).length = cat (l.take (whole_ l k))
  | [], k, _ => by simp [cat, whole_]
  | r :: l, k, hk => by
    have hfl := fr_len r
    by_cases hw : r.length + 3 ≤ k
    · have hk' : k - (r.length + 3) ≤ (cat l).length := by rw [cat, List.length_append, fr_len] at hk; omega
      obtain ⟨h1, h2⟩ := cat_take l (k - (r.length + 3)) hk'
      rw [whole_, if_pos hw, List.take_succ_cons, cat, List.length_append, fr_len]
      refine ⟨by omega, ?_⟩
      have e1 : (fr r ++ cat l).take k = fr r ++ (cat l).take (k - (r.length + 3)) := by
        rw [List.take_append, List.take_of_length_le (l := fr r) (by omega), fr_len]
      rw [cat, e1, List.take_append, List.take_of_length_le (l := fr r) (by omega), fr_len, show r.length + 3 + (cat (l.take (whole_ l (k - (r.length + 3))))).length - (r.length + 3) = (cat (l.take (whole_ l (k - (r.length + 3))))).length by omega, h2]
    · rw [whole_, if_neg hw]; simp [cat]
theorem all_ok (l : List Bs) (safe : Int) (hr : ∀ r ∈ l, r.length ≤ 64) (hd : (cat l).length ≤ 4000) : log_Log_All_m (cat l, safe) = some l := by
  have h3 := cat_len l
  have := scan_ok (k := (cat l).length) hr (Nat.le_refl _) (by omega)
  rw [List.take_length, whole_all, List.take_length] at this
  unfold log_Log_All_m
  dsimp only
  rw [this]; rfl
theorem crash_ok (l : List Bs) (s : Nat) (k : Int) (hr : ∀ r ∈ l, r.length ≤ 64) (hd : (cat l).length ≤ 4000) (hs : s ≤ l.length) : log_Log_Crash_m (cat l, ((cat (l.take s)).length : Int)) k = some (1, (cat l, ((cat (l.take s)).length : Int))) ∨ ∃ w, s ≤ w ∧ w ≤ l.length ∧ log_Log_Crash_m (cat l, ((cat (l.take s)).length : Int)) k = some (0, (cat (l.take w), ((cat (l.take w)).length : Int))) := by
  have hle := cat_take_le l s
  have h3 := cat_len l
  unfold log_Log_Crash_m
  dsimp only
  by_cases h0 : k < 0
  · left; rw [if_pos (by rw [decide_eq_true_eq]; exact h0)]; simp [bindR]
  · rw [if_neg (by rw [decide_eq_true_eq]; exact h0), wsub_of (by omega) (by omega)]
    by_cases h1 : k > ((cat l).length : Int) - ((cat (l.take s)).length : Int)
    · left; rw [decide_eq_true h1]; simp [bindR]
    · right
      rw [decide_eq_false h1]
      simp only [bindR, Bool.false_eq_true, if_false]
      rw [wadd_of (by omega) (by omega), chk_t ⟨by omega, by omega⟩, Option.bind_some, List.drop_zero]
      obtain ⟨K, hK⟩ : ∃ K : Nat, ((cat (l.take s)).length : Int) + k = K := ⟨(((cat (l.take s)).length : Int) + k).toNat, by omega⟩
      rw [hK, Int.toNat_natCast, scan_ok hr (by omega) (by omega), Option.bind_some]
      dsimp only
      obtain ⟨q1, q2⟩ := cat_take l K (by omega)
      refine ⟨whole_ l K, whole_ge l s K hs (by omega), whole_le l K, ?_⟩
      rw [chk_t ⟨by rw [List.length_take]; omega, by omega⟩, Option.bind_some, List.drop_zero, Int.toNat_natCast, q2]
end Go.Pu
set_option linter.all false
namespace Go.Pu
open Go.Fw Go.Mo
end Go.Pu
set_option linter.all false
namespace Go.Pu
open Go.Fw Go.Mo
end Go.Pu
set_option linter.all false
namespace Go.Pu
open Go.Fw Go.Mo
end Go.Pu
set_option linter.all false
namespace Go.Pu
open Go.Fw Go.Mo
end Go.Pu
set_option linter.all false
namespace Go.Pu
open Go.Fw Go.Mo
theorem cancel_le {a b c : Int} (hc : 0 < c) (h : a * c ≤ b * c) : a ≤ b := Int.le_of_mul_le_mul_right h hc
theorem cancel_lt {a b c : Int} (hc : 0 < c) (h : a * c < b * c) : a < b := Int.lt_of_mul_lt_mul_right h (by omega)
theorem mul_le {a b c : Int} (hc : 0 ≤ c) (h : a ≤ b) : a * c ≤ b * c := Int.mul_le_mul_of_nonneg_right h hc
theorem mul_lt {a b c : Int} (hc : 0 < c) (h : a < b) : a * c < b * c := Int.mul_lt_mul_of_pos_right h hc
theorem ratio_max {u w : Nat → Int} : ∀ {n : Nat}, (∀ k, k < n → u k ≤ 0 → 0 < w k) → (∃ k, k < n ∧ u k ≤ 0) → ∃ i, i < n ∧ u i ≤ 0 ∧ ∀ k, k < n → u k ≤ 0 → u i * w k ≤ u k * w i
  | n + 1, hw, ⟨k0, hk0, hu0⟩ => by
    by_cases ex : ∃ k, k < n ∧ u k ≤ 0
    · obtain ⟨i, hi, hui, hb⟩ := ratio_max (u := u) (w := w) (n := n) (fun k hk => hw k (by omega)) ex
      by_cases hn : u n ≤ 0
      · by_cases hc : u i * w n ≤ u n * w i
        · refine ⟨i, by omega, hui, fun k hk hku => ?_⟩
          by_cases e : k = n
          · subst e; exact hc
          · exact hb k (by omega) hku
        · refine ⟨n, by omega, hn, fun k hk hku => ?_⟩
          by_cases e : k = n
          · subst e; exact Int.le_refl _
          · have h1 := hb k (by omega) hku
            have wi := hw i (by omega) hui
            have wk := hw k hk hku
            have wn := hw n (by omega) hn
            refine cancel_le wi ?_
            have a1 := mul_le (show 0 ≤ w n by omega) h1
            have a2 := mul_le (show 0 ≤ w k by omega) (show u n * w i ≤ u i * w n by omega)
            grind
      · exact ⟨i, by omega, hui, fun k hk hku => by
          by_cases e : k = n
          · subst e; exact absurd hku hn
          · exact hb k (by omega) hku⟩
    · have e : k0 = n := by
        by_cases e : k0 = n
        · exact e
        · exact absurd ⟨k0, by omega, hu0⟩ ex
      subst e
      exact ⟨k0, by omega, hu0, fun k hk hku => by
        by_cases e : k = k0
        · subst e; exact Int.le_refl _
        · exact absurd ⟨k, by omega, hku⟩ ex⟩
theorem pos_of_mul {a b : Int} (hb : 0 ≤ b) (h : 0 < a * b) : 0 < a := by
  rcases Int.lt_or_le 0 a with h' | h'
  · exact h'
  · have := mul_le hb h'; omega
theorem cross {u w : Nat → Int} {n : Nat} {p r : Int} (hp : 0 ≤ p) (hr : 0 ≤ r) (hx : ∀ k, k < n → 0 < w k * p + u k * r) (hu : ∃ k, k < n ∧ u k ≤ 0) (hw : ∃ k, k < n ∧ w k ≤ 0) :
    ∃ i j, i < n ∧ j < n ∧ 0 < u j - u i ∧ 0 < w i - w j ∧ ∀ k, k < n → 0 < w k * (u j - u i) + u k * (w i - w j) := by
  have pu : ∀ k, k < n → u k ≤ 0 → 0 < w k := fun k hk h => by
    have h1 := hx k hk
    have h2 := mul_le hr h
    exact pos_of_mul hp (by omega)
  have pw : ∀ k, k < n → w k ≤ 0 → 0 < u k := fun k hk h => by
    have h1 := hx k hk
    have h2 := mul_le hp h
    exact pos_of_mul hr (by omega)
  obtain ⟨i, hi, ui, bi⟩ := ratio_max pu hu
  obtain ⟨j, hj, wj, bj⟩ := ratio_max (u := w) (w := u) pw hw
  have wi := pu i hi ui
  have uj := pw j hj wj
  have main : u i * w j < w i * u j := by
    have h1 := hx i hi
    have h2 := hx j hj
    rcases Int.lt_or_le 0 p with hp' | hp'
    · rcases Int.lt_or_le 0 r with hr' | hr'
      · have a1 : (- (u i)) * r < w i * p := by rw [Int.neg_mul]; omega
        have a2 : (- (w j)) * p < u j * r := by rw [Int.neg_mul]; omega
        have b1 : (- (u i)) * r * ((- (w j)) * p) ≤ w i * p * ((- (w j)) * p) := mul_le (Int.mul_nonneg (by omega) hp) (by omega)
        have b2 : (- (w j)) * p * (w i * p) < u j * r * (w i * p) := mul_lt (Int.mul_pos wi hp') a2
        have b3 : u i * w j * (p * r) < w i * u j * (p * r) := by grind
        exact cancel_lt (Int.mul_pos hp' hr') b3
      · have : r = 0 := by omega
        subst this
        have : w j * p ≤ 0 * p := mul_le hp wj
        rw [Int.mul_zero] at h2; omega
    · have : p = 0 := by omega
      subst this
      have : u i * r ≤ 0 * r := mul_le hr ui
      rw [Int.mul_zero] at h1; omega
  refine ⟨i, j, hi, hj, by omega, by omega, fun k hk => ?_⟩
  have ei : w i * (u j - u i) + u i * (w i - w j) = w i * u j - u i * w j := by grind
  have ej : w j * (u j - u i) + u j * (w i - w j) = w i * u j - u i * w j := by grind
  rcases Int.lt_or_le 0 (u k) with huk | huk
  · rcases Int.lt_or_le 0 (w k) with hwk | hwk
    · have a := Int.mul_pos hwk (show 0 < u j - u i by omega)
      have b := Int.mul_pos huk (show 0 < w i - w j by omega)
      omega
    · have hb := bj k hk hwk
      refine cancel_lt uj ?_
      have a1 := mul_le (show 0 ≤ u j - u i by omega) hb
      have a2 := Int.mul_pos (show 0 < u k from huk) (show 0 < w i * u j - u i * w j by omega)
      rw [Int.zero_mul]
      grind
  · have hb := bi k hk huk
    have hwk := pu k hk huk
    refine cancel_lt wi ?_
    have a1 := mul_le (show 0 ≤ w i - w j by omega) hb
    have a2 := Int.mul_pos hwk (show 0 < w i * u j - u i * w j by omega)
    rw [Int.zero_mul]
    grind
end Go.Pu
set_option linter.all false
namespace Go.Pu
open Go.Fw Go.Mo
theorem rt_code {d : Deal} (h : ShortD d) : rt d ≠ 4 := by
  have : Ok (ledger_Right_m d) (fun e => e ≠ 4) := by
    unfold ledger_Right_m
    rw [named_ok h.1, named_ok h.2]
    simp only [Option.bind_some, ok_bindR, ok_ite, ok_some, flok_nx]
    simp
  obtain ⟨e, he, hf⟩ := this
  have : rt d = e := by unfold rt; rw [he]; rfl
  omega
theorem checkQ_code {l : List Deal} (hs : ∀ d ∈ l, ShortD d) : Ok (queue_Check_m l) (fun e => e ≠ 4) := by
  unfold queue_Check_m
  by_cases h20 : (l.length : Int) > 20
  · rw [if_pos (by rw [decide_eq_true_eq]; exact h20), ok_some]; decide
  · rw [if_neg (by rw [decide_eq_true_eq]; exact h20), ok_bindR]
    refine ok_rangeL (fun _ _ => True) trivial (fun k d t hk _ => ?_) fun t _ => by rw [ok_some]; decide
    obtain ⟨hd, hkl⟩ := nth_of hk
    have hsd := hs d (List.mem_of_getElem? hk)
    unfold queue_Check_b1
    rw [right_ok hsd, Option.bind_some]
    by_cases hr : rt d = 0
    · rw [if_neg (by rw [bne_iff_ne]; exact fun h => h hr), chk_t (by omega), Option.bind_some, findQ_ok, Option.bind_some]
      simp only [ok_ite, ok_some, flok_rt, flok_nx]
      exact ⟨fun _ => by decide, fun _ => trivial⟩
    · rw [if_pos (by rw [bne_iff_ne]; exact hr), ok_some, flok_rt]; exact rt_code hsd
theorem checkA_code {l : List Acct} (hs : ShortA l) : Ok (ledger_Check_m l) (fun e => e ≠ 4) := by
  unfold ledger_Check_m
  by_cases h6 : (l.length : Int) > 6
  · rw [if_pos (by rw [decide_eq_true_eq]; exact h6), ok_some]; decide
  · rw [if_neg (by rw [decide_eq_true_eq]; exact h6), ok_bindR]
    refine ok_rangeL (fun _ _ => True) trivial (fun k a t hk _ => ?_) fun t _ => by rw [ok_some]; decide
    obtain ⟨ha, hkl⟩ := nth_of hk
    unfold ledger_Check_b1
    rw [named_ok (hs a (List.mem_of_getElem? hk)), Option.bind_some, ok_bindF]
    have fin : ∀ b : Bool, Ok (if b = true then some (Fl.rt (3 : Int)) else bindF (ρ := Int) (β := Unit) (σ := Bool) (if decide (a.2.1 < (0 : Int)) then some (.nx true) else (if decide (a.2.1 > (1000000 : Int)) then some (.nx true) else (if decide (a.2.2 < (0 : Int)) then some (.nx true) else some (.nx (decide (a.2.2 > (1000000 : Int))))))) fun x121 => (if x121 then some (.rt (1 : Int)) else some (.nx ()))) (FlOk (fun (_ : Unit) => True) (fun _ => False) (fun e => e ≠ 4)) := fun b => by
      simp only [ok_ite, ok_some, ok_bindF, flok_nx, flok_rt]
      simp
    by_cases hn : nm a.1 = true
    · rw [if_neg (by simp [hn])]
      by_cases hk0 : (k : Int) > 0
      · rw [if_pos (by rw [decide_eq_true_eq]; exact hk0), wsub_of (by omega) (by omega), show (k : Int) - 1 = ((k - 1 : Nat) : Int) by omega, idx_nat, nth_at (by omega), Option.bind_some, ok_some, flok_nx]
        exact (fin _).fl (fun _ h => h) (fun _ h => h.elim) (fun _ h => h)
      · rw [if_neg (by rw [decide_eq_true_eq]; exact hk0), ok_some, flok_nx]
        exact (fin _).fl (fun _ h => h) (fun _ h => h.elim) (fun _ h => h)
    · rw [if_pos (by simpa using hn), ok_some, flok_nx]
      exact (fin _).fl (fun _ h => h) (fun _ h => h.elim) (fun _ h => h)
def tk (l : List Acct) (d : Deal) (t : List UInt8) : List Acct × Int := (ledger_Take_m l d t).getD ([], 1)
theorem tk_ok {l : List Acct} {d : Deal} {t : List UInt8} (hs : ShortA l) (hd : ShortD d) : ledger_Take_m l d t = some (tk l d t) ∧ Took l d t (tk l d t) := by
  obtain ⟨p, e, hp⟩ := take_ok (t := t) hs hd
  have : tk l d t = p := by unfold tk; rw [e]; rfl
  rw [this]; exact ⟨e, hp⟩
theorem tk_yes {l : List Acct} {d : Deal} {t : List UInt8} (hs : ShortA l) (hd : ShortD d) (h0 : (tk l d t).2 = 0) : ∃ i j k, Accts l ∧ rt d = 0 ∧ i < l.length ∧ j < l.length ∧ k < l.length ∧ (nth l i).1 = d.1 ∧ (nth l j).1 = d.2.1 ∧ (nth l k).1 = t ∧ d.2.2.1 = (nth l i).2.2 ∧ d.2.2.2.1 + d.2.2.2.2.1 ≤ (nth l i).2.1 ∧ Moved l i j k d.2.2.2.1 d.2.2.2.2.1 (tk l d t).1 ∧ Accts (tk l d t).1 := by
  have h := (tk_ok (t := t) hs hd).2
  generalize tk l d t = p at *
  cases h with
  | no e he => exact absurd h0 he
  | yes i j k m hA hr hi hj hk ei ej ek hn hp hm hA' => exact ⟨i, j, k, hA, hr, hi, hj, hk, ei, ej, ek, hn, hp, hm, hA'⟩
def moneyS (l : List Acct) : Int := sumN l.length fun q => (nth l q).2.1
theorem Moved.money {l m : List Acct} {i j k : Nat} {a b : Int} (h : Moved l i j k a b m) (hi : i < l.length) (hj : j < l.length) (hk : k < l.length) : moneyS m = moneyS l := by
  unfold moneyS
  rw [h.len]
  have : sumN l.length (fun q => (nth m q).2.1) = sumN l.length (fun q => (nth l q).2.1 - (if q = i then a + b else 0) + (if q = j then a else 0) + (if q = k then b else 0)) := sumN_congr fun q hq => by rw [h.at_ q hq]
  rw [this, sumN_add, sumN_add, sumN_sub, sumN_single hi, sumN_single hj, sumN_single hk]
  omega
theorem equal_acct (a b : List Acct) : slices_Equal_api_Account_api_Account_m a b = some (decide (a = b)) := by
  apply Ok.eq
  unfold slices_Equal_api_Account_api_Account_m
  simp only [ok_ite, ok_some, ok_bindR, bne_iff_ne]
  refine ⟨fun h => ?_, fun h => ?_⟩
  · rw [eq_comm, decide_eq_false_iff_not]; intro e; subst e; exact h rfl
  · have hl : a.length = b.length := by omega
    refine ok_rangeL (fun k _ => ∀ j, j < k → nth a j = nth b j) (by intro j hj; omega) (fun k x s hk hI => ?_) fun s hs => ?_
    · obtain ⟨hx, hka⟩ := nth_of hk
      unfold slices_Equal_api_Account_api_Account_b1
      rw [idx_nat, nth_at (show k < b.length by omega), Option.bind_some]
      by_cases e : x = nth b k
      · rw [if_neg (by simp [e]), ok_some, flok_nx]
        intro j hj
        by_cases hjk : j = k
        · subst hjk; rw [hx]; exact e
        · exact hI j (by omega)
      · rw [if_pos (by simp [e]), ok_some, flok_rt, eq_comm, decide_eq_false_iff_not]
        intro h'; subst h'; exact e hx.symm
    · rw [eq_comm, decide_eq_true_eq]; exact nth_ext hl hs
def good (x0 : List Deal) (l : List Acct) (t : List UInt8) (room : Int) (i : Nat) : Prop := (nth x0 i).2.2.2.2.2 ≤ room ∧ (tk l (nth x0 i) t).2 = 0
def fee (x0 : List Deal) (i : Nat) : Int := (nth x0 i).2.2.2.2.1
def size (x0 : List Deal) (i : Nat) : Int := (nth x0 i).2.2.2.2.2
inductive Nexted (x0 : List Deal) (l : List Acct) (t : List UInt8) (room : Int) : Int × Int → Prop
  | no (e : Int) : e ≠ 0 → e ≠ 4 → ¬ (Queue x0 ∧ Accts l ∧ 0 ≤ room ∧ room ≤ 1000) → Nexted x0 l t room (0, e)
  | none : Queue x0 → Accts l → 0 ≤ room → room ≤ 1000 → (∀ i, i < x0.length → ¬ good x0 l t room i) → Nexted x0 l t room (0, 4)
  | some (k : Nat) : Queue x0 → Accts l → 0 ≤ room → room ≤ 1000 → k < x0.length → good x0 l t room k → (∀ i, i < x0.length → good x0 l t room i → fee x0 i * size x0 k ≤ fee x0 k * size x0 i ∧ (i < k → fee x0 i * size x0 k < fee x0 k * size x0 i)) → Nexted x0 l t room (k, 0)
theorem ratio_step {fi si fb sb fk sk : Int} (h1 : fi * sb ≤ fb * si) (h2 : fb * sk < fk * sb) (hi : 1 ≤ si) (hb : 1 ≤ sb) (hk : 1 ≤ sk) : fi * sk < fk * si := by
  have a1 := mul_le (c := sk) (by omega) h1
  have a2 := mul_lt (c := si) (by omega) h2
  refine cancel_lt (c := sb) (by omega) ?_
  have e1 : fi * sk * sb = fi * sb * sk := by rw [Int.mul_assoc, Int.mul_comm sk, ← Int.mul_assoc]
  have e2 : fk * si * sb = fk * sb * si := by rw [Int.mul_assoc, Int.mul_comm si, ← Int.mul_assoc]
  have e3 : fb * si * sk = fb * sk * si := by rw [Int.mul_assoc, Int.mul_comm si, ← Int.mul_assoc]
  omega
theorem next_ok {x0 : List Deal} {l : List Acct} {t : List UInt8} {room : Int} (hs : ∀ d ∈ x0, ShortD d) (ha : ShortA l) : Ok (pick_Next_m x0 l t room) (Nexted x0 l t room) := by
  obtain ⟨e, he, hq⟩ := checkQ_ok hs
  obtain ⟨e1, he1, hc⟩ := checkQ_code hs
  rw [he] at he1; cases he1
  obtain ⟨f, hf, hA⟩ := checkA_ok ha
  obtain ⟨f1, hf1, hd⟩ := checkA_code ha
  rw [hf] at hf1; cases hf1
  unfold pick_Next_m
  rw [he, Option.bind_some]
  by_cases h0 : e = 0
  · have hQ := hq.1 h0
    rw [if_neg (by rw [bne_iff_ne]; exact fun h => h h0), hf, Option.bind_some]
    by_cases h1 : f = 0
    · have hAl := hA.1 h1
      rw [if_neg (by rw [bne_iff_ne]; exact fun h => h h1)]
      by_cases hr : 0 ≤ room ∧ room ≤ 1000
      · rw [if_neg (by rw [decide_eq_true_eq]; omega), ok_bindR, ok_some, flok_nx, if_neg (by rw [decide_eq_true_eq]; omega), ok_bindR]
        have szs : ∀ i, i < x0.length → (0 ≤ fee x0 i ∧ fee x0 i ≤ 1000000) ∧ 1 ≤ size x0 i ∧ size x0 i ≤ 100 := fun i hi => by
          have := rt_facts (hs _ (nth_mem hi)) (hQ.right _ (nth_mem hi))
          exact ⟨this.2.2.1, this.2.2.2.1⟩
        refine ok_rangeL (fun k (b : Int) => (b = -1 ∧ ∀ i, i < k → ¬ good x0 l t room i) ∨ ∃ q : Nat, b = (q : Int) ∧ q < k ∧ good x0 l t room q ∧ ∀ i, i < k → good x0 l t room i → fee x0 i * size x0 q ≤ fee x0 q * size x0 i ∧ (i < q → fee x0 i * size x0 q < fee x0 q * size x0 i)) (.inl ⟨rfl, fun i hi => by omega⟩) (fun k d b hk hI => ?_) fun b hb => ?_
        · obtain ⟨hdk, hkl⟩ := nth_of hk
          have hsd := hs d (List.mem_of_getElem? hk)
          have htk := tk_ok (t := t) ha hsd
          have skip : ¬ good x0 l t room k → Ok (some (Fl.nx (ρ := Int × Int) (β := Int) b)) (FlOk (fun (b : Int) => (b = -1 ∧ ∀ i, i < k + 1 → ¬ good x0 l t room i) ∨ ∃ q : Nat, b = (q : Int) ∧ q < k + 1 ∧ good x0 l t room q ∧ ∀ i, i < k + 1 → good x0 l t room i → fee x0 i * size x0 q ≤ fee x0 q * size x0 i ∧ (i < q → fee x0 i * size x0 q < fee x0 q * size x0 i)) (fun _ => False) (fun _ => False)) := fun hg => by
            rw [ok_some, flok_nx]
            rcases hI with ⟨rfl, h⟩ | ⟨q, rfl, hqk, hgq, h⟩
            · refine .inl ⟨rfl, fun i hi => ?_⟩
              by_cases e : i = k
              · subst e; exact hg
              · exact h i (by omega)
            · refine .inr ⟨q, rfl, by omega, hgq, fun i hi hgi => ?_⟩
              by_cases e : i = k
              · subst e; exact absurd hgi hg
              · exact h i (by omega) hgi
          unfold pick_Next_b1
          by_cases hz : d.2.2.2.2.2 > room
          · rw [if_pos (by rw [decide_eq_true_eq]; exact hz)]
            exact (skip fun h => by unfold good at h; rw [hdk] at h; omega).fl (fun _ h => h) (fun _ h => h.elim) (fun _ h => h.elim)
          · rw [if_neg (by rw [decide_eq_true_eq]; exact hz), htk.1, Option.bind_some]
            by_cases ht : (tk l d t).2 = 0
            · have hgk : good x0 l t room k := ⟨by rw [hdk]; omega, by rw [hdk]; exact ht⟩
              rw [if_neg (by rw [bne_iff_ne]; exact fun h => h ht), ok_bindF]
              rcases hI with ⟨rfl, h⟩ | ⟨q, rfl, hqk, hgq, h⟩
              · rw [if_pos (by decide), ok_some, flok_nx, if_pos rfl, ok_some, flok_nx]
                refine .inr ⟨k, rfl, by omega, hgk, fun i hi hgi => ?_⟩
                by_cases e : i = k
                · subst e; exact ⟨Int.le_refl _, fun h => by omega⟩
                · exact absurd hgi (h i (by omega))
              · have hql : q < x0.length := by omega
                have sq := szs q hql; have sk := szs k hkl
                have efk : d.2.2.2.2.1 = fee x0 k := by unfold fee; rw [hdk]
                have esk : d.2.2.2.2.2 = size x0 k := by unfold size; rw [hdk]
                have m1 := mul_le (c := size x0 q) (by omega) sk.1.2
                have m2 := mul_le (c := size x0 q) (by omega) sk.1.1
                have m3 := mul_le (c := size x0 k) (by omega) sq.1.2
                have m4 := mul_le (c := size x0 k) (by omega) sq.1.1
                rw [if_neg (by rw [decide_eq_true_eq]; omega), idx_nat, nth_at hql, Option.bind_some, Option.bind_some, ok_some, flok_nx]
                have e1 : (nth x0 q).2.2.2.2.2 = size x0 q := rfl
                have e2 : (nth x0 q).2.2.2.2.1 = fee x0 q := rfl
                rw [e1, e2, efk, esk, wmul_of (by omega) (by omega), wmul_of (by omega) (by omega)]
                by_cases hgt : fee x0 k * size x0 q > fee x0 q * size x0 k
                · rw [if_pos (by rw [decide_eq_true_eq]; exact hgt), ok_some, flok_nx]
                  refine .inr ⟨k, rfl, by omega, hgk, fun i hi hgi => ?_⟩
                  by_cases e : i = k
                  · subst e; exact ⟨Int.le_refl _, fun h => by omega⟩
                  · have si := szs i (by omega)
                    have := ratio_step (h i (by omega) hgi).1 hgt (by omega) (by omega) (by omega)
                    exact ⟨by omega, fun _ => this⟩
                · rw [if_neg (by rw [decide_eq_true_eq]; exact hgt), ok_some, flok_nx]
                  refine .inr ⟨q, rfl, by omega, hgq, fun i hi hgi => ?_⟩
                  by_cases e : i = k
                  · subst e; exact ⟨by omega, fun h => by omega⟩
                  · exact h i (by omega) hgi
            · rw [if_pos (by rw [bne_iff_ne]; exact ht)]
              exact (skip fun h => by unfold good at h; rw [hdk] at h; exact ht h.2).fl (fun _ h => h) (fun _ h => h.elim) (fun _ h => h.elim)
        · rcases hb with ⟨rfl, h⟩ | ⟨q, rfl, hqk, hgq, h⟩
          · rw [if_pos (by decide), ok_some]; exact .none hQ hAl hr.1 hr.2 h
          · rw [if_neg (by rw [decide_eq_true_eq]; omega), ok_some]; exact .some q hQ hAl hr.1 hr.2 hqk hgq h
      · have : (if decide (room < (0 : Int)) then some (Fl.nx (ρ := Int × Int) (β := Unit) true) else some (.nx (decide (room > (1000 : Int))))) = some (.nx true) := by
          by_cases h : room < 0
          · rw [if_pos (by rw [decide_eq_true_eq]; exact h)]
          · rw [if_neg (by rw [decide_eq_true_eq]; exact h), decide_eq_true (by omega)]
        rw [this, ok_bindR, ok_some, flok_nx, if_pos rfl, ok_some]
        exact .no 1 (by decide) (by decide) fun h => hr ⟨h.2.2.1, h.2.2.2⟩
    · rw [if_pos (by rw [bne_iff_ne]; exact h1), ok_some]; exact .no _ h1 hd fun h => h1 (hA.2 h.2.1)
  · rw [if_pos (by rw [bne_iff_ne]; exact h0), ok_some]; exact .no _ h0 hc fun h => h0 (hq.2 h.1)
def runL (x0 : List Deal) (t : List UInt8) (l : List Acct) (ks : List Int) : List Acct := ks.foldl (fun l k => (tk l (nth x0 k.toNat) t).1) l
def sizes (x0 : List Deal) (ks : List Int) : Int := sumN ks.length fun j => size x0 (nth ks j).toNat
structure Built (x0 : List Deal) (l : List Acct) (t : List UInt8) (room : Int) (ks : List Int) (left : Int) (out : List Acct) : Prop where
  len : (ks.length : Int) ≤ room - left
  idx : ∀ j, j < ks.length → 0 ≤ nth ks j ∧ nth ks j < x0.length
  run : out = runL x0 t l ks
  each : ∀ j, j < ks.length → ShortA (runL x0 t l (ks.take j)) ∧ (tk (runL x0 t l (ks.take j)) (nth x0 (nth ks j).toNat) t).2 = 0
  lft : left = room - sizes x0 ks
  lo : 0 ≤ left
  accts : Accts out
  short : ShortA out
  past : ∀ j, j < ks.length → ∀ i, i < out.length → (nth out i).1 = (nth x0 (nth ks j).toNat).1 → (nth x0 (nth ks j).toNat).2.2.1 < (nth out i).2.2
  nodup : ∀ i j, i < j → j < ks.length → nth ks i ≠ nth ks j
  money : moneyS out = moneyS l
theorem build_ok {x0 : List Deal} {l : List Acct} {t : List UInt8} {room : Int} (hs : ∀ d ∈ x0, ShortD d) (ha : ShortA l) :
    Ok (pick_Build_m x0 l t room) (fun p => (p.2.2 ≠ 0 ∧ p.1 = [] ∧ p.2.1 = []) ∨ (p.2.2 = 0 ∧ Accts l ∧ 0 ≤ room ∧ room ≤ 1000 ∧ ∃ left, Built x0 l t room p.1 left p.2.1 ∧ Nexted x0 p.2.1 t left (0, 4))) := by
  unfold pick_Build_m
  rw [ok_bind]
  refine (next_ok hs ha).mono fun p hp => ?_
  have go : Queue x0 → Accts l → 0 ≤ room → room ≤ 1000 → (p.2 = 0 ∨ p.2 = 4) → Ok ((chk ((([] : (List ((List UInt8) × (Int × Int))))).length + (l).length ≤ 68719476736)).bind fun _ => bindR (ρ := (List Int) × (List ((List UInt8) × (Int × Int))) × Int) (β := Unit) (σ := Int × Int × Int × (List ((List UInt8) × (Int × Int))) × (List Int)) (loopM (γ := Unit) (pick_Build_b1 x0 t) 1048576 (room, p.1, p.2, (([] : (List ((List UInt8) × (Int × Int)))) ++ l), [])) fun (x31, x32, x33, l34, l36) => some (l36, l34, (0 : Int))) (fun p => (p.2.2 ≠ 0 ∧ p.1 = [] ∧ p.2.1 = []) ∨ (p.2.2 = 0 ∧ Accts l ∧ 0 ≤ room ∧ room ≤ 1000 ∧ ∃ left, Built x0 l t room p.1 left p.2.1 ∧ Nexted x0 p.2.1 t left (0, 4))) := fun hQ hA r0 r1 hpe => by
    have h6 := hA.len
    have hnx := hp
    rw [chk_t (by simp only [List.length_nil]; omega), Option.bind_some, List.nil_append, ok_bindR]
    refine ok_loopM (fun (s : Int × Int × Int × List Acct × List Int) => Built x0 l t room s.2.2.2.2 s.1 s.2.2.2.1 ∧ Nexted x0 s.2.2.2.1 t s.1 (s.2.1, s.2.2.1) ∧ (s.2.2.1 = 0 ∨ s.2.2.1 = 4)) (fun s => s.1.toNat + 1) (fun s hs' => ?_) _ _ ⟨⟨by simp, fun j hj => by simp at hj, rfl, fun j hj => by simp at hj, by unfold sizes; simp [sumN], r0, hA, ha, fun j hj => by simp at hj, fun i j _ hj => by simp at hj, rfl⟩, hnx, hpe⟩ (by dsimp only; omega)
    obtain ⟨left, k, e, out, ks⟩ := s
    obtain ⟨hB, hN, he⟩ := hs'
    dsimp only at hB hN he
    unfold pick_Build_b1
    dsimp only
    by_cases h0 : e = 0
    · subst h0
      rw [if_pos (by decide)]
      generalize hp2 : (k, (0 : Int)) = p2 at hN
      cases hN with
      | no e he1 he2 => cases hp2; exact absurd rfl he1
      | none => cases hp2
      | some k' hQ' hA' l0 l1 hk hg hbest =>
        cases hp2
        have hsd := hs _ (nth_mem hk)
        have htk := tk_ok (t := t) hB.short hsd
        obtain ⟨i, j, q, _, hr, hi, hj, hq, ei, ej, eq, hn, hpay, hm, hA2⟩ := tk_yes hB.short hsd hg.2
        have hsz := rt_facts hsd hr
        have hsz1 : (nth x0 k').2.2.2.2.2 ≤ left := hg.1
        have hll : ks.length ≤ 1000 := by have := hB.len; omega
        rw [idx_nat, nth_at hk, Option.bind_some, htk.1, Option.bind_some, Option.bind_some, chk_t (by simp only [List.length_cons, List.length_nil]; omega), Option.bind_some, wsub_of (by omega) (by omega), ok_bind]
        have hshort := hm.short hB.short
        have hmlen := hm.len
        refine (next_ok hs hshort).mono fun p' hp' => ?_
        rw [ok_some, flok_nx]
        have nk : ∀ y, nth (ks ++ [(k' : Int)]) y = if y < ks.length then nth ks y else if y = ks.length then (k' : Int) else default := fun y => by
          rw [nth_append]
          by_cases e : y < ks.length
          · rw [if_pos e, if_pos e]
          · rw [if_neg e, if_neg e]
            by_cases e2 : y = ks.length
            · rw [if_pos e2, e2, Nat.sub_self]; rfl
            · rw [if_neg e2]
              unfold nth; rw [List.getD_eq_getElem?_getD, List.getElem?_eq_none (by simp; omega)]; rfl
        have hrun : runL x0 t l (ks ++ [(k' : Int)]) = (tk out (nth x0 k') t).1 := by
          unfold runL
          rw [List.foldl_append]
          show (tk (List.foldl _ l ks) (nth x0 ((k' : Int)).toNat) t).1 = _
          rw [Int.toNat_natCast, ← show out = List.foldl _ l ks from hB.run]
        refine ⟨⟨?_, ?_, ?_⟩, ?_⟩
        · dsimp only
          refine ⟨by have := hB.len; rw [List.length_append, List.length_singleton]; omega, fun y hy => ?_, hrun.symm, fun y hy => ?_, ?_, by omega, hA2, hshort, fun y hy z hz hzn => ?_, fun a b hab hb => ?_, ?_⟩
          · rw [List.length_append, List.length_singleton] at hy
            rw [nk]
            by_cases e : y < ks.length
            · rw [if_pos e]; exact hB.idx y e
            · rw [if_neg e, if_pos (by omega)]; omega
          · rw [List.length_append, List.length_singleton] at hy
            rw [nk]
            by_cases e : y < ks.length
            · rw [if_pos e, List.take_append_of_le_length (by omega)]; exact hB.each y e
            · have : y = ks.length := by omega
              subst this
              rw [if_neg (by omega), if_pos rfl, List.take_left, Int.toNat_natCast, ← hB.run]
              exact ⟨hB.short, hg.2⟩
          · have hleft := hB.lft
            have : sizes x0 (ks ++ [(k' : Int)]) = sizes x0 ks + size x0 k' := by
              unfold sizes
              rw [List.length_append, List.length_singleton]
              simp only [sumN]
              rw [nk, if_neg (by omega), if_pos rfl, Int.toNat_natCast]
              congr 1
              exact sumN_congr fun y hy => by rw [nk, if_pos hy]
            rw [this]; unfold size; omega
          · rw [List.length_append, List.length_singleton] at hy
            rw [nk] at hzn ⊢
            rw [hmlen] at hz
            have hmz := hm.at_ z hz
            rw [hmz] at hzn ⊢
            dsimp only at hzn ⊢
            by_cases e : y < ks.length
            · rw [if_pos e] at hzn ⊢
              have := hB.past y e z hz hzn
              split <;> omega
            · rw [if_neg e, if_pos (by omega), Int.toNat_natCast] at hzn ⊢
              have : z = i := hB.accts.inj hz hi (hzn.trans ei.symm)
              subst this
              rw [if_pos rfl, hn]; omega
          · rw [List.length_append, List.length_singleton] at hb
            rw [nk, nk, if_pos (show a < ks.length by omega)]
            by_cases e : b < ks.length
            · rw [if_pos e]; exact hB.nodup a b hab e
            · rw [if_neg e, if_pos (by omega)]
              intro h
              have := hB.past a (by omega) i hi (by rw [h, Int.toNat_natCast]; exact ei)
              rw [h, Int.toNat_natCast] at this
              omega
          · rw [hm.money hi hj hq, hB.money]
        · dsimp only; exact hp'
        · dsimp only
          cases hp' with
          | no e he1 he2 hno => exact absurd ⟨hQ, hA2, by omega, by omega⟩ hno
          | none => exact .inr rfl
          | some => exact .inl rfl
        · dsimp only; omega
    · have h4 : e = 4 := by omega
      subst h4
      rw [if_neg (by decide), ok_some, flok_br]
      dsimp only
      rw [ok_some]
      refine .inr ⟨rfl, hA, r0, r1, left, hB, ?_⟩
      generalize hp2 : (k, (4 : Int)) = p2 at hN
      cases hN with
      | no e he1 he2 => cases hp2; exact absurd rfl he2
      | none a b c d f => cases hp2; exact .none a b c d f
      | some => cases hp2
  cases hp with
  | no e he1 he2 hno =>
    rw [ok_bindR]
    dsimp only
    rw [if_pos (by rw [bne_iff_ne]; exact he1), ok_some, flok_nx, if_pos (by rw [bne_iff_ne]; exact he2), ok_some]
    exact .inl ⟨he1, rfl, rfl⟩
  | none hQ hA r0 r1 hn =>
    rw [ok_bindR]
    dsimp only
    rw [if_pos (by decide), ok_some, flok_nx, if_neg (by decide)]
    exact go hQ hA r0 r1 (.inr rfl)
  | some k hQ hA r0 r1 hk hg hb =>
    rw [ok_bindR]
    dsimp only
    rw [if_neg (by decide), ok_some, flok_nx, if_neg (by decide)]
    exact go hQ hA r0 r1 (.inl rfl)
theorem picks_t : pk_picks_m = some true := by decide +kernel
end Go.Pu
