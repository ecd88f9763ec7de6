/- What a model comes to, said by conditions: total correctness, one lemma a construct. -/
import Derived.Test.YtfekdillbgblkaaPuKit
set_option linter.all false
namespace Go.Pu
open Go.Fw
/-- the value is there, and is so -/
def Ok {α : Type} (x : Option α) (P : α → Prop) : Prop := ∃ v, x = some v ∧ P v
def FlOk {ρ β σ : Type} (N : σ → Prop) (B : β → Prop) (R : ρ → Prop) : Fl ρ β σ → Prop
  | .nx s => N s
  | .br b => B b
  | .rt r => R r
def nth {α : Type} [Inhabited α] (l : List α) (k : Nat) : α := l.getD k default
section
variable {ρ σ α β γ τ : Type} {P : α → Prop} {N : σ → Prop} {B : β → Prop} {R : ρ → Prop}
theorem Ok.mono {x : Option α} {Q : α → Prop} (h : Ok x P) (hPQ : ∀ v, P v → Q v) : Ok x Q := let ⟨v, e, p⟩ := h; ⟨v, e, hPQ v p⟩
theorem Ok.eq {x : Option α} {v : α} (h : Ok x (fun y => y = v)) : x = some v := by obtain ⟨y, e, rfl⟩ := h; exact e
theorem Ok.of {x : Option α} {v : α} (h : x = some v) (p : P v) : Ok x P := ⟨v, h, p⟩
theorem Ok.use {x : Option α} (h : Ok x P) : ∃ v, x = some v ∧ P v := h
theorem ok_some {v : α} : Ok (some v) P ↔ P v := ⟨fun ⟨_, e, p⟩ => by cases e; exact p, fun p => ⟨v, rfl, p⟩⟩
theorem ok_none : Ok (none : Option α) P ↔ False := ⟨fun ⟨_, e, _⟩ => by (cases e), fun h => h.elim⟩
theorem ok_bind {x : Option τ} {k : τ → Option α} : Ok (x.bind k) P ↔ Ok x (fun v => Ok (k v) P) := by
  constructor
  · rintro ⟨v, e, p⟩
    obtain ⟨y, hy, hk⟩ := Option.bind_eq_some_iff.1 e
    exact ⟨y, hy, v, hk, p⟩
  · rintro ⟨y, rfl, v, e, p⟩; exact ⟨v, e, p⟩
theorem ok_chk {p : Prop} [Decidable p] {P : Unit → Prop} : Ok (chk p) P ↔ p ∧ P () := by
  unfold chk
  split
  · rename_i h; simp [ok_some, h]
  · rename_i h; simp [ok_none, h]
theorem ok_ite {p : Prop} [Decidable p] {x y : Option α} : Ok (if p then x else y) P ↔ (p → Ok x P) ∧ (¬ p → Ok y P) := by
  split
  · rename_i h; simp [h]
  · rename_i h; simp [h]
theorem flok_nx {s : σ} : FlOk N B R (.nx s) ↔ N s := Iff.rfl
theorem flok_br {b : β} : FlOk N B R (.br b) ↔ B b := Iff.rfl
theorem flok_rt {r : ρ} : FlOk N B R (.rt r) ↔ R r := Iff.rfl
theorem ok_bindR {x : Option (Fl ρ β σ)} {k : σ → Option ρ} {P : ρ → Prop} : Ok (bindR x k) P ↔ Ok x (FlOk (fun s => Ok (k s) P) (fun _ => False) P) := by
  constructor
  · rintro ⟨v, e, p⟩
    cases x with
    | none => cases e
    | some y =>
      cases y with
      | nx s => exact ⟨_, rfl, v, e, p⟩
      | br b => cases e
      | rt r => cases e; exact ⟨_, rfl, p⟩
  · rintro ⟨y, rfl, h⟩
    cases y with
    | nx s => exact h
    | br b => exact h.elim
    | rt r => exact ⟨r, rfl, h⟩
theorem ok_bindF {x : Option (Fl ρ β σ)} {k : σ → Option (Fl ρ β τ)} {P : Fl ρ β τ → Prop} : Ok (bindF x k) P ↔ Ok x (FlOk (fun s => Ok (k s) P) (fun b => P (.br b)) (fun r => P (.rt r))) := by
  constructor
  · rintro ⟨v, e, p⟩
    cases x with
    | none => cases e
    | some y =>
      cases y with
      | nx s => exact ⟨_, rfl, v, e, p⟩
      | br b => cases e; exact ⟨_, rfl, p⟩
      | rt r => cases e; exact ⟨_, rfl, p⟩
  · rintro ⟨y, rfl, h⟩
    cases y with
    | nx s => exact h
    | br b => exact ⟨_, rfl, h⟩
    | rt r => exact ⟨_, rfl, h⟩
theorem nth_at [Inhabited α] {l : List α} {k : Nat} (h : k < l.length) : l[k]? = some (nth l k) := by
  unfold nth; rw [List.getD_eq_getElem?_getD, List.getElem?_eq_getElem h]; rfl
theorem nth_get [Inhabited α] {l : List α} {k : Nat} (h : k < l.length) : nth l k = l[k] := by
  unfold nth; rw [List.getD_eq_getElem?_getD, List.getElem?_eq_getElem h]; rfl
theorem nth_of [Inhabited α] {l : List α} {k : Nat} {x : α} (h : l[k]? = some x) : nth l k = x ∧ k < l.length := by
  unfold nth; rw [List.getD_eq_getElem?_getD, h]; exact ⟨rfl, (List.getElem?_eq_some_iff.1 h).1⟩
theorem nth_mem [Inhabited α] {l : List α} {k : Nat} (h : k < l.length) : nth l k ∈ l := List.mem_of_getElem? (nth_at h)
theorem mem_nth [Inhabited α] {l : List α} {x : α} (h : x ∈ l) : ∃ k, k < l.length ∧ nth l k = x := by
  obtain ⟨k, hk, e⟩ := List.mem_iff_getElem.1 h
  exact ⟨k, hk, by rw [nth_get hk, e]⟩
theorem nth_set [Inhabited α] {l : List α} {i k : Nat} {x : α} (h : i < l.length) : nth (l.set i x) k = if k = i then x else nth l k := by
  unfold nth
  simp only [List.getD_eq_getElem?_getD]
  split
  · rename_i e; subst e; rw [List.getElem?_set_self h]; rfl
  · rename_i e; rw [List.getElem?_set_ne (Ne.symm e)]
theorem nth_append [Inhabited α] {l m : List α} {k : Nat} : nth (l ++ m) k = if k < l.length then nth l k else nth m (k - l.length) := by
  unfold nth
  simp only [List.getD_eq_getElem?_getD]
  split
  · rename_i h; rw [List.getElem?_append_left h]
  · rename_i h; rw [List.getElem?_append_right (by omega)]
theorem nth_replicate [Inhabited α] {n k : Nat} {x : α} (h : k < n) : nth (List.replicate n x) k = x := by
  unfold nth; simp [List.getD_eq_getElem?_getD, h]
theorem nth_take [Inhabited α] {l : List α} {n k : Nat} (h : k < n) : nth (l.take n) k = nth l k := by
  unfold nth; simp only [List.getD_eq_getElem?_getD]; rw [List.getElem?_take_of_lt h]
theorem nth_drop [Inhabited α] {l : List α} {n k : Nat} : nth (l.drop n) k = nth l (n + k) := by
  unfold nth; simp only [List.getD_eq_getElem?_getD, List.getElem?_drop]
theorem nth_ext [Inhabited α] {l m : List α} (h1 : l.length = m.length) (h2 : ∀ k, k < l.length → nth l k = nth m k) : l = m := by
  apply List.ext_getElem h1
  intro k hk hk'
  rw [← nth_get hk, ← nth_get hk', h2 k hk]
theorem nth_map [Inhabited α] [Inhabited β] {l : List α} {f : α → β} {k : Nat} (h : k < l.length) : nth (l.map f) k = f (nth l k) := by
  rw [nth_get (by simpa using h), nth_get h]; simp
theorem nth_cons_zero [Inhabited α] {l : List α} {x : α} : nth (x :: l) 0 = x := rfl
theorem nth_cons_succ [Inhabited α] {l : List α} {x : α} {k : Nat} : nth (x :: l) (k + 1) = nth l k := rfl
theorem ok_idx [Inhabited α] {l : List α} {i : Int} : Ok (idx l i) P ↔ 0 ≤ i ∧ i < (l.length : Int) ∧ P (nth l i.toNat) := by
  unfold idx
  split
  · rename_i h
    by_cases hl : i < (l.length : Int)
    · rw [nth_at (by omega), ok_some]; simp [h, hl]
    · rw [List.getElem?_eq_none (by omega), ok_none]; simp [hl]
  · rename_i h; rw [ok_none]; simp [h]
theorem ok_rangeL {body : Nat → τ → σ → Option (Fl ρ σ σ)} {l : List τ} (I : Nat → σ → Prop) {s : σ} {B : γ → Prop} (h0 : I 0 s)
    (hs : ∀ k x s, l[k]? = some x → I k s → Ok (body k x s) (FlOk (I (k + 1)) N R)) (he : ∀ s, I l.length s → N s) : Ok (rangeL (γ := γ) body l 0 s) (FlOk N B R) := by
  have key : ∀ (d i : Nat) (s : σ), i + d = l.length → I i s → Ok (rangeL (γ := γ) body (l.drop i) i s) (FlOk N B R) := by
    intro d
    induction d with
    | zero =>
      intro i s hi hI
      rw [List.drop_of_length_le (by omega)]
      have : i = l.length := by omega
      subst this
      exact ⟨_, rfl, he s hI⟩
    | succ d ih =>
      intro i s hi hI
      have hlt : i < l.length := by omega
      rw [List.drop_eq_getElem_cons hlt]
      unfold rangeL
      obtain ⟨v, e, p⟩ := hs i l[i] s (List.getElem?_eq_getElem hlt) hI
      rw [e]
      cases v with
      | nx s' => exact ih (i + 1) s' (by omega) p
      | br s' => exact ⟨_, rfl, p⟩
      | rt r => exact ⟨_, rfl, p⟩
  have := key l.length 0 s (by omega) h0
  simpa using this
theorem ok_rangeN {body : Nat → σ → Option (Fl ρ σ σ)} {n : Nat} (I : Nat → σ → Prop) {s : σ} {B : γ → Prop} (h0 : I 0 s)
    (hs : ∀ k s, k < n → I k s → Ok (body k s) (FlOk (I (k + 1)) N R)) (he : ∀ s, I n s → N s) : Ok (rangeN (γ := γ) body n 0 s) (FlOk N B R) := by
  have key : ∀ (d i : Nat) (s : σ), i + d = n → I i s → Ok (rangeN (γ := γ) body d i s) (FlOk N B R) := by
    intro d
    induction d with
    | zero =>
      intro i s hi hI
      have : i = n := by omega
      subst this
      exact ⟨_, rfl, he s hI⟩
    | succ d ih =>
      intro i s hi hI
      unfold rangeN
      obtain ⟨v, e, p⟩ := hs i s (by omega) hI
      rw [e]
      cases v with
      | nx s' => exact ih (i + 1) s' (by omega) p
      | br s' => exact ⟨_, rfl, p⟩
      | rt r => exact ⟨_, rfl, p⟩
  exact key n 0 s (by omega) h0
theorem ok_loopM {body : σ → Option (Fl ρ β σ)} (I : σ → Prop) (μ : σ → Nat) {C : γ → Prop} (hs : ∀ s, I s → Ok (body s) (FlOk (fun s' => I s' ∧ μ s' < μ s) B R)) : ∀ (n : Nat) (s : σ), I s → μ s < n → Ok (loopM (γ := γ) body n s) (FlOk B C R) := by
  intro n
  induction n with
  | zero => intro s _ h; omega
  | succ n ih =>
    intro s hI hn
    unfold loopM
    obtain ⟨v, e, p⟩ := hs s hI
    rw [e]
    cases v with
    | nx s' => exact ih s' p.1 (by have := p.2; omega)
    | br b => exact ⟨_, rfl, p⟩
    | rt r => exact ⟨_, rfl, p⟩
theorem ok_within {x n : Int} {P : Int → Prop} : True := trivial
end
end Go.Pu
