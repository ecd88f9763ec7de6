/- Plain lemmas about the small language of the models: loops that keep an invariant, loops that fold. -/
import Derived.Test.YtfekdillbgblkaaFwF
import Derived.Test.YtfekdillbgblkaaWListsOwnModels
set_option linter.all false
namespace Go.Pu
open Go.Fw
section
variable {ρ σ α β γ : Type}
theorem rangeL_inv {body : Nat → α → σ → Option (Fl ρ σ σ)} (I : Nat → σ → Prop) : ∀ (l : List α) (i : Nat) (s : σ), I i s →
    (∀ k x s, l[k]? = some x → I (i + k) s → ∃ s', body (i + k) x s = some (.nx s') ∧ I (i + k + 1) s') → ∃ s', rangeL (γ := γ) body l i s = some (.nx s') ∧ I (i + l.length) s'
  | [], i, s, h, _ => ⟨s, rfl, h⟩
  | x :: l, i, s, h, hs => by
    obtain ⟨s1, e1, h1⟩ := hs 0 x s rfl h
    obtain ⟨s2, e2, h2⟩ := rangeL_inv I l (i + 1) s1 h1 (fun k y s hk hI => by
      have := hs (k + 1) y s (by simpa using hk) (by rw [show i + (k + 1) = i + 1 + k by omega]; exact hI)
      rw [show i + (k + 1) = i + 1 + k by omega] at this; exact this)
    refine ⟨s2, ?_, by rw [List.length_cons, show i + (l.length + 1) = i + 1 + l.length by omega]; exact h2⟩
    unfold rangeL
    rw [Nat.add_zero] at e1
    rw [e1]; exact e2
theorem rangeN_inv {body : Nat → σ → Option (Fl ρ σ σ)} (I : Nat → σ → Prop) : ∀ (n : Nat) (i : Nat) (s : σ), I i s →
    (∀ k s, k < n → I (i + k) s → ∃ s', body (i + k) s = some (.nx s') ∧ I (i + k + 1) s') → ∃ s', rangeN (γ := γ) body n i s = some (.nx s') ∧ I (i + n) s'
  | 0, i, s, h, _ => ⟨s, rfl, h⟩
  | n + 1, i, s, h, hs => by
    obtain ⟨s1, e1, h1⟩ := hs 0 s (by omega) h
    obtain ⟨s2, e2, h2⟩ := rangeN_inv I n (i + 1) s1 h1 (fun k s hk hI => by
      have := hs (k + 1) s (by omega) (by rw [show i + (k + 1) = i + 1 + k by omega]; exact hI)
      rw [show i + (k + 1) = i + 1 + k by omega] at this; exact this)
    refine ⟨s2, ?_, by rw [show i + (n + 1) = i + 1 + n by omega]; exact h2⟩
    unfold rangeN
    rw [Nat.add_zero] at e1
    rw [e1]; exact e2
theorem rangeL_fold {body : Nat → α → σ → Option (Fl ρ σ σ)} (f : σ → α → σ) (l : List α) : ∀ (i : Nat) (s : σ), (∀ i x s, x ∈ l → body i x s = some (.nx (f s x))) → rangeL (γ := γ) body l i s = some (.nx (l.foldl f s)) := by
  induction l with
  | nil => intro i s _; rfl
  | cons x l ih =>
    intro i s h
    unfold rangeL
    rw [h i x s (by simp)]
    exact ih (i + 1) _ (fun i y s hy => h i y s (by simp [hy]))
def lk {β : Type} : Option ρ → Option (Fl ρ β Unit)
  | some r => some (.rt r)
  | none => some (.nx ())
/-- a loop that only looks: it goes through, or it returns at the first place where it must -/
theorem rangeL_look {body : Nat → α → Unit → Option (Fl ρ Unit Unit)} (c : Nat → α → Option ρ) (l : List α) (h : ∀ i x, x ∈ l → body i x () = lk (c i x)) :
    ∀ i, rangeL (γ := γ) body l i () = lk ((l.zipIdx i).findSome? (fun p => c p.2 p.1)) := by
  induction l with
  | nil => intro i; rfl
  | cons x l ih =>
    intro i
    unfold rangeL
    rw [h i x (by simp), List.zipIdx_cons, List.findSome?_cons]
    dsimp only
    cases c i x with
    | some r => rfl
    | none => exact ih (fun i y hy => h i y (by simp [hy])) (i + 1)
/-- the first place where the test holds -/
theorem rangeL_first {body : Nat → α → Unit → Option (Fl Int Unit Unit)} (q : α → Bool) (l : List α) (h : ∀ i x, x ∈ l → body i x () = if q x then some (.rt (i : Int)) else some (.nx ())) :
    ∀ i, rangeL (γ := γ) body l i () = if l.any q then some (.rt ((i + l.findIdx q : Nat) : Int)) else some (.nx ()) := by
  induction l with
  | nil => intro i; rfl
  | cons x l ih =>
    intro i
    unfold rangeL
    rw [h i x (by simp)]
    by_cases hx : q x = true
    · simp [hx, List.findIdx_cons]
    · have hx' : q x = false := by simpa using hx
      rw [hx']
      simp only [Bool.false_eq_true, if_false]
      rw [ih (fun i y hy => h i y (by simp [hy])) (i + 1)]
      simp only [List.any_cons, hx', Bool.false_or, List.findIdx_cons, cond_false]
      split
      · congr 3; omega
      · rfl
/-- a loop that counts up to n -/
theorem loopM_up {body : σ × Int → Option (Fl ρ (σ × Int) (σ × Int))} (I : Nat → σ → Prop) (n : Nat) (hb : ∀ (k : Nat) s, k < n → I k s → ∃ s', body (s, (k : Int)) = some (.nx (s', ((k + 1 : Nat) : Int))) ∧ I (k + 1) s')
    (he : ∀ s, I n s → body (s, (n : Int)) = some (.br (s, (n : Int)))) : ∀ (d k : Nat) (s : σ) (f : Nat), k + d = n → d < f → I k s → ∃ s', loopM (γ := γ) body f (s, (k : Int)) = some (.nx (s', (n : Int))) ∧ I n s'
  | 0, k, s, f, hk, hf, h => by
    obtain ⟨f, rfl⟩ : ∃ q, f = q + 1 := ⟨f - 1, by omega⟩
    have : k = n := by omega
    subst this
    refine ⟨s, ?_, h⟩
    unfold loopM
    rw [he s h]
  | d + 1, k, s, f, hk, hf, h => by
    obtain ⟨f, rfl⟩ : ∃ q, f = q + 1 := ⟨f - 1, by omega⟩
    obtain ⟨s1, e1, h1⟩ := hb k s (by omega) h
    obtain ⟨s2, e2, h2⟩ := loopM_up I n hb he d (k + 1) s1 f (by omega) (by omega) h1
    refine ⟨s2, ?_, h2⟩
    unfold loopM
    rw [e1]; exact e2
theorem loopM_cnt {body : Int → Option (Fl ρ Int Int)} (n : Nat) (hb : ∀ k : Nat, k < n → 1 ≤ k → body (k : Int) = some (.nx ((k + 1 : Nat) : Int))) (he : body (n : Int) = some (.br (n : Int))) :
    ∀ (d k : Nat) (f : Nat), k + d = n → 1 ≤ k → d < f → loopM (γ := γ) body f (k : Int) = some (.nx (n : Int))
  | 0, k, f, hk, _, hf => by
    obtain ⟨f, rfl⟩ : ∃ q, f = q + 1 := ⟨f - 1, by omega⟩
    have : k = n := by omega
    subst this
    unfold loopM
    rw [he]
  | d + 1, k, f, hk, h1, hf => by
    obtain ⟨f, rfl⟩ : ∃ q, f = q + 1 := ⟨f - 1, by omega⟩
    unfold loopM
    rw [hb k (by omega) h1]
    exact loopM_cnt n hb he d (k + 1) f (by omega) (by omega) (by omega)
/-- a search that comes to an end -/
theorem rangeL_pick {body : Nat → α → Unit → Option (Fl ρ Unit Unit)} (q : α → Bool) (r : Nat → α → ρ) : ∀ (l : List α) (i : Nat), (∀ i x, x ∈ l → body i x () = if q x then some (.rt (r i x)) else some (.nx ())) → (∃ x ∈ l, q x = true) →
    ∃ k x, l[k]? = some x ∧ q x = true ∧ rangeL (γ := γ) body l i () = some (.rt (r (i + k) x))
  | [], i, _, ⟨x, hx, _⟩ => by cases hx
  | y :: l, i, h, hex => by
    by_cases hy : q y = true
    · refine ⟨0, y, rfl, hy, ?_⟩
      unfold rangeL
      rw [h i y (by simp), if_pos hy]
      rfl
    · obtain ⟨x, hx, hqx⟩ := hex
      have hx' : x ∈ l := by
        rcases List.mem_cons.1 hx with rfl | hx
        · exact absurd hqx hy
        · exact hx
      obtain ⟨k, z, h1, h2, h3⟩ := rangeL_pick q r l (i + 1) (fun i x hx => h i x (by simp [hx])) ⟨x, hx', hqx⟩
      refine ⟨k + 1, z, by simpa using h1, h2, ?_⟩
      unfold rangeL
      rw [h i y (by simp), if_neg hy]
      rw [show i + (k + 1) = i + 1 + k by omega]
      exact h3
/-- a loop that counts down to nothing -/
theorem loopM_down {body : σ × Int → Option (Fl ρ (σ × Int) (σ × Int))} (I : Nat → σ → Prop) (hb : ∀ (k : Nat) s, I (k + 1) s → ∃ s', body (s, (k : Int)) = some (.nx (s', (k : Int) - 1)) ∧ I k s')
    (he : ∀ s, I 0 s → body (s, -1) = some (.br (s, -1))) : ∀ (k : Nat) (s : σ) (f : Nat), k < f → I k s → ∃ s', loopM (γ := γ) body f (s, (k : Int) - 1) = some (.nx (s', -1)) ∧ I 0 s'
  | 0, s, f, hf, h => by
    obtain ⟨f, rfl⟩ : ∃ q, f = q + 1 := ⟨f - 1, by omega⟩
    refine ⟨s, ?_, h⟩
    unfold loopM
    rw [show ((0 : Nat) : Int) - 1 = -1 by omega, he s h]
  | k + 1, s, f, hf, h => by
    obtain ⟨f, rfl⟩ : ∃ q, f = q + 1 := ⟨f - 1, by omega⟩
    obtain ⟨s1, e1, h1⟩ := hb k s h
    obtain ⟨s2, e2, h2⟩ := loopM_down I hb he k s1 f (by omega) h1
    refine ⟨s2, ?_, h2⟩
    unfold loopM
    rw [show ((k + 1 : Nat) : Int) - 1 = (k : Int) by omega, e1]; exact e2
theorem idx_nat {l : List α} {i : Nat} : idx l (i : Int) = l[i]? := by
  unfold idx
  rw [if_pos (by omega)]
  simp
theorem idx_at {l : List α} {i : Int} (h0 : 0 ≤ i) : idx l i = l[i.toNat]? := by unfold idx; rw [if_pos h0]
theorem wadd_of {x y : Int} (h0 : -9223372036854775808 ≤ x + y) (h1 : x + y ≤ 9223372036854775807) : wadd x y = x + y := by
  unfold wadd; rw [IntKind.wrap_i64]; omega
theorem wsub_of {x y : Int} (h0 : -9223372036854775808 ≤ x - y) (h1 : x - y ≤ 9223372036854775807) : wsub x y = x - y := by
  unfold wsub; rw [IntKind.wrap_i64]; omega
theorem wmul_of {x y : Int} (h0 : -9223372036854775808 ≤ x * y) (h1 : x * y ≤ 9223372036854775807) : wmul x y = x * y := by
  unfold wmul; rw [IntKind.wrap_i64]; omega
theorem chk_t {p : Prop} [Decidable p] (h : p) : chk p = some () := if_pos h
end
end Go.Pu
set_option linter.all false
namespace Go.Pu
open Go.Fw
/-- the value is there, and is so -/
def Ok {α : Type} (x : Option α) (P : α → Prop) : Prop := ∃ v, x = some v ∧ P v
def FlOk {ρ β σ : Type} (N : σ → Prop) (B : β → Prop) (R : ρ → Prop) : Fl ρ β σ → Prop
  | .nx s => N s
  | .br b => B b
  | .rt r => R r
def nth {α : Type} [Inhabited α] (l : List α) (k : Nat) : α := l.getD k default
section
variable {ρ σ α β γ τ : Type} {P : α → Prop} {N : σ → Prop} {B : β → Prop} {R : ρ → Prop}
theorem Ok.mono {x : Option α} {Q : α → Prop} (h : Ok x P) (hPQ : ∀ v, P v → Q v) : Ok x Q := let ⟨v, e, p⟩ := h; ⟨v, e, hPQ v p⟩
theorem Ok.eq {x : Option α} {v : α} (h : Ok x (fun y => y = v)) : x = some v := by obtain ⟨y, e, rfl⟩ := h; exact e
theorem Ok.of {x : Option α} {v : α} (h : x = some v) (p : P v) : Ok x P := ⟨v, h, p⟩
theorem Ok.use {x : Option α} (h : Ok x P) : ∃ v, x = some v ∧ P v := h
theorem ok_some {v : α} : Ok (some v) P ↔ P v := ⟨fun ⟨_, e, p⟩ => by cases e; exact p, fun p => ⟨v, rfl, p⟩⟩
theorem ok_none : Ok (none : Option α) P ↔ False := ⟨fun ⟨_, e, _⟩ => by (cases e), fun h => h.elim⟩
theorem ok_bind {x : Option τ} {k : τ → Option α} : Ok (x.bind k) P ↔ Ok x (fun v => Ok (k v) P) := by
  constructor
  · rintro ⟨v, e, p⟩
    obtain ⟨y, hy, hk⟩ := Option.bind_eq_some_iff.1 e
    exact ⟨y, hy, v, hk, p⟩
  · rintro ⟨y, rfl, v, e, p⟩; exact ⟨v, e, p⟩
theorem ok_chk {p : Prop} [Decidable p] {P : Unit → Prop} : Ok (chk p) P ↔ p ∧ P () := by
  unfold chk
  split
  · rename_i h; simp [ok_some, h]
  · rename_i h; simp [ok_none, h]
theorem ok_ite {p : Prop} [Decidable p] {x y : Option α} : Ok (if p then x else y) P ↔ (p → Ok x P) ∧ (¬ p → Ok y P) := by
  split
  · rename_i h; simp [h]
  · rename_i h; simp [h]
theorem flok_nx {s : σ} : FlOk N B R (.nx s) ↔ N s := Iff.rfl
theorem flok_br {b : β} : FlOk N B R (.br b) ↔ B b := Iff.rfl
theorem flok_rt {r : ρ} : FlOk N B R (.rt r) ↔ R r := Iff.rfl
theorem ok_bindR {x : Option (Fl ρ β σ)} {k : σ → Option ρ} {P : ρ → Prop} : Ok (bindR x k) P ↔ Ok x (FlOk (fun s => Ok (k s) P) (fun _ => False) P) := by
  constructor
  · rintro ⟨v, e, p⟩
    cases x with
    | none => cases e
    | some y =>
      cases y with
      | nx s => exact ⟨_, rfl, v, e, p⟩
      | br b => cases e
      | rt r => cases e; exact ⟨_, rfl, p⟩
  · rintro ⟨y, rfl, h⟩
    cases y with
    | nx s => exact h
    | br b => exact h.elim
    | rt r => exact ⟨r, rfl, h⟩
theorem ok_bindF {x : Option (Fl ρ β σ)} {k : σ → Option (Fl ρ β τ)} {P : Fl ρ β τ → Prop} : Ok (bindF x k) P ↔ Ok x (FlOk (fun s => Ok (k s) P) (fun b => P (.br b)) (fun r => P (.rt r))) := by
  constructor
  · rintro ⟨v, e, p⟩
    cases x with
    | none => cases e
    | some y =>
      cases y with
      | nx s => exact ⟨_, rfl, v, e, p⟩
      | br b => cases e; exact ⟨_, rfl, p⟩
      | rt r => cases e; exact ⟨_, rfl, p⟩
  · rintro ⟨y, rfl, h⟩
    cases y with
    | nx s => exact h
    | br b => exact ⟨_, rfl, h⟩
    | rt r => exact ⟨_, rfl, h⟩
theorem nth_at [Inhabited α] {l : List α} {k : Nat} (h : k < l.length) : l[k]? = some (nth l k) := by
  unfold nth; rw [List.getD_eq_getElem?_getD, List.getElem?_eq_getElem h]; rfl
theorem nth_get [Inhabited α] {l : List α} {k : Nat} (h : k < l.length) : nth l k = l[k] := by
  unfold nth; rw [List.getD_eq_getElem?_getD, List.getElem?_eq_getElem h]; rfl
theorem nth_of [Inhabited α] {l : List α} {k : Nat} {x : α} (h : l[k]? = some x) : nth l k = x ∧ k < l.length := by
  unfold nth; rw [List.getD_eq_getElem?_getD, h]; exact ⟨rfl, (List.getElem?_eq_some_iff.1 h).1⟩
theorem nth_mem [Inhabited α] {l : List α} {k : Nat} (h : k < l.length) : nth l k ∈ l := List.mem_of_getElem? (nth_at h)
theorem mem_nth [Inhabited α] {l : List α} {x : α} (h : x ∈ l) : ∃ k, k < l.length ∧ nth l k = x := by
  obtain ⟨k, hk, e⟩ := List.mem_iff_getElem.1 h
  exact ⟨k, hk, by rw [nth_get hk, e]⟩
theorem nth_set [Inhabited α] {l : List α} {i k : Nat} {x : α} (h : i < l.length) : nth (l.set i x) k = if k = i then x else nth l k := by
  unfold nth
  simp only [List.getD_eq_getElem?_getD]
  split
  · rename_i e; subst e; rw [List.getElem?_set_self h]; rfl
  · rename_i e; rw [List.getElem?_set_ne (Ne.symm e)]
theorem nth_append [Inhabited α] {l m : List α} {k : Nat} : nth (l ++ m) k = if k < l.length then nth l k else nth m (k - l.length) := by
  unfold nth
  simp only [List.getD_eq_getElem?_getD]
  split
  · rename_i h; rw [List.getElem?_append_left h]
  · rename_i h; rw [List.getElem?_append_right (by omega)]
theorem nth_replicate [Inhabited α] {n k : Nat} {x : α} (h : k < n) : nth (List.replicate n x) k = x := by
  unfold nth; simp [List.getD_eq_getElem?_getD, h]
theorem nth_take [Inhabited α] {l : List α} {n k : Nat} (h : k < n) : nth (l.take n) k = nth l k := by
  unfold nth; simp only [List.getD_eq_getElem?_getD]; rw [List.getElem?_take_of_lt h]
theorem nth_drop [Inhabited α] {l : List α} {n k : Nat} : nth (l.drop n) k = nth l (n + k) := by
  unfold nth; simp only [List.getD_eq_getElem?_getD, List.getElem?_drop]
theorem nth_ext [Inhabited α] {l m : List α} (h1 : l.length = m.length) (h2 : ∀ k, k < l.length → nth l k = nth m k) : l = m := by
  apply List.ext_getElem h1
  intro k hk hk'
  rw [← nth_get hk, ← nth_get hk', h2 k hk]
theorem nth_map [Inhabited α] [Inhabited β] {l : List α} {f : α → β} {k : Nat} (h : k < l.length) : nth (l.map f) k = f (nth l k) := by
  rw [nth_get (by simpa using h), nth_get h]; simp
theorem nth_cons_zero [Inhabited α] {l : List α} {x : α} : nth (x :: l) 0 = x := rfl
theorem nth_cons_succ [Inhabited α] {l : List α} {x : α} {k : Nat} : nth (x :: l) (k + 1) = nth l k := rfl
theorem ok_idx [Inhabited α] {l : List α} {i : Int} : Ok (idx l i) P ↔ 0 ≤ i ∧ i < (l.length : Int) ∧ P (nth l i.toNat) := by
  unfold idx
  split
  · rename_i h
    by_cases hl : i < (l.length : Int)
    · rw [nth_at (by omega), ok_some]; simp [h, hl]
    · rw [List.getElem?_eq_none (by omega), ok_none]; simp [hl]
  · rename_i h; rw [ok_none]; simp [h]
theorem ok_rangeL {body : Nat → τ → σ → Option (Fl ρ σ σ)} {l : List τ} (I : Nat → σ → Prop) {s : σ} {B : γ → Prop} (h0 : I 0 s)
    (hs : ∀ k x s, l[k]? = some x → I k s → Ok (body k x s) (FlOk (I (k + 1)) N R)) (he : ∀ s, I l.length s → N s) : Ok (rangeL (γ := γ) body l 0 s) (FlOk N B R) := by
  have key : ∀ (d i : Nat) (s : σ), i + d = l.length → I i s → Ok (rangeL (γ := γ) body (l.drop i) i s) (FlOk N B R) := by
    intro d
    induction d with
    | zero =>
      intro i s hi hI
      rw [List.drop_of_length_le (by omega)]
      have : i = l.length := by omega
      subst this
      exact ⟨_, rfl, he s hI⟩
    | succ d ih =>
      intro i s hi hI
      have hlt : i < l.length := by omega
      rw [List.drop_eq_getElem_cons hlt]
      unfold rangeL
      obtain ⟨v, e, p⟩ := hs i l[i] s (List.getElem?_eq_getElem hlt) hI
      rw [e]
      cases v with
      | nx s' => exact ih (i + 1) s' (by omega) p
      | br s' => exact ⟨_, rfl, p⟩
      | rt r => exact ⟨_, rfl, p⟩
  have := key l.length 0 s (by omega) h0
  simpa using this
theorem ok_rangeN {body : Nat → σ → Option (Fl ρ σ σ)} {n : Nat} (I : Nat → σ → Prop) {s : σ} {B : γ → Prop} (h0 : I 0 s)
    (hs : ∀ k s, k < n → I k s → Ok (body k s) (FlOk (I (k + 1)) N R)) (he : ∀ s, I n s → N s) : Ok (rangeN (γ := γ) body n 0 s) (FlOk N B R) := by
  have key : ∀ (d i : Nat) (s : σ), i + d = n → I i s → Ok (rangeN (γ := γ) body d i s) (FlOk N B R) := by
    intro d
    induction d with
    | zero =>
      intro i s hi hI
      have : i = n := by omega
      subst this
      exact ⟨_, rfl, he s hI⟩
    | succ d ih =>
      intro i s hi hI
      unfold rangeN
      obtain ⟨v, e, p⟩ := hs i s (by omega) hI
      rw [e]
      cases v with
      | nx s' => exact ih (i + 1) s' (by omega) p
      | br s' => exact ⟨_, rfl, p⟩
      | rt r => exact ⟨_, rfl, p⟩
  exact key n 0 s (by omega) h0
theorem ok_loopM {body : σ → Option (Fl ρ β σ)} (I : σ → Prop) (μ : σ → Nat) {C : γ → Prop} (hs : ∀ s, I s → Ok (body s) (FlOk (fun s' => I s' ∧ μ s' < μ s) B R)) : ∀ (n : Nat) (s : σ), I s → μ s < n → Ok (loopM (γ := γ) body n s) (FlOk B C R) := by
  intro n
  induction n with
  | zero => intro s _ h; omega
  | succ n ih =>
    intro s hI hn
    unfold loopM
    obtain ⟨v, e, p⟩ := hs s hI
    rw [e]
    cases v with
    | nx s' => exact ih s' p.1 (by have := p.2; omega)
    | br b => exact ⟨_, rfl, p⟩
    | rt r => exact ⟨_, rfl, p⟩
theorem ok_within {x n : Int} {P : Int → Prop} : True := trivial
end
end Go.Pu
set_option linter.all false
namespace Go.Pu
open Go.Fw Go.Mo
theorem equal_ok (a b : List Int) : slices_Equal_int_int_m a b = some (decide (a = b)) := by
  apply Ok.eq
  unfold slices_Equal_int_int_m
  simp only [ok_ite, ok_some, ok_bindR, bne_iff_ne]
  refine ⟨fun h => ?_, fun h => ?_⟩
  · rw [eq_comm, decide_eq_false_iff_not]; intro e; subst e; exact h rfl
  · have hl : a.length = b.length := by omega
    refine ok_rangeL (fun k _ => ∀ j, j < k → nth a j = nth b j) (by intro j hj; omega) (fun k x s hk hI => ?_) fun s hs => ?_
    · obtain ⟨hx, hka⟩ := nth_of hk
      unfold slices_Equal_int_int_b1
      simp only [idx_nat, nth_at (show k < b.length by omega), Option.bind_some, ok_ite, ok_some, flok_rt, flok_nx, bne_iff_ne]
      refine ⟨fun hne => ?_, fun heq j hj => ?_⟩
      · rw [eq_comm, decide_eq_false_iff_not]; intro e; subst e; exact hne hx.symm
      · by_cases hjk : j = k
        · subst hjk; rw [hx]; exact Classical.not_not.1 heq
        · exact hI j (by omega)
    · rw [eq_comm, decide_eq_true_eq]; exact nth_ext hl hs
end Go.Pu
set_option linter.all false
namespace Go.Pu
open Go.Fw Go.Mo
theorem index_ok (l : List Int) (x : Int) : slices_Index_int_int_m l x = some (if x ∈ l then (l.idxOf x : Int) else -1) := by
  unfold slices_Index_int_int_m
  rw [rangeL_first (γ := Unit) (fun y => x == y) l (fun i y _ => by unfold slices_Index_int_int_b1; rfl)]
  have h1 : (fun y => x == y) = (fun y => y == x) := by funext y; exact Bool.eq_iff_iff.2 ⟨fun h => by rw [beq_iff_eq] at h ⊢; exact h.symm, fun h => by rw [beq_iff_eq] at h ⊢; exact h.symm⟩
  by_cases hx : x ∈ l
  · rw [if_pos (List.any_eq_true.2 ⟨x, hx, by simp⟩), if_pos hx]
    simp only [bindR, Nat.zero_add, List.idxOf, h1]
  · rw [if_neg (by rw [List.any_eq_true]; rintro ⟨y, hy, e⟩; simp at e; subst e; exact hx hy), if_neg hx]
    rfl
theorem contains_ok (l : List Int) (x : Int) : slices_Contains_int_int_m l x = some (decide (x ∈ l)) := by
  unfold slices_Contains_int_int_m
  rw [index_ok, Option.bind_some]
  by_cases hx : x ∈ l
  · simp [hx]
  · simp [hx]
/-- those below n that are chosen -/
def pickB (p : Nat → Bool) : Nat → List Int
  | 0 => []
  | n + 1 => pickB p n ++ if p n then [(n : Int)] else []
theorem mem_pickB {p : Nat → Bool} {n : Nat} {x : Int} : x ∈ pickB p n ↔ ∃ k : Nat, k < n ∧ p k = true ∧ x = k := by
  induction n with
  | zero => simp [pickB]
  | succ n ih =>
    simp only [pickB, List.mem_append, ih]
    constructor
    · rintro (⟨k, h1, h2, h3⟩ | h)
      · exact ⟨k, by omega, h2, h3⟩
      · split at h
        · rename_i hp; simp at h; exact ⟨n, by omega, hp, h⟩
        · cases h
    · rintro ⟨k, h1, h2, h3⟩
      by_cases hk : k = n
      · subst hk; right; rw [if_pos h2]; simp [h3]
      · left; exact ⟨k, by omega, h2, h3⟩
theorem pickB_len {p : Nat → Bool} {n : Nat} : (pickB p n).length ≤ n := by
  induction n with
  | zero => simp [pickB]
  | succ n ih => simp only [pickB, List.length_append]; split <;> simp <;> omega
theorem pickB_sorted {p : Nat → Bool} {n : Nat} : (pickB p n).Pairwise (· < ·) := by
  induction n with
  | zero => simp [pickB]
  | succ n ih =>
    simp only [pickB]
    rw [List.pairwise_append]
    refine ⟨ih, by split <;> simp, fun a ha b hb => ?_⟩
    obtain ⟨k, h1, _, rfl⟩ := mem_pickB.1 ha
    split at hb
    · simp at hb; omega
    · cases hb
theorem pickB_congr {p q : Nat → Bool} {n : Nat} (h : ∀ k, k < n → p k = q k) : pickB p n = pickB q n := by
  induction n with
  | zero => rfl
  | succ n ih => simp only [pickB]; rw [ih fun k hk => h k (by omega), h n (by omega)]
theorem pickB_nd {p : Nat → Bool} {n : Nat} : (pickB p n).Nodup := pickB_sorted.imp fun h => by omega
end Go.Pu
set_option linter.all false
namespace Go.Pu
open Go.Fw
/-- a table of n by k, by a function -/
structure Mat (n k : Nat) (m : List (List Int)) (f : Nat → Nat → Int) : Prop where
  len : m.length = n
  row : ∀ x, x < n → (nth m x).length = k
  at_ : ∀ x y, x < n → y < k → nth (nth m x) y = f x y
section
variable {n k : Nat} {m : List (List Int)} {f g : Nat → Nat → Int}
theorem Mat.congr (h : Mat n k m f) (e : ∀ x y, x < n → y < k → f x y = g x y) : Mat n k m g := ⟨h.len, h.row, fun x y hx hy => by rw [h.at_ x y hx hy, e x y hx hy]⟩
theorem Mat.row? (h : Mat n k m f) {x : Nat} (hx : x < n) : m[x]? = some (nth m x) := nth_at (by rw [h.len]; exact hx)
theorem Mat.cell? (h : Mat n k m f) {x y : Nat} (hx : x < n) (hy : y < k) : (nth m x)[y]? = some (f x y) := by rw [nth_at (by rw [h.row x hx]; exact hy), h.at_ x y hx hy]
theorem Mat.set (h : Mat n k m f) {x y : Nat} (hx : x < n) (hy : y < k) (v : Int) : Mat n k (m.set x ((nth m x).set y v)) (fun a b => if a = x ∧ b = y then v else f a b) := by
  have hxl : x < m.length := by rw [h.len]; exact hx
  refine ⟨by simpa using h.len, fun a ha => ?_, fun a b ha hb => ?_⟩
  · rw [nth_set hxl]
    split
    · simpa using h.row x hx
    · exact h.row a ha
  · rw [nth_set hxl]
    by_cases hax : a = x
    · subst hax
      rw [if_pos rfl, nth_set (by rw [h.row a ha]; exact hy)]
      by_cases hby : b = y
      · simp [hby]
      · simp [hby]; exact h.at_ a b ha hb
    · rw [if_neg hax, if_neg (by simp [hax])]; exact h.at_ a b ha hb
theorem Mat.setRow (h : Mat n k m f) {x : Nat} (hx : x < n) {r : List Int} {v : Nat → Int} (hr : r.length = k) (hv : ∀ y, y < k → nth r y = v y) : Mat n k (m.set x r) (fun a b => if a = x then v b else f a b) := by
  have hxl : x < m.length := by rw [h.len]; exact hx
  refine ⟨by simpa using h.len, fun a ha => ?_, fun a b ha hb => ?_⟩
  · rw [nth_set hxl]
    split
    · exact hr
    · exact h.row a ha
  · rw [nth_set hxl]
    split
    · exact hv b hb
    · exact h.at_ a b ha hb
theorem Mat.ext {m' : List (List Int)} (h : Mat n k m f) (h' : Mat n k m' f) : m = m' := by
  refine nth_ext (by rw [h.len, h'.len]) fun x hx => ?_
  rw [h.len] at hx
  refine nth_ext (by rw [h.row x hx, h'.row x hx]) fun y hy => ?_
  rw [h.row x hx] at hy
  rw [h.at_ x y hx hy, h'.at_ x y hx hy]
theorem Mat.self (h1 : m.length = n) (h2 : ∀ r ∈ m, r.length = k) : Mat n k m (fun x y => nth (nth m x) y) := ⟨h1, fun x hx => h2 _ (nth_mem (by omega)), fun _ _ _ _ => rfl⟩
end
/-- a list of numbers, by a function -/
structure Vec (n : Nat) (l : List Int) (f : Nat → Int) : Prop where
  len : l.length = n
  at_ : ∀ x, x < n → nth l x = f x
section
variable {n : Nat} {l : List Int} {f g : Nat → Int}
theorem Vec.congr (h : Vec n l f) (e : ∀ x, x < n → f x = g x) : Vec n l g := ⟨h.len, fun x hx => by rw [h.at_ x hx, e x hx]⟩
theorem Vec.at? (h : Vec n l f) {x : Nat} (hx : x < n) : l[x]? = some (f x) := by rw [nth_at (by rw [h.len]; exact hx), h.at_ x hx]
theorem Vec.set (h : Vec n l f) {x : Nat} (hx : x < n) (v : Int) : Vec n (l.set x v) (fun a => if a = x then v else f a) :=
  ⟨by simpa using h.len, fun a ha => by rw [nth_set (by rw [h.len]; exact hx)]; split; rfl; exact h.at_ a ha⟩
theorem Vec.ext {l' : List Int} (h : Vec n l f) (h' : Vec n l' f) : l = l' := nth_ext (by rw [h.len, h'.len]) fun x hx => by rw [h.len] at hx; rw [h.at_ x hx, h'.at_ x hx]
theorem Vec.self (h : l.length = n) : Vec n l (nth l) := ⟨h, fun _ _ => rfl⟩
theorem Vec.zero : Vec n (List.replicate n 0) (fun _ => 0) := ⟨by simp, fun x hx => nth_replicate hx⟩
theorem Vec.nil : Vec 0 [] f := ⟨rfl, fun x hx => by omega⟩
theorem Vec.snoc (h : Vec n l f) {v : Int} (e : v = f n) : Vec (n + 1) (l ++ [v]) f := ⟨by simp [h.len], fun x hx => by
  rw [nth_append, h.len]
  split
  · rename_i h'; exact h.at_ x h'
  · have : x = n := by omega
    subst this; simp [e]; rfl⟩
end
/-- sums over the first n numbers -/
def sumN (n : Nat) (f : Nat → Int) : Int := match n with | 0 => 0 | n + 1 => sumN n f + f n
theorem sumN_congr {n : Nat} {f g : Nat → Int} (h : ∀ x, x < n → f x = g x) : sumN n f = sumN n g := by
  induction n with
  | zero => rfl
  | succ n ih => simp only [sumN]; rw [ih fun x hx => h x (by omega), h n (by omega)]
theorem sumN_add {n : Nat} {f g : Nat → Int} : sumN n (fun x => f x + g x) = sumN n f + sumN n g := by
  induction n with
  | zero => rfl
  | succ n ih => simp only [sumN]; omega
theorem sumN_zero {n : Nat} : sumN n (fun _ => 0) = 0 := by
  induction n with
  | zero => rfl
  | succ n ih => simp only [sumN]; omega
theorem sumN_mul {n : Nat} {f : Nat → Int} {c : Int} : sumN n (fun x => c * f x) = c * sumN n f := by
  induction n with
  | zero => simp [sumN]
  | succ n ih => simp only [sumN]; rw [ih, Int.mul_add]
theorem sumN_const {n : Nat} {c : Int} : sumN n (fun _ => c) = n * c := by
  induction n with
  | zero => simp [sumN]
  | succ n ih => simp only [sumN]; rw [ih, Int.natCast_add, Int.add_mul]; simp
theorem sumN_le {n : Nat} {f g : Nat → Int} (h : ∀ x, x < n → f x ≤ g x) : sumN n f ≤ sumN n g := by
  induction n with
  | zero => exact Int.le_refl _
  | succ n ih => simp only [sumN]; have := ih fun x hx => h x (by omega); have := h n (by omega); omega
theorem sumN_comm {n k : Nat} {f : Nat → Nat → Int} : sumN n (fun x => sumN k (fun y => f x y)) = sumN k (fun y => sumN n (fun x => f x y)) := by
  induction n with
  | zero => simp only [sumN, sumN_zero]
  | succ n ih => simp only [sumN]; rw [ih, sumN_add]
theorem sumN_neg {n : Nat} {f : Nat → Int} : sumN n (fun x => - f x) = - sumN n f := by
  induction n with
  | zero => rfl
  | succ n ih => simp only [sumN]; omega
theorem sumN_sub {n : Nat} {f g : Nat → Int} : sumN n (fun x => f x - g x) = sumN n f - sumN n g := by
  induction n with
  | zero => rfl
  | succ n ih => simp only [sumN]; omega
theorem sumN_single {n k : Nat} {c : Int} (h : k < n) : sumN n (fun x => if x = k then c else 0) = c := by
  induction n with
  | zero => omega
  | succ n ih =>
    simp only [sumN]
    by_cases hk : k = n
    · subst hk
      rw [if_pos rfl, sumN_congr (g := fun _ => 0) (fun x hx => if_neg (by omega)), sumN_zero]; omega
    · rw [ih (by omega), if_neg (Ne.symm hk)]; omega
end Go.Pu
set_option linter.all false
namespace Go.Pu
open Go.Fw Go.Mo
theorem contains_pairs_ok (l : List (List Int)) (x : List Int) : slices_Contains_pairs_m l x = some (decide (x ∈ l)) := by
  unfold slices_Contains_pairs_m slices_Index_pairs_m
  rw [rangeL_first (γ := Unit) (fun y => decide (x = y)) l (fun i y _ => by unfold slices_Index_pairs_b1; rfl)]
  by_cases hx : x ∈ l
  · rw [if_pos (List.any_eq_true.2 ⟨x, hx, by simp⟩)]
    simp only [bindR, Nat.zero_add, Option.bind_some]
    simp [hx]
  · rw [if_neg (by rw [List.any_eq_true]; rintro ⟨y, hy, e⟩; simp at e; subst e; exact hx hy)]
    simp [hx, bindR]
theorem equal_pairs_ok (a b : List (List Int)) : slices_Equal_pairs_m a b = some (decide (a = b)) := by
  apply Ok.eq
  unfold slices_Equal_pairs_m
  simp only [ok_ite, ok_some, ok_bindR, bne_iff_ne]
  refine ⟨fun h => ?_, fun h => ?_⟩
  · rw [eq_comm, decide_eq_false_iff_not]; intro e; subst e; exact h rfl
  · have hl : a.length = b.length := by omega
    refine ok_rangeL (fun k _ => ∀ j, j < k → nth a j = nth b j) (by intro j hj; omega) (fun k x s hk hI => ?_) fun s hs => ?_
    · obtain ⟨hx, hka⟩ := nth_of hk
      unfold slices_Equal_pairs_b1
      simp only [idx_nat, nth_at (show k < b.length by omega), Option.bind_some, ok_ite, ok_some, flok_rt, flok_nx, Bool.not_eq_true', decide_eq_false_iff_not]
      refine ⟨fun hne => ?_, fun heq j hj => ?_⟩
      · rw [eq_comm, decide_eq_false_iff_not]; intro e; subst e; exact hne hx.symm
      · by_cases hjk : j = k
        · subst hjk; rw [hx]; exact Classical.not_not.1 heq
        · exact hI j (by omega)
    · rw [eq_comm, decide_eq_true_eq]; exact nth_ext hl hs
/-- the places of a table that are chosen, row by row -/
def rowP (x : Nat) (P : Nat → Nat → Bool) : Nat → List (List Int)
  | 0 => []
  | k + 1 => rowP x P k ++ if P x k then [[(x : Int), (k : Int)]] else []
def ptsL (c : Nat) (P : Nat → Nat → Bool) : Nat → List (List Int)
  | 0 => []
  | x + 1 => ptsL c P x ++ rowP x P c
theorem mem_rowP {x : Nat} {P : Nat → Nat → Bool} {c : Nat} {p : List Int} : p ∈ rowP x P c ↔ ∃ y, y < c ∧ P x y = true ∧ p = [(x : Int), (y : Int)] := by
  induction c with
  | zero => simp [rowP]
  | succ c ih =>
    simp only [rowP, List.mem_append, ih]
    constructor
    · rintro (⟨y, h1, h2, h3⟩ | h)
      · exact ⟨y, by omega, h2, h3⟩
      · split at h
        · rename_i hp; simp at h; exact ⟨c, by omega, hp, h⟩
        · cases h
    · rintro ⟨y, h1, h2, h3⟩
      by_cases e : y = c
      · subst e; right; rw [if_pos h2]; simp [h3]
      · left; exact ⟨y, by omega, h2, h3⟩
theorem mem_ptsL {r c : Nat} {P : Nat → Nat → Bool} {p : List Int} : p ∈ ptsL c P r ↔ ∃ x y, x < r ∧ y < c ∧ P x y = true ∧ p = [(x : Int), (y : Int)] := by
  induction r with
  | zero => simp [ptsL]
  | succ r ih =>
    simp only [ptsL, List.mem_append, ih, mem_rowP]
    constructor
    · rintro (⟨x, y, h1, h2, h3, h4⟩ | ⟨y, h2, h3, h4⟩)
      · exact ⟨x, y, by omega, h2, h3, h4⟩
      · exact ⟨r, y, by omega, h2, h3, h4⟩
    · rintro ⟨x, y, h1, h2, h3, h4⟩
      by_cases e : x = r
      · subst e; right; exact ⟨y, h2, h3, h4⟩
      · left; exact ⟨x, y, by omega, h2, h3, h4⟩
theorem len_rowP {x : Nat} {P : Nat → Nat → Bool} {c : Nat} : ((rowP x P c).length : Int) = sumN c (fun y => if P x y then 1 else 0) := by
  induction c with
  | zero => rfl
  | succ c ih => simp only [rowP, List.length_append, sumN, Int.natCast_add, ih]; split <;> simp
theorem len_ptsL {r c : Nat} {P : Nat → Nat → Bool} : ((ptsL c P r).length : Int) = sumN r (fun x => sumN c (fun y => if P x y then 1 else 0)) := by
  induction r with
  | zero => rfl
  | succ r ih => simp only [ptsL, List.length_append, sumN, Int.natCast_add, ih, len_rowP]
theorem len_rowP_le {x : Nat} {P : Nat → Nat → Bool} {c : Nat} : (rowP x P c).length ≤ c := by
  induction c with
  | zero => simp [rowP]
  | succ c ih => simp only [rowP, List.length_append]; split <;> simp <;> omega
theorem len_ptsL_le {r c : Nat} {P : Nat → Nat → Bool} : (ptsL c P r).length ≤ r * c := by
  induction r with
  | zero => simp [ptsL]
  | succ r ih => simp only [ptsL, List.length_append, Nat.add_mul]; have := @len_rowP_le r P c; omega
theorem rowP_congr {x c : Nat} {P Q : Nat → Nat → Bool} (h : ∀ y, y < c → P x y = Q x y) : rowP x P c = rowP x Q c := by
  induction c with
  | zero => rfl
  | succ c ih => simp only [rowP]; rw [ih fun y hy => h y (by omega), h c (by omega)]
theorem ptsL_congr {r c : Nat} {P Q : Nat → Nat → Bool} (h : ∀ x y, x < r → y < c → P x y = Q x y) : ptsL c P r = ptsL c Q r := by
  induction r with
  | zero => rfl
  | succ r ih => simp only [ptsL]; rw [ih fun x y hx hy => h x y (by omega) hy, rowP_congr fun y hy => h r y (by omega) hy]
end Go.Pu
set_option linter.all false
namespace Go.Pu
open Go.Fw Go.Mo
theorem good_at (l : List Int) : pk_good_m l = some (l.all (· == 0)) := by
  unfold pk_good_m slices_ContainsFunc_api_Errno_api_Errno_m slices_IndexFunc_api_Errno_api_Errno_m
  rw [rangeL_first (γ := Unit) (fun x => x != 0) l (fun i x _ => by
    unfold slices_IndexFunc_api_Errno_api_Errno_b1 pk_good_1_m
    simp only [Option.bind_some])]
  by_cases hl : l.any (fun x => x != 0) = true
  · rw [if_pos hl]
    simp only [bindR, Option.bind_some]
    have h1 : l.all (· == 0) = false := by
      rw [List.any_eq_true] at hl
      obtain ⟨x, hx, hx'⟩ := hl
      rw [List.all_eq_false]
      exact ⟨x, hx, by simpa using hx'⟩
    rw [h1]
    simp only [Nat.zero_add, Option.some.injEq, Bool.not_eq_false', decide_eq_true_eq]
    omega
  · rw [if_neg hl]
    have h1 : l.all (· == 0) = true := by
      rw [List.all_eq_true]
      intro x hx
      have : ¬ ∃ x, x ∈ l ∧ (x != 0) = true := by rwa [List.any_eq_true] at hl
      by_cases h : x = 0
      · simp [h]
      · exact absurd ⟨x, hx, by simpa using h⟩ this
    rw [h1]; rfl
end Go.Pu
set_option linter.all false
namespace Go.Pu
open Go.Fw Go.Mo
structure Tbl (r c : Nat) (m : List (List Int)) (f : Nat → Nat → Int) : Prop where
  mat : Mat r c m f
  r1 : 1 ≤ r
  r6 : r ≤ 6
  c1 : 1 ≤ c
  c6 : c ≤ 6
  val : ∀ x y, x < r → y < c → -1000 ≤ f x y ∧ f x y ≤ 1000
theorem sad_check (m : List (List Int)) : Ok (saddle_Check_m m) (fun e => e = 0 → ∃ r c, Tbl r c m (fun x y => nth (nth m x) y)) := by
  unfold saddle_Check_m
  simp only [ok_bindR, ok_ite, ok_some, flok_nx, decide_eq_true_eq]
  refine ⟨fun h => ⟨fun _ => by omega, fun h' => absurd trivial h'⟩, fun hlt => ⟨fun _ => by omega, fun hgt => ?_⟩⟩
  refine ok_rangeL (fun k _ => 0 < k → (1 ≤ (nth m 0).length ∧ (nth m 0).length ≤ 6) ∧ ∀ x, x < k → (nth m x).length = (nth m 0).length ∧ ∀ y, y < (nth m 0).length → -1000 ≤ nth (nth m x) y ∧ nth (nth m x) y ≤ 1000) (by intro h; omega) (fun k r s hk hI => ?_) fun s hs => ?_
  · obtain ⟨hr, hkl⟩ := nth_of hk
    unfold saddle_Check_b1
    rw [show (0 : Int) = ((0 : Nat) : Int) from rfl, idx_nat, nth_at (show 0 < m.length by omega)]
    simp only [Option.bind_some, ok_ite, ok_some, ok_bindF, bne_iff_ne, flok_rt, flok_nx, decide_eq_true_eq]
    refine ⟨fun _ => by omega, fun hlen => ⟨fun h => ⟨fun _ => by omega, fun h' => absurd trivial h'⟩, fun hl1 => ⟨fun _ => by omega, fun hl6 => ?_⟩⟩⟩
    refine ok_rangeL (fun j _ => ∀ y, y < j → -1000 ≤ nth r y ∧ nth r y ≤ 1000) (by intro y hy; omega) (fun j v s hj hJ => ?_) fun s hs => ?_
    · obtain ⟨hv, _⟩ := nth_of hj
      unfold saddle_Check_b2
      simp only [ok_ite, ok_some, ok_bindF, decide_eq_true_eq, flok_rt, flok_nx]
      grind
    · intro _
      have hlen' : r.length = (nth m 0).length := by omega
      refine ⟨by omega, fun x hx => ?_⟩
      by_cases e : x = k
      · subst e; rw [hr]; exact ⟨hlen', fun y hy => hs y (by omega)⟩
      · exact (hI (by omega)).2 x (by omega)
  · intro _
    obtain ⟨h1, h2⟩ := hs (by omega)
    exact ⟨m.length, (nth m 0).length, ⟨⟨rfl, fun x hx => (h2 x hx).1, fun _ _ _ _ => rfl⟩, by omega, by omega, h1.1, h1.2, fun x y hx hy => (h2 x hx).2 y hy⟩⟩
theorem sad_ok {r c : Nat} {m : List (List Int)} {f : Nat → Nat → Int} (h : Tbl r c m f) : saddle_Check_m m = some 0 := by
  apply Ok.eq
  have hl := h.mat.len; have h1 := h.r1; have h6 := h.r6; have c1 := h.c1; have c6 := h.c6
  have h0 := h.mat.row 0 (by omega)
  unfold saddle_Check_m
  simp only [ok_bindR, ok_ite, ok_some, flok_nx, decide_eq_true_eq]
  refine ⟨fun h => by omega, fun hlt => ⟨fun _ => by omega, fun hgt => ?_⟩⟩
  refine ok_rangeL (fun _ _ => True) trivial (fun k row s hk _ => ?_) fun _ _ => by trivial
  obtain ⟨hr, hkl⟩ := nth_of hk
  have hrow := h.mat.row k (by omega)
  rw [hr] at hrow
  unfold saddle_Check_b1
  rw [show (0 : Int) = ((0 : Nat) : Int) from rfl, idx_nat, nth_at (show 0 < m.length by omega)]
  simp only [Option.bind_some, ok_ite, ok_some, ok_bindF, bne_iff_ne, flok_rt, flok_nx, decide_eq_true_eq]
  refine ⟨fun _ => by omega, fun hlen => ⟨fun h => by omega, fun hl1 => ⟨fun _ => by omega, fun hl6 => ?_⟩⟩⟩
  refine ok_rangeL (fun _ _ => True) trivial (fun j v s hj hJ => ?_) fun _ _ => by trivial
  obtain ⟨hv, hjl⟩ := nth_of hj
  have hb := h.val k j (by omega) (by omega)
  rw [← h.mat.at_ k j (by omega) (by omega), hr, hv] at hb
  unfold saddle_Check_b2
  simp only [ok_ite, ok_some, ok_bindF, decide_eq_true_eq, flok_rt, flok_nx]
  grind
theorem sad_split (m : List (List Int)) : (∃ r c f, Tbl r c m f) ∨ ∃ e, e ≠ 0 ∧ saddle_Check_m m = some e := by
  obtain ⟨e, h1, h2⟩ := sad_check m
  by_cases he : e = 0
  · obtain ⟨r, c, h⟩ := h2 he; exact .inl ⟨r, c, _, h⟩
  · exact .inr ⟨e, he, h1⟩
/-- least, greatest -/
def mnN (g : Nat → Int) : Nat → Int
  | 0 => 1000
  | n + 1 => if g n < mnN g n then g n else mnN g n
def mxN (g : Nat → Int) : Nat → Int
  | 0 => -1000
  | n + 1 => if g n > mxN g n then g n else mxN g n
theorem mn_le {g : Nat → Int} {n : Nat} : ∀ y, y < n → mnN g n ≤ g y := by
  induction n with
  | zero => intro y hy; omega
  | succ n ih =>
    intro y hy
    simp only [mnN]
    by_cases e : y = n
    · subst e; split <;> omega
    · have := ih y (by omega); split <;> omega
theorem mx_ge {g : Nat → Int} {n : Nat} : ∀ y, y < n → g y ≤ mxN g n := by
  induction n with
  | zero => intro y hy; omega
  | succ n ih =>
    intro y hy
    simp only [mxN]
    by_cases e : y = n
    · subst e; split <;> omega
    · have := ih y (by omega); split <;> omega
theorem mn_at {g : Nat → Int} {n : Nat} (h1 : 1 ≤ n) (hb : ∀ y, y < n → g y ≤ 1000) : ∃ y, y < n ∧ mnN g n = g y := by
  induction n with
  | zero => omega
  | succ n ih =>
    simp only [mnN]
    by_cases h0 : n = 0
    · subst h0
      refine ⟨0, by omega, ?_⟩
      have := hb 0 (by omega)
      show (if g 0 < (1000 : Int) then g 0 else 1000) = g 0
      by_cases hh : g 0 < 1000
      · rw [if_pos hh]
      · rw [if_neg hh]; omega
    · obtain ⟨y, hy, e⟩ := ih (by omega) fun y hy => hb y (by omega)
      split
      · exact ⟨n, by omega, rfl⟩
      · exact ⟨y, by omega, e⟩
theorem mx_at {g : Nat → Int} {n : Nat} (h1 : 1 ≤ n) (hb : ∀ y, y < n → -1000 ≤ g y) : ∃ y, y < n ∧ mxN g n = g y := by
  induction n with
  | zero => omega
  | succ n ih =>
    simp only [mxN]
    by_cases h0 : n = 0
    · subst h0
      refine ⟨0, by omega, ?_⟩
      have := hb 0 (by omega)
      show (if g 0 > (-1000 : Int) then g 0 else -1000) = g 0
      by_cases hh : g 0 > -1000
      · rw [if_pos hh]
      · rw [if_neg hh]; omega
    · obtain ⟨y, hy, e⟩ := ih (by omega) fun y hy => hb y (by omega)
      split
      · exact ⟨n, by omega, rfl⟩
      · exact ⟨y, by omega, e⟩
theorem mn_congr {g h : Nat → Int} {n : Nat} (e : ∀ y, y < n → g y = h y) : mnN g n = mnN h n := by
  induction n with
  | zero => rfl
  | succ n ih => simp only [mnN]; rw [ih fun y hy => e y (by omega), e n (by omega)]
theorem mx_congr {g h : Nat → Int} {n : Nat} (e : ∀ y, y < n → g y = h y) : mxN g n = mxN h n := by
  induction n with
  | zero => rfl
  | succ n ih => simp only [mxN]; rw [ih fun y hy => e y (by omega), e n (by omega)]
theorem mn_neg {g : Nat → Int} {n : Nat} : mnN (fun y => - g y) n = - mxN g n := by
  induction n with
  | zero => rfl
  | succ n ih => simp only [mnN, mxN, ih]; split <;> split <;> omega
theorem mx_neg {g : Nat → Int} {n : Nat} : mxN (fun y => - g y) n = - mnN g n := by
  induction n with
  | zero => rfl
  | succ n ih => simp only [mnN, mxN, ih]; split <;> split <;> omega
def lowS (r c : Nat) (f : Nat → Nat → Int) : Int := mxN (fun x => mnN (f x) c) r
def highS (r c : Nat) (f : Nat → Nat → Int) : Int := mnN (fun y => mxN (fun x => f x y) r) c
def isPt (r c : Nat) (f : Nat → Nat → Int) (x y : Nat) : Bool := decide ((∀ k, k < c → f x y ≤ f x k) ∧ ∀ k, k < r → f k y ≤ f x y)
theorem isPt_iff {r c : Nat} {f : Nat → Nat → Int} {x y : Nat} : isPt r c f x y = true ↔ (∀ k, k < c → f x y ≤ f x k) ∧ ∀ k, k < r → f k y ≤ f x y := by unfold isPt; simp
theorem bounds_ok {r c : Nat} {m : List (List Int)} {f : Nat → Nat → Int} (h : Tbl r c m f) : saddle_Bounds_m m = some (lowS r c f, highS r c f, 0) := by
  apply Ok.eq
  have hl := h.mat.len; have h1 := h.r1
  unfold saddle_Bounds_m
  rw [sad_ok h, Option.bind_some, if_neg (by simp), ok_bindR]
  refine ok_rangeL (fun k (x : Int) => x = mxN (fun x => mnN (f x) c) k) rfl (fun k row x hk hx => ?_) fun lo hlo => ?_
  · obtain ⟨hr, hkl⟩ := nth_of hk
    have hrow := h.mat.row k (by omega)
    rw [hr] at hrow
    unfold saddle_Bounds_b1
    rw [ok_bindF]
    refine ok_rangeL (fun j (x : Int) => x = mnN (f k) j) rfl (fun j v x hj hx => ?_) fun lst hls => ?_
    · obtain ⟨hv, hjl⟩ := nth_of hj
      have hb := h.mat.at_ k j (by omega) (by omega)
      rw [hr, hv] at hb
      unfold saddle_Bounds_b2
      rw [ok_some, flok_nx, hx, hb]; rfl
    · rw [hrow] at hls
      rw [ok_some, flok_nx, hx, hls]; rfl
  · rw [hl] at hlo
    rw [show (0 : Int) = ((0 : Nat) : Int) from rfl, idx_nat, h.mat.row? h1, Option.bind_some, ok_bindR]
    refine ok_rangeL (fun k (x : Int) => x = mnN (fun y => mxN (fun x => f x y) r) k) rfl (fun k v x hk hx => ?_) fun hi hhi => ?_
    · have hkl := (nth_of hk).2
      rw [h.mat.row 0 h1] at hkl
      unfold saddle_Bounds_b3
      rw [ok_bindF]
      refine ok_rangeL (fun j (x : Int) => x = mxN (fun x => f x k) j) rfl (fun j row x hj hx => ?_) fun lst hls => ?_
      · obtain ⟨hr, hjl⟩ := nth_of hj
        have hc := h.mat.cell? (x := j) (y := k) (by omega) hkl
        rw [hr] at hc
        unfold saddle_Bounds_b4
        rw [idx_nat, hc, Option.bind_some, ok_some, flok_nx, hx]; rfl
      · rw [hl] at hls
        rw [ok_some, flok_nx, hx, hls]; rfl
    · rw [h.mat.row 0 h1] at hhi
      rw [ok_some, hlo, hhi]; rfl
theorem points_sad {r c : Nat} {m : List (List Int)} {f : Nat → Nat → Int} (h : Tbl r c m f) : saddle_Points_m m = some (ptsL c (isPt r c f) r, 0) := by
  apply Ok.eq
  have hl := h.mat.len; have h1 := h.r1; have h6 := h.r6; have c6 := h.c6
  unfold saddle_Points_m
  rw [sad_ok h, Option.bind_some, if_neg (by simp), ok_bindR]
  refine ok_rangeL (fun k (l : List (List Int)) => l = ptsL c (isPt r c f) k) rfl (fun k row l hk hI => ?_) fun l hl' => by rw [ok_some, hl', hl]
  obtain ⟨hr, hkl⟩ := nth_of hk
  have hrow := h.mat.row k (by omega)
  rw [hr] at hrow
  unfold saddle_Points_b1
  rw [ok_bindF]
  refine ok_rangeL (fun j (l : List (List Int)) => l = ptsL c (isPt r c f) k ++ rowP k (isPt r c f) j) (by simp [rowP, hI]) (fun j v l hj hJ => ?_) fun l hl' => by rw [ok_some, flok_nx, hl', hrow]; rfl
  obtain ⟨hv, hjl⟩ := nth_of hj
  have hb := h.mat.at_ k j (by omega) (by omega)
  rw [hr, hv] at hb
  subst hb
  have ll : l.length ≤ 72 := by
    rw [hJ, List.length_append]
    have q1 := @len_ptsL_le k c (isPt r c f)
    have q2 := @len_rowP_le k (isPt r c f) j
    have : k * c ≤ 5 * 6 := Nat.mul_le_mul (by omega) c6
    omega
  unfold saddle_Points_b2
  rw [ok_bindF]
  refine ok_rangeL (fun q (b : Bool) => b = true ↔ ∀ y, y < q → f k j ≤ f k y) (by simp) (fun q v b hq hb => ?_) fun b hb => ?_
  · obtain ⟨hv, hql⟩ := nth_of hq
    have hc := h.mat.at_ k q (by omega) (by omega)
    rw [hr, hv] at hc
    unfold saddle_Points_b3
    simp only [ok_bindF, ok_ite, ok_some, flok_nx, hc]
    grind
  · rw [hrow] at hb
    rw [ok_bindF]
    refine ok_rangeL (fun q (b' : Bool) => b' = true ↔ b = true ∧ ∀ x, x < q → f x j ≤ f k j) (by simp) (fun q row' b' hq hb' => ?_) fun b' hb' => ?_
    · obtain ⟨hr', hql⟩ := nth_of hq
      have hc := h.mat.cell? (x := q) (y := j) (by omega) (by omega)
      rw [hr'] at hc
      unfold saddle_Points_b4
      simp only [ok_bindF, ok_ite, ok_some, flok_nx, idx_nat, hc, Option.bind_some]
      grind
    · rw [hl, hb] at hb'
      have he : b' = isPt r c f k j := by
        rw [Bool.eq_iff_iff, hb', isPt_iff]
      rw [he]
      cases hp : isPt r c f k j with
      | true =>
        rw [if_pos rfl, chk_t (by simp; omega), Option.bind_some, ok_some, flok_nx, hJ]
        simp [rowP, hp]
      | false =>
        rw [if_neg (by decide), ok_some, flok_nx, hJ]
        simp [rowP, hp]
/-- at a point both bounds meet -/
theorem pt_val {r c : Nat} {m : List (List Int)} {f : Nat → Nat → Int} (h : Tbl r c m f) {x y : Nat} (hx : x < r) (hy : y < c) (hp : isPt r c f x y = true) : lowS r c f = f x y ∧ highS r c f = f x y := by
  obtain ⟨p1, p2⟩ := isPt_iff.1 hp
  have rm : mnN (f x) c = f x y := by
    obtain ⟨k, hk, e⟩ := mn_at (g := f x) h.c1 fun k hk => (h.val x k hx hk).2
    have := mn_le (g := f x) y hy
    have := p1 k hk
    omega
  have cm : mxN (fun x => f x y) r = f x y := by
    obtain ⟨k, hk, e⟩ := mx_at (g := fun x => f x y) h.r1 fun k hk => (h.val k y hk hy).1
    have := mx_ge (g := fun x => f x y) x hx
    have := p2 k hk
    try simp only at *
    omega
  constructor
  · unfold lowS
    obtain ⟨k, hk, e⟩ := mx_at (g := fun x => mnN (f x) c) h.r1 fun k hk => by
      obtain ⟨q, hq, e⟩ := mn_at (g := f k) h.c1 fun q hq => (h.val k q hk hq).2
      have := h.val k q hk hq
      (try simp only); omega
    have := mx_ge (g := fun x => mnN (f x) c) x hx
    have := mn_le (g := f k) y hy
    have := p2 k hk
    try simp only at *
    omega
  · unfold highS
    obtain ⟨k, hk, e⟩ := mn_at (g := fun y => mxN (fun x => f x y) r) h.c1 fun k hk => by
      obtain ⟨q, hq, e⟩ := mx_at (g := fun x => f x k) h.r1 fun q hq => (h.val q k hq hk).1
      have := h.val q k hq hk
      (try simp only at *); omega
    have := mn_le (g := fun y => mxN (fun x => f x y) r) y hy
    have := mx_ge (g := fun x => f x k) x hx
    have := p1 k hk
    try simp only at *
    omega
theorem low_high {r c : Nat} {m : List (List Int)} {f : Nat → Nat → Int} (h : Tbl r c m f) : ∃ x y, x < r ∧ y < c ∧ lowS r c f ≤ f x y ∧ f x y ≤ highS r c f ∧ (∀ k, k < c → lowS r c f ≤ f x k) ∧ ∀ k, k < r → f k y ≤ highS r c f := by
  obtain ⟨x, hx, e⟩ := mx_at (g := fun x => mnN (f x) c) h.r1 fun k hk => by
    obtain ⟨q, hq, e⟩ := mn_at (g := f k) h.c1 fun q hq => (h.val k q hk hq).2
    have := h.val k q hk hq
    (try simp only); omega
  obtain ⟨y, hy, e'⟩ := mn_at (g := fun y => mxN (fun x => f x y) r) h.c1 fun k hk => by
    obtain ⟨q, hq, e⟩ := mx_at (g := fun x => f x k) h.r1 fun q hq => (h.val q k hq hk).1
    have := h.val q k hq hk
    (try simp only at *); omega
  have l : ∀ k, k < c → lowS r c f ≤ f x k := fun k hk => by have := mn_le (g := f x) k hk; unfold lowS; (try simp only at *); omega
  have u : ∀ k, k < r → f k y ≤ highS r c f := fun k hk => by have := mx_ge (g := fun x => f x y) k hk; unfold highS; (try simp only at *); omega
  exact ⟨x, y, hx, hy, l y hy, u x hx, l, u⟩
theorem bounds_no {m : List (List Int)} {e : Int} (he : e ≠ 0) (h : saddle_Check_m m = some e) : saddle_Bounds_m m = some (0, 0, e) := by
  unfold saddle_Bounds_m; rw [h, Option.bind_some, if_pos (by simpa using he)]
theorem points_no {m : List (List Int)} {e : Int} (he : e ≠ 0) (h : saddle_Check_m m = some e) : saddle_Points_m m = some ([], e) := by
  unfold saddle_Points_m; rw [h, Option.bind_some, if_pos (by simpa using he)]
theorem saddles_t : pk_saddles_m = some true := by decide +kernel
end Go.Pu
set_option linter.all false
namespace Go.Pu
open Go.Fw Go.Mo
/-- the first k rows, from a table of rows that grow -/
structure Grow (c k i : Nat) (f : Nat → Nat → Int) (l : List (List Int)) : Prop where
  len : l.length = c
  full : ∀ y, y < k → Vec i (nth l y) (f y)
theorem turned_sad {r c : Nat} {m : List (List Int)} {f : Nat → Nat → Int} (h : Tbl r c m f) : ∃ t, saddle_Turned_m m = some (t, 0) ∧ Tbl c r t (fun y x => - f x y) := by
  have : Ok (saddle_Turned_m m) (fun z => z.2 = 0 ∧ Tbl c r z.1 (fun y x => - f x y)) := by
    have hl := h.mat.len; have h1 := h.r1; have h6 := h.r6; have c6 := h.c6
    unfold saddle_Turned_m
    rw [sad_ok h, Option.bind_some, if_neg (by simp), show (0 : Int) = ((0 : Nat) : Int) from rfl, idx_nat, h.mat.row? h1, Option.bind_some, h.mat.row 0 h1, chk_t (by omega), Option.bind_some, ok_bindR, Int.toNat_natCast, List.length_replicate]
    refine ok_rangeN (fun k (l : List (List Int)) => l.length = c ∧ (∀ y, y < k → Vec r (nth l y) (fun x => - f x y)) ∧ ∀ y, k ≤ y → y < c → nth l y = []) ⟨by simp, fun y hy => by omega, fun y _ hy => nth_replicate hy⟩ (fun k l hk hI => ?_) fun l hl' => ?_
    · obtain ⟨i1, i2, i3⟩ := hI
      unfold saddle_Turned_b1
      rw [ok_bindF]
      refine ok_rangeL (fun i (l : List (List Int)) => l.length = c ∧ (∀ y, y < k → Vec r (nth l y) (fun x => - f x y)) ∧ Vec i (nth l k) (fun x => - f x k) ∧ ∀ y, k + 1 ≤ y → y < c → nth l y = []) ⟨i1, i2, by rw [i3 k (by omega) hk]; exact Vec.nil, fun y hy hyc => i3 y (by omega) hyc⟩ (fun i row l hi hJ => ?_) fun l hl' => ?_
      · obtain ⟨hr, hil⟩ := nth_of hi
        obtain ⟨j1, j2, j3, j4⟩ := hJ
        have hc := h.mat.cell? (x := i) (y := k) (by omega) hk
        rw [hr] at hc
        have hb := h.val i k (by omega) hk
        have hvl := j3.len
        unfold saddle_Turned_b2
        rw [idx_nat, nth_at (by omega), Option.bind_some, idx_nat, hc, Option.bind_some, chk_t (by simp; omega), Option.bind_some, Option.bind_some, ok_some, flok_nx, wsub_of (by omega) (by omega)]
        refine ⟨by simpa using j1, fun y hy => ?_, ?_, fun y hy hyc => ?_⟩
        · rw [nth_set (by omega), if_neg (by omega)]; exact j2 y hy
        · rw [nth_set (by omega), if_pos rfl]; exact j3.snoc (by omega)
        · rw [nth_set (by omega), if_neg (by omega)]; exact j4 y hy hyc
      · rw [hl] at hl'
        obtain ⟨j1, j2, j3, j4⟩ := hl'
        rw [ok_some, flok_nx]
        refine ⟨j1, fun y hy => ?_, fun y hy hyc => j4 y (by omega) hyc⟩
        by_cases e : y = k
        · rw [e]; exact j3
        · exact j2 y (by omega)
    · obtain ⟨i1, i2, i3⟩ := hl'
      rw [ok_some]
      exact ⟨rfl, ⟨⟨i1, fun y hy => (i2 y hy).len, fun y x hy hx => (i2 y hy).at_ x hx⟩, h.c1, h.c6, h.r1, h.r6, fun y x hy hx => by have := h.val x y hx hy; omega⟩⟩
  obtain ⟨⟨t, e⟩, h1, h2, h3⟩ := this
  simp only at h2 h3
  subst h2
  exact ⟨t, h1, h3⟩
theorem low_turn (r c : Nat) (f : Nat → Nat → Int) : lowS c r (fun y x => - f x y) = - highS r c f ∧ highS c r (fun y x => - f x y) = - lowS r c f := by
  constructor
  · unfold lowS highS
    rw [← mx_neg]
    exact mx_congr fun y _ => mn_neg
  · unfold lowS highS
    rw [← mn_neg]
    exact mn_congr fun y _ => mx_neg
theorem pt_turn {r c : Nat} {f : Nat → Nat → Int} {x y : Nat} : isPt c r (fun y x => - f x y) y x = isPt r c f x y := by
  rw [Bool.eq_iff_iff, isPt_iff, isPt_iff]
  constructor
  · rintro ⟨h1, h2⟩
    exact ⟨fun k hk => by have := h2 k hk; omega, fun k hk => by have := h1 k hk; omega⟩
  · rintro ⟨h1, h2⟩
    exact ⟨fun k hk => by have := h2 k hk; omega, fun k hk => by have := h1 k hk; omega⟩
theorem pts_turn (r c : Nat) (f : Nat → Nat → Int) : (ptsL r (isPt c r (fun y x => - f x y)) c).length = (ptsL c (isPt r c f) r).length := by
  have h1 := @len_ptsL c r (isPt c r (fun y x => - f x y))
  have h2 := @len_ptsL r c (isPt r c f)
  rw [sumN_comm] at h1
  simp only [pt_turn] at h1
  omega
theorem equalRows_ok (a : List (List Int)) : slices_EqualFunc_int_int_int_int_m a a (fun a0 a1 => slices_Equal_int_int_m a0 a1) = some true := by
  apply Ok.eq
  unfold slices_EqualFunc_int_int_int_int_m
  rw [bne_self_eq_false, if_neg (by decide), ok_bindR]
  refine ok_rangeL (fun _ _ => True) trivial (fun i x u hi _ => ?_) fun _ _ => by rw [ok_some]
  unfold slices_EqualFunc_int_int_int_int_b1
  rw [idx_nat, hi, Option.bind_some]
  show Ok ((slices_Equal_int_int_m x x).bind _) _
  rw [equal_ok, Option.bind_some, decide_eq_true rfl, if_neg (by decide), ok_some, flok_nx]
  trivial
theorem SaddleTurned (x0 : List (List Int)) (_ : (∀ r ∈ x0, (∀ x ∈ r, (Lit.int .i64 x).wf = true) ∧ r.length ≤ maxLen) ∧ x0.length ≤ maxLen) : pk_SaddleTurned_m x0 = some true := by
  apply Ok.eq
  unfold pk_SaddleTurned_m
  rw [saddles_t, Option.bind_some, if_neg (by decide)]
  rcases sad_split x0 with ⟨r, c, f, h⟩ | ⟨e, he, hc⟩
  · obtain ⟨t, et, hT⟩ := turned_sad h
    obtain ⟨u, eu, hU⟩ := turned_sad hT
    have hu : u = x0 := (hU.mat.congr fun x y _ _ => by omega).ext h.mat
    subst hu
    obtain ⟨q1, q2⟩ := low_turn r c f
    have b1 : -1000 ≤ highS r c f ∧ highS r c f ≤ 1000 ∧ -1000 ≤ lowS r c f ∧ lowS r c f ≤ 1000 := by
      obtain ⟨x, y, hx, hy, l1, l2, l3, l4⟩ := low_high h
      have := h.val x y hx hy
      have g1 : highS r c f ≤ 1000 := by
        obtain ⟨k, hk, e⟩ := mx_at (g := fun x => f x 0) h.r1 fun q hq => (h.val q 0 hq h.c1).1
        have := mn_le (g := fun y => mxN (fun x => f x y) r) 0 h.c1
        have := h.val k 0 hk h.c1
        unfold highS; (try simp only at *); omega
      have g2 : -1000 ≤ lowS r c f := by
        obtain ⟨k, hk, e⟩ := mn_at (g := fun y => f 0 y) h.c1 fun q hq => (h.val 0 q h.r1 hq).2
        have := mx_ge (g := fun x => mnN (f x) c) 0 h.r1
        have := h.val 0 k h.r1 hk
        unfold lowS
        have e' : mnN (f 0) c = f 0 k := e
        (try simp only at *); omega
      omega
    rw [et, Option.bind_some, if_neg (by simp), eu, Option.bind_some, bounds_ok h, Option.bind_some, bounds_ok hT, Option.bind_some, points_sad h, Option.bind_some, points_sad hT, Option.bind_some]
    have g5 : pk_good_m [0, 0, 0, 0, 0] = some true := by rw [good_at]; rfl
    simp only [g5, Option.bind_some, Bool.not_true, Bool.false_eq_true, if_false, equalRows_ok, q1, q2]
    rw [wsub_of (by omega) (by omega), Int.zero_sub, bne_self_eq_false, if_neg (by decide), wsub_of (by omega) (by omega), Int.zero_sub, bne_self_eq_false, if_neg (by decide), pts_turn, bne_self_eq_false, ok_bindR, ok_some, flok_nx, if_neg (by decide), ok_bindR]
    refine ok_rangeN (fun _ _ => True) trivial (fun i v hi _ => ?_) fun _ _ => by rw [ok_some]
    obtain ⟨x, y, hx, hy, hp, e⟩ := mem_ptsL.1 (nth_mem hi)
    have m1 : [(y : Int), (x : Int)] ∈ ptsL r (isPt c r (fun y x => - f x y)) c := mem_ptsL.2 ⟨y, x, hy, hx, by rw [pt_turn]; exact hp, rfl⟩
    have i0 : idx [(x : Int), (y : Int)] (0 : Int) = some (x : Int) := rfl
    have i1 : idx [(x : Int), (y : Int)] (1 : Int) = some (y : Int) := rfl
    unfold pk_SaddleTurned_b1
    simp only
    rw [idx_nat, nth_at hi, Option.bind_some, e]
    simp only [i0, i1, Option.bind_some, contains_pairs_ok, decide_eq_true m1, Bool.not_true, Bool.false_eq_true, if_false]
    rw [ok_some, flok_nx]; trivial
  · have et : saddle_Turned_m x0 = some ([], e) := by
      unfold saddle_Turned_m; rw [hc, Option.bind_some, if_pos (by simpa using he)]
    rw [et, Option.bind_some, if_pos (by simpa using he), ok_some]; rfl
end Go.Pu
namespace Go.Pu
open Go.Fw Go.Mo
theorem within_at (x : Int) (n : Int) (h0 : 0 < n) (h1 : n ≤ 1000000) : pk_Within_m x n = some (x % n) := by
  have h2 : n ≠ 0 := by omega
  have he : 0 ≤ x % n := Int.emod_nonneg x h2
  have hl : x % n < n := Int.emod_lt_of_pos x h0
  unfold pk_Within_m ref_Rest_m
  simp only [chk, ne_eq, h2, not_false_eq_true, if_true, Option.bind_some]
  by_cases hx : 0 ≤ x
  · have ht : x.tmod n = x % n := Int.tmod_eq_emod_of_nonneg hx
    rw [ht]
    rw [if_neg (by simp; omega)]
    rfl
  · by_cases hd : x.tmod n < 0
    · rw [if_pos (by simpa using hd)]
      simp only [bindR, Option.bind_some]
      have : wadd (x.tmod n) n = x % n := by
        unfold wadd
        rw [IntKind.wrap_i64]
        have ht := Int.tmod_eq_emod (a := x) (b := n)
        have hnd : ¬ n ∣ x := fun hh => by rw [Int.tmod_eq_zero_of_dvd hh] at hd; omega
        simp [hx, hnd] at ht
        omega
      rw [this]
    · rw [if_neg (by simpa using hd)]
      simp only [bindR, Option.bind_some]
      have ht := Int.tmod_eq_emod (a := x) (b := n)
      by_cases hnd : n ∣ x
      · simp [hnd] at ht; rw [ht]
      · simp [hx, hnd] at ht; omega
theorem one_within (x : Int) (c : Nat) (h0 : 0 < c) (h1 : c ≤ 1000000) : ∃ n : Nat, 1 ≤ n ∧ n ≤ c ∧ wadd 1 (x % (c : Int)) = (n : Int) := by
  have a0 := Int.emod_nonneg x (b := (c : Int)) (by omega)
  have a1 := Int.emod_lt_of_pos x (b := (c : Int)) (by omega)
  refine ⟨(1 + x % (c : Int)).toNat, by omega, by omega, ?_⟩
  unfold wadd
  rw [IntKind.wrap_i64]; omega
end Go.Pu
set_option linter.all false
namespace Go.Pu
open Go.Fw Go.Mo
def Bids (l : List Int) : Prop := l.length ≤ 10 ∧ ∀ x ∈ l, 0 ≤ x ∧ x ≤ 1000000
theorem Bids.at {l : List Int} (h : Bids l) {k : Nat} (hk : k < l.length) : 0 ≤ nth l k ∧ nth l k ≤ 1000000 := h.2 _ (nth_mem hk)
theorem bids_check {l : List Int} {r : Int} (h : Bids l) (h0 : 0 ≤ r) (h1 : r ≤ 1000000) : auction_Check_m l r = some 0 := by
  apply Ok.eq
  unfold auction_Check_m
  have hl := h.1
  simp only [ok_ite, ok_some, ok_bindR, decide_eq_true_eq]
  refine ⟨fun _ => by omega, fun _ => ok_rangeL (fun _ _ => True) trivial (fun k x s hk _ => ?_) fun s _ => ?_⟩
  · have := h.2 x (List.mem_of_getElem? hk)
    unfold auction_Check_b1
    simp only [ok_ite, ok_some, ok_bindF, flok_nx, flok_rt, decide_eq_true_eq]
    grind
  · simp only [ok_ite, ok_some, flok_nx, decide_eq_true_eq]
    grind
structure Two (l : List Int) (r b o : Int) : Prop where
  ge : r ≤ o
  all : ∀ k : Nat, k < l.length → (k : Int) ≠ b → nth l k ≤ o
  is : o = r ∨ ∃ k : Nat, k < l.length ∧ (k : Int) ≠ b ∧ o = nth l k
  none : b < 0 → b = -1 ∧ ∀ k : Nat, k < l.length → nth l k < r
  one : 0 ≤ b → b < l.length ∧ r ≤ nth l b.toNat ∧ (∀ k : Nat, k < l.length → nth l k ≤ nth l b.toNat) ∧ (∀ k : Nat, (k : Int) < b → nth l k < nth l b.toNat)
theorem two_ok (l : List Int) (r : Int) : Ok (auction_two_m l r) (fun p => Two l r p.1 p.2) := by
  unfold auction_two_m
  simp only [ok_bindR, ok_some]
  refine ok_rangeL (fun (k : Nat) (b : Int) => (b < 0 → b = -1 ∧ ∀ j : Nat, j < k → nth l j < r) ∧ (0 ≤ b → b < k ∧ r ≤ nth l b.toNat ∧ (∀ j : Nat, j < k → nth l j ≤ nth l b.toNat) ∧ (∀ j : Nat, (j : Int) < b → nth l j < nth l b.toNat))) (by grind) (fun k x b hk hI => ?_) fun b hb => ?_
  · obtain ⟨hx, hkl⟩ := nth_of hk
    unfold auction_two_b1
    simp only [ok_ite, ok_some, ok_bindF, ok_bind, ok_idx, flok_nx, flok_rt, decide_eq_true_eq, Int.toNat_natCast]
    repeat' first | apply And.intro | intro _
    all_goals grind
  · refine ok_rangeL (fun (k : Nat) (o : Int) => r ≤ o ∧ (∀ j : Nat, j < k → (j : Int) ≠ b → nth l j ≤ o) ∧ (o = r ∨ ∃ j : Nat, j < l.length ∧ (j : Int) ≠ b ∧ o = nth l j)) (by grind) (fun k x o hk hI => ?_) fun o ho => ?_
    · obtain ⟨hx, hkl⟩ := nth_of hk
      unfold auction_two_b2
      simp only [ok_ite, ok_some, flok_nx, bne_iff_ne]
      grind
    · exact ⟨ho.1, ho.2.1, ho.2.2, hb.1, hb.2⟩
theorem second_ok {l : List Int} {r : Int} (h : Bids l) (h0 : 0 ≤ r) (h1 : r ≤ 1000000) : ∃ b o, Two l r b o ∧ auction_Second_m l r = some (if b < 0 then (0, 0, 4) else (b, o, 0)) := by
  obtain ⟨⟨b, o⟩, e, h2⟩ := two_ok l r
  refine ⟨b, o, h2, ?_⟩
  unfold auction_Second_m
  rw [bids_check h h0 h1, Option.bind_some, if_neg (by decide), e, Option.bind_some]
  by_cases hb : b < 0
  · simp [hb]
  · simp [hb]
theorem bidsOf_ok (x0 : List Int) (h : x0.length ≤ maxLen) : ∃ l, pk_BidsOf_m x0 = some l ∧ l.length = min 10 x0.length ∧ ∀ x ∈ l, 0 ≤ x ∧ x ≤ 100 := by
  have : Ok (pk_BidsOf_m x0) (fun l => l.length = min 10 x0.length ∧ ∀ x ∈ l, 0 ≤ x ∧ x ≤ 100) := by
    unfold pk_BidsOf_m
    have e : (if (10 : Int) < (x0.length : Int) then (10 : Int) else (x0.length : Int)) = ((min 10 x0.length : Nat) : Int) := by omega
    rw [e, List.drop_zero, Int.toNat_natCast]
    simp only [ok_bind, ok_chk, ok_bindR, ok_some]
    refine ⟨by omega, ok_rangeL (fun k l => l.length = k ∧ ∀ x ∈ l, 0 ≤ x ∧ x ≤ 100) (by simp) (fun k x l hk hI => ?_) fun l hl => ⟨by rw [hl.1, List.length_take]; omega, hl.2⟩⟩
    unfold pk_BidsOf_b1
    have hk' := (List.getElem?_eq_some_iff.1 hk).1
    rw [List.length_take] at hk'
    have a0 := Int.emod_nonneg x (b := 101) (by decide)
    have a1 := Int.emod_lt_of_pos x (b := 101) (by decide)
    rw [within_at x 101 (by decide) (by decide)]
    simp only [ok_bind, ok_chk, ok_some, flok_nx]
    refine ⟨by simp; omega, by simp [hI.1], fun y hy => ?_⟩
    rcases List.mem_append.1 hy with hy | hy
    · exact hI.2 y hy
    · simp at hy; subst hy; omega
  exact this
theorem clone_int {l : List Int} (h : l.length ≤ 68719476736) : slices_Clone_int_int_m l = some l := by
  unfold slices_Clone_int_int_m; rw [chk_t (by omega)]; rfl
theorem auctions_t : pk_auctions_m = some true := by decide +kernel
theorem Two.same {l m : List Int} {r b o b' o' : Int} {i : Nat} (h : Two l r b o) (h' : Two m r b' o') (hl : m.length = l.length) (hs : ∀ k : Nat, k < l.length → k ≠ i → nth m k = nth l k) (hb : b = i) (hb' : b' = i) : o = o' := by
  have h1 := h.all; have h2 := h'.all; have h3 := h.is; have h4 := h'.is; have h5 := h.ge; have h6 := h'.ge
  subst hb hb'
  rcases h3 with h3 | ⟨k, k1, k2, k3⟩ <;> rcases h4 with h4 | ⟨j, j1, j2, j3⟩
  · omega
  · have := h1 j (by omega) j2; have := hs j (by omega) (by omega); omega
  · have := h2 k (by omega) k2; have := hs k (by omega) (by omega); omega
  · have := h1 j (by omega) j2; have := hs j (by omega) (by omega)
    have := h2 k (by omega) k2; have := hs k (by omega) (by omega); omega
end Go.Pu
set_option linter.all false
namespace Go.Pu
open Go.Fw Go.Mo
theorem spoil_ok (l : List Int) (x : Int) : pk_spoil_int_m l x = some (List.replicate l.length x) := rfl
theorem clone_intB {l : List Int} (h : l.length ≤ 17592186043904) : slices_Clone_int_int_m l = some l := by
  unfold slices_Clone_int_int_m; rw [chk_t (by omega)]; rfl
theorem copied_ok {l : List (List Int)} (h : l.length ≤ 5864062014634 ∧ ∀ r ∈ l, r.length ≤ 17592186043904) : pk_copied_m l = some l := by
  apply Ok.eq
  unfold pk_copied_m
  rw [ok_bindR]
  refine ok_rangeL (fun k s => s = l.take k) rfl (fun k x s hk hI => ?_) fun s hs => by rw [ok_some, hs, List.take_length]
  subst hI
  have hkl := (List.getElem?_eq_some_iff.1 hk).1
  have hx := h.2 x (List.mem_of_getElem? hk)
  unfold pk_copied_b1
  rw [clone_intB (by omega), Option.bind_some, chk_t (by rw [List.length_take]; simp only [List.length_cons, List.length_nil]; omega), Option.bind_some, ok_some, flok_nx, List.take_succ, hk]; rfl
theorem sameRows_ok (a : List (List Int)) : pk_sameRows_m a a = some true := by
  unfold pk_sameRows_m
  rw [equalRows_ok]; rfl
/-- each row spoiled by its own number -/
def spoiled (c : Nat → Int) (l : List (List Int)) : List (List Int) := l.mapIdx fun i r => List.replicate r.length (c i)
theorem spoil_rows {ρ γ : Type} {b : Nat → List (List Int) → Option (Fl ρ (List (List Int)) (List (List Int)))} (c : Nat → Int) (hb : ∀ (i : Nat) (l : List (List Int)), b i l = (idx l (i : Int)).bind fun y => (pk_spoil_int_m y (c i)).bind fun z => some (.nx (List.set l i z))) (l : List (List Int)) :
    rangeN (γ := γ) b l.length 0 l = some (.nx (spoiled c l)) := by
  obtain ⟨s, e, h1, h2⟩ := rangeN_inv (γ := γ) (body := b) (fun i s => s.length = l.length ∧ ∀ j : Nat, s[j]? = if j < i then (l[j]?).map (fun r => List.replicate r.length (c j)) else l[j]?) l.length 0 l ⟨rfl, fun j => by rw [if_neg (by omega)]⟩ (fun k s hk ⟨h1, h2⟩ => by
    rw [Nat.zero_add] at h2 ⊢
    have hks : k < s.length := by omega
    have e1 : s[k]? = some l[k] := by rw [h2 k, if_neg (by omega), List.getElem?_eq_getElem hk]
    rw [hb, idx_nat, e1]
    refine ⟨_, rfl, by rw [List.length_set]; exact h1, fun j => ?_⟩
    by_cases hj : j = k
    · subst hj
      rw [List.getElem?_set_self hks, if_pos (by omega), List.getElem?_eq_getElem hk]; rfl
    · rw [List.getElem?_set_ne (Ne.symm hj), h2 j]
      by_cases h3 : j < k
      · rw [if_pos h3, if_pos (by omega)]
      · rw [if_neg h3, if_neg (by omega)])
  rw [e]
  congr 2
  unfold spoiled
  apply List.ext_getElem?
  intro j
  rw [h2 j, List.getElem?_mapIdx]
  by_cases hj : j < l.length
  · rw [if_pos (by omega)]
  · rw [if_neg (by omega), List.getElem?_eq_none (by omega)]; rfl
end Go.Pu
set_option linter.all false
namespace Go.Pu
open Go.Fw Go.Mo
/-- the sides 0 .. n-1, each once -/
structure Ord (n : Nat) (p : List Int) : Prop where
  len : p.length = n
  mem : ∀ x : Int, x ∈ p ↔ 0 ≤ x ∧ x < n
  nd : p.Nodup
def sides (n : Nat) : List Int := (List.range n).map (fun (k : Nat) => (k : Int))
theorem sides_ord (n : Nat) : Ord n (sides n) := by
  refine ⟨by simp [sides], fun x => ?_, ?_⟩
  · simp only [sides, List.mem_map, List.mem_range]
    constructor
    · rintro ⟨k, hk, rfl⟩; omega
    · intro h; exact ⟨x.toNat, by omega, by omega⟩
  · unfold sides List.Nodup
    rw [List.pairwise_map]
    exact (List.nodup_range (n := n)).imp fun h => by omega
theorem Ord.perm {n : Nat} {p q : List Int} (h : Ord n p) (e : q.Perm p) : Ord n q := ⟨by rw [e.length_eq, h.len], fun x => by rw [e.mem_iff, h.mem], e.nodup_iff.2 h.nd⟩
theorem sides_at (n : Nat) (h : n ≤ 1000) : ref_Sides_m (n : Int) = some (sides n) := by
  apply Ok.eq
  unfold ref_Sides_m
  simp only [ok_bind, ok_chk, ok_bindR, ok_some, Int.toNat_natCast]
  refine ⟨by omega, ok_rangeN (fun k s => s = sides k) rfl (fun k s hk hs => ?_) fun s hs => hs⟩
  subst hs
  unfold ref_Sides_b1
  simp only [ok_bind, ok_chk, ok_some, flok_nx]
  refine ⟨by have := (sides_ord k).len; simp; omega, ?_⟩
  simp [sides, List.range_succ]
theorem orderOf_ok (n : Nat) (l : List Int) (h0 : 1 ≤ n) (h : n ≤ 1000) : ∃ p, pk_OrderOf_m (n : Int) l = some p ∧ Ord n p := by
  have : Ok (pk_OrderOf_m (n : Int) l) (Ord n) := by
    unfold pk_OrderOf_m
    rw [sides_at n h]
    simp only [ok_bind, ok_chk, ok_bindR, ok_some, Int.toNat_natCast]
    refine ⟨by omega, ok_rangeN (fun k s => s.2.length = k ∧ (s.2 ++ s.1).Perm (sides n)) ⟨rfl, by simp⟩ (fun k s hk hs => ?_) fun s hs => ?_⟩
    · obtain ⟨left, out⟩ := s
      obtain ⟨h1, h2⟩ := hs
      simp only at h1 h2
      have hlen : out.length + left.length = n := by have := h2.length_eq; rw [List.length_append] at this; rw [this, (sides_ord n).len]
      unfold pk_OrderOf_b1
      simp only
      have step : ∀ (B : (List Int) × (List Int) → Prop) (R : List Int → Prop) (j : Int), 0 ≤ j → j < (left.length : Int) → Ok (chk (out.length + [nth left j.toNat].length ≤ 68719476736)) fun _ => Ok (slices_Delete_int_int_m left j (wadd j 1)) fun v =>
          FlOk (ρ := List Int) (β := (List Int) × (List Int)) (σ := (List Int) × (List Int)) (fun s => s.2.length = k + 1 ∧ (s.2 ++ s.1).Perm (sides n)) B R (.nx (v, out ++ [nth left j.toNat])) := by
        intro B R j hj0 hj
        rw [wadd_of (by omega) (by omega)]
        unfold slices_Delete_int_int_m
        simp only [ok_bind, ok_chk, ok_some, flok_nx]
        have e1 : (j + 1).toNat = j.toNat + 1 := by omega
        have hjl : j.toNat < left.length := by omega
        rw [e1, nth_get hjl]
        refine ⟨by simp; omega, by omega, by simp [h1], ?_⟩
        refine List.Perm.trans ?_ h2
        rw [List.append_assoc]
        refine List.Perm.append_left out ?_
        have e2 : left = left.take j.toNat ++ left[j.toNat] :: left.drop (j.toNat + 1) := by simp
        conv => rhs; rw [e2]
        exact (List.perm_middle (a := left[j.toNat]) (l₁ := left.take j.toNat) (l₂ := left.drop (j.toNat + 1))).symm
      simp only [ok_bindF, ok_ite, ok_some, ok_bind, ok_idx, decide_eq_true_eq, Int.toNat_natCast]
      refine ⟨fun hl => ⟨by omega, by omega, ?_⟩, fun _ => ?_⟩
      · rw [within_at _ _ (by omega) (by omega), ok_some, flok_nx]
        have a0 := Int.emod_nonneg (nth l k) (b := (left.length : Int)) (by omega)
        have a1 := Int.emod_lt_of_pos (nth l k) (b := (left.length : Int)) (by omega)
        exact ⟨a0, a1, step _ _ _ a0 a1⟩
      · rw [flok_nx]
        exact ⟨by omega, by omega, step _ _ _ (by omega) (by omega)⟩
    · obtain ⟨left, out⟩ := s
      obtain ⟨h1, h2⟩ := hs
      simp only at h1 h2
      have hlen : out.length + left.length = n := by have := h2.length_eq; rw [List.length_append] at this; rw [this, (sides_ord n).len]
      have : left = [] := List.eq_nil_of_length_eq_zero (by omega)
      subst this
      rw [List.append_nil] at h2
      simp only [ok_some]
      exact (sides_ord n).perm h2
  exact this
theorem order_check {n : Nat} {p : List Int} (h0 : 1 ≤ n) (h6 : n ≤ 6) (h : Ord n p) : order_Check_m (n : Int) p = some 0 := by
  apply Ok.eq
  unfold order_Check_m
  have hl := h.len
  simp only [ok_bindR, ok_ite, ok_some, flok_nx, decide_eq_true_eq]
  refine ⟨fun _ => by omega, fun _ => ⟨fun _ => by omega, fun _ => ?_⟩⟩
  refine ok_rangeL (fun k s => s.length = 6 ∧ ∀ x : Nat, x < n → nth s x = true → (x : Int) ∈ p.take k) ⟨by simp, fun x hx ht => by rw [nth_replicate (by omega)] at ht; cases ht⟩ (fun k x s hk hI => ?_) fun s _ => ?_
  · obtain ⟨h1, h2⟩ := hI
    have hkl := (List.getElem?_eq_some_iff.1 hk).1
    have hx := (h.mem x).1 (List.mem_of_getElem? hk)
    obtain ⟨j, rfl⟩ : ∃ j : Nat, x = j := ⟨x.toNat, by omega⟩
    unfold order_Check_b1
    have hj : nth s j = false := by
      cases hb : nth s j with
      | false => rfl
      | true =>
        have := h2 j (by omega) hb
        obtain ⟨i, hi, he⟩ := List.getElem_of_mem this
        rw [List.length_take] at hi
        rw [List.getElem_take] at he
        have hi' : i < p.length := by omega
        have := (List.getElem?_inj (j := k) hi' h.nd).1 (by rw [hk, List.getElem?_eq_getElem hi', he])
        omega
    have e1 : idx s (j : Int) = some false := by rw [idx_nat, nth_at (by omega), hj]
    simp only [ok_bindF, ok_ite, ok_some, ok_bind, flok_nx, flok_rt, decide_eq_true_eq, e1, Int.toNat_natCast]
    have e2 : nth (s.set j true) j = true := by rw [nth_set (by omega), if_pos rfl]
    have fin : (s.set j true).length = 6 ∧ ∀ x : Nat, x < n → nth (s.set j true) x = true → (x : Int) ∈ p.take (k + 1) := by
      refine ⟨by simpa using h1, fun x hx hxt => ?_⟩
      rw [List.take_succ_eq_append_getElem hkl, List.mem_append]
      by_cases hxj : x = j
      · subst hxj; right; simp [(List.getElem?_eq_some_iff.1 hk).2]
      · left; rw [nth_set (by omega), if_neg hxj] at hxt; exact h2 x hx hxt
    refine ⟨fun _ => by omega, fun _ => ⟨fun _ => by omega, fun _ => ⟨by simp, fun _ => fin⟩⟩⟩
  · simp only [ok_ite, ok_some, bne_iff_ne]
    exact ⟨fun hh => absurd (by omega) hh, fun _ => by trivial⟩
/-- a stands ahead of b -/
def bf (p : List Int) (a b : Nat) : Bool := decide (p.idxOf (a : Int) < p.idxOf (b : Int))
theorem Ord.idx {n : Nat} {p : List Int} (h : Ord n p) {k : Nat} (hk : k < n) : p.idxOf (nth p k) = k := by
  have hk' : k < p.length := by rw [h.len]; exact hk
  rw [nth_get hk']; exact h.nd.idxOf_getElem k hk'
theorem Ord.val {n : Nat} {p : List Int} (h : Ord n p) {k : Nat} (hk : k < n) : 0 ≤ nth p k ∧ nth p k < n := (h.mem _).1 (nth_mem (by rw [h.len]; exact hk))
theorem Ord.idx_lt {n : Nat} {p : List Int} (h : Ord n p) {x : Nat} (hx : x < n) : p.idxOf (x : Int) < n := by
  have : (x : Int) ∈ p := (h.mem _).2 ⟨by omega, by omega⟩
  have := List.idxOf_lt_length_of_mem this
  rw [h.len] at this; exact this
theorem Ord.at_idx {n : Nat} {p : List Int} (h : Ord n p) {x : Nat} (hx : x < n) : nth p (p.idxOf (x : Int)) = x := by
  have hl := h.idx_lt hx
  rw [nth_get (by rw [h.len]; exact hl)]
  exact List.getElem_idxOf _
theorem Ord.idx_inj {n : Nat} {p : List Int} (h : Ord n p) {x y : Nat} (hx : x < n) (hy : y < n) (e : p.idxOf (x : Int) = p.idxOf (y : Int)) : x = y := by
  have h1 := h.at_idx hx
  have h2 := h.at_idx hy
  rw [e, h2] at h1; omega
theorem bf_or {n : Nat} {p : List Int} (h : Ord n p) {a b : Nat} (ha : a < n) (hb : b < n) (hab : a ≠ b) : bf p a b = !bf p b a := by
  unfold bf
  have := fun e => hab (h.idx_inj ha hb e)
  rcases Nat.lt_or_gt_of_ne this with h1 | h1
  · rw [decide_eq_true h1, decide_eq_false (by omega)]; rfl
  · rw [decide_eq_false (by omega), decide_eq_true h1]; rfl
theorem bf_self (p : List Int) (a : Nat) : bf p a a = false := by simp [bf]
end Go.Pu
set_option linter.all false
namespace Go.Pu
open Go.Fw Go.Mo
theorem nodup_len' {n : Nat} {l : List Int} (hn : l.Nodup) (hb : ∀ x ∈ l, 0 ≤ x ∧ x < n) : l.length ≤ n := by
  have h : (l.map Int.toNat).Nodup := by
    unfold List.Nodup
    rw [List.pairwise_map]
    exact hn.imp_of_mem fun ha hb' hne => by have := hb _ ha; have := hb _ hb'; omega
  have := List.Nodup.length_le_of_subset h (l₂ := List.range n) (fun x hx => by
    obtain ⟨y, hy, rfl⟩ := List.mem_map.1 hx
    have := hb y hy
    exact List.mem_range.2 (by omega))
  simpa using this
theorem ord_of {n : Nat} {p : List Int} (hl : p.length = n) (hn : p.Nodup) (hb : ∀ x ∈ p, 0 ≤ x ∧ x < n) : Ord n p := by
  refine ⟨hl, fun x => ⟨hb x, fun hx => ?_⟩, hn⟩
  apply Decidable.byContradiction
  intro hm
  have := nodup_len' (n := n) (l := x :: p) (List.nodup_cons.2 ⟨hm, hn⟩) (fun y hy => by
    rcases List.mem_cons.1 hy with rfl | hy
    · exact hx
    · exact hb y hy)
  rw [List.length_cons] at this
  omega
theorem order_any (x0 : Int) (p : List Int) : Ok (order_Check_m x0 p) (fun e => e = 0 → ∃ n : Nat, x0 = (n : Int) ∧ 1 ≤ n ∧ n ≤ 6 ∧ Ord n p) := by
  unfold order_Check_m
  by_cases h1 : x0 < 1
  · rw [if_pos (by simpa using h1), ok_bindR, ok_some, flok_nx, if_pos rfl, ok_some]; intro h; exact absurd h (by decide)
  rw [if_neg (by simpa using h1), ok_bindR, ok_some, flok_nx]
  by_cases h6 : x0 > 6
  · rw [if_pos (by simpa using h6), ok_some]; intro h; exact absurd h (by decide)
  rw [if_neg (by simpa using h6), ok_bindR]
  obtain ⟨n, rfl⟩ : ∃ n : Nat, x0 = (n : Int) := ⟨x0.toNat, by omega⟩
  refine ok_rangeL (fun k s => s.length = 6 ∧ (∀ x ∈ p.take k, 0 ≤ x ∧ x < n) ∧ (p.take k).Nodup ∧ ∀ x ∈ p.take k, nth s x.toNat = true) ⟨by simp, by simp, by simp, by simp⟩ (fun k x s hk hI => ?_) fun s hs => ?_
  · obtain ⟨i1, i2, i3, i4⟩ := hI
    have hkl := (List.getElem?_eq_some_iff.1 hk).1
    have htk : p.take (k + 1) = p.take k ++ [x] := by rw [List.take_succ, hk]; rfl
    unfold order_Check_b1
    by_cases c1 : x < 0
    · rw [if_pos (by simpa using c1), ok_bindF, ok_some, flok_nx, if_pos rfl, ok_some, flok_rt]; intro h; exact absurd h (by decide)
    rw [if_neg (by simpa using c1)]
    by_cases c2 : x ≥ n
    · rw [if_pos (by simpa using c2), ok_bindF, ok_some, flok_nx, if_pos rfl, ok_some, flok_rt]; intro h; exact absurd h (by decide)
    rw [if_neg (by simpa using c2)]
    obtain ⟨j, rfl⟩ : ∃ j : Nat, x = (j : Int) := ⟨x.toNat, by omega⟩
    rw [idx_nat, nth_at (by omega), Option.bind_some, ok_bindF, ok_some, flok_nx]
    cases hb : nth s j with
    | true => rw [if_pos rfl, ok_some, flok_rt]; intro h; exact absurd h (by decide)
    | false =>
      rw [if_neg (by simp), Option.bind_some, ok_some, flok_nx, Int.toNat_natCast, htk]
      refine ⟨by simpa using i1, fun y hy => ?_, ?_, fun y hy => ?_⟩
      · rcases List.mem_append.1 hy with hy | hy
        · exact i2 y hy
        · rw [List.mem_singleton] at hy; omega
      · rw [List.nodup_append]
        refine ⟨i3, by simp, fun a ha b hb' e => ?_⟩
        rw [List.mem_singleton] at hb'
        subst hb'
        have := i4 a ha
        rw [e, Int.toNat_natCast, hb] at this
        cases this
      · rw [nth_set (by omega)]
        split
        · rfl
        · rename_i hne
          rcases List.mem_append.1 hy with hy | hy
          · exact i4 y hy
          · rw [List.mem_singleton] at hy; subst hy; exact absurd (Int.toNat_natCast j) hne
  · rw [List.take_length] at hs
    by_cases hl : (p.length : Int) = n
    · rw [if_neg (by rw [bne_iff_ne]; omega), ok_some]
      exact fun _ => ⟨n, rfl, by omega, by omega, ord_of (by omega) hs.2.2.1 hs.2.1⟩
    · rw [if_pos (by rw [bne_iff_ne]; exact hl), ok_some]; intro h; exact absurd h (by decide)
end Go.Pu
set_option linter.all false
namespace Go.Pu
open Go.Fw
abbrev LC := List (Int × Nat)
def LC.ev (L : LC) (v : Nat → Int) : Int := match L with | [] => 0 | p :: r => p.1 * v p.2 + LC.ev r v
def LC.cf (L : LC) (s : Nat) : Int := match L with | [] => 0 | p :: r => (if p.2 = s then p.1 else 0) + LC.cf r s
theorem LC.ev_append (L M : LC) (v : Nat → Int) : LC.ev (L ++ M) v = LC.ev L v + LC.ev M v := by
  induction L with
  | nil => simp [LC.ev]
  | cons p L ih => simp only [List.cons_append, LC.ev, ih]; omega
theorem LC.ev_cf {N : Nat} (v : Nat → Int) : ∀ (L : LC), (∀ p ∈ L, p.2 < N) → LC.ev L v = sumN N (fun s => LC.cf L s * v s)
  | [], _ => by simp only [LC.ev, LC.cf, Int.zero_mul, sumN_zero]
  | p :: L, h => by
    have ih := LC.ev_cf v L fun q hq => h q (by simp [hq])
    simp only [LC.ev, LC.cf]
    rw [ih]
    have : sumN N (fun s => ((if p.2 = s then p.1 else 0) + LC.cf L s) * v s) = sumN N (fun s => (if s = p.2 then p.1 * v p.2 else 0) + LC.cf L s * v s) := sumN_congr fun s _ => by
      by_cases hs : p.2 = s
      · subst hs; rw [if_pos rfl, if_pos rfl, Int.add_mul]
      · rw [if_neg hs, if_neg (Ne.symm hs), Int.add_mul, Int.zero_mul]
    rw [this, sumN_add, sumN_single (h p (by simp))]
/-- the same parts -/
def LC.same (N : Nat) (L M : LC) : Bool := L.all (fun p => decide (p.2 < N)) && M.all (fun p => decide (p.2 < N)) && (List.range N).all fun s => decide (LC.cf L s = LC.cf M s)
theorem LC.same_ev {N : Nat} {L M : LC} (h : LC.same N L M = true) (v : Nat → Int) : LC.ev L v = LC.ev M v := by
  simp only [LC.same, Bool.and_eq_true, List.all_eq_true, decide_eq_true_eq, List.mem_range] at h
  rw [LC.ev_cf v L h.1.1, LC.ev_cf v M h.1.2]
  exact sumN_congr fun s hs => by rw [h.2 s hs]
theorem LC.ev_add (L : LC) (v w : Nat → Int) : LC.ev L (fun s => v s + w s) = LC.ev L v + LC.ev L w := by
  induction L with
  | nil => simp [LC.ev]
  | cons p L ih => simp only [LC.ev]; rw [ih, Int.mul_add]; omega
theorem LC.ev_congr {L : LC} {N : Nat} {v w : Nat → Int} (h : ∀ p ∈ L, p.2 < N) (e : ∀ s, s < N → v s = w s) : LC.ev L v = LC.ev L w := by
  induction L with
  | nil => rfl
  | cons p L ih => simp only [LC.ev]; rw [ih fun q hq => h q (by simp [hq]), e _ (h p (by simp))]
def LC.neg (L : LC) : LC := L.map fun p => (-p.1, p.2)
theorem LC.ev_neg (L : LC) (v : Nat → Int) : LC.ev (LC.neg L) v = - LC.ev L v := by
  induction L with
  | nil => simp [LC.ev, LC.neg]
  | cons p L ih => simp only [LC.neg, List.map_cons, LC.ev] at ih ⊢; rw [ih, Int.neg_mul]; omega
/-- sets below N, each a combination -/
def LC.all (f : Nat → LC) : Nat → LC
  | 0 => []
  | n + 1 => LC.all f n ++ f n
theorem LC.ev_all (f : Nat → LC) (v : Nat → Int) (n : Nat) : LC.ev (LC.all f n) v = sumN n (fun s => LC.ev (f s) v) := by
  induction n with
  | zero => rfl
  | succ n ih => simp only [LC.all, LC.ev_append, sumN, ih]
end Go.Pu
set_option linter.all false
namespace Go.Pu
open Go.Fw
def has (s i : Nat) : Bool := s / 2 ^ i % 2 == 1
def pc (s : Nat) : Nat := (List.range 6).foldl (fun c i => if has s i then c + 1 else c) 0
def fct : Nat → Int | 0 => 1 | n + 1 => (n + 1 : Int) * fct n
theorem bit_ok : ∀ s : Nat, s < 64 → ∀ i : Nat, i < 6 → bits .and .i64 (Int.fdiv (s : Int) (2 ^ (min (i : Int).toNat (IntKind.bits .i64)))) (1 : Int) = if has s i then 1 else 0 := by decide +kernel
theorem or_ok : ∀ s : Nat, s < 64 → ∀ i : Nat, i < 6 → has s i = false → bits .or .i64 (s : Int) (IntKind.wrap .i64 ((1 : Int) * 2 ^ (min (i : Int).toNat (IntKind.bits .i64)))) = ((s + 2 ^ i : Nat) : Int) := by decide +kernel
theorem pow_ok : ∀ n : Nat, n < 7 → IntKind.wrap .i64 ((1 : Int) * 2 ^ (min (n : Int).toNat (IntKind.bits .i64))) = ((2 ^ n : Nat) : Int) := by decide +kernel
theorem with_lt : ∀ n : Nat, n < 7 → ∀ s : Nat, s < 2 ^ n → ∀ i : Nat, i < n → has s i = false → s + 2 ^ i < 2 ^ n := by decide +kernel
theorem with_has : ∀ s : Nat, s < 64 → ∀ i : Nat, i < 6 → has s i = false → ∀ j, j < 6 → has (s + 2 ^ i) j = (has s j || j == i) := by decide +kernel
theorem pc_le : ∀ n : Nat, n < 7 → ∀ s : Nat, s < 2 ^ n → pc s ≤ n := by decide +kernel
theorem pc_lt : ∀ n : Nat, n < 7 → ∀ s : Nat, s < 2 ^ n → ∀ i : Nat, i < n → has s i = false → pc s < n := by decide +kernel
theorem pow_le : ∀ n : Nat, n < 7 → 2 ^ n ≤ 64 := by decide
theorem pow_pos' : ∀ n : Nat, 0 < 2 ^ n := fun n => Nat.two_pow_pos n
end Go.Pu
set_option linter.all false
namespace Go.Pu
open Go.Fw Go.Mo
theorem cross_lt {pi pb pk Di Db Dk : Int} (h0 : 0 < Db) (h1 : 0 < Dk) (h2 : 0 < Di) (a : pi * Db ≤ pb * Di) (b : pb * Dk < pk * Db) : pi * Dk < pk * Di := by
  have e1 : pi * Db * Dk ≤ pb * Di * Dk := Int.mul_le_mul_of_nonneg_right a (by omega)
  have e2 : pb * Dk * Di < pk * Db * Di := Int.mul_lt_mul_of_pos_right b h2
  have e3 : pi * Dk * Db < pk * Di * Db := by grind
  exact Int.lt_of_mul_lt_mul_right e3 (by omega)
def psum (l : List Int) : Int := l.sum
structure People (p : List Int) : Prop where
  n1 : 1 ≤ p.length
  n8 : p.length ≤ 8
  val : ∀ k, k < p.length → 0 ≤ nth p k ∧ nth p k ≤ 1000000
  pos : 0 < p.sum
theorem sum_take_succ {l : List Int} {k : Nat} (h : k < l.length) : (l.take (k + 1)).sum = (l.take k).sum + nth l k := by
  rw [List.take_succ_eq_append_getElem h, List.sum_append, nth_get h]; simp
theorem psum_bound {p : List Int} (h : ∀ k, k < p.length → 0 ≤ nth p k ∧ nth p k ≤ 1000000) : ∀ k, k ≤ p.length → 0 ≤ (p.take k).sum ∧ (p.take k).sum ≤ 1000000 * k := by
  intro k
  induction k with
  | zero => simp
  | succ k ih =>
    intro hk
    have := ih (by omega)
    have := h k (by omega)
    rw [sum_take_succ (by omega)]
    omega
theorem seats_check {p : List Int} {h : Int} (hp : People p) (h0 : 0 ≤ h) (h1 : h ≤ 100) : seats_Check_m p h = some 0 := by
  apply Ok.eq
  have := hp.n1; have := hp.n8; have hpos := hp.pos
  unfold seats_Check_m
  simp only [ok_bindR, ok_ite, ok_some, flok_nx, decide_eq_true_eq]
  refine ⟨fun _ => by omega, fun _ => ⟨fun _ => by omega, fun _ => ?_⟩⟩
  refine ok_rangeL (s := (0 : Int)) (fun (k : Nat) (s : Int) => s = (p.take k).sum) (by simp) (fun k x s hk hs => ?_) fun s hs => ?_
  · obtain ⟨hx, hkl⟩ := nth_of hk
    have v := hp.val k hkl
    have b := psum_bound hp.val k (by omega)
    subst hs
    unfold seats_Check_b1
    simp only [ok_bindF, ok_ite, ok_some, flok_nx, flok_rt, decide_eq_true_eq]
    rw [sum_take_succ hkl, wadd_of (by omega) (by omega), hx]
    grind
  · rw [List.take_length] at hs
    subst hs
    simp only [flok_nx, ok_ite, ok_some, ok_bindR, beq_iff_eq, decide_eq_true_eq]
    grind
/-- the first of those with the greatest quotient -/
structure Best (p a : List Int) (w : Int) (b : Nat) : Prop where
  lt : b < p.length
  le : ∀ i, i < p.length → nth p i * (w * nth a b + 1) ≤ nth p b * (w * nth a i + 1)
  fst : ∀ i, i < b → nth p i * (w * nth a b + 1) < nth p b * (w * nth a i + 1)
theorem Best.one {p a : List Int} {w : Int} {b c : Nat} (hb : Best p a w b) (hc : Best p a w c) : b = c := by
  rcases Nat.lt_trichotomy b c with h | h | h
  · have := hc.fst b h; have := hb.le c hc.lt; omega
  · exact h
  · have := hb.fst c h; have := hc.le b hb.lt; omega
inductive Div (p : List Int) (w : Int) : Nat → List Int → Prop
  | nil : Div p w 0 (List.replicate p.length 0)
  | seat {h a b} : Div p w h a → Best p a w b → Div p w (h + 1) (a.set b (nth a b + 1))
theorem Div.len {p a : List Int} {w : Int} {h : Nat} (d : Div p w h a) : a.length = p.length := by
  induction d with
  | nil => simp
  | seat _ _ ih => simpa using ih
theorem Div.one {p a : List Int} {w : Int} {h : Nat} (d : Div p w h a) : ∀ {c}, Div p w h c → a = c := by
  induction d with
  | nil => intro c d; cases d; rfl
  | seat d1 hb ih =>
    intro c d
    cases d with
    | seat d2 hc =>
      obtain rfl := ih d2
      obtain rfl := hb.one hc
      rfl
theorem sum_set {l : List Int} {b : Nat} {v : Int} (h : b < l.length) : (l.set b v).sum = l.sum - nth l b + v := by
  induction l generalizing b with
  | nil => simp at h
  | cons x l ih =>
    cases b with
    | zero => simp [nth_cons_zero]; omega
    | succ b => simp only [List.set_cons_succ, List.sum_cons, nth_cons_succ]; rw [ih (by simpa using h)]; omega
theorem Div.val {p a : List Int} {w : Int} {h : Nat} (d : Div p w h a) : ∀ i, i < p.length → 0 ≤ nth a i ∧ nth a i ≤ h := by
  induction d with
  | nil => intro i hi; rw [nth_replicate hi]; simp
  | @seat h a b d1 hb ih =>
    intro i hi
    have := ih i hi
    have := ih b hb.lt
    rw [nth_set (by rw [d1.len]; exact hb.lt)]
    split <;> omega
theorem Div.sum {p a : List Int} {w : Int} {h : Nat} (d : Div p w h a) : a.sum = h := by
  induction d with
  | nil => simp
  | @seat h a b d1 hb ih => rw [sum_set (by rw [d1.len]; exact hb.lt), ih]; omega
/-- whoever has a seat had it for a quotient that nobody's next one is above; of equal ones he is the first -/
theorem Div.fair {p a : List Int} {w : Int} {h : Nat} (hw : 0 ≤ w) (hp : ∀ k, k < p.length → 0 ≤ nth p k) (d : Div p w h a) : ∀ i k, i < p.length → k < p.length → 0 < nth a i →
    nth p k * (w * (nth a i - 1) + 1) < nth p i * (w * nth a k + 1) ∨ (nth p k * (w * (nth a i - 1) + 1) = nth p i * (w * nth a k + 1) ∧ i ≤ k) ∨ i = k := by
  induction d with
  | nil => intro i k hi hk h; rw [nth_replicate hi] at h; omega
  | @seat h a b d1 hb ih =>
    intro i k hi hk hpos
    have hbl : b < a.length := by rw [d1.len]; exact hb.lt
    rw [nth_set hbl] at hpos
    rw [nth_set hbl, nth_set hbl]
    by_cases hik : i = k
    · exact .inr (.inr hik)
    by_cases hib : i = b
    · subst hib
      rw [if_pos rfl, if_neg (Ne.symm hik)]
      rw [show nth a i + 1 - 1 = nth a i by omega]
      rcases Nat.lt_or_ge k i with hlt | hge
      · exact .inl (hb.fst k hlt)
      · have := hb.le k hk
        rcases Int.lt_or_eq_of_le this with h | h
        · exact .inl h
        · exact .inr (.inl ⟨h, hge⟩)
    · rw [if_neg hib] at hpos ⊢
      have hfair := ih i k hi hk hpos
      by_cases hkb : k = b
      · subst hkb
        rw [if_pos rfl]
        have e : nth p i * (w * (nth a k + 1) + 1) = nth p i * (w * nth a k + 1) + nth p i * w := by grind
        have hnn := Int.mul_nonneg (hp i hi) hw
        rcases hfair with h | ⟨h, h'⟩ | h
        · left; omega
        · by_cases hz : nth p i * w = 0
          · right; left; exact ⟨by omega, h'⟩
          · left; omega
        · exact absurd h hik
      · rw [if_neg hkb]; exact hfair
theorem divided_ok {p : List Int} (hp : People p) {h : Nat} (hh : h ≤ 100) {w : Int} (hw0 : 1 ≤ w) (hw : w ≤ 2) : ∃ a, seats_divided_m p (h : Int) w = some a ∧ Div p w h a := by
  have : Ok (seats_divided_m p (h : Int) w) (fun a => Div p w h a) := by
    have n1 := hp.n1; have n8 := hp.n8
    unfold seats_divided_m
    simp only [ok_bind, ok_chk, ok_bindR, ok_some, Int.toNat_natCast]
    refine ⟨by omega, by omega, ok_rangeN (fun k a => Div p w k a) .nil (fun k a hk hd => ?_) fun a ha => ha⟩
    have hlen := hd.len
    have hv := hd.val
    have D : ∀ i, i < p.length → 1 ≤ w * nth a i + 1 ∧ w * nth a i + 1 ≤ 201 := fun i hi => by
      have := hv i hi
      have : w = 1 ∨ w = 2 := by omega
      rcases this with rfl | rfl <;> omega
    have W : ∀ i, i < p.length → wadd (wmul w (nth a i)) 1 = w * nth a i + 1 := fun i hi => by
      have := D i hi
      rw [wmul_of (by omega) (by omega), wadd_of (by omega) (by omega)]
    have M : ∀ i j, i < p.length → j < p.length → wmul (nth p i) (w * nth a j + 1) = nth p i * (w * nth a j + 1) := fun i j hi hj => by
      have := D j hj
      have v := hp.val i hi
      have h1 : 0 ≤ nth p i * (w * nth a j + 1) := Int.mul_nonneg v.1 (by omega)
      have h2 : nth p i * (w * nth a j + 1) ≤ 1000000 * 201 := Int.mul_le_mul v.2 (by omega) (by omega) (by omega)
      rw [wmul_of (by omega) (by omega)]
    unfold seats_divided_b1
    simp only [ok_bindF]
    refine ok_rangeL (s := (0 : Int)) (fun (j : Nat) (b : Int) => 0 ≤ b ∧ b < p.length ∧ (∀ i, i < j → nth p i * (w * nth a b.toNat + 1) ≤ nth p b.toNat * (w * nth a i + 1)) ∧ (∀ i : Nat, (i : Int) < b → nth p i * (w * nth a b.toNat + 1) < nth p b.toNat * (w * nth a i + 1))) ⟨by omega, by omega, by intro i hi; omega, by intro i hi; omega⟩ (fun j x b hj hb => ?_) fun b hb => ?_
    · obtain ⟨hx, hjl⟩ := nth_of hj
      subst hx
      obtain ⟨b0, b1, b2, b3⟩ := hb
      obtain ⟨b, rfl⟩ : ∃ c : Nat, b = c := ⟨b.toNat, by omega⟩
      rw [Int.toNat_natCast] at b2 b3
      have hbl : b < p.length := by omega
      unfold seats_divided_b2
      simp only [idx_nat, nth_at (show b < a.length by omega), nth_at hbl, nth_at (show j < a.length by omega), Option.bind_some, W b hbl, W j hjl, M j b hjl hbl, M b j hbl hjl, ok_ite, ok_some, flok_nx, decide_eq_true_eq, Int.toNat_natCast]
      refine ⟨fun hgt => ⟨by omega, by omega, fun i hi => ?_, fun i hi => ?_⟩, fun hle => ⟨by omega, by omega, fun i hi => ?_, fun i hi => b3 i hi⟩⟩
      · by_cases hij : i = j
        · subst hij; exact Int.le_refl _
        · exact Int.le_of_lt (cross_lt (by have := D b hbl; omega) (by have := D j hjl; omega) (by have := D i (by omega); omega) (b2 i (by omega)) hgt)
      · exact cross_lt (by have := D b hbl; omega) (by have := D j hjl; omega) (by have := D i (by omega); omega) (b2 i (by omega)) hgt
      · by_cases hij : i = j
        · subst hij; omega
        · exact b2 i (by omega)
    · obtain ⟨b0, b1, b2, b3⟩ := hb
      obtain ⟨b, rfl⟩ : ∃ c : Nat, b = c := ⟨b.toNat, by omega⟩
      rw [Int.toNat_natCast] at b2 b3
      have hbl : b < p.length := by omega
      have hB : Best p a w b := ⟨hbl, b2, fun i hi => b3 i (by omega)⟩
      have v := hv b hbl
      simp only [idx_nat, nth_at (show b < a.length by omega), Option.bind_some, ok_some, flok_nx, Int.toNat_natCast]
      rw [wadd_of (by omega) (by omega)]
      exact .seat hd hB
  exact this
theorem share_div {p : List Int} (hp : People p) {h : Nat} (hh : h ≤ 100) {w : Int} (hw0 : 1 ≤ w) (hw : w ≤ 2) : ∃ a, seats_Share_m w p (h : Int) = some (a, 0) ∧ Div p w h a := by
  obtain ⟨a, e, d⟩ := divided_ok hp hh hw0 hw
  refine ⟨a, ?_, d⟩
  apply Ok.eq
  have : w = 1 ∨ w = 2 := by omega
  unfold seats_Share_m
  rw [seats_check hp (by omega) (by omega)]
  rcases this with rfl | rfl
  · simp [ok_bindR, ok_ite, ok_some, ok_bind, flok_nx, e]
  · simp [ok_bindR, ok_ite, ok_some, ok_bind, flok_nx, e]
theorem psum_ok {l : List Int} {B : Int} (hB : B ≤ 1000000000) (h : ∀ k, k < l.length → 0 ≤ nth l k ∧ nth l k ≤ B) (hl : l.length ≤ 1000000) : pk_sum_m l = some l.sum := by
  apply Ok.eq
  unfold pk_sum_m
  simp only [ok_bindR, ok_some]
  have bound : ∀ k, k ≤ l.length → 0 ≤ (l.take k).sum ∧ (l.take k).sum ≤ 1000000000 * k := by
    intro k
    induction k with
    | zero => simp
    | succ k ih =>
      intro hk
      have := ih (by omega)
      have := h k (by omega)
      rw [sum_take_succ (by omega)]
      omega
  refine ok_rangeL (s := (0 : Int)) (fun (k : Nat) (s : Int) => s = (l.take k).sum) (by simp) (fun k x s hk hs => ?_) fun s hs => by rw [hs, List.take_length]
  obtain ⟨hx, hkl⟩ := nth_of hk
  have b1 := bound k (by omega)
  have b2 := bound (k + 1) (by omega)
  rw [sum_take_succ hkl] at b2
  unfold pk_sum_b1
  simp only [ok_some, flok_nx]
  rw [hs, sum_take_succ hkl, ← hx, wadd_of (by omega) (by omega)]
theorem peopleOf_ok (x0 : List Int) : ∃ p, pk_PeopleOf_m x0 = some p ∧ People p ∧ ∀ k, k < p.length → nth p k ≤ 1000 := by
  have : Ok (pk_PeopleOf_m x0) (fun p => (1 ≤ p.length ∧ p.length ≤ 8) ∧ nth p 0 = 1 ∧ ∀ k, k < p.length → 0 ≤ nth p k ∧ nth p k ≤ 1000) := by
    unfold pk_PeopleOf_m
    have e : (if (7 : Int) < (x0.length : Int) then (7 : Int) else (x0.length : Int)) = ((min 7 x0.length : Nat) : Int) := by omega
    rw [e, List.drop_zero, Int.toNat_natCast]
    simp only [ok_bind, ok_chk, ok_bindR, ok_some]
    have start : ([(1 : Int)] : List Int).length = 0 + 1 ∧ nth ([(1 : Int)] : List Int) 0 = 1 ∧ ∀ k, k < ([(1 : Int)] : List Int).length → 0 ≤ nth ([(1 : Int)] : List Int) k ∧ nth ([(1 : Int)] : List Int) k ≤ 1000 := by
      refine ⟨rfl, rfl, fun k hk => ?_⟩
      have : k = 0 := by simp at hk; omega
      subst this; decide
    refine ⟨by omega, ok_rangeL (fun (k : Nat) (p : List Int) => p.length = k + 1 ∧ nth p 0 = 1 ∧ ∀ k, k < p.length → 0 ≤ nth p k ∧ nth p k ≤ 1000) start (fun k x p hk hI => ?_) fun p hp => ⟨by rw [hp.1, List.length_take]; omega, hp.2⟩⟩
    obtain ⟨i1, i2, i3⟩ := hI
    have hk' := (List.getElem?_eq_some_iff.1 hk).1
    rw [List.length_take] at hk'
    have a0 := Int.emod_nonneg x (b := 1000) (by decide)
    have a1 := Int.emod_lt_of_pos x (b := 1000) (by decide)
    unfold pk_PeopleOf_b1
    rw [within_at x 1000 (by decide) (by decide)]
    simp only [ok_bind, ok_chk, ok_some, flok_nx]
    refine ⟨by simp; omega, by simp [i1], by rw [nth_append, if_pos (by omega)]; exact i2, fun j hj => ?_⟩
    rw [nth_append]
    split
    · exact i3 j (by assumption)
    · have : j - p.length = 0 := by simp at hj; omega
      rw [this, nth_cons_zero]; omega
  obtain ⟨p, e, h1, h2, h3⟩ := this
  refine ⟨p, e, ⟨h1.1, h1.2, fun k hk => by have := h3 k hk; omega, ?_⟩, fun k hk => (h3 k hk).2⟩
  match p, h1, h2, h3 with
  | x :: l, h1, h2, h3 =>
    rw [nth_cons_zero] at h2
    have := psum_bound (p := l) (fun k hk => by have := h3 (k + 1) (by simpa using hk); rw [nth_cons_succ] at this; omega) l.length (Nat.le_refl _)
    rw [List.take_length] at this
    simp only [List.sum_cons]; omega
theorem shares_t : pk_shares_m = some true := by decide +kernel
end Go.Pu
set_option linter.all false
namespace Go.Pu
open Go.Fw Go.Mo
structure Vote (w : List Int) (q : Int) : Prop where
  n1 : 1 ≤ w.length
  n6 : w.length ≤ 6
  val : ∀ k, k < w.length → 0 ≤ nth w k ∧ nth w k ≤ 1000
  q1 : 1 ≤ q
  qs : q ≤ w.sum
def wt (w : List Int) (k s : Nat) : Int := sumN k (fun i => if has s i then nth w i else 0)
def win (w : List Int) (q : Int) (s : Nat) : Int := if q ≤ wt w w.length s then 1 else 0
theorem win01 (w : List Int) (q : Int) (s : Nat) : win w q s = 0 ∨ win w q s = 1 := by unfold win; split <;> simp
theorem wsum_bound {w : List Int} (h : ∀ k, k < w.length → 0 ≤ nth w k ∧ nth w k ≤ 1000) : ∀ k : Nat, k ≤ w.length → 0 ≤ (w.take k).sum ∧ (w.take k).sum ≤ 1000 * k := by
  intro k
  induction k with
  | zero => simp
  | succ k ih =>
    intro hk
    have := ih (by omega)
    have := h k (by omega)
    rw [sum_take_succ (by omega)]
    omega
theorem wt_bound {w : List Int} (h : ∀ k, k < w.length → 0 ≤ nth w k ∧ nth w k ≤ 1000) (s : Nat) : ∀ k : Nat, k ≤ w.length → 0 ≤ wt w k s ∧ wt w k s ≤ 1000 * k := by
  intro k
  induction k with
  | zero => simp [wt, sumN]
  | succ k ih =>
    intro hk
    have ih' := ih (by omega)
    have v := h k (by omega)
    have e : wt w (k + 1) s = wt w k s + (if has s k then nth w k else 0) := rfl
    rw [e]
    split <;> omega
theorem power_check {w : List Int} {q : Int} (h : Vote w q) : power_Check_m w q = some 0 := by
  apply Ok.eq
  have := h.n1; have := h.n6; have := h.q1; have := h.qs
  unfold power_Check_m
  simp only [ok_bindR, ok_ite, ok_some, flok_nx, decide_eq_true_eq]
  refine ⟨fun _ => by omega, fun _ => ⟨fun _ => by omega, fun _ => ?_⟩⟩
  refine ok_rangeL (s := (0 : Int)) (fun (k : Nat) (s : Int) => s = (w.take k).sum) (by simp) (fun k x s hk hs => ?_) fun s hs => ?_
  · obtain ⟨hx, hkl⟩ := nth_of hk
    have v := h.val k hkl
    have b := wsum_bound h.val k (by omega)
    subst hs
    unfold power_Check_b1
    simp only [ok_bindF, ok_ite, ok_some, flok_nx, flok_rt, decide_eq_true_eq]
    rw [sum_take_succ hkl, wadd_of (by omega) (by omega), hx]
    grind
  · rw [List.take_length] at hs
    subst hs
    grind
theorem wins_at {w : List Int} {q : Int} (h : Vote w q) {s : Nat} (hs : s < 64) : power_wins_m w q (s : Int) = some (decide (q ≤ wt w w.length s)) := by
  apply Ok.eq
  have h6 := h.n6
  unfold power_wins_m
  simp only [ok_bindR, ok_some]
  refine ok_rangeL (s := (0 : Int)) (fun (k : Nat) (x : Int) => x = wt w k s) rfl (fun k y x hk hx => ?_) fun x hx => by rw [hx]
  obtain ⟨hy, hkl⟩ := nth_of hk
  have hb := bit_ok s hs k (by omega)
  have b1 := wt_bound h.val s k (by omega)
  have b2 := h.val k hkl
  unfold power_wins_b1
  rw [hb]
  subst hx hy
  simp only [ok_bind, ok_chk, ok_ite, ok_some, flok_nx, beq_iff_eq]
  rw [wadd_of (by omega) (by omega)]
  refine ⟨by omega, fun hh => ?_, fun hh => ?_⟩
  · have : has s k = true := by cases hc : has s k with | true => rfl | false => rw [hc] at hh; simp at hh
    simp [wt, sumN, this]
  · have : has s k = false := by cases hc : has s k with | false => rfl | true => rw [hc] at hh; simp at hh
    simp [wt, sumN, this]
theorem andNot_ok : ∀ s : Nat, s < 64 → ∀ i : Nat, i < 6 → has s i = true → bits .andNot .i64 (s : Int) (IntKind.wrap .i64 ((1 : Int) * 2 ^ (min (i : Int).toNat (IntKind.bits .i64)))) = ((s - 2 ^ i : Nat) : Int) := by decide +kernel
theorem less_has : ∀ s : Nat, s < 64 → ∀ i : Nat, i < 6 → has s i = true → ∀ j : Nat, j < 6 → has (s - 2 ^ i) j = (has s j && j != i) := by decide +kernel
theorem wt_less {w : List Int} (h6 : w.length ≤ 6) {s i : Nat} (hs : s < 64) (hi : i < w.length) (hb : has s i = true) : wt w w.length (s - 2 ^ i) = wt w w.length s - nth w i := by
  have : wt w w.length s = wt w w.length (s - 2 ^ i) + sumN w.length (fun j => if j = i then nth w i else 0) := by
    unfold wt
    rw [← sumN_add]
    refine sumN_congr fun j hj => ?_
    rw [less_has s hs i (by omega) hb j (by omega)]
    by_cases hji : j = i
    · subst hji; simp [hb]
    · simp [hji]
  rw [sumN_single hi] at this; omega
theorem win_less {w : List Int} {q : Int} (h : Vote w q) {s i : Nat} (hs : s < 64) (hi : i < w.length) (hb : has s i = true) : win w q (s - 2 ^ i) ≤ win w q s := by
  have e := wt_less h.n6 hs hi hb
  have := (h.val i hi).1
  unfold win
  rw [e]; split <;> split <;> omega
/-- i turns s -/
theorem turn_iff {w : List Int} {q : Int} (h : Vote w q) {s i : Nat} (hs : s < 64) (hi : i < w.length) (hb : has s i = true) : win w q s - win w q (s - 2 ^ i) = if q ≤ wt w w.length s ∧ ¬ q ≤ wt w w.length (s - 2 ^ i) then 1 else 0 := by
  have e := wt_less h.n6 hs hi hb
  have := (h.val i hi).1
  unfold win
  rw [e]
  split <;> split <;> split <;> omega
def swing (i s : Nat) : LC := if has s i then [(1, s), (-1, s - 2 ^ i)] else []
def turn (n i s : Nat) : LC := if has s i then [(fct (pc s - 1) * fct (n - pc s), s), (-(fct (pc s - 1) * fct (n - pc s)), s - 2 ^ i)] else []
def swingLC (n i : Nat) : LC := LC.all (swing i) (2 ^ n)
def turnLC (n i : Nat) : LC := LC.all (turn n i) (2 ^ n)
theorem swing_ev {w : List Int} {q : Int} (h : Vote w q) {s i : Nat} (hs : s < 64) (hi : i < w.length) : LC.ev (swing i s) (win w q) = if has s i = true ∧ q ≤ wt w w.length s ∧ ¬ q ≤ wt w w.length (s - 2 ^ i) then 1 else 0 := by
  unfold swing
  cases hb : has s i with
  | true =>
    have := turn_iff h hs hi hb
    simp only [if_true, LC.ev, true_and]
    rw [← this]; omega
  | false => simp [LC.ev]
theorem turn_ev {w : List Int} {q : Int} (h : Vote w q) {n s i : Nat} (hs : s < 64) (hi : i < w.length) : LC.ev (turn n i s) (win w q) = if has s i = true ∧ q ≤ wt w w.length s ∧ ¬ q ≤ wt w w.length (s - 2 ^ i) then fct (pc s - 1) * fct (n - pc s) else 0 := by
  unfold turn
  cases hb : has s i with
  | true =>
    have := turn_iff h hs hi hb
    simp only [if_true, LC.ev, true_and]
    generalize fct (pc s - 1) * fct (n - pc s) = c at *
    have e : c * win w q s + (-c * win w q (s - 2 ^ i) + 0) = c * (win w q s - win w q (s - 2 ^ i)) := by grind
    rw [e, this]; split <;> omega
  | false => simp [LC.ev]
theorem swings_ok {w : List Int} {q : Int} (h : Vote w q) : ∃ a, power_Swings_m w q = some (a, 0) ∧ Vec w.length a (fun i => LC.ev (swingLC w.length i) (win w q)) := by
  have : Ok (power_Swings_m w q) (fun r => r.2 = 0 ∧ Vec w.length r.1 (fun i => LC.ev (swingLC w.length i) (win w q))) := by
    have h1 := h.n1; have h6 := h.n6; have hp := pow_le w.length (by omega); have hp0 := pow_pos' w.length
    unfold power_Swings_m
    rw [power_check h, pow_ok w.length (by omega)]
    simp only [ok_bindR, ok_ite, ok_some, ok_bind, ok_chk, Int.toNat_natCast, bne_self_eq_false, Bool.false_eq_true, false_implies, true_and, not_false_eq_true, true_implies]
    refine ⟨by omega, by omega, by omega, ok_rangeN (fun s a => Vec w.length a (fun i => sumN s (fun t => LC.ev (swing i t) (win w q)))) (Vec.zero.congr fun x _ => rfl) (fun s a hs hI => ?_) fun a ha => ha.congr fun i hi => by unfold swingLC; rw [LC.ev_all]⟩
    have hs64 : s < 64 := by omega
    have bound : ∀ i, i < w.length → ∀ k : Nat, k ≤ 64 → 0 ≤ sumN k (fun t => LC.ev (swing i t) (win w q)) ∧ sumN k (fun t => LC.ev (swing i t) (win w q)) ≤ k := by
      intro i hi k
      induction k with
      | zero => simp [sumN]
      | succ k ih => intro hk; have := ih (by omega); simp only [sumN]; rw [swing_ev h (show k < 64 by omega) hi]; split <;> omega
    unfold power_Swings_b1
    simp only [ok_bindF, ok_some]
    refine ok_rangeL (fun j a => Vec w.length a (fun i => sumN s (fun t => LC.ev (swing i t) (win w q)) + if i < j then LC.ev (swing i s) (win w q) else 0)) (hI.congr fun x _ => by simp) (fun i y a hi hI => ?_) fun a ha => flok_nx.2 (ha.congr fun x hx => by simp [sumN, hx])
    obtain ⟨_, hil⟩ := nth_of hi
    have hb := bit_ok s hs64 i (by omega)
    have sb := bound i hil s (by omega)
    have ai : a[i]? = some (sumN s (fun t => LC.ev (swing i t) (win w q))) := by rw [hI.at? hil, if_neg (by omega), Int.add_zero]
    have se := swing_ev h hs64 hil
    have same : LC.ev (swing i s) (win w q) = 0 → Vec w.length a (fun q' => sumN s (fun t => LC.ev (swing q' t) (win w q)) + if q' < i + 1 then LC.ev (swing q' s) (win w q) else 0) := fun h0 => hI.congr fun x hx => by
      by_cases hxi : x = i
      · subst hxi; rw [if_neg (by omega), if_pos (by omega), h0]
      · by_cases hlt : x < i
        · rw [if_pos hlt, if_pos (by omega)]
        · rw [if_neg hlt, if_neg (by omega)]
    have next : LC.ev (swing i s) (win w q) = 1 → Vec w.length (a.set i (wadd (sumN s (fun t => LC.ev (swing i t) (win w q))) 1)) (fun q' => sumN s (fun t => LC.ev (swing q' t) (win w q)) + if q' < i + 1 then LC.ev (swing q' s) (win w q) else 0) := fun h0 => (hI.set hil _).congr fun x hx => by
      by_cases hxi : x = i
      · subst hxi; rw [if_pos rfl, if_pos (by omega), h0, wadd_of (by omega) (by omega)]
      · rw [if_neg hxi]
        by_cases hlt : x < i
        · rw [if_pos hlt, if_pos (by omega)]
        · rw [if_neg hlt, if_neg (by omega)]
    unfold power_Swings_b2
    rw [hb, wins_at h hs64]
    cases hbb : has s i with
    | false =>
      rw [hbb] at se
      simp [ok_bindF, ok_bind, ok_chk, ok_ite, ok_some, flok_nx]
      exact same (by simpa using se)
    | true =>
      rw [hbb] at se
      have hs2 : s - 2 ^ i < 64 := Nat.lt_of_le_of_lt (Nat.sub_le _ _) hs64
      rw [andNot_ok s hs64 i (by omega) hbb, wins_at h hs2]
      simp [ok_bindF, ok_bind, ok_chk, ok_ite, ok_some, flok_nx, idx_nat, ai]
      refine ⟨fun h1 => ⟨fun h2 => next (by rw [se]; simp [h1]; omega), fun h2 => same (by rw [se]; simp [h1]; omega)⟩, fun h1 => same (by rw [se]; simp; omega)⟩
  obtain ⟨⟨a, e⟩, h1, h2, h3⟩ := this
  simp only at h2 h3
  subst h2
  exact ⟨a, h1, h3⟩
end Go.Pu
set_option linter.all false
namespace Go.Pu
open Go.Fw Go.Mo
theorem powers_t : pk_powers_m = some true := by decide +kernel
theorem wsum_ok {w : List Int} (h : ∀ k, k < w.length → 0 ≤ nth w k ∧ nth w k ≤ 1000) (h6 : w.length ≤ 6) : pk_sum_m w = some w.sum := psum_ok (B := 1000) (by omega) h (by omega)
theorem weightsOf_ok (x0 : List Int) (x1 : Int) : ∃ w q, pk_WeightsOf_m x0 x1 = some (w, q) ∧ Vote w q := by
  have : Ok (pk_WeightsOf_m x0 x1) (fun r => Vote r.1 r.2) := by
    unfold pk_WeightsOf_m
    have e : (if (5 : Int) < (x0.length : Int) then (5 : Int) else (x0.length : Int)) = ((min 5 x0.length : Nat) : Int) := by omega
    rw [e, List.drop_zero, Int.toNat_natCast]
    simp only [ok_bind, ok_chk, ok_bindR, ok_some]
    have start : ([(1 : Int)] : List Int).length = 0 + 1 ∧ nth ([(1 : Int)] : List Int) 0 = 1 ∧ ∀ k, k < ([(1 : Int)] : List Int).length → 0 ≤ nth ([(1 : Int)] : List Int) k ∧ nth ([(1 : Int)] : List Int) k ≤ 1000 := by
      refine ⟨rfl, rfl, fun k hk => ?_⟩
      have : k = 0 := by simp at hk; omega
      subst this; decide
    refine ⟨by omega, ok_rangeL (fun (k : Nat) (p : List Int) => p.length = k + 1 ∧ nth p 0 = 1 ∧ ∀ k, k < p.length → 0 ≤ nth p k ∧ nth p k ≤ 1000) start (fun k x p hk hI => ?_) fun p hp => ?_⟩
    · obtain ⟨i1, i2, i3⟩ := hI
      have hk' := (List.getElem?_eq_some_iff.1 hk).1
      rw [List.length_take] at hk'
      have a0 := Int.emod_nonneg x (b := 20) (by decide)
      have a1 := Int.emod_lt_of_pos x (b := 20) (by decide)
      unfold pk_WeightsOf_b1
      rw [within_at x 20 (by decide) (by decide)]
      simp only [ok_bind, ok_chk, ok_some, flok_nx]
      refine ⟨by simp; omega, by simp [i1], by rw [nth_append, if_pos (by omega)]; exact i2, fun j hj => ?_⟩
      rw [nth_append]
      split
      · exact i3 j (by assumption)
      · have : j - p.length = 0 := by simp at hj; omega
        rw [this, nth_cons_zero]; omega
    · obtain ⟨i1, i2, i3⟩ := hp
      rw [List.length_take] at i1
      have hpos : 0 < p.sum := by
        match p, i1, i2, i3 with
        | x :: l, i1, i2, i3 =>
          rw [nth_cons_zero] at i2
          have := psum_bound (p := l) (fun k hk => by have := i3 (k + 1) (by simpa using hk); rw [nth_cons_succ] at this; omega) l.length (Nat.le_refl _)
          rw [List.take_length] at this
          simp only [List.sum_cons]; omega
      have hb := wsum_bound i3 p.length (Nat.le_refl _)
      rw [List.take_length] at hb
      have a0 := Int.emod_nonneg x1 (b := p.sum) (by omega)
      have a1 := Int.emod_lt_of_pos x1 hpos
      simp only [flok_nx, ok_bind, wsum_ok i3 (by omega), ok_some, within_at x1 p.sum hpos (by omega)]
      rw [wadd_of (by omega) (by omega)]
      exact ⟨by omega, by omega, i3, by omega, by omega⟩
  obtain ⟨⟨w, q⟩, e, h⟩ := this
  exact ⟨w, q, e, h⟩
theorem winsP_ok {w : List Int} {q : Int} (h : Vote w q) {s : Nat} (hs : s < 2 ^ w.length) : power_Wins_m w q (s : Int) = some (decide (q ≤ wt w w.length s), 0) := by
  have h6 := h.n6; have hp := pow_le w.length (by omega)
  apply Ok.eq
  unfold power_Wins_m
  rw [power_check h, pow_ok w.length (by omega), wins_at h (by omega)]
  simp [ok_bind, ok_bindR, ok_ite, ok_chk, ok_some, flok_nx]
  have : (s : Int) < ((2 ^ w.length : Nat) : Int) := by omega
  simpa using this
theorem win_dec (w : List Int) (q : Int) (s : Nat) : (decide (q ≤ wt w w.length s) = true ↔ win w q s = 1) ∧ (decide (q ≤ wt w w.length s) = false ↔ win w q s = 0) := by
  unfold win; by_cases h : q ≤ wt w w.length s <;> simp [h]
end Go.Pu
