import Derived.Test.YthhconilidaffaaFwF
import Derived.Test.YthhconilidaffaaWTopMiddleModels
/- Plain lemmas about the small language of the models: loops that keep an invariant, loops that fold. -/
set_option linter.all false
namespace Go.Pu
open Go.Fw
section
variable {ρ σ α β γ : Type}
theorem rangeL_inv {body : Nat → α → σ → Option (Fl ρ σ σ)} (I : Nat → σ → Prop) : ∀ (l : List α) (i : Nat) (s : σ), I i s →
    (∀ k x s, l[k]? = some x → I (i + k) s → ∃ s', body (i + k) x s = some (.nx s') ∧ I (i + k + 1) s') → ∃ s', rangeL (γ := γ) body l i s = some (.nx s') ∧ I (i + l.length) s'
  | [], i, s, h, _ => ⟨s, rfl, h⟩
  | x :: l, i, s, h, hs => by
    obtain ⟨s1, e1, h1⟩ := hs 0 x s rfl h
    obtain ⟨s2, e2, h2⟩ := rangeL_inv I l (i + 1) s1 h1 (fun k y s hk hI => by
      have := hs (k + 1) y s (by simpa using hk) (by rw [show i + (k + 1) = i + 1 + k by omega]; exact hI)
      rw [show i + (k + 1) = i + 1 + k by omega] at this; exact this)
    refine ⟨s2, ?_, by rw [List.length_cons, show i + (l.length + 1) = i + 1 + l.length by omega]; exact h2⟩
    unfold rangeL
    rw [Nat.add_zero] at e1
    rw [e1]; exact e2
theorem rangeN_inv {body : Nat → σ → Option (Fl ρ σ σ)} (I : Nat → σ → Prop) : ∀ (n : Nat) (i : Nat) (s : σ), I i s →
    (∀ k s, k < n → I (i + k) s → ∃ s', body (i + k) s = some (.nx s') ∧ I (i + k + 1) s') → ∃ s', rangeN (γ := γ) body n i s = some (.nx s') ∧ I (i + n) s'
  | 0, i, s, h, _ => ⟨s, rfl, h⟩
  | n + 1, i, s, h, hs => by
    obtain ⟨s1, e1, h1⟩ := hs 0 s (by omega) h
    obtain ⟨s2, e2, h2⟩ := rangeN_inv I n (i + 1) s1 h1 (fun k s hk hI => by
      have := hs (k + 1) s (by omega) (by rw [show i + (k + 1) = i + 1 + k by omega]; exact hI)
      rw [show i + (k + 1) = i + 1 + k by omega] at this; exact this)
    refine ⟨s2, ?_, by rw [show i + (n + 1) = i + 1 + n by omega]; exact h2⟩
    unfold rangeN
    rw [Nat.add_zero] at e1
    rw [e1]; exact e2
theorem rangeL_fold {body : Nat → α → σ → Option (Fl ρ σ σ)} (f : σ → α → σ) (l : List α) : ∀ (i : Nat) (s : σ), (∀ i x s, x ∈ l → body i x s = some (.nx (f s x))) → rangeL (γ := γ) body l i s = some (.nx (l.foldl f s)) := by
  induction l with
  | nil => intro i s _; rfl
  | cons x l ih =>
    intro i s h
    unfold rangeL
    rw [h i x s (by simp)]
    exact ih (i + 1) _ (fun i y s hy => h i y s (by simp [hy]))
def lk {β : Type} : Option ρ → Option (Fl ρ β Unit)
  | some r => some (.rt r)
  | none => some (.nx ())
/-- a loop that only looks: it goes through, or it returns at the first place where it must -/
theorem rangeL_look {body : Nat → α → Unit → Option (Fl ρ Unit Unit)} (c : Nat → α → Option ρ) (l : List α) (h : ∀ i x, x ∈ l → body i x () = lk (c i x)) :
    ∀ i, rangeL (γ := γ) body l i () = lk ((l.zipIdx i).findSome? (fun p => c p.2 p.1)) := by
  induction l with
  | nil => intro i; rfl
  | cons x l ih =>
    intro i
    unfold rangeL
    rw [h i x (by simp), List.zipIdx_cons, List.findSome?_cons]
    dsimp only
    cases c i x with
    | some r => rfl
    | none => exact ih (fun i y hy => h i y (by simp [hy])) (i + 1)
/-- the first place where the test holds -/
theorem rangeL_first {body : Nat → α → Unit → Option (Fl Int Unit Unit)} (q : α → Bool) (l : List α) (h : ∀ i x, x ∈ l → body i x () = if q x then some (.rt (i : Int)) else some (.nx ())) :
    ∀ i, rangeL (γ := γ) body l i () = if l.any q then some (.rt ((i + l.findIdx q : Nat) : Int)) else some (.nx ()) := by
  induction l with
  | nil => intro i; rfl
  | cons x l ih =>
    intro i
    unfold rangeL
    rw [h i x (by simp)]
    by_cases hx : q x = true
    · simp [hx, List.findIdx_cons]
    · have hx' : q x = false := by simpa using hx
      rw [hx']
      simp only [Bool.false_eq_true, if_false]
      rw [ih (fun i y hy => h i y (by simp [hy])) (i + 1)]
      simp only [List.any_cons, hx', Bool.false_or, List.findIdx_cons, cond_false]
      split
      · congr 3; omega
      · rfl
/-- a loop that counts up to n -/
theorem loopM_up {body : σ × Int → Option (Fl ρ (σ × Int) (σ × Int))} (I : Nat → σ → Prop) (n : Nat) (hb : ∀ (k : Nat) s, k < n → I k s → ∃ s', body (s, (k : Int)) = some (.nx (s', ((k + 1 : Nat) : Int))) ∧ I (k + 1) s')
    (he : ∀ s, I n s → body (s, (n : Int)) = some (.br (s, (n : Int)))) : ∀ (d k : Nat) (s : σ) (f : Nat), k + d = n → d < f → I k s → ∃ s', loopM (γ := γ) body f (s, (k : Int)) = some (.nx (s', (n : Int))) ∧ I n s'
  | 0, k, s, f, hk, hf, h => by
    obtain ⟨f, rfl⟩ : ∃ q, f = q + 1 := ⟨f - 1, by omega⟩
    have : k = n := by omega
    subst this
    refine ⟨s, ?_, h⟩
    unfold loopM
    rw [he s h]
  | d + 1, k, s, f, hk, hf, h => by
    obtain ⟨f, rfl⟩ : ∃ q, f = q + 1 := ⟨f - 1, by omega⟩
    obtain ⟨s1, e1, h1⟩ := hb k s (by omega) h
    obtain ⟨s2, e2, h2⟩ := loopM_up I n hb he d (k + 1) s1 f (by omega) (by omega) h1
    refine ⟨s2, ?_, h2⟩
    unfold loopM
    rw [e1]; exact e2
theorem loopM_cnt {body : Int → Option (Fl ρ Int Int)} (n : Nat) (hb : ∀ k : Nat, k < n → 1 ≤ k → body (k : Int) = some (.nx ((k + 1 : Nat) : Int))) (he : body (n : Int) = some (.br (n : Int))) :
    ∀ (d k : Nat) (f : Nat), k + d = n → 1 ≤ k → d < f → loopM (γ := γ) body f (k : Int) = some (.nx (n : Int))
  | 0, k, f, hk, _, hf => by
    obtain ⟨f, rfl⟩ : ∃ q, f = q + 1 := ⟨f - 1, by omega⟩
    have : k = n := by omega
    subst this
    unfold loopM
    rw [he]
  | d + 1, k, f, hk, h1, hf => by
    obtain ⟨f, rfl⟩ : ∃ q, f = q + 1 := ⟨f - 1, by omega⟩
    unfold loopM
    rw [hb k (by omega) h1]
    exact loopM_cnt n hb he d (k + 1) f (by omega) (by omega) (by omega)
/-- a search that comes to an end -/
theorem rangeL_pick {body : Nat → α → Unit → Option (Fl ρ Unit Unit)} (q : α → Bool) (r : Nat → α → ρ) : ∀ (l : List α) (i : Nat), (∀ i x, x ∈ l → body i x () = if q x then some (.rt (r i x)) else some (.nx ())) → (∃ x ∈ l, q x = true) →
    ∃ k x, l[k]? = some x ∧ q x = true ∧ rangeL (γ := γ) body l i () = some (.rt (r (i + k) x))
  | [], i, _, ⟨x, hx, _⟩ => by cases hx
  | y :: l, i, h, hex => by
    by_cases hy : q y = true
    · refine ⟨0, y, rfl, hy, ?_⟩
      unfold rangeL
      rw [h i y (by simp), if_pos hy]
      rfl
    · obtain ⟨x, hx, hqx⟩ := hex
      have hx' : x ∈ l := by
        rcases List.mem_cons.1 hx with rfl | hx
        · exact absurd hqx hy
        · exact hx
      obtain ⟨k, z, h1, h2, h3⟩ := rangeL_pick q r l (i + 1) (fun i x hx => h i x (by simp [hx])) ⟨x, hx', hqx⟩
      refine ⟨k + 1, z, by simpa using h1, h2, ?_⟩
      unfold rangeL
      rw [h i y (by simp), if_neg hy]
      rw [show i + (k + 1) = i + 1 + k by omega]
      exact h3
/-- a loop that counts down to nothing -/
theorem loopM_down {body : σ × Int → Option (Fl ρ (σ × Int) (σ × Int))} (I : Nat → σ → Prop) (hb : ∀ (k : Nat) s, I (k + 1) s → ∃ s', body (s, (k : Int)) = some (.nx (s', (k : Int) - 1)) ∧ I k s')
    (he : ∀ s, I 0 s → body (s, -1) = some (.br (s, -1))) : ∀ (k : Nat) (s : σ) (f : Nat), k < f → I k s → ∃ s', loopM (γ := γ) body f (s, (k : Int) - 1) = some (.nx (s', -1)) ∧ I 0 s'
  | 0, s, f, hf, h => by
    obtain ⟨f, rfl⟩ : ∃ q, f = q + 1 := ⟨f - 1, by omega⟩
    refine ⟨s, ?_, h⟩
    unfold loopM
    rw [show ((0 : Nat) : Int) - 1 = -1 by omega, he s h]
  | k + 1, s, f, hf, h => by
    obtain ⟨f, rfl⟩ : ∃ q, f = q + 1 := ⟨f - 1, by omega⟩
    obtain ⟨s1, e1, h1⟩ := hb k s h
    obtain ⟨s2, e2, h2⟩ := loopM_down I hb he k s1 f (by omega) h1
    refine ⟨s2, ?_, h2⟩
    unfold loopM
    rw [show ((k + 1 : Nat) : Int) - 1 = (k : Int) by omega, e1]; exact e2
theorem idx_nat {l : List α} {i : Nat} : idx l (i : Int) = l[i]? := by
  unfold idx
  rw [if_pos (by omega)]
  simp
theorem idx_at {l : List α} {i : Int} (h0 : 0 ≤ i) : idx l i = l[i.toNat]? := by unfold idx; rw [if_pos h0]
theorem wadd_of {x y : Int} (h0 : -9223372036854775808 ≤ x + y) (h1 : x + y ≤ 9223372036854775807) : wadd x y = x + y := by
  unfold wadd; rw [IntKind.wrap_i64]; omega
theorem wsub_of {x y : Int} (h0 : -9223372036854775808 ≤ x - y) (h1 : x - y ≤ 9223372036854775807) : wsub x y = x - y := by
  unfold wsub; rw [IntKind.wrap_i64]; omega
theorem wmul_of {x y : Int} (h0 : -9223372036854775808 ≤ x * y) (h1 : x * y ≤ 9223372036854775807) : wmul x y = x * y := by
  unfold wmul; rw [IntKind.wrap_i64]; omega
theorem chk_t {p : Prop} [Decidable p] (h : p) : chk p = some () := if_pos h
end
end Go.Pu
/- What a model comes to, said by conditions: total correctness, one lemma a construct. -/
set_option linter.all false
namespace Go.Pu
open Go.Fw
/-- the value is there, and is so -/
def Ok {α : Type} (x : Option α) (P : α → Prop) : Prop := ∃ v, x = some v ∧ P v
def FlOk {ρ β σ : Type} (N : σ → Prop) (B : β → Prop) (R : ρ → Prop) : Fl ρ β σ → Prop
  | .nx s => N s
  | .br b => B b
  | .rt r => R r
def nth {α : Type} [Inhabited α] (l : List α) (k : Nat) : α := l.getD k default
section
variable {ρ σ α β γ τ : Type} {P : α → Prop} {N : σ → Prop} {B : β → Prop} {R : ρ → Prop}
theorem Ok.mono {x : Option α} {Q : α → Prop} (h : Ok x P) (hPQ : ∀ v, P v → Q v) : Ok x Q := let ⟨v, e, p⟩ := h; ⟨v, e, hPQ v p⟩
theorem Ok.eq {x : Option α} {v : α} (h : Ok x (fun y => y = v)) : x = some v := by obtain ⟨y, e, rfl⟩ := h; exact e
theorem Ok.of {x : Option α} {v : α} (h : x = some v) (p : P v) : Ok x P := ⟨v, h, p⟩
theorem Ok.use {x : Option α} (h : Ok x P) : ∃ v, x = some v ∧ P v := h
theorem ok_some {v : α} : Ok (some v) P ↔ P v := ⟨fun ⟨_, e, p⟩ => by cases e; exact p, fun p => ⟨v, rfl, p⟩⟩
theorem ok_none : Ok (none : Option α) P ↔ False := ⟨fun ⟨_, e, _⟩ => by (cases e), fun h => h.elim⟩
theorem ok_bind {x : Option τ} {k : τ → Option α} : Ok (x.bind k) P ↔ Ok x (fun v => Ok (k v) P) := by
  constructor
  · rintro ⟨v, e, p⟩
    obtain ⟨y, hy, hk⟩ := Option.bind_eq_some_iff.1 e
    exact ⟨y, hy, v, hk, p⟩
  · rintro ⟨y, rfl, v, e, p⟩; exact ⟨v, e, p⟩
theorem ok_chk {p : Prop} [Decidable p] {P : Unit → Prop} : Ok (chk p) P ↔ p ∧ P () := by
  unfold chk
  split
  · rename_i h; simp [ok_some, h]
  · rename_i h; simp [ok_none, h]
theorem ok_ite {p : Prop} [Decidable p] {x y : Option α} : Ok (if p then x else y) P ↔ (p → Ok x P) ∧ (¬ p → Ok y P) := by
  split
  · rename_i h; simp [h]
  · rename_i h; simp [h]
theorem flok_nx {s : σ} : FlOk N B R (.nx s) ↔ N s := Iff.rfl
theorem flok_br {b : β} : FlOk N B R (.br b) ↔ B b := Iff.rfl
theorem flok_rt {r : ρ} : FlOk N B R (.rt r) ↔ R r := Iff.rfl
theorem ok_bindR {x : Option (Fl ρ β σ)} {k : σ → Option ρ} {P : ρ → Prop} : Ok (bindR x k) P ↔ Ok x (FlOk (fun s => Ok (k s) P) (fun _ => False) P) := by
  constructor
  · rintro ⟨v, e, p⟩
    cases x with
    | none => cases e
    | some y =>
      cases y with
      | nx s => exact ⟨_, rfl, v, e, p⟩
      | br b => cases e
      | rt r => cases e; exact ⟨_, rfl, p⟩
  · rintro ⟨y, rfl, h⟩
    cases y with
    | nx s => exact h
    | br b => exact h.elim
    | rt r => exact ⟨r, rfl, h⟩
theorem ok_bindF {x : Option (Fl ρ β σ)} {k : σ → Option (Fl ρ β τ)} {P : Fl ρ β τ → Prop} : Ok (bindF x k) P ↔ Ok x (FlOk (fun s => Ok (k s) P) (fun b => P (.br b)) (fun r => P (.rt r))) := by
  constructor
  · rintro ⟨v, e, p⟩
    cases x with
    | none => cases e
    | some y =>
      cases y with
      | nx s => exact ⟨_, rfl, v, e, p⟩
      | br b => cases e; exact ⟨_, rfl, p⟩
      | rt r => cases e; exact ⟨_, rfl, p⟩
  · rintro ⟨y, rfl, h⟩
    cases y with
    | nx s => exact h
    | br b => exact ⟨_, rfl, h⟩
    | rt r => exact ⟨_, rfl, h⟩
theorem nth_at [Inhabited α] {l : List α} {k : Nat} (h : k < l.length) : l[k]? = some (nth l k) := by
  unfold nth; rw [List.getD_eq_getElem?_getD, List.getElem?_eq_getElem h]; rfl
theorem nth_get [Inhabited α] {l : List α} {k : Nat} (h : k < l.length) : nth l k = l[k] := by
  unfold nth; rw [List.getD_eq_getElem?_getD, List.getElem?_eq_getElem h]; rfl
theorem nth_of [Inhabited α] {l : List α} {k : Nat} {x : α} (h : l[k]? = some x) : nth l k = x ∧ k < l.length := by
  unfold nth; rw [List.getD_eq_getElem?_getD, h]; exact ⟨rfl, (List.getElem?_eq_some_iff.1 h).1⟩
theorem nth_mem [Inhabited α] {l : List α} {k : Nat} (h : k < l.length) : nth l k ∈ l := List.mem_of_getElem? (nth_at h)
theorem mem_nth [Inhabited α] {l : List α} {x : α} (h : x ∈ l) : ∃ k, k < l.length ∧ nth l k = x := by
  obtain ⟨k, hk, e⟩ := List.mem_iff_getElem.1 h
  exact ⟨k, hk, by rw [nth_get hk, e]⟩
theorem nth_set [Inhabited α] {l : List α} {i k : Nat} {x : α} (h : i < l.length) : nth (l.set i x) k = if k = i then x else nth l k := by
  unfold nth
  simp only [List.getD_eq_getElem?_getD]
  split
  · rename_i e; subst e; rw [List.getElem?_set_self h]; rfl
  · rename_i e; rw [List.getElem?_set_ne (Ne.symm e)]
theorem nth_append [Inhabited α] {l m : List α} {k : Nat} : nth (l ++ m) k = if k < l.length then nth l k else nth m (k - l.length) := by
  unfold nth
  simp only [List.getD_eq_getElem?_getD]
  split
  · rename_i h; rw [List.getElem?_append_left h]
  · rename_i h; rw [List.getElem?_append_right (by omega)]
theorem nth_replicate [Inhabited α] {n k : Nat} {x : α} (h : k < n) : nth (List.replicate n x) k = x := by
  unfold nth; simp [List.getD_eq_getElem?_getD, h]
theorem nth_take [Inhabited α] {l : List α} {n k : Nat} (h : k < n) : nth (l.take n) k = nth l k := by
  unfold nth; simp only [List.getD_eq_getElem?_getD]; rw [List.getElem?_take_of_lt h]
theorem nth_drop [Inhabited α] {l : List α} {n k : Nat} : nth (l.drop n) k = nth l (n + k) := by
  unfold nth; simp only [List.getD_eq_getElem?_getD, List.getElem?_drop]
theorem nth_ext [Inhabited α] {l m : List α} (h1 : l.length = m.length) (h2 : ∀ k, k < l.length → nth l k = nth m k) : l = m := by
  apply List.ext_getElem h1
  intro k hk hk'
  rw [← nth_get hk, ← nth_get hk', h2 k hk]
theorem nth_map [Inhabited α] [Inhabited β] {l : List α} {f : α → β} {k : Nat} (h : k < l.length) : nth (l.map f) k = f (nth l k) := by
  rw [nth_get (by simpa using h), nth_get h]; simp
theorem nth_cons_zero [Inhabited α] {l : List α} {x : α} : nth (x :: l) 0 = x := rfl
theorem nth_cons_succ [Inhabited α] {l : List α} {x : α} {k : Nat} : nth (x :: l) (k + 1) = nth l k := rfl
theorem ok_idx [Inhabited α] {l : List α} {i : Int} : Ok (idx l i) P ↔ 0 ≤ i ∧ i < (l.length : Int) ∧ P (nth l i.toNat) := by
  unfold idx
  split
  · rename_i h
    by_cases hl : i < (l.length : Int)
    · rw [nth_at (by omega), ok_some]; simp [h, hl]
    · rw [List.getElem?_eq_none (by omega), ok_none]; simp [hl]
  · rename_i h; rw [ok_none]; simp [h]
theorem ok_rangeL {body : Nat → τ → σ → Option (Fl ρ σ σ)} {l : List τ} (I : Nat → σ → Prop) {s : σ} {B : γ → Prop} (h0 : I 0 s)
    (hs : ∀ k x s, l[k]? = some x → I k s → Ok (body k x s) (FlOk (I (k + 1)) N R)) (he : ∀ s, I l.length s → N s) : Ok (rangeL (γ := γ) body l 0 s) (FlOk N B R) := by
  have key : ∀ (d i : Nat) (s : σ), i + d = l.length → I i s → Ok (rangeL (γ := γ) body (l.drop i) i s) (FlOk N B R) := by
    intro d
    induction d with
    | zero =>
      intro i s hi hI
      rw [List.drop_of_length_le (by omega)]
      have : i = l.length := by omega
      subst this
      exact ⟨_, rfl, he s hI⟩
    | succ d ih =>
      intro i s hi hI
      have hlt : i < l.length := by omega
      rw [List.drop_eq_getElem_cons hlt]
      unfold rangeL
      obtain ⟨v, e, p⟩ := hs i l[i] s (List.getElem?_eq_getElem hlt) hI
      rw [e]
      cases v with
      | nx s' => exact ih (i + 1) s' (by omega) p
      | br s' => exact ⟨_, rfl, p⟩
      | rt r => exact ⟨_, rfl, p⟩
  have := key l.length 0 s (by omega) h0
  simpa using this
theorem ok_rangeN {body : Nat → σ → Option (Fl ρ σ σ)} {n : Nat} (I : Nat → σ → Prop) {s : σ} {B : γ → Prop} (h0 : I 0 s)
    (hs : ∀ k s, k < n → I k s → Ok (body k s) (FlOk (I (k + 1)) N R)) (he : ∀ s, I n s → N s) : Ok (rangeN (γ := γ) body n 0 s) (FlOk N B R) := by
  have key : ∀ (d i : Nat) (s : σ), i + d = n → I i s → Ok (rangeN (γ := γ) body d i s) (FlOk N B R) := by
    intro d
    induction d with
    | zero =>
      intro i s hi hI
      have : i = n := by omega
      subst this
      exact ⟨_, rfl, he s hI⟩
    | succ d ih =>
      intro i s hi hI
      unfold rangeN
      obtain ⟨v, e, p⟩ := hs i s (by omega) hI
      rw [e]
      cases v with
      | nx s' => exact ih (i + 1) s' (by omega) p
      | br s' => exact ⟨_, rfl, p⟩
      | rt r => exact ⟨_, rfl, p⟩
  exact key n 0 s (by omega) h0
theorem ok_loopM {body : σ → Option (Fl ρ β σ)} (I : σ → Prop) (μ : σ → Nat) {C : γ → Prop} (hs : ∀ s, I s → Ok (body s) (FlOk (fun s' => I s' ∧ μ s' < μ s) B R)) : ∀ (n : Nat) (s : σ), I s → μ s < n → Ok (loopM (γ := γ) body n s) (FlOk B C R) := by
  intro n
  induction n with
  | zero => intro s _ h; omega
  | succ n ih =>
    intro s hI hn
    unfold loopM
    obtain ⟨v, e, p⟩ := hs s hI
    rw [e]
    cases v with
    | nx s' => exact ih s' p.1 (by have := p.2; omega)
    | br b => exact ⟨_, rfl, p⟩
    | rt r => exact ⟨_, rfl, p⟩
theorem ok_within {x n : Int} {P : Int → Prop} : True := trivial
end
end Go.Pu
/- A number brought into a range. -/
namespace Go.Pu
open Go.Fw Go.Mo
theorem within_at (x : Int) (n : Int) (h0 : 0 < n) (h1 : n ≤ 1000000) : pk_Within_m x n = some (x % n) := by
  have h2 : n ≠ 0 := by omega
  have he : 0 ≤ x % n := Int.emod_nonneg x h2
  have hl : x % n < n := Int.emod_lt_of_pos x h0
  unfold pk_Within_m ref_Rest_m
  simp only [chk, ne_eq, h2, not_false_eq_true, if_true, Option.bind_some]
  by_cases hx : 0 ≤ x
  · have ht : x.tmod n = x % n := Int.tmod_eq_emod_of_nonneg hx
    rw [ht]
    rw [if_neg (by simp; omega)]
    rfl
  · by_cases hd : x.tmod n < 0
    · rw [if_pos (by simpa using hd)]
      simp only [bindR, Option.bind_some]
      have : wadd (x.tmod n) n = x % n := by
        unfold wadd
        rw [IntKind.wrap_i64]
        have ht := Int.tmod_eq_emod (a := x) (b := n)
        have hnd : ¬ n ∣ x := fun hh => by rw [Int.tmod_eq_zero_of_dvd hh] at hd; omega
        simp [hx, hnd] at ht
        omega
      rw [this]
    · rw [if_neg (by simpa using hd)]
      simp only [bindR, Option.bind_some]
      have ht := Int.tmod_eq_emod (a := x) (b := n)
      by_cases hnd : n ∣ x
      · simp [hnd] at ht; rw [ht]
      · simp [hx, hnd] at ht; omega
theorem one_within (x : Int) (c : Nat) (h0 : 0 < c) (h1 : c ≤ 1000000) : ∃ n : Nat, 1 ≤ n ∧ n ≤ c ∧ wadd 1 (x % (c : Int)) = (n : Int) := by
  have a0 := Int.emod_nonneg x (b := (c : Int)) (by omega)
  have a1 := Int.emod_lt_of_pos x (b := (c : Int)) (by omega)
  refine ⟨(1 + x % (c : Int)).toNat, by omega, by omega, ?_⟩
  unfold wadd
  rw [IntKind.wrap_i64]; omega
end Go.Pu
/- Orders of n sides. -/
set_option linter.all false
namespace Go.Pu
open Go.Fw Go.Mo
/-- the sides 0 .. n-1, each once -/
structure Ord (n : Nat) (p : List Int) : Prop where
  len : p.length = n
  mem : ∀ x : Int, x ∈ p ↔ 0 ≤ x ∧ x < n
  nd : p.Nodup
def sides (n : Nat) : List Int := (List.range n).map (fun (k : Nat) => (k : Int))
theorem sides_ord (n : Nat) : Ord n (sides n) := by
  refine ⟨by simp [sides], fun x => ?_, ?_⟩
  · simp only [sides, List.mem_map, List.mem_range]
    constructor
    · rintro ⟨k, hk, rfl⟩; omega
    · intro h; exact ⟨x.toNat, by omega, by omega⟩
  · unfold sides List.Nodup
    rw [List.pairwise_map]
    exact (List.nodup_range (n := n)).imp fun h => by omega
theorem Ord.perm {n : Nat} {p q : List Int} (h : Ord n p) (e : q.Perm p) : Ord n q := ⟨by rw [e.length_eq, h.len], fun x => by rw [e.mem_iff, h.mem], e.nodup_iff.2 h.nd⟩
theorem sides_at (n : Nat) (h : n ≤ 1000) : ref_Sides_m (n : Int) = some (sides n) := by
  apply Ok.eq
  unfold ref_Sides_m
  simp only [ok_bind, ok_chk, ok_bindR, ok_some, Int.toNat_natCast]
  refine ⟨by omega, ok_rangeN (fun k s => s = sides k) rfl (fun k s hk hs => ?_) fun s hs => hs⟩
  subst hs
  unfold ref_Sides_b1
  simp only [ok_bind, ok_chk, ok_some, flok_nx]
  refine ⟨by have := (sides_ord k).len; simp; omega, ?_⟩
  simp [sides, List.range_succ]
theorem orderOf_ok (n : Nat) (l : List Int) (h0 : 1 ≤ n) (h : n ≤ 1000) : ∃ p, pk_OrderOf_m (n : Int) l = some p ∧ Ord n p := by
  have : Ok (pk_OrderOf_m (n : Int) l) (Ord n) := by
    unfold pk_OrderOf_m
    rw [sides_at n h]
    simp only [ok_bind, ok_chk, ok_bindR, ok_some, Int.toNat_natCast]
    refine ⟨by omega, ok_rangeN (fun k s => s.2.length = k ∧ (s.2 ++ s.1).Perm (sides n)) ⟨rfl, by simp⟩ (fun k s hk hs => ?_) fun s hs => ?_⟩
    · obtain ⟨left, out⟩ := s
      obtain ⟨h1, h2⟩ := hs
      simp only at h1 h2
      have hlen : out.length + left.length = n := by have := h2.length_eq; rw [List.length_append] at this; rw [this, (sides_ord n).len]
      unfold pk_OrderOf_b1
      simp only
      have step : ∀ (B : (List Int) × (List Int) → Prop) (R : List Int → Prop) (j : Int), 0 ≤ j → j < (left.length : Int) → Ok (chk (out.length + [nth left j.toNat].length ≤ 68719476736)) fun _ => Ok (slices_Delete_int_int_m left j (wadd j 1)) fun v =>
          FlOk (ρ := List Int) (β := (List Int) × (List Int)) (σ := (List Int) × (List Int)) (fun s => s.2.length = k + 1 ∧ (s.2 ++ s.1).Perm (sides n)) B R (.nx (v, out ++ [nth left j.toNat])) := by
        intro B R j hj0 hj
        rw [wadd_of (by omega) (by omega)]
        unfold slices_Delete_int_int_m
        simp only [ok_bind, ok_chk, ok_some, flok_nx]
        have e1 : (j + 1).toNat = j.toNat + 1 := by omega
        have hjl : j.toNat < left.length := by omega
        rw [e1, nth_get hjl]
        refine ⟨by simp; omega, by omega, by simp [h1], ?_⟩
        refine List.Perm.trans ?_ h2
        rw [List.append_assoc]
        refine List.Perm.append_left out ?_
        have e2 : left = left.take j.toNat ++ left[j.toNat] :: left.drop (j.toNat + 1) := by simp
        conv => rhs; rw [e2]
        exact (List.perm_middle (a := left[j.toNat]) (l₁ := left.take j.toNat) (l₂ := left.drop (j.toNat + 1))).symm
      simp only [ok_bindF, ok_ite, ok_some, ok_bind, ok_idx, decide_eq_true_eq, Int.toNat_natCast]
      refine ⟨fun hl => ⟨by omega, by omega, ?_⟩, fun _ => ?_⟩
      · rw [within_at _ _ (by omega) (by omega), ok_some, flok_nx]
        have a0 := Int.emod_nonneg (nth l k) (b := (left.length : Int)) (by omega)
        have a1 := Int.emod_lt_of_pos (nth l k) (b := (left.length : Int)) (by omega)
        exact ⟨a0, a1, step _ _ _ a0 a1⟩
      · rw [flok_nx]
        exact ⟨by omega, by omega, step _ _ _ (by omega) (by omega)⟩
    · obtain ⟨left, out⟩ := s
      obtain ⟨h1, h2⟩ := hs
      simp only at h1 h2
      have hlen : out.length + left.length = n := by have := h2.length_eq; rw [List.length_append] at this; rw [this, (sides_ord n).len]
      have : left = [] := List.eq_nil_of_length_eq_zero (by omega)
      subst this
      rw [List.append_nil] at h2
      simp only [ok_some]
      exact (sides_ord n).perm h2
  exact this
theorem order_check {n : Nat} {p : List Int} (h0 : 1 ≤ n) (h6 : n ≤ 6) (h : Ord n p) : order_Check_m (n : Int) p = some 0 := by
  apply Ok.eq
  unfold order_Check_m
  have hl := h.len
  simp only [ok_bindR, ok_ite, ok_some, flok_nx, decide_eq_true_eq]
  refine ⟨fun _ => by omega, fun _ => ⟨fun _ => by omega, fun _ => ?_⟩⟩
  refine ok_rangeL (fun k s => s.length = 6 ∧ ∀ x : Nat, x < n → nth s x = true → (x : Int) ∈ p.take k) ⟨by simp, fun x hx ht => by rw [nth_replicate (by omega)] at ht; cases ht⟩ (fun k x s hk hI => ?_) fun s _ => ?_
  · obtain ⟨h1, h2⟩ := hI
    have hkl := (List.getElem?_eq_some_iff.1 hk).1
    have hx := (h.mem x).1 (List.mem_of_getElem? hk)
    obtain ⟨j, rfl⟩ : ∃ j : Nat, x = j := ⟨x.toNat, by omega⟩
    unfold order_Check_b1
    have hj : nth s j = false := by
      cases hb : nth s j with
      | false => rfl
      | true =>
        have := h2 j (by omega) hb
        obtain ⟨i, hi, he⟩ := List.getElem_of_mem this
        rw [List.length_take] at hi
        rw [List.getElem_take] at he
        have hi' : i < p.length := by omega
        have := (List.getElem?_inj (j := k) hi' h.nd).1 (by rw [hk, List.getElem?_eq_getElem hi', he])
        omega
    have e1 : idx s (j : Int) = some false := by rw [idx_nat, nth_at (by omega), hj]
    simp only [ok_bindF, ok_ite, ok_some, ok_bind, flok_nx, flok_rt, decide_eq_true_eq, e1, Int.toNat_natCast]
    have e2 : nth (s.set j true) j = true := by rw [nth_set (by omega), if_pos rfl]
    have fin : (s.set j true).length = 6 ∧ ∀ x : Nat, x < n → nth (s.set j true) x = true → (x : Int) ∈ p.take (k + 1) := by
      refine ⟨by simpa using h1, fun x hx hxt => ?_⟩
      rw [List.take_succ_eq_append_getElem hkl, List.mem_append]
      by_cases hxj : x = j
      · subst hxj; right; simp [(List.getElem?_eq_some_iff.1 hk).2]
      · left; rw [nth_set (by omega), if_neg hxj] at hxt; exact h2 x hx hxt
    refine ⟨fun _ => by omega, fun _ => ⟨fun _ => by omega, fun _ => ⟨by simp, fun _ => fin⟩⟩⟩
  · simp only [ok_ite, ok_some, bne_iff_ne]
    exact ⟨fun hh => absurd (by omega) hh, fun _ => by trivial⟩
/-- a stands ahead of b -/
def bf (p : List Int) (a b : Nat) : Bool := decide (p.idxOf (a : Int) < p.idxOf (b : Int))
theorem Ord.idx {n : Nat} {p : List Int} (h : Ord n p) {k : Nat} (hk : k < n) : p.idxOf (nth p k) = k := by
  have hk' : k < p.length := by rw [h.len]; exact hk
  rw [nth_get hk']; exact h.nd.idxOf_getElem k hk'
theorem Ord.val {n : Nat} {p : List Int} (h : Ord n p) {k : Nat} (hk : k < n) : 0 ≤ nth p k ∧ nth p k < n := (h.mem _).1 (nth_mem (by rw [h.len]; exact hk))
theorem Ord.idx_lt {n : Nat} {p : List Int} (h : Ord n p) {x : Nat} (hx : x < n) : p.idxOf (x : Int) < n := by
  have : (x : Int) ∈ p := (h.mem _).2 ⟨by omega, by omega⟩
  have := List.idxOf_lt_length_of_mem this
  rw [h.len] at this; exact this
theorem Ord.at_idx {n : Nat} {p : List Int} (h : Ord n p) {x : Nat} (hx : x < n) : nth p (p.idxOf (x : Int)) = x := by
  have hl := h.idx_lt hx
  rw [nth_get (by rw [h.len]; exact hl)]
  exact List.getElem_idxOf _
theorem Ord.idx_inj {n : Nat} {p : List Int} (h : Ord n p) {x y : Nat} (hx : x < n) (hy : y < n) (e : p.idxOf (x : Int) = p.idxOf (y : Int)) : x = y := by
  have h1 := h.at_idx hx
  have h2 := h.at_idx hy
  rw [e, h2] at h1; omega
theorem bf_or {n : Nat} {p : List Int} (h : Ord n p) {a b : Nat} (ha : a < n) (hb : b < n) (hab : a ≠ b) : bf p a b = !bf p b a := by
  unfold bf
  have := fun e => hab (h.idx_inj ha hb e)
  rcases Nat.lt_or_gt_of_ne this with h1 | h1
  · rw [decide_eq_true h1, decide_eq_false (by omega)]; rfl
  · rw [decide_eq_false (by omega), decide_eq_true h1]; rfl
theorem bf_self (p : List Int) (a : Nat) : bf p a a = false := by simp [bf]
end Go.Pu
/- Square tables of numbers. -/
set_option linter.all false
namespace Go.Pu
open Go.Fw
/-- a table of n by k, by a function -/
structure Mat (n k : Nat) (m : List (List Int)) (f : Nat → Nat → Int) : Prop where
  len : m.length = n
  row : ∀ x, x < n → (nth m x).length = k
  at_ : ∀ x y, x < n → y < k → nth (nth m x) y = f x y
section
variable {n k : Nat} {m : List (List Int)} {f g : Nat → Nat → Int}
theorem Mat.congr (h : Mat n k m f) (e : ∀ x y, x < n → y < k → f x y = g x y) : Mat n k m g := ⟨h.len, h.row, fun x y hx hy => by rw [h.at_ x y hx hy, e x y hx hy]⟩
theorem Mat.row? (h : Mat n k m f) {x : Nat} (hx : x < n) : m[x]? = some (nth m x) := nth_at (by rw [h.len]; exact hx)
theorem Mat.cell? (h : Mat n k m f) {x y : Nat} (hx : x < n) (hy : y < k) : (nth m x)[y]? = some (f x y) := by rw [nth_at (by rw [h.row x hx]; exact hy), h.at_ x y hx hy]
theorem Mat.set (h : Mat n k m f) {x y : Nat} (hx : x < n) (hy : y < k) (v : Int) : Mat n k (m.set x ((nth m x).set y v)) (fun a b => if a = x ∧ b = y then v else f a b) := by
  have hxl : x < m.length := by rw [h.len]; exact hx
  refine ⟨by simpa using h.len, fun a ha => ?_, fun a b ha hb => ?_⟩
  · rw [nth_set hxl]
    split
    · simpa using h.row x hx
    · exact h.row a ha
  · rw [nth_set hxl]
    by_cases hax : a = x
    · subst hax
      rw [if_pos rfl, nth_set (by rw [h.row a ha]; exact hy)]
      by_cases hby : b = y
      · simp [hby]
      · simp [hby]; exact h.at_ a b ha hb
    · rw [if_neg hax, if_neg (by simp [hax])]; exact h.at_ a b ha hb
theorem Mat.setRow (h : Mat n k m f) {x : Nat} (hx : x < n) {r : List Int} {v : Nat → Int} (hr : r.length = k) (hv : ∀ y, y < k → nth r y = v y) : Mat n k (m.set x r) (fun a b => if a = x then v b else f a b) := by
  have hxl : x < m.length := by rw [h.len]; exact hx
  refine ⟨by simpa using h.len, fun a ha => ?_, fun a b ha hb => ?_⟩
  · rw [nth_set hxl]
    split
    · exact hr
    · exact h.row a ha
  · rw [nth_set hxl]
    split
    · exact hv b hb
    · exact h.at_ a b ha hb
theorem Mat.ext {m' : List (List Int)} (h : Mat n k m f) (h' : Mat n k m' f) : m = m' := by
  refine nth_ext (by rw [h.len, h'.len]) fun x hx => ?_
  rw [h.len] at hx
  refine nth_ext (by rw [h.row x hx, h'.row x hx]) fun y hy => ?_
  rw [h.row x hx] at hy
  rw [h.at_ x y hx hy, h'.at_ x y hx hy]
theorem Mat.self (h1 : m.length = n) (h2 : ∀ r ∈ m, r.length = k) : Mat n k m (fun x y => nth (nth m x) y) := ⟨h1, fun x hx => h2 _ (nth_mem (by omega)), fun _ _ _ _ => rfl⟩
end
/-- a list of numbers, by a function -/
structure Vec (n : Nat) (l : List Int) (f : Nat → Int) : Prop where
  len : l.length = n
  at_ : ∀ x, x < n → nth l x = f x
section
variable {n : Nat} {l : List Int} {f g : Nat → Int}
theorem Vec.congr (h : Vec n l f) (e : ∀ x, x < n → f x = g x) : Vec n l g := ⟨h.len, fun x hx => by rw [h.at_ x hx, e x hx]⟩
theorem Vec.at? (h : Vec n l f) {x : Nat} (hx : x < n) : l[x]? = some (f x) := by rw [nth_at (by rw [h.len]; exact hx), h.at_ x hx]
theorem Vec.set (h : Vec n l f) {x : Nat} (hx : x < n) (v : Int) : Vec n (l.set x v) (fun a => if a = x then v else f a) :=
  ⟨by simpa using h.len, fun a ha => by rw [nth_set (by rw [h.len]; exact hx)]; split; rfl; exact h.at_ a ha⟩
theorem Vec.ext {l' : List Int} (h : Vec n l f) (h' : Vec n l' f) : l = l' := nth_ext (by rw [h.len, h'.len]) fun x hx => by rw [h.len] at hx; rw [h.at_ x hx, h'.at_ x hx]
theorem Vec.self (h : l.length = n) : Vec n l (nth l) := ⟨h, fun _ _ => rfl⟩
theorem Vec.zero : Vec n (List.replicate n 0) (fun _ => 0) := ⟨by simp, fun x hx => nth_replicate hx⟩
theorem Vec.nil : Vec 0 [] f := ⟨rfl, fun x hx => by omega⟩
theorem Vec.snoc (h : Vec n l f) {v : Int} (e : v = f n) : Vec (n + 1) (l ++ [v]) f := ⟨by simp [h.len], fun x hx => by
  rw [nth_append, h.len]
  split
  · rename_i h'; exact h.at_ x h'
  · have : x = n := by omega
    subst this; simp [e]; rfl⟩
end
/-- sums over the first n numbers -/
def sumN (n : Nat) (f : Nat → Int) : Int := match n with | 0 => 0 | n + 1 => sumN n f + f n
theorem sumN_congr {n : Nat} {f g : Nat → Int} (h : ∀ x, x < n → f x = g x) : sumN n f = sumN n g := by
  induction n with
  | zero => rfl
  | succ n ih => simp only [sumN]; rw [ih fun x hx => h x (by omega), h n (by omega)]
theorem sumN_add {n : Nat} {f g : Nat → Int} : sumN n (fun x => f x + g x) = sumN n f + sumN n g := by
  induction n with
  | zero => rfl
  | succ n ih => simp only [sumN]; omega
theorem sumN_zero {n : Nat} : sumN n (fun _ => 0) = 0 := by
  induction n with
  | zero => rfl
  | succ n ih => simp only [sumN]; omega
theorem sumN_mul {n : Nat} {f : Nat → Int} {c : Int} : sumN n (fun x => c * f x) = c * sumN n f := by
  induction n with
  | zero => simp [sumN]
  | succ n ih => simp only [sumN]; rw [ih, Int.mul_add]
theorem sumN_const {n : Nat} {c : Int} : sumN n (fun _ => c) = n * c := by
  induction n with
  | zero => simp [sumN]
  | succ n ih => simp only [sumN]; rw [ih, Int.natCast_add, Int.add_mul]; simp
theorem sumN_le {n : Nat} {f g : Nat → Int} (h : ∀ x, x < n → f x ≤ g x) : sumN n f ≤ sumN n g := by
  induction n with
  | zero => exact Int.le_refl _
  | succ n ih => simp only [sumN]; have := ih fun x hx => h x (by omega); have := h n (by omega); omega
theorem sumN_comm {n k : Nat} {f : Nat → Nat → Int} : sumN n (fun x => sumN k (fun y => f x y)) = sumN k (fun y => sumN n (fun x => f x y)) := by
  induction n with
  | zero => simp only [sumN, sumN_zero]
  | succ n ih => simp only [sumN]; rw [ih, sumN_add]
theorem sumN_neg {n : Nat} {f : Nat → Int} : sumN n (fun x => - f x) = - sumN n f := by
  induction n with
  | zero => rfl
  | succ n ih => simp only [sumN]; omega
theorem sumN_sub {n : Nat} {f g : Nat → Int} : sumN n (fun x => f x - g x) = sumN n f - sumN n g := by
  induction n with
  | zero => rfl
  | succ n ih => simp only [sumN]; omega
theorem sumN_single {n k : Nat} {c : Int} (h : k < n) : sumN n (fun x => if x = k then c else 0) = c := by
  induction n with
  | zero => omega
  | succ n ih =>
    simp only [sumN]
    by_cases hk : k = n
    · subst hk
      rw [if_pos rfl, sumN_congr (g := fun _ => 0) (fun x hx => if_neg (by omega)), sumN_zero]; omega
    · rw [ih (by omega), if_neg (Ne.symm hk)]; omega
end Go.Pu
/- Votes, and who stands ahead of whom in how many. -/
set_option linter.all false
namespace Go.Pu
open Go.Fw Go.Mo
def Votes (n : Nat) (v : List (List Int)) : Prop := v.length ≤ 30 ∧ ∀ p ∈ v, Ord n p
theorem votesOf_ok (n : Nat) (l : List (List Int)) (h0 : 1 ≤ n) (h : n ≤ 6) : ∃ v, pk_VotesOf_m (n : Int) l = some v ∧ v.length = min 30 l.length ∧ Votes n v := by
  have : Ok (pk_VotesOf_m (n : Int) l) (fun v => v.length = min 30 l.length ∧ ∀ p ∈ v, Ord n p) := by
    unfold pk_VotesOf_m
    have e : (if (30 : Int) < (l.length : Int) then (30 : Int) else (l.length : Int)) = ((min 30 l.length : Nat) : Int) := by omega
    rw [e, List.drop_zero, Int.toNat_natCast]
    simp only [ok_bind, ok_chk, ok_bindR, ok_some]
    refine ⟨by omega, ok_rangeL (fun k v => v.length = k ∧ ∀ p ∈ v, Ord n p) (by simp) (fun k x v hk hI => ?_) fun v hv => ⟨by rw [hv.1, List.length_take]; omega, hv.2⟩⟩
    have hk' := (List.getElem?_eq_some_iff.1 hk).1
    rw [List.length_take] at hk'
    obtain ⟨p, e1, hp⟩ := orderOf_ok n x h0 (by omega)
    unfold pk_VotesOf_b1
    simp only [ok_bind, e1, ok_chk, ok_some, flok_nx]
    refine ⟨by simp; omega, by simp [hI.1], fun q hq => ?_⟩
    rcases List.mem_append.1 hq with hq | hq
    · exact hI.2 q hq
    · simp at hq; subst hq; exact hp
  obtain ⟨v, e, h1, h2⟩ := this
  exact ⟨v, e, h1, by omega, h2⟩
theorem tally_check {n : Nat} {v : List (List Int)} (h0 : 1 ≤ n) (h6 : n ≤ 6) (h : Votes n v) : tally_Check_m (n : Int) v = some 0 := by
  apply Ok.eq
  unfold tally_Check_m
  have hl := h.1
  simp only [ok_bindR, ok_ite, ok_some, flok_nx, decide_eq_true_eq]
  refine ⟨fun _ => by omega, fun _ => ⟨fun _ => by omega, fun _ => ⟨fun _ => by omega, fun _ => ?_⟩⟩⟩
  refine ok_rangeL (fun _ _ => True) trivial (fun k x s hk _ => ?_) fun s _ => by trivial
  unfold tally_Check_b1
  rw [order_check h0 h6 (h.2 x (List.mem_of_getElem? hk))]
  simp [ok_bind, ok_ite, ok_some, flok_nx]
/-- so many have a ahead of b -/
def duel : List (List Int) → Nat → Nat → Int
  | [], _, _ => 0
  | p :: v, a, b => duel v a b + if bf p a b then 1 else 0
theorem duel_append (v w : List (List Int)) (a b : Nat) : duel (v ++ w) a b = duel v a b + duel w a b := by
  induction v with
  | nil => simp [duel]
  | cons p v ih => simp only [List.cons_append, duel, ih]; omega
theorem duel_bound (v : List (List Int)) (a b : Nat) : 0 ≤ duel v a b ∧ duel v a b ≤ v.length := by
  induction v with
  | nil => simp [duel]
  | cons p v ih => simp only [duel, List.length_cons]; split <;> omega
theorem duel_self (v : List (List Int)) (a : Nat) : duel v a a = 0 := by
  induction v with
  | nil => rfl
  | cons p v ih => simp [duel, ih, bf_self]
theorem duel_sum {n : Nat} {v : List (List Int)} (h : ∀ p ∈ v, Ord n p) {a b : Nat} (ha : a < n) (hb : b < n) (hab : a ≠ b) : duel v a b + duel v b a = v.length := by
  induction v with
  | nil => simp [duel]
  | cons p v ih =>
    have := ih fun q hq => h q (by simp [hq])
    have h1 := bf_or (h p (by simp)) ha hb hab
    simp only [duel, List.length_cons]
    cases h2 : bf p b a <;> rw [h2] at h1 <;> simp [h1] <;> omega
theorem duels_ok {n : Nat} {v : List (List Int)} (h0 : 1 ≤ n) (h6 : n ≤ 6) (h : Votes n v) : ∃ m, tally_Duels_m (n : Int) v = some (m, 0) ∧ Mat n n m (duel v) := by
  have : Ok (tally_Duels_m (n : Int) v) (fun r => r.2 = 0 ∧ Mat n n r.1 (duel v)) := by
    unfold tally_Duels_m
    rw [tally_check h0 h6 h]
    simp only [ok_bind, ok_ite, ok_chk, ok_bindR, ok_some, Int.toNat_natCast, List.length_replicate, bne_self_eq_false, Bool.false_eq_true, false_implies, true_and, not_false_eq_true, true_implies]
    refine ⟨by omega, ?_⟩
    refine ok_rangeN (fun k W => W.length = n ∧ ∀ x, x < k → nth W x = List.replicate n 0) ⟨by simp, fun x hx => by omega⟩ (fun k W hk hI => ?_) fun W hW => ?_
    · obtain ⟨h1, h2⟩ := hI
      unfold tally_Duels_b1
      simp only [ok_bind, ok_chk, ok_idx, ok_some, flok_nx, Int.toNat_natCast]
      refine ⟨by omega, by omega, by omega, by simpa using h1, fun x hx => ?_⟩
      rw [nth_set (by omega)]
      split
      · rfl
      · exact h2 x (by omega)
    · obtain ⟨h1, h2⟩ := hW
      have hM : Mat n n W (fun _ _ => 0) := ⟨h1, fun x hx => by rw [h2 x hx]; simp, fun x y hx hy => by rw [h2 x hx]; exact nth_replicate hy⟩
      refine ok_rangeL (fun k W => Mat n n W (duel (v.take k))) (by simpa [duel] using hM) (fun k p W hk hW => ?_) fun W hW => by simpa using hW
      have hp := h.2 p (List.mem_of_getElem? hk)
      have hkl := (List.getElem?_eq_some_iff.1 hk).1
      have hlen := hp.len
      unfold tally_Duels_b2
      simp only [ok_bindF, ok_some]
      have hb0 := duel_bound (v.take k)
      have hkb : ((v.take k).length : Int) ≤ 30 := by rw [List.length_take]; have := h.1; omega
      generalize hbase : duel (v.take k) = base at *
      refine ok_rangeL (fun i W => Mat n n W (fun a b => base a b + if p.idxOf (a : Int) < i ∧ p.idxOf (a : Int) < p.idxOf (b : Int) then 1 else 0)) (hW.congr fun x y hx hy => by simp) (fun i x W hi hW => ?_) fun W hW => ?_
      · obtain ⟨hx1, hil⟩ := nth_of hi
        have hx := (hp.mem x).1 (List.mem_of_getElem? hi)
        obtain ⟨a, rfl⟩ : ∃ a : Nat, x = a := ⟨x.toNat, by omega⟩
        have han : a < n := by omega
        have hia : p.idxOf (a : Int) = i := by rw [← hx1]; exact hp.idx (by omega)
        unfold tally_Duels_b3
        simp only [ok_bind, ok_chk, ok_bindF, ok_some]
        rw [wadd_of (by omega) (by omega), List.take_length, show ((i : Int) + 1).toNat = i + 1 by omega]
        refine ⟨by omega, ?_⟩
        refine ok_rangeL (fun j W => Mat n n W (fun a b => base a b + if (p.idxOf (a : Int) < i ∧ p.idxOf (a : Int) < p.idxOf (b : Int)) ∨ (p.idxOf (a : Int) = i ∧ p.idxOf (a : Int) < p.idxOf (b : Int) ∧ p.idxOf (b : Int) < i + 1 + j) then 1 else 0)) (hW.congr fun x y hx hy => ?_) (fun j y W hj hW => ?_) fun W hW => ?_
        · congr 1
          by_cases hc : p.idxOf (x : Int) < i ∧ p.idxOf (x : Int) < p.idxOf (y : Int)
          · rw [if_pos hc, if_pos (.inl hc)]
          · rw [if_neg hc, if_neg (by omega)]
        · have hjl := (List.getElem?_eq_some_iff.1 hj).1
          rw [List.length_drop] at hjl
          rw [List.getElem?_drop] at hj
          obtain ⟨hy1, _⟩ := nth_of hj
          have hy := (hp.mem y).1 (List.mem_of_getElem? hj)
          obtain ⟨b, rfl⟩ : ∃ b : Nat, y = b := ⟨y.toNat, by omega⟩
          have hbn : b < n := by omega
          have hib : p.idxOf (b : Int) = i + 1 + j := by rw [← hy1]; exact hp.idx (by omega)
          unfold tally_Duels_b4
          simp only [idx_nat, hW.row? han, Option.bind_some, hW.cell? han hbn, Int.toNat_natCast, ok_some, flok_nx]
          have := hb0 a b
          have hv : (base a b + if (p.idxOf (a : Int) < i ∧ p.idxOf (a : Int) < p.idxOf (b : Int)) ∨ (p.idxOf (a : Int) = i ∧ p.idxOf (a : Int) < p.idxOf (b : Int) ∧ p.idxOf (b : Int) < i + 1 + j) then 1 else 0) = base a b := by
            rw [if_neg (by omega)]; omega
          rw [hv, wadd_of (by omega) (by omega)]
          refine (hW.set han hbn _).congr fun x y hx hy => ?_
          by_cases hxy : x = a ∧ y = b
          · obtain ⟨rfl, rfl⟩ := hxy
            rw [if_pos ⟨rfl, rfl⟩, if_pos (by omega)]
          · rw [if_neg hxy]
            congr 1
            have hne : ¬ (p.idxOf (x : Int) = i ∧ p.idxOf (y : Int) = i + 1 + j) := fun ⟨g1, g2⟩ => hxy ⟨hp.idx_inj hx han (by omega), hp.idx_inj hy hbn (by omega)⟩
            by_cases hc : (p.idxOf (x : Int) < i ∧ p.idxOf (x : Int) < p.idxOf (y : Int)) ∨ (p.idxOf (x : Int) = i ∧ p.idxOf (x : Int) < p.idxOf (y : Int) ∧ p.idxOf (y : Int) < i + 1 + j)
            · rw [if_pos hc, if_pos (by omega)]
            · rw [if_neg hc, if_neg (by omega)]
        · refine flok_nx.2 (hW.congr fun x y hx hy => ?_)
          congr 1
          have := hp.idx_lt hy
          rw [List.length_drop]
          by_cases hc : p.idxOf (x : Int) < i + 1 ∧ p.idxOf (x : Int) < p.idxOf (y : Int)
          · rw [if_pos hc, if_pos (by omega)]
          · rw [if_neg hc, if_neg (by omega)]
      · refine flok_nx.2 (hW.congr fun x y hx hy => ?_)
        rw [List.take_succ_eq_append_getElem hkl, duel_append, hbase]
        congr 1
        have := hp.idx_lt hx
        have e1 : v[k] = p := (List.getElem?_eq_some_iff.1 hk).2
        rw [e1]
        simp only [duel, bf, decide_eq_true_eq]
        by_cases hc : p.idxOf (x : Int) < p.idxOf (y : Int)
        · rw [if_pos hc, if_pos (by omega)]; omega
        · rw [if_neg hc, if_neg (by omega)]; omega
  obtain ⟨⟨m, e⟩, h1, h2, h3⟩ := this
  simp only at h2 h3
  subst h2
  exact ⟨m, h1, h3⟩
end Go.Pu
/- What the library's functions on lists of numbers answer. -/
set_option linter.all false
namespace Go.Pu
open Go.Fw Go.Mo
theorem index_ok (l : List Int) (x : Int) : slices_Index_int_int_m l x = some (if x ∈ l then (l.idxOf x : Int) else -1) := by
  unfold slices_Index_int_int_m
  rw [rangeL_first (γ := Unit) (fun y => x == y) l (fun i y _ => by unfold slices_Index_int_int_b1; rfl)]
  have h1 : (fun y => x == y) = (fun y => y == x) := by funext y; exact Bool.eq_iff_iff.2 ⟨fun h => by rw [beq_iff_eq] at h ⊢; exact h.symm, fun h => by rw [beq_iff_eq] at h ⊢; exact h.symm⟩
  by_cases hx : x ∈ l
  · rw [if_pos (List.any_eq_true.2 ⟨x, hx, by simp⟩), if_pos hx]
    simp only [bindR, Nat.zero_add, List.idxOf, h1]
  · rw [if_neg (by rw [List.any_eq_true]; rintro ⟨y, hy, e⟩; simp at e; subst e; exact hx hy), if_neg hx]
    rfl
theorem contains_ok (l : List Int) (x : Int) : slices_Contains_int_int_m l x = some (decide (x ∈ l)) := by
  unfold slices_Contains_int_int_m
  rw [index_ok, Option.bind_some]
  by_cases hx : x ∈ l
  · simp [hx]
  · simp [hx]
/-- those below n that are chosen -/
def pickB (p : Nat → Bool) : Nat → List Int
  | 0 => []
  | n + 1 => pickB p n ++ if p n then [(n : Int)] else []
theorem mem_pickB {p : Nat → Bool} {n : Nat} {x : Int} : x ∈ pickB p n ↔ ∃ k : Nat, k < n ∧ p k = true ∧ x = k := by
  induction n with
  | zero => simp [pickB]
  | succ n ih =>
    simp only [pickB, List.mem_append, ih]
    constructor
    · rintro (⟨k, h1, h2, h3⟩ | h)
      · exact ⟨k, by omega, h2, h3⟩
      · split at h
        · rename_i hp; simp at h; exact ⟨n, by omega, hp, h⟩
        · cases h
    · rintro ⟨k, h1, h2, h3⟩
      by_cases hk : k = n
      · subst hk; right; rw [if_pos h2]; simp [h3]
      · left; exact ⟨k, by omega, h2, h3⟩
theorem pickB_len {p : Nat → Bool} {n : Nat} : (pickB p n).length ≤ n := by
  induction n with
  | zero => simp [pickB]
  | succ n ih => simp only [pickB, List.length_append]; split <;> simp <;> omega
theorem pickB_sorted {p : Nat → Bool} {n : Nat} : (pickB p n).Pairwise (· < ·) := by
  induction n with
  | zero => simp [pickB]
  | succ n ih =>
    simp only [pickB]
    rw [List.pairwise_append]
    refine ⟨ih, by split <;> simp, fun a ha b hb => ?_⟩
    obtain ⟨k, h1, _, rfl⟩ := mem_pickB.1 ha
    split at hb
    · simp at hb; omega
    · cases hb
theorem pickB_congr {p q : Nat → Bool} {n : Nat} (h : ∀ k, k < n → p k = q k) : pickB p n = pickB q n := by
  induction n with
  | zero => rfl
  | succ n ih => simp only [pickB]; rw [ih fun k hk => h k (by omega), h n (by omega)]
theorem pickB_nd {p : Nat → Bool} {n : Nat} : (pickB p n).Nodup := pickB_sorted.imp fun h => by omega
end Go.Pu
/- How far two orders are from one another. -/
set_option linter.all false
namespace Go.Pu
open Go.Fw Go.Mo
def lsum (f : Int → Int) : List Int → Int
  | [] => 0
  | x :: l => f x + lsum f l
theorem lsum_perm {f : Int → Int} {l m : List Int} (h : l.Perm m) : lsum f l = lsum f m := by
  induction h with
  | nil => rfl
  | cons x _ ih => simp only [lsum, ih]
  | swap x y l => simp only [lsum]; omega
  | trans _ _ h1 h2 => exact h1.trans h2
theorem lsum_append {f : Int → Int} (l m : List Int) : lsum f (l ++ m) = lsum f l + lsum f m := by
  induction l with
  | nil => simp [lsum]
  | cons x l ih => simp only [List.cons_append, lsum, ih]; omega
theorem lsum_nth {f : Int → Int} (l : List Int) : lsum f l = sumN l.length (fun i => f (nth l i)) := by
  have : ∀ k, k ≤ l.length → lsum f (l.take k) = sumN k (fun i => f (nth l i)) := by
    intro k
    induction k with
    | zero => intro _; simp [sumN, lsum]
    | succ k ih =>
      intro hk
      rw [List.take_succ_eq_append_getElem (by omega), lsum_append, ih (by omega)]
      simp only [lsum, sumN, nth_get (show k < l.length by omega)]; omega
  have := this l.length (Nat.le_refl _)
  rwa [List.take_length] at this
theorem Ord.perm_sides {n : Nat} {p : List Int} (h : Ord n p) : p.Perm (sides n) :=
  (List.perm_ext_iff_of_nodup h.nd (sides_ord n).nd).2 fun x => by rw [h.mem, (sides_ord n).mem]
theorem sides_nth {n k : Nat} (h : k < n) : nth (sides n) k = k := by
  unfold sides
  rw [nth_get (by simpa using h)]; simp
/-- a sum over the places of an order is one over the sides -/
theorem ord_sum {n : Nat} {p : List Int} (h : Ord n p) (f : Nat → Int) : sumN n (fun i => f (nth p i).toNat) = sumN n f := by
  have h1 := lsum_nth (f := fun x => f x.toNat) p
  have h2 := lsum_nth (f := fun x => f x.toNat) (sides n)
  rw [lsum_perm h.perm_sides, h2, h.len, (sides_ord n).len] at h1
  rw [← h1]
  exact sumN_congr fun i hi => by rw [sides_nth hi, Int.toNat_natCast]
theorem bf_at {n : Nat} {p : List Int} (h : Ord n p) {i j : Nat} (hi : i < n) (hj : j < n) : bf p (nth p i).toNat (nth p j).toNat = decide (i < j) := by
  have vi := h.val hi; have vj := h.val hj
  unfold bf
  rw [Int.toNat_of_nonneg vi.1, Int.toNat_of_nonneg vj.1, h.idx hi, h.idx hj]
def b1 (b : Bool) : Int := if b then 1 else 0
theorem b1_val (b : Bool) : 0 ≤ b1 b ∧ b1 b ≤ 1 := by cases b <;> simp [b1]
/-- pairs that stand otherwise -/
def kt (n : Nat) (p q : List Int) : Int := sumN n (fun x => sumN n (fun y => b1 (bf p x y && bf q y x)))
theorem sumN_lt_one {n i : Nat} {f : Nat → Int} (hi : i ≤ n) : sumN n (fun j => if j < i then f j else 0) = sumN i f := by
  induction n with
  | zero => have : i = 0 := by omega
            subst this; rfl
  | succ n ih =>
    by_cases h : i = n + 1
    · subst h
      exact sumN_congr fun j hj => if_pos hj
    · simp only [sumN]
      rw [ih (by omega), if_neg (by omega)]; omega
theorem kt_pos {n : Nat} {p q : List Int} (hp : Ord n p) : kt n p q = sumN n (fun i => sumN n (fun j => b1 (decide (i < j) && bf q (nth p j).toNat (nth p i).toNat))) := by
  unfold kt
  rw [← ord_sum hp (fun x => sumN n (fun y => b1 (bf p x y && bf q y x)))]
  refine sumN_congr fun i hi => ?_
  rw [← ord_sum hp (fun y => b1 (bf p (nth p i).toNat y && bf q y (nth p i).toNat))]
  exact sumN_congr fun j hj => by rw [bf_at hp hi hj]
theorem sumN_b1 {n : Nat} {f : Nat → Bool} : 0 ≤ sumN n (fun i => b1 (f i)) ∧ sumN n (fun i => b1 (f i)) ≤ n := by
  induction n with
  | zero => simp [sumN]
  | succ n ih => simp only [sumN]; have := b1_val (f n); omega
theorem kt_bound {n : Nat} (h6 : n ≤ 6) (p q : List Int) : 0 ≤ kt n p q ∧ kt n p q ≤ 36 := by
  unfold kt
  have l := sumN_le (n := n) (f := fun _ => 0) (g := fun x => sumN n (fun y => b1 (bf p x y && bf q y x))) fun x _ => (sumN_b1 (f := fun y => bf p x y && bf q y x)).1
  have u := sumN_le (n := n) (g := fun _ => 6) (f := fun x => sumN n (fun y => b1 (bf p x y && bf q y x))) fun x _ => by have := (sumN_b1 (n := n) (f := fun y => bf p x y && bf q y x)).2; omega
  rw [sumN_zero] at l
  rw [sumN_const] at u
  omega
theorem far_ok {n : Nat} {p q : List Int} (h0 : 1 ≤ n) (h6 : n ≤ 6) (hp : Ord n p) (hq : Ord n q) : order_Far_m p q = some (kt n p q, 0) := by
  apply Ok.eq
  have hpl := hp.len
  unfold order_Far_m
  rw [hpl, order_check h0 h6 hp, order_check h0 h6 hq]
  simp only [ok_bind, ok_bindR, ok_ite, ok_some, bne_self_eq_false, Bool.false_eq_true, false_implies, true_and, not_false_eq_true, true_implies]
  have rb : ∀ i k : Nat, 0 ≤ sumN k (fun j => b1 (decide (i < j) && bf q (nth p j).toNat (nth p i).toNat)) ∧ sumN k (fun j => b1 (decide (i < j) && bf q (nth p j).toNat (nth p i).toNat)) ≤ k := fun i k => sumN_b1
  have tb : ∀ k : Nat, 0 ≤ sumN k (fun i => sumN n (fun j => b1 (decide (i < j) && bf q (nth p j).toNat (nth p i).toNat))) ∧ sumN k (fun i => sumN n (fun j => b1 (decide (i < j) && bf q (nth p j).toNat (nth p i).toNat))) ≤ 6 * k := by
    intro k
    induction k with
    | zero => simp [sumN]
    | succ k ih => simp only [sumN]; have := rb k n; omega
  refine ok_rangeL (s := (0 : Int)) (fun (i : Nat) (c : Int) => c = sumN i (fun i => sumN n (fun j => b1 (decide (i < j) && bf q (nth p j).toNat (nth p i).toNat)))) rfl (fun i x c hi hc => ?_) fun c hc => ?_
  · obtain ⟨hx, hil⟩ := nth_of hi
    rw [hpl] at hil
    unfold order_Far_b1
    rw [wadd_of (by omega) (by omega), List.take_length, show ((i : Int) + 1).toNat = i + 1 by omega]
    simp only [ok_bind, ok_chk, ok_bindF, ok_some]
    refine ⟨by omega, ?_⟩
    have vi := hp.val hil
    refine ok_rangeL (fun (j : Nat) (c' : Int) => c' = c + sumN (i + 1 + j) (fun j => b1 (decide (i < j) && bf q (nth p j).toNat (nth p i).toNat))) ?_ (fun j y c' hj hc' => ?_) fun c' hc' => ?_
    · rw [Nat.add_zero, sumN_congr (g := fun _ => 0) (fun j hj => by rw [decide_eq_false (by omega)]; rfl), sumN_zero]; omega
    · have hjl := (List.getElem?_eq_some_iff.1 hj).1
      rw [List.length_drop] at hjl
      rw [List.getElem?_drop] at hj
      obtain ⟨hy, hjn⟩ := nth_of hj
      rw [hpl] at hjn
      have vj := hp.val hjn
      have r1 := rb i (i + 1 + j)
      have t1 := tb i
      subst hc' hc hx hy
      unfold order_Far_b2
      rw [index_ok, index_ok, if_pos ((hq.mem _).2 vi), if_pos ((hq.mem _).2 vj)]
      simp only [Option.bind_some, ok_ite, ok_some, flok_nx, decide_eq_true_eq]
      rw [show i + 1 + (j + 1) = (i + 1 + j) + 1 by omega]
      have e : sumN (i + 1 + j + 1) (fun j => b1 (decide (i < j) && bf q (nth p j).toNat (nth p i).toNat)) = sumN (i + 1 + j) (fun j => b1 (decide (i < j) && bf q (nth p j).toNat (nth p i).toNat)) + b1 (bf q (nth p (i + 1 + j)).toNat (nth p i).toNat) := by
        simp only [sumN]; rw [decide_eq_true (show i < i + 1 + j by omega), Bool.true_and]
      have eb : bf q (nth p (i + 1 + j)).toNat (nth p i).toNat = decide (q.idxOf (nth p (i + 1 + j)) < q.idxOf (nth p i)) := by
        unfold bf; rw [Int.toNat_of_nonneg vi.1, Int.toNat_of_nonneg vj.1]
      rw [e, eb]
      refine ⟨fun hgt => ?_, fun hle => ?_⟩
      · rw [wadd_of (by omega) (by omega), decide_eq_true (by omega)]; simp only [b1, if_true]; omega
      · rw [decide_eq_false (by omega)]; simp [b1]
    · rw [List.length_drop, hpl, show i + 1 + (n - (i + 1)) = n by omega] at hc'
      rw [hc', hc]; rfl
  · rw [hpl, ← kt_pos hp] at hc
    rw [hc]
theorem kt_comm (n : Nat) (p q : List Int) : kt n p q = kt n q p := by
  unfold kt
  rw [sumN_comm]
  exact sumN_congr fun x _ => sumN_congr fun y _ => by rw [Bool.and_comm]
theorem kt_third {n : Nat} {p q r : List Int} (hq : Ord n q) : kt n p r ≤ kt n p q + kt n q r := by
  unfold kt
  rw [← sumN_add]
  refine sumN_le fun x hx => ?_
  rw [← sumN_add]
  refine sumN_le fun y hy => ?_
  by_cases hxy : x = y
  · subst hxy; simp [bf_self, b1]
  · have := bf_or hq hx hy hxy
    cases h1 : bf p x y <;> cases h2 : bf r y x <;> cases h3 : bf q y x <;> rw [h3] at this <;> simp [b1, this]
theorem sumN_pos_ex {n : Nat} {f : Nat → Int} (h : ∀ x, x < n → 0 ≤ f x) (h0 : sumN n f = 0) : ∀ x, x < n → f x = 0 := by
  induction n with
  | zero => intro x hx; omega
  | succ n ih =>
    simp only [sumN] at h0
    have a := sumN_le (f := fun _ => 0) (g := f) (n := n) fun x hx => h x (by omega)
    rw [sumN_zero] at a
    have b := h n (by omega)
    intro x hx
    by_cases hxn : x = n
    · subst hxn; omega
    · exact ih (fun x hx => h x (by omega)) (by omega) x (by omega)
/-- how many stand ahead -/
theorem ahead_count {n : Nat} {p : List Int} (h : Ord n p) {x : Nat} (hx : x < n) : sumN n (fun y => b1 (bf p y x)) = p.idxOf (x : Int) := by
  rw [← ord_sum h]
  have hi := h.idx_lt hx
  have hat := h.at_idx hx
  have : sumN n (fun i => b1 (bf p (nth p i).toNat x)) = sumN n (fun i => if i < p.idxOf (x : Int) then (1 : Int) else 0) := sumN_congr fun i hi' => by
    have := bf_at h hi' hi
    rw [hat, Int.toNat_natCast] at this
    rw [this]; unfold b1; simp
  rw [this, sumN_lt_one (f := fun _ => 1) (by omega), sumN_const]; omega
theorem behind_count {n : Nat} {p : List Int} (h : Ord n p) {x : Nat} (hx : x < n) : sumN n (fun y => b1 (bf p x y)) = n - 1 - p.idxOf (x : Int) := by
  have e1 := ahead_count h hx
  have e2 : sumN n (fun y => b1 (bf p x y) + b1 (bf p y x)) = sumN n (fun y => 1 - if y = x then 1 else 0) := sumN_congr fun y hy => by
    by_cases hyx : y = x
    · subst hyx; simp [bf_self, b1]
    · have := bf_or h hx hy (Ne.symm hyx)
      cases h3 : bf p y x <;> rw [h3] at this <;> simp [b1, this, hyx]
  rw [sumN_add, sumN_sub, sumN_const, sumN_single hx] at e2
  omega
theorem ord_ext {n : Nat} {p q : List Int} (hp : Ord n p) (hq : Ord n q) (h : ∀ x y, x < n → y < n → bf p x y = bf q x y) : p = q := by
  refine nth_ext (by rw [hp.len, hq.len]) fun k hk => ?_
  rw [hp.len] at hk
  have v := hp.val hk
  obtain ⟨x, hx⟩ : ∃ x : Nat, nth p k = x := ⟨(nth p k).toNat, by omega⟩
  have hxn : x < n := by omega
  have e1 := ahead_count hp hxn
  have e2 := ahead_count hq hxn
  have e3 : sumN n (fun y => b1 (bf p y x)) = sumN n (fun y => b1 (bf q y x)) := sumN_congr fun y hy => by rw [h y x hy hxn]
  have hi := hp.idx hk
  rw [hx] at hi
  have hj : q.idxOf (x : Int) = k := by omega
  have := hq.at_idx hxn
  rw [hj] at this
  rw [hx, this]
theorem kt_zero {n : Nat} {p q : List Int} (hp : Ord n p) (hq : Ord n q) : kt n p q = 0 ↔ p = q := by
  constructor
  · intro h0
    unfold kt at h0
    have h1 := sumN_pos_ex (fun x _ => (sumN_b1 (f := fun y => bf p x y && bf q y x)).1) h0
    refine ord_ext hp hq fun x y hx hy => ?_
    by_cases hxy : x = y
    · subst hxy; simp [bf_self]
    · have a := sumN_pos_ex (fun y _ => (b1_val _).1) (h1 x hx) y hy
      have b := sumN_pos_ex (fun y _ => (b1_val _).1) (h1 y hy) x hx
      have c := bf_or hp hx hy hxy
      have d := bf_or hq hx hy hxy
      cases h3 : bf p y x <;> cases h4 : bf q y x <;> rw [h3] at c b <;> rw [h4] at d a <;> rw [c] at a <;> rw [d] at b <;> simp [b1] at a b <;> rw [c, d]
  · rintro rfl
    unfold kt
    rw [sumN_congr (g := fun _ => 0) (fun x hx => ?_), sumN_zero]
    rw [sumN_congr (g := fun _ => 0) (fun y hy => ?_), sumN_zero]
    by_cases hxy : x = y
    · subst hxy; simp [bf_self, b1]
    · have c := bf_or hp hx hy hxy
      cases h3 : bf p y x <;> rw [h3] at c <;> simp [b1, c]
theorem orders_t : pk_orders_m = some true := by decide +kernel
end Go.Pu
/- What the helpers of the laws answer: good, Contains. -/
set_option linter.all false
namespace Go.Pu
open Go.Fw Go.Mo
theorem good_at (l : List Int) : pk_good_m l = some (l.all (· == 0)) := by
  unfold pk_good_m slices_ContainsFunc_api_Errno_api_Errno_m slices_IndexFunc_api_Errno_api_Errno_m
  rw [rangeL_first (γ := Unit) (fun x => x != 0) l (fun i x _ => by
    unfold slices_IndexFunc_api_Errno_api_Errno_b1 pk_good_1_m
    simp only [Option.bind_some])]
  by_cases hl : l.any (fun x => x != 0) = true
  · rw [if_pos hl]
    simp only [bindR, Option.bind_some]
    have h1 : l.all (· == 0) = false := by
      rw [List.any_eq_true] at hl
      obtain ⟨x, hx, hx'⟩ := hl
      rw [List.all_eq_false]
      exact ⟨x, hx, by simpa using hx'⟩
    rw [h1]
    simp only [Nat.zero_add, Option.some.injEq, Bool.not_eq_false', decide_eq_true_eq]
    omega
  · rw [if_neg hl]
    have h1 : l.all (· == 0) = true := by
      rw [List.all_eq_true]
      intro x hx
      have : ¬ ∃ x, x ∈ l ∧ (x != 0) = true := by rwa [List.any_eq_true] at hl
      by_cases h : x = 0
      · simp [h]
      · exact absurd ⟨x, hx, by simpa using h⟩ this
    rw [h1]; rfl
end Go.Pu
/- The plain law: points are the duels' votes, a pair has all votes, and firsts are as many as votes. -/
set_option linter.all false
namespace Go.Pu
open Go.Fw Go.Mo
def pts (n : Nat) : List (List Int) → Nat → Int
  | [], _ => 0
  | p :: v, x => pts n v x + (n - 1 - p.idxOf (x : Int))
def fst1 : List (List Int) → Nat → Int
  | [], _ => 0
  | p :: v, x => fst1 v x + if p.idxOf (x : Int) = 0 then 1 else 0
theorem pts_append (n : Nat) (v w : List (List Int)) (x : Nat) : pts n (v ++ w) x = pts n v x + pts n w x := by
  induction v with
  | nil => simp [pts]
  | cons p v ih => simp only [List.cons_append, pts, ih]; omega
theorem fst1_append (v w : List (List Int)) (x : Nat) : fst1 (v ++ w) x = fst1 v x + fst1 w x := by
  induction v with
  | nil => simp [fst1]
  | cons p v ih => simp only [List.cons_append, fst1, ih]; omega
theorem pts_bound {n : Nat} (h0 : 1 ≤ n) (h6 : n ≤ 6) {v : List (List Int)} (h : ∀ p ∈ v, Ord n p) {x : Nat} (hx : x < n) : 0 ≤ pts n v x ∧ pts n v x ≤ 6 * v.length := by
  induction v with
  | nil => simp [pts]
  | cons p v ih =>
    have := ih fun q hq => h q (by simp [hq])
    have := (h p (by simp)).idx_lt hx
    simp only [pts, List.length_cons]; omega
theorem fst1_bound (v : List (List Int)) (x : Nat) : 0 ≤ fst1 v x ∧ fst1 v x ≤ v.length := by
  induction v with
  | nil => simp [fst1]
  | cons p v ih => simp only [fst1, List.length_cons]; split <;> omega
theorem points_ok {n : Nat} {v : List (List Int)} (h0 : 1 ≤ n) (h6 : n ≤ 6) (h : Votes n v) : ∃ a, tally_Points_m (n : Int) v = some (a, 0) ∧ Vec n a (pts n v) := by
  have : Ok (tally_Points_m (n : Int) v) (fun r => r.2 = 0 ∧ Vec n r.1 (pts n v)) := by
    unfold tally_Points_m
    rw [tally_check h0 h6 h]
    simp only [ok_bind, ok_ite, ok_chk, ok_bindR, ok_some, Int.toNat_natCast, bne_self_eq_false, Bool.false_eq_true, false_implies, true_and, not_false_eq_true, true_implies]
    refine ⟨by omega, ok_rangeL (fun k a => Vec n a (pts n (v.take k))) (Vec.zero.congr fun x _ => by simp [pts]) (fun k p a hk hI => ?_) fun a ha => by rw [List.take_length] at ha; exact ha⟩
    have hp := h.2 p (List.mem_of_getElem? hk)
    have hkl := (List.getElem?_eq_some_iff.1 hk).1
    have pb : ∀ x, x < n → 0 ≤ pts n (v.take k) x ∧ pts n (v.take k) x ≤ 200 := fun x hx => by
      have := pts_bound h0 h6 (v := v.take k) (fun q hq => h.2 q (List.mem_of_mem_take hq)) hx
      have := h.1
      rw [List.length_take] at *; omega
    unfold tally_Points_b1
    simp only [ok_bindF, ok_some]
    refine ok_rangeL (fun i a => Vec n a (fun x => pts n (v.take k) x + if p.idxOf (x : Int) < i then ((n : Int) - 1 - p.idxOf (x : Int)) else 0)) (hI.congr fun x _ => by simp) (fun i y a hi hI => ?_) fun a ha => flok_nx.2 (ha.congr fun x hx => ?_)
    · obtain ⟨hy, hil⟩ := nth_of hi
      rw [hp.len] at hil
      have vy := hp.val hil
      obtain ⟨x, hx⟩ : ∃ x : Nat, y = x := ⟨y.toNat, by omega⟩
      have hxn : x < n := by omega
      have hidx : p.idxOf (x : Int) = i := by rw [← hx, ← hy]; exact hp.idx hil
      have b := pb x hxn
      subst hx
      unfold tally_Points_b2
      simp only [idx_nat, hI.at? hxn, Option.bind_some, ok_some, flok_nx, Int.toNat_natCast, hidx, Nat.lt_irrefl, if_false]
      rw [wsub_of (x := (n : Int)) (by omega) (by omega), wsub_of (by omega) (by omega), wadd_of (by omega) (by omega)]
      refine (hI.set hxn _).congr fun z hz => ?_
      by_cases hzx : z = x
      · subst hzx; rw [if_pos rfl, if_pos (by omega), hidx]; omega
      · rw [if_neg hzx]
        have hne : p.idxOf (z : Int) ≠ i := fun e => hzx (hp.idx_inj hz hxn (by omega))
        by_cases hlt : p.idxOf (z : Int) < i
        · rw [if_pos hlt, if_pos (by omega)]
        · rw [if_neg hlt, if_neg (by omega)]
    · have := hp.idx_lt hx
      rw [hp.len, if_pos this, List.take_succ_eq_append_getElem hkl, pts_append]
      have e1 : v[k] = p := (List.getElem?_eq_some_iff.1 hk).2
      rw [e1]; simp only [pts]; omega
  obtain ⟨⟨a, e⟩, h1, h2, h3⟩ := this
  simp only at h2 h3
  subst h2
  exact ⟨a, h1, h3⟩
theorem firsts_ok {n : Nat} {v : List (List Int)} (h0 : 1 ≤ n) (h6 : n ≤ 6) (h : Votes n v) : ∃ a, tally_Firsts_m (n : Int) v = some (a, 0) ∧ Vec n a (fst1 v) := by
  have : Ok (tally_Firsts_m (n : Int) v) (fun r => r.2 = 0 ∧ Vec n r.1 (fst1 v)) := by
    unfold tally_Firsts_m
    rw [tally_check h0 h6 h]
    simp only [ok_bind, ok_ite, ok_chk, ok_bindR, ok_some, Int.toNat_natCast, bne_self_eq_false, Bool.false_eq_true, false_implies, true_and, not_false_eq_true, true_implies]
    refine ⟨by omega, ok_rangeL (fun k a => Vec n a (fst1 (v.take k))) (Vec.zero.congr fun x _ => by simp [fst1]) (fun k p a hk hI => ?_) fun a ha => by rw [List.take_length] at ha; exact ha⟩
    have hp := h.2 p (List.mem_of_getElem? hk)
    have hkl := (List.getElem?_eq_some_iff.1 hk).1
    have hn0 : 0 < n := by omega
    have vy := hp.val hn0
    obtain ⟨x, hx⟩ : ∃ x : Nat, nth p 0 = x := ⟨(nth p 0).toNat, by omega⟩
    have hxn : x < n := by omega
    have hidx : p.idxOf (x : Int) = 0 := by rw [← hx]; exact hp.idx hn0
    have b := fst1_bound (v.take k) x
    have hb : ((v.take k).length : Int) ≤ 30 := by rw [List.length_take]; have := h.1; omega
    unfold tally_Firsts_b1
    rw [show idx p (0 : Int) = some (x : Int) by rw [show (0 : Int) = ((0 : Nat) : Int) from rfl, idx_nat, nth_at (by rw [hp.len]; exact hn0), hx]]
    simp only [idx_nat, hI.at? hxn, Option.bind_some, ok_some, flok_nx, Int.toNat_natCast]
    rw [wadd_of (by omega) (by omega)]
    refine (hI.set hxn _).congr fun z hz => ?_
    rw [List.take_succ_eq_append_getElem hkl, fst1_append]
    have e1 : v[k] = p := (List.getElem?_eq_some_iff.1 hk).2
    rw [e1]; simp only [fst1]
    by_cases hzx : z = x
    · subst hzx; rw [if_pos rfl, if_pos hidx]; omega
    · rw [if_neg hzx, if_neg fun e => hzx (hp.idx_inj hz hxn (by omega))]; omega
  obtain ⟨⟨a, e⟩, h1, h2, h3⟩ := this
  simp only at h2 h3
  subst h2
  exact ⟨a, h1, h3⟩
theorem duel_pts {n : Nat} {v : List (List Int)} (h : ∀ p ∈ v, Ord n p) {x : Nat} (hx : x < n) : sumN n (fun y => duel v x y) = pts n v x := by
  induction v with
  | nil => simp only [duel, pts, sumN_zero]
  | cons p v ih =>
    have := ih fun q hq => h q (by simp [hq])
    simp only [duel, pts]
    rw [sumN_add, this]
    have := behind_count (h p (by simp)) hx
    unfold b1 at this
    rw [this]
theorem fst1_sum {n : Nat} (h0 : 1 ≤ n) {v : List (List Int)} (h : ∀ p ∈ v, Ord n p) : sumN n (fst1 v) = v.length := by
  induction v with
  | nil => simp only [fst1, sumN_zero, List.length_nil]; rfl
  | cons p v ih =>
    have e := ih fun q hq => h q (by simp [hq])
    have hp := h p (by simp)
    have : sumN n (fst1 (p :: v)) = sumN n (fst1 v) + sumN n (fun x => if x = (nth p 0).toNat then 1 else 0) := by
      rw [← sumN_add]
      refine sumN_congr fun x hx => ?_
      simp only [fst1]
      congr 1
      have v0 := hp.val (show 0 < n by omega)
      by_cases hxz : x = (nth p 0).toNat
      · rw [if_pos hxz, if_pos]
        rw [hxz, Int.toNat_of_nonneg v0.1]; exact hp.idx (by omega)
      · rw [if_neg hxz, if_neg]
        intro e; apply hxz
        have := hp.at_idx hx
        rw [e] at this; omega
    have v0 := hp.val (show 0 < n by omega)
    rw [this, e, sumN_single (by omega), List.length_cons]; omega
theorem tallies_t' : pk_tallies_m = some true := by decide +kernel
theorem TallySums (x0 : Int) (_ : (Lit.int .i64 x0).wf = true) (x1 : List (List Int)) (_ : (∀ r ∈ x1, (∀ x ∈ r, (Lit.int .i64 x).wf = true) ∧ r.length ≤ maxLen) ∧ x1.length ≤ maxLen) : pk_TallySums_m x0 x1 = some true := by
  obtain ⟨n, n1, n6, hn⟩ := one_within x0 6 (by decide) (by decide)
  rw [show ((6 : Nat) : Int) = 6 from rfl] at hn
  obtain ⟨v, ev, _, hv⟩ := votesOf_ok n x1 n1 n6
  obtain ⟨m, em, hM⟩ := duels_ok n1 n6 hv
  obtain ⟨a, ea, ha⟩ := points_ok n1 n6 hv
  obtain ⟨f, ef, hf⟩ := firsts_ok n1 n6 hv
  have hvl := hv.1
  apply Ok.eq
  unfold pk_TallySums_m
  rw [tallies_t']
  simp only [Option.bind_some, Bool.not_true, Bool.false_eq_true, if_false, within_at x0 6 (by decide) (by decide), hn, ev, em, ea, ef, good_at]
  simp only [ok_bind, ok_bindR, ok_ite, ok_chk, ok_some, flok_nx, hM.len, ha.len, hf.len, List.all_cons, List.all_nil, Bool.and_self, beq_self_eq_true, bne_self_eq_false, Bool.not_true, Bool.false_eq_true, false_implies, true_and, not_false_eq_true, true_implies, Int.toNat_natCast]
  refine ⟨by omega, ok_rangeN (s := (0 : Int)) (fun (x : Nat) (c : Int) => c = sumN x (fst1 v)) rfl (fun x c hx hc => ?_) fun c hc => ?_⟩
  · have fb : ∀ k : Nat, 0 ≤ sumN k (fst1 v) ∧ sumN k (fst1 v) ≤ 30 * k := by
      intro k
      induction k with
      | zero => simp [sumN]
      | succ k ih => simp only [sumN]; have := fst1_bound v k; omega
    have fx := fb x
    have f1 := fst1_bound v x
    have dp := duel_pts hv.2 hx
    unfold pk_TallySums_b1
    simp only [idx_nat, hM.row? hx, Option.bind_some, ok_bind, ok_chk, ok_ite, ok_bindF, ok_some, flok_nx, flok_rt, hM.row x hx, hn, bne_self_eq_false, Bool.false_eq_true, false_implies, true_and, not_false_eq_true, true_implies, Int.toNat_natCast]
    refine ⟨by omega, ok_rangeN (s := (0 : Int)) (fun (y : Nat) (c : Int) => c = sumN y (fun y => duel v x y)) rfl (fun y c hy hc => ?_) fun d hd => ?_⟩
    · have db : ∀ k : Nat, 0 ≤ sumN k (fun y => duel v x y) ∧ sumN k (fun y => duel v x y) ≤ 30 * k := by
        intro k
        induction k with
        | zero => simp [sumN]
        | succ k ih => simp only [sumN]; have := duel_bound v x k; omega
      have d1 := db y
      have d2 := duel_bound v x y
      have d3 := duel_bound v y x
      have ds : x ≠ y → duel v x y + duel v y x = v.length := fun h => duel_sum hv.2 hx hy h
      unfold pk_TallySums_b2
      simp only [idx_nat, hM.row? hx, hM.row? hy, hM.cell? hx hy, hM.cell? hy hx, Option.bind_some, ok_bindF, ok_ite, ok_some, flok_nx, flok_rt, hM.row y hy, hn, bne_self_eq_false, Bool.false_eq_true, false_implies, true_and, not_false_eq_true, true_implies, bne_iff_ne]
      subst hc
      rw [wadd_of (x := duel v x y) (by omega) (by omega), wadd_of (by omega) (by omega)]
      simp only [sumN]
      grind
    · rw [dp] at hd
      subst hd hc
      simp only [flok_nx, idx_nat, hf.at? hx, ha.at? hx, Option.bind_some, ok_bindF, ok_ite, ok_some, flok_rt, bne_self_eq_false, decide_eq_true_eq, Bool.false_eq_true, false_implies, true_and, not_false_eq_true, true_implies]
      rw [wadd_of (by omega) (by omega)]
      simp only [sumN]
      grind
  · rw [fst1_sum n1 hv.2] at hc
    simp [flok_nx, ok_some, hc]
end Go.Pu
/- What slices.Reverse comes to; orders and votes the other way round. -/
set_option linter.all false
namespace Go.Pu
open Go.Fw Go.Mo
theorem reverse_gen {α ρ : Type} [Inhabited α] {body : List α × Int × Int → Option (Fl ρ (List α × Int × Int) (List α × Int × Int))}
    (hb : ∀ l x y, body (l, x, y) = if decide (x < y) then (idx l y).bind fun a => (idx l x).bind fun b => (idx l x).bind fun _ => (idx (List.set l x.toNat a) y).bind fun _ => some (.nx ((List.set (List.set l x.toNat a) y.toNat b), wadd x 1, wsub y 1)) else some (.br (l, x, y)))
    (l : List α) (h : l.length ≤ 1000000) : Ok (loopM (γ := Unit) body 1048576 (l, (0 : Int), wsub (l.length : Int) 1)) (FlOk (fun s => s.1 = l.reverse) (fun _ => False) (fun _ => False)) := by
  rw [wsub_of (by omega) (by omega)]
  refine ok_loopM (fun s => s.1.length = l.length ∧ 0 ≤ s.2.1 ∧ s.2.1 ≤ s.2.2 + 1 ∧ s.2.1 + s.2.2 = (l.length : Int) - 1 ∧ ∀ k : Nat, k < l.length → nth s.1 k = if (k : Int) < s.2.1 ∨ s.2.2 < (k : Int) then nth l (l.length - 1 - k) else nth l k) (fun s => (s.2.2 - s.2.1 + 1).toNat) (fun s hs => ?_) 1048576 _ ⟨rfl, by simp, by simp, by simp, fun k hk => ?_⟩ ?_
  · obtain ⟨m, x, y⟩ := s
    obtain ⟨h1, h2, h3, h4, h5⟩ := hs
    simp only at h1 h2 h3 h4 h5
    rw [hb]
    simp only [decide_eq_true_eq]
    rw [ok_ite]
    refine ⟨fun hlt => ?_, fun hge => ?_⟩
    · simp only [ok_bind, ok_idx, ok_some, flok_nx, List.length_set, h1]
      rw [wadd_of (by omega) (by omega), wsub_of (by omega) (by omega)]
      refine ⟨by omega, by omega, by omega, by omega, by omega, by omega, by omega, by omega, ⟨trivial, by omega, by omega, by omega, fun k hk => ?_⟩, by omega⟩
      have e1 := h5 x.toNat (by omega)
      have e2 := h5 y.toNat (by omega)
      rw [if_neg (by omega)] at e1 e2
      rw [nth_set (by rw [List.length_set]; omega), nth_set (by omega), e1, e2]
      have hx : l.length - 1 - x.toNat = y.toNat := by omega
      have hy : l.length - 1 - y.toNat = x.toNat := by omega
      by_cases c1 : k = y.toNat
      · subst c1; rw [if_pos rfl, if_pos (by omega), hy]
      · rw [if_neg c1]
        by_cases c2 : k = x.toNat
        · subst c2; rw [if_pos rfl, if_pos (by omega), hx]
        · rw [if_neg c2, h5 k hk]
          by_cases c3 : (k : Int) < x ∨ y < (k : Int)
          · rw [if_pos c3, if_pos (by omega)]
          · rw [if_neg c3, if_neg (by omega)]
    · rw [ok_some, flok_br]
      refine nth_ext (by rw [h1, List.length_reverse]) fun k hk => ?_
      rw [h1] at hk
      have hr : nth l.reverse k = nth l (l.length - 1 - k) := by
        rw [nth_get (by rw [List.length_reverse]; exact hk), nth_get (by omega), List.getElem_reverse]
      rw [h5 k hk, hr]
      split
      · rfl
      · rw [show l.length - 1 - k = k by omega]
  · simp only
    rw [if_neg (by omega)]
  · simp only; omega
theorem reverse_ok (l : List Int) (h : l.length ≤ 1000000) : slices_Reverse_int_int_m l = some l.reverse := by
  apply Ok.eq
  unfold slices_Reverse_int_int_m
  rw [ok_bindR]
  refine (reverse_gen (fun l x y => rfl) l h).mono ?_
  rintro (⟨m, x, y⟩ | _ | _) hs
  · exact ok_some.2 hs
  · exact hs.elim
  · exact hs.elim
theorem reverse_rows_ok (l : List (List Int)) (h : l.length ≤ 1000000) : slices_Reverse_rows_m l = some l.reverse := by
  apply Ok.eq
  unfold slices_Reverse_rows_m
  rw [ok_bindR]
  refine (reverse_gen (fun l x y => rfl) l h).mono ?_
  rintro (⟨m, x, y⟩ | _ | _) hs
  · exact ok_some.2 hs
  · exact hs.elim
  · exact hs.elim
theorem clone_ok (l : List Int) (h : l.length ≤ 1000000) : slices_Clone_int_int_m l = some l := by
  unfold slices_Clone_int_int_m; rw [chk_t (by omega)]; rfl
theorem nth_rev {α : Type} [Inhabited α] {l : List α} {k : Nat} (h : k < l.length) : nth l.reverse k = nth l (l.length - 1 - k) := by
  rw [nth_get (by rw [List.length_reverse]; exact h), nth_get (by omega), List.getElem_reverse]
theorem Ord.rev {n : Nat} {p : List Int} (h : Ord n p) : Ord n p.reverse := h.perm (List.reverse_perm p)
theorem rev_idx {n : Nat} {p : List Int} (h : Ord n p) {x : Nat} (hx : x < n) : p.reverse.idxOf (x : Int) = n - 1 - p.idxOf (x : Int) := by
  have hi := h.idx_lt hx
  have e : nth p.reverse (n - 1 - p.idxOf (x : Int)) = x := by
    rw [nth_rev (by rw [h.len]; omega), h.len, show n - 1 - (n - 1 - p.idxOf (x : Int)) = p.idxOf (x : Int) by omega]
    exact h.at_idx hx
  have := h.rev.idx (k := n - 1 - p.idxOf (x : Int)) (by omega)
  rw [e] at this
  exact this
theorem rev_bf {n : Nat} {p : List Int} (h : Ord n p) {x y : Nat} (hx : x < n) (hy : y < n) : bf p.reverse x y = bf p y x := by
  unfold bf
  rw [rev_idx h hx, rev_idx h hy]
  have := h.idx_lt hx
  have := h.idx_lt hy
  congr 1
  apply propext; omega
def turnV (v : List (List Int)) : List (List Int) := v.map List.reverse
theorem turn_votes {n : Nat} {v : List (List Int)} (hv : Votes n v) : Votes n (turnV v) := ⟨by unfold turnV; rw [List.length_map]; exact hv.1, fun q hq => by
  obtain ⟨p, hp, rfl⟩ := List.mem_map.1 hq
  exact (hv.2 p hp).rev⟩
theorem turn_duel {n : Nat} {v : List (List Int)} (hv : ∀ p ∈ v, Ord n p) {x y : Nat} (hx : x < n) (hy : y < n) : duel (turnV v) x y = duel v y x := by
  induction v with
  | nil => rfl
  | cons p v ih =>
    have := ih fun q hq => hv q (by simp [hq])
    unfold turnV at this ⊢
    simp only [List.map_cons, duel, this, rev_bf (hv p (by simp)) hx hy]
theorem turn_pts {n : Nat} {v : List (List Int)} (hv : ∀ p ∈ v, Ord n p) {x : Nat} (hx : x < n) : pts n v x + pts n (turnV v) x = ((n : Int) - 1) * v.length := by
  induction v with
  | nil => simp [pts, turnV]
  | cons p v ih =>
    have := ih fun q hq => hv q (by simp [hq])
    have h1 := rev_idx (hv p (by simp)) hx
    have h2 := (hv p (by simp)).idx_lt hx
    unfold turnV at this ⊢
    simp only [List.map_cons, pts, List.length_cons, h1]
    rw [Int.natCast_add, Int.mul_add]
    omega
theorem turned_ok {n : Nat} (h6 : n ≤ 6) {v : List (List Int)} (hv : Votes n v) : pk_turned_m v = some (turnV v) := by
  apply Ok.eq
  unfold pk_turned_m
  have h30 := hv.1
  rw [ok_bindR]
  refine ok_rangeL (fun k (s : List (List Int)) => s = turnV (v.take k)) rfl (fun k r s hk hI => ?_) fun s hs => by rw [ok_some, hs, List.take_length]
  have et : v.take (k + 1) = v.take k ++ [r] := by rw [List.take_succ, hk]; rfl
  have hr : Ord n r := hv.2 r (List.mem_of_getElem? hk)
  have hrl := hr.len
  have sl : s.length ≤ 30 := by rw [hI]; unfold turnV; rw [List.length_map, List.length_take]; omega
  unfold pk_turned_b1
  rw [clone_ok r (by omega), Option.bind_some, reverse_ok r (by omega), Option.bind_some, chk_t (by simp; omega), Option.bind_some, ok_some, flok_nx, et, hI]
  unfold turnV
  rw [List.map_append]; rfl
end Go.Pu
/- Tables of duels: the check. -/
set_option linter.all false
namespace Go.Pu
open Go.Fw Go.Mo
structure Tab (n : Nat) (m : List (List Int)) (d : Nat → Nat → Int) : Prop where
  mat : Mat n n m d
  n1 : 1 ≤ n
  n6 : n ≤ 6
  val : ∀ x y, x < n → y < n → 0 ≤ d x y ∧ d x y ≤ 30
  diag : ∀ x, x < n → d x x = 0
theorem tab_check (m : List (List Int)) : Ok (duel_Check_m m) (fun e => e = 0 → Tab m.length m (fun x y => nth (nth m x) y)) := by
  unfold duel_Check_m
  simp only [ok_ite, ok_some, ok_bindR, decide_eq_true_eq, flok_nx]
  refine ⟨fun _ => by simp, fun _ => ⟨fun _ => by omega, fun _ => ?_⟩⟩
  refine ok_rangeL (fun k _ => ∀ x, x < k → (nth m x).length = m.length ∧ ∀ y, y < m.length → 0 ≤ nth (nth m x) y ∧ nth (nth m x) y ≤ 30) (by intro x hx; omega) (fun k r s hk hI => ?_) fun s hs => ?_
  · obtain ⟨hr, hkl⟩ := nth_of hk
    unfold duel_Check_b1
    simp only [ok_ite, ok_some, ok_bindF, bne_iff_ne, flok_rt, flok_nx]
    refine ⟨fun _ => by omega, fun hlen => ?_⟩
    refine ok_rangeL (fun j _ => ∀ y, y < j → 0 ≤ nth r y ∧ nth r y ≤ 30) (by intro y hy; omega) (fun j v s hj hJ => ?_) fun s hs x hx => ?_
    · obtain ⟨hv, _⟩ := nth_of hj
      unfold duel_Check_b2
      simp only [ok_ite, ok_some, ok_bindF, decide_eq_true_eq, flok_rt, flok_nx]
      grind
    · by_cases hxk : x = k
      · subst hxk; rw [hr]; exact ⟨by omega, fun y hy => hs y (by omega)⟩
      · exact hI x (by omega)
  · refine ok_rangeL (fun k _ => ∀ x, x < k → nth (nth m x) x = 0) (by intro x hx; omega) (fun k r s hk hI => ?_) fun s hd => ?_
    · obtain ⟨hr, hkl⟩ := nth_of hk
      unfold duel_Check_b3
      have h1 := hs k hkl
      rw [hr] at h1
      simp only [idx_nat, nth_at (show k < r.length by omega), Option.bind_some, ok_ite, ok_some, flok_rt, flok_nx, bne_iff_ne]
      grind
    · intro _
      exact ⟨⟨rfl, fun x hx => (hs x hx).1, fun _ _ _ _ => rfl⟩, by omega, by omega, fun x y hx hy => (hs x hx).2 y hy, hd⟩
theorem tab_ok {n : Nat} {m : List (List Int)} {d : Nat → Nat → Int} (h : Tab n m d) : duel_Check_m m = some 0 := by
  apply Ok.eq
  unfold duel_Check_m
  have hn := h.mat.len; have h1 := h.n1; have h6 := h.n6
  simp only [ok_ite, ok_some, ok_bindR, decide_eq_true_eq, flok_nx]
  refine ⟨fun _ => by omega, fun _ => ⟨fun _ => by omega, fun _ => ?_⟩⟩
  refine ok_rangeL (fun k _ => True) trivial (fun k r s hk _ => ?_) fun s _ => ?_
  · obtain ⟨hr, hkl⟩ := nth_of hk
    have hlen := h.mat.row k (by omega)
    rw [hr] at hlen
    unfold duel_Check_b1
    simp only [ok_ite, ok_some, ok_bindF, bne_iff_ne, flok_rt, flok_nx]
    refine ⟨fun _ => by omega, fun _ => ?_⟩
    refine ok_rangeL (fun j _ => True) trivial (fun j v s hj _ => ?_) fun s _ => trivial
    obtain ⟨hv, hjl⟩ := nth_of hj
    have := h.val k j (by omega) (by omega)
    rw [← h.mat.at_ k j (by omega) (by omega), hr, hv] at this
    unfold duel_Check_b2
    simp only [ok_ite, ok_some, ok_bindF, decide_eq_true_eq, flok_rt, flok_nx]
    grind
  · refine ok_rangeL (fun k _ => True) trivial (fun k r s hk _ => ?_) fun s _ => by trivial
    obtain ⟨hr, hkl⟩ := nth_of hk
    have h2 := h.mat.row k (by omega)
    have h3 := h.diag k (by omega)
    rw [← h.mat.at_ k k (by omega) (by omega), hr] at h3
    rw [hr] at h2
    unfold duel_Check_b3
    simp only [idx_nat, nth_at (show k < r.length by omega), Option.bind_some, ok_ite, ok_some, flok_rt, flok_nx, bne_iff_ne]
    grind
theorem tab_split (m : List (List Int)) : (∃ d, Tab m.length m d ∧ duel_Check_m m = some 0) ∨ ∃ e, e ≠ 0 ∧ duel_Check_m m = some e := by
  obtain ⟨e, h1, h2⟩ := tab_check m
  by_cases he : e = 0
  · subst he; exact .inl ⟨_, h2 rfl, h1⟩
  · exact .inr ⟨e, he, h1⟩
end Go.Pu
/- What slices.Equal answers. -/
set_option linter.all false
namespace Go.Pu
open Go.Fw Go.Mo
theorem equal_ok (a b : List Int) : slices_Equal_int_int_m a b = some (decide (a = b)) := by
  apply Ok.eq
  unfold slices_Equal_int_int_m
  simp only [ok_ite, ok_some, ok_bindR, bne_iff_ne]
  refine ⟨fun h => ?_, fun h => ?_⟩
  · rw [eq_comm, decide_eq_false_iff_not]; intro e; subst e; exact h rfl
  · have hl : a.length = b.length := by omega
    refine ok_rangeL (fun k _ => ∀ j, j < k → nth a j = nth b j) (by intro j hj; omega) (fun k x s hk hI => ?_) fun s hs => ?_
    · obtain ⟨hx, hka⟩ := nth_of hk
      unfold slices_Equal_int_int_b1
      simp only [idx_nat, nth_at (show k < b.length by omega), Option.bind_some, ok_ite, ok_some, flok_rt, flok_nx, bne_iff_ne]
      refine ⟨fun hne => ?_, fun heq j hj => ?_⟩
      · rw [eq_comm, decide_eq_false_iff_not]; intro e; subst e; exact hne hx.symm
      · by_cases hjk : j = k
        · subst hjk; rw [hx]; exact Classical.not_not.1 heq
        · exact hI j (by omega)
    · rw [eq_comm, decide_eq_true_eq]; exact nth_ext hl hs
end Go.Pu
/- The plain law: the greatest defeat. -/
set_option linter.all false
namespace Go.Pu
open Go.Fw Go.Mo
def IsWorst (n : Nat) (d : Nat → Nat → Int) (x : Nat) (v : Int) : Prop := 0 ≤ v ∧ v ≤ 30 ∧ (∀ y, y < n → d y x - d x y ≤ v) ∧ (v = 0 ∨ ∃ y, y < n ∧ v = d y x - d x y)
theorem worst_ok {n : Nat} {m : List (List Int)} {d : Nat → Nat → Int} (h : Tab n m d) : ∃ w, duel_Worst_m m = some (w, 0) ∧ w.length = n ∧ ∀ x, x < n → IsWorst n d x (nth w x) := by
  have : Ok (duel_Worst_m m) (fun r => r.2 = 0 ∧ r.1.length = n ∧ ∀ x, x < n → IsWorst n d x (nth r.1 x)) := by
    have hM := h.mat; have hn := hM.len
    unfold duel_Worst_m
    rw [tab_ok h]
    have := h.n6
    simp only [ok_bind, ok_ite, ok_chk, ok_bindR, ok_some, hn, Int.toNat_natCast, bne_self_eq_false, Bool.false_eq_true, false_implies, true_and, not_false_eq_true, true_implies]
    refine ⟨by omega, ok_rangeL (fun k w => w.length = n ∧ (∀ x, x < k → IsWorst n d x (nth w x)) ∧ ∀ x, k ≤ x → x < n → nth w x = 0) ⟨by simp, by intro x hx; omega, fun x _ hx => nth_replicate hx⟩ (fun k r w hk hI => ?_) fun w hw => ⟨hw.1, fun x hx => hw.2.1 x (by omega)⟩⟩
    obtain ⟨hr, hkl⟩ := nth_of hk
    rw [hn] at hkl
    subst hr
    obtain ⟨i1, i2, i3⟩ := hI
    unfold duel_Worst_b1
    simp only [ok_bindF, ok_some]
    refine ok_rangeL (fun j u => u.length = n ∧ (∀ x, x ≠ k → nth u x = nth w x) ∧ (0 ≤ nth u k ∧ nth u k ≤ 30 ∧ (∀ y, y < j → d y k - d k y ≤ nth u k) ∧ (nth u k = 0 ∨ ∃ y, y < n ∧ nth u k = d y k - d k y))) ⟨i1, fun x _ => rfl, by have := i3 k (Nat.le_refl _) hkl; grind⟩ (fun j q u hj hJ => ?_) fun u hu => ?_
    · obtain ⟨hq, hjl⟩ := nth_of hj
      rw [hn] at hjl
      subst hq
      obtain ⟨j1, j2, j3, j4, j5, j6⟩ := hJ
      have v1 := h.val k j hkl hjl
      have v2 := h.val j k hjl hkl
      unfold duel_Worst_b2
      simp only [idx_nat, hM.cell? hkl hjl, hM.cell? hjl hkl, nth_at (show k < u.length by omega), Option.bind_some, ok_some, flok_nx]
      rw [wsub_of (by omega) (by omega)]
      refine ⟨by simpa using j1, fun x hx => by rw [nth_set (by omega), if_neg hx]; exact j2 x hx, ?_⟩
      rw [nth_set (by omega), if_pos rfl]
      grind
    · refine flok_nx.2 ⟨hu.1, fun x hx => ?_, fun x hx hxn => ?_⟩
      · obtain ⟨_, u2, u3⟩ := hu
        by_cases hxk : x = k
        · subst hxk; rw [hn] at u3; exact ⟨u3.1, u3.2.1, u3.2.2.1, u3.2.2.2⟩
        · rw [u2 x hxk]; exact i2 x (by omega)
      · rw [hu.2.1 x (by omega)]; exact i3 x (by omega) hxn
  obtain ⟨⟨w, e⟩, h1, h2, h3⟩ := this
  simp only at h2 h3
  subst h2
  exact ⟨w, h1, h3⟩
end Go.Pu
/- Duels won, less those that are lost. -/
set_option linter.all false
namespace Go.Pu
open Go.Fw Go.Mo
def sgn (a b : Int) : Int := if b < a then 1 else if a < b then -1 else 0
def cope (n : Nat) (d : Nat → Nat → Int) (x : Nat) : Int := sumN n (fun y => sgn (d x y) (d y x))
theorem sgn_neg (a b : Int) : sgn a b = - sgn b a := by unfold sgn; by_cases h1 : b < a <;> by_cases h2 : a < b <;> simp [h1, h2] <;> omega
theorem sgn_val (a b : Int) : -1 ≤ sgn a b ∧ sgn a b ≤ 1 := by unfold sgn; split <;> (try split) <;> omega
theorem cope_bound {n : Nat} {f : Nat → Int} (h : ∀ x, -1 ≤ f x ∧ f x ≤ 1) : -(n : Int) ≤ sumN n f ∧ sumN n f ≤ n := by
  induction n with
  | zero => simp [sumN]
  | succ n ih => simp only [sumN]; have := h n; omega
theorem wins_ok {n : Nat} {m : List (List Int)} {d : Nat → Nat → Int} (h : Tab n m d) : ∃ w, duel_Wins_m m = some (w, 0) ∧ Vec n w (cope n d) := by
  have : Ok (duel_Wins_m m) (fun r => r.2 = 0 ∧ Vec n r.1 (cope n d)) := by
    have hM := h.mat; have hn := hM.len
    unfold duel_Wins_m
    rw [tab_ok h]
    have h6 := h.n6
    simp only [ok_bind, ok_ite, ok_chk, ok_bindR, ok_some, hn, Int.toNat_natCast, bne_self_eq_false, Bool.false_eq_true, false_implies, true_and, not_false_eq_true, true_implies]
    refine ⟨by omega, ok_rangeL (fun k w => Vec n w (fun x => if x < k then cope n d x else 0)) (Vec.zero.congr fun x _ => by simp) (fun k r w hk hI => ?_) fun w hw => hw.congr fun x hx => by rw [hn, if_pos hx]⟩
    obtain ⟨hr, hkl⟩ := nth_of hk
    rw [hn] at hkl
    subst hr
    unfold duel_Wins_b1
    simp only [ok_bindF, ok_some]
    refine ok_rangeL (fun j u => Vec n u (fun x => if x < k then cope n d x else if x = k then sumN j (fun y => sgn (d k y) (d y k)) else 0)) (hI.congr fun x hx => ?_) (fun j q u hj hJ => ?_) fun u hu => flok_nx.2 (hu.congr fun x hx => ?_)
    · by_cases h1 : x < k
      · simp [h1]
      · by_cases h2 : x = k <;> simp [h1, h2, sumN]
    · obtain ⟨hq, hjl⟩ := nth_of hj
      rw [hn] at hjl
      subst hq
      have hb := cope_bound (n := j) (f := fun y => sgn (d k y) (d y k)) fun x => sgn_val _ _
      have g1 : u[k]? = some (sumN j (fun y => sgn (d k y) (d y k))) := by rw [hJ.at? hkl, if_neg (by omega), if_pos rfl]
      unfold duel_Wins_b2
      simp only [idx_nat, hM.cell? hkl hjl, hM.cell? hjl hkl, g1, Option.bind_some, ok_ite, ok_some, flok_nx, decide_eq_true_eq]
      have step : ∀ v, v = sumN (j + 1) (fun y => sgn (d k y) (d y k)) → Vec n (u.set k v) (fun x => if x < k then cope n d x else if x = k then sumN (j + 1) (fun y => sgn (d k y) (d y k)) else 0) := fun v hv => (hJ.set hkl v).congr fun x hx => by
        by_cases hxk : x = k
        · subst hxk; simp [hv]
        · simp [hxk]
      refine ⟨fun hgt => step _ ?_, fun hng => ⟨fun hlt => step _ ?_, fun hnl => ?_⟩⟩
      · rw [wadd_of (by omega) (by omega)]; simp only [sumN, sgn]; rw [if_pos (by omega)]
      · rw [wsub_of (by omega) (by omega)]; simp only [sumN, sgn]; rw [if_neg (by omega), if_pos (by omega)]; omega
      · refine hJ.congr fun x hx => ?_
        have : sumN (j + 1) (fun y => sgn (d k y) (d y k)) = sumN j (fun y => sgn (d k y) (d y k)) := by simp only [sumN, sgn]; rw [if_neg (by omega), if_neg (by omega)]; omega
        rw [this]
    · by_cases h1 : x < k
      · rw [if_pos h1, if_pos (by omega)]
      · by_cases h2 : x = k
        · subst h2; rw [if_neg h1, if_pos rfl, if_pos (by omega), hn]; rfl
        · rw [if_neg h1, if_neg h2, if_neg (by omega)]
  obtain ⟨⟨w, e⟩, h1, h2, h3⟩ := this
  simp only at h2 h3
  subst h2
  exact ⟨w, h1, h3⟩
theorem cope_sum (n : Nat) (d : Nat → Nat → Int) : sumN n (cope n d) = 0 := by
  have h1 : sumN n (cope n d) = sumN n (fun y => sumN n (fun x => sgn (d x y) (d y x))) := sumN_comm
  have h2 : sumN n (cope n d) = - sumN n (fun y => sumN n (fun x => sgn (d x y) (d y x))) := by
    unfold cope
    rw [← sumN_neg]
    refine sumN_congr fun x _ => ?_
    rw [← sumN_neg]
    exact sumN_congr fun y _ => sgn_neg _ _
  omega
end Go.Pu
/- The plain law: of two sides each rule takes the one that more put first (May). -/
set_option linter.all false
namespace Go.Pu
open Go.Fw Go.Mo
theorem ord2 {p : List Int} (h : Ord 2 p) : p = [0, 1] ∨ p = [1, 0] := by
  have hl := h.len
  match p, hl with
  | [x, y], _ =>
    have h0 := (h.mem x).1 (by simp)
    have h1 := (h.mem y).1 (by simp)
    have hn := h.nd
    simp at hn
    rcases (show x = 0 ∨ x = 1 by omega) with e | e <;> rcases (show y = 0 ∨ y = 1 by omega) with e' | e' <;> subst e e' <;> simp_all
theorem two_sums : ∀ v : List (List Int), (∀ p ∈ v, Ord 2 p) → duel v 0 1 = fst1 v 0 ∧ duel v 1 0 = fst1 v 1 ∧ pts 2 v 0 = fst1 v 0 ∧ pts 2 v 1 = fst1 v 1
  | [], _ => ⟨rfl, rfl, rfl, rfl⟩
  | p :: v, h => by
    obtain ⟨a, b, c, d⟩ := two_sums v fun q hq => h q (by simp [hq])
    have e : duel (p :: v) 0 1 = duel v 0 1 + (if bf p 0 1 then 1 else 0) ∧ duel (p :: v) 1 0 = duel v 1 0 + (if bf p 1 0 then 1 else 0) := ⟨rfl, rfl⟩
    have e2 : fst1 (p :: v) 0 = fst1 v 0 + (if p.idxOf ((0 : Nat) : Int) = 0 then 1 else 0) ∧ fst1 (p :: v) 1 = fst1 v 1 + (if p.idxOf ((1 : Nat) : Int) = 0 then 1 else 0) := ⟨rfl, rfl⟩
    have e3 : pts 2 (p :: v) 0 = pts 2 v 0 + (((2 : Nat) : Int) - 1 - p.idxOf ((0 : Nat) : Int)) ∧ pts 2 (p :: v) 1 = pts 2 v 1 + (((2 : Nat) : Int) - 1 - p.idxOf ((1 : Nat) : Int)) := ⟨rfl, rfl⟩
    rw [e.1, e.2, e2.1, e2.2, e3.1, e3.2, a, b, c, d]
    rcases ord2 (h p (by simp)) with e | e <;> subst e <;> exact ⟨rfl, rfl, rfl, rfl⟩
def better2 (p q : Int) : List Int := if q < p then [0] else if p < q then [1] else [0, 1]
theorem best2 (p q : Int) : rules_best_m [p, q] = some (better2 p q) := by
  unfold better2
  by_cases h1 : q < p
  · have : ¬ p < q := by omega
    have : ¬ q = p := by omega
    simp [rules_best_m, rangeL, rules_best_b1, bindF, bindR, idx, chk, *]
  · by_cases h2 : p < q
    · simp [rules_best_m, rangeL, rules_best_b1, bindF, bindR, idx, chk, *]
    · have : p = q := by omega
      subst this
      simp [rules_best_m, rangeL, rules_best_b1, bindF, bindR, idx, chk]
theorem cnt2 {v : List (List Int)} (hv : Votes 2 v) : Ok (rangeL (ρ := List Int) (γ := (List Bool) × Int) (rules_rounds_b2 (List.replicate 6 false)) v 0 (List.replicate 6 (0 : Int))) (FlOk (fun l => l = [fst1 v 0, fst1 v 1, 0, 0, 0, 0]) (fun _ => False) (fun _ => False)) := by
  have h30 := hv.1
  refine ok_rangeL (fun k l => l = [fst1 (v.take k) 0, fst1 (v.take k) 1, 0, 0, 0, 0]) rfl (fun k p l hk hI => ?_) fun l hl => by rw [List.take_length] at hl; exact hl
  have hkl := (List.getElem?_eq_some_iff.1 hk).1
  have et : v.take (k + 1) = v.take k ++ [p] := by rw [List.take_succ, hk]; rfl
  have b0 := fst1_bound (v.take k) 0
  have b1 := fst1_bound (v.take k) 1
  have bl : (v.take k).length ≤ 30 := by rw [List.length_take]; omega
  rw [et, fst1_append, fst1_append]
  subst hI
  unfold rules_rounds_b2
  rw [ok_bindF]
  rcases ord2 (hv.2 p (List.mem_of_getElem? hk)) with e | e <;> subst e
  · have f0 : fst1 [[0, 1]] 0 = 1 := rfl
    have f1 : fst1 [[0, 1]] 1 = 0 := rfl
    rw [f0, f1, Int.add_zero]
    simp only [rangeL, rules_rounds_b3, idx]
    simp [ok_some, flok_nx]
    rw [wadd_of (by omega) (by omega)]
  · have f0 : fst1 [[1, 0]] 0 = 0 := rfl
    have f1 : fst1 [[1, 0]] 1 = 1 := rfl
    rw [f0, f1, Int.add_zero]
    simp only [rangeL, rules_rounds_b3, idx]
    simp [ok_some, flok_nx]
    rw [wadd_of (by omega) (by omega)]
theorem any2 {v : List (List Int)} (hv : Votes 2 v) {f : List Bool} (hf : f.length = 6) : Ok (rangeL (ρ := List Int) (γ := (List Bool) × Int) (rules_rounds_b2 f) v 0 (List.replicate 6 (0 : Int))) (FlOk (fun l => l.length = 6) (fun _ => False) (fun _ => False)) := by
  refine ok_rangeL (fun k l => l.length = 6) rfl (fun k p l hk hI => ?_) fun l hl => hl
  unfold rules_rounds_b2
  rw [ok_bindF]
  have hp : ∀ x ∈ p, 0 ≤ x ∧ x < 2 := fun x hx => ((hv.2 p (List.mem_of_getElem? hk)).mem x).1 hx
  refine ok_rangeL (fun k (l : List Int) => l.length = 6) hI (fun j y l hj hJ => ?_) fun l hl => ⟨_, rfl, hl⟩
  have hy := hp y (List.mem_of_getElem? hj)
  obtain ⟨i, rfl⟩ : ∃ i : Nat, y = i := ⟨y.toNat, by omega⟩
  unfold rules_rounds_b3
  rw [idx_nat, nth_at (by omega), Option.bind_some, idx_nat, nth_at (by omega), Option.bind_some, Option.bind_some]
  simp only [ok_ite, ok_some, flok_nx, flok_br]
  exact ⟨fun _ => by simpa using hJ, fun _ => hJ⟩
theorem rounds2 {v : List (List Int)} (hv : Votes 2 v) : rules_rounds_m 2 v = some (if fst1 v 1 ≤ fst1 v 0 then [0] else [1]) := by
  apply Ok.eq
  unfold rules_rounds_m
  rw [ok_bindR]
  refine ok_loopM (fun s : List Bool × Int => s = (List.replicate 6 false, 2) ∨ s = ((List.replicate 6 false).set (if fst1 v 1 ≤ fst1 v 0 then 1 else 0) true, 1)) (fun s => s.2.toNat) (fun s hI => ?_) _ _ (.inl rfl) (by simp)
  rcases hI with e | e <;> subst e
  · unfold rules_rounds_b1
    simp only
    rw [ok_bindF]
    refine (cnt2 hv).mono fun l hl => ?_
    cases l with
    | br _ => exact hl.elim
    | rt _ => exact hl.elim
    | nx l =>
      rw [flok_nx] at hl ⊢
      subst hl
      rw [chk_t (by omega), Option.bind_some, ok_bindF]
      by_cases hc : fst1 v 1 ≤ fst1 v 0
      · have : rangeN (ρ := List Int) (γ := (List Bool) × Int) (rules_rounds_b4 (List.replicate 6 false) [fst1 v 0, fst1 v 1, 0, 0, 0, 0]) (2 : Int).toNat 0 (-1 : Int) = some (.nx 1) := by
          simp [rangeN, rules_rounds_b4, bindF, idx, hc]
        rw [this, ok_some, flok_nx, if_pos hc]
        exact ⟨_, rfl, .inr rfl, by decide⟩
      · have : rangeN (ρ := List Int) (γ := (List Bool) × Int) (rules_rounds_b4 (List.replicate 6 false) [fst1 v 0, fst1 v 1, 0, 0, 0, 0]) (2 : Int).toNat 0 (-1 : Int) = some (.nx 0) := by
          simp [rangeN, rules_rounds_b4, bindF, idx, hc]
        rw [this, ok_some, flok_nx, if_neg hc]
        exact ⟨_, rfl, .inr rfl, by decide⟩
  · unfold rules_rounds_b1
    simp only
    rw [ok_bindF]
    refine (any2 hv (by simp)).mono fun l hl => ?_
    cases l with
    | br _ => exact hl.elim
    | rt _ => exact hl.elim
    | nx l =>
      rw [flok_nx] at hl ⊢
      rw [chk_t (by omega), Option.bind_some, ok_bindF]
      by_cases hc : fst1 v 1 ≤ fst1 v 0
      · have : rangeN (ρ := List Int) (γ := (List Bool) × Int) (rules_rounds_b4 ((List.replicate 6 false).set 1 true) l) (2 : Int).toNat 0 (-1 : Int) = some (.nx 0) := by
          simp [rangeN, rules_rounds_b4, bindF, idx]
        rw [if_pos hc, if_pos hc, this]
        exact ⟨_, rfl, ⟨_, rfl, rfl⟩⟩
      · have : rangeN (ρ := List Int) (γ := (List Bool) × Int) (rules_rounds_b4 ((List.replicate 6 false).set 0 true) l) (2 : Int).toNat 0 (-1 : Int) = some (.nx 1) := by
          simp [rangeN, rules_rounds_b4, bindF, idx]
        rw [if_neg hc, if_neg hc, this]
        exact ⟨_, rfl, ⟨_, rfl, rfl⟩⟩
theorem vec2 {l : List Int} {f : Nat → Int} (h : Vec 2 l f) : l = [f 0, f 1] := nth_ext (by rw [h.len]; rfl) fun k hk => by
  rw [h.len] at hk
  rw [h.at_ k hk]
  rcases (show k = 0 ∨ k = 1 by omega) with e | e <;> subst e <;> rfl
theorem tabV {n : Nat} {v : List (List Int)} {m : List (List Int)} (h1 : 1 ≤ n) (h6 : n ≤ 6) (hv : Votes n v) (hM : Mat n n m (duel v)) : Tab n m (duel v) := ⟨hM, h1, h6, fun x y _ _ => by have := duel_bound v x y; have := hv.1; omega, fun x _ => duel_self v x⟩
theorem winners2 {v : List (List Int)} (hv : Votes 2 v) {k : Nat} (k1 : 1 ≤ k) (k5 : k ≤ 5) : rules_Winners_m (k : Int) 2 v = some (if k = 5 then (if fst1 v 1 ≤ fst1 v 0 then [0] else [1]) else better2 (fst1 v 0) (fst1 v 1), 0) := by
  obtain ⟨m, em, hM⟩ := duels_ok (by decide) (by decide) hv
  have ts := two_sums v hv.2
  have t := tabV (by decide) (by decide) hv hM
  have em' : tally_Duels_m 2 v = some (m, 0) := em
  have g : (if decide ((k : Int) < (1 : Int)) then some (Fl.nx true) else some (Fl.nx (decide ((k : Int) > (5 : Int))))) = (some (Fl.nx false) : Option (Fl (List Int × Int) Unit Bool)) := by
    rw [if_neg (by simp; omega)]; simp; omega
  unfold rules_Winners_m
  rw [g, bindR, if_neg (by decide), em', Option.bind_some, if_neg (by simp)]
  rcases (show k = 1 ∨ k = 2 ∨ k = 3 ∨ k = 4 ∨ k = 5 by omega) with e | e | e | e | e <;> subst e
  · obtain ⟨a, ea, ha⟩ := firsts_ok (by decide) (by decide) hv
    have ea' : tally_Firsts_m 2 v = some (a, 0) := ea
    rw [if_pos (by decide), ea', Option.bind_some, vec2 ha, best2]; rfl
  · obtain ⟨a, ea, ha⟩ := points_ok (by decide) (by decide) hv
    have ea' : tally_Points_m 2 v = some (a, 0) := ea
    rw [if_neg (by decide), if_pos (by decide), ea', Option.bind_some, vec2 ha, best2, ts.2.2.1, ts.2.2.2]; rfl
  · obtain ⟨w, ew, hw⟩ := wins_ok t
    have c0 : cope 2 (duel v) 0 = sgn (fst1 v 0) (fst1 v 1) := by
      unfold cope; simp only [sumN]; rw [ts.1, ts.2.1, duel_self]; simp [sgn]
    have c1 : cope 2 (duel v) 1 = sgn (fst1 v 1) (fst1 v 0) := by
      unfold cope; simp only [sumN]; rw [ts.1, ts.2.1, duel_self]; simp [sgn]
    rw [if_neg (by decide), if_neg (by decide), if_pos (by decide), ew, Option.bind_some, vec2 hw, best2, c0, c1]
    have : better2 (sgn (fst1 v 0) (fst1 v 1)) (sgn (fst1 v 1) (fst1 v 0)) = better2 (fst1 v 0) (fst1 v 1) := by
      unfold better2 sgn
      generalize fst1 v 0 = a
      generalize fst1 v 1 = b
      by_cases h1 : b < a <;> by_cases h2 : a < b <;> simp [h1, h2] <;> omega
    rw [this]; rfl
  · obtain ⟨w, ew, hwl, hw⟩ := worst_ok t
    have w0 := hw 0 (by decide)
    have w1 := hw 1 (by decide)
    obtain ⟨x, y, rfl⟩ : ∃ x y, w = [x, y] := ⟨nth w 0, nth w 1, nth_ext (by rw [hwl]; rfl) fun k hk => by
      rw [hwl] at hk
      rcases (show k = 0 ∨ k = 1 by omega) with e | e <;> subst e <;> rfl⟩
    have w0' : IsWorst 2 (duel v) 0 x := w0
    have w1' : IsWorst 2 (duel v) 1 y := w1
    have lo : rangeN (ρ := List Int × Int) (γ := Unit) rules_Winners_b1 ([x, y] : List Int).length 0 [x, y] = some (.nx [wsub 0 x, wsub 0 y]) := by
      simp [rangeN, rules_Winners_b1, idx]
    have b0 : 0 ≤ x ∧ x ≤ 30 := ⟨w0'.1, w0'.2.1⟩
    have b1 : 0 ≤ y ∧ y ≤ 30 := ⟨w1'.1, w1'.2.1⟩
    rw [if_neg (by decide), if_neg (by decide), if_neg (by decide), if_pos (by decide), ew, Option.bind_some]
    simp only
    rw [lo, bindR, best2, wsub_of (by omega) (by omega), wsub_of (by omega) (by omega)]
    have d00 := duel_self v 0
    have d11 := duel_self v 1
    have key : better2 (0 - x) (0 - y) = better2 (fst1 v 0) (fst1 v 1) := by
      have p0 := w0'.2.2.1 1 (by decide)
      have p1 := w1'.2.2.1 0 (by decide)
      rw [ts.1, ts.2.1] at p0 p1
      have q0 : x = 0 ∨ x = fst1 v 1 - fst1 v 0 := by
        rcases w0'.2.2.2 with h | ⟨z, hz, h⟩
        · exact .inl h
        · rcases (show z = 0 ∨ z = 1 by omega) with e | e <;> subst e
          · rw [d00] at h; exact .inl (by omega)
          · rw [ts.1, ts.2.1] at h; exact .inr h
      have q1 : y = 0 ∨ y = fst1 v 0 - fst1 v 1 := by
        rcases w1'.2.2.2 with h | ⟨z, hz, h⟩
        · exact .inl h
        · rcases (show z = 0 ∨ z = 1 by omega) with e | e <;> subst e
          · rw [ts.1, ts.2.1] at h; exact .inr h
          · rw [d11] at h; exact .inl (by omega)
      unfold better2
      generalize fst1 v 0 = a at *
      generalize fst1 v 1 = b at *
      by_cases h1 : b < a
      · rw [if_pos h1, if_pos (by omega)]
      · rw [if_neg h1, if_neg (by omega)]
        by_cases h2 : a < b
        · rw [if_pos h2, if_pos (by omega)]
        · rw [if_neg h2, if_neg (by omega)]
    rw [key]; rfl
  · rw [if_neg (by decide), if_neg (by decide), if_neg (by decide), if_neg (by decide), if_pos (by decide), rounds2 hv]; rfl
theorem winners_t : pk_winners_m = some true := by decide +kernel
theorem mgood : pk_good_m [0, 0] = some true := by rw [good_at]; rfl
theorem RulesMay (x0 : Int) (_ : (Lit.int .i64 x0).wf = true) (x1 : List (List Int)) (_ : (∀ r ∈ x1, (∀ x ∈ r, (Lit.int .i64 x).wf = true) ∧ r.length ≤ maxLen) ∧ x1.length ≤ maxLen) : pk_RulesMay_m x0 x1 = some true := by
  obtain ⟨k, k1, k5, hk⟩ := one_within x0 5 (by decide) (by decide)
  rw [show ((5 : Nat) : Int) = 5 from rfl] at hk
  obtain ⟨v, ev, -, hv⟩ := votesOf_ok 2 x1 (by decide) (by decide)
  have ev' : pk_VotesOf_m 2 x1 = some v := ev
  obtain ⟨a, ea, ha⟩ := firsts_ok (by decide) (by decide) hv
  have ea' : tally_Firsts_m 2 v = some (a, 0) := ea
  have i0 : ∀ p q : Int, idx [p, q] (0 : Int) = some p := fun p q => rfl
  have i1 : ∀ p q : Int, idx [p, q] (1 : Int) = some q := fun p q => rfl
  unfold pk_RulesMay_m
  rw [winners_t, Option.bind_some, if_neg (by decide), within_at x0 5 (by decide) (by decide), Option.bind_some, ev', Option.bind_some, hk, winners2 hv k1 k5, Option.bind_some, ea', Option.bind_some, vec2 ha]
  simp only [mgood, Option.bind_some, Bool.not_true, Bool.false_eq_true, if_false, equal_ok, i0, i1]
  rw [show (some (Fl.nx (((([fst1 v 0, fst1 v 1] : List Int).length : Int) != 2))) : Option (Fl Bool Unit Bool)) = some (.nx false) from rfl]
  simp only [bindR, Bool.false_eq_true, if_false]
  generalize fst1 v 0 = p
  generalize fst1 v 1 = q
  have hk5 : ((k : Int) == 5) = decide (k = 5) := by
    by_cases h : k = 5
    · subst h; rfl
    · rw [decide_eq_false h, beq_eq_false_iff_ne]; omega
  rw [hk5]
  unfold better2
  by_cases h1 : q < p
  · have h1' : p > q := h1
    have h3 : q ≤ p := by omega
    by_cases h5 : k = 5 <;> simp [h1, h3, h5]
  · by_cases h2 : p < q
    · have h3 : ¬ q ≤ p := by omega
      by_cases h5 : k = 5 <;> simp [h1, h2, h3, h5]
    · have : p = q := by omega
      subst this
      by_cases h5 : k = 5 <;> simp [h5]
end Go.Pu
/- Roads that grow dearer by the crowd: loads, costs, the height, and what a move does to it. -/
set_option linter.all false
namespace Go.Pu
open Go.Fw Go.Mo
def RowOk (n : Nat) (row : List Int) : Prop := row.length = n ∧ ∀ k, k < n → 0 ≤ nth row k ∧ nth row k ≤ 100 ∧ (0 < k → nth row (k - 1) ≤ nth row k)
structure Roads (x0 : List (List Int)) (x1 : List Int) : Prop where
  m1 : 1 ≤ x0.length
  m4 : x0.length ≤ 4
  n6 : x1.length ≤ 6
  row : ∀ r, r < x0.length → RowOk x1.length (nth x0 r)
  at_ : ∀ i, i < x1.length → 0 ≤ nth x1 i ∧ nth x1 i < x0.length
theorem rchk_row {n : Nat} {row : List Int} (h : row.length = n) (hn : n ≤ 9223372036854775807) : Ok (rangeL (ρ := Int) (γ := Unit) (roads_Check_b2 row) row 0 ()) (FlOk (fun _ => RowOk n row) (fun _ => False) (fun c => c ≠ 0 ∧ ¬ RowOk n row)) := by
  refine ok_rangeL (fun k _ => ∀ j, j < k → 0 ≤ nth row j ∧ nth row j ≤ 100 ∧ (0 < j → nth row (j - 1) ≤ nth row j)) (fun j hj => by omega) (fun k x u hk hI => ?_) fun _ hI => ⟨h, fun k hk => hI k (by omega)⟩
  obtain ⟨hx, hkl⟩ := nth_of hk
  subst hx
  unfold roads_Check_b2
  have bad : ∀ c : Int, c ≠ 0 → ¬ (0 ≤ nth row k ∧ nth row k ≤ 100 ∧ (0 < k → nth row (k - 1) ≤ nth row k)) → c ≠ 0 ∧ ¬ RowOk n row := fun c hc hn => ⟨hc, fun hr => hn (hr.2 k (by omega))⟩
  have good : 0 ≤ nth row k ∧ nth row k ≤ 100 ∧ (0 < k → nth row (k - 1) ≤ nth row k) → ∀ j, j < k + 1 → 0 ≤ nth row j ∧ nth row j ≤ 100 ∧ (0 < j → nth row (j - 1) ≤ nth row j) := fun hg j hj => by
    by_cases e : j = k
    · rw [e]; exact hg
    · exact hI j (by omega)
  rw [ok_bindF]
  by_cases c1 : nth row k < 0 ∨ nth row k > 100
  · have : (if decide (nth row k < (0 : Int)) then some (Fl.nx true) else some (Fl.nx (decide (nth row k > (100 : Int))))) = (some (Fl.nx true) : Option (Fl Int Unit Bool)) := by
      by_cases c2 : nth row k < 0
      · rw [if_pos (by simpa using c2)]
      · rw [if_neg (by simpa using c2)]; simp; omega
    rw [this, ok_some, flok_nx, if_pos rfl, ok_some, flok_rt]
    exact bad 1 (by decide) (by omega)
  · have : (if decide (nth row k < (0 : Int)) then some (Fl.nx true) else some (Fl.nx (decide (nth row k > (100 : Int))))) = (some (Fl.nx false) : Option (Fl Int Unit Bool)) := by
      rw [if_neg (by simp; omega)]; simp; omega
    rw [this, ok_some, flok_nx, if_neg (by decide), ok_bindF]
    by_cases c2 : 0 < k
    · rw [if_pos (by simpa using c2), wsub_of (by omega) (by omega), show (k : Int) - 1 = ((k - 1 : Nat) : Int) by omega, idx_nat, nth_at (by omega), Option.bind_some, ok_some, flok_nx]
      simp only [ok_ite, ok_some, flok_nx, flok_rt, decide_eq_true_eq]
      exact ⟨fun hc => bad 3 (by decide) (by omega), fun hc => good (by omega)⟩
    · rw [if_neg (by simpa using c2), ok_some, flok_nx, if_neg (by decide), ok_some, flok_nx]
      exact good (by omega)
theorem rchk_ok (x0 : List (List Int)) (x1 : List Int) (h0 : x0.length ≤ 9223372036854775807) (h1 : x1.length ≤ 9223372036854775807) : Ok (roads_Check_m x0 x1) (fun c => c = 0 ↔ Roads x0 x1) := by
  have bad : ∀ c : Int, c ≠ 0 → ¬ Roads x0 x1 → (c = 0 ↔ Roads x0 x1) := fun c hc hn => iff_of_false hc hn
  unfold roads_Check_m
  rw [ok_bindR]
  by_cases c1 : x0.length < 1 ∨ x0.length > 4 ∨ x1.length > 6
  · have : (if decide (((x0).length : Int) < (1 : Int)) then some (Fl.nx true) else (if decide (((x0).length : Int) > (4 : Int)) then some (.nx true) else some (.nx (decide (((x1).length : Int) > (6 : Int)))))) = (some (Fl.nx true) : Option (Fl Int Unit Bool)) := by
      by_cases c2 : (x0.length : Int) < 1
      · rw [if_pos (by simpa using c2)]
      · rw [if_neg (by simpa using c2)]
        by_cases c3 : (x0.length : Int) > 4
        · rw [if_pos (by simpa using c3)]
        · rw [if_neg (by simpa using c3)]; simp; omega
    rw [this, ok_some, flok_nx, if_pos rfl, ok_some]
    exact bad 2 (by decide) fun hr => by have := hr.m1; have := hr.m4; have := hr.n6; omega
  · have : (if decide (((x0).length : Int) < (1 : Int)) then some (Fl.nx true) else (if decide (((x0).length : Int) > (4 : Int)) then some (.nx true) else some (.nx (decide (((x1).length : Int) > (6 : Int)))))) = (some (Fl.nx false) : Option (Fl Int Unit Bool)) := by
      rw [if_neg (by simp; omega), if_neg (by simp; omega)]; simp; omega
    rw [this, ok_some, flok_nx, if_neg (by decide), ok_bindR]
    refine ok_rangeL (fun k _ => ∀ r, r < k → RowOk x1.length (nth x0 r)) (fun r hr => by omega) (fun k row u hk hI => ?_) fun _ hI => ?_
    · obtain ⟨hx, hkl⟩ := nth_of hk
      unfold roads_Check_b1
      rw [ok_ite]
      refine ⟨fun hne => ?_, fun heq => ?_⟩
      · rw [bne_iff_ne] at hne
        rw [ok_some, flok_rt]
        exact bad 3 (by decide) fun hr => hne (by have := (hr.row k hkl).1; rw [hx] at this; omega)
      · have heq : row.length = x1.length := by simp at heq; omega
        rw [ok_bindF]
        refine (rchk_row heq h1).mono fun v hv => ?_
        cases v with
        | br _ => exact hv.elim
        | rt c =>
          rw [flok_rt] at hv ⊢
          exact bad c hv.1 fun hr => hv.2 (by have := hr.row k hkl; rwa [hx] at this)
        | nx _ =>
          rw [flok_nx] at hv ⊢
          rw [ok_some, flok_nx]
          intro r hr
          by_cases e : r = k
          · rw [e, hx]; exact hv
          · exact hI r (by omega)
    · rw [ok_bindR]
      refine ok_rangeL (fun k _ => ∀ i, i < k → 0 ≤ nth x1 i ∧ nth x1 i < x0.length) (fun r hr => by omega) (fun k y u hk hJ => ?_) fun _ hJ => ?_
      · obtain ⟨hx, hkl⟩ := nth_of hk
        subst hx
        unfold roads_Check_b3
        rw [ok_bindF]
        by_cases c2 : nth x1 k < 0 ∨ nth x1 k ≥ x0.length
        · have : (if decide (nth x1 k < (0 : Int)) then some (Fl.nx true) else some (Fl.nx (decide (nth x1 k ≥ ((x0).length : Int))))) = (some (Fl.nx true) : Option (Fl Int Unit Bool)) := by
            by_cases c2 : nth x1 k < 0
            · rw [if_pos (by simpa using c2)]
            · rw [if_neg (by simpa using c2)]; simp; omega
          rw [this, ok_some, flok_nx, if_pos rfl, ok_some, flok_rt]
          exact bad 4 (by decide) fun hr => by have := hr.at_ k hkl; omega
        · have : (if decide (nth x1 k < (0 : Int)) then some (Fl.nx true) else some (Fl.nx (decide (nth x1 k ≥ ((x0).length : Int))))) = (some (Fl.nx false) : Option (Fl Int Unit Bool)) := by
            rw [if_neg (by simp; omega)]; simp; omega
          rw [this, ok_some, flok_nx, if_neg (by decide), ok_some, flok_nx]
          intro i hi
          by_cases e : i = k
          · rw [e]; omega
          · exact hJ i (by omega)
      · rw [ok_some]
        exact iff_of_true rfl ⟨by omega, by omega, by omega, hI, hJ⟩
theorem Roads.check {x0 : List (List Int)} {x1 : List Int} (h : Roads x0 x1) : roads_Check_m x0 x1 = some 0 := by
  have h4 := h.m4; have h6 := h.n6
  obtain ⟨c, e, hc⟩ := rchk_ok x0 x1 (by omega) (by omega)
  rw [e, hc.2 h]
/-- how many of the first k take r -/
def cnt (l : List Int) (r : Nat) (k : Nat) : Int := sumN k (fun i => if nth l i = (r : Int) then 1 else 0)
theorem cnt_bound (l : List Int) (r k : Nat) : 0 ≤ cnt l r k ∧ cnt l r k ≤ k := by
  unfold cnt
  induction k with
  | zero => simp [sumN]
  | succ k ih => simp only [sumN]; split <;> omega
theorem cnt_pos (l : List Int) (r k i : Nat) (hi : i < k) (h : nth l i = (r : Int)) : 1 ≤ cnt l r k := by
  induction k with
  | zero => omega
  | succ k ih =>
    have := cnt_bound l r k
    have e : cnt l r (k + 1) = cnt l r k + if nth l k = (r : Int) then 1 else 0 := rfl
    rw [e]
    by_cases hik : i = k
    · subst hik; rw [if_pos h]; omega
    · have := ih (by omega); split <;> omega
theorem load_ok {x0 : List (List Int)} {x1 : List Int} (h : Roads x0 x1) : ∃ l, roads_load_m x0 x1 = some l ∧ Vec x0.length l (fun r => cnt x1 r x1.length) := by
  have : Ok (roads_load_m x0 x1) (fun l => Vec x0.length l (fun r => cnt x1 r x1.length)) := by
    have h4 := h.m4; have h6 := h.n6
    unfold roads_load_m
    simp only [ok_bind, ok_chk, ok_bindR, ok_some, Int.toNat_natCast]
    refine ⟨by omega, ok_rangeL (fun k l => Vec x0.length l (fun r => cnt x1 r k)) (Vec.zero.congr fun x _ => rfl) (fun k y l hk hI => ?_) fun l hl => hl⟩
    obtain ⟨hy, hkl⟩ := nth_of hk
    have ha := h.at_ k hkl
    rw [hy] at ha
    obtain ⟨r, rfl⟩ : ∃ r : Nat, y = r := ⟨y.toNat, by omega⟩
    have hr : r < x0.length := by omega
    have hb := cnt_bound x1 r k
    unfold roads_load_b1
    simp only [idx_nat, hI.at? hr, Option.bind_some, Int.toNat_natCast, ok_some, flok_nx]
    rw [wadd_of (by omega) (by omega)]
    refine (hI.set hr _).congr fun q hq => ?_
    show _ = cnt x1 q k + if nth x1 k = (q : Int) then 1 else 0
    rw [hy]
    by_cases e : q = r
    · subst e; rw [if_pos rfl, if_pos rfl]
    · rw [if_neg e, if_neg (by omega)]; omega
  exact this
def hgt (x0 : List (List Int)) (x1 : List Int) (r : Nat) : Int := sumN (cnt x1 r x1.length).toNat (fun k => nth (nth x0 r) k)
def Hgt (x0 : List (List Int)) (x1 : List Int) : Int := sumN x0.length (hgt x0 x1)
theorem part_le {n : Nat} {row : List Int} (h : RowOk n row) : ∀ k : Nat, k ≤ n → 0 ≤ sumN k (fun j => nth row j) ∧ sumN k (fun j => nth row j) ≤ 100 * k := by
  intro k
  induction k with
  | zero => intro _; simp [sumN]
  | succ k ih => intro hk; have := ih (by omega); have := h.2 k (by omega); simp only [sumN]; omega
theorem hgt_le {x0 : List (List Int)} {x1 : List Int} (h : Roads x0 x1) {r : Nat} (hr : r < x0.length) : 0 ≤ hgt x0 x1 r ∧ hgt x0 x1 r ≤ 600 := by
  have h6 := h.n6
  have hb := cnt_bound x1 r x1.length
  have := part_le (h.row r hr) (cnt x1 r x1.length).toNat (by omega)
  unfold hgt; omega
theorem Hgts_le {x0 : List (List Int)} {x1 : List Int} (h : Roads x0 x1) : ∀ k : Nat, k ≤ x0.length → 0 ≤ sumN k (hgt x0 x1) ∧ sumN k (hgt x0 x1) ≤ 600 * k := by
  intro k
  induction k with
  | zero => intro _; simp [sumN]
  | succ k ih => intro hk; have := ih (by omega); have := hgt_le h (r := k) (by omega); simp only [sumN]; omega
theorem Hgt_le {x0 : List (List Int)} {x1 : List Int} (h : Roads x0 x1) : 0 ≤ Hgt x0 x1 ∧ Hgt x0 x1 ≤ 2400 := by
  have := Hgts_le h x0.length (Nat.le_refl _)
  have h4 := h.m4
  unfold Hgt; omega
theorem height_ok {x0 : List (List Int)} {x1 : List Int} (h : Roads x0 x1) : roads_Height_m x0 x1 = some (Hgt x0 x1, 0) := by
  obtain ⟨l, el, hl⟩ := load_ok h
  have h4 := h.m4; have h6 := h.n6
  apply Ok.eq
  unfold roads_Height_m
  rw [h.check, Option.bind_some, if_neg (by decide), el, Option.bind_some, ok_bindR, hl.len]
  refine ok_rangeN (fun k (s : Int) => s = sumN k (hgt x0 x1)) rfl (fun r s hr hI => ?_) fun s hs => by rw [ok_some, hs]; rfl
  have hrow := h.row r hr
  have hb := cnt_bound x1 r x1.length
  have hs := Hgts_le h r (by omega)
  have hp := part_le hrow
  unfold roads_Height_b1
  rw [idx_nat, hl.at? hr, Option.bind_some, idx_nat, nth_at hr, Option.bind_some, chk_t (by have := hrow.1; omega), Option.bind_some, List.drop_zero, ok_bindF]
  refine ok_rangeL (fun k (s : Int) => s = sumN r (hgt x0 x1) + sumN k (fun j => nth (nth x0 r) j)) (by rw [hI]; simp [sumN]) (fun k y s hk hJ => ?_) fun s hs => ?_
  · have hk' := (List.getElem?_eq_some_iff.1 hk).1
    rw [List.length_take] at hk'
    rw [List.getElem?_take_of_lt (by omega)] at hk
    obtain ⟨hy, hkl⟩ := nth_of hk
    have p1 := hp k (by have := hrow.1; omega)
    have p2 := hp (k + 1) (by have := hrow.1; omega)
    simp only [sumN] at p2
    have hv := hrow.2 k (by have := hrow.1; omega)
    unfold roads_Height_b2
    rw [ok_some, flok_nx, hJ, ← hy, wadd_of (by omega) (by omega)]
    simp only [sumN]; omega
  · rw [ok_some, flok_nx, hs, List.length_take]
    have : min (cnt x1 r x1.length).toNat (nth x0 r).length = (cnt x1 r x1.length).toNat := by have := hrow.1; omega
    rw [this]; rfl
/-- what i pays -/
def pay (x0 : List (List Int)) (x1 : List Int) (i : Nat) : Int := nth (nth x0 (nth x1 i).toNat) ((cnt x1 (nth x1 i).toNat x1.length).toNat - 1)
theorem pay_le {x0 : List (List Int)} {x1 : List Int} (h : Roads x0 x1) {i : Nat} (hi : i < x1.length) : 0 ≤ pay x0 x1 i ∧ pay x0 x1 i ≤ 100 := by
  have ha := h.at_ i hi
  have hb := cnt_bound x1 (nth x1 i).toNat x1.length
  have hc := cnt_pos x1 (nth x1 i).toNat x1.length i hi (by omega)
  have := (h.row (nth x1 i).toNat (by omega)).2 ((cnt x1 (nth x1 i).toNat x1.length).toNat - 1) (by omega)
  unfold pay; omega
theorem costs_ok {x0 : List (List Int)} {x1 : List Int} (h : Roads x0 x1) : ∃ c, roads_Costs_m x0 x1 = some (c, 0) ∧ Vec x1.length c (pay x0 x1) := by
  obtain ⟨l, el, hl⟩ := load_ok h
  have h4 := h.m4; have h6 := h.n6
  have : Ok (roads_Costs_m x0 x1) (fun r => r.2 = 0 ∧ Vec x1.length r.1 (pay x0 x1)) := by
    unfold roads_Costs_m
    rw [h.check, Option.bind_some, if_neg (by decide), el, Option.bind_some, chk_t (by omega), Option.bind_some, ok_bindR, Int.toNat_natCast]
    refine ok_rangeL (fun k c => Vec x1.length c (fun i => if i < k then pay x0 x1 i else 0)) (Vec.zero.congr fun x _ => by simp) (fun k y c hk hI => ?_) fun c hc => by rw [ok_some]; exact ⟨rfl, hc.congr fun i hi => by rw [if_pos hi]⟩
    obtain ⟨hy, hkl⟩ := nth_of hk
    have ha := h.at_ k hkl
    rw [hy] at ha
    obtain ⟨r, rfl⟩ : ∃ r : Nat, y = r := ⟨y.toNat, by omega⟩
    have hr : r < x0.length := by omega
    have hb := cnt_bound x1 r x1.length
    have hc := cnt_pos x1 r x1.length k hkl hy
    have hrow := h.row r hr
    have hp : pay x0 x1 k = nth (nth x0 r) ((cnt x1 r x1.length).toNat - 1) := by unfold pay; rw [hy]; rfl
    unfold roads_Costs_b1
    rw [idx_nat, nth_at hr, Option.bind_some, idx_nat, hl.at? hr, Option.bind_some, wsub_of (by omega) (by omega), show cnt x1 r x1.length - 1 = (((cnt x1 r x1.length).toNat - 1 : Nat) : Int) by omega, idx_nat, nth_at (by have := hrow.1; omega), Option.bind_some, idx_nat, nth_at (by rw [hI.len]; exact hkl), Option.bind_some, ok_some, flok_nx, ← hp]
    refine (hI.set hkl _).congr fun q hq => ?_
    by_cases e : q = k
    · subst e; rw [if_pos rfl, if_pos (by omega)]
    · rw [if_neg e]
      by_cases c : q < k
      · rw [if_pos c, if_pos (by omega)]
      · rw [if_neg c, if_neg (by omega)]
  obtain ⟨⟨c, e⟩, h1, h2, h3⟩ := this
  simp only at h2 h3
  subst h2
  exact ⟨c, h1, h3⟩
/-- one entry of a sum is another -/
theorem sumN_but {n i : Nat} {f g : Nat → Int} (hi : i < n) (h : ∀ j, j < n → j ≠ i → g j = f j) : sumN n g = sumN n f - f i + g i := by
  have : sumN n g = sumN n (fun j => f j + if j = i then g i - f i else 0) := sumN_congr fun j hj => by
    by_cases e : j = i
    · subst e; rw [if_pos rfl]; omega
    · rw [if_neg e, h j hj e]; omega
  rw [this, sumN_add, sumN_single hi]; omega
theorem cnt_set {l : List Int} {i n : Nat} {x : Int} (hi : i < l.length) (hn : l.length = n) (q : Nat) : cnt (l.set i x) q n = cnt l q n - (if nth l i = (q : Int) then 1 else 0) + if x = (q : Int) then 1 else 0 := by
  unfold cnt
  rw [sumN_but (i := i) (f := fun j => if nth l j = (q : Int) then 1 else 0) (by omega) fun j hj hne => by rw [nth_set hi, if_neg hne]]
  rw [nth_set hi, if_pos rfl]
theorem Roads.set {x0 : List (List Int)} {x1 : List Int} (h : Roads x0 x1) {i r : Nat} (hi : i < x1.length) (hr : r < x0.length) : Roads x0 (x1.set i (r : Int)) := by
  refine ⟨h.m1, h.m4, by simpa using h.n6, fun q hq => by simpa using h.row q hq, fun j hj => ?_⟩
  rw [nth_set hi]
  split
  · omega
  · exact h.at_ j (by simpa using hj)
/-- a move: the height goes as the mover's pay -/
theorem move_ok {x0 : List (List Int)} {x1 : List Int} (h : Roads x0 x1) {i r : Nat} (hi : i < x1.length) (hr : r < x0.length) : Hgt x0 (x1.set i (r : Int)) - Hgt x0 x1 = pay x0 (x1.set i (r : Int)) i - pay x0 x1 i := by
  have ha := h.at_ i hi
  obtain ⟨a, hai⟩ : ∃ a : Nat, nth x1 i = (a : Int) := ⟨(nth x1 i).toNat, by omega⟩
  rw [hai] at ha
  have hc := fun q => cnt_set (x := (r : Int)) hi rfl q
  by_cases e : r = a
  · subst e
    have : x1.set i (r : Int) = x1 := by
      refine nth_ext (by simp) fun k hk => ?_
      rw [nth_set hi]
      split
      · rename_i e; rw [e, hai]
      · rfl
    rw [this]; omega
  · have l1 := cnt_pos x1 a x1.length i hi hai
    have b1 := cnt_bound x1 r x1.length
    have p1 : pay x0 x1 i = nth (nth x0 a) ((cnt x1 a x1.length).toNat - 1) := by unfold pay; rw [hai]; rfl
    have p2 : pay x0 (x1.set i (r : Int)) i = nth (nth x0 r) (cnt x1 r x1.length).toNat := by
      unfold pay
      rw [nth_set hi, if_pos rfl, Int.toNat_natCast, List.length_set, hc r, hai, if_neg (by omega), if_pos rfl]
      have : (cnt x1 r x1.length - 0 + 1).toNat - 1 = (cnt x1 r x1.length).toNat := by omega
      rw [this]
    rw [p1, p2]
    have e3 : Hgt x0 (x1.set i (r : Int)) = sumN x0.length (fun q => hgt x0 x1 q + ((if q = r then nth (nth x0 r) (cnt x1 r x1.length).toNat else 0) + (if q = a then - nth (nth x0 a) ((cnt x1 a x1.length).toNat - 1) else 0))) := sumN_congr fun q hq => by
      unfold hgt
      rw [List.length_set, hc q, hai]
      by_cases e1 : q = r
      · subst e1
        rw [if_neg (by omega), if_pos rfl, if_pos rfl, if_neg (by omega)]
        have : (cnt x1 q x1.length - 0 + 1).toNat = (cnt x1 q x1.length).toNat + 1 := by omega
        rw [this]; simp only [sumN]; omega
      · by_cases e2 : q = a
        · subst e2
          rw [if_pos rfl, if_neg (by omega), if_neg e1, if_pos rfl]
          obtain ⟨z, hz⟩ : ∃ z : Nat, cnt x1 q x1.length = (z : Int) + 1 := ⟨(cnt x1 q x1.length).toNat - 1, by omega⟩
          rw [hz]
          have z1 : ((z : Int) + 1 - 1 + 0).toNat = z := by omega
          have z2 : ((z : Int) + 1).toNat = z + 1 := by omega
          rw [z1, z2]; simp only [sumN, Nat.add_sub_cancel]; omega
        · rw [if_neg (by omega), if_neg (by omega), if_neg e1, if_neg e2]
          simp
    rw [e3, sumN_add, sumN_add, sumN_single hr, sumN_single (show a < x0.length by omega)]
    unfold Hgt; omega
theorem crowds_t : pk_crowds_m = some true := by decide +kernel
theorem height_bad {x0 : List (List Int)} {x1 : List Int} {c : Int} (e : roads_Check_m x0 x1 = some c) (h : c ≠ 0) : roads_Height_m x0 x1 = some (0, c) := by
  unfold roads_Height_m; rw [e, Option.bind_some, if_pos (by simpa using h)]
theorem costs_bad {x0 : List (List Int)} {x1 : List Int} {c : Int} (e : roads_Check_m x0 x1 = some c) (h : c ≠ 0) : roads_Costs_m x0 x1 = some ([], c) := by
  unfold roads_Costs_m; rw [e, Option.bind_some, if_pos (by simpa using h)]
end Go.Pu
