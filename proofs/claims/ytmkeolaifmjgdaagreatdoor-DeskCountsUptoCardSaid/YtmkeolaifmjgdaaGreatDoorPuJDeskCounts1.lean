/- Plain lemmas about the small language of the models: loops that keep an invariant, loops that fold. -/
import Derived.Test.YtmkeolaifmjgdaaGreatDoorFwF
import Derived.Test.YtmkeolaifmjgdaaGreatDoorWDeskCountsModels
set_option linter.all false
namespace Go.Pu
open Go.Fw
section
variable {ρ σ α β γ : Type}
theorem rangeL_first {body : Nat → α → Unit → Option (Fl Int Unit Unit)} (q : α → Bool) (l : List α) (h : ∀ i x, x ∈ l → body i x () = if q x then some (.rt (i : Int)) else some (.nx ())) :
    ∀ i, rangeL (γ := γ) body l i () = if l.any q then some (.rt ((i + l.findIdx q : Nat) : Int)) else some (.nx ()) := by
  induction l with
  | nil => intro i; rfl
  | cons x l ih =>
    intro i
    unfold rangeL
    rw [h i x (by simp)]
    by_cases hx : q x = true
    · simp [hx, List.findIdx_cons]
    · have hx' : q x = false := by simpa using hx
      rw [hx']
      simp only [Bool.false_eq_true, if_false]
      rw [ih (fun i y hy => h i y (by simp [hy])) (i + 1)]
      simp only [List.any_cons, hx', Bool.false_or, List.findIdx_cons, cond_false]
      split
      · congr 3; omega
      · rfl
theorem idx_nat {l : List α} {i : Nat} : idx l (i : Int) = l[i]? := by
  unfold idx
  rw [if_pos (by omega)]
  simp
theorem idx_at {l : List α} {i : Int} (h0 : 0 ≤ i) : idx l i = l[i.toNat]? := by unfold idx; rw [if_pos h0]
theorem wadd_of {x y : Int} (h0 : -9223372036854775808 ≤ x + y) (h1 : x + y ≤ 9223372036854775807) : wadd x y = x + y := by
  unfold wadd; rw [IntKind.wrap_i64]; omega
theorem wsub_of {x y : Int} (h0 : -9223372036854775808 ≤ x - y) (h1 : x - y ≤ 9223372036854775807) : wsub x y = x - y := by
  unfold wsub; rw [IntKind.wrap_i64]; omega
theorem wmul_of {x y : Int} (h0 : -9223372036854775808 ≤ x * y) (h1 : x * y ≤ 9223372036854775807) : wmul x y = x * y := by
  unfold wmul; rw [IntKind.wrap_i64]; omega
theorem chk_t {p : Prop} [Decidable p] (h : p) : chk p = some () := if_pos h
end
end Go.Pu
set_option linter.all false
namespace Go.Pu
open Go.Fw
def Ok {α : Type} (x : Option α) (P : α → Prop) : Prop := ∃ v, x = some v ∧ P v
def FlOk {ρ β σ : Type} (N : σ → Prop) (B : β → Prop) (R : ρ → Prop) : Fl ρ β σ → Prop
  | .nx s => N s
  | .br b => B b
  | .rt r => R r
def nth {α : Type} [Inhabited α] (l : List α) (k : Nat) : α := l.getD k default
section
variable {ρ σ α β γ τ : Type} {P : α → Prop} {N : σ → Prop} {B : β → Prop} {R : ρ → Prop}
theorem Ok.mono {x : Option α} {Q : α → Prop} (h : Ok x P) (hPQ : ∀ v, P v → Q v) : Ok x Q := let ⟨v, e, p⟩ := h; ⟨v, e, hPQ v p⟩
theorem Ok.eq {x : Option α} {v : α} (h : Ok x (fun y => y = v)) : x = some v := by obtain ⟨y, e, rfl⟩ := h; exact e
theorem Ok.of {x : Option α} {v : α} (h : x = some v) (p : P v) : Ok x P := ⟨v, h, p⟩
theorem ok_some {v : α} : Ok (some v) P ↔ P v := ⟨fun ⟨_, e, p⟩ => by cases e; exact p, fun p => ⟨v, rfl, p⟩⟩
theorem ok_none : Ok (none : Option α) P ↔ False := ⟨fun ⟨_, e, _⟩ => by (cases e), fun h => h.elim⟩
theorem ok_bind {x : Option τ} {k : τ → Option α} : Ok (x.bind k) P ↔ Ok x (fun v => Ok (k v) P) := by
  constructor
  · rintro ⟨v, e, p⟩
    obtain ⟨y, hy, hk⟩ := Option.bind_eq_some_iff.1 e
    exact ⟨y, hy, v, hk, p⟩
  · rintro ⟨y, rfl, v, e, p⟩; exact ⟨v, e, p⟩
theorem ok_ite {p : Prop} [Decidable p] {x y : Option α} : Ok (if p then x else y) P ↔ (p → Ok x P) ∧ (¬ p → Ok y P) := by
  split
  · rename_i h; simp [h]
  · rename_i h; simp [h]
theorem flok_nx {s : σ} : FlOk N B R (.nx s) ↔ N s := Iff.rfl
theorem flok_br {b : β} : FlOk N B R (.br b) ↔ B b := Iff.rfl
theorem flok_rt {r : ρ} : FlOk N B R (.rt r) ↔ R r := Iff.rfl
theorem ok_bindR {x : Option (Fl ρ β σ)} {k : σ → Option ρ} {P : ρ → Prop} : Ok (bindR x k) P ↔ Ok x (FlOk (fun s => Ok (k s) P) (fun _ => False) P) := by
  constructor
  · rintro ⟨v, e, p⟩
    cases x with
    | none => cases e
    | some y =>
      cases y with
      | nx s => exact ⟨_, rfl, v, e, p⟩
      | br b => cases e
      | rt r => cases e; exact ⟨_, rfl, p⟩
  · rintro ⟨y, rfl, h⟩
    cases y with
    | nx s => exact h
    | br b => exact h.elim
    | rt r => exact ⟨r, rfl, h⟩
theorem ok_bindF {x : Option (Fl ρ β σ)} {k : σ → Option (Fl ρ β τ)} {P : Fl ρ β τ → Prop} : Ok (bindF x k) P ↔ Ok x (FlOk (fun s => Ok (k s) P) (fun b => P (.br b)) (fun r => P (.rt r))) := by
  constructor
  · rintro ⟨v, e, p⟩
    cases x with
    | none => cases e
    | some y =>
      cases y with
      | nx s => exact ⟨_, rfl, v, e, p⟩
      | br b => cases e; exact ⟨_, rfl, p⟩
      | rt r => cases e; exact ⟨_, rfl, p⟩
  · rintro ⟨y, rfl, h⟩
    cases y with
    | nx s => exact h
    | br b => exact ⟨_, rfl, h⟩
    | rt r => exact ⟨_, rfl, h⟩
theorem nth_at [Inhabited α] {l : List α} {k : Nat} (h : k < l.length) : l[k]? = some (nth l k) := by
  unfold nth; rw [List.getD_eq_getElem?_getD, List.getElem?_eq_getElem h]; rfl
theorem nth_get [Inhabited α] {l : List α} {k : Nat} (h : k < l.length) : nth l k = l[k] := by
  unfold nth; rw [List.getD_eq_getElem?_getD, List.getElem?_eq_getElem h]; rfl
theorem nth_of [Inhabited α] {l : List α} {k : Nat} {x : α} (h : l[k]? = some x) : nth l k = x ∧ k < l.length := by
  unfold nth; rw [List.getD_eq_getElem?_getD, h]; exact ⟨rfl, (List.getElem?_eq_some_iff.1 h).1⟩
theorem nth_mem [Inhabited α] {l : List α} {k : Nat} (h : k < l.length) : nth l k ∈ l := List.mem_of_getElem? (nth_at h)
theorem mem_nth [Inhabited α] {l : List α} {x : α} (h : x ∈ l) : ∃ k, k < l.length ∧ nth l k = x := by
  obtain ⟨k, hk, e⟩ := List.mem_iff_getElem.1 h
  exact ⟨k, hk, by rw [nth_get hk, e]⟩
theorem nth_set [Inhabited α] {l : List α} {i k : Nat} {x : α} (h : i < l.length) : nth (l.set i x) k = if k = i then x else nth l k := by
  unfold nth
  simp only [List.getD_eq_getElem?_getD]
  split
  · rename_i e; subst e; rw [List.getElem?_set_self h]; rfl
  · rename_i e; rw [List.getElem?_set_ne (Ne.symm e)]
theorem nth_append [Inhabited α] {l m : List α} {k : Nat} : nth (l ++ m) k = if k < l.length then nth l k else nth m (k - l.length) := by
  unfold nth
  simp only [List.getD_eq_getElem?_getD]
  split
  · rename_i h; rw [List.getElem?_append_left h]
  · rename_i h; rw [List.getElem?_append_right (by omega)]
theorem nth_replicate [Inhabited α] {n k : Nat} {x : α} (h : k < n) : nth (List.replicate n x) k = x := by
  unfold nth; simp [List.getD_eq_getElem?_getD, h]
theorem nth_take [Inhabited α] {l : List α} {n k : Nat} (h : k < n) : nth (l.take n) k = nth l k := by
  unfold nth; simp only [List.getD_eq_getElem?_getD]; rw [List.getElem?_take_of_lt h]
theorem nth_drop [Inhabited α] {l : List α} {n k : Nat} : nth (l.drop n) k = nth l (n + k) := by
  unfold nth; simp only [List.getD_eq_getElem?_getD, List.getElem?_drop]
theorem nth_ext [Inhabited α] {l m : List α} (h1 : l.length = m.length) (h2 : ∀ k, k < l.length → nth l k = nth m k) : l = m := by
  apply List.ext_getElem h1
  intro k hk hk'
  rw [← nth_get hk, ← nth_get hk', h2 k hk]
theorem nth_map [Inhabited α] [Inhabited β] {l : List α} {f : α → β} {k : Nat} (h : k < l.length) : nth (l.map f) k = f (nth l k) := by
  rw [nth_get (by simpa using h), nth_get h]; simp
theorem nth_cons_succ [Inhabited α] {l : List α} {x : α} {k : Nat} : nth (x :: l) (k + 1) = nth l k := rfl
theorem ok_idx [Inhabited α] {l : List α} {i : Int} : Ok (idx l i) P ↔ 0 ≤ i ∧ i < (l.length : Int) ∧ P (nth l i.toNat) := by
  unfold idx
  split
  · rename_i h
    by_cases hl : i < (l.length : Int)
    · rw [nth_at (by omega), ok_some]; simp [h, hl]
    · rw [List.getElem?_eq_none (by omega), ok_none]; simp [hl]
  · rename_i h; rw [ok_none]; simp [h]
theorem ok_rangeL {body : Nat → τ → σ → Option (Fl ρ σ σ)} {l : List τ} (I : Nat → σ → Prop) {s : σ} {B : γ → Prop} (h0 : I 0 s)
    (hs : ∀ k x s, l[k]? = some x → I k s → Ok (body k x s) (FlOk (I (k + 1)) N R)) (he : ∀ s, I l.length s → N s) : Ok (rangeL (γ := γ) body l 0 s) (FlOk N B R) := by
  have key : ∀ (d i : Nat) (s : σ), i + d = l.length → I i s → Ok (rangeL (γ := γ) body (l.drop i) i s) (FlOk N B R) := by
    intro d
    induction d with
    | zero =>
      intro i s hi hI
      rw [List.drop_of_length_le (by omega)]
      have : i = l.length := by omega
      subst this
      exact ⟨_, rfl, he s hI⟩
    | succ d ih =>
      intro i s hi hI
      have hlt : i < l.length := by omega
      rw [List.drop_eq_getElem_cons hlt]
      unfold rangeL
      obtain ⟨v, e, p⟩ := hs i l[i] s (List.getElem?_eq_getElem hlt) hI
      rw [e]
      cases v with
      | nx s' => exact ih (i + 1) s' (by omega) p
      | br s' => exact ⟨_, rfl, p⟩
      | rt r => exact ⟨_, rfl, p⟩
  have := key l.length 0 s (by omega) h0
  simpa using this
theorem ok_rangeN {body : Nat → σ → Option (Fl ρ σ σ)} {n : Nat} (I : Nat → σ → Prop) {s : σ} {B : γ → Prop} (h0 : I 0 s)
    (hs : ∀ k s, k < n → I k s → Ok (body k s) (FlOk (I (k + 1)) N R)) (he : ∀ s, I n s → N s) : Ok (rangeN (γ := γ) body n 0 s) (FlOk N B R) := by
  have key : ∀ (d i : Nat) (s : σ), i + d = n → I i s → Ok (rangeN (γ := γ) body d i s) (FlOk N B R) := by
    intro d
    induction d with
    | zero =>
      intro i s hi hI
      have : i = n := by omega
      subst this
      exact ⟨_, rfl, he s hI⟩
    | succ d ih =>
      intro i s hi hI
      unfold rangeN
      obtain ⟨v, e, p⟩ := hs i s (by omega) hI
      rw [e]
      cases v with
      | nx s' => exact ih (i + 1) s' (by omega) p
      | br s' => exact ⟨_, rfl, p⟩
      | rt r => exact ⟨_, rfl, p⟩
  exact key n 0 s (by omega) h0
theorem ok_loopM {body : σ → Option (Fl ρ β σ)} (I : σ → Prop) (μ : σ → Nat) {C : γ → Prop} (hs : ∀ s, I s → Ok (body s) (FlOk (fun s' => I s' ∧ μ s' < μ s) B R)) : ∀ (n : Nat) (s : σ), I s → μ s < n → Ok (loopM (γ := γ) body n s) (FlOk B C R) := by
  intro n
  induction n with
  | zero => intro s _ h; omega
  | succ n ih =>
    intro s hI hn
    unfold loopM
    obtain ⟨v, e, p⟩ := hs s hI
    rw [e]
    cases v with
    | nx s' => exact ih s' p.1 (by have := p.2; omega)
    | br b => exact ⟨_, rfl, p⟩
    | rt r => exact ⟨_, rfl, p⟩
end
end Go.Pu
set_option linter.all false
namespace Go.Pu
open Go.Fw
def Sat {α : Type} (x : Option α) (P : α → Prop) : Prop := ∀ v, x = some v → P v
section
variable {ρ σ α β γ τ : Type} {P : α → Prop} {N : σ → Prop} {B : β → Prop} {R : ρ → Prop}
theorem Sat.mono {x : Option α} {Q : α → Prop} (h : Sat x P) (hPQ : ∀ v, P v → Q v) : Sat x Q := fun v e => hPQ v (h v e)
theorem sat_some {v : α} (h : P v) : Sat (some v) P := fun y e => by cases e; exact h
theorem sat_none : Sat (none : Option α) P := fun y e => by cases e
theorem sat_bind {x : Option τ} {k : τ → Option α} (h : ∀ y, x = some y → Sat (k y) P) : Sat (x.bind k) P := by
  intro v e
  obtain ⟨y, hy, hk⟩ := Option.bind_eq_some_iff.1 e
  exact h y hy v hk
theorem sat_ite {p : Prop} [Decidable p] {x y : Option α} (h1 : p → Sat x P) (h2 : ¬ p → Sat y P) : Sat (if p then x else y) P := by
  split
  · rename_i h; exact h1 h
  · rename_i h; exact h2 h
theorem sat_bindR {x : Option (Fl ρ β σ)} {k : σ → Option ρ} {P : ρ → Prop} (h : Sat x (FlOk (fun s => Sat (k s) P) (fun _ => True) P)) : Sat (bindR x k) P := by
  intro v e
  cases x with
  | none => cases e
  | some y =>
    cases y with
    | nx s => exact h _ rfl v e
    | br b => cases e
    | rt r => cases e; exact h _ rfl
theorem sat_bindF {x : Option (Fl ρ β σ)} {k : σ → Option (Fl ρ β τ)} {P : Fl ρ β τ → Prop} (h : Sat x (FlOk (fun s => Sat (k s) P) (fun b => P (.br b)) (fun r => P (.rt r)))) : Sat (bindF x k) P := by
  intro v e
  cases x with
  | none => cases e
  | some y =>
    cases y with
    | nx s => exact h _ rfl v e
    | br b => cases e; exact h _ rfl
    | rt r => cases e; exact h _ rfl
theorem sat_rangeL {body : Nat → τ → σ → Option (Fl ρ σ σ)} {l : List τ} {s : σ} {B : γ → Prop} (I : σ → Prop) (h0 : I s)
    (hs : ∀ k x s, x ∈ l → I s → Sat (body k x s) (FlOk I I R)) (hN : ∀ s, I s → N s) : ∀ i, Sat (rangeL (γ := γ) body l i s) (FlOk N B R) := by
  induction l generalizing s with
  | nil => intro i; exact sat_some (hN s h0)
  | cons x l ih =>
    intro i v e
    unfold rangeL at e
    cases hb : body i x s with
    | none => rw [hb] at e; cases e
    | some y =>
      rw [hb] at e
      have := hs i x s (by simp) h0 y hb
      cases y with
      | nx s' => exact ih this (fun k y s hy => hs k y s (by simp [hy])) (i + 1) v e
      | br s' => cases e; exact hN _ this
      | rt r => cases e; exact this
theorem sat_rangeN {body : Nat → σ → Option (Fl ρ σ σ)} {s : σ} {B : γ → Prop} (I : σ → Prop) (h0 : I s)
    (hs : ∀ k s, I s → Sat (body k s) (FlOk I I R)) (hN : ∀ s, I s → N s) : ∀ n i, Sat (rangeN (γ := γ) body n i s) (FlOk N B R) := by
  intro n
  induction n generalizing s with
  | zero => intro i; exact sat_some (hN s h0)
  | succ n ih =>
    intro i v e
    unfold rangeN at e
    cases hb : body i s with
    | none => rw [hb] at e; cases e
    | some y =>
      rw [hb] at e
      have := hs i s h0 y hb
      cases y with
      | nx s' => exact ih this (i + 1) v e
      | br s' => cases e; exact hN _ this
      | rt r => cases e; exact this
theorem sat_loopM {body : σ → Option (Fl ρ β σ)} (I : σ → Prop) {C : γ → Prop} (hs : ∀ s, I s → Sat (body s) (FlOk I B R)) : ∀ (n : Nat) (s : σ), I s → Sat (loopM (γ := γ) body n s) (FlOk B C R) := by
  intro n
  induction n with
  | zero => intro s _; exact sat_none
  | succ n ih =>
    intro s hI v e
    unfold loopM at e
    cases hb : body s with
    | none => rw [hb] at e; cases e
    | some y =>
      rw [hb] at e
      have := hs s hI y hb
      cases y with
      | nx s' => exact ih s' this v e
      | br b => cases e; exact this
      | rt r => cases e; exact this
end
def Er (e : Int) : Prop := 0 ≤ e ∧ e ≤ 12
theorem er_lit (e : Int) (h : (decide (0 ≤ e) && decide (e ≤ 12)) = true) : Er e := by
  rw [Bool.and_eq_true, decide_eq_true_eq, decide_eq_true_eq] at h; exact h
end Go.Pu
set_option linter.all false
namespace Go.Pu
open Go.Fw Go.Mo
def W (x : Int) : Prop := -9223372036854775808 ≤ x ∧ x ≤ 9223372036854775807
theorem w_zero : W 0 := ⟨by decide, by decide⟩
theorem w_wrap (x : Int) : W (IntKind.wrap .i64 x) := by unfold W; rw [IntKind.wrap_i64]; omega
theorem w_add (x y : Int) : W (wadd x y) := w_wrap _
theorem w_sub (x y : Int) : W (wsub x y) := w_wrap _
theorem piles_check_er (l : List Int) : Sat (piles_Check_m l) Er := by
  unfold piles_Check_m
  refine sat_ite (fun _ => sat_some (er_lit _ rfl)) fun _ => sat_bindR (sat_rangeL (fun _ => True) trivial (fun k x s _ _ => ?_) (fun s _ => sat_some (er_lit _ rfl)) _)
  unfold piles_Check_b1
  refine sat_bindF (sat_ite (fun _ => sat_some ?_) fun _ => sat_some ?_)
  all_goals exact sat_ite (fun _ => sat_some (er_lit 1 rfl)) fun _ => sat_some trivial
theorem piles_move_er (l : List Int) : Sat (piles_Move_m l) (fun r => Er r.2.2) := by
  unfold piles_Move_m
  refine sat_bind fun e he => sat_ite (fun _ => sat_some (piles_check_er _ _ he)) fun _ => ?_
  refine sat_bindR ?_
  refine sat_rangeL (fun _ => True) trivial (fun k x s _ _ => sat_some ?_) (fun s _ => ?_) _
  · trivial
  refine sat_bindR ?_
  refine sat_rangeL (fun _ => True) trivial (fun k x s _ _ => ?_) (fun s _ => ?_) _
  rotate_left
  · exact sat_some (er_lit 4 rfl)
  unfold piles_Move_b2
  exact sat_ite (fun _ => sat_some (er_lit 0 rfl)) fun _ => sat_some trivial
theorem auction_check_er (l : List Int) (r : Int) : Sat (auction_Check_m l r) Er := by
  unfold auction_Check_m
  refine sat_ite (fun _ => sat_some (er_lit _ rfl)) fun _ => sat_bindR (sat_rangeL (fun _ => True) trivial (fun k x s _ _ => ?_) (fun s _ => sat_bindR (sat_ite (fun _ => sat_some ?_) fun _ => sat_some ?_)) _)
  · unfold auction_Check_b1
    refine sat_bindF (sat_ite (fun _ => sat_some ?_) fun _ => sat_some ?_)
    all_goals exact sat_ite (fun _ => sat_some (er_lit 1 rfl)) fun _ => sat_some trivial
  all_goals exact sat_ite (fun _ => sat_some (er_lit 1 rfl)) fun _ => sat_some (er_lit 0 rfl)
theorem auction_second_er (l : List Int) (r : Int) : Sat (auction_Second_m l r) (fun r => Er r.2.2) := by
  unfold auction_Second_m
  exact sat_bind fun e he => sat_ite (fun _ => sat_some (auction_check_er _ _ _ he)) fun _ => sat_bind fun y _ => sat_ite (fun _ => sat_some (er_lit 4 rfl)) fun _ => sat_some (er_lit 0 rfl)
theorem seats_check_er (l : List Int) (r : Int) : Sat (seats_Check_m l r) Er := by
  unfold seats_Check_m
  have key : Sat (bindR (ρ := Int) (β := Unit) (σ := Int) (rangeL (γ := Unit) seats_Check_b1 l 0 (0 : Int)) fun x17 => (if x17 == (0 : Int) then some (4 : Int) else bindR (ρ := Int) (β := Unit) (σ := Bool) (if decide (r < (0 : Int)) then some (.nx true) else some (.nx (decide (r > (100 : Int))))) fun x77 => (if x77 then some (1 : Int) else some (0 : Int)))) Er := by
    refine sat_bindR (sat_rangeL (fun _ => True) trivial (fun k x s _ _ => ?_) (fun s _ => sat_ite (fun _ => sat_some (er_lit 4 rfl)) fun _ => sat_bindR (sat_ite (fun _ => sat_some ?_) fun _ => sat_some ?_)) _)
    · unfold seats_Check_b1
      refine sat_bindF (sat_ite (fun _ => sat_some ?_) fun _ => sat_some ?_)
      all_goals exact sat_ite (fun _ => sat_some (er_lit 1 rfl)) fun _ => sat_some trivial
    all_goals exact sat_ite (fun _ => sat_some (er_lit 1 rfl)) fun _ => sat_some (er_lit 0 rfl)
  refine sat_bindR (sat_ite (fun _ => sat_some ?_) fun _ => sat_some ?_)
  all_goals exact sat_ite (fun _ => sat_some (er_lit 2 rfl)) fun _ => key
theorem seats_share_er (w : Int) (l : List Int) (r : Int) : Sat (seats_Share_m w l r) (fun r => Er r.2) := by
  unfold seats_Share_m
  refine sat_bindR (sat_ite (fun _ => sat_some ?_) fun _ => sat_some ?_)
  all_goals
    refine sat_ite (fun _ => sat_some (er_lit 1 rfl)) fun _ => sat_bind fun e he => sat_ite (fun _ => sat_some (seats_check_er _ _ _ he)) fun _ => ?_
    refine sat_ite (fun _ => sat_bind fun _ _ => sat_some (er_lit 0 rfl)) fun _ => sat_ite (fun _ => sat_bind fun _ _ => sat_some (er_lit 0 rfl)) fun _ => ?_
    refine sat_bindR ?_
    refine sat_rangeL (fun _ => True) trivial (fun k x s _ _ => sat_some ?_) (fun s _ => sat_bind fun _ _ => sat_bind fun _ _ => ?_) _
    · trivial
    refine sat_bindR ?_
    refine sat_rangeL (fun _ => True) trivial (fun k x s _ _ => ?_) (fun s _ => ?_) _
    · obtain ⟨m1, m2, m3⟩ := s
      unfold seats_Share_b2
      exact sat_bind fun _ _ => sat_bind fun _ _ => sat_bind fun _ _ => sat_bind fun _ _ => sat_bind fun _ _ => sat_some trivial
    · obtain ⟨l1, l2, l3⟩ := s
      refine sat_bind fun _ _ => ?_
      refine sat_bindR ?_
      refine sat_rangeN (fun _ => True) trivial (fun k s _ => ?_) (fun s _ => ?_) _ _
      rotate_left
      · exact sat_some (er_lit 0 rfl)
      obtain ⟨m1, m2⟩ := s
      unfold seats_Share_b3
      refine sat_bindF ?_
      refine sat_rangeN (fun _ => True) trivial (fun k s _ => ?_) (fun s _ => sat_bind fun _ _ => sat_bind fun _ _ => sat_bind fun _ _ => sat_some ?_) _ _
      rotate_left
      · trivial
      unfold seats_Share_b4
      exact sat_bind fun _ _ => sat_bind fun _ _ => sat_ite (fun _ => sat_some trivial) fun _ => sat_some trivial
theorem power_check_er (l : List Int) (r : Int) : Sat (power_Check_m l r) Er := by
  unfold power_Check_m
  have key : Sat (bindR (ρ := Int) (β := Unit) (σ := Int) (rangeL (γ := Unit) power_Check_b1 l 0 (0 : Int)) fun x17 => bindR (ρ := Int) (β := Unit) (σ := Bool) (if decide (r < (1 : Int)) then some (.nx true) else some (.nx (decide (r > x17)))) fun x76 => (if x76 then some (3 : Int) else some (0 : Int))) Er := by
    refine sat_bindR (sat_rangeL (fun _ => True) trivial (fun k x s _ _ => ?_) (fun s _ => sat_bindR (sat_ite (fun _ => sat_some ?_) fun _ => sat_some ?_)) _)
    · unfold power_Check_b1
      refine sat_bindF (sat_ite (fun _ => sat_some ?_) fun _ => sat_some ?_)
      all_goals exact sat_ite (fun _ => sat_some (er_lit 1 rfl)) fun _ => sat_some trivial
    all_goals exact sat_ite (fun _ => sat_some (er_lit 3 rfl)) fun _ => sat_some (er_lit 0 rfl)
  refine sat_bindR (sat_ite (fun _ => sat_some ?_) fun _ => sat_some ?_)
  all_goals exact sat_ite (fun _ => sat_some (er_lit 2 rfl)) fun _ => key
theorem power_swings_er (l : List Int) (r : Int) : Sat (power_Swings_m l r) (fun r => Er r.2) := by
  unfold power_Swings_m
  refine sat_bind fun e he => sat_ite (fun _ => sat_some (power_check_er _ _ _ he)) fun _ => sat_bind fun _ _ => sat_bind fun _ _ => sat_bind fun _ _ => ?_
  refine sat_bindR ?_
  refine sat_rangeN (fun _ => True) trivial (fun k s _ => ?_) (fun s _ => ?_) _ _
  rotate_left
  · exact sat_some (er_lit 0 rfl)
  unfold power_Swings_b1
  refine sat_bindF ?_
  refine sat_rangeL (fun _ => True) trivial (fun k x s _ _ => ?_) (fun s _ => sat_some ?_) _
  rotate_left
  · trivial
  unfold power_Swings_b2
  refine sat_bindF (sat_bind fun _ _ => sat_ite (fun _ => sat_bind fun _ _ => sat_ite (fun _ => sat_bind fun _ _ => sat_bind fun _ _ => sat_some ?_) fun _ => sat_some ?_) fun _ => sat_some ?_)
  all_goals exact sat_ite (fun _ => sat_bind fun _ _ => sat_bind fun _ _ => sat_some trivial) fun _ => sat_some trivial
theorem ledger_check_er (l : List ((List UInt8) × (Int × Int))) : Sat (ledger_Check_m l) Er := by
  unfold ledger_Check_m
  refine sat_ite (fun _ => sat_some (er_lit 2 rfl)) fun _ => sat_bindR (sat_rangeL (fun _ => True) trivial (fun k x s _ _ => ?_) (fun s _ => sat_some (er_lit 0 rfl)) _)
  unfold ledger_Check_b1
  have key : ∀ (x98 : Bool), Sat (if x98 then some (.rt (3 : Int)) else bindF (ρ := Int) (β := Unit) (σ := Bool) (if decide (x.2.1 < (0 : Int)) then some (.nx true) else (if decide (x.2.1 > (1000000 : Int)) then some (.nx true) else (if decide (x.2.2 < (0 : Int)) then some (.nx true) else some (.nx (decide (x.2.2 > (1000000 : Int))))))) fun x121 => (if x121 then some (.rt (1 : Int)) else some (.nx ()))) (FlOk (fun _ => True) (fun _ => True) Er) := fun x98 => by
    refine sat_ite (fun _ => sat_some (er_lit 3 rfl)) fun _ => sat_bindF (sat_ite (fun _ => sat_some ?_) fun _ => sat_ite (fun _ => sat_some ?_) fun _ => sat_ite (fun _ => sat_some ?_) fun _ => sat_some ?_)
    all_goals exact sat_ite (fun _ => sat_some (er_lit 1 rfl)) fun _ => sat_some trivial
  exact sat_bindF (sat_bind fun _ _ => sat_ite (fun _ => sat_some (key _)) fun _ => sat_ite (fun _ => sat_bind fun _ _ => sat_some (key _)) fun _ => sat_some (key _))
theorem ledger_open_er (l : List ((List UInt8) × (Int × Int))) (s : List UInt8) (n : Int) : Sat (ledger_Open_m l s n) (fun r => Er r.2) := by
  unfold ledger_Open_m
  refine sat_bind fun e he => sat_ite (fun _ => sat_some (ledger_check_er _ _ he)) fun _ => sat_bind fun _ _ => sat_ite (fun _ => sat_some (er_lit 3 rfl)) fun _ => sat_bindR (sat_ite (fun _ => sat_some ?_) fun _ => sat_some ?_)
  all_goals exact sat_ite (fun _ => sat_some (er_lit 1 rfl)) fun _ => sat_bind fun _ _ => sat_ite (fun _ => sat_some (er_lit 7 rfl)) fun _ => sat_ite (fun _ => sat_some (er_lit 8 rfl)) fun _ => sat_bind fun _ _ => sat_bind fun _ _ => sat_bind fun _ _ => sat_some (er_lit 0 rfl)
theorem ledger_right_er (d : (List UInt8) × ((List UInt8) × (Int × (Int × (Int × Int))))) : Sat (ledger_Right_m d) Er := by
  unfold ledger_Right_m
  have key : ∀ (x16 : Bool), Sat (if x16 then some (3 : Int) else bindR (ρ := Int) (β := Unit) (σ := Bool) (if decide (d.2.2.1 < (0 : Int)) then some (.nx true) else (if decide (d.2.2.1 > (1000000 : Int)) then some (.nx true) else (if decide (d.2.2.2.1 < (0 : Int)) then some (.nx true) else (if decide (d.2.2.2.1 > (1000000 : Int)) then some (.nx true) else (if decide (d.2.2.2.2.1 < (0 : Int)) then some (.nx true) else (if decide (d.2.2.2.2.1 > (1000000 : Int)) then some (.nx true) else (if decide (d.2.2.2.2.2 < (1 : Int)) then some (.nx true) else some (.nx (decide (d.2.2.2.2.2 > (100 : Int))))))))))) fun x47 => (if x47 then some (1 : Int) else some (0 : Int))) Er := fun x16 => by
    refine sat_ite (fun _ => sat_some (er_lit 3 rfl)) fun _ => sat_bindR (sat_ite (fun _ => sat_some ?_) fun _ => sat_ite (fun _ => sat_some ?_) fun _ => sat_ite (fun _ => sat_some ?_) fun _ => sat_ite (fun _ => sat_some ?_) fun _ => sat_ite (fun _ => sat_some ?_) fun _ => sat_ite (fun _ => sat_some ?_) fun _ => sat_ite (fun _ => sat_some ?_) fun _ => sat_some ?_)
    all_goals exact sat_ite (fun _ => sat_some (er_lit 1 rfl)) fun _ => sat_some (er_lit 0 rfl)
  exact sat_bindR (sat_bind fun _ _ => sat_ite (fun _ => sat_some (key _)) fun _ => sat_bind fun _ _ => sat_ite (fun _ => sat_some (key _)) fun _ => sat_some (key _))
theorem queue_check_er (l : List ((List UInt8) × ((List UInt8) × (Int × (Int × (Int × Int)))))) : Sat (queue_Check_m l) Er := by
  unfold queue_Check_m
  refine sat_ite (fun _ => sat_some (er_lit 2 rfl)) fun _ => sat_bindR (sat_rangeL (fun _ => True) trivial (fun k x s _ _ => ?_) (fun s _ => sat_some (er_lit 0 rfl)) _)
  unfold queue_Check_b1
  exact sat_bind fun e he => sat_ite (fun _ => sat_some (ledger_right_er _ _ he)) fun _ => sat_bind fun _ _ => sat_bind fun _ _ => sat_ite (fun _ => sat_some (er_lit 7 rfl)) fun _ => sat_some trivial
theorem queue_add_er (l : List ((List UInt8) × ((List UInt8) × (Int × (Int × (Int × Int)))))) (d : (List UInt8) × ((List UInt8) × (Int × (Int × (Int × Int))))) : Sat (queue_Add_m l d) (fun r => Er r.2) := by
  unfold queue_Add_m
  exact sat_bind fun e he => sat_ite (fun _ => sat_some (queue_check_er _ _ he)) fun _ => sat_bind fun e he => sat_ite (fun _ => sat_some (ledger_right_er _ _ he)) fun _ => sat_bind fun _ _ => sat_ite (fun _ => sat_bind fun _ _ => sat_ite (fun _ => sat_some (er_lit 7 rfl)) fun _ => sat_bind fun _ _ => sat_bind fun _ _ => sat_some (er_lit 0 rfl)) fun _ => sat_ite (fun _ => sat_some (er_lit 8 rfl)) fun _ => sat_bind fun _ _ => sat_bind fun _ _ => sat_some (er_lit 0 rfl)
theorem queue_drop_er (l : List ((List UInt8) × ((List UInt8) × (Int × (Int × (Int × Int)))))) (s : List UInt8) (n : Int) : Sat (queue_Drop_m l s n) (fun r => Er r.2) := by
  unfold queue_Drop_m
  exact sat_bind fun e he => sat_ite (fun _ => sat_some (queue_check_er _ _ he)) fun _ => sat_bind fun _ _ => sat_ite (fun _ => sat_some (er_lit 4 rfl)) fun _ => sat_bind fun _ _ => sat_bind fun _ _ => sat_some (er_lit 0 rfl)
theorem log_frame_er (r : List UInt8) : Sat (log_Frame_m r) (fun r => Er r.2) := by
  unfold log_Frame_m
  exact sat_ite (fun _ => sat_some (er_lit 2 rfl)) fun _ => sat_bind fun _ _ => sat_bind fun _ _ => sat_bind fun _ _ => sat_bind fun _ _ => sat_some (er_lit 0 rfl)
theorem log_append_er (l : (List UInt8) × Int) (r : List UInt8) : Sat (log_Log_Append_m l r) (fun r => Er r.1) := by
  unfold log_Log_Append_m
  exact sat_bind fun e he => sat_ite (fun _ => sat_some (log_frame_er _ _ he)) fun _ => sat_ite (fun _ => sat_some (er_lit 8 rfl)) fun _ => sat_bind fun _ _ => sat_some (er_lit 0 rfl)
theorem log_crash_er (l : (List UInt8) × Int) (n : Int) : Sat (log_Log_Crash_m l n) (fun r => Er r.1) := by
  unfold log_Log_Crash_m
  refine sat_bindR (sat_ite (fun _ => sat_some ?_) fun _ => sat_some ?_)
  all_goals exact sat_ite (fun _ => sat_some (er_lit 1 rfl)) fun _ => sat_bind fun _ _ => sat_bind fun _ _ => sat_bind fun _ _ => sat_some (er_lit 0 rfl)
theorem pick_next_er (l : List ((List UInt8) × ((List UInt8) × (Int × (Int × (Int × Int)))))) (a : List ((List UInt8) × (Int × Int))) (s : List UInt8) (n : Int) : Sat (pick_Next_m l a s n) (fun r => Er r.2) := by
  unfold pick_Next_m
  refine sat_bind fun e he => sat_ite (fun _ => sat_some (queue_check_er _ _ he)) fun _ => sat_bind fun e he => sat_ite (fun _ => sat_some (ledger_check_er _ _ he)) fun _ => sat_bindR (sat_ite (fun _ => sat_some ?_) fun _ => sat_some ?_)
  all_goals
    refine sat_ite (fun _ => sat_some (er_lit 1 rfl)) fun _ => ?_
    refine sat_bindR ?_
    refine sat_rangeL (fun _ => True) trivial (fun k x s _ _ => ?_) (fun s _ => ?_) _
    rotate_left
    · exact sat_ite (fun _ => sat_some (er_lit 4 rfl)) fun _ => sat_some (er_lit 0 rfl)
    unfold pick_Next_b1
    refine sat_ite (fun _ => sat_some trivial) fun _ => sat_bind fun _ _ => sat_ite (fun _ => sat_some trivial) fun _ => sat_bindF (sat_ite (fun _ => sat_some ?_) fun _ => sat_bind fun _ _ => sat_bind fun _ _ => sat_some ?_)
    all_goals exact sat_ite (fun _ => sat_some trivial) fun _ => sat_some trivial
theorem pick_build_er (l : List ((List UInt8) × ((List UInt8) × (Int × (Int × (Int × Int)))))) (a : List ((List UInt8) × (Int × Int))) (s : List UInt8) (n : Int) : Sat (pick_Build_m l a s n) (fun r => Er r.2.2 ∧ r.1.length ≤ 68719476736) := by
  unfold pick_Build_m
  refine sat_bind fun e he => sat_bindR (sat_ite (fun _ => sat_some ?_) fun _ => sat_some ?_)
  all_goals
    refine sat_ite (fun _ => sat_some ⟨pick_next_er _ _ _ _ _ he, by simp⟩) fun _ => sat_bind fun _ _ => sat_bindR (Sat.mono (sat_loopM (γ := Unit) (B := fun (u : Int × Int × Int × (List ((List UInt8) × (Int × Int))) × (List Int)) => u.2.2.2.2.length ≤ 68719476736) (R := fun _ => False) (C := fun _ => True) (fun (u : Int × Int × Int × (List ((List UInt8) × (Int × Int))) × (List Int)) => u.2.2.2.2.length ≤ 68719476736) (fun u hu => ?_) _ _ (by simp)) ?_)
    · obtain ⟨a1, a2, a3, a4, a5⟩ := u
      unfold pick_Build_b1
      refine sat_ite (fun _ => sat_bind fun _ _ => sat_bind fun _ _ => sat_bind fun _ _ => sat_bind fun _ hc => sat_bind fun _ _ => sat_some ?_) fun _ => sat_some hu
      have := chk_some hc
      simp only [List.length_cons, List.length_nil] at this
      simp only [flok_nx, List.length_append, List.length_cons, List.length_nil]; omega
    · rintro (u | u | u) hu
      · obtain ⟨a1, a2, a3, a4, a5⟩ := u
        exact sat_some ⟨er_lit 0 rfl, hu⟩
      · trivial
      · exact hu.elim
theorem house_open_er (h : ((List ((List UInt8) × (Int × Int))) × ((List ((List UInt8) × ((List UInt8) × (Int × (Int × (Int × Int)))))) × ((List UInt8) × Int)))) (d : (Int × (Int × ((List UInt8) × ((List UInt8) × ((List UInt8) × (Int × (Int × (Int × Int))))))))) : Sat (house_House_open_m h d) (fun r => Er r.1) := by
  unfold house_House_open_m
  exact sat_bind fun e he => sat_ite (fun _ => sat_some (ledger_open_er _ _ _ _ he)) fun _ => sat_bind fun _ _ => sat_bind fun _ _ => sat_bind fun _ _ => sat_bind fun _ _ => sat_bind fun e he => sat_ite (fun _ => sat_some (log_append_er _ _ _ he)) fun _ => sat_some (er_lit 0 rfl)
def Tl (r : (Int × Int) × Int) : Prop := Er r.2 ∧ W r.1.1 ∧ W r.1.2
theorem tl_e {e : Int} (h : Er e) : Tl ((0, 0), e) := ⟨h, w_zero, w_zero⟩
theorem house_build_er (h : ((List ((List UInt8) × (Int × Int))) × ((List ((List UInt8) × ((List UInt8) × (Int × (Int × (Int × Int)))))) × ((List UInt8) × Int)))) (d : (Int × (Int × ((List UInt8) × ((List UInt8) × ((List UInt8) × (Int × (Int × (Int × Int))))))))) : Sat (house_House_build_m h d) (fun r => Tl (r.1, r.2.1)) := by
  unfold house_House_build_m
  refine sat_bind fun _ _ => sat_ite (fun _ => sat_some (tl_e (er_lit 4 rfl))) fun _ => sat_bind fun y hy => sat_ite (fun _ => sat_some (tl_e (pick_build_er _ _ _ _ _ hy).1)) fun _ => sat_bind fun _ _ => ?_
  refine sat_bindR ?_
  refine sat_rangeN (fun (u : List (List UInt8) × Int × Int) => W u.2.2) (by unfold W; simp) (fun k u hu => ?_) (fun u hu => ?_) _ _
  · obtain ⟨u1, u2, u3⟩ := u
    unfold house_House_build_b1
    exact sat_bind fun _ _ => sat_bind fun _ _ => sat_bind fun _ _ => sat_bind fun _ _ => sat_bind fun _ _ => sat_some (w_add _ _)
  · obtain ⟨u1, u2, u3⟩ := u
    refine sat_ite (fun _ => sat_some (tl_e (er_lit 8 rfl))) fun _ => ?_
    refine sat_bindR ?_
    refine sat_rangeN (fun _ => True) trivial (fun k u _ => ?_) (fun u _ => sat_bind fun _ _ => sat_some ⟨er_lit 0 rfl, ?_, hu⟩) _ _
    · unfold house_House_build_b2
      exact sat_bind fun _ _ => sat_bind fun _ _ => sat_some trivial
    · have := (pick_build_er _ _ _ _ _ hy).2
      dsimp only; unfold W; omega
theorem house_do_er (h : ((List ((List UInt8) × (Int × Int))) × ((List ((List UInt8) × ((List UInt8) × (Int × (Int × (Int × Int)))))) × ((List UInt8) × Int)))) (d : (Int × (Int × ((List UInt8) × ((List UInt8) × ((List UInt8) × (Int × (Int × (Int × Int))))))))) (hA : ∀ a ∈ h.1, W a.2.1 ∧ W a.2.2) : Sat (house_House_Do_m h d) (fun r => Tl (r.1, r.2.1)) := by
  unfold house_House_Do_m
  refine sat_ite (fun _ => sat_bind fun e he => sat_some (tl_e (house_open_er _ _ _ he))) fun _ => ?_
  refine sat_ite (fun _ => sat_bind fun e he => sat_ite (fun _ => sat_some (tl_e (queue_add_er _ _ _ he))) fun _ => sat_some (tl_e (er_lit 0 rfl))) fun _ => ?_
  refine sat_ite (fun _ => sat_bind fun e he => sat_some (house_build_er _ _ _ he)) fun _ => ?_
  refine sat_ite (fun _ => sat_bind fun e he => sat_some (tl_e (er_lit 0 rfl))) fun _ => ?_
  refine sat_ite (fun _ => sat_bind fun e he => sat_ite (fun _ => sat_some (tl_e (log_crash_er _ _ _ he))) fun _ => sat_bind fun _ _ => sat_some (tl_e (er_lit 0 rfl))) fun _ => ?_
  refine sat_ite (fun _ => sat_bind fun e he => sat_ite (fun _ => sat_some (tl_e (er_lit 4 rfl))) fun _ => sat_bind fun x hx => sat_bind fun y hy => sat_some ⟨er_lit 0 rfl, (hA _ (List.mem_of_getElem? (idx_some hx).2.2)).1, (hA _ (List.mem_of_getElem? (idx_some hy).2.2)).2⟩) fun _ => ?_
  exact sat_ite (fun _ => sat_bind fun e he => sat_ite (fun _ => sat_some (tl_e (queue_drop_er _ _ _ _ he))) fun _ => sat_some (tl_e (er_lit 0 rfl))) fun _ => sat_some (tl_e (er_lit 1 rfl))
end Go.Pu
set_option linter.all false
namespace Go.Pu
open Go.Fw Go.Mo
def splt (c : UInt8) : List UInt8 → List (List UInt8)
  | [] => [[]]
  | b :: r => if b = c then [] :: splt c r else match splt c r with
    | [] => [[b]]
    | w :: ws => (b :: w) :: ws
theorem splt_ne (c : UInt8) : ∀ s, splt c s ≠ []
  | [] => by simp [splt]
  | b :: r => by
    rw [splt]; split
    · simp
    · split <;> simp
def joinB (c : UInt8) : List (List UInt8) → List UInt8
  | [] => []
  | [w] => w
  | w :: v :: r => w ++ c :: joinB c (v :: r)
theorem joinB_cons (c : UInt8) (w : List UInt8) {l : List (List UInt8)} (h : l ≠ []) : joinB c (w :: l) = w ++ c :: joinB c l := by
  cases l with
  | nil => exact absurd rfl h
  | cons v r => rfl
theorem splt_join (c : UInt8) : ∀ s, joinB c (splt c s) = s
  | [] => rfl
  | b :: r => by
    have ih := splt_join c r
    rw [splt]
    by_cases h : b = c
    · rw [if_pos h, joinB_cons c [] (splt_ne c r), ih, h]; rfl
    · rw [if_neg h]
      cases hs : splt c r with
      | nil => exact absurd hs (splt_ne c r)
      | cons w ws =>
        rw [hs] at ih
        dsimp only
        cases ws with
        | nil => rw [joinB] at ih ⊢; rw [ih]
        | cons v t => rw [joinB] at ih ⊢; rw [← ih]; rfl
theorem splt_no (c : UInt8) : ∀ s, ∀ w ∈ splt c s, c ∉ w
  | [] => by simp [splt]
  | b :: r => by
    have ih := splt_no c r
    rw [splt]
    by_cases h : b = c
    · rw [if_pos h]; intro w hw
      rcases List.mem_cons.1 hw with rfl | hw
      · simp
      · exact ih w hw
    · rw [if_neg h]
      cases hs : splt c r with
      | nil => intro w hw; simp at hw; subst hw; simp [Ne.symm h]
      | cons v t =>
        rw [hs] at ih
        intro w hw
        rcases List.mem_cons.1 hw with rfl | hw
        · have := ih v (by simp); simp [Ne.symm h, this]
        · exact ih w (by simp [hw])
theorem splt_len (c : UInt8) : ∀ s, (splt c s).length ≤ s.length + 1
  | [] => by simp [splt]
  | b :: r => by
    have ih := splt_len c r
    rw [splt]
    split
    · simp only [List.length_cons]; omega
    · split
      · simp
      · rename_i hs; rw [hs] at ih; simp only [List.length_cons] at ih ⊢; omega
theorem splt_short (c : UInt8) : ∀ s, ∀ w ∈ splt c s, w.length ≤ s.length
  | [] => by simp [splt]
  | b :: r => by
    have ih := splt_short c r
    rw [splt]
    split
    · intro w hw
      rcases List.mem_cons.1 hw with rfl | hw
      · simp
      · have := ih w hw; simp only [List.length_cons]; omega
    · split
      · intro w hw; simp at hw; subst hw; simp
      · rename_i v t hs
        rw [hs] at ih
        intro w hw
        rcases List.mem_cons.1 hw with rfl | hw
        · have := ih v (by simp); simp only [List.length_cons]; omega
        · have := ih w (by simp [hw]); simp only [List.length_cons]; omega
theorem index_b (c : UInt8) (j : List UInt8) : ∀ w : List UInt8, c ∉ w → Lib.index (w ++ c :: j) [c] = (w.length : Int)
  | [], _ => by simp [Lib.index, List.isPrefixOf]
  | b :: w, h => by
    have hb : b ≠ c := fun e => h (by simp [e])
    have ih := index_b c j w (fun e => h (by simp [e]))
    have : ([c] : List UInt8).isPrefixOf (b :: (w ++ c :: j)) = false := by simp [List.isPrefixOf, Ne.symm hb]
    rw [List.cons_append, Lib.index, ih, this, if_neg (by simp), if_neg (by rw [beq_iff_eq]; omega), List.length_cons]
    omega
theorem splitK_b (c : UInt8) : ∀ ws : List (List UInt8), ws ≠ [] → (∀ w ∈ ws, c ∉ w) → Lib.splitK [c] 0 (Lib.count (joinB c ws) [c]) (joinB c ws) = ws
  | [], h, _ => absurd rfl h
  | [w], _, h => by
    rw [joinB, Lib.count_one, List.count_eq_zero.2 (h w (by simp))]; rfl
  | w :: v :: r, _, h => by
    have hw := h w (by simp)
    have ih := splitK_b c (v :: r) (by simp) (fun x hx => h x (List.mem_cons_of_mem _ hx))
    rw [Lib.count_one] at ih
    rw [joinB, Lib.count_one, List.count_append, List.count_eq_zero.2 hw, List.count_cons_self, Nat.zero_add, Lib.splitK, index_b c _ _ hw, if_neg (by rw [beq_iff_eq]; omega), Int.toNat_natCast]
    rw [show (w ++ c :: joinB c (v :: r)).take (w.length + 0) = w by simp, show (w ++ c :: joinB c (v :: r)).drop (w.length + [c].length) = joinB c (v :: r) by simp, ih]
theorem split_ok (c : UInt8) {s : List UInt8} (h : s.length < 4294967281) : strings_Split_m s [c] = some (splt c s) := by
  unfold strings_Split_m
  rw [show chk (s.length < 4294967281 ∧ 1 ≤ [c].length) = some () from if_pos ⟨h, by simp⟩, Option.bind_some]
  have : splitL s [c] = splt c s := by
    unfold splitL
    rw [Lib.splitB_data]
    have := splitK_b c (splt c s) (splt_ne c s) (splt_no c s)
    rw [splt_join] at this
    exact this
  rw [this]
end Go.Pu
set_option linter.all false
namespace Go.Pu
open Go.Fw Go.Mo
end Go.Pu
set_option linter.all false
namespace Go.Pu
open Go.Fw
theorem Ok.fl {ρ σ β : Type} {x : Option (Fl ρ β σ)} {N N' : σ → Prop} {B B' : β → Prop} {R R' : ρ → Prop} (h : Ok x (FlOk N B R)) (hN : ∀ s, N s → N' s) (hB : ∀ s, B s → B' s) (hR : ∀ s, R s → R' s) : Ok x (FlOk N' B' R') := h.mono fun v hv => by
  cases v with
  | nx s => exact hN s hv
  | br b => exact hB b hv
  | rt r => exact hR r hv
end Go.Pu
set_option linter.all false
namespace Go.Pu
open Go.Fw Go.Mo
abbrev Deal := List UInt8 × List UInt8 × Int × Int × Int × Int
abbrev Acct := List UInt8 × Int × Int
def Short (s : List UInt8) : Prop := s.length ≤ 9223372036854775807
def ShortD (d : Deal) : Prop := Short d.1 ∧ Short d.2.1
def nm (s : List UInt8) : Bool := (ledger_named_m s).getD false
theorem named_ok {s : List UInt8} (h : Short s) : ledger_named_m s = some (nm s) := by
  have : Ok (ledger_named_m s) (fun _ => True) := by
    unfold ledger_named_m
    rw [chk_t (show s.length ≤ 9223372036854775807 from h), Option.bind_some, ok_bindR]
    refine ok_rangeL (fun _ _ => True) trivial (fun i x t hi _ => ?_) fun t _ => ?_
    · unfold ledger_named_b1
      simp only [ok_bindF, ok_ite, ok_some, flok_nx, flok_rt]
      simp
    · simp only [ok_bindR, ok_ite, ok_some, flok_nx, flok_rt]
      simp
  obtain ⟨b, e, _⟩ := this
  unfold nm; rw [e]; rfl
def rt (d : Deal) : Int := (ledger_Right_m d).getD 0
theorem right_all {d : Deal} (h : ShortD d) : Ok (ledger_Right_m d) (fun e => e = 0 → (0 ≤ d.2.2.1 ∧ d.2.2.1 ≤ 1000000) ∧ (0 ≤ d.2.2.2.1 ∧ d.2.2.2.1 ≤ 1000000) ∧ (0 ≤ d.2.2.2.2.1 ∧ d.2.2.2.2.1 ≤ 1000000) ∧ (1 ≤ d.2.2.2.2.2 ∧ d.2.2.2.2.2 ≤ 100) ∧ nm d.1 = true ∧ nm d.2.1 = true ∧ d.1 ≠ d.2.1) := by
  unfold ledger_Right_m
  rw [named_ok h.1, named_ok h.2]
  simp only [Option.bind_some, ok_bindR, ok_ite, ok_some, flok_nx, decide_eq_true_eq, Bool.not_eq_true', beq_iff_eq]
  grind
theorem right_ok {d : Deal} (h : ShortD d) : ledger_Right_m d = some (rt d) := by
  obtain ⟨e, he, _⟩ := right_all h
  unfold rt; rw [he]; rfl
theorem rt_facts {d : Deal} (h : ShortD d) (h0 : rt d = 0) : (0 ≤ d.2.2.1 ∧ d.2.2.1 ≤ 1000000) ∧ (0 ≤ d.2.2.2.1 ∧ d.2.2.2.1 ≤ 1000000) ∧ (0 ≤ d.2.2.2.2.1 ∧ d.2.2.2.2.1 ≤ 1000000) ∧ (1 ≤ d.2.2.2.2.2 ∧ d.2.2.2.2.2 ≤ 100) ∧ nm d.1 = true ∧ nm d.2.1 = true ∧ d.1 ≠ d.2.1 := by
  obtain ⟨e, he, hf⟩ := right_all h
  have : rt d = e := by unfold rt; rw [he]; rfl
  exact hf (by omega)
def key (d : Deal) : List UInt8 × Int := (d.1, d.2.2.1)
theorem findQ_ok (l : List Deal) (s : List UInt8) (n : Int) : queue_find_m l s n = some (if l.any (fun d => key d == (s, n)) then (l.findIdx (fun d => key d == (s, n)) : Int) else -1) := by
  unfold queue_find_m slices_IndexFunc_api_Deal_api_Deal_m
  rw [rangeL_first (γ := Unit) (fun d => key d == (s, n)) l (fun i x _ => by
    unfold slices_IndexFunc_api_Deal_api_Deal_b1 queue_find_1_m
    have : (key x == (s, n)) = (x.1 == s && x.2.2.1 == n) := rfl
    rw [this]
    dsimp only
    by_cases h1 : (x.1 == s) = true
    · rw [if_pos h1, h1, Bool.true_and]; rfl
    · rw [if_neg h1]
      have h1' : (x.1 == s) = false := by simpa using h1
      rw [h1']; rfl)]
  by_cases h : l.any (fun d => key d == (s, n)) = true
  · rw [if_pos h, if_pos h]; simp [bindR]
  · rw [if_neg h, if_neg h]; rfl
structure Queue (l : List Deal) : Prop where
  len : l.length ≤ 20
  right : ∀ d ∈ l, rt d = 0
  once : ∀ i j, i < j → j < l.length → key (nth l i) ≠ key (nth l j)
theorem any_key {l : List Deal} {k : List UInt8 × Int} : l.any (fun d => key d == k) = true ↔ ∃ i, i < l.length ∧ key (nth l i) = k := by
  rw [List.any_eq_true]
  constructor
  · rintro ⟨d, hd, e⟩
    obtain ⟨i, hi, rfl⟩ := mem_nth hd
    exact ⟨i, hi, by simpa using e⟩
  · rintro ⟨i, hi, e⟩
    exact ⟨nth l i, nth_mem hi, by simpa using e⟩
theorem checkQ_ok {l : List Deal} (hs : ∀ d ∈ l, ShortD d) : ∃ e, queue_Check_m l = some e ∧ (e = 0 ↔ Queue l) := by
  have : Ok (queue_Check_m l) (fun e => e = 0 ↔ Queue l) := by
    unfold queue_Check_m
    by_cases h20 : (l.length : Int) > 20
    · rw [if_pos (by rw [decide_eq_true_eq]; exact h20), ok_some]
      exact ⟨fun h => by (cases h), fun h => by have := h.len; omega⟩
    · rw [if_neg (by rw [decide_eq_true_eq]; exact h20), ok_bindR]
      refine ok_rangeL (fun k _ => (∀ i, i < k → rt (nth l i) = 0) ∧ ∀ i j, i < j → j < k → key (nth l i) ≠ key (nth l j)) ⟨fun i hi => by omega, fun i j _ hj => by omega⟩ (fun k d t hk hI => ?_) fun t ht => ?_
      · obtain ⟨hd, hkl⟩ := nth_of hk
        have hsd := hs d (List.mem_of_getElem? hk)
        unfold queue_Check_b1
        rw [right_ok hsd, Option.bind_some]
        by_cases hr : rt d = 0
        · rw [if_neg (by rw [bne_iff_ne]; exact fun h => h hr), chk_t (by omega), Option.bind_some, findQ_ok, Option.bind_some, Int.toNat_natCast, List.drop_zero]
          by_cases ha : (l.take k).any (fun x => key x == (d.1, d.2.2.1)) = true
          · rw [if_pos ha, if_pos (by rw [decide_eq_true_eq]; omega), ok_some, flok_rt]
            obtain ⟨i, hi, e⟩ := any_key.1 ha
            rw [List.length_take] at hi
            rw [nth_take (by omega)] at e
            exact ⟨fun h => by (cases h), fun h => absurd (e.trans (show (d.1, d.2.2.1) = key (nth l k) by rw [hd]; rfl)) (h.once i k (by omega) hkl)⟩
          · rw [if_neg ha, if_neg (by decide), ok_some, flok_nx]
            refine ⟨fun i hi => ?_, fun i j hij hj => ?_⟩
            · by_cases e : i = k
              · subst e; rw [hd]; exact hr
              · exact hI.1 i (by omega)
            · by_cases e : j = k
              · subst e
                intro h
                refine ha (any_key.2 ⟨i, by rw [List.length_take]; omega, ?_⟩)
                rw [nth_take hij, h, hd]; rfl
              · exact hI.2 i j hij (by omega)
        · rw [if_pos (by rw [bne_iff_ne]; exact hr), ok_some, flok_rt]
          exact ⟨fun h => absurd h hr, fun h => absurd (h.right d (List.mem_of_getElem? hk)) hr⟩
      · rw [ok_some]
        refine ⟨fun _ => ⟨by omega, fun d hd => ?_, ht.2⟩, fun _ => rfl⟩
        obtain ⟨i, hi, rfl⟩ := mem_nth hd
        exact ht.1 i hi
  exact this
theorem Queue.idx {l : List Deal} (h : Queue l) {i : Nat} (hi : i < l.length) : l.any (fun d => key d == key (nth l i)) = true ∧ l.findIdx (fun d => key d == key (nth l i)) = i := by
  have ha : l.any (fun d => key d == key (nth l i)) = true := any_key.2 ⟨i, hi, rfl⟩
  refine ⟨ha, ?_⟩
  have hlt : l.findIdx (fun d => key d == key (nth l i)) < l.length := List.findIdx_lt_length.2 (by rw [List.any_eq_true] at ha; exact ha)
  have hk := List.findIdx_getElem (w := hlt)
  rw [← nth_get hlt, beq_iff_eq] at hk
  by_cases e : l.findIdx (fun d => key d == key (nth l i)) = i
  · exact e
  · rcases Nat.lt_or_gt_of_ne e with h1 | h1
    · exact absurd hk (h.once _ _ h1 hi)
    · exact absurd hk.symm (h.once _ _ h1 hlt)
inductive Added (l : List Deal) (d : Deal) : List Deal × Int → Prop
  | no (e : Int) : e ≠ 0 → Added l d ([], e)
  | at (i : Nat) : Queue l → rt d = 0 → i < l.length → key (nth l i) = key d → (nth l i).2.2.2.2.1 < d.2.2.2.2.1 → Added l d (l.set i d, 0)
  | end_ : Queue l → rt d = 0 → (∀ i, i < l.length → key (nth l i) ≠ key d) → l.length < 20 → Added l d (l ++ [d], 0)
theorem cloneQ (l : List Deal) (h : l.length ≤ 1000) : slices_Clone_api_Deal_api_Deal_m l = some l := by unfold slices_Clone_api_Deal_api_Deal_m; rw [chk_t (by omega)]; rfl
theorem add_ok {l : List Deal} {d : Deal} (hs : ∀ d ∈ l, ShortD d) (hd : ShortD d) : Ok (queue_Add_m l d) (Added l d) := by
  obtain ⟨e, he, hq⟩ := checkQ_ok hs
  unfold queue_Add_m
  rw [he, Option.bind_some]
  by_cases h0 : e = 0
  · have hQ := hq.1 h0
    have hlen := hQ.len
    rw [if_neg (by rw [bne_iff_ne]; exact fun h => h h0), right_ok hd, Option.bind_some]
    by_cases hr : rt d = 0
    · rw [if_neg (by rw [bne_iff_ne]; exact fun h => h hr), findQ_ok, Option.bind_some]
      by_cases ha : l.any (fun x => key x == (d.1, d.2.2.1)) = true
      · obtain ⟨i, hi, ei⟩ := any_key.1 ha
        have hx := (hQ.idx hi).2
        rw [ei] at hx
        rw [if_pos ha, if_pos (by rw [decide_eq_true_eq]; omega), hx, idx_nat, nth_at hi, Option.bind_some]
        by_cases hf : d.2.2.2.2.1 ≤ (nth l i).2.2.2.2.1
        · rw [if_pos (by rw [decide_eq_true_eq]; exact hf), ok_some]; exact .no 7 (by decide)
        · rw [if_neg (by rw [decide_eq_true_eq]; exact hf), cloneQ l (by omega), Option.bind_some, idx_nat, nth_at hi, Option.bind_some, ok_some, Int.toNat_natCast]
          exact .at i hQ hr hi ei (by omega)
      · rw [if_neg ha, if_neg (by decide)]
        by_cases h20 : l.length = 20
        · rw [if_pos (by rw [beq_iff_eq]; omega), ok_some]; exact .no 8 (by decide)
        · rw [if_neg (by rw [beq_iff_eq]; omega), cloneQ l (by omega), Option.bind_some, chk_t (by simp only [List.length_cons, List.length_nil]; omega), Option.bind_some, ok_some]
          exact .end_ hQ hr (fun i hi e => ha (any_key.2 ⟨i, hi, e⟩)) (by omega)
    · rw [if_pos (by rw [bne_iff_ne]; exact hr), ok_some]; exact .no _ hr
  · rw [if_pos (by rw [bne_iff_ne]; exact h0), ok_some]; exact .no _ h0
theorem Queue.set {l : List Deal} (h : Queue l) {i : Nat} {d : Deal} (hi : i < l.length) (hr : rt d = 0) (hk : key (nth l i) = key d) : Queue (l.set i d) := by
  have kk : ∀ j, key (nth (l.set i d) j) = key (nth l j) := fun j => by
    rw [nth_set hi]
    split
    · rename_i e; subst e; exact hk.symm
    · rfl
  refine ⟨by rw [List.length_set]; exact h.len, fun x hx => ?_, fun a b hab hb => by rw [kk, kk]; exact h.once a b hab (by rw [List.length_set] at hb; exact hb)⟩
  rcases List.mem_or_eq_of_mem_set hx with hx | hx
  · exact h.right x hx
  · subst hx; exact hr
theorem Queue.snoc {l : List Deal} (h : Queue l) {d : Deal} (hr : rt d = 0) (hk : ∀ i, i < l.length → key (nth l i) ≠ key d) (hl : l.length < 20) : Queue (l ++ [d]) := by
  refine ⟨by simp; omega, fun x hx => ?_, fun a b hab hb => ?_⟩
  · rcases List.mem_append.1 hx with hx | hx
    · exact h.right x hx
    · rw [List.mem_singleton] at hx; subst hx; exact hr
  · rw [List.length_append, List.length_singleton] at hb
    rw [nth_append, nth_append, if_pos (by omega)]
    by_cases e : b < l.length
    · rw [if_pos e]; exact h.once a b hab e
    · rw [if_neg e, show b - l.length = 0 by omega]; exact hk a (by omega)
theorem Added.queue {l : List Deal} {d : Deal} {p : List Deal × Int} (h : Added l d p) (h0 : p.2 = 0) : Queue p.1 := by
  cases h with
  | no e he => exact absurd h0 he
  | «at» i hQ hr hi hk hf => exact hQ.set hi hr hk
  | end_ hQ hr hk hl => exact hQ.snoc hr hk hl
end Go.Pu
set_option linter.all false
namespace Go.Pu
open Go.Fw Go.Mo
def WfD (d : Deal) : Prop := d.1.length ≤ maxLen ∧ d.2.1.length ≤ maxLen ∧ (Lit.int .i64 d.2.2.1).wf = true ∧ (Lit.int .i64 d.2.2.2.1).wf = true ∧ (Lit.int .i64 d.2.2.2.2.1).wf = true ∧ (Lit.int .i64 d.2.2.2.2.2).wf = true
theorem WfD.short {d : Deal} (h : WfD d) : ShortD d := ⟨h.1, h.2.1⟩
end Go.Pu
set_option linter.all false
namespace Go.Pu
open Go.Fw Go.Mo
def past (accts : List Acct) (d : Deal) : Bool := accts.any fun a => a.1 == d.1 && decide (d.2.2.1 < a.2.2)
theorem indexA (l : List Acct) (g : Acct → Option Bool) (q : Acct → Bool) (h : ∀ a, g a = some (q a)) : slices_IndexFunc_api_Account_api_Account_m l g = some (if l.any q then (l.findIdx q : Int) else -1) := by
  unfold slices_IndexFunc_api_Account_api_Account_m
  rw [rangeL_first (γ := Unit) q l (fun i x _ => by unfold slices_IndexFunc_api_Account_api_Account_b1; rw [h]; rfl)]
  by_cases ha : l.any q = true
  · rw [if_pos ha, if_pos ha]; simp [bindR]
  · rw [if_neg ha, if_neg ha]; rfl
theorem containsA (l : List Acct) (g : Acct → Option Bool) (q : Acct → Bool) (h : ∀ a, g a = some (q a)) : slices_ContainsFunc_api_Account_api_Account_m l g = some (l.any q) := by
  unfold slices_ContainsFunc_api_Account_api_Account_m
  rw [indexA l g q h, Option.bind_some]
  by_cases ha : l.any q = true
  · rw [if_pos ha, ha]; simp
  · have : l.any q = false := by simpa using ha
    rw [if_neg ha, this]; rfl
theorem clean1_ok (accts : List Acct) (d : Deal) : queue_Clean_1_m d accts = some (past accts d) := by
  unfold queue_Clean_1_m
  rw [containsA accts _ (fun a => a.1 == d.1 && decide (d.2.2.1 < a.2.2)) (fun a => by
    unfold queue_Clean_1_1_m
    by_cases h : (a.1 == d.1) = true
    · rw [if_pos h, h]; rfl
    · have h' : (a.1 == d.1) = false := by simpa using h
      rw [if_neg h, h']; rfl)]
  rfl
theorem indexD (l : List Deal) (g : Deal → Option Bool) (q : Deal → Bool) (h : ∀ a, g a = some (q a)) : slices_IndexFunc_api_Deal_api_Deal_m l g = some (if l.any q then (l.findIdx q : Int) else -1) := by
  unfold slices_IndexFunc_api_Deal_api_Deal_m
  rw [rangeL_first (γ := Unit) q l (fun i x _ => by unfold slices_IndexFunc_api_Deal_api_Deal_b1; rw [h]; rfl)]
  by_cases ha : l.any q = true
  · rw [if_pos ha, if_pos ha]; simp [bindR]
  · rw [if_neg ha, if_neg ha]; rfl
theorem deleteFunc_ok (l : List Deal) (g : Deal → Option Bool) (q : Deal → Bool) (h : ∀ a, g a = some (q a)) (hl : l.length ≤ 1000) : slices_DeleteFunc_api_Deal_api_Deal_m l g = some (l.filter fun d => !q d) := by
  unfold slices_DeleteFunc_api_Deal_api_Deal_m
  rw [indexD l g q h, Option.bind_some]
  by_cases ha : l.any q = true
  · rw [if_pos ha, if_neg (by rw [beq_iff_eq]; omega)]
    have hlt : l.findIdx q < l.length := List.findIdx_lt_length.2 (by rw [List.any_eq_true] at ha; exact ha)
    generalize hi : l.findIdx q = i at *
    apply Ok.eq
    have hpre : ∀ k, k < i → q (nth l k) = false := fun k hk => by
      have := List.not_of_lt_findIdx (xs := l) (p := q) (i := k) (by omega)
      rw [nth_get (by omega)]; simpa using this
    have hat : q (nth l i) = true := by
      have := List.findIdx_getElem (xs := l) (p := q) (w := by omega)
      rw [nth_get hlt]; simpa [hi] using this
    rw [ok_bindR]
    -- x33: so many are left; x34: so many are looked at
    refine ok_loopM (fun (s : List Deal × Int × Int) => ∃ a b : Nat, s.2.1 = (a : Int) ∧ s.2.2 = (b : Int) ∧ a < b ∧ b ≤ l.length ∧ s.1.length = l.length ∧ s.1.take a = (l.take b).filter (fun d => !q d) ∧ ∀ k, b ≤ k → nth s.1 k = nth l k) (fun s => 1000 - s.2.2.toNat) (fun s hs => ?_) _ _ ⟨i, i + 1, rfl, by (try dsimp only); rw [wadd_of (by omega) (by omega)]; omega, by omega, by omega, rfl, ?_, fun k _ => rfl⟩ (by dsimp only; omega)
    · obtain ⟨m, x, y⟩ := s
      obtain ⟨a, b, rfl, rfl, hab, hb, hm, hf, hr⟩ := hs
      dsimp only at hm hf hr
      unfold slices_DeleteFunc_api_Deal_api_Deal_b1
      dsimp only
      by_cases hlt2 : b < l.length
      · rw [hm, if_pos (by rw [decide_eq_true_eq]; omega), idx_nat, nth_at (by omega), Option.bind_some, h, Option.bind_some, hr b (Nat.le_refl _)]
        have hts : l.take (b + 1) = l.take b ++ [nth l b] := by rw [List.take_succ, nth_at hlt2]; rfl
        by_cases hq : q (nth l b) = true
        · rw [if_neg (by simp [hq]), ok_some, flok_nx, wadd_of (by omega) (by omega)]
          refine ⟨⟨a, b + 1, rfl, by (try dsimp only); omega, by omega, by omega, hm, ?_, fun k hk => hr k (by omega)⟩, by dsimp only; omega⟩
          rw [hts, List.filter_append, ← hf]; simp [hq]
        · rw [if_pos (by simpa using hq), idx_nat, nth_at (by omega), Option.bind_some, ok_some, flok_nx, Int.toNat_natCast, wadd_of (by omega) (by omega), wadd_of (by omega) (by omega)]
          refine ⟨⟨a + 1, b + 1, by (try dsimp only); omega, by (try dsimp only); omega, by omega, by omega, by dsimp only; rw [List.length_set]; exact hm, ?_, fun k hk => by dsimp only; rw [nth_set (by omega), if_neg (by omega)]; exact hr k (by omega)⟩, by dsimp only; omega⟩
          dsimp only
          rw [hts, List.filter_append, ← hf, List.take_succ, List.getElem?_set_self (by omega), List.take_set_of_le (by omega)]
          simp [hq]
      · rw [hm, if_neg (by rw [decide_eq_true_eq]; omega), ok_some, flok_br]
        dsimp only
        have hbl : b = l.length := by omega
        subst hbl
        rw [chk_t (by omega), Option.bind_some, chk_t (by omega), Option.bind_some, ok_some, Int.toNat_natCast, hf, List.take_length]
    · dsimp only
      have hts : l.take (i + 1) = l.take i ++ [nth l i] := by rw [List.take_succ, nth_at hlt]; rfl
      rw [hts, List.filter_append]
      have h2 : (l.take i).filter (fun d => !q d) = l.take i := List.filter_eq_self.2 fun d hd => by
        obtain ⟨k, hk, rfl⟩ := mem_nth hd
        rw [List.length_take] at hk
        rw [nth_take (by omega), hpre k (by omega)]; rfl
      rw [h2]; simp [hat]
  · rw [if_neg ha, if_pos (by decide)]
    congr 1
    refine (List.filter_eq_self.2 fun d hd => ?_).symm
    cases e : q d with
    | false => rfl
    | true => exact absurd (List.any_eq_true.2 ⟨d, hd, e⟩) ha
theorem Queue.filter {l : List Deal} (h : Queue l) (q : Deal → Bool) : Queue (l.filter q) := by
  have hsub := List.filter_sublist (l := l) (p := q)
  refine ⟨Nat.le_trans hsub.length_le h.len, fun d hd => h.right d (List.mem_filter.1 hd).1, ?_⟩
  have hp : l.Pairwise (fun a b => key a ≠ key b) := by
    rw [List.pairwise_iff_getElem]
    intro i j hi hj hij
    have := h.once i j hij hj
    rw [nth_get hi, nth_get hj] at this; exact this
  have hp' := hp.sublist hsub
  rw [List.pairwise_iff_getElem] at hp'
  intro i j hij hj
  rw [nth_get (by omega), nth_get hj]
  exact hp' i j (by omega) hj hij
theorem clean_ok {l : List Deal} {accts : List Acct} (hs : ∀ d ∈ l, ShortD d) (hc : ∃ e, ledger_Check_m accts = some e) : ∃ p, queue_Clean_m l accts = some p ∧ ((p.1 = [] ∧ p.2 ≠ 0) ∨ (p = (l.filter (fun d => !past accts d), 0) ∧ Queue l ∧ ledger_Check_m accts = some 0)) := by
  obtain ⟨e, he, hq⟩ := checkQ_ok hs
  obtain ⟨e', he'⟩ := hc
  unfold queue_Clean_m
  rw [he, Option.bind_some]
  by_cases h0 : e = 0
  · have hQ := hq.1 h0
    have h20 := hQ.len
    rw [if_neg (by rw [bne_iff_ne]; exact fun h => h h0), he', Option.bind_some]
    by_cases h1 : e' = 0
    · rw [if_neg (by rw [bne_iff_ne]; exact fun h => h h1), cloneQ l (by omega), Option.bind_some, deleteFunc_ok l _ (past accts) (fun d => clean1_ok accts d) (by omega), Option.bind_some]
      subst h1
      exact ⟨_, rfl, .inr ⟨rfl, hQ, by first | rfl | exact he'⟩⟩
    · rw [if_pos (by rw [bne_iff_ne]; exact h1)]; exact ⟨_, rfl, .inl ⟨rfl, h1⟩⟩
  · rw [if_pos (by rw [bne_iff_ne]; exact h0)]; exact ⟨_, rfl, .inl ⟨rfl, h0⟩⟩
theorem check_some {accts : List Acct} (h : ∀ a ∈ accts, Short a.1) : ∃ e, ledger_Check_m accts = some e := by
  have : Ok (ledger_Check_m accts) (fun _ => True) := by
    unfold ledger_Check_m
    simp only [ok_ite, ok_some, ok_bindR, decide_eq_true_eq]
    refine ⟨fun _ => trivial, fun h6 => ok_rangeL (fun _ _ => True) trivial (fun k a _ hk _ => ?_) fun _ _ => trivial⟩
    obtain ⟨ha, hkl⟩ := nth_of hk
    unfold ledger_Check_b1
    rw [named_ok (h a (List.mem_of_getElem? hk)), Option.bind_some, ok_bindF]
    have fin : ∀ b : Bool, Ok (if b = true then some (Fl.rt (3 : Int)) else bindF (ρ := Int) (β := Unit) (σ := Bool) (if decide (a.2.1 < (0 : Int)) then some (.nx true) else (if decide (a.2.1 > (1000000 : Int)) then some (.nx true) else (if decide (a.2.2 < (0 : Int)) then some (.nx true) else some (.nx (decide (a.2.2 > (1000000 : Int))))))) fun x121 => (if x121 then some (.rt (1 : Int)) else some (.nx ()))) (FlOk (fun (_ : Unit) => True) (fun _ => True) (fun _ => True)) := fun b => by
      simp only [ok_ite, ok_some, ok_bindF, flok_nx, flok_rt]
      simp
    by_cases hn : nm a.1 = true
    · rw [if_neg (by simp [hn])]
      by_cases hk0 : (k : Int) > 0
      · rw [if_pos (by rw [decide_eq_true_eq]; exact hk0), wsub_of (by omega) (by have := Nat.le_of_lt hkl; omega), show (k : Int) - 1 = ((k - 1 : Nat) : Int) by omega, idx_nat, nth_at (by omega), Option.bind_some, ok_some, flok_nx]
        exact (fin _).fl (fun _ h => h) (fun _ _ => trivial) (fun _ h => h)
      · rw [if_neg (by rw [decide_eq_true_eq]; exact hk0), ok_some, flok_nx]
        exact (fin _).fl (fun _ h => h) (fun _ _ => trivial) (fun _ h => h)
    · rw [if_pos (by simpa using hn), ok_some, flok_nx]
      exact (fin _).fl (fun _ h => h) (fun _ _ => trivial) (fun _ h => h)
  obtain ⟨e, he, _⟩ := this
  exact ⟨e, he⟩
end Go.Pu
set_option linter.all false
namespace Go.Pu
open Go.Fw
structure Mat (n k : Nat) (m : List (List Int)) (f : Nat → Nat → Int) : Prop where
  len : m.length = n
  row : ∀ x, x < n → (nth m x).length = k
  at_ : ∀ x y, x < n → y < k → nth (nth m x) y = f x y
section
variable {n k : Nat} {m : List (List Int)} {f g : Nat → Nat → Int}
theorem Mat.congr (h : Mat n k m f) (e : ∀ x y, x < n → y < k → f x y = g x y) : Mat n k m g := ⟨h.len, h.row, fun x y hx hy => by rw [h.at_ x y hx hy, e x y hx hy]⟩
theorem Mat.cell? (h : Mat n k m f) {x y : Nat} (hx : x < n) (hy : y < k) : (nth m x)[y]? = some (f x y) := by rw [nth_at (by rw [h.row x hx]; exact hy), h.at_ x y hx hy]
theorem Mat.set (h : Mat n k m f) {x y : Nat} (hx : x < n) (hy : y < k) (v : Int) : Mat n k (m.set x ((nth m x).set y v)) (fun a b => if a = x ∧ b = y then v else f a b) := by
  have hxl : x < m.length := by rw [h.len]; exact hx
  refine ⟨by simpa using h.len, fun a ha => ?_, fun a b ha hb => ?_⟩
  · rw [nth_set hxl]
    split
    · simpa using h.row x hx
    · exact h.row a ha
  · rw [nth_set hxl]
    by_cases hax : a = x
    · subst hax
      rw [if_pos rfl, nth_set (by rw [h.row a ha]; exact hy)]
      by_cases hby : b = y
      · simp [hby]
      · simp [hby]; exact h.at_ a b ha hb
    · rw [if_neg hax, if_neg (by simp [hax])]; exact h.at_ a b ha hb
theorem Mat.setRow (h : Mat n k m f) {x : Nat} (hx : x < n) {r : List Int} {v : Nat → Int} (hr : r.length = k) (hv : ∀ y, y < k → nth r y = v y) : Mat n k (m.set x r) (fun a b => if a = x then v b else f a b) := by
  have hxl : x < m.length := by rw [h.len]; exact hx
  refine ⟨by simpa using h.len, fun a ha => ?_, fun a b ha hb => ?_⟩
  · rw [nth_set hxl]
    split
    · exact hr
    · exact h.row a ha
  · rw [nth_set hxl]
    split
    · exact hv b hb
    · exact h.at_ a b ha hb
theorem Mat.ext {m' : List (List Int)} (h : Mat n k m f) (h' : Mat n k m' f) : m = m' := by
  refine nth_ext (by rw [h.len, h'.len]) fun x hx => ?_
  rw [h.len] at hx
  refine nth_ext (by rw [h.row x hx, h'.row x hx]) fun y hy => ?_
  rw [h.row x hx] at hy
  rw [h.at_ x y hx hy, h'.at_ x y hx hy]
theorem Mat.self (h1 : m.length = n) (h2 : ∀ r ∈ m, r.length = k) : Mat n k m (fun x y => nth (nth m x) y) := ⟨h1, fun x hx => h2 _ (nth_mem (by omega)), fun _ _ _ _ => rfl⟩
end
structure Vec (n : Nat) (l : List Int) (f : Nat → Int) : Prop where
  len : l.length = n
  at_ : ∀ x, x < n → nth l x = f x
section
variable {n : Nat} {l : List Int} {f g : Nat → Int}
theorem Vec.congr (h : Vec n l f) (e : ∀ x, x < n → f x = g x) : Vec n l g := ⟨h.len, fun x hx => by rw [h.at_ x hx, e x hx]⟩
theorem Vec.set (h : Vec n l f) {x : Nat} (hx : x < n) (v : Int) : Vec n (l.set x v) (fun a => if a = x then v else f a) :=
  ⟨by simpa using h.len, fun a ha => by rw [nth_set (by rw [h.len]; exact hx)]; split; rfl; exact h.at_ a ha⟩
theorem Vec.ext {l' : List Int} (h : Vec n l f) (h' : Vec n l' f) : l = l' := nth_ext (by rw [h.len, h'.len]) fun x hx => by rw [h.len] at hx; rw [h.at_ x hx, h'.at_ x hx]
theorem Vec.self (h : l.length = n) : Vec n l (nth l) := ⟨h, fun _ _ => rfl⟩
theorem Vec.zero : Vec n (List.replicate n 0) (fun _ => 0) := ⟨by simp, fun x hx => nth_replicate hx⟩
theorem Vec.nil : Vec 0 [] f := ⟨rfl, fun x hx => by omega⟩
theorem Vec.snoc (h : Vec n l f) {v : Int} (e : v = f n) : Vec (n + 1) (l ++ [v]) f := ⟨by simp [h.len], fun x hx => by
  rw [nth_append, h.len]
  split
  · rename_i h'; exact h.at_ x h'
  · have : x = n := by omega
    subst this; simp [e]; rfl⟩
end
def sumN (n : Nat) (f : Nat → Int) : Int := match n with | 0 => 0 | n + 1 => sumN n f + f n
theorem sumN_congr {n : Nat} {f g : Nat → Int} (h : ∀ x, x < n → f x = g x) : sumN n f = sumN n g := by
  induction n with
  | zero => rfl
  | succ n ih => simp only [sumN]; rw [ih fun x hx => h x (by omega), h n (by omega)]
theorem sumN_add {n : Nat} {f g : Nat → Int} : sumN n (fun x => f x + g x) = sumN n f + sumN n g := by
  induction n with
  | zero => rfl
  | succ n ih => simp only [sumN]; omega
theorem sumN_zero {n : Nat} : sumN n (fun _ => 0) = 0 := by
  induction n with
  | zero => rfl
  | succ n ih => simp only [sumN]; omega
theorem sumN_sub {n : Nat} {f g : Nat → Int} : sumN n (fun x => f x - g x) = sumN n f - sumN n g := by
  induction n with
  | zero => rfl
  | succ n ih => simp only [sumN]; omega
theorem sumN_single {n k : Nat} {c : Int} (h : k < n) : sumN n (fun x => if x = k then c else 0) = c := by
  induction n with
  | zero => omega
  | succ n ih =>
    simp only [sumN]
    by_cases hk : k = n
    · subst hk
      rw [if_pos rfl, sumN_congr (g := fun _ => 0) (fun x hx => if_neg (by omega)), sumN_zero]; omega
    · rw [ih (by omega), if_neg (Ne.symm hk)]; omega
end Go.Pu
set_option linter.all false
namespace Go.Pu
open Go.Fw Go.Mo
theorem bls_nil (x : List UInt8) : bls x [] = false := by cases x <;> rfl
theorem bls_cons (a b : UInt8) (x y : List UInt8) : bls (a :: x) (b :: y) = (decide (a < b) || (a == b && bls x y)) := rfl
theorem bls_irrefl : ∀ x : List UInt8, bls x x = false
  | [] => rfl
  | a :: x => by
    rw [bls_cons, bls_irrefl x]
    have : ¬ a < a := UInt8.lt_irrefl a
    simp [this]
theorem bls_trans : ∀ x y z : List UInt8, bls x y = true → bls y z = true → bls x z = true
  | x, y, [], _, h => by rw [bls_nil] at h; cases h
  | x, [], z, h, _ => by rw [bls_nil] at h; cases h
  | [], b :: y, c :: z, _, _ => rfl
  | a :: x, b :: y, c :: z, h1, h2 => by
    rw [bls_cons] at h1 h2 ⊢
    have ih := bls_trans x y z
    simp only [Bool.or_eq_true, decide_eq_true_eq, Bool.and_eq_true, beq_iff_eq] at h1 h2 ⊢
    rcases h1 with h1 | ⟨rfl, h1⟩ <;> rcases h2 with h2 | ⟨rfl, h2⟩
    · exact .inl (UInt8.lt_trans h1 h2)
    · exact .inl h1
    · exact .inl h2
    · exact .inr ⟨rfl, ih h1 h2⟩
theorem bls_total : ∀ x y : List UInt8, bls x y = true ∨ x = y ∨ bls y x = true
  | [], [] => .inr (.inl rfl)
  | [], _ :: _ => .inl rfl
  | _ :: _, [] => .inr (.inr rfl)
  | a :: x, b :: y => by
    rw [bls_cons, bls_cons]
    have ih := bls_total x y
    simp only [Bool.or_eq_true, decide_eq_true_eq, Bool.and_eq_true, beq_iff_eq]
    by_cases hab : a = b
    · subst hab
      rcases ih with h | h | h
      · exact .inl (.inr ⟨rfl, h⟩)
      · exact .inr (.inl (by rw [h]))
      · exact .inr (.inr (.inr ⟨rfl, h⟩))
    · rcases Nat.lt_or_gt_of_ne (fun e : a.toNat = b.toNat => hab (UInt8.toNat_inj.1 e)) with h | h
      · exact .inl (.inl (UInt8.lt_iff_toNat_lt.2 h))
      · exact .inr (.inr (.inl (UInt8.lt_iff_toNat_lt.2 h)))
theorem bls_le {x y : List UInt8} : (bls x y || x == y) = false ↔ bls y x = true := by
  constructor
  · intro h
    simp only [Bool.or_eq_false_iff, beq_eq_false_iff_ne] at h
    rcases bls_total x y with h' | h' | h'
    · rw [h.1] at h'; cases h'
    · exact absurd h' h.2
    · exact h'
  · intro h
    have h1 : bls x y = false := by
      cases e : bls x y with
      | false => rfl
      | true => have := bls_trans _ _ _ e h; rw [bls_irrefl] at this; cases this
    have h2 : x ≠ y := fun e => by subst e; rw [bls_irrefl] at h; cases h
    rw [h1, Bool.false_or, beq_eq_false_iff_ne]; exact h2
structure Accts (l : List Acct) : Prop where
  len : l.length ≤ 6
  name : ∀ a ∈ l, nm a.1 = true
  asc : ∀ k, k + 1 < l.length → bls (nth l k).1 (nth l (k + 1)).1 = true
  val : ∀ a ∈ l, (0 ≤ a.2.1 ∧ a.2.1 ≤ 1000000) ∧ 0 ≤ a.2.2 ∧ a.2.2 ≤ 1000000
def ShortA (l : List Acct) : Prop := ∀ a ∈ l, Short a.1
theorem checkA_ok {l : List Acct} (hs : ShortA l) : ∃ e, ledger_Check_m l = some e ∧ (e = 0 ↔ Accts l) := by
  have : Ok (ledger_Check_m l) (fun e => e = 0 ↔ Accts l) := by
    unfold ledger_Check_m
    by_cases h6 : (l.length : Int) > 6
    · rw [if_pos (by rw [decide_eq_true_eq]; exact h6), ok_some]
      exact ⟨fun h => by (cases h), fun h => by have := h.len; omega⟩
    · rw [if_neg (by rw [decide_eq_true_eq]; exact h6), ok_bindR]
      refine ok_rangeL (fun k _ => (∀ i, i < k → nm (nth l i).1 = true ∧ (0 ≤ (nth l i).2.1 ∧ (nth l i).2.1 ≤ 1000000) ∧ 0 ≤ (nth l i).2.2 ∧ (nth l i).2.2 ≤ 1000000) ∧ ∀ i, i + 1 < k → bls (nth l i).1 (nth l (i + 1)).1 = true) ⟨fun i hi => by omega, fun i hi => by omega⟩ (fun k a t hk hI => ?_) fun t ht => ?_
      · obtain ⟨ha, hkl⟩ := nth_of hk
        have hsa := hs a (List.mem_of_getElem? hk)
        have hmem := List.mem_of_getElem? hk
        unfold ledger_Check_b1
        rw [named_ok hsa, Option.bind_some, ok_bindF]
        have bad : ¬ Accts l → Ok (some (Fl.nx (ρ := Int) (β := Unit) true)) (FlOk (fun x98 : Bool => Ok (if x98 then some (.rt (3 : Int)) else bindF (ρ := Int) (β := Unit) (σ := Bool) (if decide (a.2.1 < (0 : Int)) then some (.nx true) else (if decide (a.2.1 > (1000000 : Int)) then some (.nx true) else (if decide (a.2.2 < (0 : Int)) then some (.nx true) else some (.nx (decide (a.2.2 > (1000000 : Int))))))) fun x121 => (if x121 then some (.rt (1 : Int)) else some (.nx ()))) (FlOk (fun (_ : Unit) => (∀ i, i < k + 1 → nm (nth l i).1 = true ∧ (0 ≤ (nth l i).2.1 ∧ (nth l i).2.1 ≤ 1000000) ∧ 0 ≤ (nth l i).2.2 ∧ (nth l i).2.2 ≤ 1000000) ∧ ∀ i, i + 1 < k + 1 → bls (nth l i).1 (nth l (i + 1)).1 = true) (fun _ => False) (fun e => e = 0 ↔ Accts l))) (fun _ => False) (fun _ => False)) := fun hb => by
          rw [ok_some, flok_nx, if_pos rfl, ok_some, flok_rt]
          exact ⟨fun h => by (cases h), fun h => absurd h hb⟩
        have good : nm a.1 = true → (0 < k → bls (nth l (k - 1)).1 a.1 = true) → Ok (some (Fl.nx (ρ := Int) (β := Unit) false)) (FlOk (fun x98 : Bool => Ok (if x98 then some (.rt (3 : Int)) else bindF (ρ := Int) (β := Unit) (σ := Bool) (if decide (a.2.1 < (0 : Int)) then some (.nx true) else (if decide (a.2.1 > (1000000 : Int)) then some (.nx true) else (if decide (a.2.2 < (0 : Int)) then some (.nx true) else some (.nx (decide (a.2.2 > (1000000 : Int))))))) fun x121 => (if x121 then some (.rt (1 : Int)) else some (.nx ()))) (FlOk (fun (_ : Unit) => (∀ i, i < k + 1 → nm (nth l i).1 = true ∧ (0 ≤ (nth l i).2.1 ∧ (nth l i).2.1 ≤ 1000000) ∧ 0 ≤ (nth l i).2.2 ∧ (nth l i).2.2 ≤ 1000000) ∧ ∀ i, i + 1 < k + 1 → bls (nth l i).1 (nth l (i + 1)).1 = true) (fun _ => False) (fun e => e = 0 ↔ Accts l))) (fun _ => False) (fun _ => False)) := fun hn hb => by
          rw [ok_some, flok_nx, if_neg (by decide), ok_bindF]
          by_cases hv : (0 ≤ a.2.1 ∧ a.2.1 ≤ 1000000) ∧ 0 ≤ a.2.2 ∧ a.2.2 ≤ 1000000
          · rw [if_neg (by rw [decide_eq_true_eq]; omega), if_neg (by rw [decide_eq_true_eq]; omega), if_neg (by rw [decide_eq_true_eq]; omega), ok_some, flok_nx, if_neg (by rw [decide_eq_true_eq]; omega), ok_some, flok_nx]
            refine ⟨fun i hi => ?_, fun i hi => ?_⟩
            · by_cases e : i = k
              · subst e; rw [ha]; exact ⟨hn, hv⟩
              · exact hI.1 i (by omega)
            · by_cases e : i + 1 = k
              · subst e; rw [ha]; exact hb (by omega)
              · exact hI.2 i (by omega)
          · have nb : Ok (if decide (a.2.1 < (0 : Int)) then some (Fl.nx (ρ := Int) (β := Unit) true) else (if decide (a.2.1 > (1000000 : Int)) then some (.nx true) else (if decide (a.2.2 < (0 : Int)) then some (.nx true) else some (.nx (decide (a.2.2 > (1000000 : Int))))))) (FlOk (fun b => b = true) (fun _ => False) (fun _ => False)) := by
              simp only [ok_ite, ok_some, flok_nx, decide_eq_true_eq]
              exact ⟨fun _ => trivial, fun _ => ⟨fun _ => trivial, fun _ => ⟨fun _ => trivial, fun _ => by omega⟩⟩⟩
            refine nb.fl (fun b hb' => ?_) (fun _ h => h.elim) (fun _ h => h.elim)
            subst hb'
            rw [if_pos rfl, ok_some, flok_rt]
            exact ⟨fun h => by (cases h), fun h => absurd (h.val a hmem) hv⟩
        by_cases hn : nm a.1 = true
        · rw [if_neg (by simp [hn])]
          by_cases hk0 : (k : Int) > 0
          · rw [if_pos (by rw [decide_eq_true_eq]; exact hk0), wsub_of (by omega) (by omega), show (k : Int) - 1 = ((k - 1 : Nat) : Int) by omega, idx_nat, nth_at (by omega), Option.bind_some]
            cases hb : (bls a.1 (nth l (k - 1)).1 || a.1 == (nth l (k - 1)).1) with
            | true =>
              refine (bad fun h => ?_).fl (fun _ h => h.fl (fun _ h => h) (fun _ h => h.elim) (fun _ h => h)) (fun _ h => h.elim) (fun _ h => h.elim)
              have := h.asc (k - 1) (by omega)
              rw [show k - 1 + 1 = k by omega, ha] at this
              rw [bls_le.2 this] at hb; cases hb
            | false =>
              exact (good hn fun _ => bls_le.1 hb).fl (fun _ h => h.fl (fun _ h => h) (fun _ h => h.elim) (fun _ h => h)) (fun _ h => h.elim) (fun _ h => h.elim)
          · rw [if_neg (by rw [decide_eq_true_eq]; exact hk0)]
            exact (good hn fun h => by omega).fl (fun _ h => h.fl (fun _ h => h) (fun _ h => h.elim) (fun _ h => h)) (fun _ h => h.elim) (fun _ h => h.elim)
        · rw [if_pos (by simpa using hn)]
          exact (bad fun h => hn (h.name a hmem)).fl (fun _ h => h.fl (fun _ h => h) (fun _ h => h.elim) (fun _ h => h)) (fun _ h => h.elim) (fun _ h => h.elim)
      · rw [ok_some]
        refine ⟨fun _ => ⟨by omega, fun a ha => ?_, ht.2, fun a ha => ?_⟩, fun _ => rfl⟩
        · obtain ⟨i, hi, rfl⟩ := mem_nth ha; exact (ht.1 i hi).1
        · obtain ⟨i, hi, rfl⟩ := mem_nth ha; exact (ht.1 i hi).2
  exact this
section
variable {l : List Acct}
theorem Accts.at (h : Accts l) {i : Nat} (hi : i < l.length) : (0 ≤ (nth l i).2.1 ∧ (nth l i).2.1 ≤ 1000000) ∧ 0 ≤ (nth l i).2.2 ∧ (nth l i).2.2 ≤ 1000000 := h.val _ (nth_mem hi)
theorem Accts.chain (h : Accts l) : ∀ d i, i + (d + 1) < l.length → bls (nth l i).1 (nth l (i + (d + 1))).1 = true
  | 0, i, hd => h.asc i hd
  | d + 1, i, hd => bls_trans _ _ _ (h.chain d i (by omega)) (h.asc (i + (d + 1)) (by omega))
theorem Accts.ne (h : Accts l) {i j : Nat} (hij : i < j) (hj : j < l.length) : (nth l i).1 ≠ (nth l j).1 := fun e => by
  have := h.chain (j - i - 1) i (by omega)
  rw [show i + (j - i - 1 + 1) = j by omega, e, bls_irrefl] at this; cases this
theorem Accts.inj (h : Accts l) {i j : Nat} (hi : i < l.length) (hj : j < l.length) (e : (nth l i).1 = (nth l j).1) : i = j := by
  by_cases hij : i = j
  · exact hij
  · rcases Nat.lt_or_gt_of_ne hij with h1 | h1
    · exact absurd e (h.ne h1 hj)
    · exact absurd e.symm (h.ne h1 hi)
theorem findA_ok (l : List Acct) (s : List UInt8) : ledger_find_m l s = some (if l.any (fun a => a.1 == s) then (l.findIdx (fun a => a.1 == s) : Int) else -1) := by
  unfold ledger_find_m
  rw [indexA l (fun a0 => ledger_find_1_m a0 s) (fun a => a.1 == s) (fun a => rfl)]; rfl
theorem findA_at (h : Accts l) {i : Nat} (hi : i < l.length) {s : List UInt8} (e : (nth l i).1 = s) : ledger_find_m l s = some (i : Int) := by
  have ha : l.any (fun a => a.1 == s) = true := List.any_eq_true.2 ⟨nth l i, nth_mem hi, by simpa using e⟩
  rw [findA_ok, if_pos ha]
  have hlt : l.findIdx (fun a => a.1 == s) < l.length := List.findIdx_lt_length.2 (by rw [List.any_eq_true] at ha; exact ha)
  have hk := List.findIdx_getElem (w := hlt)
  rw [← nth_get hlt, beq_iff_eq] at hk
  rw [h.inj hlt hi (hk.trans e.symm)]
theorem findA_no {s : List UInt8} (h : ∀ i, i < l.length → (nth l i).1 ≠ s) : ledger_find_m l s = some (-1) := by
  rw [findA_ok, if_neg]
  intro ha
  obtain ⟨a, ha, e⟩ := List.any_eq_true.1 ha
  obtain ⟨i, hi, rfl⟩ := mem_nth ha
  exact h i hi (by simpa using e)
theorem findA_cases (h : Accts l) (s : List UInt8) : (∃ i, i < l.length ∧ (nth l i).1 = s ∧ ledger_find_m l s = some (i : Int)) ∨ ((∀ i, i < l.length → (nth l i).1 ≠ s) ∧ ledger_find_m l s = some (-1)) := by
  by_cases ex : ∃ i, i < l.length ∧ (nth l i).1 = s
  · obtain ⟨i, hi, e⟩ := ex; exact .inl ⟨i, hi, e, findA_at h hi e⟩
  · have hn : ∀ i, i < l.length → (nth l i).1 ≠ s := fun i hi e => ex ⟨i, hi, e⟩
    exact .inr ⟨hn, findA_no hn⟩
end
theorem cloneA (l : List Acct) (h : l.length ≤ 1000) : slices_Clone_api_Account_api_Account_m l = some l := by unfold slices_Clone_api_Account_api_Account_m; rw [chk_t (by omega)]; rfl
structure Moved (l : List Acct) (i j k : Nat) (a b : Int) (m : List Acct) : Prop where
  len : m.length = l.length
  at_ : ∀ q, q < l.length → nth m q = ((nth l q).1, (nth l q).2.1 - (if q = i then a + b else 0) + (if q = j then a else 0) + (if q = k then b else 0), (nth l q).2.2 + (if q = i then 1 else 0))
inductive Took (l : List Acct) (d : Deal) (t : List UInt8) : List Acct × Int → Prop
  | no (e : Int) : e ≠ 0 → Took l d t ([], e)
  | yes (i j k : Nat) (m : List Acct) : Accts l → rt d = 0 → i < l.length → j < l.length → k < l.length → (nth l i).1 = d.1 → (nth l j).1 = d.2.1 → (nth l k).1 = t → d.2.2.1 = (nth l i).2.2 → d.2.2.2.1 + d.2.2.2.2.1 ≤ (nth l i).2.1 → Moved l i j k d.2.2.2.1 d.2.2.2.2.1 m → Accts m → Took l d t (m, 0)
theorem take_three {l : List Acct} {d : Deal} {t : List UInt8} (hA : Accts l) (hs : ShortA l) (hd : ShortD d) (hr : rt d = 0) {i j k : Nat} (hi : i < l.length) (hj : j < l.length) (hk : k < l.length) (ei : (nth l i).1 = d.1) (ej : (nth l j).1 = d.2.1) (ek : (nth l k).1 = t) :
    ∃ m, Moved l i j k d.2.2.2.1 d.2.2.2.2.1 m ∧ ledger_Take_m l d t = if d.2.2.1 ≠ (nth l i).2.2 then some ([], 6) else if (nth l i).2.1 < d.2.2.2.1 + d.2.2.2.2.1 then some ([], 11) else (ledger_Check_m m).bind fun e => if e != 0 then some ([], 8) else some (m, 0) := by
  obtain ⟨e, he, hq⟩ := checkA_ok hs
  have h0 := hq.2 hA
  subst h0
  obtain ⟨r1, r2, r3, r4, r5, r6, r7⟩ := rt_facts hd hr
  have h6 := hA.len
  have vi := hA.at hi; have vj := hA.at hj; have vk := hA.at hk
  have hij : i ≠ j := fun e => by subst e; exact r7 (ei.symm.trans ej)
  unfold ledger_Take_m
  rw [he, Option.bind_some, if_neg (by decide), right_ok hd, hr, Option.bind_some, if_neg (by decide), findA_at hA hi ei, Option.bind_some, findA_at hA hj ej, Option.bind_some, findA_at hA hk ek, Option.bind_some, if_neg (by rw [decide_eq_true_eq]; omega), if_neg (by rw [decide_eq_true_eq]; omega)]
  have hdk : decide ((k : Int) < 0) = false := by rw [decide_eq_false_iff_not]; omega
  simp only [bindR, hdk, Bool.false_eq_true, if_false]
  rw [idx_nat, nth_at hi, Option.bind_some]
  generalize hl1 : l.set i ((nth l i).1, (nth l i).2.1 - (d.2.2.2.1 + d.2.2.2.2.1), (nth l i).2.2) = l1
  generalize hl2 : l1.set i ((nth l1 i).1, (nth l1 i).2.1, (nth l1 i).2.2 + 1) = l2
  generalize hl3 : l2.set j ((nth l2 j).1, (nth l2 j).2.1 + d.2.2.2.1, (nth l2 j).2.2) = l3
  generalize hl4 : l3.set k ((nth l3 k).1, (nth l3 k).2.1 + d.2.2.2.2.1, (nth l3 k).2.2) = l4
  have n1 : l1.length = l.length := by rw [← hl1, List.length_set]
  have n2 : l2.length = l.length := by rw [← hl2, List.length_set, n1]
  have n3 : l3.length = l.length := by rw [← hl3, List.length_set, n2]
  have n4 : l4.length = l.length := by rw [← hl4, List.length_set, n3]
  have q1 : ∀ q, nth l1 q = if q = i then ((nth l i).1, (nth l i).2.1 - (d.2.2.2.1 + d.2.2.2.2.1), (nth l i).2.2) else nth l q := fun q => by rw [← hl1, nth_set hi]
  have q2 : ∀ q, nth l2 q = if q = i then ((nth l i).1, (nth l i).2.1 - (d.2.2.2.1 + d.2.2.2.2.1), (nth l i).2.2 + 1) else nth l q := fun q => by
    rw [← hl2, nth_set (by omega)]
    by_cases e : q = i
    · rw [if_pos e, if_pos e, q1, if_pos rfl]
    · rw [if_neg e, if_neg e, q1, if_neg e]
  have q2j : nth l2 j = nth l j := by rw [q2, if_neg (fun e => hij e.symm)]
  have q3 : ∀ q, nth l3 q = if q = j then ((nth l j).1, (nth l j).2.1 + d.2.2.2.1, (nth l j).2.2) else nth l2 q := fun q => by rw [← hl3, nth_set (by omega), q2j]
  have b3 : -4000000 ≤ (nth l3 k).2.1 ∧ (nth l3 k).2.1 ≤ 4000000 := by
    rw [q3]
    split
    · dsimp only; omega
    · rw [q2]; split
      · dsimp only; omega
      · omega
  refine ⟨l4, ⟨n4, fun q hq => ?_⟩, ?_⟩
  · rw [← hl4, nth_set (by omega)]
    by_cases e1 : q = k
    · subst e1
      rw [if_pos rfl, if_pos rfl, q3]
      by_cases e2 : q = j
      · subst e2
        rw [if_pos rfl, if_pos rfl, if_neg (fun e => hij e.symm), if_neg (fun e => hij e.symm)]
        dsimp only
        refine Prod.ext rfl (Prod.ext ?_ ?_) <;> dsimp only <;> omega
      · rw [if_neg e2, if_neg e2, q2]
        by_cases e3 : q = i
        · subst e3; simp only [if_true]
          refine Prod.ext rfl (Prod.ext ?_ ?_) <;> dsimp only <;> omega
        · rw [if_neg e3, if_neg e3, if_neg e3]
          refine Prod.ext rfl (Prod.ext ?_ ?_) <;> dsimp only <;> omega
    · rw [if_neg e1, if_neg e1, q3]
      by_cases e2 : q = j
      · subst e2
        rw [if_pos rfl, if_pos rfl, if_neg (fun e => hij e.symm), if_neg (fun e => hij e.symm)]
        refine Prod.ext rfl (Prod.ext ?_ ?_) <;> dsimp only <;> omega
      · rw [if_neg e2, if_neg e2, q2]
        by_cases e3 : q = i
        · subst e3; simp only [if_true]
          refine Prod.ext rfl (Prod.ext ?_ ?_) <;> dsimp only <;> omega
        · rw [if_neg e3, if_neg e3, if_neg e3]
          refine Prod.ext rfl (Prod.ext ?_ ?_) <;> dsimp only <;> omega
  · by_cases hn : d.2.2.1 = (nth l i).2.2
    · rw [if_neg (by rw [bne_iff_ne]; exact fun h => h hn), if_neg (by exact fun h => h hn), Option.bind_some, wadd_of (by omega) (by omega)]
      by_cases hp : (nth l i).2.1 < d.2.2.2.1 + d.2.2.2.2.1
      · rw [if_pos (by rw [decide_eq_true_eq]; exact hp), if_pos hp]
      · rw [if_neg (by rw [decide_eq_true_eq]; exact hp), if_neg hp, cloneA l (by omega), Option.bind_some, idx_nat, nth_at hi, Option.bind_some, Option.bind_some, Int.toNat_natCast, Int.toNat_natCast, Int.toNat_natCast, wsub_of (by omega) (by omega), hl1, idx_nat, nth_at (by omega), Option.bind_some, Option.bind_some]
        have e22 : (nth l1 i).2.2 = (nth l i).2.2 := by rw [q1, if_pos rfl]
        rw [wadd_of (x := (nth l1 i).2.2) (by omega) (by omega), hl2, idx_nat, nth_at (by omega), Option.bind_some, Option.bind_some, wadd_of (x := (nth l2 j).2.1) (by rw [q2j]; omega) (by rw [q2j]; omega), hl3, idx_nat, nth_at (by omega), Option.bind_some, Option.bind_some, wadd_of (x := (nth l3 k).2.1) (by omega) (by omega), hl4]
    · rw [if_pos (by rw [bne_iff_ne]; exact hn), if_pos hn]
theorem Moved.short {l m : List Acct} {i j k : Nat} {a b : Int} (h : Moved l i j k a b m) (hs : ShortA l) : ShortA m := fun x hx => by
  obtain ⟨q, hq, rfl⟩ := mem_nth hx
  rw [h.len] at hq
  rw [h.at_ q hq]
  show Short (nth l q).1
  exact hs _ (nth_mem hq)
theorem take_ok {l : List Acct} {d : Deal} {t : List UInt8} (hs : ShortA l) (hd : ShortD d) : Ok (ledger_Take_m l d t) (Took l d t) := by
  obtain ⟨e, he, hq⟩ := checkA_ok hs
  by_cases h0 : e = 0
  · have hA := hq.1 h0
    subst h0
    by_cases hr : rt d = 0
    · have miss : (¬ ∃ i j k, i < l.length ∧ j < l.length ∧ k < l.length ∧ (nth l i).1 = d.1 ∧ (nth l j).1 = d.2.1 ∧ (nth l k).1 = t) → ledger_Take_m l d t = some ([], 4) := fun hno => by
        unfold ledger_Take_m
        rw [he, Option.bind_some, if_neg (by decide), right_ok hd, hr, Option.bind_some, if_neg (by decide)]
        rcases findA_cases hA d.1 with ⟨i, hi, ei, f1⟩ | ⟨_, f1⟩ <;> rcases findA_cases hA d.2.1 with ⟨j, hj, ej, f2⟩ | ⟨_, f2⟩ <;> rcases findA_cases hA t with ⟨k, hk, ek, f3⟩ | ⟨_, f3⟩
        · exact absurd ⟨i, j, k, hi, hj, hk, ei, ej, ek⟩ hno
        all_goals
          rw [f1, Option.bind_some, f2, Option.bind_some, f3, Option.bind_some]
          simp [bindR]
          try omega
      by_cases ex : ∃ i j k, i < l.length ∧ j < l.length ∧ k < l.length ∧ (nth l i).1 = d.1 ∧ (nth l j).1 = d.2.1 ∧ (nth l k).1 = t
      · obtain ⟨i, j, k, hi, hj, hk, ei, ej, ek⟩ := ex
        obtain ⟨m, hm, e⟩ := take_three hA hs hd hr hi hj hk ei ej ek
        rw [e]
        by_cases hn : d.2.2.1 = (nth l i).2.2
        · rw [if_neg (by exact fun h => h hn)]
          by_cases hp : (nth l i).2.1 < d.2.2.2.1 + d.2.2.2.2.1
          · rw [if_pos hp, ok_some]; exact .no 11 (by decide)
          · rw [if_neg hp]
            obtain ⟨e2, he2, hq2⟩ := checkA_ok (hm.short hs)
            rw [he2, Option.bind_some]
            by_cases hz : e2 = 0
            · rw [if_neg (by rw [bne_iff_ne]; exact fun h => h hz), ok_some]
              exact .yes i j k m hA hr hi hj hk ei ej ek hn (by omega) hm (hq2.1 hz)
            · rw [if_pos (by rw [bne_iff_ne]; exact hz), ok_some]; exact .no 8 (by decide)
        · rw [if_pos hn, ok_some]; exact .no 6 (by decide)
      · rw [miss ex, ok_some]; exact .no 4 (by decide)
    · unfold ledger_Take_m
      rw [he, Option.bind_some, if_neg (by decide), right_ok hd, Option.bind_some, if_pos (by rw [bne_iff_ne]; exact hr), ok_some]
      exact .no _ hr
  · unfold ledger_Take_m
    rw [he, Option.bind_some, if_pos (by rw [bne_iff_ne]; exact h0), ok_some]
    exact .no _ h0
end Go.Pu
set_option linter.all false
namespace Go.Pu
open Go.Fw Go.Mo
def joinW : List (List UInt8) → List UInt8
  | [] => []
  | [w] => w
  | w :: v :: r => w ++ 32 :: joinW (v :: r)
theorem index_w (j : List UInt8) : ∀ w : List UInt8, (32 : UInt8) ∉ w → Lib.index (w ++ 32 :: j) [32] = (w.length : Int)
  | [], _ => by simp [Lib.index, List.isPrefixOf]
  | b :: w, h => by
    have hb : b ≠ 32 := fun e => h (by simp [e])
    have ih := index_w j w (fun e => h (by simp [e]))
    have : ([32] : List UInt8).isPrefixOf (b :: (w ++ 32 :: j)) = false := by simp [List.isPrefixOf, Ne.symm hb]
    rw [List.cons_append, Lib.index, ih, this, if_neg (by simp), if_neg (by rw [beq_iff_eq]; omega), List.length_cons]
    omega
theorem splitK_join : ∀ ws : List (List UInt8), ws ≠ [] → (∀ w ∈ ws, (32 : UInt8) ∉ w) → Lib.splitK [32] 0 (Lib.count (joinW ws) [32]) (joinW ws) = ws
  | [], h, _ => absurd rfl h
  | [w], _, h => by
    rw [joinW, Lib.count_one, List.count_eq_zero.2 (h w (by simp))]; rfl
  | w :: v :: r, _, h => by
    have hw := h w (by simp)
    have ih := splitK_join (v :: r) (by simp) (fun x hx => h x (List.mem_cons_of_mem _ hx))
    rw [Lib.count_one] at ih
    rw [joinW, Lib.count_one, List.count_append, List.count_eq_zero.2 hw, List.count_cons_self, Nat.zero_add, Lib.splitK, index_w _ _ hw, if_neg (by rw [beq_iff_eq]; omega), Int.toNat_natCast]
    rw [show (w ++ 32 :: joinW (v :: r)).take (w.length + 0) = w by simp, show (w ++ 32 :: joinW (v :: r)).drop (w.length + [(32 : UInt8)].length) = joinW (v :: r) by simp, ih]
theorem splitL_join {ws : List (List UInt8)} (h0 : ws ≠ []) (h : ∀ w ∈ ws, (32 : UInt8) ∉ w) : splitL (joinW ws) [32] = ws := by
  unfold splitL
  rw [Lib.splitB_data]; exact splitK_join ws h0 h
theorem dig_val : ∀ d, d < 10 → Lib.digitVal (UInt8.ofNat (48 + d)) = some d := by decide
theorem dig_rng : ∀ d, d < 10 → 48 ≤ (UInt8.ofNat (48 + d)).toNat ∧ (UInt8.ofNat (48 + d)).toNat ≤ 57 := by decide
theorem dec_append (m : List UInt8) : ∀ (l : List UInt8) (a : Nat), Lib.decFrom a (l ++ m) = (Lib.decFrom a l).bind fun x => Lib.decFrom x m
  | [], a => rfl
  | b :: l, a => by
    rw [List.cons_append, Lib.decFrom, Lib.decFrom]
    cases Lib.digitVal b with
    | none => rfl
    | some d => exact dec_append m l _
theorem dec_digits (u : Nat) : Lib.decFrom 0 (Lib.decDigits u) = some u := by
  induction u using Nat.strongRecOn with
  | _ u ih =>
    rw [Lib.decDigits]
    by_cases h : u < 10
    · rw [dif_pos h, Lib.decFrom, dig_val u h]; simp [Lib.decFrom]
    · rw [dif_neg h, dec_append, ih (u / 10) (by omega), Option.bind_some, Lib.decFrom, dig_val _ (by omega)]
      simp [Lib.decFrom]; omega
theorem dec_rng (u : Nat) : ∀ b ∈ Lib.decDigits u, 48 ≤ b.toNat ∧ b.toNat ≤ 57 := by
  induction u using Nat.strongRecOn with
  | _ u ih =>
    rw [Lib.decDigits]
    by_cases h : u < 10
    · rw [dif_pos h]; intro b hb; rw [List.mem_singleton] at hb; subst hb; exact dig_rng u h
    · rw [dif_neg h]; intro b hb
      rcases List.mem_append.1 hb with hb | hb
      · exact ih (u / 10) (by omega) b hb
      · rw [List.mem_singleton] at hb; subst hb; exact dig_rng _ (by omega)
theorem dec_len : ∀ (k u : Nat), u < 10 ^ (k + 1) → (Lib.decDigits u).length ≤ k + 1
  | 0, u, h => by rw [Lib.decDigits, dif_pos (by omega)]; simp
  | k + 1, u, h => by
    rw [Lib.decDigits]
    by_cases h' : u < 10
    · rw [dif_pos h']; simp
    · rw [dif_neg h', List.length_append]
      have : (10 : Nat) ^ (k + 1 + 1) = 10 ^ (k + 1) * 10 := Nat.pow_succ ..
      have := dec_len k (u / 10) (by omega)
      simp only [List.length_cons, List.length_nil]; omega
theorem dec_pos (u : Nat) : 1 ≤ (Lib.decDigits u).length := by
  rw [Lib.decDigits]
  by_cases h : u < 10
  · rw [dif_pos h]; simp
  · rw [dif_neg h]; simp
theorem itoa_at {n : Int} (h0 : 0 ≤ n) : Lib.itoa n = Lib.decDigits n.toNat := by unfold Lib.itoa; rw [if_neg (by omega)]
theorem itoa_len {n : Int} (h0 : 0 ≤ n) (h1 : n ≤ 1000000) : (Lib.itoa n).length ≤ 7 := by rw [itoa_at h0]; exact dec_len 6 _ (by omega)
theorem itoa_len3 {n : Int} (h0 : 0 ≤ n) (h1 : n ≤ 100) : (Lib.itoa n).length ≤ 3 := by rw [itoa_at h0]; exact dec_len 2 _ (by omega)
theorem itoa_no {n : Int} (h0 : 0 ≤ n) : (32 : UInt8) ∉ Lib.itoa n := by
  rw [itoa_at h0]; intro h
  have := (dec_rng _ _ h).1
  exact absurd this (by decide)
theorem atoi_itoa {n : Int} (h0 : 0 ≤ n) : Lib.atoi (Lib.itoa n) = some n := by
  rw [itoa_at h0]
  have h1 := dec_pos n.toNat; have h2 := dec_rng n.toNat; have h3 := dec_digits n.toNat
  cases hl : Lib.decDigits n.toNat with
  | nil => rw [hl] at h1; simp at h1
  | cons b r =>
    rw [hl] at h2 h3
    have hb := (h2 b (by simp)).1
    rw [Lib.atoi, if_neg, if_neg, Lib.decNat, if_neg (by simp), h3, Option.map_some, Int.toNat_of_nonneg h0]
    · intro e; rw [beq_iff_eq] at e; subst e; exact absurd hb (by decide)
    · intro e; rw [beq_iff_eq] at e; subst e; exact absurd hb (by decide)
theorem atoi_m {n : Int} (h0 : 0 ≤ n) (h1 : n ≤ 1000000) : strconv_Atoi_m (Lib.itoa n) = some n := by
  have := itoa_len h0 h1
  unfold strconv_Atoi_m
  rw [chk_t (by omega), Option.bind_some, atoi_itoa h0]
theorem itoa_m {n : Int} (h0 : 0 ≤ n) (h1 : n ≤ 1000000) : strconv_Itoa_m n = some (Lib.itoa n) := by
  unfold strconv_Itoa_m; rw [chk_t (by omega), Option.bind_some]
theorem nm_facts {s : List UInt8} (hs : Short s) (h : nm s = true) : s.length ≤ 8 ∧ 1 ≤ s.length ∧ ∀ b ∈ s, 97 ≤ b.toNat ∧ b.toNat ≤ 122 := by
  have hn := named_ok hs
  rw [h] at hn
  have hl : (intsOf s).length = s.length := by unfold intsOf; simp
  have : Ok (ledger_named_m s) (fun r => r = true → s.length ≤ 8 ∧ 1 ≤ s.length ∧ ∀ i, i < s.length → 97 ≤ nth (intsOf s) i ∧ nth (intsOf s) i ≤ 122) := by
    unfold ledger_named_m
    rw [chk_t (show s.length ≤ 9223372036854775807 from hs), Option.bind_some, ok_bindR]
    refine ok_rangeL (fun k _ => ∀ i, i < k → 97 ≤ nth (intsOf s) i ∧ nth (intsOf s) i ≤ 122) (fun i hi => by omega) (fun k a t hk hI => ?_) fun t ht => ?_
    · obtain ⟨ha, hkl⟩ := nth_of hk
      unfold ledger_named_b1
      simp only [ok_bindF, ok_ite, ok_some, flok_nx, flok_rt, decide_eq_true_eq]
      refine ⟨fun h1 => ⟨fun _ => fun e => by simp at e, fun e => absurd trivial e⟩, fun h1 => ⟨fun _ e => by simp at e, fun h2 i hi => ?_⟩⟩
      by_cases e : i = k
      · subst e; rw [ha]; omega
      · exact hI i (by omega)
    · rw [hl] at ht
      simp only [ok_bindR, ok_ite, ok_some, flok_nx, flok_rt, decide_eq_true_eq]
      exact ⟨fun h1 h2 => ⟨by omega, by omega, ht⟩, fun h1 h2 => by simp at h2⟩
  obtain ⟨b, e, hb⟩ := this
  rw [hn] at e; cases e
  obtain ⟨h1, h2, h3⟩ := hb rfl
  refine ⟨h1, h2, fun b hb => ?_⟩
  obtain ⟨i, hi, rfl⟩ := mem_nth hb
  have := h3 i hi
  rw [show nth (intsOf s) i = ((nth s i).toNat : Int) by unfold intsOf; exact nth_map hi] at this
  omega
theorem nm_no {s : List UInt8} (hs : Short s) (h : nm s = true) : (32 : UInt8) ∉ s := fun hm => by
  have := ((nm_facts hs h).2.2 _ hm).1
  exact absurd this (by decide)
end Go.Pu
namespace Go.Pu
open Go.Fw Go.Mo
end Go.Pu
set_option linter.all false
namespace Go.Pu
open Go.Fw Go.Mo
def Bids (l : List Int) : Prop := l.length ≤ 10 ∧ ∀ x ∈ l, 0 ≤ x ∧ x ≤ 1000000
theorem Bids.at {l : List Int} (h : Bids l) {k : Nat} (hk : k < l.length) : 0 ≤ nth l k ∧ nth l k ≤ 1000000 := h.2 _ (nth_mem hk)
structure Two (l : List Int) (r b o : Int) : Prop where
  ge : r ≤ o
  all : ∀ k : Nat, k < l.length → (k : Int) ≠ b → nth l k ≤ o
  is : o = r ∨ ∃ k : Nat, k < l.length ∧ (k : Int) ≠ b ∧ o = nth l k
  none : b < 0 → b = -1 ∧ ∀ k : Nat, k < l.length → nth l k < r
  one : 0 ≤ b → b < l.length ∧ r ≤ nth l b.toNat ∧ (∀ k : Nat, k < l.length → nth l k ≤ nth l b.toNat) ∧ (∀ k : Nat, (k : Int) < b → nth l k < nth l b.toNat)
theorem two_ok (l : List Int) (r : Int) : Ok (auction_two_m l r) (fun p => Two l r p.1 p.2) := by
  unfold auction_two_m
  simp only [ok_bindR, ok_some]
  refine ok_rangeL (fun (k : Nat) (b : Int) => (b < 0 → b = -1 ∧ ∀ j : Nat, j < k → nth l j < r) ∧ (0 ≤ b → b < k ∧ r ≤ nth l b.toNat ∧ (∀ j : Nat, j < k → nth l j ≤ nth l b.toNat) ∧ (∀ j : Nat, (j : Int) < b → nth l j < nth l b.toNat))) (by grind) (fun k x b hk hI => ?_) fun b hb => ?_
  · obtain ⟨hx, hkl⟩ := nth_of hk
    unfold auction_two_b1
    simp only [ok_ite, ok_some, ok_bindF, ok_bind, ok_idx, flok_nx, flok_rt, decide_eq_true_eq, Int.toNat_natCast]
    repeat' first | apply And.intro | intro _
    all_goals grind
  · refine ok_rangeL (fun (k : Nat) (o : Int) => r ≤ o ∧ (∀ j : Nat, j < k → (j : Int) ≠ b → nth l j ≤ o) ∧ (o = r ∨ ∃ j : Nat, j < l.length ∧ (j : Int) ≠ b ∧ o = nth l j)) (by grind) (fun k x o hk hI => ?_) fun o ho => ?_
    · obtain ⟨hx, hkl⟩ := nth_of hk
      unfold auction_two_b2
      simp only [ok_ite, ok_some, flok_nx, bne_iff_ne]
      grind
    · exact ⟨ho.1, ho.2.1, ho.2.2, hb.1, hb.2⟩
theorem Two.same {l m : List Int} {r b o b' o' : Int} {i : Nat} (h : Two l r b o) (h' : Two m r b' o') (hl : m.length = l.length) (hs : ∀ k : Nat, k < l.length → k ≠ i → nth m k = nth l k) (hb : b = i) (hb' : b' = i) : o = o' := by
  have h1 := h.all; have h2 := h'.all; have h3 := h.is; have h4 := h'.is; have h5 := h.ge; have h6 := h'.ge
  subst hb hb'
  rcases h3 with h3 | ⟨k, k1, k2, k3⟩ <;> rcases h4 with h4 | ⟨j, j1, j2, j3⟩
  · omega
  · have := h1 j (by omega) j2; have := hs j (by omega) (by omega); omega
  · have := h2 k (by omega) k2; have := hs k (by omega) (by omega); omega
  · have := h1 j (by omega) j2; have := hs j (by omega) (by omega)
    have := h2 k (by omega) k2; have := hs k (by omega) (by omega); omega
end Go.Pu
