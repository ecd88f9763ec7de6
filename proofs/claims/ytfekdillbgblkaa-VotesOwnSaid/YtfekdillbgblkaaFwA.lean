/- A small frame for walks: partial heaps, readings of Go data in them, and what a call owns. No program in sight. -/
import Derived.WalkKit
import Derived.Deep.Quiet
set_option linter.all false
namespace Go.Fw
open Go.RowKit

/-! ### partial heaps -/
abbrev Hp := Nat → Option Obj
def Hp.sub (h : Hp) (w : World) : Prop := ∀ b o, h b = some o → w.heap[b]? = some o
def Hp.le (h k : Hp) : Prop := ∀ b o, h b = some o → k b = some o
def Hp.dj (h k : Hp) : Prop := ∀ b, h b = none ∨ k b = none
def Hp.emp : Hp := fun _ => none
def Hp.one (g : Nat) (o : Obj) : Hp := fun b => if b = g then some o else none
def Hp.cup (h k : Hp) : Hp := fun b => (h b).or (k b)

theorem Hp.le_refl (h : Hp) : Hp.le h h := fun _ _ e => e
theorem Hp.le_trans {a b c : Hp} (h : Hp.le a b) (k : Hp.le b c) : Hp.le a c := fun x o e => k x o (h x o e)
theorem Hp.le_sub {a b : Hp} {w : World} (h : Hp.le a b) (k : b.sub w) : a.sub w := fun x o e => k x o (h x o e)
theorem Hp.sub_emp (w : World) : Hp.emp.sub w := fun _ _ e => by cases e
theorem Hp.dj_emp (h : Hp) : Hp.dj h Hp.emp := fun _ => .inr rfl
theorem Hp.dj_comm {h k : Hp} (d : Hp.dj h k) : Hp.dj k h := fun b => (d b).symm
theorem Hp.le_cup_left (h k : Hp) : Hp.le h (h.cup k) := fun b o e => by simp [Hp.cup, e]
theorem Hp.le_cup_right {h k : Hp} (d : Hp.dj h k) : Hp.le k (h.cup k) := fun b o e => by
  rcases d b with x | x
  · simp [Hp.cup, x, e]
  · rw [x] at e; cases e
theorem Hp.sub_cup {h k : Hp} {w : World} (a : h.sub w) (b : k.sub w) : (h.cup k).sub w := fun x o e => by
  unfold Hp.cup at e
  cases hx : h x with
  | some y => rw [hx] at e; simp at e; exact a x o (by rw [hx, e])
  | none => rw [hx] at e; simp at e; exact b x o e
theorem Hp.lt_of_sub {h : Hp} {w : World} (a : h.sub w) {b : Nat} (e : h b ≠ none) : b < w.heap.size := by
  cases hb : h b with
  | none => exact absurd hb e
  | some o => exact (Array.getElem?_eq_some_iff.1 (a b o hb)).1
theorem Hp.sub_below {h : Hp} {w w' : World} {B : Nat} (a : h.sub w) (hb : Below B w w') (hd : ∀ b, h b ≠ none → b < B) : h.sub w' := fun b o e => by
  rw [hb.block b (hd b (by rw [e]; simp))]; exact a b o e
theorem Hp.sub_grow {h : Hp} {w w' : World} (a : h.sub w) (hb : Below w.heap.size w w') : h.sub w' :=
  Hp.sub_below a hb fun _ e => Hp.lt_of_sub a e

/-! ### how data lie in cells -/
structure TR (α : Type) where
  size : Nat
  agg : Bool
  rep : Hp → List Value → α → Prop
  len : ∀ {h cs d}, rep h cs d → cs.length = size
  mono : ∀ {h k cs d}, Hp.le h k → rep h cs d → rep k cs d
  flat : ∀ {h cs d}, rep h cs d → ∀ u ∈ cs, u.oneCell' = true
  one : agg = false → size = 1

def Value.isAgg : Value → Bool | .agg _ => true | _ => false
def mkv (ag : Bool) (cs : List Value) : Value := if ag then .agg cs.toArray else cs.headD undef

def TR.vrep {α : Type} (t : TR α) (h : Hp) (v : Value) (d : α) : Prop := ∃ cs, v = mkv t.agg cs ∧ t.rep h cs d

theorem TR.vrep_mono {α : Type} {t : TR α} {h k : Hp} {v : Value} {d : α} (l : Hp.le h k) : t.vrep h v d → t.vrep k v d :=
  fun ⟨cs, a, b⟩ => ⟨cs, a, t.mono l b⟩

theorem cells_mkv {α : Type} (t : TR α) {h : Hp} {cs : List Value} {d : α} (r : t.rep h cs d) : (mkv t.agg cs).cells.toList = cs := by
  unfold mkv
  split
  · rfl
  · rename_i ha
    have h1 := t.one (by simpa using ha)
    have h2 := t.len r
    have h3 := t.flat r
    match cs, h1, h2, h3 with
    | [u], _, _, h3 =>
      have := h3 u (by simp)
      cases u <;> first | rfl | (simp [Value.oneCell'] at this)
    | [], h1, h2, _ => simp [h1] at h2
    | _ :: _ :: _, h1, h2, _ => simp [h1] at h2

def TR.ik (k : IntKind) : TR Int where
  size := 1
  agg := false
  rep _ cs x := cs = [.int k x]
  len h := by rw [h]; rfl
  mono _ h := h
  flat h u hu := by rw [h] at hu; simp at hu; rw [hu]; rfl
  one _ := rfl
abbrev TR.int : TR Int := TR.ik .i64
def TR.bool : TR Bool where
  size := 1
  agg := false
  rep _ cs x := cs = [.bool x]
  len h := by rw [h]; rfl
  mono _ h := h
  flat h u hu := by rw [h] at hu; simp at hu; rw [hu]; rfl
  one _ := rfl
def TR.str : TR (List UInt8) where
  size := 1
  agg := false
  rep _ cs x := cs = [.string ⟨x.toArray⟩]
  len h := by rw [h]; rfl
  mono _ h := h
  flat h u hu := by rw [h] at hu; simp at hu; rw [hu]; rfl
  one _ := rfl
def TR.pair {α β : Type} (a : TR α) (b : TR β) : TR (α × β) where
  size := a.size + b.size
  agg := true
  rep h cs d := ∃ c1 c2, cs = c1 ++ c2 ∧ a.rep h c1 d.1 ∧ b.rep h c2 d.2
  len h := by obtain ⟨c1, c2, rfl, h1, h2⟩ := h; rw [List.length_append, a.len h1, b.len h2]
  mono l h := by obtain ⟨c1, c2, e, h1, h2⟩ := h; exact ⟨c1, c2, e, a.mono l h1, b.mono l h2⟩
  flat h u hu := by
    obtain ⟨c1, c2, rfl, h1, h2⟩ := h
    rcases List.mem_append.1 hu with h | h
    · exact a.flat h1 u h
    · exact b.flat h2 u h
  one h := by cases h
/-- a struct of one field -/
def TR.rec1 {α : Type} (a : TR α) : TR α where
  size := a.size
  agg := true
  rep := a.rep
  len := a.len
  mono := a.mono
  flat := a.flat
  one h := by cases h

/-- cells that read, one behind the other, as a list -/
def reps {α : Type} (t : TR α) (h : Hp) : List Value → List α → Prop
  | xs, [] => xs = []
  | xs, x :: l => ∃ c r, xs = c ++ r ∧ t.rep h c x ∧ reps t h r l

section reps
variable {α : Type} {t : TR α} {h k : Hp}
theorem reps_len : ∀ {l : List α} {xs : List Value}, reps t h xs l → xs.length = l.length * t.size
  | [], xs, r => by simp only [reps] at r; simp [r]
  | x :: l, xs, r => by
    obtain ⟨c, q, rfl, r1, r2⟩ := r
    rw [List.length_append, t.len r1, reps_len r2, List.length_cons, Nat.add_mul]; omega
theorem reps_mono (le : Hp.le h k) : ∀ {l : List α} {xs : List Value}, reps t h xs l → reps t k xs l
  | [], _, r => r
  | _ :: _, _, ⟨c, q, e, r1, r2⟩ => ⟨c, q, e, t.mono le r1, reps_mono le r2⟩
theorem reps_flat : ∀ {l : List α} {xs : List Value}, reps t h xs l → ∀ u ∈ xs, u.oneCell' = true
  | [], xs, r => by simp only [reps] at r; simp [r]
  | x :: l, xs, r => by
    obtain ⟨c, q, rfl, r1, r2⟩ := r
    intro u hu
    rcases List.mem_append.1 hu with h | h
    · exact t.flat r1 u h
    · exact reps_flat r2 u h
theorem reps_get : ∀ {l : List α} {xs : List Value} (i : Nat) (x : α), reps t h xs l → l[i]? = some x →
    ∃ a c b, xs = a ++ c ++ b ∧ a.length = i * t.size ∧ t.rep h c x
  | [], _, _, _, _, e => by simp at e
  | y :: l, xs, 0, x, r, e => by
    obtain ⟨c, q, rfl, r1, r2⟩ := r
    simp at e; subst e
    exact ⟨[], c, q, by simp, by simp, r1⟩
  | y :: l, xs, i + 1, x, r, e => by
    obtain ⟨c, q, rfl, r1, r2⟩ := r
    simp at e
    obtain ⟨a, c', b, rfl, ha, hr⟩ := reps_get i x r2 e
    exact ⟨c ++ a, c', b, by simp, by rw [List.length_append, t.len r1, ha, Nat.add_mul]; omega, hr⟩
theorem reps_append : ∀ {l m : List α} {xs ys : List Value}, reps t h xs l → reps t h ys m → reps t h (xs ++ ys) (l ++ m)
  | [], _, xs, _, r, s => by simp only [reps] at r; subst r; simpa using s
  | x :: l, m, xs, ys, r, s => by
    obtain ⟨c, q, rfl, r1, r2⟩ := r
    exact ⟨c, q ++ ys, by simp, r1, reps_append r2 s⟩
theorem reps_one {c : List Value} {x : α} (r : t.rep h c x) : reps t h c [x] := ⟨c, [], by simp, r, rfl⟩
theorem reps_set : ∀ {l : List α} {xs : List Value} (i : Nat) (x y : α) (c' : List Value), reps t h xs l → l[i]? = some x → t.rep h c' y →
    ∃ a c b, xs = a ++ c ++ b ∧ a.length = i * t.size ∧ c.length = t.size ∧ reps t h (a ++ c' ++ b) (l.set i y)
  | [], _, _, _, _, _, _, e, _ => by simp at e
  | z :: l, xs, 0, x, y, c', r, e, hy => by
    obtain ⟨c, q, rfl, r1, r2⟩ := r
    exact ⟨[], c, q, by simp, by simp, t.len r1, ⟨c', q, by simp, hy, r2⟩⟩
  | z :: l, xs, i + 1, x, y, c', r, e, hy => by
    obtain ⟨c, q, rfl, r1, r2⟩ := r
    simp at e
    obtain ⟨a, d, b, rfl, ha, hd, hr⟩ := reps_set i x y c' r2 e hy
    exact ⟨c ++ a, d, b, by simp, by rw [List.length_append, t.len r1, ha, Nat.add_mul]; omega, hd, ⟨c, a ++ c' ++ b, by simp, r1, hr⟩⟩
theorem reps_split : ∀ {l : List α} {xs : List Value} (n : Nat), reps t h xs l → n ≤ l.length →
    ∃ a b, xs = a ++ b ∧ a.length = n * t.size ∧ reps t h a (l.take n) ∧ reps t h b (l.drop n)
  | l, xs, 0, r, _ => ⟨[], xs, by simp, by simp, rfl, by simpa using r⟩
  | [], _, n + 1, _, e => by simp at e
  | x :: l, xs, n + 1, r, e => by
    obtain ⟨c, q, rfl, r1, r2⟩ := r
    obtain ⟨a, b, rfl, ha, hl, hb⟩ := reps_split n r2 (by simpa using e)
    exact ⟨c ++ a, b, by simp, by rw [List.length_append, t.len r1, ha, Nat.add_mul]; omega, ⟨c, a, rfl, r1, by simpa using hl⟩, by simpa using hb⟩
theorem reps_replicate {z : α} {c : List Value} (r : t.rep h c z) : ∀ n, reps t h (List.replicate n c).flatten (List.replicate n z)
  | 0 => rfl
  | n + 1 => ⟨c, (List.replicate n c).flatten, by simp [List.replicate_succ], r, reps_replicate r n⟩
end reps

/-- a slice value of length n whose first cells are xs -/
def slAt (h : Hp) (v : Value) (n : Nat) (xs : List Value) : Prop :=
  ∃ a cap, v = .slice a n cap ∧ n ≤ cap ∧ cap ≤ maxLen ∧
    ((n = 0 ∧ xs = []) ∨ ∃ b off C ty fz, a = some ⟨b, off, none⟩ ∧ h b = some (.cells C ty fz) ∧ ∀ j u, xs[j]? = some u → C[off + j]? = some u)
theorem slAt_mono {h k : Hp} {v : Value} {n : Nat} {xs : List Value} (l : Hp.le h k) : slAt h v n xs → slAt k v n xs
  | ⟨a, cap, e, h1, h2, r⟩ => ⟨a, cap, e, h1, h2, r.imp id fun ⟨b, off, C, ty, fz, e1, e2, e3⟩ => ⟨b, off, C, ty, fz, e1, l _ _ e2, e3⟩⟩
def TR.sl {α : Type} (t : TR α) : TR (List α) where
  size := 1
  agg := false
  rep h cs l := ∃ v xs, cs = [v] ∧ slAt h v l.length xs ∧ reps t h xs l
  len h := by obtain ⟨v, xs, rfl, _⟩ := h; rfl
  mono l h := by obtain ⟨v, xs, e, h1, h2⟩ := h; exact ⟨v, xs, e, slAt_mono l h1, reps_mono l h2⟩
  flat h u hu := by
    obtain ⟨v, xs, rfl, ⟨a, cap, rfl, _⟩, _⟩ := h
    simp at hu; rw [hu]; rfl
  one _ := rfl
def TR.arr {α : Type} (n : Nat) (t : TR α) : TR (List α) where
  size := n * t.size
  agg := true
  rep h cs l := l.length = n ∧ reps t h cs l
  len h := by rw [reps_len h.2, h.1]
  mono l h := ⟨h.1, reps_mono l h.2⟩
  flat h := reps_flat h.2
  one h := by cases h
def TR.ptr {α : Type} (t : TR α) : TR α where
  size := 1
  agg := false
  rep h cs d := ∃ b off C ty fz xs, cs = [.pointer (some ⟨b, off, none⟩)] ∧ h b = some (.cells C ty fz) ∧ t.rep h xs d ∧ ∀ j u, xs[j]? = some u → C[off + j]? = some u
  len h := by obtain ⟨b, off, C, ty, fz, xs, rfl, _⟩ := h; rfl
  mono l h := by obtain ⟨b, off, C, ty, fz, xs, e, h1, h2, h3⟩ := h; exact ⟨b, off, C, ty, fz, xs, e, l _ _ h1, t.mono l h2, h3⟩
  flat h u hu := by
    obtain ⟨b, off, C, ty, fz, xs, rfl, _⟩ := h
    simp at hu; rw [hu]; rfl
  one _ := rfl

/-- what the call owns: a slice at the head of a block of its own -/
def ownAt (e : TypeId) (size : Nat) (f : Hp) (v : Value) (n : Nat) (xs : List Value) : Prop :=
  xs.length = n * size ∧ ((v = .slice none 0 0 ∧ n = 0) ∨
    ∃ b cap C, v = .slice (some ⟨b, 0, none⟩) n cap ∧ f b = some (.cells C e (0, 0)) ∧ n ≤ cap ∧ cap ≤ maxLen ∧ C.size = cap * size ∧ C.toList.take (n * size) = xs)
theorem slAt_of_own {e : TypeId} {size : Nat} {f : Hp} {v : Value} {n : Nat} {xs : List Value} (h : ownAt e size f v n xs) : slAt f v n xs := by
  obtain ⟨h0, ⟨rfl, rfl⟩ | ⟨b, cap, C, rfl, hf, h1, h2, h3, h4⟩⟩ := h
  · exact ⟨none, 0, rfl, Nat.le_refl _, by simp [maxLen], .inl ⟨rfl, List.eq_nil_of_length_eq_zero (by simpa using h0)⟩⟩
  · refine ⟨_, cap, rfl, h1, h2, .inr ⟨b, 0, C, e, _, rfl, hf, fun j u hu => ?_⟩⟩
    rw [← h4, List.getElem?_take] at hu
    split at hu
    · simpa using hu
    · cases hu

/-! ### what is known of the heap: a list of items -/
structure It where
  P : Hp → Hp → Prop
  mono : ∀ {S S' f}, Hp.le S S' → P S f → P S' f
def imm {α : Type} (t : TR α) (v : Value) (d : α) : It := ⟨fun S _ => t.vrep S v d, fun l h => TR.vrep_mono l h⟩
def own {α : Type} (e : TypeId) (t : TR α) (v : Value) (l : List α) : It :=
  ⟨fun S f => ∃ xs, ownAt e t.size f v l.length xs ∧ reps t S xs l, fun l h => let ⟨xs, a, b⟩ := h; ⟨xs, a, reps_mono l b⟩⟩
/-- a variable in memory of the call's own -/
def obox {α : Type} (e : TypeId) (t : TR α) (v : Value) (d : α) : It :=
  ⟨fun S f => ∃ b cs, v = .pointer (some ⟨b, 0, none⟩) ∧ f b = some (.cells (List.toArray cs) e (0, 0)) ∧ t.rep S cs d, fun l h => by obtain ⟨b, cs, a, c, r⟩ := h; exact ⟨b, cs, a, c, t.mono l r⟩⟩

def Its (L : List It) (S : Hp) (f : Nat → Hp) : Prop := ∀ (i : Nat) (A : It), L[i]? = some A → A.P S (f i)
structure HeapOk (B : Nat) (S : Hp) (f : Nat → Hp) (n : Nat) (w : World) : Prop where
  sub : S.sub w
  subf : ∀ i, i < n → (f i).sub w
  dS : ∀ i, i < n → Hp.dj S (f i)
  df : ∀ i j, i < n → j < n → i ≠ j → Hp.dj (f i) (f j)
  lo : ∀ i, i < n → ∀ b, f i b ≠ none → B ≤ b

abbrev Env := List (Nat × Value)
def look : Env → Nat → Option Value
  | [], _ => none
  | p :: e, t => if p.1 = t then some p.2 else look e t
def EnvOk (env : Env) (a : Act) : Prop := ∀ t v, look env t = some v → a.tmps[t]? = some v
def put (env : Env) (d : Nat) (v : Value) : Env := (d, v) :: env
def opv (env : Env) : Operand → Option Value
  | .tmp t => look env t
  | .const v => some v
  | .func f => some (.func (.func f) #[] #[])
  | .global g => some (.pointer (some ⟨g, 0, none⟩))
theorem look_ok {env : Env} {a : Act} (h : EnvOk env a) {t : Nat} {v : Value} (e : look env t = some v) : a.tmps[t]? = some v := h t v e
theorem opv_ok {env : Env} {a : Act} (h : EnvOk env a) {x : Operand} {v : Value} (e : opv env x = some v) : a.eval x = v := by
  cases x with
  | tmp t =>
    have := look_ok h (show look env t = some v from e)
    obtain ⟨ht, hv⟩ := Array.getElem?_eq_some_iff.1 this
    simp [Act.eval, ht, hv]
  | const u => simpa [opv, Act.eval] using e
  | func f => simpa [opv, Act.eval] using e
  | global g => simpa [opv, Act.eval] using e
theorem EnvOk.put {env : Env} {a : Act} {d : Nat} (v : Value) (h : EnvOk env a) (hd : d < a.tmps.size) : EnvOk (Fw.put env d v) (a.put (some d) v) := by
  intro t u e
  simp only [Fw.put, look] at e
  simp only [Act.put]
  split at e
  · rename_i hdt
    subst hdt
    cases e
    simp [hd]
  · rename_i hdt
    rw [Array.getElem?_setIfInBounds, if_neg hdt]
    exact h t u e
/-- each of these is so in the frame -/
def Covers (env : Env) : Env → Prop
  | [] => True
  | p :: r => look env p.1 = some p.2 ∧ Covers env r
theorem Covers.look {env : Env} : ∀ {env' : Env}, Covers env env' → ∀ {t : Nat} {v : Value}, Fw.look env' t = some v → Fw.look env t = some v
  | [], _, _, _, e => by cases e
  | p :: r, h, t, v, e => by
    simp only [Fw.look] at e
    split at e
    · rename_i hp
      cases e
      rw [← hp]; exact h.1
    · exact Covers.look h.2 e
theorem EnvOk.subset {env env' : Env} {a : Act} (h : EnvOk env a) (hs : Covers env env') : EnvOk env' a := fun t v e => h t v (hs.look e)

/-- the frame of a walk: the world and the readable heap at the call's beginning, and how many slots there are -/
structure Cx where
  w0 : World
  S0 : Hp
  nt : Nat
  still : Bool
  dfs : List Deferred
def Slot (c : Cx) (d : Nat) : Prop := Nat.blt d c.nt = true
theorem Slot.lt {c : Cx} {d : Nat} (h : Slot c d) : d < c.nt := Nat.le_of_ble_eq_true h

structure St (c : Cx) (env : Env) (L : List It) (a : Act) (w : World) : Prop where
  defers : a.defers = c.dfs
  size : a.tmps.size = c.nt
  env : EnvOk env a
  below : Below c.w0.heap.size c.w0 w
  calm : c.still = true → w = c.w0
  heap : ∃ S f, Hp.le c.S0 S ∧ (∀ b, S b ≠ none → c.S0 b ≠ none ∨ c.w0.heap.size ≤ b) ∧ HeapOk c.w0.heap.size S f L.length w ∧ Its L S f

theorem St.mk_env {c : Cx} {env env' : Env} {L : List It} {a a' : Act} {w : World} (h : St c env L a w) (h1 : a'.defers = a.defers) (h2 : a'.tmps.size = a.tmps.size) (h3 : EnvOk env' a') : St c env' L a' w :=
  ⟨h1.trans h.defers, h2.trans h.size, h3, h.below, h.calm, h.heap⟩
theorem St.put {c : Cx} {env : Env} {L : List It} {a : Act} {w : World} (h : St c env L a w) {d : Nat} (v : Value) (hd : Slot c d) : St c (Fw.put env d v) L (a.put (some d) v) w :=
  h.mk_env rfl (by simp [Act.put]) (h.env.put v (by rw [h.size]; exact hd.lt))
theorem St.shrink {c : Cx} {env env' : Env} {L : List It} {a : Act} {w : World} (h : St c env L a w) (hs : Covers env env') : St c env' L a w :=
  h.mk_env rfl rfl (h.env.subset hs)
/-- keep the items at the places 'is', in that order -/
theorem St.pick {c : Cx} {env : Env} {L L' : List It} {a : Act} {w : World} (h : St c env L a w) (is : List Nat) (hn : is.Nodup) (hL : is.map (fun i => L[i]?) = L'.map some) : St c env L' a w := by
  obtain ⟨S, f, h1, h2, h3, h4⟩ := h.heap
  have hlen : is.length = L'.length := by have := congrArg List.length hL; simpa using this
  have key : ∀ i, i < L'.length → ∃ k, is[i]? = some k ∧ k < L.length ∧ L[k]? = L'[i]? := by
    intro i hi
    have hi' : i < is.length := by omega
    have e := congrArg (fun l => l[i]?) hL
    simp [List.getElem?_eq_getElem hi', List.getElem?_eq_getElem hi] at e
    refine ⟨is[i], by simp [hi'], ?_, by rw [e]; simp [hi]⟩
    exact (List.getElem?_eq_some_iff.1 e).1
  refine ⟨h.defers, h.size, h.env, h.below, h.calm, S, fun i => f (is.getD i 0), h1, h2, ⟨h3.sub, ?_, ?_, ?_, ?_⟩, ?_⟩
  · intro i hi; obtain ⟨k, e1, e2, _⟩ := key i hi; simp [List.getD, e1]; exact h3.subf k e2
  · intro i hi; obtain ⟨k, e1, e2, _⟩ := key i hi; simp [List.getD, e1]; exact h3.dS k e2
  · intro i j hi hj hij
    obtain ⟨k, e1, e2, _⟩ := key i hi
    obtain ⟨m, e3, e4, _⟩ := key j hj
    simp [List.getD, e1, e3]
    refine h3.df k m e2 e4 fun e => hij ?_
    subst e
    exact (List.getElem?_inj (by omega) hn).1 (by rw [e1, e3])
  · intro i hi; obtain ⟨k, e1, e2, _⟩ := key i hi; simp [List.getD, e1]; exact h3.lo k e2
  · intro i A hA
    have hi : i < L'.length := (List.getElem?_eq_some_iff.1 hA).1
    obtain ⟨k, e1, e2, e3⟩ := key i hi
    simp only [List.getD, e1, Option.getD_some]
    exact h4 k A (by rw [e3, hA])
end Go.Fw
