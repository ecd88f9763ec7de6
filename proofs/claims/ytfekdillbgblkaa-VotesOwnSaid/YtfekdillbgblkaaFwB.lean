/- Steps of a walk over the frame: one lemma an operation. No program in sight. -/
import Derived.Test.YtfekdillbgblkaaFwA
import Derived.StillTail
set_option linter.all false
namespace Go.Fw
open Go.RowKit

/-! ### how the heap grows -/
def fcat (f : Nat → Hp) (n : Nat) (g : Nat → Hp) : Nat → Hp := fun i => if i < n then f i else g (i - n)
theorem HeapOk.cat {B : Nat} {S S' : Hp} {f g : Nat → Hp} {n m : Nat} {w w' : World} (h : HeapOk B S f n w) (hB : B ≤ w.heap.size) (h2 : S'.sub w') (h3 : ∀ i, i < n → (f i).sub w')
    (h4 : ∀ b, S' b ≠ none → S b ≠ none ∨ w.heap.size ≤ b) (h5 : ∀ i, i < m → (g i).sub w' ∧ Hp.dj S' (g i) ∧ ∀ b, g i b ≠ none → w.heap.size ≤ b)
    (h6 : ∀ i j, i < m → j < m → i ≠ j → Hp.dj (g i) (g j)) : HeapOk B S' (fcat f n g) (n + m) w' := by
  have hlow : ∀ i, i < n → ∀ b, f i b ≠ none → b < w.heap.size := fun i hi b hb => Hp.lt_of_sub (h.subf i hi) hb
  refine ⟨h2, ?_, ?_, ?_, ?_⟩
  · intro i hi; unfold fcat; split
    · rename_i h'; exact h3 i h'
    · exact (h5 _ (by omega)).1
  · intro i hi; unfold fcat; split
    · rename_i h'
      intro b
      by_cases hb : S' b = none
      · exact .inl hb
      · right
        rcases h4 b hb with hs | hs
        · rcases h.dS i h' b with e | e
          · exact absurd e hs
          · exact e
        · refine Classical.byContradiction fun hn => ?_
          have := hlow i h' b hn
          omega
    · exact (h5 _ (by omega)).2.1
  · intro i j hi hj hij; unfold fcat; split
    · rename_i h1
      split
      · rename_i h2'; exact h.df i j h1 h2' hij
      · intro b
        by_cases hb : f i b = none
        · exact .inl hb
        · right
          have hlt := hlow i h1 b hb
          refine Classical.byContradiction fun hn => ?_
          have := (h5 _ (by omega)).2.2 b hn
          omega
    · rename_i h1
      split
      · rename_i h2'
        intro b
        by_cases hb : f j b = none
        · exact .inr hb
        · left
          have hlt := hlow j h2' b hb
          refine Classical.byContradiction fun hn => ?_
          have := (h5 _ (by omega)).2.2 b hn
          omega
      · exact h6 _ _ (by omega) (by omega) (by omega)
  · intro i hi b hb; unfold fcat at hb; split at hb
    · rename_i h'; exact h.lo i h' b hb
    · have := (h5 _ (by omega)).2.2 b hb; omega
theorem Its.cat {L L' : List It} {S S' : Hp} {f g : Nat → Hp} (h : Its L S f) (l : Hp.le S S') (h' : Its L' S' g) : Its (L ++ L') S' (fcat f L.length g) := by
  intro i A hA
  unfold fcat
  by_cases hi : i < L.length
  · rw [if_pos hi]; rw [List.getElem?_append_left hi] at hA; exact A.mono l (h i A hA)
  · rw [if_neg hi]; rw [List.getElem?_append_right (by omega)] at hA; exact h' _ A hA

/-- the world has grown, and there are new items -/
theorem St.grow {c : Cx} {env env' : Env} {L L' : List It} {a a' : Act} {w w' : World} (st : St c env L a w) (h1 : a'.defers = c.dfs) (h2 : a'.tmps.size = c.nt) (h3 : EnvOk env' a')
    (hb : Below w.heap.size w w') (hq : c.still = true → w' = w)
    (hn : ∀ S f, S.sub w → HeapOk c.w0.heap.size S f L.length w → Its L S f → ∃ S' g, Hp.le S S' ∧ S'.sub w' ∧ (∀ b, S' b ≠ none → S b ≠ none ∨ w.heap.size ≤ b) ∧
      (∀ i, i < L'.length → (g i).sub w' ∧ Hp.dj S' (g i) ∧ ∀ b, g i b ≠ none → w.heap.size ≤ b) ∧ (∀ i j, i < L'.length → j < L'.length → i ≠ j → Hp.dj (g i) (g j)) ∧ Its L' S' g) : St c env' (L ++ L') a' w' := by
  obtain ⟨S, f, e1, e2, e3, e4⟩ := st.heap
  obtain ⟨S', g, k1, k2, k3, k4, k5, k6⟩ := hn S f e3.sub e3 e4
  have hB := st.below.size
  refine ⟨h1, h2, h3, st.below.trans (hb.mono hB), fun hs => (hq hs).trans (st.calm hs), S', fcat f L.length g, Hp.le_trans e1 k1, ?_, ?_, e4.cat k1 k6⟩
  · intro b hb'
    rcases k3 b hb' with h | h
    · exact e2 b h
    · right; omega
  · rw [List.length_append]
    exact e3.cat hB k2 (fun i hi => Hp.sub_grow (e3.subf i hi) hb) k3 k4 k5
theorem below_refl (w : World) : Below w.heap.size w w := Below.refl _ _
theorem St.note {c : Cx} {env : Env} {L : List It} {a : Act} {w : World} (st : St c env L a w) {A : It} (h : ∀ S f, S.sub w → Its L S f → A.P S Hp.emp) : St c env (L ++ [A]) a w :=
  st.grow (L' := [A]) st.defers st.size st.env (below_refl w) (fun _ => rfl) fun S f hs _ hi => ⟨S, fun _ => Hp.emp, Hp.le_refl S, hs, fun b hb => .inl hb, fun i _ => ⟨Hp.sub_emp w, Hp.dj_emp S, fun b hb => absurd rfl hb⟩, fun _ _ _ _ _ => Hp.dj_emp _, fun i B hB => by
    match i, hB with
    | 0, hB => simp at hB; subst hB; exact h S f hs hi⟩

/-! ### what is to be shown of the rest of a region, and of a piece of code -/
inductive Md where
  | plain
  | head (tail : List Oper)
  | quiet (n0 : Nat)
/-- the worlds that a region without writes may come to -/
def Cl (c : Cx) (S : Hp) (f : Nat → Hp) (n0 : Nat) (w : World) : Prop := HeapOk c.w0.heap.size S f n0 w ∧ Below c.w0.heap.size c.w0 w ∧ c.still = false
section
variable (m : Md) (P : Program) (ops : Array Oper) (Q : Exit → Act → World → Prop) (c : Cx)
def RL (rest : List Oper) (env : Env) (L : List It) : Prop := match m with
  | .plain => ∀ a w, St c env L a w → wpList P ops Q rest a w
  | .head tail => ∀ a w, St c env L a w → wpStill P ops w (fun a' => wpList P ops Q tail a' w) rest a
  | .quiet n0 => ∀ S f, Hp.le c.S0 S → (∀ b, S b ≠ none → c.S0 b ≠ none ∨ c.w0.heap.size ≤ b) → n0 ≤ L.length → Its L S (fcat f n0 fun _ => Hp.emp) →
      ∀ a, a.defers = c.dfs → a.tmps.size = c.nt → EnvOk env a → wpQuiet P ops (Cl c S f n0) (fun a' => ∀ w', Cl c S f n0 w' → Q .normal a' w') rest a
def Gx (x : Exit) (env : Env) (L : List It) : Prop := ∀ a w, St c env L a w → Q x a w
def Go (code : Code) (env : Env) (L : List It) : Prop := ∀ a w, St c env L a w → code.wp P Q a w
end
structure Vw (env : Env) (L : List It) (S : Hp) (f : Nat → Hp) (a : Act) (w : World) : Prop where
  env : EnvOk env a
  sub : S.sub w
  subf : ∀ i, i < L.length → (f i).sub w
  its : Its L S f
theorem Vw.has {env : Env} {L : List It} {S : Hp} {f : Nat → Hp} {a : Act} {w : World} (h : Vw env L S f a w) {k : Nat} {A : It} (hA : L[k]? = some A) : A.P S (f k) := h.its k A hA
theorem HeapOk.emp {B : Nat} {S : Hp} {f : Nat → Hp} {n0 : Nat} {w : World} (h : HeapOk B S f n0 w) (hB : B ≤ w.heap.size) (m : Nat) : HeapOk B S (fcat f n0 fun _ => Hp.emp) (n0 + m) w :=
  h.cat hB h.sub h.subf (fun b hb => .inl hb) (fun _ _ => ⟨Hp.sub_emp w, Hp.dj_emp S, fun b hb => absurd rfl hb⟩) (fun _ _ _ _ _ => Hp.dj_emp _)
theorem Cl.st {c : Cx} {S : Hp} {f : Nat → Hp} {n0 : Nat} {w : World} {env : Env} {L : List It} {a : Act} (h : Cl c S f n0 w) (h1 : Hp.le c.S0 S) (h2 : ∀ b, S b ≠ none → c.S0 b ≠ none ∨ c.w0.heap.size ≤ b) (h3 : n0 ≤ L.length) (h4 : Its L S (fcat f n0 fun _ => Hp.emp))
    (d : a.defers = c.dfs) (s : a.tmps.size = c.nt) (e : EnvOk env a) : St c env L a w :=
  ⟨d, s, e, h.2.1, fun q => by rw [h.2.2] at q; (exact absurd q (by simp)), S, fcat f n0 fun _ => Hp.emp, h1, h2, by have := h.1.emp h.2.1.size (L.length - n0); rwa [show n0 + (L.length - n0) = L.length from by omega] at this, h4⟩
theorem Cl.vw {c : Cx} {S : Hp} {f : Nat → Hp} {n0 : Nat} {w : World} {env : Env} {L : List It} {a : Act} (h : Cl c S f n0 w) (h4 : Its L S (fcat f n0 fun _ => Hp.emp)) (e : EnvOk env a) : Vw env L S (fcat f n0 fun _ => Hp.emp) a w :=
  ⟨e, h.1.sub, fun i _ => by unfold fcat; split; (· rename_i h'; exact h.1.subf i h'); (· exact Hp.sub_emp w), h4⟩

/-- is the operation carried out? -/
def wanted (ops : Array Oper) (env : Env) : Option (Nat × Bool) → Option Bool
  | none => some true
  | some (j, b) => match ((ops[j]?).bind (·.dst)).bind (look env) with
    | some (.bool x) => some (x == b)
    | some (.tuple _) => some false
    | _ => none
theorem wanted_ok {ops : Array Oper} {env : Env} {a : Act} (h : EnvOk env a) {o : Oper} {b : Bool} (e : wanted ops env o.guard = some b) : Region.wanted o (yielded ops a.tmps) = b := by
  unfold Region.wanted
  cases hg : o.guard with
  | none => rw [hg] at e; simp [wanted] at e; simp [e]
  | some p =>
    obtain ⟨j, q⟩ := p
    rw [hg] at e
    simp only [wanted] at e
    cases hj : (ops[j]?).bind (·.dst) with
    | none => rw [hj] at e; simp at e
    | some d =>
      rw [hj] at e
      simp only [Option.bind_some] at e
      cases hl : look env d with
      | none => rw [hl] at e; simp at e
      | some u =>
        rw [hl] at e
        have ht := look_ok h hl
        cases u <;> simp at e <;> simp [yielded, hj, ht, e]

section
variable {md : Md} {P : Program} {ops : Array Oper} {Q : Exit → Act → World → Prop} {c : Cx} {rest : List Oper} {env : Env} {L : List It}

theorem RL.fin (h : Gx Q c .normal env L) : RL .plain P ops Q c [] env L := fun a w st => wpList_nil (h a w st)
theorem RL.finQ {n0 : Nat} (h : Gx Q c .normal env L) : RL (.quiet n0) P ops Q c [] env L := fun _ _ h1 h2 h3 h4 a d s e => wpQuiet_nil fun w' hw' => h a w' (hw'.st h1 h2 h3 h4 d s e)
theorem RL.finH {tail : List Oper} (h : RL .plain P ops Q c tail env L) : RL (.head tail) P ops Q c [] env L := fun a w st => wpStill_nil (h a w st)
theorem RL.skip {d : Nat} {op : Op} {ty : TypeId} {pos : String} {af : Array Edge} {g : Option (Nat × Bool)} (hg : wanted ops env g = some false) (hd : Slot c d)
    (k : RL md P ops Q c rest (put env d undef) L) : RL md P ops Q c (⟨some d, op, ty, pos, af, g⟩ :: rest) env L := by
  cases md with
  | plain =>
    intro a w st
    have hw := wanted_ok (o := ⟨some d, op, ty, pos, af, g⟩) st.env hg
    unfold wpList
    rw [if_neg (by rw [hw]; simp)]
    exact k _ _ (st.put undef hd)
  | head tail =>
    intro a w st
    have hw := wanted_ok (o := ⟨some d, op, ty, pos, af, g⟩) st.env hg
    unfold wpStill
    rw [if_neg (by rw [hw]; simp)]
    exact k _ _ (st.put undef hd)
  | quiet n0 =>
    intro S f h1 h2 h3 h4 a de s e
    have hw := wanted_ok (o := ⟨some d, op, ty, pos, af, g⟩) e hg
    unfold wpQuiet
    rw [if_neg (by rw [hw]; simp)]
    exact k S f h1 h2 h3 h4 _ de (by simpa [Act.put] using s) (e.put undef (by rw [s]; exact hd.lt))
theorem wpl_val {o : Oper} {a : Act} {w w' : World} {v : Value} (hw : Region.wanted o (yielded ops a.tmps) = true) (hr : (execOp a.eval o).run P w = .ok (.value v) w')
    (k : wpList P ops Q rest (a.put o.dst v) w') : wpList P ops Q (o :: rest) a w := by
  unfold wpList
  rw [if_pos hw]
  left
  unfold Oper.wp
  rw [hr]
  exact k
theorem wpl_skip {o : Oper} {a : Act} {w w' : World} (hw : Region.wanted o (yielded ops a.tmps) = true) (hr : (execOp a.eval o).run P w = .ok .skip w')
    (k : wpList P ops Q rest (a.put o.dst undef) w') : wpList P ops Q (o :: rest) a w := by
  unfold wpList
  rw [if_pos hw]
  left
  unfold Oper.wp
  rw [hr]
  exact k
/-- an operation that only reads; what is learned of its value -/
theorem RL.rd {d : Nat} {op : Op} {ty : TypeId} {pos : String} {af : Array Edge} {g : Option (Nat × Bool)} {X : Value → List It → Prop} (hg : wanted ops env g = some true) (hd : Slot c d)
    (hr : ∀ S f, Its L S f → (∃ w, S.sub w ∧ ∀ i, i < L.length → (f i).sub w) → ∃ v Lx, X v Lx ∧ Its Lx S (fun _ => Hp.emp) ∧ ∀ a w, Vw env L S f a w → (execOp a.eval ⟨some d, op, ty, pos, af, g⟩).run P w = .ok (.value v) w)
    (k : ∀ v Lx, X v Lx → RL md P ops Q c rest (put env d v) (L ++ Lx)) : RL md P ops Q c (⟨some d, op, ty, pos, af, g⟩ :: rest) env L := by
  have grow : ∀ a w, St c env L a w → ∃ v Lx, X v Lx ∧ (execOp a.eval ⟨some d, op, ty, pos, af, g⟩).run P w = .ok (.value v) w ∧ St c (put env d v) (L ++ Lx) (a.put (some d) v) w := by
    intro a w st
    obtain ⟨S, f, e1, e2, e3, e4⟩ := st.heap
    obtain ⟨v, Lx, hx, hl, hr'⟩ := hr S f e4 ⟨w, e3.sub, e3.subf⟩
    have st' := st.put v hd
    refine ⟨v, Lx, hx, hr' a w ⟨st.env, e3.sub, e3.subf, e4⟩, st'.defers, st'.size, st'.env, st'.below, st'.calm, S, fcat f L.length fun _ => Hp.emp, e1, e2, ?_, e4.cat (Hp.le_refl S) hl⟩
    rw [List.length_append]; exact e3.emp st.below.size _
  cases md with
  | plain =>
    intro a w st
    obtain ⟨v, Lx, hx, hrun, st'⟩ := grow a w st
    exact wpl_val (wanted_ok (o := ⟨some d, op, ty, pos, af, g⟩) st.env hg) hrun (k v Lx hx _ _ st')
  | head tail =>
    intro a w st
    obtain ⟨v, Lx, hx, hrun, st'⟩ := grow a w st
    have hw := wanted_ok (o := ⟨some d, op, ty, pos, af, g⟩) st.env hg
    unfold wpStill
    rw [if_pos hw]
    unfold Oper.still
    rw [hrun]
    exact ⟨rfl, k v Lx hx _ _ st'⟩
  | quiet n0 =>
    intro S f h1 h2 h3 h4 a de s e
    have hw := wanted_ok (o := ⟨some d, op, ty, pos, af, g⟩) e hg
    by_cases hex : ∃ w, Cl c S f n0 w
    · obtain ⟨w0, hw0⟩ := hex
      obtain ⟨v, Lx, hx, hl, hr'⟩ := hr S _ h4 ⟨w0, (hw0.vw (env := env) (a := a) h4 e).sub, (hw0.vw (env := env) (a := a) h4 e).subf⟩
      unfold wpQuiet
      rw [if_pos hw]
      refine ⟨v, fun w hw' => ?_, k v Lx hx S f h1 h2 (by rw [List.length_append]; omega) ?_ _ de (by simpa [Act.put] using s) (e.put v (by rw [s]; exact hd.lt))⟩
      · unfold Oper.quietAt
        rw [hr' a w (hw'.vw h4 e)]
        exact ⟨rfl, rfl⟩
      · have := h4.cat (Hp.le_refl S) hl
        intro i A hA
        have h5 := this i A hA
        have h6 : fcat (fcat f n0 fun _ => Hp.emp) L.length (fun _ => Hp.emp) i = fcat f n0 (fun _ => Hp.emp) i := by
          unfold fcat
          split
          · rfl
          · rw [if_neg (by omega)]
        rwa [h6] at h5
    · -- no world at all: nothing is asked
      have : ∀ (l : List Oper) (a : Act), wpQuiet P ops (Cl c S f n0) (fun a' => ∀ w', Cl c S f n0 w' → Q .normal a' w') l a := by
        intro l
        induction l with
        | nil => exact fun a w' hw' => absurd ⟨w', hw'⟩ hex
        | cons o l ih =>
          intro a
          unfold wpQuiet
          split
          · exact ⟨undef, fun w hw' => absurd ⟨w, hw'⟩ hex, ih _⟩
          · exact ih _
      exact this _ a
/-- an operation that only computes -/
theorem RL.val {d : Nat} {op : Op} {ty : TypeId} {pos : String} {af : Array Edge} {g : Option (Nat × Bool)} {v : Value} (hg : wanted ops env g = some true) (hd : Slot c d)
    (hr : ∀ S f a w, Vw env L S f a w → (execOp a.eval ⟨some d, op, ty, pos, af, g⟩).run P w = .ok (.value v) w)
    (k : RL md P ops Q c rest (put env d v) L) : RL md P ops Q c (⟨some d, op, ty, pos, af, g⟩ :: rest) env L :=
  RL.rd (X := fun u Lx => u = v ∧ Lx = []) hg hd (fun S f _ _ => ⟨v, [], ⟨rfl, rfl⟩, fun i A hA => by simp at hA, fun a w vw => hr S f a w vw⟩) (by rintro _ _ ⟨rfl, rfl⟩; rw [List.append_nil]; exact k)

section vals
variable {d : Nat} {ty : TypeId} {pos : String} {af : Array Edge} {g : Option (Nat × Bool)} {v : Value}
theorem RL.mv {x : Operand} (hg : wanted ops env g = some true) (hd : Slot c d) (hx : opv env x = some v)
    (k : RL md P ops Q c rest (put env d v) L) : RL md P ops Q c (⟨some d, .move x, ty, pos, af, g⟩ :: rest) env L :=
  RL.val hg hd (fun S f a w st => by simp [execOp, opv_ok st.env hx]) k
theorem RL.asg {x : Operand} (hg : wanted ops env g = some true) (hd : Slot c d) (hx : opv env x = some v)
    (k : RL md P ops Q c rest (put env d v) L) : RL md P ops Q c (⟨some d, .assign x, ty, pos, af, g⟩ :: rest) env L :=
  RL.val hg hd (fun S f a w st => by simp [execOp, opv_ok st.env hx]) k
theorem RL.pick {x y z : Operand} {b : Bool} {u u' : Value} (hg : wanted ops env g = some true) (hd : Slot c d) (hx : opv env x = some (.bool b)) (hy : b = true → opv env y = some u) (hz : b = false → opv env z = some u')
    (k : RL md P ops Q c rest (put env d (if b then u else u')) L) : RL md P ops Q c (⟨some d, .pick x y z, ty, pos, af, g⟩ :: rest) env L :=
  RL.val hg hd (fun S f a w st => by
    cases b
    · simp [execOp, opv_ok st.env hx, asBool, opv_ok st.env (hz rfl)]
    · simp [execOp, opv_ok st.env hx, asBool, opv_ok st.env (hy rfl)]) k
theorem RL.ext {x : Operand} {vs : Array Value} {i : Nat} (hg : wanted ops env g = some true) (hd : Slot c d) (hx : opv env x = some (.tuple vs)) (hv : vs[i]? = some v)
    (k : RL md P ops Q c rest (put env d v) L) : RL md P ops Q c (⟨some d, .extract x i, ty, pos, af, g⟩ :: rest) env L :=
  RL.val hg hd (fun S f a w st => by simp [execOp, opv_ok st.env hx, Instr.extract, hv]) k

/-- what a binary operation on integers gives -/
def binI : BinOp → IntKind → Int → Int → Option Value
  | .add, k, x, y => some (.int k (k.wrap (x + y)))
  | .sub, k, x, y => some (.int k (k.wrap (x - y)))
  | .mul, k, x, y => some (.int k (k.wrap (x * y)))
  | .and, k, x, y => some (.int k (bits .and k x y))
  | .or, k, x, y => some (.int k (bits .or k x y))
  | .xor, k, x, y => some (.int k (bits .xor k x y))
  | .andNot, k, x, y => some (.int k (bits .andNot k x y))
  | .eql, _, x, y => some (.bool (x == y))
  | .neq, _, x, y => some (.bool (x != y))
  | .lss, _, x, y => some (.bool (decide (x < y)))
  | .leq, _, x, y => some (.bool (decide (x ≤ y)))
  | .gtr, _, x, y => some (.bool (decide (x > y)))
  | .geq, _, x, y => some (.bool (decide (x ≥ y)))
  | _, _, _, _ => none
theorem run_binI {op : BinOp} {k : IntKind} {x y : Int} {v : Value} (h : binI op k x y = some v) (t : TypeId) (w : World) : (binOp op t (.int k x) (.int k y)).run P w = .ok v w := by
  cases op <;> simp [binI] at h <;> subst h <;> simp [binOp_add, binOp_sub, binOp_mul, binOp_and, binOp_or, binOp_xor, binOp_andNot, binOp_eql, binOp_neq, binOp_lss, binOp_leq, binOp_gtr, binOp_geq, Op.intArith, intBits_and, intBits_or, intBits_xor, intBits_andNot]
theorem RL.binI {op : BinOp} {xt yt : TypeId} {x y : Operand} {kd : IntKind} {m n : Int} (hg : wanted ops env g = some true) (hd : Slot c d) (hx : opv env x = some (.int kd m)) (hy : opv env y = some (.int kd n)) (hv : binI op kd m n = some v)
    (k : RL md P ops Q c rest (put env d v) L) : RL md P ops Q c (⟨some d, .binOp op xt x y yt, ty, pos, af, g⟩ :: rest) env L :=
  RL.val hg hd (fun S f a w st => by simp [execOp, opv_ok st.env hx, opv_ok st.env hy, eqGuard_at_int, run_binI hv]) k
theorem RL.quo {xt yt : TypeId} {x y : Operand} {kd : IntKind} {m n : Int} (hg : wanted ops env g = some true) (hd : Slot c d) (hx : opv env x = some (.int kd m)) (hy : opv env y = some (.int kd n)) (hn : n ≠ 0)
    (k : RL md P ops Q c rest (put env d (.int kd (kd.wrap (m.tdiv n)))) L) : RL md P ops Q c (⟨some d, .binOp .quo xt x y yt, ty, pos, af, g⟩ :: rest) env L :=
  RL.val hg hd (fun S f a w st => by simp [execOp, opv_ok st.env hx, opv_ok st.env hy, eqGuard_at_int, binOp_quo, Op.intDiv, hn]) k
theorem RL.rem {xt yt : TypeId} {x y : Operand} {kd : IntKind} {m n : Int} (hg : wanted ops env g = some true) (hd : Slot c d) (hx : opv env x = some (.int kd m)) (hy : opv env y = some (.int kd n)) (hn : n ≠ 0)
    (k : RL md P ops Q c rest (put env d (.int kd (m.tmod n))) L) : RL md P ops Q c (⟨some d, .binOp .rem xt x y yt, ty, pos, af, g⟩ :: rest) env L :=
  RL.val hg hd (fun S f a w st => by simp [execOp, opv_ok st.env hx, opv_ok st.env hy, eqGuard_at_int, binOp_rem, Op.intDiv, hn]) k
def shv (op : BinOp) (kd : IntKind) (m n : Int) : Value := match op with
  | .shl => .int kd (kd.wrap (m * 2 ^ (min n.toNat kd.bits)))
  | _ => .int kd (m.fdiv (2 ^ (min n.toNat kd.bits)))
theorem RL.sh {op : BinOp} {xt yt : TypeId} {x y : Operand} {kd ke : IntKind} {m n : Int} (hop : op = .shl ∨ op = .shr) (hg : wanted ops env g = some true) (hd : Slot c d) (hx : opv env x = some (.int kd m)) (hy : opv env y = some (.int ke n)) (hn : 0 ≤ n)
    (k : RL md P ops Q c rest (put env d (shv op kd m n)) L) : RL md P ops Q c (⟨some d, .binOp op xt x y yt, ty, pos, af, g⟩ :: rest) env L :=
  RL.val hg hd (fun S f a w st => by
    have h' : ¬ n < 0 := by omega
    rcases hop with rfl | rfl <;> simp [execOp, opv_ok st.env hx, opv_ok st.env hy, eqGuard_at_int, binOp_shl, binOp_shr, Op.shift, h', shv]) k
theorem RL.eqB {xt yt : TypeId} {x y : Operand} {m n : Bool} (hT : P.underlying xt = some .bool) (hg : wanted ops env g = some true) (hd : Slot c d) (hx : opv env x = some (.bool m)) (hy : opv env y = some (.bool n))
    (k : RL md P ops Q c rest (put env d (.bool (m == n))) L) : RL md P ops Q c (⟨some d, .binOp .eql xt x y yt, ty, pos, af, g⟩ :: rest) env L :=
  RL.val hg hd (fun S f a w st => by simp [execOp, opv_ok st.env hx, opv_ok st.env hy, eqGuard_at_bool, run_eql_bool w xt m n hT]) k
theorem RL.neB {xt yt : TypeId} {x y : Operand} {m n : Bool} (hT : P.underlying xt = some .bool) (hg : wanted ops env g = some true) (hd : Slot c d) (hx : opv env x = some (.bool m)) (hy : opv env y = some (.bool n))
    (k : RL md P ops Q c rest (put env d (.bool (!(m == n)))) L) : RL md P ops Q c (⟨some d, .binOp .neq xt x y yt, ty, pos, af, g⟩ :: rest) env L :=
  RL.val hg hd (fun S f a w st => by simp [execOp, opv_ok st.env hx, opv_ok st.env hy, eqGuard_at_bool, run_neq_bool w xt m n hT]) k
theorem RL.notB {xt : TypeId} {x : Operand} {m : Bool} (hg : wanted ops env g = some true) (hd : Slot c d) (hx : opv env x = some (.bool m))
    (k : RL md P ops Q c rest (put env d (.bool (!m))) L) : RL md P ops Q c (⟨some d, .unOp .not xt x, ty, pos, af, g⟩ :: rest) env L :=
  RL.val hg hd (fun S f a w st => by simp [execOp, opv_ok st.env hx, Op.unary]) k
theorem RL.negI {xt : TypeId} {x : Operand} {kd : IntKind} {m : Int} (hg : wanted ops env g = some true) (hd : Slot c d) (hx : opv env x = some (.int kd m))
    (k : RL md P ops Q c rest (put env d (.int kd (kd.wrap (0 - m)))) L) : RL md P ops Q c (⟨some d, .unOp .neg xt x, ty, pos, af, g⟩ :: rest) env L :=
  RL.val hg hd (fun S f a w st => by simp [execOp, opv_ok st.env hx, Op.unary, Op.intArith]) k
theorem RL.minI {ts : Array TypeId} {x y : Operand} {k1 k2 : IntKind} {m n : Int} (hg : wanted ops env g = some true) (hd : Slot c d) (hx : opv env x = some (.int k1 m)) (hy : opv env y = some (.int k2 n))
    (k : RL md P ops Q c rest (put env d (.int k1 (if n < m then n else m))) L) : RL md P ops Q c (⟨some d, .call ⟨.builtin .min, #[x, y], ts⟩, ty, pos, af, g⟩ :: rest) env L :=
  RL.val hg hd (fun S f a w st => by simp [execOp, resolve, invoke, builtin, opv_ok st.env hx, opv_ok st.env hy, run_min_int2]) k
theorem RL.maxI {ts : Array TypeId} {x y : Operand} {k1 k2 : IntKind} {m n : Int} (hg : wanted ops env g = some true) (hd : Slot c d) (hx : opv env x = some (.int k1 m)) (hy : opv env y = some (.int k2 n))
    (k : RL md P ops Q c rest (put env d (.int k1 (if n > m then n else m))) L) : RL md P ops Q c (⟨some d, .call ⟨.builtin .max, #[x, y], ts⟩, ty, pos, af, g⟩ :: rest) env L :=
  RL.val hg hd (fun S f a w st => by simp [execOp, resolve, invoke, builtin, opv_ok st.env hx, opv_ok st.env hy, run_max_int2]) k
theorem RL.nilc {x : Operand} {b : Addr} (hg : wanted ops env g = some true) (hd : Slot c d) (hx : opv env x = some (.pointer (some b)))
    (k : RL md P ops Q c rest (put env d (.pointer (some b))) L) : RL md P ops Q c (⟨some d, .nilCheck x, ty, pos, af, g⟩ :: rest) env L :=
  RL.val hg hd (fun S f a w st => by simp [execOp, opv_ok st.env hx]) k
end vals
end

/-! ### slices and variables in memory, read -/
/-- the item says that v is a slice that reads as l -/
def SlOf {α : Type} (A : It) (t : TR α) (v : Value) (l : List α) : Prop := ∀ S f, A.P S f → ∃ h xs, (h = S ∨ h = f) ∧ slAt h v l.length xs ∧ reps t S xs l
theorem SlOf.imm {α : Type} {t : TR α} {v : Value} {l : List α} : SlOf (imm t.sl v l) t v l := fun S _ h => by
  obtain ⟨cs, e, u, xs, rfl, h1, h2⟩ := h
  have : v = u := by rw [e]; rfl
  subst this
  exact ⟨S, xs, .inl rfl, h1, h2⟩
theorem SlOf.own {α : Type} {e : TypeId} {t : TR α} {v : Value} {l : List α} : SlOf (own e t v l) t v l := fun _ f h => by
  obtain ⟨xs, h1, h2⟩ := h
  exact ⟨f, xs, .inr rfl, slAt_of_own h1, h2⟩
/-- the item says that v is the address of a variable that reads as d -/
def PtOf {α : Type} (A : It) (t : TR α) (v : Value) (d : α) : Prop := ∀ S f, A.P S f → ∃ h b off C ty fz cs, (h = S ∨ h = f) ∧ v = .pointer (some ⟨b, off, none⟩) ∧ h b = some (.cells C ty fz) ∧ t.rep S cs d ∧ ∀ j u, cs[j]? = some u → C[off + j]? = some u
theorem PtOf.imm {α : Type} {t : TR α} {v : Value} {d : α} : PtOf (imm t.ptr v d) t v d := fun S _ h => by
  obtain ⟨cs, e, b, off, C, ty, fz, xs, rfl, h1, h2, h3⟩ := h
  exact ⟨S, b, off, C, ty, fz, xs, .inl rfl, by rw [e]; rfl, h1, h2, h3⟩
theorem PtOf.obox {α : Type} {e : TypeId} {t : TR α} {v : Value} {d : α} : PtOf (obox e t v d) t v d := fun _ f h => by
  obtain ⟨b, cs, e1, e2, r⟩ := h
  exact ⟨f, b, 0, cs.toArray, e, _, cs, .inr rfl, e1, e2, r, fun j u hu => by simpa using hu⟩

/-- the address k cells behind the head of a slice, or behind an address -/
def adr (v : Value) (k : Nat) : Value := match v with
  | .slice (some a) _ _ => .pointer (some (a.add k))
  | .pointer (some a) => .pointer (some (a.add k))
  | _ => undef

theorem add_mk (b off k : Nat) : (⟨b, off, none⟩ : Addr).add k = ⟨b, off + k, none⟩ := Addr.add_lit b off k

theorem St.has {c : Cx} {env : Env} {L : List It} {a : Act} {w : World} (h : St c env L a w) {k : Nat} {A : It} (hA : L[k]? = some A) : ∃ S f, S.sub w ∧ f.sub w ∧ A.P S f := by
  obtain ⟨S, f, _, _, h3, h4⟩ := h.heap
  exact ⟨S, f k, h3.sub, h3.subf k (List.getElem?_eq_some_iff.1 hA).1, h4 k A hA⟩

theorem cell_of_sub {h : Hp} {w : World} (hs : h.sub w) {b off : Nat} {C : Array Value} {ty : TypeId} {fz : Nat × Nat} {u : Value} (hb : h b = some (.cells C ty fz)) (hu : C[off]? = some u) : w.cell? ⟨b, off, none⟩ = some u := by
  rw [cell_of_row w b off C ty fz (hs b _ hb)]; exact hu

def aggDesc : TypeDesc → Bool | .struct _ | .array _ _ => true | _ => false
structure Ln (P : Program) (T : TypeId) (sz : Nat) (ag : Bool) : Prop where
  ex : ∃ i d, P.info? T = some i ∧ i.size = sz ∧ P.underlying T = some d ∧ aggDesc d = ag
theorem run_isAgg {P : Program} {T : TypeId} {sz : Nat} {ag : Bool} (l : Ln P T sz ag) (w : World) : (isAgg T).run P w = .ok ag w := by
  obtain ⟨i, d, _, _, h3, h4⟩ := l.ex
  unfold isAgg
  simp only [Sem.run_bind, run_underlying h3, Result.andThen_ok]
  cases d <;> simp_all [aggDesc]
theorem run_sizeOf {P : Program} {T : TypeId} {sz : Nat} {ag : Bool} (l : Ln P T sz ag) (w : World) : (sizeOf T).run P w = .ok sz w := by
  obtain ⟨i, d, h1, h2, _, _⟩ := l.ex
  simp [sizeOf, typeInfo, h1, h2]
theorem run_loadAt {P : Program} {T : TypeId} {sz : Nat} {ag : Bool} (l : Ln P T sz ag) (w : World) (b off : Nat) (cs : List Value) (hl : cs.length = sz) (h1 : ag = false → sz = 1)
    (hc : ∀ j u, cs[j]? = some u → w.cell? ⟨b, off + j, none⟩ = some u) : (Instr.loadAt T (.pointer (some ⟨b, off, none⟩))).run P w = .ok (mkv ag cs) w := by
  unfold Instr.loadAt Instr.sureAddr loadVar
  simp only [Sem.run_bind, Sem.run_pure, Result.andThen_ok, run_isAgg l]
  cases ag
  · have := h1 rfl
    match cs, hl with
    | [u], _ => have h2 : w.cell? ⟨b, off, none⟩ = some u := hc 0 u rfl; simp [run_load, h2, mkv]
    | [], hl => simp at hl; omega
    | _ :: _ :: _, hl => simp at hl; omega
  · have hh : (loadCells ⟨b, off, none⟩ sz).run P w = .ok cs.toArray w := by
      rw [← hl]; exact run_loadCells_list w ⟨b, off, none⟩ cs (fun j u hu => by rw [add_mk]; exact hc j u hu)
    simp [run_sizeOf l, hh, mkv]

section
variable {md : Md} {P : Program} {ops : Array Oper} {Q : Exit → Act → World → Prop} {c : Cx} {rest : List Oper} {env : Env} {L : List It}
variable {d : Nat} {ty : TypeId} {pos : String} {af : Array Edge} {g : Option (Nat × Bool)}
theorem RL.lenS {α : Type} {t : TR α} {l : List α} {v : Value} {x : Operand} {T E : TypeId} (n : Nat) {A : It} (hT : P.underlying T = some (.slice E)) (hg : wanted ops env g = some true) (hd : Slot c d) (hx : opv env x = some v)
    (hA : L[n]? = some A) (hs : SlOf A t v l) (k : RL md P ops Q c rest (put env d (.int .i64 l.length)) L) : RL md P ops Q c (⟨some d, .call ⟨.builtin .len, #[x], #[T]⟩, ty, pos, af, g⟩ :: rest) env L :=
  RL.val hg hd (fun S f a w st => by
    have h := st.has hA
    obtain ⟨_, xs, _, ⟨ad, cap, rfl, _⟩, _⟩ := hs S _ h
    simp [execOp, resolve, invoke, builtin, opv_ok st.env hx, Builtin.len_, run_underlying hT, goInt]) k
theorem RL.idxS {α : Type} {t : TR α} {l : List α} {v : Value} {x y : Operand} {T E : TypeId} {kd : IntKind} {i : Int} {sz : Nat} {ag : Bool} (n : Nat) {A : It} (hT : P.underlying T = some (.slice E)) (hE : Ln P E sz ag) (hg : wanted ops env g = some true) (hd : Slot c d)
    (hx : opv env x = some v) (hy : opv env y = some (.int kd i)) (hA : L[n]? = some A) (hs : SlOf A t v l) (h0 : 0 ≤ i) (h1 : i < l.length)
    (k : RL md P ops Q c rest (put env d (adr v (i.toNat * sz))) L) : RL md P ops Q c (⟨some d, .indexAddr T x y, ty, pos, af, g⟩ :: rest) env L :=
  RL.val hg hd (fun S f a w st => by
    have h := st.has hA
    obtain ⟨_, xs, _, ⟨ad, cap, rfl, _, _, h2⟩, _⟩ := hs S _ h
    rcases h2 with ⟨h2, _⟩ | ⟨b, off, C, ty, fz, rfl, _⟩
    · omega
    · simp [execOp, opv_ok st.env hx, opv_ok st.env hy, Instr.indexAt, asIntOf, run_underlying hT, h0, h1, run_sizeOf hE, adr]) k
end

/-- a value in the frame reads as e -/
def VR {α : Type} (t : TR α) (u : Value) (e : α) (L : List It) : Prop := ∀ S f, Its L S f → t.vrep S u e
theorem VR.int {k : IntKind} {x : Int} {L : List It} : VR (TR.ik k) (.int k x) x L := fun _ _ _ => ⟨[.int k x], rfl, rfl⟩
theorem VR.bool {x : Bool} {L : List It} : VR TR.bool (.bool x) x L := fun _ _ _ => ⟨[.bool x], rfl, rfl⟩
theorem VR.str {x : List UInt8} {L : List It} : VR TR.str (.string ⟨x.toArray⟩) x L := fun _ _ _ => ⟨[.string ⟨x.toArray⟩], rfl, rfl⟩
theorem VR.nil {α : Type} {t : TR α} {L : List It} : VR t.sl (.slice none 0 0) [] L := fun _ _ _ => ⟨[.slice none 0 0], rfl, .slice none 0 0, [], rfl, ⟨none, 0, rfl, Nat.le_refl _, by simp [maxLen], .inl ⟨rfl, rfl⟩⟩, rfl⟩
theorem VR.item {α : Type} {t : TR α} {u : Value} {e : α} {L : List It} (n : Nat) (h : L[n]? = some (imm t u e)) : VR t u e L := fun S f hi => hi n _ h
theorem VR.cell {α : Type} {t : TR α} {u : Value} {e : α} {L : List It} (h : VR t u e L) (S : Hp) (f : Nat → Hp) (hi : Its L S f) : ∃ cs, u = mkv t.agg cs ∧ t.rep S cs e := h S f hi

/-- reading of a part at an offset -/
def Part {α β : Type} (t : TR α) (d : α) (off : Nat) (u : TR β) (e : β) : Prop := ∀ h cs, t.rep h cs d → ∃ p m q, cs = p ++ m ++ q ∧ p.length = off ∧ u.rep h m e
theorem Part.self {α : Type} {t : TR α} {d : α} : Part t d 0 t d := fun h cs r => ⟨[], cs, [], by simp, rfl, r⟩
theorem Part.fst {α β γ : Type} {a : TR α} {b : TR β} {u : TR γ} {d : α × β} {off : Nat} {e : γ} (h : Part a d.1 off u e) : Part (a.pair b) d off u e := fun hp cs r => by
  obtain ⟨c1, c2, rfl, r1, _⟩ := r
  obtain ⟨p, m, q, rfl, hl, hr⟩ := h hp c1 r1
  exact ⟨p, m, q ++ c2, by simp, hl, hr⟩
theorem Part.snd {α β γ : Type} {a : TR α} {b : TR β} {u : TR γ} {d : α × β} {off : Nat} {e : γ} (h : Part b d.2 off u e) : Part (a.pair b) d (a.size + off) u e := fun hp cs r => by
  obtain ⟨c1, c2, rfl, r1, r2⟩ := r
  obtain ⟨p, m, q, rfl, hl, hr⟩ := h hp c2 r2
  exact ⟨c1 ++ p, m, q, by simp, by rw [List.length_append, a.len r1, hl], hr⟩
theorem Part.rec1 {α γ : Type} {a : TR α} {u : TR γ} {d : α} {off : Nat} {e : γ} (h : Part a d off u e) : Part a.rec1 d off u e := h
theorem Part.arr {α γ : Type} {n : Nat} {t : TR α} {u : TR γ} {l : List α} {i off : Nat} {x : α} {e : γ} (hi : l[i]? = some x) (h : Part t x off u e) : Part (TR.arr n t) l (i * t.size + off) u e := fun hp cs r => by
  obtain ⟨p, m, q, rfl, hl, hr⟩ := reps_get i x r.2 hi
  obtain ⟨p', m', q', rfl, hl', hr'⟩ := h hp m hr
  exact ⟨p ++ p', m', q' ++ q, by simp, by rw [List.length_append, hl, hl'], hr'⟩
/-- writing of a part -/
def Upd {α β : Type} (t : TR α) (d : α) (off : Nat) (u : TR β) (e : β) (d' : α) : Prop := ∀ h cs n, t.rep h cs d → u.rep h n e → ∃ p m q, cs = p ++ m ++ q ∧ p.length = off ∧ m.length = u.size ∧ t.rep h (p ++ n ++ q) d'
theorem Upd.self {α : Type} {t : TR α} {d d' : α} : Upd t d 0 t d' d' := fun h cs n r s => ⟨[], cs, [], by simp, rfl, t.len r, by simpa using s⟩
theorem Upd.fst {α β γ : Type} {a : TR α} {b : TR β} {u : TR γ} {d : α × β} {x : α} {off : Nat} {e : γ} (h : Upd a d.1 off u e x) : Upd (a.pair b) d off u e (x, d.2) := fun hp cs n r s => by
  obtain ⟨c1, c2, rfl, r1, r2⟩ := r
  obtain ⟨p, m, q, rfl, hl, hm, hr⟩ := h hp c1 n r1 s
  exact ⟨p, m, q ++ c2, by simp, hl, hm, ⟨p ++ n ++ q, c2, by simp, hr, r2⟩⟩
theorem Upd.snd {α β γ : Type} {a : TR α} {b : TR β} {u : TR γ} {d : α × β} {y : β} {off : Nat} {e : γ} (h : Upd b d.2 off u e y) : Upd (a.pair b) d (a.size + off) u e (d.1, y) := fun hp cs n r s => by
  obtain ⟨c1, c2, rfl, r1, r2⟩ := r
  obtain ⟨p, m, q, rfl, hl, hm, hr⟩ := h hp c2 n r2 s
  exact ⟨c1 ++ p, m, q, by simp, by rw [List.length_append, a.len r1, hl], hm, ⟨c1, p ++ n ++ q, by simp, r1, hr⟩⟩
theorem Upd.rec1 {α γ : Type} {a : TR α} {u : TR γ} {d d' : α} {off : Nat} {e : γ} (h : Upd a d off u e d') : Upd a.rec1 d off u e d' := h
theorem Upd.arr {α γ : Type} {n : Nat} {t : TR α} {u : TR γ} {l : List α} {i off : Nat} {x y : α} {e : γ} (hi : l[i]? = some x) (h : Upd t x off u e y) : Upd (TR.arr n t) l (i * t.size + off) u e (l.set i y) := fun hp cs k r s => by
  obtain ⟨rl, r⟩ := r
  obtain ⟨p, m, q, e1, hl, hr⟩ := reps_get i x r hi
  obtain ⟨p', m', q', e2, hl', hm', hr'⟩ := h hp m k hr s
  obtain ⟨a, b, d, e3, ha, hb, hc⟩ := reps_set i x y (p' ++ k ++ q') r hi hr'
  subst e2
  have hlen : p.length = a.length := by omega
  have hmid : (p' ++ m' ++ q').length = b.length := by rw [hb, t.len hr]
  have e4 : p ++ ((p' ++ m' ++ q') ++ q) = a ++ (b ++ d) := by rw [← List.append_assoc, ← e1, e3, List.append_assoc]
  obtain ⟨e5, e6⟩ := List.append_inj e4 hlen
  obtain ⟨e7, e8⟩ := List.append_inj e6 hmid
  refine ⟨p ++ p', m', q' ++ q, by rw [e1]; simp, by rw [List.length_append, hl, hl'], hm', by simpa using rl, ?_⟩
  rw [e5, e8]
  simpa using hc

section
variable {md : Md} {P : Program} {ops : Array Oper} {Q : Exit → Act → World → Prop} {c : Cx} {rest : List Oper} {env : Env} {L : List It}
variable {d : Nat} {ty : TypeId} {pos : String} {af : Array Edge} {g : Option (Nat × Bool)}
theorem ldS_rd {α β : Type} {t : TR α} {r : TR β} {l : List α} {v : Value} {x : Operand} {T : TypeId} {i off : Nat} {e : α} {e' : β} (n : Nat) {A : It} (hE : Ln P T r.size r.agg)
    (hx : opv env x = some (adr v (i * t.size + off))) (hA : L[n]? = some A) (hs : SlOf A t v l) (he : l[i]? = some e) (hp : Part t e off r e') (S : Hp) (f : Nat → Hp) (hi : Its L S f) :
    ∃ cs, r.rep S cs e' ∧ ∀ a w, Vw env L S f a w → (execOp a.eval ⟨some d, .load T x, ty, pos, af, g⟩).run P w = .ok (.value (mkv r.agg cs)) w := by
  have hn := (List.getElem?_eq_some_iff.1 hA).1
  obtain ⟨h, xs, hh, ⟨ad, cap, rfl, _, _, h2⟩, hr⟩ := hs S (f n) (hi n A hA)
  obtain ⟨p, cs, q, rfl, hpl, hc⟩ := reps_get i e hr he
  obtain ⟨p', cs', q', rfl, hpl', hc'⟩ := hp S cs hc
  have hi' : i < l.length := (List.getElem?_eq_some_iff.1 he).1
  rcases h2 with ⟨h2, _⟩ | ⟨b, o, C, tb, fz, rfl, hb, hC⟩
  · omega
  refine ⟨cs', hc', fun a w st => ?_⟩
  have hsub : h.sub w := by
    rcases hh with rfl | rfl
    · exact st.sub
    · exact st.subf n hn
  have hcell : ∀ j u, cs'[j]? = some u → w.cell? ⟨b, o + (i * t.size + off) + j, none⟩ = some u := fun j u hu => by
    rw [Nat.add_assoc]
    refine cell_of_sub hsub hb (hC (i * t.size + off + j) u ?_)
    have hj := (List.getElem?_eq_some_iff.1 hu).1
    rw [show p ++ (p' ++ cs' ++ q') ++ q = (p ++ p') ++ (cs' ++ (q' ++ q)) from by simp]
    rw [List.getElem?_append_right (by rw [List.length_append]; omega), List.length_append, List.getElem?_append_left (by omega)]
    rw [show i * t.size + off + j - (p.length + p'.length) = j from by omega]; exact hu
  have hrun := run_loadAt hE w b (o + (i * t.size + off)) cs' (r.len hc') r.one hcell
  simp only [execOp, opv_ok st.env hx, adr, add_mk, Sem.run_bind, hrun]; rfl
/-- a load of an element of a slice (or of a part of it) -/
theorem RL.ldS {α β : Type} {t : TR α} {r : TR β} {l : List α} {v : Value} {x : Operand} {T : TypeId} {i off : Nat} {e : α} {e' : β} (n : Nat) {A : It} (hE : Ln P T r.size r.agg) (hg : wanted ops env g = some true) (hd : Slot c d)
    (hx : opv env x = some (adr v (i * t.size + off))) (hA : L[n]? = some A) (hs : SlOf A t v l) (he : l[i]? = some e) (hp : Part t e off r e')
    (k : ∀ u, RL md P ops Q c rest (put env d u) (L ++ [imm r u e'])) : RL md P ops Q c (⟨some d, .load T x, ty, pos, af, g⟩ :: rest) env L :=
  RL.rd (X := fun u Lx => Lx = [imm r u e']) hg hd (fun S f hi _ => by
    obtain ⟨cs, h1, h2⟩ := ldS_rd (ty := ty) (pos := pos) (af := af) (g := g) (d := d) n hE hx hA hs he hp S f hi
    refine ⟨_, _, rfl, ?_, h2⟩
    intro j B hB
    match j, hB with
    | 0, hB => simp at hB; subst hB; exact ⟨cs, rfl, h1⟩) (by rintro u _ rfl; exact k u)
theorem ldP_rd {α β : Type} {t : TR α} {r : TR β} {dt : α} {v : Value} {x : Operand} {T : TypeId} {off : Nat} {e' : β} (n : Nat) {A : It} (hE : Ln P T r.size r.agg)
    (hx : opv env x = some (adr v off) ∨ (opv env x = some v ∧ off = 0)) (hA : L[n]? = some A) (hs : PtOf A t v dt) (hp : Part t dt off r e') (S : Hp) (f : Nat → Hp) (hi : Its L S f) :
    ∃ cs, r.rep S cs e' ∧ ∀ a w, Vw env L S f a w → (execOp a.eval ⟨some d, .load T x, ty, pos, af, g⟩).run P w = .ok (.value (mkv r.agg cs)) w := by
  have hn := (List.getElem?_eq_some_iff.1 hA).1
  obtain ⟨h, b, o, C, tb, fz, cs, hh, rfl, hb, hc, hC⟩ := hs S (f n) (hi n A hA)
  obtain ⟨p', cs', q', rfl, hpl', hc'⟩ := hp S cs hc
  refine ⟨cs', hc', fun a w st => ?_⟩
  have hsub : h.sub w := by
    rcases hh with rfl | rfl
    · exact st.sub
    · exact st.subf n hn
  have hcell : ∀ j u, cs'[j]? = some u → w.cell? ⟨b, o + off + j, none⟩ = some u := fun j u hu => by
    rw [Nat.add_assoc]
    refine cell_of_sub hsub hb (hC (off + j) u ?_)
    have hj := (List.getElem?_eq_some_iff.1 hu).1
    rw [List.append_assoc, List.getElem?_append_right (by omega), List.getElem?_append_left (by omega)]
    rw [show off + j - p'.length = j from by omega]; exact hu
  have hrun := run_loadAt hE w b (o + off) cs' (r.len hc') r.one hcell
  have hx' : a.eval x = .pointer (some ⟨b, o + off, none⟩) := by
    rcases hx with hx | ⟨hx, rfl⟩
    · rw [opv_ok st.env hx, adr, add_mk]
    · rw [opv_ok st.env hx]; rfl
  simp only [execOp, hx', Sem.run_bind, hrun]; rfl
/-- a load of a variable in memory (or of a part of it) -/
theorem RL.ldP {α β : Type} {t : TR α} {r : TR β} {dt : α} {v : Value} {x : Operand} {T : TypeId} {off : Nat} {e' : β} (n : Nat) {A : It} (hE : Ln P T r.size r.agg) (hg : wanted ops env g = some true) (hd : Slot c d)
    (hx : opv env x = some (adr v off) ∨ (opv env x = some v ∧ off = 0)) (hA : L[n]? = some A) (hs : PtOf A t v dt) (hp : Part t dt off r e')
    (k : ∀ u, RL md P ops Q c rest (put env d u) (L ++ [imm r u e'])) : RL md P ops Q c (⟨some d, .load T x, ty, pos, af, g⟩ :: rest) env L :=
  RL.rd (X := fun u Lx => Lx = [imm r u e']) hg hd (fun S f hi _ => by
    obtain ⟨cs, h1, h2⟩ := ldP_rd (ty := ty) (pos := pos) (af := af) (g := g) (d := d) n hE hx hA hs hp S f hi
    refine ⟨_, _, rfl, ?_, h2⟩
    intro j B hB
    match j, hB with
    | 0, hB => simp at hB; subst hB; exact ⟨cs, rfl, h1⟩) (by rintro u _ rfl; exact k u)
end
end Go.Fw
