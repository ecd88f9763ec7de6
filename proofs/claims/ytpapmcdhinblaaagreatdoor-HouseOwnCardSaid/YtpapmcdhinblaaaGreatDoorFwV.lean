/- A slice of the call's own that is written over, with all its spare memory. No program in sight. -/
import Derived.Test.YtpapmcdhinblaaaGreatDoorFwS
import Derived.Test.YtpapmcdhinblaaaGreatDoorFwU
set_option linter.all false
namespace Go.Fw
open Go.RowKit
theorem own_shape {α : Type} {e : TypeId} {t : TR α} {v : Value} {l : List α} {S f : Hp} (h : (own e t v l).P S f) : (v = .slice none 0 0 ∧ l.length = 0) ∨ ∃ b cap, v = .slice (some ⟨b, 0, none⟩) l.length cap ∧ l.length ≤ cap ∧ cap ≤ maxLen := by
  obtain ⟨xs, ⟨_, h⟩, _⟩ := h
  rcases h with ⟨rfl, h0⟩ | ⟨b, cap, C, rfl, _, h1, h2, _⟩
  · exact .inl ⟨rfl, h0⟩
  · exact .inr ⟨b, cap, rfl, h1, h2⟩
theorem relen_shape {α : Type} {e : TypeId} {t : TR α} {v : Value} {k : Nat} {l : List α} {S f : Hp} (h : (own e t (relen v k) l).P S f) : ∃ a n, v = .slice a n (capv v) ∧ capv v ≤ maxLen ∧ (0 < capv v → ∃ b, a = some ⟨b, 0, none⟩) := by
  cases v with
  | slice a n c =>
    refine ⟨a, n, rfl, ?_⟩
    rcases own_shape h with ⟨e1, _⟩ | ⟨b, cap, e1, _, h2⟩
    · simp only [relen, Value.slice.injEq] at e1
      obtain ⟨rfl, _, rfl⟩ := e1
      exact ⟨Nat.zero_le _, fun h => absurd h (Nat.lt_irrefl _)⟩
    · simp only [relen, Value.slice.injEq] at e1
      obtain ⟨rfl, _, rfl⟩ := e1
      exact ⟨h2, fun _ => ⟨b, rfl⟩⟩
  | _ => rcases own_shape h with ⟨e1, _⟩ | ⟨b, cap, e1, _⟩ <;> cases e1
section
variable {md : Md} {P : Program} {ops : Array Oper} {Q : Exit → Act → World → Prop} {c : Cx} {rest : List Oper} {env : Env} {L : List It}
variable {d : Nat} {ty : TypeId} {pos : String} {af : Array Edge} {g : Option (Nat × Bool)}
theorem RL.capS {α : Type} {e : TypeId} {t : TR α} {l : List α} {v : Value} {x : Operand} {T E : TypeId} {k : Nat} (n : Nat) (hT : P.underlying T = some (.slice E)) (hg : wanted ops env g = some true) (hd : Slot c d) (hx : opv env x = some v)
    (hA : L[n]? = some (own e t (relen v k) l)) (kk : RL md P ops Q c rest (put env d (.int .i64 (capv v : Nat))) L) : RL md P ops Q c (⟨some d, .call ⟨.builtin .cap, #[x], #[T]⟩, ty, pos, af, g⟩ :: rest) env L :=
  RL.val hg hd (fun S f a w st => by
    obtain ⟨ad, q, hv, _⟩ := relen_shape (st.has hA)
    generalize hc : capv v = cap at *
    subst hv
    simp [execOp, resolve, invoke, builtin, opv_ok st.env hx, Builtin.cap_, run_underlying hT, goInt]) kk
theorem RL.cutAll {α : Type} {t : TR α} {l : List α} {v : Value} {x y : Operand} {T E : TypeId} {e k : Nat} {sz : Nat} {ag : Bool} (n : Nat) (hT : P.underlying T = some (.slice E)) (hE : Ln P E sz ag) (hg : wanted ops env g = some true) (hd : Slot c d)
    (hx : opv env x = some v) (hy : opv env y = some (.int .i64 (capv v : Nat))) (hA : L[n]? = some (own e t (relen v k) l))
    (kk : RL md P ops Q c rest (put env d (relen v (capv v))) L) : RL md P ops Q c (⟨some d, .slice T x none (some y) none, ty, pos, af, g⟩ :: rest) env L :=
  RL.val hg hd (fun S f a w st => by
    obtain ⟨ad, q, hv, hmax, hb⟩ := relen_shape (st.has hA)
    generalize hc : capv v = cap at *
    subst hv
    have q1 : (Instr.sliceBound (.int .i64 cap) cap .sliceAcap).run P w = .ok cap w := by
      rw [run_sliceBound w .i64 cap cap .sliceAcap (by omega) (by omega)]; simp
    by_cases h0 : cap = 0
    · subst h0
      have q2 : (Instr.sliceBound (.int .i64 0) 0 .sliceAcap).run P w = .ok 0 w := q1
      simp [execOp, Instr.sliceAt, Instr.slice, run_underlying hT, opv_ok st.env hx, opv_ok st.env hy, Instr.sliceBounds, run_sizeOf hE, q2, relen]
    · obtain ⟨b, rfl⟩ := hb (by omega)
      simp [execOp, Instr.sliceAt, Instr.slice, run_underlying hT, opv_ok st.env hx, opv_ok st.env hy, Instr.sliceBounds, run_sizeOf hE, q1, relen, add_mk]) kk
theorem RL.lenNx {α : Type} {t : TR α} {l : List α} {v : Value} {x : Operand} {T E : TypeId} {e k m : Nat} (n : Nat) (hT : P.underlying T = some (.slice E)) (hg : wanted ops env g = some true) (hd : Slot c d) (hx : opv env x = some (relen v m))
    (hA : L[n]? = some (own e t (relen v k) l)) (kk : RL md P ops Q c rest (put env d (.int .i64 (m : Nat))) L) : RL md P ops Q c (⟨some d, .call ⟨.builtin .len, #[x], #[T]⟩, ty, pos, af, g⟩ :: rest) env L :=
  RL.val hg hd (fun S f a w st => by
    obtain ⟨ad, q, hv, _⟩ := relen_shape (st.has hA)
    generalize hc : capv v = cap at *
    subst hv
    simp [execOp, resolve, invoke, builtin, opv_ok st.env hx, Builtin.len_, run_underlying hT, goInt, relen]) kk
theorem RL.idxNx {α : Type} {t : TR α} {l : List α} {v : Value} {x y : Operand} {T E : TypeId} {kd : IntKind} {i sz e : Nat} {ag : Bool} (n : Nat) (hT : P.underlying T = some (.slice E)) (hE : Ln P E sz ag) (hg : wanted ops env g = some true) (hd : Slot c d)
    (hx : opv env x = some (relen v (capv v))) (hy : opv env y = some (.int kd i)) (hA : L[n]? = some (own e t (relen v i) l)) (hi : i < capv v)
    (k : RL md P ops Q c rest (put env d (adr (relen v (capv v)) (i * sz))) L) : RL md P ops Q c (⟨some d, .indexAddr T x y, ty, pos, af, g⟩ :: rest) env L :=
  RL.val hg hd (fun S f a w st => by
    obtain ⟨ad, q, hv, hmax, hb⟩ := relen_shape (st.has hA)
    obtain ⟨b, rfl⟩ := hb (by omega)
    generalize hc : capv v = cap at *
    subst hv
    have h1 : (i : Int) < (cap : Nat) := by omega
    simp [execOp, opv_ok st.env hx, opv_ok st.env hy, Instr.indexAt, asIntOf, run_underlying hT, hi, run_sizeOf hE, adr, relen]) k
theorem RL.stNx {α : Type} {t : TR α} {l : List α} {v u : Value} {x y : Operand} {T e : TypeId} {i : Nat} {e' : α} (n : Nat) (hE : Ln P T t.size t.agg) (hq : c.still = false) (hg : wanted ops env g = some true)
    (hx : opv env x = some (adr (relen v (capv v)) (i * t.size))) (hy : opv env y = some u) (hu : VR t u e' L) (hA : L[n]? = some (own e t (relen v i) l)) (hl : l.length = i) (hi : i < capv v)
    (k : RL .plain P ops Q c rest env (L.set n (own e t (relen v (i + 1)) (l ++ [e'])))) : RL .plain P ops Q c (⟨none, .store T x y, ty, pos, af, g⟩ :: rest) env L := by
  intro a w st
  obtain ⟨S, f, hS0, hS1, h3, h4⟩ := st.heap
  have hn := (List.getElem?_eq_some_iff.1 hA).1
  obtain ⟨ad, q, hv, hmax', hb'⟩ := relen_shape (h4 n _ hA)
  obtain ⟨b', rfl⟩ := hb' (by omega)
  obtain ⟨xs, ⟨hxl, hown⟩, hr⟩ := h4 n _ hA
  generalize hcv : capv v = cap' at *
  subst hv
  rcases hown with ⟨e1, _⟩ | ⟨b, cap, C, e1, hb, hcap, hmax, hC, htk⟩
  · simp [relen] at e1
  simp only [relen, Value.slice.injEq, Option.some.injEq, Addr.mk.injEq, and_true] at e1
  obtain ⟨rfl, _, rfl⟩ := e1
  obtain ⟨cs', hcu, hcr⟩ := cells_vrep (hu S f h4)
  have hwb := h3.subf n hn b' _ hb
  rw [hl] at hxl htk
  have hfit : i * t.size + t.size ≤ C.size := by rw [hC, ← Nat.succ_mul]; exact Nat.mul_le_mul_right _ hi
  have hrun := run_storeAt (P := P) hE w b' (i * t.size) C e u cs' hcu (t.len hcr) (t.flat hcr) hwb hfit
  have hval : (execOp a.eval ⟨none, .store T x y, ty, pos, af, g⟩).run P w = .ok .skip (w.setRow b' (C.toList.take (i * t.size) ++ cs' ++ C.toList.drop (i * t.size + t.size)).toArray) := by
    simp only [execOp, opv_ok st.env hx, opv_ok st.env hy, adr, relen, add_mk, Nat.zero_add, Sem.run_bind, hrun]; rfl
  refine wpl_skip (wanted_ok (o := ⟨none, .store T x y, ty, pos, af, g⟩) st.env hg) hval (k _ _ ?_)
  rw [htk]
  have hnl : (xs ++ cs').length = (i + 1) * t.size := by rw [List.length_append, hxl, t.len hcr, Nat.succ_mul]
  have hll : (l ++ [e']).length = i + 1 := by simp [hl]
  refine st.upd (S := S) (f := f) (by simpa [Act.put] using st.defers) (by simpa [Act.put] using st.size) (by simpa [Act.put] using st.env) hS0 hS1 h3 h4 n _ (Hp.one b' (.cells (xs ++ cs' ++ C.toList.drop (i * t.size + t.size)).toArray e (0, 0))) hn hq rfl rfl rfl (by simp)
    (Hp.one_sub (setRow_heap w b' C _ e _ hwb)) (fun b'' hb'' => .inl (by rw [Hp.one_ne hb'', hb]; simp)) (fun b'' _ hb'' => setRow_other w b' b'' _ (fun e => by subst e; rw [hb] at hb''; cases hb'')) ?_
  refine ⟨xs ++ cs', ⟨by rw [hll]; exact hnl, .inr ⟨b', cap', _, by rw [hll]; rfl, Hp.one_self b' _, by rw [hll]; omega, hmax, ?_, ?_⟩⟩, reps_append hr (reps_one hcr)⟩
  · have hs : C.size = C.toList.length := by simp
    rw [List.size_toArray, List.length_append, hnl, List.length_drop, ← hs, Nat.succ_mul, ← hC]; omega
  · rw [hll, ← hnl]; exact List.take_left
end
theorem replicate_snoc {α : Type} (i : Nat) (x : α) : List.replicate i x ++ [x] = List.replicate (i + 1) x := by
  rw [List.replicate_succ']
theorem St.relenO {c : Cx} {env : Env} {L : List It} {a : Act} {w : World} {α : Type} {e : TypeId} {t : TR α} {v : Value} {l : List α} (n : Nat) (hA : L[n]? = some (own e t v l)) (st : St c env L a w) : St c env (L.set n (own e t (relen v 0) [])) a w := by
  have := st.frontO (j := 0) n hA (Nat.zero_le _)
  rwa [List.take_zero] at this
theorem St.spoiled {c : Cx} {env : Env} {L : List It} {a : Act} {w : World} {α : Type} {e : TypeId} {t : TR α} {v : Value} {x : α} {m k : Nat} (n : Nat) (hA : L[n]? = some (own e t (relen v k) (List.replicate k x))) (hm : m ≤ k) (hv : relen v m = v) (st : St c env L a w) : St c env (L.set n (own e t v (List.replicate m x))) a w := by
  have := st.frontO (j := m) n hA (by rw [List.length_replicate]; exact hm)
  rw [List.take_replicate, Nat.min_eq_left hm] at this
  have e1 : relen (relen v k) m = v := by
    rw [← hv]; cases v <;> rfl
  rwa [e1] at this

section
variable {c : Cx} {env : Env} {L : List It} {a : Act} {w : World} {α : Type} {es e : TypeId} {t : TR α} {v : Value} {vs : List Value} {l : List (List α)}
structure RowsI {α : Type} (e : TypeId) (t : TR α) (vs : List Value) (d : List (List α)) (S f : Hp) : Prop where
  len : vs.length = d.length
  row : ∀ i r, d[i]? = some r → ∃ xs, ownAt e t.size f (rowv vs i) r.length xs ∧ reps t S xs r
  ap : ∀ i j, i < d.length → j < d.length → i ≠ j → ∀ b, Bl (rowv vs i) b → ¬ Bl (rowv vs j) b
theorem RowsI.cells {S f : Hp} (h : RowsI e t vs l S f) : ∀ z ∈ vs, z.oneCell' = true := fun z hz => by
  obtain ⟨q, hq1, hq2⟩ := List.mem_iff_getElem.1 hz
  have hql : q < l.length := by rw [← h.len]; exact hq1
  obtain ⟨zs, z1, _⟩ := h.row q _ (List.getElem?_eq_getElem hql)
  have := ownAt_cell z1
  unfold rowv at this
  rw [List.getD_eq_getElem?_getD, List.getElem?_eq_getElem hq1] at this
  rw [← hq2]; exact this
end

section
variable {P : Program} {ops : Array Oper} {Q : Exit → Act → World → Prop} {c : Cx} {rest : List Oper} {env : Env} {L : List It}
variable {d : Nat} {ty : TypeId} {pos : String} {af : Array Edge} {g : Option (Nat × Bool)}
end
end Go.Fw
