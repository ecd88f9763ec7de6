/- A slice of the call's own that is written over, with all its spare memory. No program in sight. -/
import Derived.Test.YtfekdillbgblkaaFwS
import Derived.Test.YtfekdillbgblkaaFwU
set_option linter.all false
namespace Go.Fw
open Go.RowKit
/-- what is known of a slice of the call's own as a value -/
theorem own_shape {α : Type} {e : TypeId} {t : TR α} {v : Value} {l : List α} {S f : Hp} (h : (own e t v l).P S f) : (v = .slice none 0 0 ∧ l.length = 0) ∨ ∃ b cap, v = .slice (some ⟨b, 0, none⟩) l.length cap ∧ l.length ≤ cap ∧ cap ≤ maxLen := by
  obtain ⟨xs, ⟨_, h⟩, _⟩ := h
  rcases h with ⟨rfl, h0⟩ | ⟨b, cap, C, rfl, _, h1, h2, _⟩
  · exact .inl ⟨rfl, h0⟩
  · exact .inr ⟨b, cap, rfl, h1, h2⟩
/-- so it is of the elder value of which this is a part -/
theorem relen_shape {α : Type} {e : TypeId} {t : TR α} {v : Value} {k : Nat} {l : List α} {S f : Hp} (h : (own e t (relen v k) l).P S f) : ∃ a n, v = .slice a n (capv v) ∧ capv v ≤ maxLen ∧ (0 < capv v → ∃ b, a = some ⟨b, 0, none⟩) := by
  cases v with
  | slice a n c =>
    refine ⟨a, n, rfl, ?_⟩
    rcases own_shape h with ⟨e1, _⟩ | ⟨b, cap, e1, _, h2⟩
    · simp only [relen, Value.slice.injEq] at e1
      obtain ⟨rfl, _, rfl⟩ := e1
      exact ⟨Nat.zero_le _, fun h => absurd h (Nat.lt_irrefl _)⟩
    · simp only [relen, Value.slice.injEq] at e1
      obtain ⟨rfl, _, rfl⟩ := e1
      exact ⟨h2, fun _ => ⟨b, rfl⟩⟩
  | _ => rcases own_shape h with ⟨e1, _⟩ | ⟨b, cap, e1, _⟩ <;> cases e1
section
variable {md : Md} {P : Program} {ops : Array Oper} {Q : Exit → Act → World → Prop} {c : Cx} {rest : List Oper} {env : Env} {L : List It}
variable {d : Nat} {ty : TypeId} {pos : String} {af : Array Edge} {g : Option (Nat × Bool)}
theorem RL.capS {α : Type} {e : TypeId} {t : TR α} {l : List α} {v : Value} {x : Operand} {T E : TypeId} {k : Nat} (n : Nat) (hT : P.underlying T = some (.slice E)) (hg : wanted ops env g = some true) (hd : Slot c d) (hx : opv env x = some v)
    (hA : L[n]? = some (own e t (relen v k) l)) (kk : RL md P ops Q c rest (put env d (.int .i64 (capv v : Nat))) L) : RL md P ops Q c (⟨some d, .call ⟨.builtin .cap, #[x], #[T]⟩, ty, pos, af, g⟩ :: rest) env L :=
  RL.val hg hd (fun S f a w st => by
    obtain ⟨ad, q, hv, _⟩ := relen_shape (st.has hA)
    generalize hc : capv v = cap at *
    subst hv
    simp [execOp, resolve, invoke, builtin, opv_ok st.env hx, Builtin.cap_, run_underlying hT, goInt]) kk
/-- all of the memory as a slice -/
theorem RL.cutAll {α : Type} {t : TR α} {l : List α} {v : Value} {x y : Operand} {T E : TypeId} {e k : Nat} {sz : Nat} {ag : Bool} (n : Nat) (hT : P.underlying T = some (.slice E)) (hE : Ln P E sz ag) (hg : wanted ops env g = some true) (hd : Slot c d)
    (hx : opv env x = some v) (hy : opv env y = some (.int .i64 (capv v : Nat))) (hA : L[n]? = some (own e t (relen v k) l))
    (kk : RL md P ops Q c rest (put env d (relen v (capv v))) L) : RL md P ops Q c (⟨some d, .slice T x none (some y) none, ty, pos, af, g⟩ :: rest) env L :=
  RL.val hg hd (fun S f a w st => by
    obtain ⟨ad, q, hv, hmax, hb⟩ := relen_shape (st.has hA)
    generalize hc : capv v = cap at *
    subst hv
    have q1 : (Instr.sliceBound (.int .i64 cap) cap .sliceAcap).run P w = .ok cap w := by
      rw [run_sliceBound w .i64 cap cap .sliceAcap (by omega) (by omega)]; simp
    by_cases h0 : cap = 0
    · subst h0
      have q2 : (Instr.sliceBound (.int .i64 0) 0 .sliceAcap).run P w = .ok 0 w := q1
      simp [execOp, Instr.sliceAt, Instr.slice, run_underlying hT, opv_ok st.env hx, opv_ok st.env hy, Instr.sliceBounds, run_sizeOf hE, q2, relen]
    · obtain ⟨b, rfl⟩ := hb (by omega)
      simp [execOp, Instr.sliceAt, Instr.slice, run_underlying hT, opv_ok st.env hx, opv_ok st.env hy, Instr.sliceBounds, run_sizeOf hE, q1, relen, add_mk]) kk
/-- the length of any part -/
theorem RL.lenNx {α : Type} {t : TR α} {l : List α} {v : Value} {x : Operand} {T E : TypeId} {e k m : Nat} (n : Nat) (hT : P.underlying T = some (.slice E)) (hg : wanted ops env g = some true) (hd : Slot c d) (hx : opv env x = some (relen v m))
    (hA : L[n]? = some (own e t (relen v k) l)) (kk : RL md P ops Q c rest (put env d (.int .i64 (m : Nat))) L) : RL md P ops Q c (⟨some d, .call ⟨.builtin .len, #[x], #[T]⟩, ty, pos, af, g⟩ :: rest) env L :=
  RL.val hg hd (fun S f a w st => by
    obtain ⟨ad, q, hv, _⟩ := relen_shape (st.has hA)
    generalize hc : capv v = cap at *
    subst hv
    simp [execOp, resolve, invoke, builtin, opv_ok st.env hx, Builtin.len_, run_underlying hT, goInt, relen]) kk
/-- the place behind what is written so far -/
theorem RL.idxNx {α : Type} {t : TR α} {l : List α} {v : Value} {x y : Operand} {T E : TypeId} {kd : IntKind} {i sz e : Nat} {ag : Bool} (n : Nat) (hT : P.underlying T = some (.slice E)) (hE : Ln P E sz ag) (hg : wanted ops env g = some true) (hd : Slot c d)
    (hx : opv env x = some (relen v (capv v))) (hy : opv env y = some (.int kd i)) (hA : L[n]? = some (own e t (relen v i) l)) (hi : i < capv v)
    (k : RL md P ops Q c rest (put env d (adr (relen v (capv v)) (i * sz))) L) : RL md P ops Q c (⟨some d, .indexAddr T x y, ty, pos, af, g⟩ :: rest) env L :=
  RL.val hg hd (fun S f a w st => by
    obtain ⟨ad, q, hv, hmax, hb⟩ := relen_shape (st.has hA)
    obtain ⟨b, rfl⟩ := hb (by omega)
    generalize hc : capv v = cap at *
    subst hv
    have h1 : (i : Int) < (cap : Nat) := by omega
    simp [execOp, opv_ok st.env hx, opv_ok st.env hy, Instr.indexAt, asIntOf, run_underlying hT, hi, run_sizeOf hE, adr, relen]) k
/-- .. and a store there -/
theorem RL.stNx {α : Type} {t : TR α} {l : List α} {v u : Value} {x y : Operand} {T e : TypeId} {i : Nat} {e' : α} (n : Nat) (hE : Ln P T t.size t.agg) (hq : c.still = false) (hg : wanted ops env g = some true)
    (hx : opv env x = some (adr (relen v (capv v)) (i * t.size))) (hy : opv env y = some u) (hu : VR t u e' L) (hA : L[n]? = some (own e t (relen v i) l)) (hl : l.length = i) (hi : i < capv v)
    (k : RL .plain P ops Q c rest env (L.set n (own e t (relen v (i + 1)) (l ++ [e'])))) : RL .plain P ops Q c (⟨none, .store T x y, ty, pos, af, g⟩ :: rest) env L := by
  intro a w st
  obtain ⟨S, f, hS0, hS1, h3, h4⟩ := st.heap
  have hn := (List.getElem?_eq_some_iff.1 hA).1
  obtain ⟨ad, q, hv, hmax', hb'⟩ := relen_shape (h4 n _ hA)
  obtain ⟨b', rfl⟩ := hb' (by omega)
  obtain ⟨xs, ⟨hxl, hown⟩, hr⟩ := h4 n _ hA
  generalize hcv : capv v = cap' at *
  subst hv
  rcases hown with ⟨e1, _⟩ | ⟨b, cap, C, e1, hb, hcap, hmax, hC, htk⟩
  · simp [relen] at e1
  simp only [relen, Value.slice.injEq, Option.some.injEq, Addr.mk.injEq, and_true] at e1
  obtain ⟨rfl, _, rfl⟩ := e1
  obtain ⟨cs', hcu, hcr⟩ := cells_vrep (hu S f h4)
  have hwb := h3.subf n hn b' _ hb
  rw [hl] at hxl htk
  have hfit : i * t.size + t.size ≤ C.size := by rw [hC, ← Nat.succ_mul]; exact Nat.mul_le_mul_right _ hi
  have hrun := run_storeAt (P := P) hE w b' (i * t.size) C e u cs' hcu (t.len hcr) (t.flat hcr) hwb hfit
  have hval : (execOp a.eval ⟨none, .store T x y, ty, pos, af, g⟩).run P w = .ok .skip (w.setRow b' (C.toList.take (i * t.size) ++ cs' ++ C.toList.drop (i * t.size + t.size)).toArray) := by
    simp only [execOp, opv_ok st.env hx, opv_ok st.env hy, adr, relen, add_mk, Nat.zero_add, Sem.run_bind, hrun]; rfl
  refine wpl_skip (wanted_ok (o := ⟨none, .store T x y, ty, pos, af, g⟩) st.env hg) hval (k _ _ ?_)
  rw [htk]
  have hnl : (xs ++ cs').length = (i + 1) * t.size := by rw [List.length_append, hxl, t.len hcr, Nat.succ_mul]
  have hll : (l ++ [e']).length = i + 1 := by simp [hl]
  refine st.upd (S := S) (f := f) (by simpa [Act.put] using st.defers) (by simpa [Act.put] using st.size) (by simpa [Act.put] using st.env) hS0 hS1 h3 h4 n _ (Hp.one b' (.cells (xs ++ cs' ++ C.toList.drop (i * t.size + t.size)).toArray e (0, 0))) hn hq rfl rfl rfl (by simp)
    (Hp.one_sub (setRow_heap w b' C _ e _ hwb)) (fun b'' hb'' => .inl (by rw [Hp.one_ne hb'', hb]; simp)) (fun b'' _ hb'' => setRow_other w b' b'' _ (fun e => by subst e; rw [hb] at hb''; cases hb'')) ?_
  refine ⟨xs ++ cs', ⟨by rw [hll]; exact hnl, .inr ⟨b', cap', _, by rw [hll]; rfl, Hp.one_self b' _, by rw [hll]; omega, hmax, ?_, ?_⟩⟩, reps_append hr (reps_one hcr)⟩
  · have hs : C.size = C.toList.length := by simp
    rw [List.size_toArray, List.length_append, hnl, List.length_drop, ← hs, Nat.succ_mul, ← hC]; omega
  · rw [hll, ← hnl]; exact List.take_left
end
theorem replicate_snoc {α : Type} (i : Nat) (x : α) : List.replicate i x ++ [x] = List.replicate (i + 1) x := by
  rw [List.replicate_succ']
theorem St.relenO {c : Cx} {env : Env} {L : List It} {a : Act} {w : World} {α : Type} {e : TypeId} {t : TR α} {v : Value} {l : List α} (n : Nat) (hA : L[n]? = some (own e t v l)) (st : St c env L a w) : St c env (L.set n (own e t (relen v 0) [])) a w := by
  have := st.frontO (j := 0) n hA (Nat.zero_le _)
  rwa [List.take_zero] at this
theorem St.spoiled {c : Cx} {env : Env} {L : List It} {a : Act} {w : World} {α : Type} {e : TypeId} {t : TR α} {v : Value} {x : α} {m k : Nat} (n : Nat) (hA : L[n]? = some (own e t (relen v k) (List.replicate k x))) (hm : m ≤ k) (hv : relen v m = v) (st : St c env L a w) : St c env (L.set n (own e t v (List.replicate m x))) a w := by
  have := st.frontO (j := m) n hA (by rw [List.length_replicate]; exact hm)
  rw [List.take_replicate, Nat.min_eq_left hm] at this
  have e1 : relen (relen v k) m = v := by
    rw [← hv]; cases v <;> rfl
  rwa [e1] at this

/-! ### rows of the call's own: taken out and put back, gathered, put one behind the other -/
section
variable {c : Cx} {env : Env} {L : List It} {a : Act} {w : World} {α : Type} {es e : TypeId} {t : TR α} {v : Value} {vs : List Value} {l : List (List α)}
theorem St.putRow {i : Nat} {row r0 : List α} (n m : Nat) (hnm : n ≠ m) (hA : L[n]? = some (own2x i es e t v vs l)) (hB : L[m]? = some (own e t (rowv vs i) row)) (hi : l[i]? = some r0) (st0 : St c env L a w) :
    St c env (((L.set n (both (own2x i es e t v vs l) (own e t (rowv vs i) row))).set m gone).set n (own2 es e t v vs (l.set i row))) a w := by
  have st := st0.merge n m hnm hA hB
  have hA' : ((L.set n (both (own2x i es e t v vs l) (own e t (rowv vs i) row))).set m gone)[n]? = some (both (own2x i es e t v vs l) (own e t (rowv vs i) row)) := by
    rw [List.getElem?_set_ne (Ne.symm hnm), List.getElem?_set_self (List.getElem?_eq_some_iff.1 hA).1]
  refine st.map n hA' fun S f ⟨f1, f2, hf, hdj, hR, ⟨ys, hu1, hu2⟩⟩ => ?_
  replace hR : RowsX i es e t v vs l S f1 := hR
  have hil : i < l.length := (List.getElem?_eq_some_iff.1 hi).1
  have hat1 : ∀ b', f1 b' ≠ none → f b' = f1 b' := fun b' h2 => by
    rw [hf]
    cases hc : f1 b' with
    | none => exact absurd hc h2
    | some o => simp [Hp.cup, hc]
  have hat2 : ∀ b', f2 b' ≠ none → f b' = f2 b' := fun b' h2 => by
    rw [hf]
    rcases hdj b' with h | h
    · simp [Hp.cup, h]
    · exact absurd h h2
  refine ⟨ownAt_at (fun b' _ h2 => hat1 b' h2) hR.sp, by simpa using hR.len, ?_, ?_, ?_⟩
  · intro q r hq
    by_cases hqi : q = i
    · subst hqi
      rw [List.getElem?_set_self hil] at hq
      cases hq
      exact ⟨ys, ownAt_at (fun b' _ h2 => hat2 b' h2) hu1, hu2⟩
    · rw [List.getElem?_set_ne (Ne.symm hqi)] at hq
      obtain ⟨zs, z1, z2⟩ := hR.row q r hqi hq
      exact ⟨zs, ownAt_at (fun b' _ h2 => hat1 b' h2) z1, z2⟩
  · intro p q hp hq hpq b' h1 h2
    rw [List.length_set] at hp hq
    have key : ∀ q, q ≠ i → q < l.length → Bl (rowv vs i) b' → Bl (rowv vs q) b' → False := fun q hqi hq k1 k2 => by
      have g2 := ownAt_has hu1 k1
      obtain ⟨zs, z1, _⟩ := hR.row q _ hqi (List.getElem?_eq_getElem hq)
      have g1 := ownAt_has z1 k2
      rcases hdj b' with h | h
      · exact g1 h
      · exact g2 h
    by_cases hpi : p = i
    · subst hpi; exact key q (fun h => hpq h.symm) hq h1 h2
    · by_cases hqi : q = i
      · subst hqi; exact key p hpi hp h2 h1
      · exact hR.ap p q hpi hqi hp hq hpq b' h1 h2
  · intro p hp b' h1 h2
    rw [List.length_set] at hp
    by_cases hpi : p = i
    · subst hpi
      have g2 := ownAt_has hu1 h1
      have g1 := ownAt_has hR.sp h2
      rcases hdj b' with h | h
      · exact g1 h
      · exact g2 h
    · exact hR.as p hpi hp b' h1 h2
structure RowsI {α : Type} (e : TypeId) (t : TR α) (vs : List Value) (d : List (List α)) (S f : Hp) : Prop where
  len : vs.length = d.length
  row : ∀ i r, d[i]? = some r → ∃ xs, ownAt e t.size f (rowv vs i) r.length xs ∧ reps t S xs r
  ap : ∀ i j, i < d.length → j < d.length → i ≠ j → ∀ b, Bl (rowv vs i) b → ¬ Bl (rowv vs j) b
/-- the rows alone -/
def rowsI {α : Type} (e : TypeId) (t : TR α) (vs : List Value) (d : List (List α)) : It :=
  ⟨fun S f => RowsI e t vs d S f, fun l h => ⟨h.len, fun i r hr => let ⟨xs, a, b⟩ := h.row i r hr; ⟨xs, a, reps_mono l b⟩, h.ap⟩⟩
theorem RowsI.cells {S f : Hp} (h : RowsI e t vs l S f) : ∀ z ∈ vs, z.oneCell' = true := fun z hz => by
  obtain ⟨q, hq1, hq2⟩ := List.mem_iff_getElem.1 hz
  have hql : q < l.length := by rw [← h.len]; exact hq1
  obtain ⟨zs, z1, _⟩ := h.row q _ (List.getElem?_eq_getElem hql)
  have := ownAt_cell z1
  unfold rowv at this
  rw [List.getD_eq_getElem?_getD, List.getElem?_eq_getElem hq1] at this
  rw [← hq2]; exact this
theorem St.unrow (n : Nat) (hA : L[n]? = some (own2 es e t v vs l)) (st : St c env L a w) : St c env (L.set n (own es TR.raw v vs) ++ [rowsI e t vs l]) a w :=
  st.split2 n hA fun S f k => by
    replace k : Rows es e t v vs l S f := k
    have hR : RowsI e t vs l S f := ⟨k.len, k.row, k.ap⟩
    refine ⟨fun b => @ite _ (Bl v b) (Classical.propDecidable _) (f b) none, fun b => @ite _ (Bl v b) (Classical.propDecidable _) none (f b), fun b o h => ?_, fun b o h => ?_, fun b => ?_, ⟨vs, ?_, reps_raw hR.cells⟩, ⟨k.len, fun i r hr => ?_, k.ap⟩⟩
    · by_cases hb : Bl v b
      · simpa only [hb, if_true] using h
      · simp only [hb, if_false] at h; cases h
    · by_cases hb : Bl v b
      · simp only [hb, if_true] at h; cases h
      · simpa only [hb, if_false] using h
    · by_cases hb : Bl v b
      · right; simp only [hb, if_true]
      · left; simp only [hb, if_false]
    · refine ownAt_at (fun b hb _ => ?_) k.sp
      simp only [hb, if_true]
    · obtain ⟨zs, z1, z2⟩ := k.row i r hr
      refine ⟨zs, ownAt_at (fun b hb _ => ?_) z1, z2⟩
      have : ¬ Bl v b := fun h => k.as i (List.getElem?_eq_some_iff.1 hr).1 b hb h
      simp only [this, if_false]
theorem cup_at {f f1 f2 : Hp} (hf : f = Hp.cup f1 f2) (hdj : Hp.dj f1 f2) : (∀ b, f1 b ≠ none → f b = f1 b) ∧ ∀ b, f2 b ≠ none → f b = f2 b := by
  refine ⟨fun b h2 => ?_, fun b h2 => ?_⟩
  · rw [hf]
    cases hc : f1 b with
    | none => exact absurd hc h2
    | some o => simp [Hp.cup, hc]
  · rw [hf]
    rcases hdj b with h | h
    · simp [Hp.cup, h]
    · exact absurd h h2
theorem merged {A B : It} (n m : Nat) (hnm : n ≠ m) (hA : L[n]? = some A) : ((L.set n (both A B)).set m gone)[n]? = some (both A B) := by
  rw [List.getElem?_set_ne (Ne.symm hnm), List.getElem?_set_self (List.getElem?_eq_some_iff.1 hA).1]
theorem St.rerow (n m : Nat) (hnm : n ≠ m) (hA : L[n]? = some (own es TR.raw v vs)) (hB : L[m]? = some (rowsI e t vs l)) (st0 : St c env L a w) :
    St c env (((L.set n (both (own es TR.raw v vs) (rowsI e t vs l))).set m gone).set n (own2 es e t v vs l)) a w := by
  refine (st0.merge n m hnm hA hB).map n (merged n m hnm hA) fun S f ⟨f1, f2, hf, hdj, ⟨xs, h1, h2⟩, hR⟩ => ?_
  replace hR : RowsI e t vs l S f2 := hR
  obtain ⟨hat1, hat2⟩ := cup_at hf hdj
  have := reps_raw_eq h2
  subst this
  refine ⟨ownAt_at (fun b _ h => hat1 b h) (by simpa [TR.raw] using h1), hR.len, fun i r hr => ?_, hR.ap, fun i hi b k1 k2 => ?_⟩
  · obtain ⟨zs, z1, z2⟩ := hR.row i r hr
    exact ⟨zs, ownAt_at (fun b _ h => hat2 b h) z1, z2⟩
  · obtain ⟨zs, z1, _⟩ := hR.row i _ (List.getElem?_eq_getElem hi)
    rcases hdj b with h | h
    · exact ownAt_has h1 k2 h
    · exact ownAt_has z1 k1 h
theorem St.row1 {r : List α} (n : Nat) (hA : L[n]? = some (own e t v r)) (st : St c env L a w) : St c env (L.set n (rowsI e t [v] [r])) a w :=
  st.map n hA fun S f ⟨xs, h1, h2⟩ => ⟨rfl, fun i r' hr => by
    match i, hr with
    | 0, hr => simp at hr; subst hr; exact ⟨xs, h1, h2⟩, fun i j hi hj hij => by simp at hi hj; omega⟩
theorem rowv_left {us : List Value} {i : Nat} (hi : i < vs.length) : rowv (vs ++ us) i = rowv vs i := by
  unfold rowv
  rw [List.getD_eq_getElem?_getD, List.getD_eq_getElem?_getD, List.getElem?_append_left hi]
theorem rowv_right {us : List Value} {i : Nat} (hi : vs.length ≤ i) : rowv (vs ++ us) i = rowv us (i - vs.length) := by
  unfold rowv
  rw [List.getD_eq_getElem?_getD, List.getD_eq_getElem?_getD, List.getElem?_append_right hi]
theorem St.rowsApp {us : List Value} {m : List (List α)} (n q : Nat) (hnm : n ≠ q) (hA : L[n]? = some (rowsI e t vs l)) (hB : L[q]? = some (rowsI e t us m)) (st0 : St c env L a w) :
    St c env (((L.set n (both (rowsI e t vs l) (rowsI e t us m))).set q gone).set n (rowsI e t (vs ++ us) (l ++ m))) a w := by
  refine (st0.merge n q hnm hA hB).map n (merged n q hnm hA) fun S f ⟨f1, f2, hf, hdj, h1, h2⟩ => ?_
  replace h1 : RowsI e t vs l S f1 := h1
  replace h2 : RowsI e t us m S f2 := h2
  obtain ⟨hat1, hat2⟩ := cup_at hf hdj
  have cross : ∀ i j, i < l.length → j < m.length → ∀ b, Bl (rowv vs i) b → Bl (rowv us j) b → False := fun i j hi hj b k1 k2 => by
    obtain ⟨zs, z1, _⟩ := h1.row i _ (List.getElem?_eq_getElem hi)
    obtain ⟨ys, y1, _⟩ := h2.row j _ (List.getElem?_eq_getElem hj)
    rcases hdj b with h | h
    · exact ownAt_has z1 k1 h
    · exact ownAt_has y1 k2 h
  have hl := h1.len
  refine ⟨by rw [List.length_append, List.length_append, h1.len, h2.len], fun i r hr => ?_, fun i j hi hj hij b k1 k2 => ?_⟩
  · by_cases hi : i < l.length
    · rw [List.getElem?_append_left hi] at hr
      rw [rowv_left (by omega)]
      obtain ⟨zs, z1, z2⟩ := h1.row i r hr
      exact ⟨zs, ownAt_at (fun b _ h => hat1 b h) z1, z2⟩
    · rw [List.getElem?_append_right (by omega)] at hr
      rw [rowv_right (by omega), hl]
      obtain ⟨zs, z1, z2⟩ := h2.row _ r hr
      exact ⟨zs, ownAt_at (fun b _ h => hat2 b h) z1, z2⟩
  · rw [List.length_append] at hi hj
    by_cases h3 : i < l.length
    · rw [rowv_left (by omega)] at k1
      by_cases h4 : j < l.length
      · rw [rowv_left (by omega)] at k2; exact h1.ap i j h3 h4 hij b k1 k2
      · rw [rowv_right (by omega), hl] at k2; exact cross i (j - l.length) h3 (by omega) b k1 k2
    · rw [rowv_right (by omega), hl] at k1
      by_cases h4 : j < l.length
      · rw [rowv_left (by omega)] at k2; exact cross j (i - l.length) h4 (by omega) b k2 k1
      · rw [rowv_right (by omega), hl] at k2; exact h2.ap (i - l.length) (j - l.length) (by omega) (by omega) (by omega) b k1 k2
end

/-! ### bytes of a text, in memory of the call's own: stored into, never appended to -/
def ownZ (e : TypeId) (v : Value) (l : List Int) : It :=
  ⟨fun _ f => ∃ b cap C z, v = .slice (some ⟨b, 0, none⟩) l.length cap ∧ f b = some (.cells C e (C.size, z)) ∧ l.length ≤ cap ∧ cap ≤ maxLen ∧ l.length ≤ C.size ∧ C.toList.take l.length = l.map (Value.int .u8), fun _ h => h⟩
theorem reps_u8' {h : Hp} : ∀ l : List Int, reps (TR.ik .u8) h (l.map (Value.int .u8)) l
  | [] => rfl
  | x :: l => ⟨[.int .u8 x], _, rfl, rfl, reps_u8' l⟩
theorem SlOf.ownZ {e : TypeId} {v : Value} {l : List Int} : SlOf (ownZ e v l) (TR.ik .u8) v l := fun S f ⟨b, cap, C, z, h1, h2, h3, h4, h5, h6⟩ =>
  ⟨f, l.map (Value.int .u8), .inr rfl, ⟨_, cap, h1, h3, h4, .inr ⟨b, 0, C, e, _, rfl, h2, fun j u hu => by
    rw [← h6, List.getElem?_take] at hu
    split at hu
    · simpa using hu
    · cases hu⟩⟩, reps_u8' l⟩
theorem Seen.ownZ {e : TypeId} {v : Value} {l : List Int} : Seen (ownZ e v l) (fun U => (TR.ik .u8).sl.vrep U v l) := fun S f U hS hf k => by
  obtain ⟨h, xs, hh, h1, h2⟩ := SlOf.ownZ S f k
  rcases hh with rfl | rfl
  · exact ⟨[v], rfl, v, xs, rfl, slAt_mono hS h1, by rw [reps_u8 h2]; exact reps_u8' l⟩
  · exact ⟨[v], rfl, v, xs, rfl, slAt_mono hf h1, by rw [reps_u8 h2]; exact reps_u8' l⟩
theorem St.freezeZ {c : Cx} {env : Env} {L : List It} {a : Act} {w : World} {e : TypeId} {v : Value} {l : List Int} (n : Nat) (hA : L[n]? = some (ownZ e v l)) (st : St c env L a w) : St c env (L.set n (imm (TR.ik .u8).sl v l)) a w :=
  st.melt n hA fun S f dj k => Seen.ownZ S f _ (Hp.le_cup_left _ _) (Hp.le_cup_right dj) k
section
variable {P : Program} {ops : Array Oper} {Q : Exit → Act → World → Prop} {c : Cx} {rest : List Oper} {env : Env} {L : List It}
variable {d : Nat} {ty : TypeId} {pos : String} {af : Array Edge} {g : Option (Nat × Bool)}
theorem RL.stZ {v : Value} {x y : Operand} {T e : TypeId} {i : Nat} {l : List Int} {x' : Int} (n : Nat) (hE : Ln P T 1 false) (hq : c.still = false) (hg : wanted ops env g = some true)
    (hx : opv env x = some (adr v (i * 1))) (hy : opv env y = some (.int .u8 x')) (hA : L[n]? = some (ownZ e v l)) (hi : i < l.length)
    (k : RL .plain P ops Q c rest env (L.set n (ownZ e v (l.set i x')))) : RL .plain P ops Q c (⟨none, .store T x y, ty, pos, af, g⟩ :: rest) env L := by
  intro a w st
  obtain ⟨S, f, hS0, hS1, h3, h4⟩ := st.heap
  have hn := (List.getElem?_eq_some_iff.1 hA).1
  obtain ⟨b, cap, C, z, rfl, hb, hcap, hmax, hC, htk⟩ := h4 n _ hA
  have hwb := h3.subf n hn b _ hb
  have hiC : i < C.size := by omega
  have hcell : w.cell? ⟨b, i, none⟩ = some C[i] := by simp [World.cell?, hwb, hiC]
  have hfro : w.frozen? ⟨b, i, none⟩ = false := by simp [World.frozen?, hwb]; omega
  have hst : (store ⟨b, i, none⟩ (.int .u8 x')).run P w = .ok () (w.setRow b (C.setIfInBounds i (.int .u8 x'))) := by
    rw [run_store P w _ _ _ rfl, hcell]
    simp [hfro, setCell_eq_setRow w b i C e (C.size, z) _ hwb]
  have hrun : (Instr.storeAt T (.pointer (some ⟨b, i, none⟩)) (.int .u8 x')).run P w = .ok () (w.setRow b (C.setIfInBounds i (.int .u8 x'))) := by
    unfold Instr.storeAt Instr.sureAddr storeVar
    simp only [Sem.run_bind, Sem.run_pure, Result.andThen_ok, run_sizeOf hE]
    have hcs : (Value.int .u8 x').cells = #[.int .u8 x'] := rfl
    simp [hcs, storeCells, add_mk, hst]
  have hval : (execOp a.eval ⟨none, .store T x y, ty, pos, af, g⟩).run P w = .ok .skip (w.setRow b (C.setIfInBounds i (.int .u8 x'))) := by
    simp only [execOp, opv_ok st.env hx, opv_ok st.env hy, adr, add_mk, Nat.mul_one, Nat.zero_add, Sem.run_bind, hrun]; rfl
  refine wpl_skip (wanted_ok (o := ⟨none, .store T x y, ty, pos, af, g⟩) st.env hg) hval (k _ _ ?_)
  refine st.upd (S := S) (f := f) (by simpa [Act.put] using st.defers) (by simpa [Act.put] using st.size) (by simpa [Act.put] using st.env) hS0 hS1 h3 h4 n _ (Hp.one b (.cells (C.setIfInBounds i (.int .u8 x')) e (C.size, z))) hn hq rfl rfl rfl (by simp)
    (Hp.one_sub (setRow_heap w b C _ e _ hwb)) (fun b' hb' => .inl (by rw [Hp.one_ne hb', hb]; simp)) (fun b' _ hb' => setRow_other w b b' _ (fun e => by subst e; rw [hb] at hb'; cases hb')) ?_
  refine ⟨b, cap, C.setIfInBounds i (.int .u8 x'), z, by rw [List.length_set], by rw [Array.size_setIfInBounds]; exact Hp.one_self b _, by rw [List.length_set]; exact hcap, hmax, by rw [List.length_set, Array.size_setIfInBounds]; exact hC, ?_⟩
  rw [List.length_set, Array.toList_setIfInBounds, List.take_set, htk, List.map_set]
theorem RL.cvSBz {x : Operand} {src dst E : TypeId} {u : TypeDesc} {m : List UInt8} (hS : P.underlying src = some u) (hT : P.underlying dst = some (.slice E)) (hE : P.underlying E = some (.int .u8)) (hq : c.still = false) (hg : wanted ops env g = some true) (hd : Slot c d)
    (hx : opv env x = some (.string ⟨m.toArray⟩)) (hl : m.length ≤ 9223372036854775807)
    (k : ∀ v, RL .plain P ops Q c rest (put env d v) (L ++ [ownZ E v (intsOf m)])) : RL .plain P ops Q c (⟨some d, .convert src dst x, ty, pos, af, g⟩ :: rest) env L := by
  intro a w st
  have hsz : (⟨m.toArray⟩ : ByteArray).size = m.length := by simp [ByteArray.size]
  have hr := Lib.run_convert_string_bytes (P := P) w src dst E ⟨m.toArray⟩ hS hT hE
  rw [hsz] at hr
  have hrun : (execOp a.eval ⟨some d, .convert src dst x, ty, pos, af, g⟩).run P w = .ok (.value (.slice (some ⟨w.heap.size, 0, none⟩) m.length (grownCap w m.length 0 E))) (Lib.bytesWorld w E ⟨m.toArray⟩) := by
    simp [execOp, opv_ok st.env hx, hr]
  refine wpl_val (wanted_ok (o := ⟨some d, .convert src dst x, ty, pos, af, g⟩) st.env hg) hrun (k (.slice (some ⟨w.heap.size, 0, none⟩) m.length (grownCap w m.length 0 E)) _ _ ?_)
  have st' := st.put (.slice (some ⟨w.heap.size, 0, none⟩) m.length (grownCap w m.length 0 E)) hd
  have hil : (intsOf m).length = m.length := by simp [intsOf]
  exact st.allocG (A := ownZ E (.slice (some ⟨w.heap.size, 0, none⟩) m.length (grownCap w m.length 0 E)) (intsOf m)) hq st'.defers st'.size st'.env (Lib.bytesWorld_at_new w E ⟨m.toArray⟩) (below_bytes w E ⟨m.toArray⟩) fun S f _ _ => by
    refine ⟨w.heap.size, grownCap w m.length 0 E, Lib.bytesCells w E ⟨m.toArray⟩, _, by rw [hil], Hp.one_self _ _, by rw [hil]; exact grownCap_ge w m.length 0 E, grownCap_le_maxLen w m.length 0 E (by simp [maxLen]; omega), ?_, ?_⟩
    · rw [hil]; simp [Lib.bytesCells]
    · rw [hil]
      unfold Lib.bytesCells
      rw [Array.toList_append, List.take_left' (by simp)]
      simp [intsOf]
end
theorem RL.rowsLen {P : Program} {ops : Array Oper} {Q : Exit → Act → World → Prop} {c : Cx} {rest : List Oper} {env : Env} {L : List It} {α : Type} {es e : TypeId} {t : TR α} {v : Value} {vs : List Value} {l : List (List α)} (n : Nat) (hA : L[n]? = some (own2 es e t v vs l)) (k : vs.length = l.length → RL .plain P ops Q c rest env L) : RL .plain P ops Q c rest env L := fun a w st => by
  obtain ⟨S, f, _, _, h⟩ := st.has hA
  exact k (Rows.len h) a w st

/-! ### functions without arguments, that give a slice of the call's own -/
def TR.thk {α : Type} (P : Program) (e : TypeId) (t : TR α) : TR (Option (List α)) where
  size := 1
  agg := false
  rep h cs m := ∃ fid cap, cs = [.func (.func fid) #[] cap] ∧ Fit P fid ∧ ∀ U w', Hp.le h U → U.sub w' → ∀ rr, m = some rr → Calls P fid cap w' (Post w' U (fun (o : Value) => o) (fun (o : Value) => [own e t o rr]))
  len h := by obtain ⟨_, _, rfl, _⟩ := h; rfl
  mono l h := by obtain ⟨fid, cap, e1, f, k⟩ := h; exact ⟨fid, cap, e1, f, fun U w' hle => k U w' (Hp.le_trans l hle)⟩
  flat h u hu := by
    obtain ⟨_, _, rfl, _⟩ := h
    simp at hu; rw [hu]; rfl
  one _ := rfl
theorem RL.callT {P : Program} {ops : Array Oper} {Q : Exit → Act → World → Prop} {c : Cx} {rest : List Oper} {env : Env} {L : List It} {d : Nat} {ty : TypeId} {pos : String} {af : Array Edge} {g : Option (Nat × Bool)}
    {α : Type} {e : TypeId} {t : TR α} {m : Option (List α)} {rr : List α} {v : Value} {x : Operand} {ts : Array TypeId} (n : Nat) (hq : c.still = false) (hg : wanted ops env g = some true) (hd : Slot c d) (hx : opv env x = some v)
    (hA : L[n]? = some (imm (TR.thk P e t) v m)) (hm : m = some rr) (k : ∀ o, RL .plain P ops Q c rest (put env d o) (L ++ [own e t o rr])) : RL .plain P ops Q c (⟨some d, .call ⟨.value x, #[], ts⟩, ty, pos, af, g⟩ :: rest) env L := by
  intro a w st
  obtain ⟨S, f, _, _, cs, hv, fid, cap, rfl, hfit, _⟩ := st.has hA
  have hv' : v = .func (.func fid) #[] cap := hv
  subst hv'
  refine RL.call (O := Value) (V := fun o => o) (LR := fun o => [own e t o rr]) (vs := []) hfit hq hg hd hx rfl (fun S' f' w' hS' hle hi => ?_) k a w st
  obtain ⟨cs', hv2, fid', cap', rfl, _, hk⟩ := hi n _ hA
  have hv3 : Value.func (.func fid) #[] cap = .func (.func fid') #[] cap' := hv2
  cases hv3
  have := hk S' w' (Hp.le_refl S') hS' rr hm
  simpa using this
end Go.Fw
