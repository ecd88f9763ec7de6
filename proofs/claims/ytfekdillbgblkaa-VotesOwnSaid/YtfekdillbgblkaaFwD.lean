/- Steps of a walk over the frame: literals, append, slicing, calls. No program in sight. -/
import Derived.Test.YtfekdillbgblkaaFwC
set_option linter.all false
namespace Go.Fw
open Go.RowKit

/-- the parts of a literal read, each by its own -/
def partsRep {α : Type} (t : TR α) (L : List It) : List Value → List α → Prop
  | [], [] => True
  | v :: vs, e :: es => VR t v e L ∧ partsRep t L vs es
  | _, _ => False
theorem partsRep_cells {α : Type} {t : TR α} {L : List It} {S : Hp} {f : Nat → Hp} (hi : Its L S f) : ∀ {vs : List Value} {es : List α}, partsRep t L vs es →
    reps t S (vs.map fun v => v.cells.toList).flatten es ∧ vs.length = es.length ∧ ∀ v ∈ vs, v.cells.toList.length = t.size
  | [], [], _ => ⟨rfl, rfl, by simp⟩
  | v :: vs, e :: es, ⟨h1, h2⟩ => by
    obtain ⟨cs, hc, hr⟩ := cells_vrep (h1 S f hi)
    obtain ⟨k1, k2, k3⟩ := partsRep_cells hi h2
    refine ⟨⟨cs, _, by simp [hc], hr, k1⟩, by simp [k2], ?_⟩
    intro u hu
    rcases List.mem_cons.1 hu with rfl | hu
    · rw [hc, t.len hr]
    · exact k3 u hu
  | [], _ :: _, h => h.elim
  | _ :: _, [], h => h.elim

theorem segs_all : ∀ (vs : List Value) (pre post : List (List Value)), vs.length = post.length → segs (pre ++ post) ((vs.zipIdx pre.length).map fun p => (p.2, p.1)) = pre ++ vs.map fun v => v.cells.toList
  | [], pre, [], _ => by simp [segs]
  | v :: vs, pre, s :: post, h => by
    rw [List.zipIdx_cons, List.map_cons, segs]
    have e : (pre ++ s :: post).set pre.length v.cells.toList = (pre ++ [v.cells.toList]) ++ post := by simp
    have := segs_all vs (pre ++ [v.cells.toList]) post (by simpa using h)
    rw [e]
    rw [show pre.length + 1 = (pre ++ [v.cells.toList]).length from by simp, this]
    simp
  | [], _, _ :: _, h => by simp at h
  | _ :: _, _, [], h => by simp at h

theorem fill_all (vs : List Value) (zc : List Value) (n sz : Nat) (hz : zc.length = sz) (hn : vs.length = n) (hl : ∀ v ∈ vs, v.cells.toList.length = sz) :
    Instr.fill (fun i => some (i * sz, sz)) (List.replicate n zc).flatten.toArray (vs.zipIdx.map fun p => (p.2, p.1)) = some (vs.map fun v => v.cells.toList).flatten.toArray := by
  have h := fill_segs (fun i => some (i * sz, sz)) (vs.zipIdx.map fun p => (p.2, p.1)) (List.replicate n zc) ?_ ?_
  · rw [h]
    have := segs_all vs [] (List.replicate n zc) (by simp [hn])
    simp only [List.nil_append, List.length_nil] at this
    rw [this]
  · intro i s hs
    obtain ⟨h1, h2⟩ := List.getElem?_eq_some_iff.1 hs
    simp at h1 h2
    subst h2
    simp [List.take_replicate, Nat.min_eq_left (Nat.le_of_lt h1), hz]
  · intro p hp
    obtain ⟨q, hq, rfl⟩ := List.mem_map.1 hp
    have hq' := List.mem_zipIdx' (x := q.1) (i := q.2) (by simpa using hq)
    refine ⟨zc, ?_, ?_⟩
    · have h5 : q.2 < n := by rw [← hn]; exact hq'.1
      simp [h5]
    · rw [hz]; dsimp only; rw [hq'.2]; exact hl _ (List.getElem_mem _)

section
variable {P : Program} {ops : Array Oper} {Q : Exit → Act → World → Prop} {c : Cx} {rest : List Oper} {env : Env} {L : List It}
variable {d : Nat} {ty : TypeId} {pos : String} {af : Array Edge} {g : Option (Nat × Bool)}

/-- a slice literal, all its places given in order -/
theorem RL.bS {α : Type} {t : TR α} {zc : List Value} {T E : TypeId} {n : Nat} {parts : Array (Nat × Operand)} {vs : List Value} (es : List α) (hT : P.underlying T = some (.slice E)) (hO : LnO P E t.size zc) (hq : c.still = false) (hg : wanted ops env g = some true) (hd : Slot c d)
    (hx : parts.toList.map (fun p => (p.1, opv env p.2)) = (vs.zipIdx.map fun p => (p.2, some p.1))) (hp : partsRep t L vs es) (hn : vs.length = n) (hb : n * t.size ≤ 4096)
    (k : ∀ v, RL .plain P ops Q c rest (put env d v) (L ++ [own E t v es])) : RL .plain P ops Q c (⟨some d, .buildSlice T n parts, ty, pos, af, g⟩ :: rest) env L := by
  intro a w st
  obtain ⟨i, zv, i1, i2, i3, i4, i5, i6, i7⟩ := hO.ex
  obtain ⟨S, f, hS0, hS1, h3, h4⟩ := st.heap
  obtain ⟨k1, k2, k3⟩ := partsRep_cells h4 hp
  have hpv : (parts.map fun (x : Nat × Operand) => (x.1, a.eval x.2)).toList = vs.zipIdx.map fun p => (p.2, p.1) := by
    rw [Array.toList_map]
    apply List.ext_getElem?
    intro j
    have := congrArg (fun l => l[j]?) hx
    simp only [List.getElem?_map] at this ⊢
    cases hj : parts.toList[j]? with
    | none =>
      rw [hj] at this
      cases hv : (vs.zipIdx)[j]? with
      | none => rfl
      | some q => rw [hv] at this; simp at this
    | some p =>
      rw [hj] at this
      cases hv : (vs.zipIdx)[j]? with
      | none => rw [hv] at this; simp at this
      | some q =>
        rw [hv] at this
        simp at this ⊢
        exact ⟨this.1, opv_ok st.env this.2⟩
  have hzs : zv.cells.size = t.size := by rw [← i5, ← i4]; simp
  have hmk : ((Array.range (n * t.size)).map fun x => zv.cells[x % zv.cells.size]!) = (List.replicate n zc).flatten.toArray := by
    have := madeCells_flat zv.cells n
    unfold madeCells at this
    rw [hzs, i4] at this
    rw [← hzs] at this ⊢
    apply Array.toList_inj.1
    rw [hzs] at this ⊢
    rw [this]
  have hfill := fill_all vs zc n t.size i5 hn k3
  have hrun : (execOp a.eval ⟨some d, .buildSlice T n parts, ty, pos, af, g⟩).run P w = .ok (.value (.slice (some ⟨w.heap.size, 0, none⟩) n n)) (w.alloc (.cells (vs.map fun v => v.cells.toList).flatten.toArray E)) := by
    have h16 : ¬ (16777216 < n * t.size) := by omega
    by_cases h0 : n * t.size = 0
    · have hn0 : n = 0 := by
        rcases Nat.mul_eq_zero.1 h0 with h | h
        · exact h
        · omega
      subst hn0
      have hv0 : vs = [] := List.eq_nil_of_length_eq_zero hn
      subst hv0
      have hp0 : parts = #[] := by
        have : parts.toList = [] := by simpa using hx
        exact Array.toList_inj.1 this
      subst hp0
      simp [execOp, Instr.buildSlice, run_underlying hT, sizeOf, typeInfo, i1, newRow, Instr.fill, Array.range_zero']
    · simp only [execOp, Instr.buildSlice, Sem.run_bind, run_underlying hT, Result.andThen_ok, sizeOf, typeInfo, run_program, i1, Sem.run_pure, i2]
      have hpv' : List.map (fun (x : Nat × Operand) => (x.1, a.eval x.2)) parts.toList = vs.zipIdx.map fun p => (p.2, p.1) := by rw [← hpv]; simp
      simp [h16, h0, zeroValue, typeInfo, i1, i3, hmk, hpv', hfill, newRow]
  refine wpl_val (wanted_ok (o := ⟨some d, .buildSlice T n parts, ty, pos, af, g⟩) st.env hg) hrun (k (.slice (some ⟨w.heap.size, 0, none⟩) n n) _ _ ?_)
  have st' := st.put (.slice (some ⟨w.heap.size, 0, none⟩) n n) hd
  refine st.alloc hq st'.defers st'.size st'.env (.inl rfl) fun S f _ hi => ?_
  obtain ⟨k1, k2, k3⟩ := partsRep_cells hi hp
  have hlen := reps_len k1
  have hes : es.length = n := by rw [← k2, hn]
  refine ⟨(vs.map fun v => v.cells.toList).flatten, ⟨hlen, .inr ⟨w.heap.size, n, (vs.map fun v => v.cells.toList).flatten.toArray, by rw [hes], Hp.one_self _ _, by rw [hes]; exact Nat.le_refl _, ?_, ?_, ?_⟩⟩, k1⟩
  · have : n ≤ n * t.size := Nat.le_mul_of_pos_right n (by omega)
    simp [maxLen]; omega
  · rw [List.size_toArray, hlen, hes]
  · rw [← hlen]; exact List.take_of_length_le (by simp)

end

theorem run_app {P : Program} (w : World) (T ty E : TypeId) (i : TypeInfo) (z : Value) (size : Nat) (ht : P.underlying T = some (.slice E)) (hi : P.info? E = some i) (hz : i.zero = some z) (hsize : i.size = size) (hzs : z.cells.size = size)
    (f : Hp) (hfs : f.sub w) (v : Value) (n : Nat) (xs : List Value) (hown : ownAt E size f v n xs) (a : Addr) (m c : Nat) (news : List Value) (hl : news.length = m * size) (hnews : ∀ j u, news[j]? = some u → w.cell? (a.add j) = some u) (h1 : ∀ u ∈ news, u.oneCell' = true)
    (hm : 0 < m) (h63 : n + m ≤ maxLen) (hbytes : (n + m) * i.bytes ≤ 140737488355328) :
    ∃ w' b C cap, (Builtin.append_ #[T, T] ty #[v, .slice (some a) m c]).run P w = .ok (.slice (some ⟨b, 0, none⟩) (n + m) cap) w' ∧ w'.heap[b]? = some (.cells C E (0, 0)) ∧ n + m ≤ cap ∧ cap ≤ maxLen ∧ C.size = cap * size ∧
      C.toList.take ((n + m) * size) = xs ++ news ∧ (f b ≠ none ∨ w.heap.size ≤ b) ∧ (∀ b', b' < w.heap.size → f b' = none → w'.heap[b']? = w.heap[b']?) ∧ w'.os = w.os ∧ w'.tape = w.tape ∧ w'.output = w.output ∧ w.heap.size ≤ w'.heap.size := by
  subst hsize
  obtain ⟨hxl, hown⟩ := hown
  have hlen : (xs ++ news).length = (n + m) * i.size := by rw [List.length_append, hxl, hl, Nat.add_mul]
  have hsmall : n + m ≤ 9223372036854775807 := by simp only [maxLen] at h63; omega
  have grown : ∀ old, ∃ C : Array Value, C = xs.toArray ++ news.toArray ++ Builtin.zeroCells z.cells (grownCap w (n + m) old E - (n + m)) ∧ C.size = grownCap w (n + m) old E * i.size ∧ C.toList.take ((n + m) * i.size) = xs ++ news := fun old => by
    have hge := grownCap_ge w (n + m) old E
    refine ⟨_, rfl, ?_, ?_⟩
    · simp only [Array.size_append, List.size_toArray, size_zeroCells, hzs, hxl, hl, ← Nat.add_mul]
      congr 1; omega
    · simp only [Array.toList_append]
      rw [← hlen]
      exact List.take_left
  rcases hown with ⟨rfl, rfl⟩ | ⟨b, cap, C, rfl, hb, hcap, hmax, hC, htk⟩
  · have hx : xs = [] := List.eq_nil_of_length_eq_zero (by simpa using hxl)
    subst hx
    have hr := run_append_nil (P := P) w T ty E i z ht hi hz a m c news hl hnews hm (by omega) (by have hb := hbytes; simp only [Nat.zero_add] at hb; omega)
    obtain ⟨C, hC, hC1, hC2⟩ := grown 0
    simp only [Nat.zero_add, Array.empty_append] at hC hC1 hC2 ⊢
    have hge := grownCap_ge w m 0 E
    rw [show (news.toArray ++ Builtin.zeroCells z.cells (grownCap w m 0 E - m)) = C from by rw [hC]] at hr
    exact ⟨_, w.heap.size, C, _, hr, heap_alloc_new w.drew _, hge, grownCap_le_maxLen w m 0 E (by simpa using h63), hC1, hC2, .inr (Nat.le_refl _), fun b' hb' _ => Go.heap_alloc_old w.drew _ hb', rfl, rfl, rfl, by simp⟩
  · have hwb := hfs b _ hb
    by_cases hroom : n + m ≤ cap
    · have hfit : n * i.size + news.length ≤ C.size := by rw [hl, hC, ← Nat.add_mul]; exact Nat.mul_le_mul_right _ hroom
      have hr := run_append_room (P := P) w T ty E i ht hi b n cap C hwb a m c news hl hnews h1 hroom hfit
      refine ⟨_, b, _, cap, hr, setRow_heap w b C _ E _ hwb, hroom, hmax, ?_, ?_, .inl (by rw [hb]; simp), fun b' _ hb' => setRow_other w b b' _ (fun e => by subst e; rw [hb] at hb'; cases hb'), rfl, rfl, rfl, by simp⟩
      · have : C.size = C.toList.length := by simp
        simp only [List.size_toArray, List.length_append, List.length_take, List.length_drop, Array.length_toList]
        omega
      · rw [htk, ← hlen]
        exact List.take_left
    · have holds : ∀ j u, xs[j]? = some u → w.cell? ((⟨b, 0, none⟩ : Addr).add j) = some u := fun j u hu => by
        rw [add_mk, Nat.zero_add, cell_of_row w b j C E (0, 0) hwb]
        rw [← htk, List.getElem?_take] at hu
        split at hu
        · simpa using hu
        · cases hu
      have hr := run_append_grow (P := P) w T ty E i z ht hi hz ⟨b, 0, none⟩ n cap xs hxl holds a m c news hl hnews (by omega) (by omega) (growslice_fits (by omega) hbytes)
      obtain ⟨C', hC', hC1, hC2⟩ := grown cap
      rw [← hC'] at hr
      exact ⟨_, w.heap.size, C', _, hr, heap_alloc_new w.drew _, grownCap_ge w (n + m) cap E, grownCap_le_maxLen w (n + m) cap E h63, hC1, hC2, .inr (Nat.le_refl _), fun b' hb' _ => Go.heap_alloc_old w.drew _ hb', rfl, rfl, rfl, by simp⟩

section
variable {P : Program} {ops : Array Oper} {Q : Exit → Act → World → Prop} {c : Cx} {rest : List Oper} {env : Env} {L : List It}
variable {d : Nat} {ty : TypeId} {pos : String} {af : Array Edge} {g : Option (Nat × Bool)}
/-- append to a slice of the call's own -/
theorem RL.app {α : Type} {t : TR α} {zc : List Value} {T E : TypeId} {x y : Operand} {v u : Value} {l m : List α} (n q : Nat) {A : It} (hT : P.underlying T = some (.slice E)) (hO : LnO P E t.size zc) (hq : c.still = false) (hg : wanted ops env g = some true) (hd : Slot c d)
    (hx : opv env x = some v) (hy : opv env y = some u) (hA : L[n]? = some (own E t v l)) (hB : L[q]? = some A) (hs : SlOf A t u m) (hb : l.length + m.length ≤ 68719476736)
    (k : ∀ v', RL .plain P ops Q c rest (put env d v') (L.set n (own E t v' (l ++ m)))) : RL .plain P ops Q c (⟨some d, .call ⟨.builtin .append, #[x, y], #[T, T]⟩, ty, pos, af, g⟩ :: rest) env L := by
  intro a w st
  obtain ⟨i, zv, i1, i2, i3, i4, i5, i6, i7⟩ := hO.ex
  obtain ⟨S, f, hS0, hS1, h3, h4⟩ := st.heap
  have hn := (List.getElem?_eq_some_iff.1 hA).1
  have hql := (List.getElem?_eq_some_iff.1 hB).1
  obtain ⟨xs, hown, hr⟩ := h4 n _ hA
  obtain ⟨h, ys, hh, ⟨ad, cap2, rfl, hc2, _, h2⟩, hr2⟩ := hs S (f q) (h4 q A hB)
  have hsub : h.sub w := by
    rcases hh with rfl | rfl
    · exact h3.sub
    · exact h3.subf q hql
  have hyl := reps_len hr2
  by_cases hm0 : m.length = 0
  · have hm : m = [] := List.eq_nil_of_length_eq_zero hm0
    subst hm
    have hrun : (execOp a.eval ⟨some d, .call ⟨.builtin .append, #[x, y], #[T, T]⟩, ty, pos, af, g⟩).run P w = .ok (.value v) w := by
      have hfc : (Builtin.firstCells i.size 0 (.slice ad 0 cap2)).run P w = .ok #[] w := by
        cases ad <;> simp [Builtin.firstCells, loadCells, loadCellsFrom]
      rcases hown.2 with ⟨rfl, hl0⟩ | ⟨b, cap, C, rfl, hb', hcap, hmax, hC, htk⟩
      · simp [execOp, resolve, invoke, builtin, opv_ok st.env hx, opv_ok st.env hy, Builtin.append_, run_underlying hT, sizeOf, typeInfo, i1, Builtin.lenOf, hfc]
      · simp [execOp, resolve, invoke, builtin, opv_ok st.env hx, opv_ok st.env hy, Builtin.append_, run_underlying hT, sizeOf, typeInfo, i1, Builtin.lenOf, hfc, hcap, storeCells]
    refine wpl_val (wanted_ok (o := ⟨some d, .call ⟨.builtin .append, #[x, y], #[T, T]⟩, ty, pos, af, g⟩) st.env hg) hrun (k v _ _ ?_)
    have st' := st.put v hd
    have hL : L.set n (own E t v (l ++ [])) = L := by
      rw [List.append_nil]
      apply List.ext_getElem?
      intro j
      by_cases hj : j = n
      · subst hj; rw [List.getElem?_set_self hn, hA]
      · rw [List.getElem?_set_ne (Ne.symm hj)]
    rw [hL]; exact st'
  · rcases h2 with ⟨h2, _⟩ | ⟨b2, o2, C2, tb, fz, rfl, hb2, hC2⟩
    · omega
    have hnews : ∀ j z, ys[j]? = some z → w.cell? ((⟨b2, o2, none⟩ : Addr).add j) = some z := fun j z hz => by
      rw [add_mk]; exact cell_of_sub hsub hb2 (hC2 j z hz)
    have hzs : zv.cells.size = t.size := by rw [← i5, ← i4]; simp
    have hbyte : (l.length + m.length) * i.bytes ≤ 140737488355328 := by
      calc (l.length + m.length) * i.bytes ≤ 68719476736 * 1024 := Nat.mul_le_mul hb i7
        _ ≤ 140737488355328 := by omega
    obtain ⟨w', b, C, cap, hrun', hwb, hcap, hmax, hC, htk, hdom, hkeep, k1, k2, k3, k4⟩ := run_app (P := P) w T ty E i zv t.size hT i1 i3 i2 hzs (f n) (h3.subf n hn) v l.length xs hown ⟨b2, o2, none⟩ m.length cap2 ys hyl hnews (reps_flat hr2) (by omega) (by simp [maxLen]; omega) hbyte
    have hrun : (execOp a.eval ⟨some d, .call ⟨.builtin .append, #[x, y], #[T, T]⟩, ty, pos, af, g⟩).run P w = .ok (.value (.slice (some ⟨b, 0, none⟩) (l.length + m.length) cap)) w' := by
      simp [execOp, resolve, invoke, builtin, opv_ok st.env hx, opv_ok st.env hy, hrun']
    refine wpl_val (wanted_ok (o := ⟨some d, .call ⟨.builtin .append, #[x, y], #[T, T]⟩, ty, pos, af, g⟩) st.env hg) hrun (k (.slice (some ⟨b, 0, none⟩) (l.length + m.length) cap) _ _ ?_)
    have st' := st.put (.slice (some ⟨b, 0, none⟩) (l.length + m.length) cap) hd
    refine st.upd (S := S) (f := f) st'.defers st'.size st'.env hS0 hS1 h3 h4 n _ (Hp.one b (.cells C E (0, 0))) hn hq k1 k2 k3 k4 (Hp.one_sub hwb) (fun b' hb' => by rw [Hp.one_ne hb']; exact hdom) hkeep ?_
    refine ⟨xs ++ ys, ⟨?_, .inr ⟨b, cap, C, by rw [List.length_append], Hp.one_self b _, by rw [List.length_append]; exact hcap, hmax, hC, by rw [List.length_append]; exact htk⟩⟩, reps_append hr hr2⟩
    rw [List.length_append, hown.1, hyl, List.length_append, Nat.add_mul]
end
end Go.Fw
