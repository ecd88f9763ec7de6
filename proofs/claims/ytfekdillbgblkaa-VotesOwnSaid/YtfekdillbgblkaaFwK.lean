/- Equality of arrays and structs, by what they read as. No program in sight. -/
import Derived.Test.YtfekdillbgblkaaFwI
import Derived.ChangeKeysEq
set_option linter.all false
namespace Go.Fw
open Go.RowKit
theorem run_part {P : Program} {E : TypeId} {sz : Nat} {ag : Bool} (l : Ln P E sz ag) (w : World) (xs : Array Value) (off : Nat) (a c b : List Value) (hx : xs.toList = a ++ c ++ b) (ha : a.length = off) (hc : c.length = sz) (h1 : ag = false → sz = 1) :
    (part E xs off).run P w = .ok (mkv ag c) w := by
  unfold part
  simp only [Sem.run_bind, run_isAgg l, Result.andThen_ok]
  cases ag with
  | true =>
    simp only [if_true, Sem.run_bind, run_sizeOf l, Result.andThen_ok, Sem.run_pure]
    congr 1
    show Value.agg _ = Value.agg _
    congr 1
    apply Array.toList_inj.1
    rw [Array.toList_extract, hx]
    simp only [List.extract_eq_take_drop]
    rw [List.append_assoc, List.drop_left' ha, Nat.add_sub_cancel_left, List.take_left' hc]
  | false =>
    have h1' := h1 rfl
    match c, hc with
    | [u], hc =>
      have : xs[off]? = some u := by
        rw [← Array.getElem?_toList, hx, List.append_assoc, List.getElem?_append_right (by omega), ha]; simp
      simp only [Bool.false_eq_true, if_false, this]; rfl
    | [], hc => simp at hc; omega
    | _ :: _ :: _, hc => simp at hc; omega
/-- the language's == answers whether the data are the same -/
def EqT {α : Type} [DecidableEq α] (P : Program) (T : TypeId) (t : TR α) (k : Nat) : Prop :=
  ∀ n, k ≤ n → ∀ (h h' : Hp) (cs ds : List Value) (x y : α) (w : World), t.rep h cs x → t.rep h' ds y → (Op.equalIn n T (mkv t.agg cs) (mkv t.agg ds)).run P w = .ok (decide (x = y)) w
theorem EqT.int {P : Program} {T : TypeId} {k : IntKind} (hu : P.underlying T = some (.int k)) : EqT P T (TR.ik k) 1 := by
  intro n hn h h' cs ds x y w hx hy
  have hx' : cs = [.int k x] := hx
  have hy' : ds = [.int k y] := hy
  subst hx' hy'
  obtain ⟨m, rfl⟩ : ∃ m, n = m + 1 := ⟨n - 1, by omega⟩
  show (Op.equalIn (m + 1) T (.int k x) (.int k y)).run P w = _
  rw [run_equalIn_int w m T k k x y hu]; rfl
theorem EqT.bool {P : Program} {T : TypeId} (hu : P.underlying T = some .bool) : EqT P T TR.bool 1 := by
  intro n hn h h' cs ds x y w hx hy
  have hx' : cs = [.bool x] := hx
  have hy' : ds = [.bool y] := hy
  subst hx' hy'
  obtain ⟨m, rfl⟩ : ∃ m, n = m + 1 := ⟨n - 1, by omega⟩
  show (Op.equalIn (m + 1) T (.bool x) (.bool y)).run P w = _
  rw [run_equalIn_bool' w m T x y hu]; cases x <;> cases y <;> rfl
theorem EqT.str {P : Program} {T : TypeId} (hu : P.underlying T = some .string) : EqT P T TR.str 1 := by
  intro n hn h h' cs ds x y w hx hy
  have hx' : cs = [.string ⟨x.toArray⟩] := hx
  have hy' : ds = [.string ⟨y.toArray⟩] := hy
  subst hx' hy'
  obtain ⟨m, rfl⟩ : ∃ m, n = m + 1 := ⟨n - 1, by omega⟩
  show (Op.equalIn (m + 1) T (.string ⟨x.toArray⟩) (.string ⟨y.toArray⟩)).run P w = _
  rw [run_equalIn_string w m T _ _ hu, ByteArray.toList_eq, ByteArray.toList_eq]
  simp only [List.toArray, Array.toList]
  congr 1
  by_cases e : x = y
  · subst e; simp
  · rw [decide_eq_false e, beq_eq_false_iff_ne]; exact e
theorem run_eqItems {α : Type} [DecidableEq α] {P : Program} {E : TypeId} {t : TR α} {k : Nat} (hE : EqT P E t k) (hl : Ln P E t.size t.agg) {n : Nat} (hn : k ≤ n) {h h' : Hp} (w : World) (xs ys : Array Value) :
    ∀ (l m : List α) (j : Nat) (a b cs ds : List Value), l.length = m.length → xs.toList = a ++ cs → ys.toList = b ++ ds → a.length = j * t.size → b.length = j * t.size → reps t h cs l → reps t h' ds m →
      (Op.eqItems n E t.size xs ys (List.range' j l.length)).run P w = .ok (decide (l = m)) w
  | [], m, j, a, b, cs, ds, hlm, _, _, _, _, _, _ => by
    have : m = [] := List.eq_nil_of_length_eq_zero hlm.symm
    subst this
    simp [Op.eqItems]
  | x :: l, [], j, a, b, cs, ds, hlm, _, _, _, _, _, _ => by simp at hlm
  | x :: l, y :: m, j, a, b, cs, ds, hlm, hx, hy, ha, hb, r, s => by
    obtain ⟨c, q, rfl, r1, r2⟩ := r
    obtain ⟨d, p, rfl, s1, s2⟩ := s
    have ec := run_part hl w xs (j * t.size) a c q (by rw [hx]; simp) ha (t.len r1) t.one
    have ed := run_part hl w ys (j * t.size) b d p (by rw [hy]; simp) hb (t.len s1) t.one
    have ee := hE n hn h h' c d x y w r1 s1
    have ih := run_eqItems hE hl hn w xs ys l m (j + 1) (a ++ c) (b ++ d) q p (by simpa using hlm) (by rw [hx]; simp) (by rw [hy]; simp) (by rw [List.length_append, ha, t.len r1, Nat.add_mul]; omega) (by rw [List.length_append, hb, t.len s1, Nat.add_mul]; omega) r2 s2
    rw [List.length_cons, List.range'_succ]
    simp only [Op.eqItems, Sem.run_bind, ec, ed, ee, Result.andThen_ok]
    by_cases e : x = y
    · subst e
      simp only [decide_true, Bool.not_true, Bool.false_eq_true, if_false, ih]
      congr 1
      simp
    · simp [e]
theorem EqT.arr {α : Type} [DecidableEq α] {P : Program} {T E : TypeId} {n k : Nat} {t : TR α} (hu : P.underlying T = some (.array n E)) (hl : Ln P E t.size t.agg) (hE : EqT P E t k) (hc : P.cellsOf E = t.size) : EqT P T (TR.arr n t) (k + 1) := by
  intro m hm h h' cs ds x y w hx hy
  obtain ⟨d, rfl⟩ : ∃ d, m = d + 1 := ⟨m - 1, by omega⟩
  obtain ⟨i, _, hi, _⟩ := hl.ex
  show (Op.equalIn (d + 1) T (.agg cs.toArray) (.agg ds.toArray)).run P w = _
  rw [run_equalIn_array w d cs.toArray ds.toArray hu hi, hc, List.range_eq_range']
  have := run_eqItems hE hl (n := d) (by omega) w cs.toArray ds.toArray x y 0 [] [] cs ds (by rw [hx.1, hy.1]) (by simp) (by simp) (by simp) (by simp) hx.2 hy.2
  rw [hx.1] at this
  exact this
/-- the fields of a struct, from one on -/
def EqF {α : Type} [DecidableEq α] (P : Program) (fs : List Field) (off : Nat) (t : TR α) (k : Nat) : Prop :=
  ∀ n, k ≤ n → ∀ (h h' : Hp) (xs ys : Array Value) (a b cs ds : List Value) (x y : α) (w : World), xs.toList = a ++ cs → ys.toList = b ++ ds → a.length = off → b.length = off → t.rep h cs x → t.rep h' ds y → (Op.eqFields n xs ys fs).run P w = .ok (decide (x = y)) w
theorem EqF.last {α : Type} [DecidableEq α] {P : Program} {f : Field} {off k : Nat} {t : TR α} (hn : f.name ≠ "_") (ho : f.offset = off) (hl : Ln P f.type t.size t.agg) (hE : EqT P f.type t k) : EqF P [f] off t k := by
  intro n hk h h' xs ys a b cs ds x y w hx hy ha hb rx ry
  have ec := run_part hl w xs f.offset a cs [] (by rw [hx]; simp) (by rw [ha, ho]) (t.len rx) t.one
  have ed := run_part hl w ys f.offset b ds [] (by rw [hy]; simp) (by rw [hb, ho]) (t.len ry) t.one
  simp only [Op.eqFields, hn, ne_eq, not_false_eq_true, if_true, Sem.run_bind, ec, ed, hE n hk h h' cs ds x y w rx ry, Result.andThen_ok]
  by_cases e : x = y <;> simp [e]
theorem EqF.cons {α β : Type} [DecidableEq α] [DecidableEq β] {P : Program} {f : Field} {fs : List Field} {off k : Nat} {t : TR α} {r : TR β} (hn : f.name ≠ "_") (ho : f.offset = off) (hl : Ln P f.type t.size t.agg) (hE : EqT P f.type t k) (hr : EqF P fs (off + t.size) r k) : EqF P (f :: fs) off (t.pair r) k := by
  intro n hk h h' xs ys a b cs ds x y w hx hy ha hb rx ry
  obtain ⟨c1, c2, rfl, x1, x2⟩ := rx
  obtain ⟨d1, d2, rfl, y1, y2⟩ := ry
  have ec := run_part hl w xs f.offset a c1 c2 (by rw [hx]; simp) (by rw [ha, ho]) (t.len x1) t.one
  have ed := run_part hl w ys f.offset b d1 d2 (by rw [hy]; simp) (by rw [hb, ho]) (t.len y1) t.one
  have ih := hr n hk h h' xs ys (a ++ c1) (b ++ d1) c2 d2 x.2 y.2 w (by rw [hx]; simp) (by rw [hy]; simp) (by rw [List.length_append, ha, t.len x1]) (by rw [List.length_append, hb, t.len y1]) x2 y2
  simp only [Op.eqFields, hn, ne_eq, not_false_eq_true, if_true, Sem.run_bind, ec, ed, hE n hk h h' c1 d1 x.1 y.1 w x1 y1, Result.andThen_ok]
  by_cases e : x.1 = y.1
  · simp only [e, decide_true, Bool.not_true, Bool.false_eq_true, if_false, ih]
    congr 1
    by_cases e2 : x.2 = y.2
    · rw [decide_eq_true e2, decide_eq_true (Prod.ext e e2)]
    · rw [decide_eq_false e2, decide_eq_false (fun h => e2 (by rw [h]))]
  · simp only [e, decide_false, Bool.not_false, if_true, Sem.run_pure]
    rw [decide_eq_false (fun h => e (by rw [h]))]
theorem EqT.struct {α : Type} [DecidableEq α] {P : Program} {T : TypeId} {fs : Array Field} {t : TR α} {k : Nat} (hu : P.underlying T = some (.struct fs)) (hs : P.stoodInHeld T = false) (hag : t.agg = true) (hF : EqF P fs.toList 0 t k) : EqT P T t (k + 1) := by
  intro m hm h h' cs ds x y w hx hy
  obtain ⟨d, rfl⟩ : ∃ d, m = d + 1 := ⟨m - 1, by omega⟩
  have hf : P.fieldsOf T = fs := by unfold Program.fieldsOf; rw [hu]
  rw [hag]
  show (Op.equalIn (d + 1) T (.agg cs.toArray) (.agg ds.toArray)).run P w = _
  rw [run_equalIn_agg w d T _ _ (by rw [hf]; exact hu) hs, hf]
  exact hF d (by omega) h h' cs.toArray ds.toArray [] [] cs ds x y w (by simp) (by simp) rfl rfl hx hy
section
variable {md : Md} {P : Program} {ops : Array Oper} {Q : Exit → Act → World → Prop} {c : Cx} {rest : List Oper} {env : Env} {L : List It}
variable {d : Nat} {ty : TypeId} {pos : String} {af : Array Edge} {g : Option (Nat × Bool)}
theorem RL.eqG {α : Type} [DecidableEq α] {t : TR α} {T T' : TypeId} {x y : Operand} {u u' : Value} {e e' : α} {k : Nat} (hag : t.agg = true) (hE : EqT P T t k) (hk : k ≤ 10000) (hgd : P.eqGuardType P.depth T = false) (hg : wanted ops env g = some true) (hd : Slot c d)
    (hx : opv env x = some u) (hy : opv env y = some u') (hu : VR t u e L) (hu' : VR t u' e' L) (k : RL md P ops Q c rest (put env d (.bool (decide (e = e')))) L) : RL md P ops Q c (⟨some d, .binOp .eql T x y T', ty, pos, af, g⟩ :: rest) env L :=
  RL.val hg hd (fun S f a w st => by
    obtain ⟨cs, rfl, r⟩ := hu S f st.its
    obtain ⟨ds, rfl, s⟩ := hu' S f st.its
    have h := hE 10000 hk S S cs ds e e' w r s
    rw [hag] at h
    simp only [mkv, if_true] at h
    simp [execOp, opv_ok st.env hx, opv_ok st.env hy, hag, mkv, run_eqGuard_agg w .eql T x y _ _ hgd, run_eql_struct, h]) k
theorem RL.neG {α : Type} [DecidableEq α] {t : TR α} {T T' : TypeId} {x y : Operand} {u u' : Value} {e e' : α} {k : Nat} (hag : t.agg = true) (hE : EqT P T t k) (hk : k ≤ 10000) (hgd : P.eqGuardType P.depth T = false) (hg : wanted ops env g = some true) (hd : Slot c d)
    (hx : opv env x = some u) (hy : opv env y = some u') (hu : VR t u e L) (hu' : VR t u' e' L) (k : RL md P ops Q c rest (put env d (.bool (!decide (e = e')))) L) : RL md P ops Q c (⟨some d, .binOp .neq T x y T', ty, pos, af, g⟩ :: rest) env L :=
  RL.val hg hd (fun S f a w st => by
    obtain ⟨cs, rfl, r⟩ := hu S f st.its
    obtain ⟨ds, rfl, s⟩ := hu' S f st.its
    have h := hE 10000 hk S S cs ds e e' w r s
    rw [hag] at h
    simp only [mkv, if_true] at h
    simp [execOp, opv_ok st.env hx, opv_ok st.env hy, hag, mkv, run_eqGuard_agg w .neq T x y _ _ hgd, run_neq_struct, h]) k
end
theorem flatten_len {α : Type} (sz : Nat) : ∀ (l : List (List α)), (∀ s ∈ l, s.length = sz) → l.flatten.length = l.length * sz
  | [], _ => by simp
  | s :: l, h => by
    rw [List.flatten_cons, List.length_append, flatten_len sz l (fun q hq => h q (List.mem_cons_of_mem _ hq)), h s (List.mem_cons_self), List.length_cons, Nat.add_mul]; omega
section
variable {md : Md} {P : Program} {ops : Array Oper} {Q : Exit → Act → World → Prop} {c : Cx} {rest : List Oper} {env : Env} {L : List It}
variable {d : Nat} {ty : TypeId} {pos : String} {af : Array Edge} {g : Option (Nat × Bool)}
theorem RL.bldA {α : Type} {t : TR α} {d0 : α} {zs : List (List Value)} {sz : Nat} {T : TypeId} {parts : Array (Nat × Operand)} {pv : List (Nat × Value)} (hag : t.agg = true) (hB : ∀ pv, P.built T pv = Instr.fill (fun i => some (i * sz, sz)) zs.flatten.toArray pv) (hz : (zs.all fun s => s.length == sz) = true)
    (hg : wanted ops env g = some true) (hd : Slot c d) (hx : parts.toList.map (fun p => (p.1, opv env p.2)) = pv.map fun p => (p.1, some p.2)) (hsz : SzOk zs L pv) (hrep : ∀ S f, Its L S f → t.rep S (segs zs pv).flatten d0)
    (k : ∀ u, RL md P ops Q c rest (put env d u) (L ++ [imm t u d0])) : RL md P ops Q c (⟨some d, .build T parts, ty, pos, af, g⟩ :: rest) env L := by
  refine RL.rd (X := fun u Lx => Lx = [imm t u d0]) hg hd (fun S f hi _ => ?_) (by rintro u _ rfl; exact k u)
  refine ⟨.agg (segs zs pv).flatten.toArray, _, rfl, ?_, fun a w vw => ?_⟩
  · intro j B hB'
    match j, hB' with
    | 0, hB' => simp at hB'; subst hB'; exact ⟨_, by simp [mkv, hag], hrep S f hi⟩
  · have hpv : (parts.map fun (x : Nat × Operand) => (x.1, a.eval x.2)).toList = pv := by
      rw [Array.toList_map]
      apply List.ext_getElem?
      intro j
      have := congrArg (fun l => l[j]?) hx
      simp only [List.getElem?_map] at this ⊢
      cases hj : parts.toList[j]? with
      | none =>
        rw [hj] at this
        cases hv : pv[j]? with
        | none => rfl
        | some q => rw [hv] at this; simp at this
      | some p =>
        rw [hj] at this
        cases hv : pv[j]? with
        | none => rw [hv] at this; simp at this
        | some q =>
          rw [hv] at this
          simp at this
          simp only [Option.map_some, opv_ok vw.env this.2, this.1]
    have hfill : P.built T (parts.map fun (x : Nat × Operand) => (x.1, a.eval x.2)).toList = some (segs zs pv).flatten.toArray := by
      rw [hpv, hB]
      exact fill_segs _ pv zs (fun i s hs => by
        have hall : ∀ s ∈ zs, s.length = sz := fun s h => by simpa using List.all_eq_true.1 hz s h
        rw [hall s (List.mem_of_getElem? hs), flatten_len sz (zs.take i) (fun q hq => hall q (List.mem_of_mem_take hq)), List.length_take, Nat.min_eq_left (Nat.le_of_lt (List.getElem?_eq_some_iff.1 hs).1)]) (hsz.all hi)
    have hr := run_build (P := P) w T _ _ hfill
    simp only [execOp, Sem.run_bind, hr]; rfl
end
/-- a variable that is read alone from now on -/
theorem St.freezeB {c : Cx} {env : Env} {L : List It} {a : Act} {w : World} {α : Type} {e : TypeId} {t : TR α} {v : Value} {d : α} (n : Nat) (hA : L[n]? = some (obox e t v d)) (st : St c env L a w) : St c env (L.set n (imm t.ptr v d)) a w :=
  st.melt n hA fun S f dj ⟨b, cs, k1, k2, k3⟩ => ⟨[v], rfl, b, 0, cs.toArray, e, (0, 0), cs, by rw [k1], Hp.le_cup_right dj _ _ k2, t.mono (Hp.le_cup_left _ _) k3, fun j u hu => by simpa using hu⟩
/-! ### a variable that holds a slice of the call's own, as a plain value -/
theorem VR.rawOf {α : Type} {t : TR α} {u : Value} {l : List α} {L : List It} (n : Nat) {A : It} (hA : L[n]? = some A) (hs : SlOf A t u l) : VR TR.raw u u L := fun S f hi => by
  obtain ⟨_, xs, _, ⟨ad, cap, rfl, _⟩, _⟩ := hs S _ (hi n A hA)
  exact ⟨[_], rfl, rfl, rfl⟩
theorem VR.rawRows {α : Type} {es e : TypeId} {t : TR α} {v : Value} {vs : List Value} {d : List (List α)} {L : List It} (n : Nat) (hA : L[n]? = some (own2 es e t v vs d)) : VR TR.raw v v L := fun S f hi => by
  obtain ⟨ad, cap, rfl, _⟩ := slAt_of_own (Rows.sp (hi n _ hA))
  exact ⟨[_], rfl, rfl, rfl⟩
theorem VR.rawNil {L : List It} : VR TR.raw (.slice none 0 0) (.slice none 0 0) L := fun _ _ _ => ⟨[_], rfl, rfl, rfl⟩
theorem Ex.raw : Ex TR.raw (fun x => x) := fun _ cs e h => by rw [h.1]; rfl
theorem ptr_raw {α : Type} {r : TR α} {U : Hp} {v u : Value} {d : α} (h : TR.raw.ptr.vrep U v u) (hr : r.agg = false) (k : r.vrep U u d) : r.ptr.vrep U v d := by
  obtain ⟨cs, e, b, off, C, ty, fz, xs, rfl, h1, ⟨rfl, h4⟩, h3⟩ := h
  obtain ⟨ds, e2, k2⟩ := k
  refine ⟨_, e, b, off, C, ty, fz, [u], rfl, h1, ?_, h3⟩
  have hl := r.len k2
  have h1' := r.one hr
  match ds, hl, e2, k2 with
  | [x], _, e2, k2 =>
    rw [hr] at e2
    have : u = x := e2
    rw [this]; exact k2
  | [], hl, _, _ => simp at hl; omega
  | _ :: _ :: _, hl, _, _ => simp at hl; omega
theorem St.map2 {c : Cx} {env : Env} {L : List It} {a : Act} {w : World} {A B C : It} (n m : Nat) (hA : L[n]? = some A) (hB : L[m]? = some B) (hC : ∀ S f g, A.P S f → B.P S g → C.P S f) (st : St c env L a w) : St c env (L.set n C) a w := by
  obtain ⟨S, f, e1, e2, e3, e4⟩ := st.heap
  have hn := (List.getElem?_eq_some_iff.1 hA).1
  refine ⟨st.defers, st.size, st.env, st.below, st.calm, S, f, e1, e2, by rw [List.length_set]; exact e3, ?_⟩
  intro i D hD
  by_cases hin : i = n
  · subst hin
    rw [List.getElem?_set_self hn] at hD
    cases hD
    exact hC S _ _ (e4 i A hA) (e4 m B hB)
  · rw [List.getElem?_set_ne (Ne.symm hin)] at hD
    exact e4 i D hD
def oboxR {α : Type} (e : TypeId) (r : TR α) (v u : Value) (l : α) : It := ⟨fun S f => (obox e TR.raw v u).P S f ∧ r.vrep S u l, fun h k => ⟨(obox e TR.raw v u).mono h k.1, TR.vrep_mono h k.2⟩⟩
/-- a variable and the slice that it holds are read alone from now on -/
theorem St.freezeRB {c : Cx} {env : Env} {L : List It} {a : Act} {w : World} {α : Type} {e : TypeId} {r : TR α} {v u : Value} {l : α} (n m : Nat) (hr : r.agg = false) (hA : L[n]? = some (obox e TR.raw v u)) (hB : L[m]? = some (imm r u l)) (st : St c env L a w) : St c env (L.set n (imm r.ptr v l)) a w := by
  have hn := (List.getElem?_eq_some_iff.1 hA).1
  have st1 := st.map2 (C := oboxR e r v u l) n m hA hB (fun S f g h k => ⟨h, k⟩)
  have st2 := st1.melt (C := imm r.ptr v l) n (A := oboxR e r v u l) (by rw [List.getElem?_set_self hn]) (fun S f dj ⟨h1, h2⟩ => ptr_raw (Seen.obox S f _ (Hp.le_cup_left _ _) (Hp.le_cup_right dj) h1) hr (TR.vrep_mono (Hp.le_cup_left _ _) h2))
  rw [List.set_set] at st2
  exact st2
/-! ### results that lie in memory -/
def rdRes (tmps : Array Value) : ResultVar → Sem Value
  | .tmp t => pure (tmps.getD t undef)
  | .cell a t => do loadVar t (← asAddr (tmps.getD a undef))
def ResRun (P : Program) (tmps : Array Value) (w : World) : List ResultVar → List Value → Prop
  | [], [] => True
  | r :: rs, v :: vs => (rdRes tmps r).run P w = .ok v w ∧ ResRun P tmps w rs vs
  | _, _ => False
def tupv : List Value → Value
  | [v] => v
  | vs => .tuple vs.toArray
theorem run_mapM_res {P : Program} {tmps : Array Value} {w : World} : ∀ {rs : List ResultVar} {vs : List Value}, ResRun P tmps w rs vs → (rs.mapM (rdRes tmps)).run P w = .ok vs w
  | [], [], _ => by simp
  | r :: rs, v :: vs, ⟨h1, h2⟩ => by
    rw [List.mapM_cons]
    simp only [Sem.run_bind, h1, Result.andThen_ok, run_mapM_res h2, Sem.run_pure]
theorem results_run {P : Program} {fn : Func} {rs : List ResultVar} {vs : List Value} {tmps : Array Value} {w : World} (h : fn.results = rs.toArray) (hr : ResRun P tmps w rs vs) : (results fn tmps).run P w = .ok (tupv vs) w := by
  have e : results fn tmps = (rs.toArray.mapM (rdRes tmps) >>= fun vs => pure (if h : vs.size = 1 then vs[0] else .tuple vs)) := by
    unfold results
    rw [h]
    congr 1
  rw [e]
  have e2 : (rs.toArray.mapM (rdRes tmps)).run P w = .ok vs.toArray w := by
    have : rs.toArray.mapM (rdRes tmps) = (rs.mapM (rdRes tmps) >>= fun l => pure l.toArray) := by
      rw [List.mapM_toArray]; rfl
    rw [this]
    simp only [Sem.run_bind, run_mapM_res hr, Result.andThen_ok, Sem.run_pure]
  simp only [Sem.run_bind, e2, Result.andThen_ok, Sem.run_pure]
  match vs with
  | [] => rfl
  | [v] => rfl
  | _ :: _ :: _ => rfl
section
variable {P : Program} {fn : Func} {c : Cx} {env : Env} {L : List It}
theorem ResTmp {P : Program} {env : Env} {a : Act} {w : World} {t : Tmp} {v : Value} (he : EnvOk env a) (hv : look env t = some v) : (rdRes a.tmps (.tmp t)).run P w = .ok v w := by
  obtain ⟨h1, h2⟩ := Array.getElem?_eq_some_iff.1 (look_ok he hv)
  simp [rdRes, h1, h2]
theorem St.cellRes {P : Program} {a : Act} {w : World} {α : Type} {e : TypeId} {t : TR α} {v : Value} {d : α} {p : Tmp} {T : TypeId} (n : Nat) (hE : Ln P T t.size true) (hag : t.agg = true) (hA : L[n]? = some (obox e t v d)) (hv : look env p = some v) (st : St c env L a w) :
    ∃ u, (rdRes a.tmps (.cell p T)).run P w = .ok u w ∧ St c env (L ++ [imm t u d]) a w := by
  obtain ⟨S, f, h1, h2, h3, h4⟩ := st.heap
  have hn := (List.getElem?_eq_some_iff.1 hA).1
  obtain ⟨b, cs, e1, e2, e3⟩ := h4 n _ hA
  obtain ⟨q1, q2⟩ := Array.getElem?_eq_some_iff.1 (look_ok st.env hv)
  have hb := h3.subf n hn b _ e2
  have hl := t.len e3
  have hld : (loadCells ⟨b, 0, none⟩ t.size).run P w = .ok cs.toArray w := by
    rw [← hl]
    exact run_loadCells_list w ⟨b, 0, none⟩ cs (fun j u hu => by
      rw [add_mk, cell_of_row w b (0 + j) cs.toArray e (0, 0) hb]
      simpa using hu)
  refine ⟨.agg cs.toArray, ?_, ?_⟩
  · subst e1
    simp [rdRes, q1, q2, asAddr, loadVar, run_isAgg hE, run_sizeOf hE, hld]
  · refine ⟨st.defers, st.size, st.env, st.below, st.calm, S, fcat f L.length fun _ => Hp.emp, h1, h2, ?_, h4.cat (Hp.le_refl S) fun i A hA => ?_⟩
    · rw [List.length_append]; exact h3.emp st.below.size _
    · match i, hA with
      | 0, hA => simp at hA; subst hA; exact ⟨cs, by simp [mkv, hag], e3⟩
theorem Gx.retX {R : Ending → World → Prop} (rs : List ResultVar) (hr : fn.results = rs.toArray) (h : ∀ a w, St c env L a w → ∃ vs, ResRun P a.tmps w rs vs ∧ R (.returned (tupv vs)) w) (hd : c.dfs = [] := by rfl) : Gx (bodyPost P fn R) c .ret env L := fun a w st => by
  obtain ⟨vs, h1, h2⟩ := h a w st
  exact ⟨st.defers.trans hd, tupv vs, results_run hr h1, h2⟩
end
/-! ### a row is taken out of its place, and put back -/
theorem St.split2 {c : Cx} {env : Env} {L : List It} {a : Act} {w : World} {A B C : It} (n : Nat) (hA : L[n]? = some A) (hs : ∀ S f, A.P S f → ∃ f1 f2, Hp.le f1 f ∧ Hp.le f2 f ∧ Hp.dj f1 f2 ∧ C.P S f1 ∧ B.P S f2) (st : St c env L a w) : St c env (L.set n C ++ [B]) a w := by
  obtain ⟨S, f, e1, e2, e3, e4⟩ := st.heap
  have hn := (List.getElem?_eq_some_iff.1 hA).1
  obtain ⟨f1, f2, l1, l2, hd, hC, hB⟩ := hs S (f n) (e4 n A hA)
  have djl : ∀ {x y z : Hp}, Hp.le x y → Hp.dj z y → Hp.dj z x := fun {x y z} hxy hzy b => by
    rcases hzy b with h | h
    · exact .inl h
    · right
      cases hx : x b with
      | none => rfl
      | some o => rw [hxy b o hx] at h; cases h
  have lo1 : ∀ b, f1 b ≠ none → c.w0.heap.size ≤ b := fun b hb => e3.lo n hn b (by obtain ⟨o, ho⟩ := Option.ne_none_iff_exists'.1 hb; rw [l1 b o ho]; simp)
  have lo2 : ∀ b, f2 b ≠ none → c.w0.heap.size ≤ b := fun b hb => e3.lo n hn b (by obtain ⟨o, ho⟩ := Option.ne_none_iff_exists'.1 hb; rw [l2 b o ho]; simp)
  refine ⟨st.defers, st.size, st.env, st.below, st.calm, S, fun i => if i = n then f1 else if i = L.length then f2 else f i, e1, e2, ⟨e3.sub, fun i hi => ?_, fun i hi => ?_, fun i j hi hj hij => ?_, fun i hi b hb => ?_⟩, fun i D hD => ?_⟩
  all_goals try rw [List.length_append, List.length_set] at hi
  all_goals try rw [List.length_append, List.length_set] at hj
  all_goals try simp only [List.length_cons, List.length_nil] at hi
  all_goals try simp only [List.length_cons, List.length_nil] at hj
  · show (if i = n then f1 else if i = L.length then f2 else f i).sub w
    split
    · exact Hp.le_sub l1 (e3.subf n hn)
    · split
      · exact Hp.le_sub l2 (e3.subf n hn)
      · exact e3.subf i (by omega)
  · show Hp.dj S (if i = n then f1 else if i = L.length then f2 else f i)
    split
    · exact djl l1 (e3.dS n hn)
    · split
      · exact djl l2 (e3.dS n hn)
      · exact e3.dS i (by omega)
  · have k1 : ∀ m, m < L.length → m ≠ n → Hp.dj (f m) f1 := fun m hm hmn => djl l1 (e3.df m n hm hn hmn)
    have k2 : ∀ m, m < L.length → m ≠ n → Hp.dj (f m) f2 := fun m hm hmn => djl l2 (e3.df m n hm hn hmn)
    show Hp.dj (if i = n then f1 else if i = L.length then f2 else f i) (if j = n then f1 else if j = L.length then f2 else f j)
    by_cases hin : i = n
    · rw [if_pos hin, if_neg (by omega)]
      by_cases hjl : j = L.length
      · rw [if_pos hjl]; exact hd
      · rw [if_neg hjl]; exact Hp.dj_comm (k1 j (by omega) (by omega))
    · rw [if_neg hin]
      by_cases hil : i = L.length
      · rw [if_pos hil]
        by_cases hjn : j = n
        · rw [if_pos hjn]; exact Hp.dj_comm hd
        · rw [if_neg hjn, if_neg (by omega)]; exact Hp.dj_comm (k2 j (by omega) hjn)
      · rw [if_neg hil]
        by_cases hjn : j = n
        · rw [if_pos hjn]; exact k1 i (by omega) hin
        · rw [if_neg hjn]
          by_cases hjl : j = L.length
          · rw [if_pos hjl]; exact k2 i (by omega) hin
          · rw [if_neg hjl]; exact e3.df i j (by omega) (by omega) hij
  · replace hb : (if i = n then f1 else if i = L.length then f2 else f i) b ≠ none := hb
    split at hb
    · exact lo1 b hb
    · split at hb
      · exact lo2 b hb
      · exact e3.lo i (by omega) b hb
  · have hi := (List.getElem?_eq_some_iff.1 hD).1
    rw [List.length_append, List.length_set] at hi
    simp only [List.length_cons, List.length_nil] at hi
    show D.P S (if i = n then f1 else if i = L.length then f2 else f i)
    by_cases hil : i = L.length
    · subst hil
      rw [List.getElem?_append_right (by rw [List.length_set]; omega), List.length_set, Nat.sub_self] at hD
      simp at hD; subst hD
      rw [if_neg (by omega), if_pos rfl]; exact hB
    · rw [List.getElem?_append_left (by rw [List.length_set]; omega)] at hD
      by_cases hin : i = n
      · subst hin
        rw [List.getElem?_set_self hn] at hD
        cases hD
        rw [if_pos rfl]; exact hC
      · rw [List.getElem?_set_ne (Ne.symm hin)] at hD
        rw [if_neg hin, if_neg hil]; exact e4 i D hD
/-- rows but for the one at q -/
structure RowsX {α : Type} (q : Nat) (es e : TypeId) (t : TR α) (v : Value) (vs : List Value) (d : List (List α)) (S f : Hp) : Prop where
  sp : ownAt es 1 f v vs.length vs
  len : vs.length = d.length
  one : (rowv vs q).oneCell' = true
  row : ∀ i r, i ≠ q → d[i]? = some r → ∃ xs, ownAt e t.size f (rowv vs i) r.length xs ∧ reps t S xs r
  ap : ∀ i j, i ≠ q → j ≠ q → i < d.length → j < d.length → i ≠ j → ∀ b, Bl (rowv vs i) b → ¬ Bl (rowv vs j) b
  as : ∀ i, i ≠ q → i < d.length → ∀ b, Bl (rowv vs i) b → ¬ Bl v b
def own2x {α : Type} (q : Nat) (es e : TypeId) (t : TR α) (v : Value) (vs : List Value) (d : List (List α)) : It :=
  ⟨fun S f => RowsX q es e t v vs d S f, fun l h => ⟨h.sp, h.len, h.one, fun i r hi hr => let ⟨xs, a, b⟩ := h.row i r hi hr; ⟨xs, a, reps_mono l b⟩, h.ap, h.as⟩⟩
theorem St.takeRow {c : Cx} {env : Env} {L : List It} {a : Act} {w : World} {α : Type} {es e : TypeId} {t : TR α} {v : Value} {vs : List Value} {d : List (List α)} {q : Nat} {r : List α} (n : Nat) (hA : L[n]? = some (own2 es e t v vs d)) (hr : d[q]? = some r) (st : St c env L a w) :
    St c env (L.set n (own2x q es e t v vs d) ++ [own e t (rowv vs q) r]) a w :=
  st.split2 n hA fun S f k => by
    replace k : Rows es e t v vs d S f := k
    obtain ⟨xs, k1, k2⟩ := k.row q r hr
    have hq := (List.getElem?_eq_some_iff.1 hr).1
    refine ⟨fun b => @ite _ (Bl (rowv vs q) b) (Classical.propDecidable _) none (f b), fun b => @ite _ (Bl (rowv vs q) b) (Classical.propDecidable _) (f b) none, fun b o h => ?_, fun b o h => ?_, fun b => ?_, ⟨?_, k.len, ownAt_cell k1, fun i r' hi hr' => ?_, fun i j hi hj => k.ap i j, fun i hi => k.as i⟩, ⟨xs, ?_, k2⟩⟩
    · by_cases hb : Bl (rowv vs q) b
      · simp only [hb, if_true] at h; cases h
      · simpa only [hb, if_false] using h
    · by_cases hb : Bl (rowv vs q) b
      · simpa only [hb, if_true] using h
      · simp only [hb, if_false] at h; cases h
    · by_cases hb : Bl (rowv vs q) b
      · left; simp only [hb, if_true]
      · right; simp only [hb, if_false]
    · refine ownAt_at (fun b hb _ => ?_) k.sp
      have : ¬ Bl (rowv vs q) b := fun h => k.as q hq b h hb
      simp only [this, if_false]
    · obtain ⟨zs, z1, z2⟩ := k.row i r' hr'
      refine ⟨zs, ownAt_at (fun b hb _ => ?_) z1, z2⟩
      have : ¬ Bl (rowv vs q) b := k.ap i q (List.getElem?_eq_some_iff.1 hr').1 hq hi b hb
      simp only [this, if_false]
    · refine ownAt_at (fun b hb _ => ?_) k1
      simp only [hb, if_true]
section
variable {md : Md} {P : Program} {ops : Array Oper} {Q : Exit → Act → World → Prop} {c : Cx} {rest : List Oper} {env : Env} {L : List It}
variable {d : Nat} {ty : TypeId} {pos : String} {af : Array Edge} {g : Option (Nat × Bool)}
variable {α : Type} {es e : TypeId} {t : TR α} {v : Value} {vs : List Value} {l : List (List α)} {q : Nat}
theorem RL.idxRX {x y : Operand} {T E : TypeId} {kd : IntKind} {i : Int} {ag : Bool} (n : Nat) (hT : P.underlying T = some (.slice E)) (hE : Ln P E 1 ag) (hg : wanted ops env g = some true) (hd : Slot c d)
    (hx : opv env x = some v) (hy : opv env y = some (.int kd i)) (hA : L[n]? = some (own2x q es e t v vs l)) (h0 : 0 ≤ i) (h1 : i < l.length)
    (k : RL md P ops Q c rest (put env d (adr v (i.toNat * 1))) L) : RL md P ops Q c (⟨some d, .indexAddr T x y, ty, pos, af, g⟩ :: rest) env L :=
  RL.val hg hd (fun S f a w st => by
    have h := st.has hA
    rw [← RowsX.len h] at h1
    obtain ⟨ad, cap, rfl, _, _, h2⟩ := slAt_of_own (RowsX.sp h)
    rcases h2 with ⟨h2, _⟩ | ⟨b, off, C, ty, fz, rfl, _⟩
    · omega
    · simp [execOp, opv_ok st.env hx, opv_ok st.env hy, Instr.indexAt, asIntOf, run_underlying hT, h0, h1, run_sizeOf hE, adr]) k
/-- a row of the call's own goes into the place that was left -/
theorem RL.stSpX {u : Value} {x y : Operand} {T : TypeId} {i : Nat} {row r0 : List α} (n m : Nat) (hnm : n ≠ m) (hE : Ln P T 1 false) (hq : c.still = false) (hg : wanted ops env g = some true)
    (hx : opv env x = some (adr v (i * 1))) (hy : opv env y = some u) (hA : L[n]? = some (own2x i es e t v vs l)) (hB : L[m]? = some (own e t u row)) (hi : l[i]? = some r0)
    (k : RL .plain P ops Q c rest env (((L.set n (both (own2x i es e t v vs l) (own e t u row))).set m gone).set n (own2 es e t v (vs.set i u) (l.set i row)))) : RL .plain P ops Q c (⟨none, .store T x y, ty, pos, af, g⟩ :: rest) env L := by
  intro a w st0
  have st := st0.merge n m hnm hA hB
  have hA' : ((L.set n (both (own2x i es e t v vs l) (own e t u row))).set m gone)[n]? = some (both (own2x i es e t v vs l) (own e t u row)) := by
    rw [List.getElem?_set_ne (Ne.symm hnm), List.getElem?_set_self (List.getElem?_eq_some_iff.1 hA).1]
  generalize (L.set n (both (own2x i es e t v vs l) (own e t u row))).set m gone = L' at *
  obtain ⟨S, f, hS0, hS1, h3, h4⟩ := st.heap
  have hn := (List.getElem?_eq_some_iff.1 hA').1
  obtain ⟨f1, f2, hf, hdj, hR, ⟨ys, hu1, hu2⟩⟩ := h4 n _ hA'
  replace hR : RowsX i es e t v vs l S f1 := hR
  have hil : i < l.length := (List.getElem?_eq_some_iff.1 hi).1
  have hiv : i < vs.length := by rw [hR.len]; exact hil
  have hcells : ∀ z ∈ vs, z.oneCell' = true := fun z hz => by
    obtain ⟨q, hq1, hq2⟩ := List.mem_iff_getElem.1 hz
    have hql : q < l.length := by rw [← hR.len]; exact hq1
    have : (rowv vs q).oneCell' = true := by
      by_cases hqi : q = i
      · rw [hqi]; exact hR.one
      · obtain ⟨zs, z1, _⟩ := hR.row q _ hqi (List.getElem?_eq_getElem hql)
        exact ownAt_cell z1
    unfold rowv at this
    rw [List.getD_eq_getElem?_getD, List.getElem?_eq_getElem hq1] at this
    rw [← hq2]; exact this
  have hf1 : Hp.sub f1 w := Hp.le_sub (Hp.le_cup_left f1 f2) (by rw [← hf]; exact h3.subf n hn)
  have hucell := ownAt_cell hu1
  have hucs : u.cells.toList = [u] := by
    cases u <;> first | rfl | (simp [Value.oneCell'] at hucell)
  obtain ⟨b, C, xs', hbl, hun, hfb, hadr, hrun, hwb, hwb', hnew, hrep⟩ := store_core (P := P) (t := TR.raw) (r := TR.raw) (S := S) (i := i) (off := 0) (e0 := vs[i]) (e1 := u) (e' := u) hE hf1 (by simpa [TR.raw] using hR.sp) (reps_raw hcells) (List.getElem?_eq_getElem hiv) Upd.self hucs ⟨rfl, hucell⟩
  have hxs := reps_raw_eq hrep
  subst hxs
  have hx' : opv env x = some (.pointer (some ⟨b, i * TR.raw.size + 0, none⟩)) := by rw [← hadr]; exact hx
  have hval : (execOp a.eval ⟨none, .store T x y, ty, pos, af, g⟩).run P w = .ok .skip (w.setRow b C) := by
    simp only [execOp, opv_ok st.env hx', opv_ok st.env hy, Sem.run_bind, hrun]; rfl
  refine wpl_skip (wanted_ok (o := ⟨none, .store T x y, ty, pos, af, g⟩) st.env hg) hval (k _ _ ?_)
  have hf2b : f2 b = none := by
    rcases hdj b with h | h
    · exact absurd h hfb
    · exact h
  refine st.upd (S := S) (f := f) (by simpa [Act.put] using st.defers) (by simpa [Act.put] using st.size) (by simpa [Act.put] using st.env) hS0 hS1 h3 h4 n _ (fun b' => if b' = b then some (.cells C es (0, 0)) else f n b') hn hq rfl rfl rfl (by simp)
    (fun b' o ho' => ?_) (fun b' hb' => ?_) (fun b' _ hb' => setRow_other w b b' _ (fun e => by subst e; rw [hf] at hb'; exact hfb (by simp [Hp.cup] at hb'; exact hb'.1))) ?_
  · dsimp only at ho'
    by_cases hbb : b' = b
    · subst hbb; rw [if_pos rfl] at ho'; cases ho'; exact hwb'
    · rw [if_neg hbb] at ho'
      rw [setRow_other w b b' _ hbb]
      exact h3.subf n hn b' o ho'
  · by_cases hbb : b' = b
    · subst hbb; left; rw [hf]
      intro hh; simp [Hp.cup] at hh; exact hfb hh.1
    · left; simpa [hbb] using hb'
  · have hat1 : ∀ b', b' ≠ b → f1 b' ≠ none → (if b' = b then some (Obj.cells C es (0, 0)) else f n b') = f1 b' := fun b' h1 h2 => by
      rw [if_neg h1, hf]
      cases hc : f1 b' with
      | none => exact absurd hc h2
      | some o => simp [Hp.cup, hc]
    have hat2 : ∀ b', f2 b' ≠ none → (if b' = b then some (Obj.cells C es (0, 0)) else f n b') = f2 b' := fun b' h2 => by
      rw [if_neg (fun h => h2 (by rw [h]; exact hf2b)), hf]
      rcases hdj b' with h | h
      · simp [Hp.cup, h]
      · exact absurd h h2
    refine ⟨by simpa [TR.raw] using hnew _ (if_pos rfl), by simpa using hR.len, ?_, ?_, ?_⟩
    · intro q r hq
      rw [rowv_set hiv]
      by_cases hqi : q = i
      · subst hqi
        rw [List.getElem?_set_self hil] at hq
        cases hq
        rw [if_pos rfl]
        exact ⟨ys, ownAt_at (fun b' _ h2 => hat2 b' h2) hu1, hu2⟩
      · rw [List.getElem?_set_ne (Ne.symm hqi)] at hq
        rw [if_neg hqi]
        obtain ⟨zs, z1, z2⟩ := hR.row q r hqi hq
        exact ⟨zs, ownAt_at (fun b' h1 h2 => hat1 b' (fun hh => hR.as q hqi (List.getElem?_eq_some_iff.1 hq).1 b (by rw [← hh]; exact h1) hbl) h2) z1, z2⟩
    · intro p q hp hq hpq b' h1 h2
      rw [List.length_set] at hp hq
      rw [rowv_set hiv] at h1 h2
      have key : ∀ q, q ≠ i → q < l.length → Bl u b' → Bl (rowv vs q) b' → False := fun q hqi hq k1 k2 => by
        have g2 := ownAt_has hu1 k1
        obtain ⟨zs, z1, _⟩ := hR.row q _ hqi (List.getElem?_eq_getElem hq)
        have g1 := ownAt_has z1 k2
        rcases hdj b' with h | h
        · exact g1 h
        · exact g2 h
      by_cases hpi : p = i
      · rw [if_pos hpi] at h1
        rw [if_neg (by omega)] at h2
        exact key q (by omega) hq h1 h2
      · rw [if_neg hpi] at h1
        by_cases hqi : q = i
        · rw [if_pos hqi] at h2; exact key p hpi hp h2 h1
        · rw [if_neg hqi] at h2; exact hR.ap p q hpi hqi hp hq hpq b' h1 h2
    · intro p hp b' h1 h2
      rw [List.length_set] at hp
      rw [rowv_set hiv] at h1
      by_cases hpi : p = i
      · rw [if_pos hpi] at h1
        have g2 := ownAt_has hu1 h1
        have g1 := ownAt_has hR.sp h2
        rcases hdj b' with h | h
        · exact g1 h
        · exact g2 h
      · rw [if_neg hpi] at h1
        exact hR.as p hpi hp b' h1 h2
end
end Go.Fw
