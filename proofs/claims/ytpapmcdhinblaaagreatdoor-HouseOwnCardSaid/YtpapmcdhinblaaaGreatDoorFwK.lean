/- Equality of arrays and structs, by what they read as. No program in sight. -/
import Derived.Test.YtpapmcdhinblaaaGreatDoorFwI
import Derived.ChangeKeysEq
set_option linter.all false
namespace Go.Fw
open Go.RowKit
theorem run_part {P : Program} {E : TypeId} {sz : Nat} {ag : Bool} (l : Ln P E sz ag) (w : World) (xs : Array Value) (off : Nat) (a c b : List Value) (hx : xs.toList = a ++ c ++ b) (ha : a.length = off) (hc : c.length = sz) (h1 : ag = false → sz = 1) :
    (part E xs off).run P w = .ok (mkv ag c) w := by
  unfold part
  simp only [Sem.run_bind, run_isAgg l, Result.andThen_ok]
  cases ag with
  | true =>
    simp only [if_true, Sem.run_bind, run_sizeOf l, Result.andThen_ok, Sem.run_pure]
    congr 1
    show Value.agg _ = Value.agg _
    congr 1
    apply Array.toList_inj.1
    rw [Array.toList_extract, hx]
    simp only [List.extract_eq_take_drop]
    rw [List.append_assoc, List.drop_left' ha, Nat.add_sub_cancel_left, List.take_left' hc]
  | false =>
    have h1' := h1 rfl
    match c, hc with
    | [u], hc =>
      have : xs[off]? = some u := by
        rw [← Array.getElem?_toList, hx, List.append_assoc, List.getElem?_append_right (by omega), ha]; simp
      simp only [Bool.false_eq_true, if_false, this]; rfl
    | [], hc => simp at hc; omega
    | _ :: _ :: _, hc => simp at hc; omega
def EqT {α : Type} [DecidableEq α] (P : Program) (T : TypeId) (t : TR α) (k : Nat) : Prop :=
  ∀ n, k ≤ n → ∀ (h h' : Hp) (cs ds : List Value) (x y : α) (w : World), t.rep h cs x → t.rep h' ds y → (Op.equalIn n T (mkv t.agg cs) (mkv t.agg ds)).run P w = .ok (decide (x = y)) w
theorem EqT.int {P : Program} {T : TypeId} {k : IntKind} (hu : P.underlying T = some (.int k)) : EqT P T (TR.ik k) 1 := by
  intro n hn h h' cs ds x y w hx hy
  have hx' : cs = [.int k x] := hx
  have hy' : ds = [.int k y] := hy
  subst hx' hy'
  obtain ⟨m, rfl⟩ : ∃ m, n = m + 1 := ⟨n - 1, by omega⟩
  show (Op.equalIn (m + 1) T (.int k x) (.int k y)).run P w = _
  rw [run_equalIn_int w m T k k x y hu]; rfl
theorem EqT.bool {P : Program} {T : TypeId} (hu : P.underlying T = some .bool) : EqT P T TR.bool 1 := by
  intro n hn h h' cs ds x y w hx hy
  have hx' : cs = [.bool x] := hx
  have hy' : ds = [.bool y] := hy
  subst hx' hy'
  obtain ⟨m, rfl⟩ : ∃ m, n = m + 1 := ⟨n - 1, by omega⟩
  show (Op.equalIn (m + 1) T (.bool x) (.bool y)).run P w = _
  rw [run_equalIn_bool' w m T x y hu]; cases x <;> cases y <;> rfl
theorem EqT.str {P : Program} {T : TypeId} (hu : P.underlying T = some .string) : EqT P T TR.str 1 := by
  intro n hn h h' cs ds x y w hx hy
  have hx' : cs = [.string ⟨x.toArray⟩] := hx
  have hy' : ds = [.string ⟨y.toArray⟩] := hy
  subst hx' hy'
  obtain ⟨m, rfl⟩ : ∃ m, n = m + 1 := ⟨n - 1, by omega⟩
  show (Op.equalIn (m + 1) T (.string ⟨x.toArray⟩) (.string ⟨y.toArray⟩)).run P w = _
  rw [run_equalIn_string w m T _ _ hu, ByteArray.toList_eq, ByteArray.toList_eq]
  simp only [List.toArray, Array.toList]
  congr 1
  by_cases e : x = y
  · subst e; simp
  · rw [decide_eq_false e, beq_eq_false_iff_ne]; exact e
theorem run_eqItems {α : Type} [DecidableEq α] {P : Program} {E : TypeId} {t : TR α} {k : Nat} (hE : EqT P E t k) (hl : Ln P E t.size t.agg) {n : Nat} (hn : k ≤ n) {h h' : Hp} (w : World) (xs ys : Array Value) :
    ∀ (l m : List α) (j : Nat) (a b cs ds : List Value), l.length = m.length → xs.toList = a ++ cs → ys.toList = b ++ ds → a.length = j * t.size → b.length = j * t.size → reps t h cs l → reps t h' ds m →
      (Op.eqItems n E t.size xs ys (List.range' j l.length)).run P w = .ok (decide (l = m)) w
  | [], m, j, a, b, cs, ds, hlm, _, _, _, _, _, _ => by
    have : m = [] := List.eq_nil_of_length_eq_zero hlm.symm
    subst this
    simp [Op.eqItems]
  | x :: l, [], j, a, b, cs, ds, hlm, _, _, _, _, _, _ => by simp at hlm
  | x :: l, y :: m, j, a, b, cs, ds, hlm, hx, hy, ha, hb, r, s => by
    obtain ⟨c, q, rfl, r1, r2⟩ := r
    obtain ⟨d, p, rfl, s1, s2⟩ := s
    have ec := run_part hl w xs (j * t.size) a c q (by rw [hx]; simp) ha (t.len r1) t.one
    have ed := run_part hl w ys (j * t.size) b d p (by rw [hy]; simp) hb (t.len s1) t.one
    have ee := hE n hn h h' c d x y w r1 s1
    have ih := run_eqItems hE hl hn w xs ys l m (j + 1) (a ++ c) (b ++ d) q p (by simpa using hlm) (by rw [hx]; simp) (by rw [hy]; simp) (by rw [List.length_append, ha, t.len r1, Nat.add_mul]; omega) (by rw [List.length_append, hb, t.len s1, Nat.add_mul]; omega) r2 s2
    rw [List.length_cons, List.range'_succ]
    simp only [Op.eqItems, Sem.run_bind, ec, ed, ee, Result.andThen_ok]
    by_cases e : x = y
    · subst e
      simp only [decide_true, Bool.not_true, Bool.false_eq_true, if_false, ih]
      congr 1
      simp
    · simp [e]
theorem EqT.arr {α : Type} [DecidableEq α] {P : Program} {T E : TypeId} {n k : Nat} {t : TR α} (hu : P.underlying T = some (.array n E)) (hl : Ln P E t.size t.agg) (hE : EqT P E t k) (hc : P.cellsOf E = t.size) : EqT P T (TR.arr n t) (k + 1) := by
  intro m hm h h' cs ds x y w hx hy
  obtain ⟨d, rfl⟩ : ∃ d, m = d + 1 := ⟨m - 1, by omega⟩
  obtain ⟨i, _, hi, _⟩ := hl.ex
  show (Op.equalIn (d + 1) T (.agg cs.toArray) (.agg ds.toArray)).run P w = _
  rw [run_equalIn_array w d cs.toArray ds.toArray hu hi, hc, List.range_eq_range']
  have := run_eqItems hE hl (n := d) (by omega) w cs.toArray ds.toArray x y 0 [] [] cs ds (by rw [hx.1, hy.1]) (by simp) (by simp) (by simp) (by simp) hx.2 hy.2
  rw [hx.1] at this
  exact this
def EqF {α : Type} [DecidableEq α] (P : Program) (fs : List Field) (off : Nat) (t : TR α) (k : Nat) : Prop :=
  ∀ n, k ≤ n → ∀ (h h' : Hp) (xs ys : Array Value) (a b cs ds : List Value) (x y : α) (w : World), xs.toList = a ++ cs → ys.toList = b ++ ds → a.length = off → b.length = off → t.rep h cs x → t.rep h' ds y → (Op.eqFields n xs ys fs).run P w = .ok (decide (x = y)) w
theorem EqF.last {α : Type} [DecidableEq α] {P : Program} {f : Field} {off k : Nat} {t : TR α} (hn : f.name ≠ "_") (ho : f.offset = off) (hl : Ln P f.type t.size t.agg) (hE : EqT P f.type t k) : EqF P [f] off t k := by
  intro n hk h h' xs ys a b cs ds x y w hx hy ha hb rx ry
  have ec := run_part hl w xs f.offset a cs [] (by rw [hx]; simp) (by rw [ha, ho]) (t.len rx) t.one
  have ed := run_part hl w ys f.offset b ds [] (by rw [hy]; simp) (by rw [hb, ho]) (t.len ry) t.one
  simp only [Op.eqFields, hn, ne_eq, not_false_eq_true, if_true, Sem.run_bind, ec, ed, hE n hk h h' cs ds x y w rx ry, Result.andThen_ok]
  by_cases e : x = y <;> simp [e]
theorem EqF.cons {α β : Type} [DecidableEq α] [DecidableEq β] {P : Program} {f : Field} {fs : List Field} {off k : Nat} {t : TR α} {r : TR β} (hn : f.name ≠ "_") (ho : f.offset = off) (hl : Ln P f.type t.size t.agg) (hE : EqT P f.type t k) (hr : EqF P fs (off + t.size) r k) : EqF P (f :: fs) off (t.pair r) k := by
  intro n hk h h' xs ys a b cs ds x y w hx hy ha hb rx ry
  obtain ⟨c1, c2, rfl, x1, x2⟩ := rx
  obtain ⟨d1, d2, rfl, y1, y2⟩ := ry
  have ec := run_part hl w xs f.offset a c1 c2 (by rw [hx]; simp) (by rw [ha, ho]) (t.len x1) t.one
  have ed := run_part hl w ys f.offset b d1 d2 (by rw [hy]; simp) (by rw [hb, ho]) (t.len y1) t.one
  have ih := hr n hk h h' xs ys (a ++ c1) (b ++ d1) c2 d2 x.2 y.2 w (by rw [hx]; simp) (by rw [hy]; simp) (by rw [List.length_append, ha, t.len x1]) (by rw [List.length_append, hb, t.len y1]) x2 y2
  simp only [Op.eqFields, hn, ne_eq, not_false_eq_true, if_true, Sem.run_bind, ec, ed, hE n hk h h' c1 d1 x.1 y.1 w x1 y1, Result.andThen_ok]
  by_cases e : x.1 = y.1
  · simp only [e, decide_true, Bool.not_true, Bool.false_eq_true, if_false, ih]
    congr 1
    by_cases e2 : x.2 = y.2
    · rw [decide_eq_true e2, decide_eq_true (Prod.ext e e2)]
    · rw [decide_eq_false e2, decide_eq_false (fun h => e2 (by rw [h]))]
  · simp only [e, decide_false, Bool.not_false, if_true, Sem.run_pure]
    rw [decide_eq_false (fun h => e (by rw [h]))]
theorem EqT.struct {α : Type} [DecidableEq α] {P : Program} {T : TypeId} {fs : Array Field} {t : TR α} {k : Nat} (hu : P.underlying T = some (.struct fs)) (hs : P.stoodInHeld T = false) (hag : t.agg = true) (hF : EqF P fs.toList 0 t k) : EqT P T t (k + 1) := by
  intro m hm h h' cs ds x y w hx hy
  obtain ⟨d, rfl⟩ : ∃ d, m = d + 1 := ⟨m - 1, by omega⟩
  have hf : P.fieldsOf T = fs := by unfold Program.fieldsOf; rw [hu]
  rw [hag]
  show (Op.equalIn (d + 1) T (.agg cs.toArray) (.agg ds.toArray)).run P w = _
  rw [run_equalIn_agg w d T _ _ (by rw [hf]; exact hu) hs, hf]
  exact hF d (by omega) h h' cs.toArray ds.toArray [] [] cs ds x y w (by simp) (by simp) rfl rfl hx hy
section
variable {md : Md} {P : Program} {ops : Array Oper} {Q : Exit → Act → World → Prop} {c : Cx} {rest : List Oper} {env : Env} {L : List It}
variable {d : Nat} {ty : TypeId} {pos : String} {af : Array Edge} {g : Option (Nat × Bool)}
theorem RL.eqG {α : Type} [DecidableEq α] {t : TR α} {T T' : TypeId} {x y : Operand} {u u' : Value} {e e' : α} {k : Nat} (hag : t.agg = true) (hE : EqT P T t k) (hk : k ≤ 10000) (hgd : P.eqGuardType P.depth T = false) (hg : wanted ops env g = some true) (hd : Slot c d)
    (hx : opv env x = some u) (hy : opv env y = some u') (hu : VR t u e L) (hu' : VR t u' e' L) (k : RL md P ops Q c rest (put env d (.bool (decide (e = e')))) L) : RL md P ops Q c (⟨some d, .binOp .eql T x y T', ty, pos, af, g⟩ :: rest) env L :=
  RL.val hg hd (fun S f a w st => by
    obtain ⟨cs, rfl, r⟩ := hu S f st.its
    obtain ⟨ds, rfl, s⟩ := hu' S f st.its
    have h := hE 10000 hk S S cs ds e e' w r s
    rw [hag] at h
    simp only [mkv, if_true] at h
    simp [execOp, opv_ok st.env hx, opv_ok st.env hy, hag, mkv, run_eqGuard_agg w .eql T x y _ _ hgd, run_eql_struct, h]) k
theorem RL.neG {α : Type} [DecidableEq α] {t : TR α} {T T' : TypeId} {x y : Operand} {u u' : Value} {e e' : α} {k : Nat} (hag : t.agg = true) (hE : EqT P T t k) (hk : k ≤ 10000) (hgd : P.eqGuardType P.depth T = false) (hg : wanted ops env g = some true) (hd : Slot c d)
    (hx : opv env x = some u) (hy : opv env y = some u') (hu : VR t u e L) (hu' : VR t u' e' L) (k : RL md P ops Q c rest (put env d (.bool (!decide (e = e')))) L) : RL md P ops Q c (⟨some d, .binOp .neq T x y T', ty, pos, af, g⟩ :: rest) env L :=
  RL.val hg hd (fun S f a w st => by
    obtain ⟨cs, rfl, r⟩ := hu S f st.its
    obtain ⟨ds, rfl, s⟩ := hu' S f st.its
    have h := hE 10000 hk S S cs ds e e' w r s
    rw [hag] at h
    simp only [mkv, if_true] at h
    simp [execOp, opv_ok st.env hx, opv_ok st.env hy, hag, mkv, run_eqGuard_agg w .neq T x y _ _ hgd, run_neq_struct, h]) k
end
section
variable {md : Md} {P : Program} {ops : Array Oper} {Q : Exit → Act → World → Prop} {c : Cx} {rest : List Oper} {env : Env} {L : List It}
variable {d : Nat} {ty : TypeId} {pos : String} {af : Array Edge} {g : Option (Nat × Bool)}
end
theorem St.freezeB {c : Cx} {env : Env} {L : List It} {a : Act} {w : World} {α : Type} {e : TypeId} {t : TR α} {v : Value} {d : α} (n : Nat) (hA : L[n]? = some (obox e t v d)) (st : St c env L a w) : St c env (L.set n (imm t.ptr v d)) a w :=
  st.melt n hA fun S f dj ⟨b, cs, k1, k2, k3⟩ => ⟨[v], rfl, b, 0, cs.toArray, e, (0, 0), cs, by rw [k1], Hp.le_cup_right dj _ _ k2, t.mono (Hp.le_cup_left _ _) k3, fun j u hu => by simpa using hu⟩
theorem Ex.raw : Ex TR.raw (fun x => x) := fun _ cs e h => by rw [h.1]; rfl
def rdRes (tmps : Array Value) : ResultVar → Sem Value
  | .tmp t => pure (tmps.getD t undef)
  | .cell a t => do loadVar t (← asAddr (tmps.getD a undef))
def ResRun (P : Program) (tmps : Array Value) (w : World) : List ResultVar → List Value → Prop
  | [], [] => True
  | r :: rs, v :: vs => (rdRes tmps r).run P w = .ok v w ∧ ResRun P tmps w rs vs
  | _, _ => False
def tupv : List Value → Value
  | [v] => v
  | vs => .tuple vs.toArray
theorem run_mapM_res {P : Program} {tmps : Array Value} {w : World} : ∀ {rs : List ResultVar} {vs : List Value}, ResRun P tmps w rs vs → (rs.mapM (rdRes tmps)).run P w = .ok vs w
  | [], [], _ => by simp
  | r :: rs, v :: vs, ⟨h1, h2⟩ => by
    rw [List.mapM_cons]
    simp only [Sem.run_bind, h1, Result.andThen_ok, run_mapM_res h2, Sem.run_pure]
theorem results_run {P : Program} {fn : Func} {rs : List ResultVar} {vs : List Value} {tmps : Array Value} {w : World} (h : fn.results = rs.toArray) (hr : ResRun P tmps w rs vs) : (results fn tmps).run P w = .ok (tupv vs) w := by
  have e : results fn tmps = (rs.toArray.mapM (rdRes tmps) >>= fun vs => pure (if h : vs.size = 1 then vs[0] else .tuple vs)) := by
    unfold results
    rw [h]
    congr 1
  rw [e]
  have e2 : (rs.toArray.mapM (rdRes tmps)).run P w = .ok vs.toArray w := by
    have : rs.toArray.mapM (rdRes tmps) = (rs.mapM (rdRes tmps) >>= fun l => pure l.toArray) := by
      rw [List.mapM_toArray]; rfl
    rw [this]
    simp only [Sem.run_bind, run_mapM_res hr, Result.andThen_ok, Sem.run_pure]
  simp only [Sem.run_bind, e2, Result.andThen_ok, Sem.run_pure]
  match vs with
  | [] => rfl
  | [v] => rfl
  | _ :: _ :: _ => rfl
section
variable {P : Program} {fn : Func} {c : Cx} {env : Env} {L : List It}
theorem ResTmp {P : Program} {env : Env} {a : Act} {w : World} {t : Tmp} {v : Value} (he : EnvOk env a) (hv : look env t = some v) : (rdRes a.tmps (.tmp t)).run P w = .ok v w := by
  obtain ⟨h1, h2⟩ := Array.getElem?_eq_some_iff.1 (look_ok he hv)
  simp [rdRes, h1, h2]
theorem St.cellRes {P : Program} {a : Act} {w : World} {α : Type} {e : TypeId} {t : TR α} {v : Value} {d : α} {p : Tmp} {T : TypeId} (n : Nat) (hE : Ln P T t.size true) (hag : t.agg = true) (hA : L[n]? = some (obox e t v d)) (hv : look env p = some v) (st : St c env L a w) :
    ∃ u, (rdRes a.tmps (.cell p T)).run P w = .ok u w ∧ St c env (L ++ [imm t u d]) a w := by
  obtain ⟨S, f, h1, h2, h3, h4⟩ := st.heap
  have hn := (List.getElem?_eq_some_iff.1 hA).1
  obtain ⟨b, cs, e1, e2, e3⟩ := h4 n _ hA
  obtain ⟨q1, q2⟩ := Array.getElem?_eq_some_iff.1 (look_ok st.env hv)
  have hb := h3.subf n hn b _ e2
  have hl := t.len e3
  have hld : (loadCells ⟨b, 0, none⟩ t.size).run P w = .ok cs.toArray w := by
    rw [← hl]
    exact run_loadCells_list w ⟨b, 0, none⟩ cs (fun j u hu => by
      rw [add_mk, cell_of_row w b (0 + j) cs.toArray e (0, 0) hb]
      simpa using hu)
  refine ⟨.agg cs.toArray, ?_, ?_⟩
  · subst e1
    simp [rdRes, q1, q2, asAddr, loadVar, run_isAgg hE, run_sizeOf hE, hld]
  · refine ⟨st.defers, st.size, st.env, st.below, st.calm, S, fcat f L.length fun _ => Hp.emp, h1, h2, ?_, h4.cat (Hp.le_refl S) fun i A hA => ?_⟩
    · rw [List.length_append]; exact h3.emp st.below.size _
    · match i, hA with
      | 0, hA => simp at hA; subst hA; exact ⟨cs, by simp [mkv, hag], e3⟩
theorem Gx.retX {R : Ending → World → Prop} (rs : List ResultVar) (hr : fn.results = rs.toArray) (h : ∀ a w, St c env L a w → ∃ vs, ResRun P a.tmps w rs vs ∧ R (.returned (tupv vs)) w) (hd : c.dfs = [] := by rfl) : Gx (bodyPost P fn R) c .ret env L := fun a w st => by
  obtain ⟨vs, h1, h2⟩ := h a w st
  exact ⟨st.defers.trans hd, tupv vs, results_run hr h1, h2⟩
end
section
variable {md : Md} {P : Program} {ops : Array Oper} {Q : Exit → Act → World → Prop} {c : Cx} {rest : List Oper} {env : Env} {L : List It}
variable {d : Nat} {ty : TypeId} {pos : String} {af : Array Edge} {g : Option (Nat × Bool)}
variable {α : Type} {es e : TypeId} {t : TR α} {v : Value} {vs : List Value} {l : List (List α)} {q : Nat}
end
end Go.Fw
