/- Calls that are lent memory of the caller's own and give it back changed; slices.Delete. No program in sight. -/
import Derived.Test.YtfekdillbgblkaaFwH
set_option linter.all false
namespace Go.Fw
open Go.RowKit

/-- what a call comes to that was lent items: they are given back, changed -/
def PostM {O : Type} (B : World) (S : Hp) (V : O → Value) (LR : O → List It) : Ending → World → Prop := fun e w' =>
  ∃ o, e = .returned (V o) ∧ Below B.heap.size B w' ∧ ∃ S' g, Hp.le S S' ∧ (∀ b, S' b ≠ none → S b ≠ none ∨ B.heap.size ≤ b) ∧ HeapOk B.heap.size S' g (LR o).length w' ∧ Its (LR o) S' g
theorem St.toPostM {c : Cx} {env : Env} {a : Act} {w : World} {O : Type} {V : O → Value} {LR : O → List It} (o : O) (st : St c env (LR o) a w) : PostM c.w0 c.S0 V LR (.returned (V o)) w := by
  obtain ⟨S, f, e1, e2, e3, e4⟩ := st.heap
  exact ⟨o, rfl, st.below, S, f, e1, e2, e3, e4⟩
theorem calls_enterM {P : Program} {fid : FuncId} {fn : Func} {code : Code} (nt : Nat) (hf : P.funcs[fid]? = some fn) (hnt : fn.ntmps = nt) (hb : fn.body = some code) {args : Array Value} {w : World} {R : Ending → World → Prop} (B : World) (S : Hp) (f : Nat → Hp) (env : Env) (L L' : List It)
    (hn : Nat.ble args.size nt = true) (he : ArgsAre args env) (hB : Below B.heap.size B w) (hO : HeapOk B.heap.size S f L.length w) (hI : Its L S f) (hL : AllP S L')
    (h : GL P (bodyPost P fn R) ⟨B, S, nt, false, []⟩ [code] env (L ++ L')) : Calls P fid args w R := by
  refine calls_of_wp hf hb (Go.Code.wp_mono (fun e a w q => by cases e <;> exact q) (h _ w ?_))
  have hn' := Nat.le_of_ble_eq_true hn
  refine ⟨rfl, by simp [hnt]; omega, ?_, hB, (fun q => by cases q), S, fcat f L.length fun _ => Hp.emp, Hp.le_refl S, fun b hb => .inl hb, ?_, hI.cat (Hp.le_refl S) (fun i A hA => hL.at i A hA)⟩
  · intro t v e
    have := he.look e
    obtain ⟨h1, h2⟩ := Array.getElem?_eq_some_iff.1 this
    simp only
    rw [Array.getElem?_append_left h1]
    exact this
  · rw [List.length_append]; exact hO.emp hB.size _

/-- memory that a callee leaves as it is -/
def keep (X : Hp) : It := ⟨fun _ f => f = X, fun _ h => h⟩
def goneAt (L : List It) (ns : List Nat) : List It := ns.foldl (fun L n => L.set n gone) L
theorem goneAt_length : ∀ (ns : List Nat) (L : List It), (goneAt L ns).length = L.length
  | [], _ => rfl
  | n :: ns, L => by show (goneAt (L.set n gone) ns).length = _; rw [goneAt_length ns, List.length_set]
theorem goneAt_out : ∀ (ns : List Nat) (L : List It) (i : Nat), i ∉ ns → (goneAt L ns)[i]? = L[i]?
  | [], _, _, _ => rfl
  | n :: ns, L, i, h => by
    show (goneAt (L.set n gone) ns)[i]? = _
    rw [goneAt_out ns _ i (fun h' => h (List.mem_cons_of_mem _ h')), List.getElem?_set_ne (fun e => h (by rw [e]; exact List.mem_cons_self))]
theorem goneAt_in : ∀ (ns : List Nat) (L : List It) (i : Nat) (A : It), ns.Nodup → i ∈ ns → (goneAt L ns)[i]? = some A → A = gone
  | n :: ns, L, i, A, hn, h, e => by
    replace e : (goneAt (L.set n gone) ns)[i]? = some A := e
    obtain ⟨h1, h2⟩ := List.nodup_cons.1 hn
    rcases List.mem_cons.1 h with rfl | h'
    · rw [goneAt_out ns _ i h1] at e
      rw [List.getElem?_set] at e
      simp at e
      exact e.2.symm
    · exact goneAt_in ns _ i A h2 h' e
/-- says it of whatever is readable -/
def Sure (A : It) (R : Hp → Prop) : Prop := ∀ S f, A.P S f → R S
theorem Sure.imm {α : Type} {t : TR α} {v : Value} {d : α} : Sure (imm t v d) (fun S => t.vrep S v d) := fun _ _ h => h
/-- some items are lent, all other memory is kept -/
theorem St.lendK {c : Cx} {env : Env} {L : List It} {a : Act} {w : World} (st : St c env L a w) (ns : List Nat) (hns : ns.Nodup) {Ls : List It} (hLs : ns.map (fun i => L[i]?) = Ls.map some) :
    ∃ (S : Hp) (f : Nat → Hp) (X : Hp), Hp.le c.S0 S ∧ (∀ b, S b ≠ none → c.S0 b ≠ none ∨ c.w0.heap.size ≤ b) ∧ HeapOk c.w0.heap.size S f L.length w ∧ Its L S f ∧
      (∀ i, i < L.length → i ∉ ns → Hp.le (f i) X) ∧ HeapOk c.w0.heap.size S (fun j => if j < ns.length then f (ns.getD j 0) else X) (Ls ++ [keep X]).length w ∧ Its (Ls ++ [keep X]) S (fun j => if j < ns.length then f (ns.getD j 0) else X) := by
  obtain ⟨S, f, e1, e2, e3, e4⟩ := st.heap
  have hlen : ns.length = Ls.length := by have := congrArg List.length hLs; simpa using this
  have key : ∀ j, j < ns.length → ns.getD j 0 < L.length ∧ L[ns.getD j 0]? = Ls[j]? ∧ ns.getD j 0 ∈ ns := by
    intro j hj
    have e := congrArg (fun l => l[j]?) hLs
    have hj' : j < Ls.length := by omega
    simp [List.getElem?_eq_getElem hj, List.getElem?_eq_getElem hj'] at e
    have hg : ns.getD j 0 = ns[j] := by simp [List.getD, List.getElem?_eq_getElem hj]
    rw [hg]
    exact ⟨(List.getElem?_eq_some_iff.1 e).1, by rw [e, List.getElem?_eq_getElem hj'], List.getElem_mem hj⟩
  have inj : ∀ i j, i < ns.length → j < ns.length → i ≠ j → ns.getD i 0 ≠ ns.getD j 0 := by
    intro i j hi hj hij e
    simp [List.getD, List.getElem?_eq_getElem hi, List.getElem?_eq_getElem hj] at e
    exact hij ((List.getElem_inj hns).1 e)
  let f' : Nat → Hp := fun i => if i ∈ ns then Hp.emp else f i
  have h' : HeapOk c.w0.heap.size Hp.emp f' L.length w := by
    refine ⟨Hp.sub_emp w, fun i hi => ?_, fun i hi => Hp.dj_comm (Hp.dj_emp _), fun i j hi hj hij => ?_, fun i hi b hb => ?_⟩
    · show (if i ∈ ns then Hp.emp else f i).sub w
      split
      · exact Hp.sub_emp w
      · exact e3.subf i hi
    · show Hp.dj (if i ∈ ns then Hp.emp else f i) (if j ∈ ns then Hp.emp else f j)
      split
      · exact Hp.dj_comm (Hp.dj_emp _)
      · split
        · exact Hp.dj_emp _
        · exact e3.df i j hi hj hij
    · replace hb : (if i ∈ ns then Hp.emp else f i) b ≠ none := hb
      split at hb
      · exact absurd rfl hb
      · exact e3.lo i hi b hb
  let X := cupAll Hp.emp f' L.length
  have hX : ∀ i, i < L.length → i ∉ ns → Hp.le (f i) X := fun i hi hin => by
    have := cupAll_at h' _ (Nat.le_refl _) i hi
    have e : f' i = f i := if_neg hin
    rw [e] at this; exact this
  have hXn : ∀ b, (∀ i, i < L.length → i ∉ ns → f i b = none) → X b = none := fun b hb => by
    refine cupAll_none _ rfl fun j hj => ?_
    show (if j ∈ ns then Hp.emp else f j) b = none
    split
    · rfl
    · rename_i h; exact hb j hj h
  refine ⟨S, f, X, e1, e2, e3, e4, hX, ⟨e3.sub, fun j hj => ?_, fun j hj => ?_, fun i j hi hj hij => ?_, fun j hj b hb => ?_⟩, fun j A hA => ?_⟩
  · show (if j < ns.length then f (ns.getD j 0) else X).sub w
    split
    · rename_i h; exact e3.subf _ (key j h).1
    · exact cupAll_sub h' _ (Nat.le_refl _)
  · show Hp.dj S (if j < ns.length then f (ns.getD j 0) else X)
    split
    · rename_i h; exact e3.dS _ (key j h).1
    · intro b
      by_cases hb : S b = none
      · exact .inl hb
      · exact .inr (hXn b fun i hi _ => (e3.dS i hi b).resolve_left hb)
  · have hXf : ∀ j, j < ns.length → Hp.dj (f (ns.getD j 0)) X := fun j hj b => by
      by_cases hb : f (ns.getD j 0) b = none
      · exact .inl hb
      · exact .inr (hXn b fun i hi hin => (e3.df _ i (key j hj).1 hi (fun e => hin (e ▸ (key j hj).2.2)) b).resolve_left hb)
    show Hp.dj (if i < ns.length then f (ns.getD i 0) else X) (if j < ns.length then f (ns.getD j 0) else X)
    simp only [List.length_append, List.length_cons, List.length_nil] at hi hj
    split
    · rename_i h
      split
      · rename_i h2; exact e3.df _ _ (key i h).1 (key j h2).1 (inj i j h h2 hij)
      · exact hXf i h
    · split
      · rename_i h2; exact Hp.dj_comm (hXf j h2)
      · omega
  · replace hb : (if j < ns.length then f (ns.getD j 0) else X) b ≠ none := hb
    split at hb
    · rename_i h; exact e3.lo _ (key j h).1 b hb
    · refine Classical.byContradiction fun hlt => hb (hXn b fun i hi _ => ?_)
      exact Classical.byContradiction fun h2 => hlt (e3.lo i hi b h2)
  · show A.P S (if j < ns.length then f (ns.getD j 0) else X)
    split
    · rename_i h
      rw [List.getElem?_append_left (by omega)] at hA
      exact e4 _ A (by rw [(key j h).2.1, hA])
    · rename_i h
      rw [List.getElem?_append_right (by omega)] at hA
      have hj0 : j - Ls.length = 0 := by
        have := (List.getElem?_eq_some_iff.1 hA).1
        simp at this; omega
      rw [hj0] at hA
      simp at hA
      subst hA
      rfl
theorem St.backK {c : Cx} {env env' : Env} {L LR : List It} {a a' : Act} {w w' : World} {S X S' : Hp} {f g : Nat → Hp} {ns : List Nat} (st : St c env L a w) (hns : ns.Nodup) (hq : c.still = false)
    (h1 : a'.defers = c.dfs) (h2 : a'.tmps.size = c.nt) (h3 : EnvOk env' a') (e1 : Hp.le c.S0 S) (e2 : ∀ b, S b ≠ none → c.S0 b ≠ none ∨ c.w0.heap.size ≤ b) (e3 : HeapOk c.w0.heap.size S f L.length w) (e4 : Its L S f)
    (hX : ∀ i, i < L.length → i ∉ ns → Hp.le (f i) X) (hb : Below c.w0.heap.size c.w0 w') (hS : Hp.le S S') (hS2 : ∀ b, S' b ≠ none → S b ≠ none ∨ c.w0.heap.size ≤ b) (hO : HeapOk c.w0.heap.size S' g (LR ++ [keep X]).length w') (hI : Its (LR ++ [keep X]) S' g) : St c env' (goneAt L ns ++ LR) a' w' := by
  have hgX : g LR.length = X := hI LR.length (keep X) (by simp)
  have hlen : (LR ++ [keep X]).length = LR.length + 1 := by simp
  let f' : Nat → Hp := fun i => if i ∈ ns then Hp.emp else f i
  have hf' : ∀ i, i < L.length → Hp.le (f' i) X := fun i hi => by
    show Hp.le (if i ∈ ns then Hp.emp else f i) X
    split
    · intro b o e; cases e
    · rename_i h; exact hX i hi h
  have djl : ∀ {x y z : Hp}, Hp.le x y → Hp.dj z y → Hp.dj z x := fun {x y z} hxy hzy b => by
    rcases hzy b with h | h
    · exact .inl h
    · right
      cases hx : x b with
      | none => rfl
      | some o => rw [hxy b o hx] at h; cases h
  have hXs : X.sub w' := hgX ▸ hO.subf LR.length (by omega)
  have hXS : Hp.dj S' X := hgX ▸ hO.dS LR.length (by omega)
  have hXg : ∀ j, j < LR.length → Hp.dj (g j) X := fun j hj => hgX ▸ hO.df j LR.length (by omega) (by omega) (by omega)
  refine ⟨h1, h2, h3, hb, (fun q => by rw [hq] at q; cases q), S', fun i => if i < L.length then f' i else g (i - L.length), Hp.le_trans e1 hS, fun b hb' => (hS2 b hb').elim (fun h => e2 b h) .inr, ⟨hO.sub, fun i hi => ?_, fun i hi => ?_, fun i j hi hj hij => ?_, fun i hi b hb' => ?_⟩, fun i B hB => ?_⟩
  all_goals try rw [List.length_append, goneAt_length] at hi
  all_goals try rw [List.length_append, goneAt_length] at hj
  · show (if i < L.length then f' i else g (i - L.length)).sub w'
    split
    · rename_i h; exact Hp.le_sub (hf' i h) hXs
    · exact hO.subf _ (by omega)
  · show Hp.dj S' (if i < L.length then f' i else g (i - L.length))
    split
    · rename_i h; exact djl (hf' i h) hXS
    · exact hO.dS _ (by omega)
  · show Hp.dj (if i < L.length then f' i else g (i - L.length)) (if j < L.length then f' j else g (j - L.length))
    split
    · rename_i h
      split
      · rename_i h'
        show Hp.dj (if i ∈ ns then Hp.emp else f i) (if j ∈ ns then Hp.emp else f j)
        split
        · exact Hp.dj_comm (Hp.dj_emp _)
        · split
          · exact Hp.dj_emp _
          · exact e3.df i j h h' hij
      · exact Hp.dj_comm (djl (hf' i h) (hXg _ (by omega)))
    · split
      · rename_i h'; exact djl (hf' j h') (hXg _ (by omega))
      · exact hO.df _ _ (by omega) (by omega) (by omega)
  · replace hb' : (if i < L.length then f' i else g (i - L.length)) b ≠ none := hb'
    split at hb'
    · rename_i h
      replace hb' : (if i ∈ ns then Hp.emp else f i) b ≠ none := hb'
      split at hb'
      · exact absurd rfl hb'
      · exact e3.lo i h b hb'
    · exact hO.lo _ (by omega) b hb'
  · show B.P S' (if i < L.length then f' i else g (i - L.length))
    split
    · rename_i h
      rw [List.getElem?_append_left (by rw [goneAt_length]; exact h)] at hB
      by_cases hin : i ∈ ns
      · rw [goneAt_in ns L i B hns hin hB]; trivial
      · rw [goneAt_out ns L i hin] at hB
        show B.P S' (if i ∈ ns then Hp.emp else f i)
        rw [if_neg hin]; exact B.mono hS (e4 i B hB)
    · rename_i h
      rw [List.getElem?_append_right (by rw [goneAt_length]; omega), goneAt_length] at hB
      exact hI _ B (by rw [List.getElem?_append_left (List.getElem?_eq_some_iff.1 hB).1]; exact hB)
/-- says the same in whatever heap -/
def Loc (A : It) : Prop := ∀ S S' f, A.P S f → A.P S' f
def TR.flatT {α : Type} (t : TR α) : Prop := ∀ h k cs d, t.rep h cs d → t.rep k cs d
theorem reps_flatT {α : Type} {t : TR α} (ht : t.flatT) {h k : Hp} : ∀ {l : List α} {xs : List Value}, reps t h xs l → reps t k xs l
  | [], _, r => r
  | _ :: _, _, ⟨c, q, e, r1, r2⟩ => ⟨c, q, e, ht _ _ _ _ r1, reps_flatT ht r2⟩
theorem Loc.own {α : Type} {e : TypeId} {t : TR α} {v : Value} {l : List α} (ht : t.flatT) : Loc (own e t v l) := fun _ _ _ ⟨xs, a, b⟩ => ⟨xs, a, reps_flatT ht b⟩
theorem Loc.obox {α : Type} {e : TypeId} {t : TR α} {v : Value} {d : α} (ht : t.flatT) : Loc (obox e t v d) := fun _ _ _ ⟨b, cs, a, c, r⟩ => ⟨b, cs, a, c, ht _ _ _ _ r⟩
theorem TR.flatT_ik {k : IntKind} : (TR.ik k).flatT := fun _ _ _ _ h => h
theorem TR.flatT_bool : TR.bool.flatT := fun _ _ _ _ h => h
theorem TR.flatT_str : TR.str.flatT := fun _ _ _ _ h => h
theorem TR.flatT_pair {α β : Type} {a : TR α} {b : TR β} (ha : a.flatT) (hb : b.flatT) : (a.pair b).flatT := fun _ _ _ _ ⟨c1, c2, e, h1, h2⟩ => ⟨c1, c2, e, ha _ _ _ _ h1, hb _ _ _ _ h2⟩
theorem TR.flatT_rec1 {α : Type} {a : TR α} (ha : a.flatT) : a.rec1.flatT := fun h k cs d r => ha h k cs d r
theorem TR.flatT_arr {α : Type} {n : Nat} {a : TR α} (ha : a.flatT) : (TR.arr n a).flatT := fun _ _ _ _ r => ⟨r.1, reps_flatT ha r.2⟩

section
variable {md : Md} {P : Program} {ops : Array Oper} {Q : Exit → Act → World → Prop} {c : Cx} {rest : List Oper} {env : Env} {L : List It}
variable {ty : TypeId} {pos : String} {af : Array Edge} {g : Option (Nat × Bool)}
theorem run_call' {dst : Option Nat} {x : Operand} {fid : FuncId} {cap : Array Value} {args : Array Operand} {vs : List Value} {ts : Array TypeId} {a : Act} (w : World) (hf : Fit P fid) (he : EnvOk env a) (hx : opv env x = some (.func (.func fid) #[] cap)) (ha : args.toList.map (opv env) = vs.map some) :
    (execOp a.eval ⟨dst, .call ⟨.value x, args, ts⟩, ty, pos, af, g⟩).run P w = .ok (.enter fid (vs.toArray ++ cap)) w := by
  simp [execOp, resolve, opv_ok he hx, Deferred.ofValue, invoke, args_ok he ha, run_callFunc hf]
theorem RL.callK {d : Nat} {O : Type} {V : O → Value} {LR : O → List It} {Ls : List It} (ns : List Nat) (hns : ns.Nodup) {x : Operand} {fid : FuncId} {cap : Array Value} {args : Array Operand} {vs : List Value} {ts : Array TypeId} (hf : Fit P fid) (hq : c.still = false) (hg : wanted ops env g = some true) (hd : Slot c d)
    (hx : opv env x = some (.func (.func fid) #[] cap)) (ha : args.toList.map (opv env) = vs.map some) (hLs : ns.map (fun i => L[i]?) = Ls.map some)
    (hc : ∀ S f X w, HeapOk c.w0.heap.size S f (Ls ++ [keep X]).length w → Below c.w0.heap.size c.w0 w → Hp.le c.S0 S → Its (Ls ++ [keep X]) S f → (∀ (i : Nat) (B : It) (R : Hp → Prop), L[i]? = some B → Sure B R → R S) → Calls P fid (vs.toArray ++ cap) w (PostM c.w0 S V (fun o => LR o ++ [keep X])))
    (k : ∀ o, RL .plain P ops Q c rest (put env d (V o)) (goneAt L ns ++ LR o)) : RL .plain P ops Q c (⟨some d, .call ⟨.value x, args, ts⟩, ty, pos, af, g⟩ :: rest) env L := by
  intro a w st
  unfold wpList
  rw [if_pos (wanted_ok (o := ⟨some d, .call ⟨.value x, args, ts⟩, ty, pos, af, g⟩) st.env hg)]
  left
  unfold Oper.wp
  rw [run_call' w hf st.env hx ha]
  obtain ⟨S, f, X, e1, e2, e3, e4, k1, k2, k3⟩ := st.lendK ns hns hLs
  refine (hc S _ X w k2 st.below e1 k3 (fun i B R hB hs => hs S (f i) (e4 i B hB))).mono ?_
  rintro e w' ⟨o, rfl, hb, S', g', hS, hS2, hO, hI⟩
  refine k o _ _ ?_
  have st' := st.put (V o) hd
  exact st.backK hns hq st'.defers st'.size st'.env e1 e2 e3 e4 k1 hb hS hS2 hO hI
theorem RL.callK0 {O : Type} {V : O → Value} {LR : O → List It} {Ls : List It} (ns : List Nat) (hns : ns.Nodup) {x : Operand} {fid : FuncId} {cap : Array Value} {args : Array Operand} {vs : List Value} {ts : Array TypeId} (hf : Fit P fid) (hq : c.still = false) (hg : wanted ops env g = some true)
    (hx : opv env x = some (.func (.func fid) #[] cap)) (ha : args.toList.map (opv env) = vs.map some) (hLs : ns.map (fun i => L[i]?) = Ls.map some)
    (hc : ∀ S f X w, HeapOk c.w0.heap.size S f (Ls ++ [keep X]).length w → Below c.w0.heap.size c.w0 w → Hp.le c.S0 S → Its (Ls ++ [keep X]) S f → (∀ (i : Nat) (B : It) (R : Hp → Prop), L[i]? = some B → Sure B R → R S) → Calls P fid (vs.toArray ++ cap) w (PostM c.w0 S V (fun o => LR o ++ [keep X])))
    (k : ∀ o, RL .plain P ops Q c rest env (goneAt L ns ++ LR o)) : RL .plain P ops Q c (⟨none, .call ⟨.value x, args, ts⟩, ty, pos, af, g⟩ :: rest) env L := by
  intro a w st
  unfold wpList
  rw [if_pos (wanted_ok (o := ⟨none, .call ⟨.value x, args, ts⟩, ty, pos, af, g⟩) st.env hg)]
  left
  unfold Oper.wp
  rw [run_call' w hf st.env hx ha]
  obtain ⟨S, f, X, e1, e2, e3, e4, k1, k2, k3⟩ := st.lendK ns hns hLs
  refine (hc S _ X w k2 st.below e1 k3 (fun i B R hB hs => hs S (f i) (e4 i B hB))).mono ?_
  rintro e w' ⟨o, rfl, hb, S', g', hS, hS2, hO, hI⟩
  refine k o _ _ ?_
  exact st.backK hns hq (by simpa [Act.put] using st.defers) (by simpa [Act.put] using st.size) (by simpa [Act.put] using st.env) e1 e2 e3 e4 k1 hb hS hS2 hO hI
def AllLoc : List It → Prop
  | [] => True
  | A :: r => Loc A ∧ AllLoc r
theorem AllLoc.at : ∀ {L : List It}, AllLoc L → ∀ (i : Nat) (A : It), L[i]? = some A → Loc A
  | [], _, _, _, e => by simp at e
  | B :: r, h, 0, A, e => by simp at e; subst e; exact h.1
  | B :: r, h, i + 1, A, e => AllLoc.at h.2 i A (by simpa using e)
/-- a call that makes memory, whose results say the same in whatever heap: all that is readable may be handed to it, what is owned stays owned -/
theorem RL.callU {d : Nat} {O : Type} {V : O → Value} {LR : O → List It} {x : Operand} {fid : FuncId} {cap : Array Value} {args : Array Operand} {vs : List Value} {ts : Array TypeId} (hl : ∀ o, AllLoc (LR o)) (hf : Fit P fid) (hq : c.still = false) (hg : wanted ops env g = some true) (hd : Slot c d)
    (hx : opv env x = some (.func (.func fid) #[] cap)) (ha : args.toList.map (opv env) = vs.map some)
    (hc : ∀ U w, U.sub w → Hp.le c.S0 U → (∀ (n : Nat) (A : It) (B : Hp → Prop), L[n]? = some A → Seen A B → B U) → Calls P fid (vs.toArray ++ cap) w (Post w U V LR))
    (k : ∀ o, RL .plain P ops Q c rest (put env d (V o)) (L ++ LR o)) : RL .plain P ops Q c (⟨some d, .call ⟨.value x, args, ts⟩, ty, pos, af, g⟩ :: rest) env L := by
  intro a w st
  unfold wpList
  rw [if_pos (wanted_ok (o := ⟨some d, .call ⟨.value x, args, ts⟩, ty, pos, af, g⟩) st.env hg)]
  left
  unfold Oper.wp
  rw [run_call' w hf st.env hx ha]
  obtain ⟨S, f, e1, e2, e3, e4⟩ := st.heap
  refine (hc (cupAll S f L.length) w (cupAll_sub e3 _ (Nat.le_refl _)) (Hp.le_trans e1 (cupAll_le _ _ _)) fun i A B hA hs => hs S _ _ (cupAll_le _ _ _) (cupAll_at e3 _ (Nat.le_refl _) i (List.getElem?_eq_some_iff.1 hA).1) (e4 i A hA)).mono ?_
  rintro e w' ⟨o, rfl, hb, S', h, k1, k2, k3, k4, k5, k6⟩
  refine k o _ _ ?_
  have st' := st.put (V o) hd
  have hSS : Hp.le S S' := Hp.le_trans (cupAll_le _ _ _) k1
  refine ⟨st'.defers, st'.size, st'.env, st.below.trans (hb.mono st.below.size), (fun q => by rw [hq] at q; cases q), S, fcat f L.length h, e1, e2, ?_, e4.cat (Hp.le_refl S) (fun i A hA => (hl o).at i A hA _ _ _ (k6 i A hA))⟩
  rw [List.length_append]
  refine e3.cat st.below.size (Hp.sub_grow e3.sub hb) (fun i hi => Hp.sub_grow (e3.subf i hi) hb) (fun b hb' => .inl hb') (fun i hi => ?_) k5
  obtain ⟨q1, q2, q3⟩ := k4 i hi
  refine ⟨q1, fun b => ?_, q3⟩
  by_cases hbS : S b = none
  · exact .inl hbS
  · right
    obtain ⟨y, hy⟩ := Option.ne_none_iff_exists'.1 hbS
    exact (q2 b).resolve_left (by rw [hSS b y hy]; simp)
end
theorem Gx.retN {P : Program} {fn : Func} {c : Cx} {env : Env} {L : List It} {R : Ending → World → Prop} {v : Value} (hr : ∀ a w, EnvOk env a → (results fn a.tmps).run P w = .ok v w) (h : ∀ a w, St c env L a w → R (.returned v) w) (hd : c.dfs = [] := by rfl) : Gx (bodyPost P fn R) c .normal env L := fun a w st => ⟨st.defers.trans hd, v, hr a w st.env, h a w st⟩
theorem res0 {P : Program} {fn : Func} {env : Env} (h : fn.results = #[]) (a : Act) (w : World) (_ : EnvOk env a) : (results fn a.tmps).run P w = .ok (.tuple #[]) w := by
  rw [results_none h]

theorem RL.reL {md : Md} {P : Program} {ops : Array Oper} {Q : Exit → Act → World → Prop} {c : Cx} {rest : List Oper} {env : Env} {L L' : List It} (h : L = L') (k : RL md P ops Q c rest env L') : RL md P ops Q c rest env L := by subst h; exact k

/-! ### parts of a slice of the call's own, as values -/
def capv : Value → Nat | .slice _ _ c => c | _ => 0
def relen (v : Value) (k : Nat) : Value := match v with | .slice a _ c => .slice a k c | _ => undef
def cutv (sz : Nat) (v : Value) (i j : Nat) : Value := match v with | .slice a _ c => .slice (if c = i then a else a.map (·.add (i * sz))) (j - i) (c - i) | _ => undef
theorem relen_self {e : TypeId} {size : Nat} {f : Hp} {v : Value} {n : Nat} {xs : List Value} (h : ownAt e size f v n xs) : relen v n = v := by
  rcases h.2 with ⟨rfl, rfl⟩ | ⟨b, cap, C, rfl, _⟩ <;> rfl
theorem ownAt_slice {e : TypeId} {size : Nat} {f : Hp} {v : Value} {n : Nat} {xs : List Value} (h : ownAt e size f v n xs) : ∃ a, v = .slice a n (capv v) ∧ n ≤ capv v ∧ capv v ≤ maxLen := by
  rcases h.2 with ⟨rfl, rfl⟩ | ⟨b, cap, C, rfl, _, h1, h2, _⟩
  · exact ⟨none, rfl, Nat.le_refl _, Nat.zero_le _⟩
  · exact ⟨_, rfl, h1, h2⟩
theorem GL.capO {P : Program} {Q : Exit → Act → World → Prop} {c : Cx} {r : List Code} {env : Env} {L : List It} {α : Type} {e : TypeId} {t : TR α} {v : Value} {l : List α} (n : Nat) (hA : L[n]? = some (own e t v l)) (k : l.length ≤ capv v → capv v ≤ maxLen → relen v l.length = v → (∀ q, capv (relen v q) = capv v) → GL P Q c r env L) : GL P Q c r env L := by
  intro a w st
  obtain ⟨S, f, _, _, xs, h, _⟩ := st.has hA
  obtain ⟨ad, h1, h2, h3⟩ := ownAt_slice h
  exact k h2 h3 (relen_self h) (fun q => by rw [h1]; rfl) a w st
section
variable {md : Md} {P : Program} {ops : Array Oper} {Q : Exit → Act → World → Prop} {c : Cx} {rest : List Oper} {env : Env} {L : List It}
variable {d : Nat} {ty : TypeId} {pos : String} {af : Array Edge} {g : Option (Nat × Bool)}
theorem RL.cutO {α : Type} {t : TR α} {l : List α} {v : Value} {x : Operand} {lo hi : Option Operand} {T E : TypeId} {sz e : Nat} {ag : Bool} {i j : Nat} (n : Nat) (hT : P.underlying T = some (.slice E)) (hE : Ln P E sz ag) (hg : wanted ops env g = some true) (hd : Slot c d)
    (hx : opv env x = some v) (hlo : (lo = none ∧ i = 0) ∨ ∃ y kd, lo = some y ∧ opv env y = some (.int kd i)) (hhi : (hi = none ∧ j = l.length) ∨ ∃ y kd, hi = some y ∧ opv env y = some (.int kd j))
    (hA : L[n]? = some (own e t v l)) (hij : i ≤ j) (hj : j ≤ capv v)
    (k : RL md P ops Q c rest (put env d (cutv sz v i j)) L) : RL md P ops Q c (⟨some d, .slice T x lo hi none, ty, pos, af, g⟩ :: rest) env L :=
  RL.val hg hd (fun S f a w st => by
    obtain ⟨xs, h, _⟩ := st.has hA
    obtain ⟨ad, hv, hc1, hc2⟩ := ownAt_slice h
    generalize hcap : capv v = cap at *
    subst hv
    have b1 : ∀ (z y : Nat) (kd : IntKind) (code : BoundsCode), z ≤ y → (Instr.sliceBound (.int kd z) y code).run P w = .ok z w := fun z y kd code h1 => by
      rw [run_sliceBound w kd z y code (by omega) (by omega)]; simp
    rcases hlo with ⟨rfl, rfl⟩ | ⟨y, kd, rfl, hy⟩ <;> rcases hhi with ⟨rfl, rfl⟩ | ⟨z, ke, rfl, hz⟩
    · simp [execOp, Instr.sliceAt, Instr.slice, run_underlying hT, opv_ok st.env hx, Instr.sliceBounds, run_sizeOf hE, cutv]
    · have q1 := b1 j cap ke .sliceAcap (by omega)
      simp [execOp, Instr.sliceAt, Instr.slice, run_underlying hT, opv_ok st.env hx, opv_ok st.env hz, Instr.sliceBounds, run_sizeOf hE, q1, cutv]
    · have q1 := b1 i l.length kd .sliceB (by omega)
      simp [execOp, Instr.sliceAt, Instr.slice, run_underlying hT, opv_ok st.env hx, opv_ok st.env hy, Instr.sliceBounds, run_sizeOf hE, q1, cutv]
    · have q1 := b1 j cap ke .sliceAcap (by omega)
      have q2 := b1 i j kd .sliceB (by omega)
      simp [execOp, Instr.sliceAt, Instr.slice, run_underlying hT, opv_ok st.env hx, opv_ok st.env hy, opv_ok st.env hz, Instr.sliceBounds, run_sizeOf hE, q1, q2, cutv]) k
/-- a cut with three bounds, whose value nobody reads -/
theorem RL.cut3 {α : Type} {t : TR α} {l : List α} {v : Value} {x y z q : Operand} {T E : TypeId} {sz e : Nat} {ag : Bool} {k1 k2 k3 : IntKind} {i j m : Nat} (n : Nat) (hT : P.underlying T = some (.slice E)) (hE : Ln P E sz ag) (hg : wanted ops env g = some true) (hd : Slot c d)
    (hx : opv env x = some v) (hy : opv env y = some (.int k1 i)) (hz : opv env z = some (.int k2 j)) (hq : opv env q = some (.int k3 m))
    (hA : L[n]? = some (own e t v l)) (hij : i ≤ j) (hj : j ≤ m) (hm : m ≤ l.length)
    (k : ∀ u, RL md P ops Q c rest (put env d u) L) : RL md P ops Q c (⟨some d, .slice T x (some y) (some z) (some q), ty, pos, af, g⟩ :: rest) env L :=
  RL.rd (X := fun _ Lx => Lx = []) hg hd (fun S f hi _ => by
    obtain ⟨xs, h, _⟩ := hi n _ hA
    obtain ⟨ad, hv, hc1, hc2⟩ := ownAt_slice h
    generalize hcap : capv v = cap at *
    subst hv
    refine ⟨.slice (if m = i then ad else ad.map (·.add (i * sz))) (j - i) (m - i), [], rfl, fun i A hA => by simp at hA, fun a w st => ?_⟩
    have b1 : ∀ (z y : Nat) (kd : IntKind) (code : BoundsCode), z ≤ y → (Instr.sliceBound (.int kd z) y code).run P w = .ok z w := fun z y kd code h1 => by
      rw [run_sliceBound w kd z y code (by omega) (by omega)]; simp
    have q1 := b1 m cap k3 .slice3Acap (by omega)
    have q2 := b1 j m k2 .slice3B (by omega)
    have q3 := b1 i j k1 .slice3C (by omega)
    simp [execOp, Instr.sliceAt, Instr.slice, run_underlying hT, opv_ok st.env hx, opv_ok st.env hy, opv_ok st.env hz, opv_ok st.env hq, Instr.sliceBounds, run_sizeOf hE, q1, q2, q3]) (by rintro u _ rfl; rw [List.append_nil]; exact k u)

/-- s[:i] and s[j:], the one put behind the other in the same place -/
theorem RL.del {α : Type} {t : TR α} {zc : List Value} {T E : TypeId} {x y : Operand} {v : Value} {l : List α} {i j : Nat} (n : Nat) (hT : P.underlying T = some (.slice E)) (hO : LnO P E t.size zc) (hq : c.still = false) (hg : wanted ops env g = some true) (hd : Slot c d)
    (hx : opv env x = some (cutv t.size v 0 i)) (hy : opv env y = some (cutv t.size v j l.length)) (hA : L[n]? = some (own E t v l)) (hij : i < j) (hj : j ≤ l.length)
    (k : RL .plain P ops Q c rest (put env d (relen v (i + (l.length - j)))) (L.set n (own E t (relen v (i + (l.length - j))) (l.take i ++ l.drop j)))) : RL .plain P ops Q c (⟨some d, .call ⟨.builtin .append, #[x, y], #[T, T]⟩, ty, pos, af, g⟩ :: rest) env L := by
  intro a w st
  obtain ⟨iT, zv, i1, i2, i3, i4, i5, i6, i7⟩ := hO.ex
  obtain ⟨S, f, hS0, hS1, h3, h4⟩ := st.heap
  have hn := (List.getElem?_eq_some_iff.1 hA).1
  obtain ⟨xs, ⟨hxl, hown⟩, hr⟩ := h4 n _ hA
  rcases hown with ⟨_, h0⟩ | ⟨b, cap, C, rfl, hb, hcap, hmax, hC, htk⟩
  · omega
  have hwb := h3.subf n hn b _ hb
  obtain ⟨p1, p2, rfl, hp1, hr1, hr2⟩ := reps_split i hr (by omega)
  obtain ⟨p3, p4, hp3, hp3l, hr3, hr4⟩ := reps_split j hr hj
  have hl4 : p4.length = (l.length - j) * t.size := by rw [reps_len hr4, List.length_drop]
  have hCl : C.toList = (p1 ++ p2) ++ C.toList.drop (l.length * t.size) := by rw [← htk]; exact (List.take_append_drop _ _).symm
  have hCl' : C.toList = p3 ++ (p4 ++ C.toList.drop (l.length * t.size)) := by rw [← List.append_assoc, ← hp3]; exact hCl
  have hcut0 : cutv t.size (.slice (some ⟨b, 0, none⟩) l.length cap) 0 i = .slice (some ⟨b, 0, none⟩) i cap := by
    simp [cutv, add_mk]
  have hcutj : ∃ ad, cutv t.size (.slice (some ⟨b, 0, none⟩) l.length cap) j l.length = .slice (some ad) (l.length - j) (cap - j) ∧ (0 < l.length - j → ad = ⟨b, j * t.size, none⟩) := by
    by_cases hcj : cap = j
    · exact ⟨⟨b, 0, none⟩, by simp [cutv, hcj], fun h => by omega⟩
    · exact ⟨⟨b, j * t.size, none⟩, by simp [cutv, hcj, add_mk], fun _ => rfl⟩
  obtain ⟨ad, hcutj, had⟩ := hcutj
  rw [hcut0] at hx
  rw [hcutj] at hy
  have hrl : relen (.slice (some ⟨b, 0, none⟩) l.length cap) (i + (l.length - j)) = .slice (some ⟨b, 0, none⟩) (i + (l.length - j)) cap := rfl
  rw [hrl] at k
  have hnews : ∀ q z, p4[q]? = some z → w.cell? (ad.add q) = some z := fun q z hz => by
    have hq4 := (List.getElem?_eq_some_iff.1 hz).1
    have hpos : 0 < l.length - j := by
      refine Nat.pos_of_ne_zero fun h => ?_
      rw [h] at hl4; omega
    rw [had hpos, add_mk, cell_of_row w b _ C E (0, 0) hwb, ← Array.getElem?_toList, hCl', List.getElem?_append_right (by omega), List.getElem?_append_left (by omega)]
    rw [show j * t.size + q - p3.length = q by omega]; exact hz
  have hfl : ∀ u ∈ p4, u.oneCell' = true := reps_flat hr4
  have hfit : i * t.size + p4.length ≤ C.size := by
    rw [hl4, hC, ← Nat.add_mul]; exact Nat.mul_le_mul_right _ (by omega)
  have hrun : (Builtin.append_ #[T, T] ty #[.slice (some ⟨b, 0, none⟩) i cap, .slice (some ad) (l.length - j) (cap - j)]).run P w = .ok (.slice (some ⟨b, 0, none⟩) (i + (l.length - j)) cap) (w.setRow b (C.toList.take (i * t.size) ++ p4 ++ C.toList.drop (i * t.size + p4.length)).toArray) := by
    have := run_append_room (P := P) w T ty E iT hT i1 b i cap C hwb ad (l.length - j) (cap - j) p4 (by rw [hl4, i2]) hnews hfl (by omega) (by rw [i2]; exact hfit)
    rw [i2] at this; exact this
  have hex : (execOp a.eval ⟨some d, .call ⟨.builtin .append, #[x, y], #[T, T]⟩, ty, pos, af, g⟩).run P w = .ok (.value (.slice (some ⟨b, 0, none⟩) (i + (l.length - j)) cap)) (w.setRow b (C.toList.take (i * t.size) ++ p4 ++ C.toList.drop (i * t.size + p4.length)).toArray) := by
    simp [execOp, resolve, invoke, builtin, opv_ok st.env hx, opv_ok st.env hy, hrun]
  refine wpl_val (wanted_ok (o := ⟨some d, .call ⟨.builtin .append, #[x, y], #[T, T]⟩, ty, pos, af, g⟩) st.env hg) hex (k _ _ ?_)
  have st' := st.put (.slice (some ⟨b, 0, none⟩) (i + (l.length - j)) cap) hd
  have t1 : C.toList.take (i * t.size) = p1 := by
    have e9 : C.toList = p1 ++ (p2 ++ C.toList.drop (l.length * t.size)) := by rw [← List.append_assoc]; exact hCl
    conv => lhs; rw [e9, ← hp1]
    exact List.take_left
  have hpl : (p1 ++ p4).length = (i + (l.length - j)) * t.size := by rw [List.length_append, hp1, hl4, Nat.add_mul]
  have hll : (l.take i ++ l.drop j).length = i + (l.length - j) := by rw [List.length_append, List.length_take, List.length_drop]; omega
  refine st.upd (S := S) (f := f) st'.defers st'.size st'.env hS0 hS1 h3 h4 n _ (Hp.one b (.cells (C.toList.take (i * t.size) ++ p4 ++ C.toList.drop (i * t.size + p4.length)).toArray E (0, 0))) hn hq rfl rfl rfl (by simp)
    (Hp.one_sub (setRow_heap w b C _ E _ hwb)) (fun b' hb' => by rw [Hp.one_ne hb']; left; rw [hb]; simp) (fun b' _ hb' => setRow_other w b b' _ (fun e => by subst e; rw [hb] at hb'; cases hb')) ?_
  refine ⟨p1 ++ p4, ⟨by rw [hll]; exact hpl, .inr ⟨b, cap, _, by rw [hll], Hp.one_self b _, by rw [hll]; omega, hmax, ?_, ?_⟩⟩, reps_append hr1 hr4⟩
  · have : C.size = C.toList.length := by simp
    simp only [List.size_toArray, List.length_append, List.length_take, List.length_drop, Array.length_toList]
    omega
  · rw [hll, ← hpl, t1]; exact List.take_left
/-- what lies behind the slice is cleared -/
theorem RL.clr {α : Type} {t : TR α} {zc : List Value} {T E : TypeId} {x : Operand} {v : Value} {l : List α} {j : Nat} (n : Nat) (hT : P.underlying T = some (.slice E)) (hO : LnO P E t.size zc) (hzf : ∀ u ∈ zc, u.oneCell' = true) (hq : c.still = false) (hg : wanted ops env g = some true)
    (hx : opv env x = some (cutv t.size v l.length j)) (hA : L[n]? = some (own E t v l)) (hij : l.length ≤ j) (hj : j ≤ capv v)
    (k : RL .plain P ops Q c rest env L) : RL .plain P ops Q c (⟨none, .call ⟨.builtin .clear, #[x], #[T]⟩, ty, pos, af, g⟩ :: rest) env L := by
  intro a w st
  obtain ⟨iT, zv, i1, i2, i3, i4, i5, i6, i7⟩ := hO.ex
  obtain ⟨S, f, hS0, hS1, h3, h4⟩ := st.heap
  have hn := (List.getElem?_eq_some_iff.1 hA).1
  obtain ⟨xs, ⟨hxl, hown⟩, hr⟩ := h4 n _ hA
  have nothing : ∀ v0, cutv t.size v l.length j = v0 → (∃ a0 c0, v0 = .slice a0 0 c0) ∨ (∃ c0, v0 = .slice none 0 c0) → wpList P ops Q (⟨none, .call ⟨.builtin .clear, #[x], #[T]⟩, ty, pos, af, g⟩ :: rest) a w := by
    intro v0 hv0 hh
    rw [hv0] at hx
    have hex : (execOp a.eval ⟨none, .call ⟨.builtin .clear, #[x], #[T]⟩, ty, pos, af, g⟩).run P w = .ok (.value (.tuple #[])) w := by
      rcases hh with ⟨a0, c0, rfl⟩ | ⟨c0, rfl⟩
      · cases a0 <;> simp [execOp, resolve, invoke, builtin, opv_ok st.env hx, Builtin.clear_, run_underlying hT]
      · simp [execOp, resolve, invoke, builtin, opv_ok st.env hx, Builtin.clear_, run_underlying hT]
    refine wpl_val (wanted_ok (o := ⟨none, .call ⟨.builtin .clear, #[x], #[T]⟩, ty, pos, af, g⟩) st.env hg) hex (k _ _ ?_)
    exact st.mk_env rfl rfl st.env
  rcases hown with ⟨rfl, h0⟩ | ⟨b, cap, C, rfl, hb, hcap, hmax, hC, htk⟩
  · refine nothing _ rfl (.inl ⟨if (0 : Nat) = l.length then none else none, 0 - l.length, ?_⟩)
    have : j = 0 := by simpa [capv] using hj
    simp [cutv, this, h0]
  by_cases hj0 : j - l.length = 0
  · exact nothing _ rfl (.inl ⟨(if cap = l.length then some ⟨b, 0, none⟩ else (some (⟨b, 0, none⟩ : Addr)).map (·.add (l.length * t.size))), cap - l.length, by simp [cutv, hj0]⟩)
  have hjc : j ≤ cap := hj
  have hne : cap ≠ l.length := by omega
  have hcut : cutv t.size (.slice (some ⟨b, 0, none⟩) l.length cap) l.length j = .slice (some ⟨b, l.length * t.size, none⟩) (j - l.length) (cap - l.length) := by
    simp [cutv, hne, add_mk]
  rw [hcut] at hx
  have hwb := h3.subf n hn b _ hb
  have hzl : (Builtin.zeroCells zv.cells (j - l.length)).toList.length = (j - l.length) * t.size := by
    rw [Array.length_toList, size_zeroCells]
    have : zv.cells.size = t.size := by rw [← i5, ← i4]; simp
    rw [this]
  have hzflat : ∀ u ∈ (Builtin.zeroCells zv.cells (j - l.length)).toList, u.oneCell' = true := fun u hu => by
    refine hzf u ?_
    rw [← i4]
    simp only [Builtin.zeroCells, Array.toList_map, List.mem_map, Array.toList_range, List.mem_range] at hu
    obtain ⟨q, hq1, rfl⟩ := hu
    have hpos : 0 < zv.cells.size := Nat.pos_of_ne_zero fun h => by rw [h] at hq1; omega
    have hlt := Nat.mod_lt q hpos
    rw [getElem!_pos zv.cells (q % zv.cells.size) hlt]
    simp
  have hst := run_storeCells_at P b (l.length * t.size) E (Builtin.zeroCells zv.cells (j - l.length)).toList 0 C w hwb (by rw [hzl, hC, Nat.add_zero, ← Nat.add_mul]; exact Nat.mul_le_mul_right _ (by omega)) hzflat
  simp only [Nat.add_zero] at hst
  have hzz : (zeroValue E).run P w = .ok zv w := by simp [zeroValue, typeInfo, i1, i3]
  have hex : (execOp a.eval ⟨none, .call ⟨.builtin .clear, #[x], #[T]⟩, ty, pos, af, g⟩).run P w = .ok (.value (.tuple #[])) (w.setRow b (C.toList.take (l.length * t.size) ++ (Builtin.zeroCells zv.cells (j - l.length)).toList ++ C.toList.drop (l.length * t.size + (Builtin.zeroCells zv.cells (j - l.length)).toList.length)).toArray) := by
    obtain ⟨m, hm⟩ : ∃ m, j - l.length = m + 1 := ⟨j - l.length - 1, by omega⟩
    rw [hm] at hx hst ⊢
    simp [execOp, resolve, invoke, builtin, opv_ok st.env hx, Builtin.clear_, run_underlying hT, hzz, hst]
  refine wpl_val (wanted_ok (o := ⟨none, .call ⟨.builtin .clear, #[x], #[T]⟩, ty, pos, af, g⟩) st.env hg) hex (k _ _ ?_)
  have hLn : L.set n (own E t (.slice (some ⟨b, 0, none⟩) l.length cap) l) = L := by
    apply List.ext_getElem?
    intro q
    by_cases hq' : q = n
    · subst hq'; rw [List.getElem?_set_self hn, hA]
    · rw [List.getElem?_set_ne (Ne.symm hq')]
  rw [← hLn]
  refine st.upd (S := S) (f := f) (by simpa [Act.put] using st.defers) (by simpa [Act.put] using st.size) (by simpa [Act.put] using st.env) hS0 hS1 h3 h4 n _ (Hp.one b (.cells (C.toList.take (l.length * t.size) ++ (Builtin.zeroCells zv.cells (j - l.length)).toList ++ C.toList.drop (l.length * t.size + (Builtin.zeroCells zv.cells (j - l.length)).toList.length)).toArray E (0, 0))) hn hq rfl rfl rfl (by simp)
    (Hp.one_sub (setRow_heap w b C _ E _ hwb)) (fun b' hb' => by rw [Hp.one_ne hb']; left; rw [hb]; simp) (fun b' _ hb' => setRow_other w b b' _ (fun e => by subst e; rw [hb] at hb'; cases hb')) ?_
  have hle : l.length * t.size ≤ C.size := by rw [hC]; exact Nat.mul_le_mul_right _ hcap
  refine ⟨xs, ⟨hxl, .inr ⟨b, cap, _, rfl, Hp.one_self b _, hcap, hmax, ?_, ?_⟩⟩, hr⟩
  · have hs : C.size = C.toList.length := by simp
    have h5 : (j - l.length) * t.size + l.length * t.size ≤ C.size := by rw [hC, ← Nat.add_mul]; exact Nat.mul_le_mul_right _ (by omega)
    simp only [List.size_toArray, List.length_append, List.length_take, List.length_drop, hzl]
    rw [← hC]
    generalize (j - l.length) * t.size = q1 at *
    generalize l.length * t.size = q2 at *
    rw [← hs]
    omega
  · have hlen : (C.toList.take (l.length * t.size)).length = l.length * t.size := by rw [List.length_take, Array.length_toList]; exact Nat.min_eq_left hle
    have e9 : (C.toList.take (l.length * t.size) ++ (Builtin.zeroCells zv.cells (j - l.length)).toList ++ C.toList.drop (l.length * t.size + (Builtin.zeroCells zv.cells (j - l.length)).toList.length)).take (l.length * t.size) = C.toList.take (l.length * t.size) := by
      rw [List.append_assoc]
      exact List.take_left' hlen
    rw [show ∀ l : List Value, l.toArray.toList = l from fun l => rfl, e9]; exact htk
end
end Go.Fw
