/- The frame: code, loops, calls, contracts. No program in sight. -/
import Derived.Test.YtfekdillbgblkaaFwD
set_option linter.all false
namespace Go.Fw
open Go.RowKit

/-! ### weakening -/
section
variable {md : Md} {P : Program} {ops : Array Oper} {Q : Exit → Act → World → Prop} {c : Cx} {rest : List Oper} {env env' : Env} {L L' : List It}
theorem RL.weak (h : ∀ a w, St c env L a w → St c env' L' a w) (k : RL .plain P ops Q c rest env' L') : RL .plain P ops Q c rest env L := fun a w st => k a w (h a w st)
theorem Go.weak {code : Code} (h : ∀ a w, St c env L a w → St c env' L' a w) (k : Go P Q c code env' L') : Go P Q c code env L := fun a w st => k a w (h a w st)
theorem Gx.weak {x : Exit} (h : ∀ a w, St c env L a w → St c env' L' a w) (k : Gx Q c x env' L') : Gx Q c x env L := fun a w st => k a w (h a w st)
end
/-- fewer slots, fewer items -/
theorem St.cut {c : Cx} {env env' : Env} {L L' : List It} {a : Act} {w : World} (is : List Nat) (hs : Covers env env') (hn : is.Nodup) (hL : is.map (fun i => L[i]?) = L'.map some) (h : St c env L a w) : St c env' L' a w :=
  (h.shrink hs).pick is hn hL
/-- what the call owns is handed on for reading alone -/
theorem St.freeze {c : Cx} {env : Env} {L : List It} {a : Act} {w : World} {α : Type} {e : TypeId} {t : TR α} {v : Value} {l : List α} (n : Nat) (hA : L[n]? = some (own e t v l)) (st : St c env L a w) : St c env (L.set n (imm t.sl v l)) a w := by
  obtain ⟨S, f, e1, e2, e3, e4⟩ := st.heap
  have hn := (List.getElem?_eq_some_iff.1 hA).1
  obtain ⟨xs, h1, h2⟩ := e4 n _ hA
  have dj := e3.dS n hn
  refine ⟨st.defers, st.size, st.env, st.below, st.calm, S.cup (f n), fun i => if i = n then Hp.emp else f i, Hp.le_trans e1 (Hp.le_cup_left _ _), ?_, ⟨Hp.sub_cup e3.sub (e3.subf n hn), ?_, ?_, ?_, ?_⟩, ?_⟩
  · intro b hb
    by_cases hs : S b = none
    · right
      have : f n b ≠ none := fun hf => hb (by simp [Hp.cup, hs, hf])
      exact e3.lo n hn b this
    · exact e2 b hs
  · intro i hi
    rw [List.length_set] at hi
    split
    · exact Hp.sub_emp w
    · exact e3.subf i hi
  · intro i hi
    rw [List.length_set] at hi
    split
    · exact Hp.dj_emp _
    · rename_i hin
      intro b
      rcases e3.dS i hi b with h | h
      · rcases e3.df n i hn hi (Ne.symm hin) b with h' | h'
        · left; simp [Hp.cup, h, h']
        · exact .inr h'
      · exact .inr h
  · intro i j hi hj hij
    rw [List.length_set] at hi hj
    split
    · exact Hp.dj_comm (Hp.dj_emp _)
    · split
      · exact Hp.dj_emp _
      · exact e3.df i j hi hj hij
  · intro i hi b hb
    rw [List.length_set] at hi
    split at hb
    · exact absurd rfl hb
    · exact e3.lo i hi b hb
  · intro i B hB
    by_cases hin : i = n
    · subst hin
      rw [List.getElem?_set_self hn] at hB
      cases hB
      show (t.sl).vrep (S.cup (f i)) v l
      exact ⟨[v], rfl, v, xs, rfl, slAt_mono (Hp.le_cup_right dj) (slAt_of_own h1), reps_mono (Hp.le_cup_left _ _) h2⟩
    · rw [List.getElem?_set_ne (Ne.symm hin)] at hB
      show B.P (S.cup (f n)) (if i = n then Hp.emp else f i)
      rw [if_neg hin]
      exact B.mono (Hp.le_cup_left _ _) (e4 i B hB)

/-! ### everything readable in one heap, for the time of a call -/
def cupAll (S : Hp) (f : Nat → Hp) : Nat → Hp
  | 0 => S
  | n + 1 => (cupAll S f n).cup (f n)
theorem cupAll_le (S : Hp) (f : Nat → Hp) : ∀ n, Hp.le S (cupAll S f n)
  | 0 => Hp.le_refl S
  | n + 1 => Hp.le_trans (cupAll_le S f n) (Hp.le_cup_left _ _)
theorem cupAll_none {S : Hp} {f : Nat → Hp} {b : Nat} : ∀ n, S b = none → (∀ i, i < n → f i b = none) → cupAll S f n b = none
  | 0, h, _ => h
  | n + 1, h, h' => by simp [cupAll, Hp.cup, cupAll_none n h (fun i hi => h' i (by omega)), h' n (by omega)]
theorem cupAll_at {B : Nat} {S : Hp} {f : Nat → Hp} {m : Nat} {w : World} (h : HeapOk B S f m w) : ∀ n, n ≤ m → ∀ i, i < n → Hp.le (f i) (cupAll S f n)
  | 0, _, i, hi => by omega
  | n + 1, hn, i, hi => by
    by_cases hin : i = n
    · subst hin
      refine Hp.le_cup_right fun b => ?_
      by_cases hb : f i b = none
      · exact .inr hb
      · left
        refine cupAll_none i ((h.dS i (by omega) b).resolve_right hb) fun j hj => ?_
        exact (h.df j i (by omega) (by omega) (by omega) b).resolve_right hb
    · exact Hp.le_trans (cupAll_at h n (by omega) i (by omega)) (Hp.le_cup_left _ _)
theorem cupAll_sub {B : Nat} {S : Hp} {f : Nat → Hp} {m : Nat} {w : World} (h : HeapOk B S f m w) : ∀ n, n ≤ m → (cupAll S f n).sub w
  | 0, _ => h.sub
  | n + 1, hn => Hp.sub_cup (cupAll_sub h n (by omega)) (h.subf n (by omega))
/-- what an item says of a heap in which all may be read -/
def Seen (A : It) (B : Hp → Prop) : Prop := ∀ S f U, Hp.le S U → Hp.le f U → A.P S f → B U
theorem Seen.imm {α : Type} {t : TR α} {v : Value} {d : α} : Seen (imm t v d) (fun U => t.vrep U v d) := fun _ _ _ h _ k => TR.vrep_mono h k
theorem Seen.own {α : Type} {e : TypeId} {t : TR α} {v : Value} {l : List α} : Seen (own e t v l) (fun U => t.sl.vrep U v l) := fun _ _ _ h h' ⟨xs, k1, k2⟩ => ⟨[v], rfl, v, xs, rfl, slAt_mono h' (slAt_of_own k1), reps_mono h k2⟩
theorem Seen.obox {α : Type} {e : TypeId} {t : TR α} {v : Value} {d : α} : Seen (obox e t v d) (fun U => t.ptr.vrep U v d) := fun _ _ _ h h' ⟨b, cs, k1, k2, k3⟩ => ⟨[v], rfl, b, 0, cs.toArray, e, (0, 0), cs, by rw [k1], h' _ _ k2, t.mono h k3, fun j u hu => by simpa using hu⟩

/-! ### contracts -/
/-- what a call comes to: results, and new items -/
def Post {O : Type} (w : World) (S : Hp) (V : O → Value) (LR : O → List It) : Ending → World → Prop := fun e w' =>
  ∃ o, e = .returned (V o) ∧ Below w.heap.size w w' ∧ ∃ S' g, Hp.le S S' ∧ S'.sub w' ∧ (∀ b, S' b ≠ none → S b ≠ none ∨ w.heap.size ≤ b) ∧
    (∀ i, i < (LR o).length → (g i).sub w' ∧ Hp.dj S' (g i) ∧ ∀ b, g i b ≠ none → w.heap.size ≤ b) ∧ (∀ i j, i < (LR o).length → j < (LR o).length → i ≠ j → Hp.dj (g i) (g j)) ∧ Its (LR o) S' g
/-- plain values, nothing that was there has turned -/
def PostV (w : World) (v : Value) : Ending → World → Prop := fun e w' => e = .returned v ∧ Below w.heap.size w w'
/-- plain values, the world is the same -/
def PostC (w : World) (v : Value) : Ending → World → Prop := fun e w' => e = .returned v ∧ w' = w
theorem PostC.toV {w : World} {v : Value} {e : Ending} {w' : World} (h : PostC w v e w') : PostV w v e w' := ⟨h.1, by rw [h.2]; exact Below.refl _ _⟩
def Fit (P : Program) (f : FuncId) : Prop := ∃ fn, P.funcs[f]? = some fn ∧ (fn.name == "runtime.NumGoroutine") = false ∧ fn.body.isNone = false
theorem run_callFunc {P : Program} {f : FuncId} (h : Fit P f) (args : Array Value) (w : World) : (callFunc f args).run P w = .ok (.enter f args) w := by
  obtain ⟨fn, h1, h2, h3⟩ := h
  unfold callFunc
  simp only [Sem.run_bind, run_program, Result.andThen_ok, h1, h2, h3, Bool.false_eq_true, if_false, Sem.run_pure]

section
variable {md : Md} {P : Program} {ops : Array Oper} {Q : Exit → Act → World → Prop} {c : Cx} {rest : List Oper} {env : Env} {L : List It}
variable {d : Nat} {ty : TypeId} {pos : String} {af : Array Edge} {g : Option (Nat × Bool)}

theorem args_ok {a : Act} {args : Array Operand} {vs : List Value} (he : EnvOk env a) (h : args.toList.map (opv env) = vs.map some) : args.map a.eval = vs.toArray := by
  apply Array.toList_inj.1
  rw [Array.toList_map]
  apply List.ext_getElem?
  intro j
  have := congrArg (fun l => l[j]?) h
  simp only [List.getElem?_map] at this ⊢
  cases hj : args.toList[j]? with
  | none =>
    rw [hj] at this
    cases hv : vs[j]? with
    | none => simp
    | some q => rw [hv] at this; simp at this
  | some p =>
    rw [hj] at this
    cases hv : vs[j]? with
    | none => rw [hv] at this; simp at this
    | some q =>
      rw [hv] at this
      simp at this
      simp [opv_ok he this]
theorem run_call {x : Operand} {fid : FuncId} {cap : Array Value} {args : Array Operand} {vs : List Value} {ts : Array TypeId} {a : Act} (w : World) (hf : Fit P fid) (he : EnvOk env a) (hx : opv env x = some (.func (.func fid) #[] cap)) (ha : args.toList.map (opv env) = vs.map some) :
    (execOp a.eval ⟨some d, .call ⟨.value x, args, ts⟩, ty, pos, af, g⟩).run P w = .ok (.enter fid (vs.toArray ++ cap)) w := by
  simp [execOp, resolve, opv_ok he hx, Deferred.ofValue, invoke, args_ok he ha, run_callFunc hf]

/-- a call whose results lie in memory -/
theorem RL.call {O : Type} {V : O → Value} {LR : O → List It} {x : Operand} {fid : FuncId} {cap : Array Value} {args : Array Operand} {vs : List Value} {ts : Array TypeId} (hf : Fit P fid) (hq : c.still = false) (hg : wanted ops env g = some true) (hd : Slot c d)
    (hx : opv env x = some (.func (.func fid) #[] cap)) (ha : args.toList.map (opv env) = vs.map some)
    (hc : ∀ S f w, S.sub w → Hp.le c.S0 S → Its L S f → Calls P fid (vs.toArray ++ cap) w (Post w S V LR))
    (k : ∀ o, RL .plain P ops Q c rest (put env d (V o)) (L ++ LR o)) : RL .plain P ops Q c (⟨some d, .call ⟨.value x, args, ts⟩, ty, pos, af, g⟩ :: rest) env L := by
  intro a w st
  unfold wpList
  rw [if_pos (wanted_ok (o := ⟨some d, .call ⟨.value x, args, ts⟩, ty, pos, af, g⟩) st.env hg)]
  left
  unfold Oper.wp
  rw [run_call w hf st.env hx ha]
  obtain ⟨S, f, e1, e2, e3, e4⟩ := st.heap
  refine (hc S f w e3.sub e1 e4).mono ?_
  rintro e w' ⟨o, rfl, hb, S', h, k1, k2, k3, k4, k5, k6⟩
  refine k o _ _ ?_
  have st' := st.put (V o) hd
  refine ⟨st'.defers, st'.size, st'.env, st.below.trans (hb.mono st.below.size), (fun q => by rw [hq] at q; cases q), S', fcat f L.length h, Hp.le_trans e1 k1, ?_, ?_, e4.cat k1 k6⟩
  · intro b hb'
    rcases k3 b hb' with h | h
    · exact e2 b h
    · right; have := st.below.size; omega
  · rw [List.length_append]
    exact e3.cat st.below.size k2 (fun i hi => Hp.sub_grow (e3.subf i hi) hb) k3 k4 k5
/-- a call whose results are plain values; all that is readable may be handed to it -/
theorem RL.callV {v : Value} {x : Operand} {fid : FuncId} {cap : Array Value} {args : Array Operand} {vs : List Value} {ts : Array TypeId} (hf : Fit P fid) (hq : c.still = false) (hm : md = .plain ∨ ∃ n0, md = .quiet n0) (hg : wanted ops env g = some true) (hd : Slot c d)
    (hx : opv env x = some (.func (.func fid) #[] cap)) (ha : args.toList.map (opv env) = vs.map some)
    (hc : ∀ U w, U.sub w → Hp.le c.S0 U → (∀ (n : Nat) (A : It) (B : Hp → Prop), L[n]? = some A → Seen A B → B U) → Calls P fid (vs.toArray ++ cap) w (PostV w v))
    (k : RL md P ops Q c rest (put env d v) L) : RL md P ops Q c (⟨some d, .call ⟨.value x, args, ts⟩, ty, pos, af, g⟩ :: rest) env L := by
  have key : ∀ S f n w, Hp.le c.S0 S → n ≤ L.length → HeapOk c.w0.heap.size S f n w → Its L S (fcat f n fun _ => Hp.emp) → c.w0.heap.size ≤ w.heap.size → Calls P fid (vs.toArray ++ cap) w (PostV w v) := by
    intro S f n w hS0 hn h hi hB
    have h' := h.emp hB (L.length - n)
    rw [show n + (L.length - n) = L.length from by omega] at h'
    refine hc (cupAll S (fcat f n fun _ => Hp.emp) L.length) w (cupAll_sub h' _ (Nat.le_refl _)) (Hp.le_trans hS0 (cupAll_le _ _ _)) fun i A B hA hs => ?_
    exact hs S _ _ (cupAll_le _ _ _) (cupAll_at h' _ (Nat.le_refl _) i (List.getElem?_eq_some_iff.1 hA).1) (hi i A hA)
  rcases hm with rfl | ⟨n0, rfl⟩
  · intro a w st
    unfold wpList
    rw [if_pos (wanted_ok (o := ⟨some d, .call ⟨.value x, args, ts⟩, ty, pos, af, g⟩) st.env hg)]
    left
    unfold Oper.wp
    rw [run_call w hf st.env hx ha]
    obtain ⟨S, f, e1, e2, e3, e4⟩ := st.heap
    refine (key S f L.length w e1 (Nat.le_refl _) e3 (fun i A hA => by
      have hi := (List.getElem?_eq_some_iff.1 hA).1
      unfold fcat; rw [if_pos hi]; exact e4 i A hA) st.below.size).mono ?_
    rintro e w' ⟨rfl, hb⟩
    refine k _ _ ?_
    have st' := st.put v hd
    refine ⟨st'.defers, st'.size, st'.env, st.below.trans (hb.mono st.below.size), (fun q => by rw [hq] at q; cases q), S, f, e1, e2, ⟨Hp.sub_grow e3.sub hb, fun i hi => Hp.sub_grow (e3.subf i hi) hb, e3.dS, e3.df, e3.lo⟩, e4⟩
  · intro S f h1 h2 h3 h4 a de s e
    have hw := wanted_ok (o := ⟨some d, .call ⟨.value x, args, ts⟩, ty, pos, af, g⟩) e hg
    unfold wpQuiet
    rw [if_pos hw]
    refine ⟨v, fun w hw' => ?_, k S f h1 h2 h3 h4 _ de (by simpa [Act.put] using s) (e.put v (by rw [s]; exact hd.lt))⟩
    unfold Oper.quietAt
    rw [run_call w hf e hx ha]
    refine ⟨rfl, (key S f n0 w h1 h3 hw'.1 h4 hw'.2.1.size).mono ?_⟩
    rintro e' w' ⟨rfl, hb⟩
    refine ⟨rfl, ⟨Hp.sub_grow hw'.1.sub hb, fun i hi => Hp.sub_grow (hw'.1.subf i hi) hb, hw'.1.dS, hw'.1.df, hw'.1.lo⟩, hw'.2.1.trans (hb.mono hw'.2.1.size), hw'.2.2⟩
/-- a call that only computes -/
theorem RL.callC {v : Value} {x : Operand} {fid : FuncId} {cap : Array Value} {args : Array Operand} {vs : List Value} {ts : Array TypeId} (hf : Fit P fid) (hg : wanted ops env g = some true) (hd : Slot c d)
    (hx : opv env x = some (.func (.func fid) #[] cap)) (ha : args.toList.map (opv env) = vs.map some)
    (hc : ∀ U w, U.sub w → Hp.le c.S0 U → (∀ (n : Nat) (A : It) (B : Hp → Prop), L[n]? = some A → Seen A B → B U) → Calls P fid (vs.toArray ++ cap) w (PostC w v))
    (k : RL md P ops Q c rest (put env d v) L) : RL md P ops Q c (⟨some d, .call ⟨.value x, args, ts⟩, ty, pos, af, g⟩ :: rest) env L := by
  have key : ∀ S f n w, Hp.le c.S0 S → n ≤ L.length → HeapOk c.w0.heap.size S f n w → Its L S (fcat f n fun _ => Hp.emp) → c.w0.heap.size ≤ w.heap.size → Calls P fid (vs.toArray ++ cap) w (PostC w v) := by
    intro S f n w hS0 hn h hi hB
    have h' := h.emp hB (L.length - n)
    rw [show n + (L.length - n) = L.length from by omega] at h'
    refine hc (cupAll S (fcat f n fun _ => Hp.emp) L.length) w (cupAll_sub h' _ (Nat.le_refl _)) (Hp.le_trans hS0 (cupAll_le _ _ _)) fun i A B hA hs => ?_
    exact hs S _ _ (cupAll_le _ _ _) (cupAll_at h' _ (Nat.le_refl _) i (List.getElem?_eq_some_iff.1 hA).1) (hi i A hA)
  have key2 : ∀ a w, St c env L a w → Calls P fid (vs.toArray ++ cap) w (PostC w v) := by
    intro a w st
    obtain ⟨S, f, e1, e2, e3, e4⟩ := st.heap
    exact key S f L.length w e1 (Nat.le_refl _) e3 (fun i A hA => by
      have hi := (List.getElem?_eq_some_iff.1 hA).1
      unfold fcat; rw [if_pos hi]; exact e4 i A hA) st.below.size
  cases md with
  | plain =>
    intro a w st
    unfold wpList
    rw [if_pos (wanted_ok (o := ⟨some d, .call ⟨.value x, args, ts⟩, ty, pos, af, g⟩) st.env hg)]
    left
    unfold Oper.wp
    rw [run_call w hf st.env hx ha]
    refine (key2 a w st).mono ?_
    rintro e w' ⟨rfl, rfl⟩
    exact k _ _ (st.put v hd)
  | head tail =>
    intro a w st
    unfold wpStill
    rw [if_pos (wanted_ok (o := ⟨some d, .call ⟨.value x, args, ts⟩, ty, pos, af, g⟩) st.env hg)]
    unfold Oper.still
    rw [run_call w hf st.env hx ha]
    exact ⟨rfl, v, key2 a w st, k _ _ (st.put v hd)⟩
  | quiet n0 =>
    intro S f h1 h2 h3 h4 a de s e
    have hw := wanted_ok (o := ⟨some d, .call ⟨.value x, args, ts⟩, ty, pos, af, g⟩) e hg
    unfold wpQuiet
    rw [if_pos hw]
    refine ⟨v, fun w hw' => ?_, k S f h1 h2 h3 h4 _ de (by simpa [Act.put] using s) (e.put v (by rw [s]; exact hd.lt))⟩
    unfold Oper.quietAt
    rw [run_call w hf e hx ha]
    refine ⟨rfl, (key S f n0 w h1 h3 hw'.1 h4 hw'.2.1.size).mono ?_⟩
    rintro e' w' ⟨rfl, rfl⟩
    exact ⟨rfl, hw'⟩

/-- a part of a slice -/
theorem RL.slc {α : Type} {t : TR α} {l : List α} {v : Value} {x : Operand} {lo hi : Option Operand} {T E : TypeId} {sz : Nat} {ag : Bool} {i j : Nat} (n : Nat) (hT : P.underlying T = some (.slice E)) (hE : Ln P E sz ag) (hsz : sz = t.size) (hg : wanted ops env g = some true) (hd : Slot c d)
    (hx : opv env x = some v) (hlo : (lo = none ∧ i = 0) ∨ ∃ y kd, lo = some y ∧ opv env y = some (.int kd i)) (hhi : (hi = none ∧ j = l.length) ∨ ∃ y kd, hi = some y ∧ opv env y = some (.int kd j))
    (hA : L[n]? = some (imm t.sl v l)) (hij : i ≤ j) (hj : j ≤ l.length)
    (k : ∀ u, RL md P ops Q c rest (put env d u) (L ++ [imm t.sl u ((l.take j).drop i)])) : RL md P ops Q c (⟨some d, .slice T x lo hi none, ty, pos, af, g⟩ :: rest) env L := by
  refine RL.rd (X := fun u Lx => Lx = [imm t.sl u ((l.take j).drop i)]) hg hd (fun S f hi' _ => ?_) (by rintro u _ rfl; exact k u)
  obtain ⟨cs, e, u, xs, rfl, ⟨ad, cap, rfl, hc1, hc2, h2⟩, hr⟩ := hi' n _ hA
  have hv : v = .slice ad l.length cap := by rw [e]; rfl
  subst hv
  clear e
  refine ⟨.slice (if cap = i then ad else ad.map (·.add (i * t.size))) (j - i) (cap - i), _, rfl, ?_, fun a w st => ?_⟩
  · intro q B hB
    match q, hB with
    | 0, hB =>
      simp at hB; subst hB
      have hr2 : ∃ p m q, xs = p ++ m ++ q ∧ p.length = i * t.size ∧ reps t S m ((l.take j).drop i) := by
        obtain ⟨a, b, rfl, ha, hl1, hl2⟩ := reps_split j hr hj
        obtain ⟨a1, b1, rfl, ha1, hl3, hl4⟩ := reps_split i hl1 (by simp; omega)
        exact ⟨a1, b1, b, rfl, ha1, hl4⟩
      obtain ⟨p, m, q, rfl, hp, hm⟩ := hr2
      have hln : ((l.take j).drop i).length = j - i := by simp; omega
      refine ⟨[.slice (if cap = i then ad else ad.map (·.add (i * t.size))) (j - i) (cap - i)], rfl, _, m, rfl, ⟨_, cap - i, by rw [hln], by rw [hln]; omega, by omega, ?_⟩, hm⟩
      by_cases h0 : j - i = 0
      · left
        refine ⟨by rw [hln, h0], ?_⟩
        have : (l.take j).drop i = [] := List.eq_nil_of_length_eq_zero (by rw [hln, h0])
        rw [this] at hm
        exact hm
      · right
        rcases h2 with ⟨h2, _⟩ | ⟨b, o, C, tb, fz, rfl, hb, hC⟩
        · omega
        · rw [if_neg (by omega)]
          refine ⟨b, o + i * t.size, C, tb, fz, by simp [add_mk], hb, fun q u hu => ?_⟩
          rw [Nat.add_assoc]
          refine hC (i * t.size + q) u ?_
          have hq := (List.getElem?_eq_some_iff.1 hu).1
          rw [List.append_assoc, List.getElem?_append_right (by omega), List.getElem?_append_left (by omega)]
          rw [show i * t.size + q - p.length = q from by omega]; exact hu
  · have hsz' : sz = t.size := hsz
    have b1 : ∀ (z y : Nat) (kd : IntKind) (code : BoundsCode), z ≤ y → (Instr.sliceBound (.int kd z) y code).run P w = .ok z w := fun z y kd code h1 => by
      rw [run_sliceBound w kd z y code (by omega) (by omega)]; simp
    rcases hlo with ⟨rfl, rfl⟩ | ⟨y, kd, rfl, hy⟩ <;> rcases hhi with ⟨rfl, rfl⟩ | ⟨z, ke, rfl, hz⟩
    · simp [execOp, Instr.sliceAt, Instr.slice, run_underlying hT, opv_ok st.env hx, Instr.sliceBounds, run_sizeOf hE, hsz']
    · have q1 := b1 j cap ke .sliceAcap (by omega)
      simp [execOp, Instr.sliceAt, Instr.slice, run_underlying hT, opv_ok st.env hx, opv_ok st.env hz, Instr.sliceBounds, run_sizeOf hE, hsz', q1]
    · have q1 := b1 i l.length kd .sliceB (by omega)
      simp [execOp, Instr.sliceAt, Instr.slice, run_underlying hT, opv_ok st.env hx, opv_ok st.env hy, Instr.sliceBounds, run_sizeOf hE, hsz', q1]
    · have q1 := b1 j cap ke .sliceAcap (by omega)
      have q2 := b1 i j kd .sliceB (by omega)
      simp [execOp, Instr.sliceAt, Instr.slice, run_underlying hT, opv_ok st.env hx, opv_ok st.env hy, opv_ok st.env hz, Instr.sliceBounds, run_sizeOf hE, hsz', q1, q2]
end
end Go.Fw
