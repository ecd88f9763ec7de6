/- Calls that are lent memory of the caller's own and give it back changed; slices.Delete. No program in sight. -/
import Derived.Test.YtpnibpjhiofplaaFwH
set_option linter.all false
namespace Go.Fw
open Go.RowKit

/-- what a call comes to that was lent items: they are given back, changed -/
def PostM {O : Type} (B : World) (S : Hp) (V : O → Value) (LR : O → List It) : Ending → World → Prop := fun e w' =>
  ∃ o, e = .returned (V o) ∧ Below B.heap.size B w' ∧ ∃ S' g, Hp.le S S' ∧ HeapOk B.heap.size S' g (LR o).length w' ∧ Its (LR o) S' g
theorem St.toPostM {c : Cx} {env : Env} {a : Act} {w : World} {O : Type} {V : O → Value} {LR : O → List It} (o : O) (st : St c env (LR o) a w) : PostM c.w0 c.S0 V LR (.returned (V o)) w := by
  obtain ⟨S, f, e1, _, e3, e4⟩ := st.heap
  exact ⟨o, rfl, st.below, S, f, e1, e3, e4⟩
theorem calls_enterM {P : Program} {fid : FuncId} {fn : Func} {code : Code} (nt : Nat) (hf : P.funcs[fid]? = some fn) (hnt : fn.ntmps = nt) (hb : fn.body = some code) {args : Array Value} {w : World} {R : Ending → World → Prop} (B : World) (S : Hp) (f : Nat → Hp) (env : Env) (L L' : List It)
    (hn : Nat.ble args.size nt = true) (he : ArgsAre args env) (hB : Below B.heap.size B w) (hO : HeapOk B.heap.size S f L.length w) (hI : Its L S f) (hL : AllP S L')
    (h : GL P (bodyPost P fn R) ⟨B, S, nt, false⟩ [code] env (L ++ L')) : Calls P fid args w R := by
  refine calls_of_wp hf hb (Go.Code.wp_mono (fun e a w q => by cases e <;> exact q) (h _ w ?_))
  have hn' := Nat.le_of_ble_eq_true hn
  refine ⟨rfl, by simp [hnt]; omega, ?_, hB, (fun q => by cases q), S, fcat f L.length fun _ => Hp.emp, Hp.le_refl S, fun b hb => .inl hb, ?_, hI.cat (Hp.le_refl S) (fun i A hA => hL.at i A hA)⟩
  · intro t v e
    have := he.look e
    obtain ⟨h1, h2⟩ := Array.getElem?_eq_some_iff.1 this
    simp only
    rw [Array.getElem?_append_left h1]
    exact this
  · rw [List.length_append]; exact hO.emp hB.size _

/-- all but one item are readable, the one is lent -/
theorem St.lend {c : Cx} {env : Env} {L : List It} {a : Act} {w : World} (st : St c env L a w) (n : Nat) {A : It} (hA : L[n]? = some A) :
    ∃ (S : Hp) (f : Nat → Hp) (U : Hp), Hp.le c.S0 S ∧ (∀ b, S b ≠ none → c.S0 b ≠ none ∨ c.w0.heap.size ≤ b) ∧ HeapOk c.w0.heap.size S f L.length w ∧ Its L S f ∧ Hp.le S U ∧ (∀ i, i < L.length → i ≠ n → Hp.le (f i) U) ∧ HeapOk c.w0.heap.size U (fun _ => f n) 1 w := by
  obtain ⟨S, f, e1, e2, e3, e4⟩ := st.heap
  have hn := (List.getElem?_eq_some_iff.1 hA).1
  let f' : Nat → Hp := fun i => if i = n then Hp.emp else f i
  have h' : HeapOk c.w0.heap.size S f' L.length w := by
    refine ⟨e3.sub, fun i hi => ?_, fun i hi => ?_, fun i j hi hj hij => ?_, fun i hi b hb => ?_⟩
    · show (if i = n then Hp.emp else f i).sub w
      split
      · exact Hp.sub_emp w
      · exact e3.subf i hi
    · show Hp.dj S (if i = n then Hp.emp else f i)
      split
      · exact Hp.dj_emp S
      · exact e3.dS i hi
    · show Hp.dj (if i = n then Hp.emp else f i) (if j = n then Hp.emp else f j)
      split
      · exact Hp.dj_comm (Hp.dj_emp _)
      · split
        · exact Hp.dj_emp _
        · exact e3.df i j hi hj hij
    · replace hb : (if i = n then Hp.emp else f i) b ≠ none := hb
      split at hb
      · exact absurd rfl hb
      · exact e3.lo i hi b hb
  refine ⟨S, f, cupAll S f' L.length, e1, e2, e3, e4, cupAll_le _ _ _, fun i hi hin => ?_, ?_⟩
  · have := cupAll_at h' _ (Nat.le_refl _) i hi
    have e : f' i = f i := if_neg hin
    rw [e] at this; exact this
  · refine ⟨cupAll_sub h' _ (Nat.le_refl _), fun i _ => e3.subf n hn, fun i _ b => ?_, fun i j hi hj hij => by omega, fun i _ => e3.lo n hn⟩
    by_cases hb : f n b = none
    · exact .inr hb
    · left
      refine cupAll_none _ ((e3.dS n hn b).resolve_right hb) fun j hj => ?_
      show (if j = n then Hp.emp else f j) b = none
      split
      · rfl
      · rename_i hjn
        exact (e3.df j n (by omega) hn hjn b).resolve_right hb
theorem St.back {c : Cx} {env env' : Env} {L : List It} {a a' : Act} {w w' : World} {S U S' : Hp} {f g : Nat → Hp} {n : Nat} {A : It} (st : St c env L a w) (hn : n < L.length) (hq : c.still = false)
    (h1 : a'.defers = []) (h2 : a'.tmps.size = c.nt) (h3 : EnvOk env' a') (e1 : Hp.le c.S0 S) (e2 : ∀ b, S b ≠ none → c.S0 b ≠ none ∨ c.w0.heap.size ≤ b) (e3 : HeapOk c.w0.heap.size S f L.length w) (e4 : Its L S f)
    (k1 : Hp.le S U) (k2 : ∀ i, i < L.length → i ≠ n → Hp.le (f i) U) (hb : Below c.w0.heap.size c.w0 w') (hU : Hp.le U S') (hO : HeapOk c.w0.heap.size S' g 1 w') (hA : A.P S (g 0)) : St c env' (L.set n A) a' w' := by
  have hS : Hp.le S S' := Hp.le_trans k1 hU
  have dj_sub : ∀ {x : Hp}, Hp.le x S' → Hp.dj x (g 0) := fun {x} hx b => by
    by_cases hxb : x b = none
    · exact .inl hxb
    · right
      obtain ⟨o, ho⟩ : ∃ o, x b = some o := Option.ne_none_iff_exists'.1 hxb
      exact (hO.dS 0 (by omega) b).resolve_left (by rw [hx b o ho]; simp)
  refine ⟨h1, h2, h3, hb, (fun q => by rw [hq] at q; cases q), S, fun i => if i = n then g 0 else f i, e1, e2, ⟨Hp.le_sub hS hO.sub, fun i hi => ?_, fun i hi => ?_, fun i j hi hj hij => ?_, fun i hi b hb' => ?_⟩, fun i B hB => ?_⟩
  · rw [List.length_set] at hi
    show (if i = n then g 0 else f i).sub w'
    split
    · exact hO.subf 0 (by omega)
    · rename_i h; exact Hp.le_sub (Hp.le_trans (k2 i hi h) hU) hO.sub
  · rw [List.length_set] at hi
    show Hp.dj S (if i = n then g 0 else f i)
    split
    · exact dj_sub hS
    · exact e3.dS i hi
  · rw [List.length_set] at hi hj
    show Hp.dj (if i = n then g 0 else f i) (if j = n then g 0 else f j)
    split
    · rename_i h
      rw [if_neg (by omega)]
      exact Hp.dj_comm (dj_sub (Hp.le_trans (k2 j hj (by omega)) hU))
    · rename_i h
      split
      · exact dj_sub (Hp.le_trans (k2 i hi h) hU)
      · exact e3.df i j hi hj hij
  · rw [List.length_set] at hi
    replace hb' : (if i = n then g 0 else f i) b ≠ none := hb'
    split at hb'
    · exact hO.lo 0 (by omega) b hb'
    · exact e3.lo i hi b hb'
  · by_cases hin : i = n
    · subst hin
      rw [List.getElem?_set_self hn] at hB
      cases hB
      show A.P S (if i = i then g 0 else f i)
      rw [if_pos rfl]; exact hA
    · rw [List.getElem?_set_ne (Ne.symm hin)] at hB
      show B.P S (if i = n then g 0 else f i)
      rw [if_neg hin]; exact e4 i B hB
/-- says the same in whatever heap -/
def Loc (A : It) : Prop := ∀ S S' f, A.P S f → A.P S' f
def TR.flatT {α : Type} (t : TR α) : Prop := ∀ h k cs d, t.rep h cs d → t.rep k cs d
theorem reps_flatT {α : Type} {t : TR α} (ht : t.flatT) {h k : Hp} : ∀ {l : List α} {xs : List Value}, reps t h xs l → reps t k xs l
  | [], _, r => r
  | _ :: _, _, ⟨c, q, e, r1, r2⟩ => ⟨c, q, e, ht _ _ _ _ r1, reps_flatT ht r2⟩
theorem Loc.own {α : Type} {e : TypeId} {t : TR α} {v : Value} {l : List α} (ht : t.flatT) : Loc (own e t v l) := fun _ _ _ ⟨xs, a, b⟩ => ⟨xs, a, reps_flatT ht b⟩
theorem Loc.obox {α : Type} {e : TypeId} {t : TR α} {v : Value} {d : α} (ht : t.flatT) : Loc (obox e t v d) := fun _ _ _ ⟨b, cs, a, c, r⟩ => ⟨b, cs, a, c, ht _ _ _ _ r⟩
theorem TR.flatT_ik {k : IntKind} : (TR.ik k).flatT := fun _ _ _ _ h => h
theorem TR.flatT_bool : TR.bool.flatT := fun _ _ _ _ h => h
theorem TR.flatT_str : TR.str.flatT := fun _ _ _ _ h => h
theorem TR.flatT_pair {α β : Type} {a : TR α} {b : TR β} (ha : a.flatT) (hb : b.flatT) : (a.pair b).flatT := fun _ _ _ _ ⟨c1, c2, e, h1, h2⟩ => ⟨c1, c2, e, ha _ _ _ _ h1, hb _ _ _ _ h2⟩
theorem TR.flatT_rec1 {α : Type} {a : TR α} (ha : a.flatT) : a.rec1.flatT := fun h k cs d r => ha h k cs d r
theorem TR.flatT_arr {α : Type} {n : Nat} {a : TR α} (ha : a.flatT) : (TR.arr n a).flatT := fun _ _ _ _ r => ⟨r.1, reps_flatT ha r.2⟩

section
variable {md : Md} {P : Program} {ops : Array Oper} {Q : Exit → Act → World → Prop} {c : Cx} {rest : List Oper} {env : Env} {L : List It}
variable {ty : TypeId} {pos : String} {af : Array Edge} {g : Option (Nat × Bool)}
theorem run_call' {dst : Option Nat} {x : Operand} {fid : FuncId} {cap : Array Value} {args : Array Operand} {vs : List Value} {ts : Array TypeId} {a : Act} (w : World) (hf : Fit P fid) (he : EnvOk env a) (hx : opv env x = some (.func (.func fid) #[] cap)) (ha : args.toList.map (opv env) = vs.map some) :
    (execOp a.eval ⟨dst, .call ⟨.value x, args, ts⟩, ty, pos, af, g⟩).run P w = .ok (.enter fid (vs.toArray ++ cap)) w := by
  simp [execOp, resolve, opv_ok he hx, Deferred.ofValue, invoke, args_ok he ha, run_callFunc hf]
theorem RL.callM {d : Nat} {O : Type} {V : O → Value} {A' : O → It} {A : It} (n : Nat) {x : Operand} {fid : FuncId} {cap : Array Value} {args : Array Operand} {vs : List Value} {ts : Array TypeId} (hf : Fit P fid) (hq : c.still = false) (hg : wanted ops env g = some true) (hd : Slot c d)
    (hx : opv env x = some (.func (.func fid) #[] cap)) (ha : args.toList.map (opv env) = vs.map some) (hA : L[n]? = some A) (hl : ∀ o, Loc (A' o))
    (hc : ∀ U f w, HeapOk c.w0.heap.size U f [A].length w → Below c.w0.heap.size c.w0 w → Hp.le c.S0 U → Its [A] U f → (∀ (i : Nat) (B : It) (R : Hp → Prop), L[i]? = some B → Nat.beq i n = false → Seen B R → R U) → Calls P fid (vs.toArray ++ cap) w (PostM c.w0 U V (fun o => [A' o])))
    (k : ∀ o, RL .plain P ops Q c rest (put env d (V o)) (L.set n (A' o))) : RL .plain P ops Q c (⟨some d, .call ⟨.value x, args, ts⟩, ty, pos, af, g⟩ :: rest) env L := by
  intro a w st
  have hn := (List.getElem?_eq_some_iff.1 hA).1
  unfold wpList
  rw [if_pos (wanted_ok (o := ⟨some d, .call ⟨.value x, args, ts⟩, ty, pos, af, g⟩) st.env hg)]
  left
  unfold Oper.wp
  rw [run_call' w hf st.env hx ha]
  obtain ⟨S, f, U, e1, e2, e3, e4, k1, k2, k3⟩ := st.lend n hA
  refine (hc U (fun _ => f n) w k3 st.below (Hp.le_trans e1 k1) (fun i B hB => ?_) (fun i B R hB hin hs => ?_)).mono ?_
  · match i, hB with
    | 0, hB => simp at hB; subst hB; exact A.mono k1 (e4 n A hA)
  · exact hs S (f i) U k1 (k2 i (List.getElem?_eq_some_iff.1 hB).1 (by intro h; rw [h] at hin; simp at hin)) (e4 i B hB)
  · rintro e w' ⟨o, rfl, hb, S', g', hU, hO, hI⟩
    refine k o _ _ ?_
    have st' := st.put (V o) hd
    exact st.back hn hq st'.defers st'.size st'.env e1 e2 e3 e4 k1 k2 hb hU hO (hl o _ _ _ (hI 0 _ rfl))
theorem RL.callM0 {O : Type} {V : O → Value} {A' : O → It} {A : It} (n : Nat) {x : Operand} {fid : FuncId} {cap : Array Value} {args : Array Operand} {vs : List Value} {ts : Array TypeId} (hf : Fit P fid) (hq : c.still = false) (hg : wanted ops env g = some true)
    (hx : opv env x = some (.func (.func fid) #[] cap)) (ha : args.toList.map (opv env) = vs.map some) (hA : L[n]? = some A) (hl : ∀ o, Loc (A' o))
    (hc : ∀ U f w, HeapOk c.w0.heap.size U f [A].length w → Below c.w0.heap.size c.w0 w → Hp.le c.S0 U → Its [A] U f → (∀ (i : Nat) (B : It) (R : Hp → Prop), L[i]? = some B → Nat.beq i n = false → Seen B R → R U) → Calls P fid (vs.toArray ++ cap) w (PostM c.w0 U V (fun o => [A' o])))
    (k : ∀ o, RL .plain P ops Q c rest env (L.set n (A' o))) : RL .plain P ops Q c (⟨none, .call ⟨.value x, args, ts⟩, ty, pos, af, g⟩ :: rest) env L := by
  intro a w st
  have hn := (List.getElem?_eq_some_iff.1 hA).1
  unfold wpList
  rw [if_pos (wanted_ok (o := ⟨none, .call ⟨.value x, args, ts⟩, ty, pos, af, g⟩) st.env hg)]
  left
  unfold Oper.wp
  rw [run_call' w hf st.env hx ha]
  obtain ⟨S, f, U, e1, e2, e3, e4, k1, k2, k3⟩ := st.lend n hA
  refine (hc U (fun _ => f n) w k3 st.below (Hp.le_trans e1 k1) (fun i B hB => ?_) (fun i B R hB hin hs => ?_)).mono ?_
  · match i, hB with
    | 0, hB => simp at hB; subst hB; exact A.mono k1 (e4 n A hA)
  · exact hs S (f i) U k1 (k2 i (List.getElem?_eq_some_iff.1 hB).1 (by intro h; rw [h] at hin; simp at hin)) (e4 i B hB)
  · rintro e w' ⟨o, rfl, hb, S', g', hU, hO, hI⟩
    refine k o _ _ ?_
    exact st.back hn hq (by simpa [Act.put] using st.defers) (by simpa [Act.put] using st.size) (by simpa [Act.put] using st.env) e1 e2 e3 e4 k1 k2 hb hU hO (hl o _ _ _ (hI 0 _ rfl))
end

theorem RL.reL {md : Md} {P : Program} {ops : Array Oper} {Q : Exit → Act → World → Prop} {c : Cx} {rest : List Oper} {env : Env} {L L' : List It} (h : L = L') (k : RL md P ops Q c rest env L') : RL md P ops Q c rest env L := by subst h; exact k

/-! ### parts of a slice of the call's own, as values -/
def capv : Value → Nat | .slice _ _ c => c | _ => 0
def relen (v : Value) (k : Nat) : Value := match v with | .slice a _ c => .slice a k c | _ => undef
def cutv (sz : Nat) (v : Value) (i j : Nat) : Value := match v with | .slice a _ c => .slice (if c = i then a else a.map (·.add (i * sz))) (j - i) (c - i) | _ => undef
theorem relen_self {e : TypeId} {size : Nat} {f : Hp} {v : Value} {n : Nat} {xs : List Value} (h : ownAt e size f v n xs) : relen v n = v := by
  rcases h.2 with ⟨rfl, rfl⟩ | ⟨b, cap, C, rfl, _⟩ <;> rfl
theorem ownAt_slice {e : TypeId} {size : Nat} {f : Hp} {v : Value} {n : Nat} {xs : List Value} (h : ownAt e size f v n xs) : ∃ a, v = .slice a n (capv v) ∧ n ≤ capv v ∧ capv v ≤ maxLen := by
  rcases h.2 with ⟨rfl, rfl⟩ | ⟨b, cap, C, rfl, _, h1, h2, _⟩
  · exact ⟨none, rfl, Nat.le_refl _, Nat.zero_le _⟩
  · exact ⟨_, rfl, h1, h2⟩
theorem GL.capO {P : Program} {Q : Exit → Act → World → Prop} {c : Cx} {r : List Code} {env : Env} {L : List It} {α : Type} {e : TypeId} {t : TR α} {v : Value} {l : List α} (n : Nat) (hA : L[n]? = some (own e t v l)) (k : l.length ≤ capv v → capv v ≤ maxLen → relen v l.length = v → (∀ q, capv (relen v q) = capv v) → GL P Q c r env L) : GL P Q c r env L := by
  intro a w st
  obtain ⟨S, f, _, _, xs, h, _⟩ := st.has hA
  obtain ⟨ad, h1, h2, h3⟩ := ownAt_slice h
  exact k h2 h3 (relen_self h) (fun q => by rw [h1]; rfl) a w st
section
variable {md : Md} {P : Program} {ops : Array Oper} {Q : Exit → Act → World → Prop} {c : Cx} {rest : List Oper} {env : Env} {L : List It}
variable {d : Nat} {ty : TypeId} {pos : String} {af : Array Edge} {g : Option (Nat × Bool)}
theorem RL.cutO {α : Type} {t : TR α} {l : List α} {v : Value} {x : Operand} {lo hi : Option Operand} {T E : TypeId} {sz e : Nat} {ag : Bool} {i j : Nat} (n : Nat) (hT : P.underlying T = some (.slice E)) (hE : Ln P E sz ag) (hg : wanted ops env g = some true) (hd : Slot c d)
    (hx : opv env x = some v) (hlo : (lo = none ∧ i = 0) ∨ ∃ y kd, lo = some y ∧ opv env y = some (.int kd i)) (hhi : (hi = none ∧ j = l.length) ∨ ∃ y kd, hi = some y ∧ opv env y = some (.int kd j))
    (hA : L[n]? = some (own e t v l)) (hij : i ≤ j) (hj : j ≤ capv v)
    (k : RL md P ops Q c rest (put env d (cutv sz v i j)) L) : RL md P ops Q c (⟨some d, .slice T x lo hi none, ty, pos, af, g⟩ :: rest) env L :=
  RL.val hg hd (fun S f a w st => by
    obtain ⟨xs, h, _⟩ := st.has hA
    obtain ⟨ad, hv, hc1, hc2⟩ := ownAt_slice h
    generalize hcap : capv v = cap at *
    subst hv
    have b1 : ∀ (z y : Nat) (kd : IntKind) (code : BoundsCode), z ≤ y → (Instr.sliceBound (.int kd z) y code).run P w = .ok z w := fun z y kd code h1 => by
      rw [run_sliceBound w kd z y code (by omega) (by omega)]; simp
    rcases hlo with ⟨rfl, rfl⟩ | ⟨y, kd, rfl, hy⟩ <;> rcases hhi with ⟨rfl, rfl⟩ | ⟨z, ke, rfl, hz⟩
    · simp [execOp, Instr.sliceAt, Instr.slice, run_underlying hT, opv_ok st.env hx, Instr.sliceBounds, run_sizeOf hE, cutv]
    · have q1 := b1 j cap ke .sliceAcap (by omega)
      simp [execOp, Instr.sliceAt, Instr.slice, run_underlying hT, opv_ok st.env hx, opv_ok st.env hz, Instr.sliceBounds, run_sizeOf hE, q1, cutv]
    · have q1 := b1 i l.length kd .sliceB (by omega)
      simp [execOp, Instr.sliceAt, Instr.slice, run_underlying hT, opv_ok st.env hx, opv_ok st.env hy, Instr.sliceBounds, run_sizeOf hE, q1, cutv]
    · have q1 := b1 j cap ke .sliceAcap (by omega)
      have q2 := b1 i j kd .sliceB (by omega)
      simp [execOp, Instr.sliceAt, Instr.slice, run_underlying hT, opv_ok st.env hx, opv_ok st.env hy, opv_ok st.env hz, Instr.sliceBounds, run_sizeOf hE, q1, q2, cutv]) k
/-- a cut with three bounds, whose value nobody reads -/
theorem RL.cut3 {α : Type} {t : TR α} {l : List α} {v : Value} {x y z q : Operand} {T E : TypeId} {sz e : Nat} {ag : Bool} {k1 k2 k3 : IntKind} {i j m : Nat} (n : Nat) (hT : P.underlying T = some (.slice E)) (hE : Ln P E sz ag) (hg : wanted ops env g = some true) (hd : Slot c d)
    (hx : opv env x = some v) (hy : opv env y = some (.int k1 i)) (hz : opv env z = some (.int k2 j)) (hq : opv env q = some (.int k3 m))
    (hA : L[n]? = some (own e t v l)) (hij : i ≤ j) (hj : j ≤ m) (hm : m ≤ l.length)
    (k : ∀ u, RL md P ops Q c rest (put env d u) L) : RL md P ops Q c (⟨some d, .slice T x (some y) (some z) (some q), ty, pos, af, g⟩ :: rest) env L :=
  RL.rd (X := fun _ Lx => Lx = []) hg hd (fun S f hi _ => by
    obtain ⟨xs, h, _⟩ := hi n _ hA
    obtain ⟨ad, hv, hc1, hc2⟩ := ownAt_slice h
    generalize hcap : capv v = cap at *
    subst hv
    refine ⟨.slice (if m = i then ad else ad.map (·.add (i * sz))) (j - i) (m - i), [], rfl, fun i A hA => by simp at hA, fun a w st => ?_⟩
    have b1 : ∀ (z y : Nat) (kd : IntKind) (code : BoundsCode), z ≤ y → (Instr.sliceBound (.int kd z) y code).run P w = .ok z w := fun z y kd code h1 => by
      rw [run_sliceBound w kd z y code (by omega) (by omega)]; simp
    have q1 := b1 m cap k3 .slice3Acap (by omega)
    have q2 := b1 j m k2 .slice3B (by omega)
    have q3 := b1 i j k1 .slice3C (by omega)
    simp [execOp, Instr.sliceAt, Instr.slice, run_underlying hT, opv_ok st.env hx, opv_ok st.env hy, opv_ok st.env hz, opv_ok st.env hq, Instr.sliceBounds, run_sizeOf hE, q1, q2, q3]) (by rintro u _ rfl; rw [List.append_nil]; exact k u)

/-- s[:i] and s[j:], the one put behind the other in the same place -/
theorem RL.del {α : Type} {t : TR α} {zc : List Value} {T E : TypeId} {x y : Operand} {v : Value} {l : List α} {i j : Nat} (n : Nat) (hT : P.underlying T = some (.slice E)) (hO : LnO P E t.size zc) (hq : c.still = false) (hg : wanted ops env g = some true) (hd : Slot c d)
    (hx : opv env x = some (cutv t.size v 0 i)) (hy : opv env y = some (cutv t.size v j l.length)) (hA : L[n]? = some (own E t v l)) (hij : i < j) (hj : j ≤ l.length)
    (k : RL .plain P ops Q c rest (put env d (relen v (i + (l.length - j)))) (L.set n (own E t (relen v (i + (l.length - j))) (l.take i ++ l.drop j)))) : RL .plain P ops Q c (⟨some d, .call ⟨.builtin .append, #[x, y], #[T, T]⟩, ty, pos, af, g⟩ :: rest) env L := by
  intro a w st
  obtain ⟨iT, zv, i1, i2, i3, i4, i5, i6, i7⟩ := hO.ex
  obtain ⟨S, f, hS0, hS1, h3, h4⟩ := st.heap
  have hn := (List.getElem?_eq_some_iff.1 hA).1
  obtain ⟨xs, ⟨hxl, hown⟩, hr⟩ := h4 n _ hA
  rcases hown with ⟨_, h0⟩ | ⟨b, cap, C, rfl, hb, hcap, hmax, hC, htk⟩
  · omega
  have hwb := h3.subf n hn b _ hb
  obtain ⟨p1, p2, rfl, hp1, hr1, hr2⟩ := reps_split i hr (by omega)
  obtain ⟨p3, p4, hp3, hp3l, hr3, hr4⟩ := reps_split j hr hj
  have hl4 : p4.length = (l.length - j) * t.size := by rw [reps_len hr4, List.length_drop]
  have hCl : C.toList = (p1 ++ p2) ++ C.toList.drop (l.length * t.size) := by rw [← htk]; exact (List.take_append_drop _ _).symm
  have hCl' : C.toList = p3 ++ (p4 ++ C.toList.drop (l.length * t.size)) := by rw [← List.append_assoc, ← hp3]; exact hCl
  have hcut0 : cutv t.size (.slice (some ⟨b, 0, none⟩) l.length cap) 0 i = .slice (some ⟨b, 0, none⟩) i cap := by
    simp [cutv, add_mk]
  have hcutj : ∃ ad, cutv t.size (.slice (some ⟨b, 0, none⟩) l.length cap) j l.length = .slice (some ad) (l.length - j) (cap - j) ∧ (0 < l.length - j → ad = ⟨b, j * t.size, none⟩) := by
    by_cases hcj : cap = j
    · exact ⟨⟨b, 0, none⟩, by simp [cutv, hcj], fun h => by omega⟩
    · exact ⟨⟨b, j * t.size, none⟩, by simp [cutv, hcj, add_mk], fun _ => rfl⟩
  obtain ⟨ad, hcutj, had⟩ := hcutj
  rw [hcut0] at hx
  rw [hcutj] at hy
  have hrl : relen (.slice (some ⟨b, 0, none⟩) l.length cap) (i + (l.length - j)) = .slice (some ⟨b, 0, none⟩) (i + (l.length - j)) cap := rfl
  rw [hrl] at k
  have hnews : ∀ q z, p4[q]? = some z → w.cell? (ad.add q) = some z := fun q z hz => by
    have hq4 := (List.getElem?_eq_some_iff.1 hz).1
    have hpos : 0 < l.length - j := by
      refine Nat.pos_of_ne_zero fun h => ?_
      rw [h] at hl4; omega
    rw [had hpos, add_mk, cell_of_row w b _ C E (0, 0) hwb, ← Array.getElem?_toList, hCl', List.getElem?_append_right (by omega), List.getElem?_append_left (by omega)]
    rw [show j * t.size + q - p3.length = q by omega]; exact hz
  have hfl : ∀ u ∈ p4, u.oneCell' = true := reps_flat hr4
  have hfit : i * t.size + p4.length ≤ C.size := by
    rw [hl4, hC, ← Nat.add_mul]; exact Nat.mul_le_mul_right _ (by omega)
  have hrun : (Builtin.append_ #[T, T] ty #[.slice (some ⟨b, 0, none⟩) i cap, .slice (some ad) (l.length - j) (cap - j)]).run P w = .ok (.slice (some ⟨b, 0, none⟩) (i + (l.length - j)) cap) (w.setRow b (C.toList.take (i * t.size) ++ p4 ++ C.toList.drop (i * t.size + p4.length)).toArray) := by
    have := run_append_room (P := P) w T ty E iT hT i1 b i cap C hwb ad (l.length - j) (cap - j) p4 (by rw [hl4, i2]) hnews hfl (by omega) (by rw [i2]; exact hfit)
    rw [i2] at this; exact this
  have hex : (execOp a.eval ⟨some d, .call ⟨.builtin .append, #[x, y], #[T, T]⟩, ty, pos, af, g⟩).run P w = .ok (.value (.slice (some ⟨b, 0, none⟩) (i + (l.length - j)) cap)) (w.setRow b (C.toList.take (i * t.size) ++ p4 ++ C.toList.drop (i * t.size + p4.length)).toArray) := by
    simp [execOp, resolve, invoke, builtin, opv_ok st.env hx, opv_ok st.env hy, hrun]
  refine wpl_val (wanted_ok (o := ⟨some d, .call ⟨.builtin .append, #[x, y], #[T, T]⟩, ty, pos, af, g⟩) st.env hg) hex (k _ _ ?_)
  have st' := st.put (.slice (some ⟨b, 0, none⟩) (i + (l.length - j)) cap) hd
  have t1 : C.toList.take (i * t.size) = p1 := by
    have e9 : C.toList = p1 ++ (p2 ++ C.toList.drop (l.length * t.size)) := by rw [← List.append_assoc]; exact hCl
    conv => lhs; rw [e9, ← hp1]
    exact List.take_left
  have hpl : (p1 ++ p4).length = (i + (l.length - j)) * t.size := by rw [List.length_append, hp1, hl4, Nat.add_mul]
  have hll : (l.take i ++ l.drop j).length = i + (l.length - j) := by rw [List.length_append, List.length_take, List.length_drop]; omega
  refine st.upd (S := S) (f := f) st'.defers st'.size st'.env hS0 hS1 h3 h4 n _ (Hp.one b (.cells (C.toList.take (i * t.size) ++ p4 ++ C.toList.drop (i * t.size + p4.length)).toArray E (0, 0))) hn hq rfl rfl rfl (by simp)
    (Hp.one_sub (setRow_heap w b C _ E _ hwb)) (fun b' hb' => by rw [Hp.one_ne hb']; left; rw [hb]; simp) (fun b' _ hb' => setRow_other w b b' _ (fun e => by subst e; rw [hb] at hb'; cases hb')) ?_
  refine ⟨p1 ++ p4, ⟨by rw [hll]; exact hpl, .inr ⟨b, cap, _, by rw [hll], Hp.one_self b _, by rw [hll]; omega, hmax, ?_, ?_⟩⟩, reps_append hr1 hr4⟩
  · have : C.size = C.toList.length := by simp
    simp only [List.size_toArray, List.length_append, List.length_take, List.length_drop, Array.length_toList]
    omega
  · rw [hll, ← hpl, t1]; exact List.take_left
/-- what lies behind the slice is cleared -/
theorem RL.clr {α : Type} {t : TR α} {zc : List Value} {T E : TypeId} {x : Operand} {v : Value} {l : List α} {j : Nat} (n : Nat) (hT : P.underlying T = some (.slice E)) (hO : LnO P E t.size zc) (hzf : ∀ u ∈ zc, u.oneCell' = true) (hq : c.still = false) (hg : wanted ops env g = some true)
    (hx : opv env x = some (cutv t.size v l.length j)) (hA : L[n]? = some (own E t v l)) (hij : l.length ≤ j) (hj : j ≤ capv v)
    (k : RL .plain P ops Q c rest env L) : RL .plain P ops Q c (⟨none, .call ⟨.builtin .clear, #[x], #[T]⟩, ty, pos, af, g⟩ :: rest) env L := by
  intro a w st
  obtain ⟨iT, zv, i1, i2, i3, i4, i5, i6, i7⟩ := hO.ex
  obtain ⟨S, f, hS0, hS1, h3, h4⟩ := st.heap
  have hn := (List.getElem?_eq_some_iff.1 hA).1
  obtain ⟨xs, ⟨hxl, hown⟩, hr⟩ := h4 n _ hA
  have nothing : ∀ v0, cutv t.size v l.length j = v0 → (∃ a0 c0, v0 = .slice a0 0 c0) ∨ (∃ c0, v0 = .slice none 0 c0) → wpList P ops Q (⟨none, .call ⟨.builtin .clear, #[x], #[T]⟩, ty, pos, af, g⟩ :: rest) a w := by
    intro v0 hv0 hh
    rw [hv0] at hx
    have hex : (execOp a.eval ⟨none, .call ⟨.builtin .clear, #[x], #[T]⟩, ty, pos, af, g⟩).run P w = .ok (.value (.tuple #[])) w := by
      rcases hh with ⟨a0, c0, rfl⟩ | ⟨c0, rfl⟩
      · cases a0 <;> simp [execOp, resolve, invoke, builtin, opv_ok st.env hx, Builtin.clear_, run_underlying hT]
      · simp [execOp, resolve, invoke, builtin, opv_ok st.env hx, Builtin.clear_, run_underlying hT]
    refine wpl_val (wanted_ok (o := ⟨none, .call ⟨.builtin .clear, #[x], #[T]⟩, ty, pos, af, g⟩) st.env hg) hex (k _ _ ?_)
    exact st.mk_env rfl rfl st.env
  rcases hown with ⟨rfl, h0⟩ | ⟨b, cap, C, rfl, hb, hcap, hmax, hC, htk⟩
  · refine nothing _ rfl (.inl ⟨if (0 : Nat) = l.length then none else none, 0 - l.length, ?_⟩)
    have : j = 0 := by simpa [capv] using hj
    simp [cutv, this, h0]
  by_cases hj0 : j - l.length = 0
  · exact nothing _ rfl (.inl ⟨(if cap = l.length then some ⟨b, 0, none⟩ else (some (⟨b, 0, none⟩ : Addr)).map (·.add (l.length * t.size))), cap - l.length, by simp [cutv, hj0]⟩)
  have hjc : j ≤ cap := hj
  have hne : cap ≠ l.length := by omega
  have hcut : cutv t.size (.slice (some ⟨b, 0, none⟩) l.length cap) l.length j = .slice (some ⟨b, l.length * t.size, none⟩) (j - l.length) (cap - l.length) := by
    simp [cutv, hne, add_mk]
  rw [hcut] at hx
  have hwb := h3.subf n hn b _ hb
  have hzl : (Builtin.zeroCells zv.cells (j - l.length)).toList.length = (j - l.length) * t.size := by
    rw [Array.length_toList, size_zeroCells]
    have : zv.cells.size = t.size := by rw [← i5, ← i4]; simp
    rw [this]
  have hzflat : ∀ u ∈ (Builtin.zeroCells zv.cells (j - l.length)).toList, u.oneCell' = true := fun u hu => by
    refine hzf u ?_
    rw [← i4]
    simp only [Builtin.zeroCells, Array.toList_map, List.mem_map, Array.toList_range, List.mem_range] at hu
    obtain ⟨q, hq1, rfl⟩ := hu
    have hpos : 0 < zv.cells.size := Nat.pos_of_ne_zero fun h => by rw [h] at hq1; omega
    have hlt := Nat.mod_lt q hpos
    rw [getElem!_pos zv.cells (q % zv.cells.size) hlt]
    simp
  have hst := run_storeCells_at P b (l.length * t.size) E (Builtin.zeroCells zv.cells (j - l.length)).toList 0 C w hwb (by rw [hzl, hC, Nat.add_zero, ← Nat.add_mul]; exact Nat.mul_le_mul_right _ (by omega)) hzflat
  simp only [Nat.add_zero] at hst
  have hzz : (zeroValue E).run P w = .ok zv w := by simp [zeroValue, typeInfo, i1, i3]
  have hex : (execOp a.eval ⟨none, .call ⟨.builtin .clear, #[x], #[T]⟩, ty, pos, af, g⟩).run P w = .ok (.value (.tuple #[])) (w.setRow b (C.toList.take (l.length * t.size) ++ (Builtin.zeroCells zv.cells (j - l.length)).toList ++ C.toList.drop (l.length * t.size + (Builtin.zeroCells zv.cells (j - l.length)).toList.length)).toArray) := by
    obtain ⟨m, hm⟩ : ∃ m, j - l.length = m + 1 := ⟨j - l.length - 1, by omega⟩
    rw [hm] at hx hst ⊢
    simp [execOp, resolve, invoke, builtin, opv_ok st.env hx, Builtin.clear_, run_underlying hT, hzz, hst]
  refine wpl_val (wanted_ok (o := ⟨none, .call ⟨.builtin .clear, #[x], #[T]⟩, ty, pos, af, g⟩) st.env hg) hex (k _ _ ?_)
  have hLn : L.set n (own E t (.slice (some ⟨b, 0, none⟩) l.length cap) l) = L := by
    apply List.ext_getElem?
    intro q
    by_cases hq' : q = n
    · subst hq'; rw [List.getElem?_set_self hn, hA]
    · rw [List.getElem?_set_ne (Ne.symm hq')]
  rw [← hLn]
  refine st.upd (S := S) (f := f) (by simpa [Act.put] using st.defers) (by simpa [Act.put] using st.size) (by simpa [Act.put] using st.env) hS0 hS1 h3 h4 n _ (Hp.one b (.cells (C.toList.take (l.length * t.size) ++ (Builtin.zeroCells zv.cells (j - l.length)).toList ++ C.toList.drop (l.length * t.size + (Builtin.zeroCells zv.cells (j - l.length)).toList.length)).toArray E (0, 0))) hn hq rfl rfl rfl (by simp)
    (Hp.one_sub (setRow_heap w b C _ E _ hwb)) (fun b' hb' => by rw [Hp.one_ne hb']; left; rw [hb]; simp) (fun b' _ hb' => setRow_other w b b' _ (fun e => by subst e; rw [hb] at hb'; cases hb')) ?_
  have hle : l.length * t.size ≤ C.size := by rw [hC]; exact Nat.mul_le_mul_right _ hcap
  refine ⟨xs, ⟨hxl, .inr ⟨b, cap, _, rfl, Hp.one_self b _, hcap, hmax, ?_, ?_⟩⟩, hr⟩
  · have hs : C.size = C.toList.length := by simp
    have h5 : (j - l.length) * t.size + l.length * t.size ≤ C.size := by rw [hC, ← Nat.add_mul]; exact Nat.mul_le_mul_right _ (by omega)
    simp only [List.size_toArray, List.length_append, List.length_take, List.length_drop, hzl]
    rw [← hC]
    generalize (j - l.length) * t.size = q1 at *
    generalize l.length * t.size = q2 at *
    rw [← hs]
    omega
  · have hlen : (C.toList.take (l.length * t.size)).length = l.length * t.size := by rw [List.length_take, Array.length_toList]; exact Nat.min_eq_left hle
    have e9 : (C.toList.take (l.length * t.size) ++ (Builtin.zeroCells zv.cells (j - l.length)).toList ++ C.toList.drop (l.length * t.size + (Builtin.zeroCells zv.cells (j - l.length)).toList.length)).take (l.length * t.size) = C.toList.take (l.length * t.size) := by
      rw [List.append_assoc]
      exact List.take_left' hlen
    rw [show ∀ l : List Value, l.toArray.toList = l from fun l => rfl, e9]; exact htk
end
end Go.Fw
