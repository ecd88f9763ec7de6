/- The frame: pieces of code one behind the other, loops, joins, the end of a function; and the small language in which a function's meaning is written. No program in sight. -/
import Derived.Test.YtfekdillbgblkaaFwE
import Derived.KernelRfl
set_option linter.all false
namespace Go.Fw
open Go.RowKit

/-! ### what a piece of a function comes to, as data -/
inductive Fl (ρ β σ : Type) where
  | nx (s : σ)
  | br (b : β)
  | rt (r : ρ)
def bindF {ρ β σ τ : Type} (x : Option (Fl ρ β σ)) (k : σ → Option (Fl ρ β τ)) : Option (Fl ρ β τ) := match x with
  | some (.nx s) => k s
  | some (.br b) => some (.br b)
  | some (.rt r) => some (.rt r)
  | none => none
def bindR {ρ β σ : Type} (x : Option (Fl ρ β σ)) (k : σ → Option ρ) : Option ρ := match x with
  | some (.nx s) => k s
  | some (.rt r) => some r
  | _ => none
def loopM {ρ β σ γ : Type} (body : σ → Option (Fl ρ β σ)) : Nat → σ → Option (Fl ρ γ β)
  | 0, _ => none
  | n + 1, s => match body s with
    | some (.nx s') => loopM body n s'
    | some (.br b) => some (.nx b)
    | some (.rt r) => some (.rt r)
    | none => none
def rangeL {ρ σ α γ : Type} (body : Nat → α → σ → Option (Fl ρ σ σ)) : List α → Nat → σ → Option (Fl ρ γ σ)
  | [], _, s => some (.nx s)
  | x :: l, i, s => match body i x s with
    | some (.nx s') => rangeL body l (i + 1) s'
    | some (.br s') => some (.nx s')
    | some (.rt r) => some (.rt r)
    | none => none
def rangeN {ρ σ γ : Type} (body : Nat → σ → Option (Fl ρ σ σ)) : Nat → Nat → σ → Option (Fl ρ γ σ)
  | 0, _, s => some (.nx s)
  | n + 1, i, s => match body i s with
    | some (.nx s') => rangeN body n (i + 1) s'
    | some (.br s') => some (.nx s')
    | some (.rt r) => some (.rt r)
    | none => none
def idx {α : Type} (l : List α) (i : Int) : Option α := if 0 ≤ i then l[i.toNat]? else none
def wadd (x y : Int) : Int := IntKind.i64.wrap (x + y)
def wsub (x y : Int) : Int := IntKind.i64.wrap (x - y)
def wmul (x y : Int) : Int := IntKind.i64.wrap (x * y)
/-- so much room there is for sure -/
def room : Nat := 68719476736

theorem idx_some {α : Type} {l : List α} {i : Int} {x : α} (h : idx l i = some x) : 0 ≤ i ∧ i < l.length ∧ l[i.toNat]? = some x := by
  unfold idx at h
  split at h
  · rename_i h0
    have := (List.getElem?_eq_some_iff.1 h).1
    exact ⟨h0, by omega, h⟩
  · cases h

/-- a check of the model's own -/
def chk (p : Prop) [Decidable p] : Option Unit := if p then some () else none
theorem chk_some {p : Prop} [Decidable p] {u : Unit} (h : chk p = some u) : p := by
  unfold chk at h
  split at h
  · assumption
  · cases h
theorem bind_some {α β : Type} {x : Option α} {k : α → Option β} {r : β} (h : x.bind k = some r) : ∃ y, x = some y ∧ k y = some r := Option.bind_eq_some_iff.1 h
theorem ite_t {α : Type} {b : Bool} {A B r : α} (hb : b = true) (h : (if b = true then A else B) = r) : A = r := by rw [if_pos hb] at h; exact h
theorem ite_f {α : Type} {b : Bool} {A B r : α} (hb : b = false) (h : (if b = true then A else B) = r) : B = r := by rw [if_neg (by rw [hb]; simp)] at h; exact h
section
variable {ρ β σ τ γ : Type}
theorem bindF_some {x : Option (Fl ρ β σ)} {k : σ → Option (Fl ρ β τ)} {z : Fl ρ β τ} (h : bindF x k = some z) : ∃ y, x = some y ∧ bindF (some y) k = some z := by
  cases x with
  | none => cases h
  | some y => exact ⟨y, rfl, h⟩
theorem bindR_some {x : Option (Fl ρ β σ)} {k : σ → Option ρ} {z : ρ} (h : bindR x k = some z) : ∃ y, x = some y ∧ bindR (some y) k = some z := by
  cases x with
  | none => cases h
  | some y => exact ⟨y, rfl, h⟩
theorem bindR_K {x : Option (Fl ρ β σ)} {k : σ → Option ρ} {z : ρ} (h : bindR x k = some z) : ∃ (y : Fl ρ β σ) (K : Fl ρ β σ → Prop), x = some y ∧ K y ∧ (∀ s, K (.nx s) → k s = some z) ∧ (∀ r, K (.rt r) → r = z) ∧ (∀ b, ¬ K (.br b)) := by
  obtain ⟨y, h1, h2⟩ := bindR_some h
  exact ⟨y, fun y => bindR (some y) k = some z, h1, h2, fun s h => h, fun r h => by simpa [bindR] using h, fun b h => by simp [bindR] at h⟩
theorem bindF_K {x : Option (Fl ρ β σ)} {k : σ → Option (Fl ρ β τ)} {z : Fl ρ β τ} (h : bindF x k = some z) : ∃ (y : Fl ρ β σ) (K : Fl ρ β σ → Prop), x = some y ∧ K y ∧ (∀ s, K (.nx s) → k s = some z) ∧ (∀ r, K (.rt r) → z = .rt r) ∧ (∀ b, K (.br b) → z = .br b) := by
  obtain ⟨y, h1, h2⟩ := bindF_some h
  exact ⟨y, fun y => bindF (some y) k = some z, h1, h2, fun s h => h, fun r h => by simpa [bindF] using h.symm, fun b h => by simpa [bindF] using h.symm⟩
def stepL (body : Nat → τ → σ → Option (Fl ρ σ σ)) (l : List τ) (i : Nat) : Fl ρ σ σ → Option (Fl ρ γ σ)
  | .nx s => rangeL body l (i + 1) s
  | .br s => some (.nx s)
  | .rt r => some (.rt r)
theorem rangeL_some {body : Nat → τ → σ → Option (Fl ρ σ σ)} {x : τ} {l : List τ} {i : Nat} {s : σ} {y : Fl ρ γ σ} (h : rangeL body (x :: l) i s = some y) : ∃ z, body i x s = some z ∧ stepL body l i z = some y := by
  unfold rangeL at h
  cases hb : body i x s with
  | none => rw [hb] at h; cases h
  | some z => rw [hb] at h; cases z <;> exact ⟨_, rfl, h⟩
def stepN (body : Nat → σ → Option (Fl ρ σ σ)) (n : Nat) (i : Nat) : Fl ρ σ σ → Option (Fl ρ γ σ)
  | .nx s => rangeN body n (i + 1) s
  | .br s => some (.nx s)
  | .rt r => some (.rt r)
theorem rangeN_some {body : Nat → σ → Option (Fl ρ σ σ)} {n i : Nat} {s : σ} {y : Fl ρ γ σ} (h : rangeN body (n + 1) i s = some y) : ∃ z, body i s = some z ∧ stepN body n i z = some y := by
  unfold rangeN at h
  cases hb : body i s with
  | none => rw [hb] at h; cases h
  | some z => rw [hb] at h; cases z <;> exact ⟨_, rfl, h⟩
def stepM (body : σ → Option (Fl ρ β σ)) (n : Nat) : Fl ρ β σ → Option (Fl ρ γ β)
  | .nx s => loopM body n s
  | .br b => some (.nx b)
  | .rt r => some (.rt r)
theorem loopM_some {body : σ → Option (Fl ρ β σ)} {n : Nat} {s : σ} {y : Fl ρ γ β} (h : loopM body n s = some y) : ∃ m z, n = m + 1 ∧ body s = some z ∧ stepM body m z = some y := by
  cases n with
  | zero => cases h
  | succ m =>
    unfold loopM at h
    cases hb : body s with
    | none => rw [hb] at h; cases h
    | some z => rw [hb] at h; cases z <;> exact ⟨m, _, rfl, rfl, h⟩
end
theorem wrap_succ (i : Nat) (h : (i : Int) + 1 ≤ 9223372036854775807) : IntKind.i64.wrap ((i : Int) + 1) = ((i + 1 : Nat) : Int) := by
  rw [IntKind.wrap_i64]; omega
theorem binI_succ (i : Nat) (h : (i : Int) + 1 ≤ 9223372036854775807) : binI .add .i64 (i : Int) 1 = some (.int .i64 ((i + 1 : Nat) : Int)) := by
  simp only [binI, wrap_succ i h]
theorem drop_cons {α : Type} {l rest : List α} {i n : Nat} (h : l.drop i = rest) (hn : l.length = n) (hi : i < n) : ∃ x r, rest = x :: r ∧ l[i]? = some x ∧ l.drop (i + 1) = r := by
  subst hn
  refine ⟨l[i], l.drop (i + 1), ?_, by simp [hi], rfl⟩
  rw [← h]; simp

/-! ### code, one piece behind the other -/
def wps (P : Program) (Q : Exit → Act → World → Prop) : List Code → Act → World → Prop
  | [], a, w => Q .normal a w
  | x :: r, a, w => x.wp P (Exit.then (wps P Q r) Q) a w
def GL (P : Program) (Q : Exit → Act → World → Prop) (c : Cx) (l : List Code) (env : Env) (L : List It) : Prop := ∀ a w, St c env L a w → wps P Q l a w

section
variable {P : Program} {Q : Exit → Act → World → Prop} {c : Cx} {env env' : Env} {L L' : List It} {r : List Code}
theorem GL.nil (h : Gx Q c .normal env L) : GL P Q c [] env L := h
theorem GL.seq {x y : Code} (h : GL P Q c (x :: y :: r) env L) : GL P Q c (.seq x y :: r) env L := fun a w st =>
  wp_seq (Go.Code.wp_mono (fun e a w q => by cases e <;> exact q) (h a w st))
theorem GL.skip (h : GL P Q c r env L) : GL P Q c (.skip :: r) env L := fun a w st => wp_skip (h a w st)
theorem RL.finG {ops : Array Oper} (h : GL P Q c r env L) : RL .plain P ops (Exit.then (wps P Q r) Q) c [] env L := RL.fin h
theorem RL.finQG {ops : Array Oper} {n0 : Nat} (h : GL P Q c r env L) : RL (.quiet n0) P ops (Exit.then (wps P Q r) Q) c [] env L := RL.finQ h
theorem GL.nilB {id : Nat} (h : GL P Q c r env L) : GL P (Exit.inBlock id (Exit.then (wps P Q r) Q)) c [] env L := h
theorem Gx.here {id : Nat} (h : GL P Q c r env L) : Gx (Exit.inBlock id (Exit.then (wps P Q r) Q)) c (.exit id) env L := fun a w st => by
  show (if id = id then _ else _)
  rw [if_pos rfl]; exact h a w st
theorem GL.ret (h : Gx Q c .ret env L) : GL P Q c (.ret :: r) env L := fun a w st => wp_ret (h a w st)
theorem GL.exit {id : Nat} (h : Gx Q c (.exit id) env L) : GL P Q c (.exit id :: r) env L := fun a w st => wp_exit (h a w st)
theorem GL.region {id : Nat} {l : List Oper} (h : RL .plain P l.toArray (Exit.then (wps P Q r) Q) c l env L) : GL P Q c (.region id l.toArray false :: r) env L := fun a w st => wp_region_lit (h a w st)
theorem Below.drew' {B : Nat} {a w : World} (h : Below B a w) : Below B a { w with drawn := w.drawn + 1 } := ⟨h.os, h.tape, h.output, h.size, h.block⟩
theorem HeapOk.drew {B : Nat} {S : Hp} {f : Nat → Hp} {n : Nat} {w : World} (h : HeapOk B S f n w) : HeapOk B S f n { w with drawn := w.drawn + 1 } := ⟨h.sub, h.subf, h.dS, h.df, h.lo⟩
theorem St.drew {a : Act} {w : World} (hq : c.still = false) (st : St c env L a w) : St c env L a { w with drawn := w.drawn + 1 } := by
  obtain ⟨S, f, e1, e2, e3, e4⟩ := st.heap
  exact ⟨st.defers, st.size, st.env, Below.drew' st.below, (fun q => by rw [hq] at q; cases q), S, f, e1, e2, e3.drew, e4⟩
/-- a region that draws its order and only reads -/
theorem GL.regionQ {id : Nat} {l : List Oper} (hq : c.still = false) (hm : P.follows .mixedOrders = true) (hB : Region.lexB .any l.toArray = true)
    (h : RL (.quiet L.length) P l.toArray (Exit.then (wps P Q r) Q) c l env L) : GL P Q c (.region id l.toArray true :: r) env L := fun a w st => by
  have st' := st.drew hq
  obtain ⟨S, f, e1, e2, e3, e4⟩ := st.heap
  have hits : Its L S (fcat f L.length fun _ => Hp.emp) := fun i A hA => by
    have hi := (List.getElem?_eq_some_iff.1 hA).1
    unfold fcat; rw [if_pos hi]; exact e4 i A hA
  have := h S f e1 e2 (Nat.le_refl _) hits a st.defers st.size st.env
  exact wp_region_quiet (C := Cl c S f L.length) hm hB ⟨e3.drew, st'.below, hq⟩ (by simpa using this)
/-- a region that draws its order, only reads, and then does a few things in one forced order -/
theorem GL.regionH {id : Nat} {l : List Oper} (n : Nat) (hq : c.still = false) (hm : P.follows .mixedOrders = true) (hB : Region.lexTailB .any l.toArray n = true)
    (h : RL (.head (l.drop n)) P l.toArray (Exit.then (wps P Q r) Q) c (l.take n) env L) : GL P Q c (.region id l.toArray true :: r) env L := fun a w st =>
  wp_region_still_tail n hm hB (h a { w with drawn := w.drawn + 1 } (st.drew hq))
theorem GL.cond {x : Operand} {A B : Code} {b : Bool} (hx : opv env x = some (.bool b)) (h1 : b = true → GL P Q c (A :: r) env L) (h2 : b = false → GL P Q c (B :: r) env L) : GL P Q c (.cond x A B :: r) env L := fun a w st =>
  wp_cond_split (opv_ok st.env hx) (fun h => h1 h a w st) (fun h => h2 h a w st)
theorem GL.block {id : Nat} {b : Code} (h : GL P (Exit.inBlock id (Exit.then (wps P Q r) Q)) c [b] env L) : GL P Q c (.block id b :: r) env L := fun a w st =>
  wp_block (Go.Code.wp_mono (fun e a w q => by cases e <;> exact q) (h a w st))
theorem GL.weak (h : ∀ a w, St c env L a w → St c env' L' a w) (k : GL P Q c r env' L') : GL P Q c r env L := fun a w st => k a w (h a w st)
/-- what is learned of an item -/
theorem GL.open_ {α : Type} {t : TR α} {v : Value} {dt : α} {K : Prop} (n : Nat) (hA : L[n]? = some (imm t v dt)) (hK : ∀ S, t.vrep S v dt → K) (k : K → GL P Q c r env L) : GL P Q c r env L := by
  intro a w st
  obtain ⟨S, f, _, _, h⟩ := st.has hA
  exact k (hK S h) a w st
theorem mid_intro {ι : Type} {E : ι → Env} {M : ι → List It} {G : ι → Prop} {a : Act} {w : World} (s : ι) (hG : G s) (st : St c (E s) (M s) a w) : ∃ s, G s ∧ St c (E s) (M s) a w := ⟨s, hG, st⟩
theorem lop_intro {ι : Type} {E : ι → Env} {M : ι → List It} {G : ι → Prop} {μ : ι → Nat} {n : Nat} {a : Act} {w : World} (s : ι) (hG : G s) (hn : μ s < n) (st : St c (E s) (M s) a w) : ∃ s, G s ∧ μ s < n ∧ St c (E s) (M s) a w := ⟨s, hG, hn, st⟩
/-- two ways meet again -/
theorem GL.join {ι : Type} {x : Code} (E : ι → Env) (M : ι → List It) (G : ι → Prop) (h1 : GL P (Exit.then (fun a w => ∃ s, G s ∧ St c (E s) (M s) a w) Q) c [x] env L) (h2 : ∀ s, G s → GL P Q c r (E s) (M s)) : GL P Q c (x :: r) env L := fun a w st =>
  Go.Code.wp_mono (fun e a w q => by
    cases e with
    | normal => obtain ⟨s, g, st⟩ := q; exact h2 s g a w st
    | _ => exact q) (h1 a w st)
theorem exists_least {p : Nat → Prop} (h : ∃ n, p n) : ∃ n, p n ∧ ∀ m, p m → n ≤ m := by
  obtain ⟨n, hn⟩ := h
  induction n using Nat.strongRecOn with
  | _ n ih =>
    by_cases hex : ∃ m, m < n ∧ p m
    · obtain ⟨m, hm, hp⟩ := hex; exact ih m hm hp
    · exact ⟨n, hn, fun m hm => by
        refine Classical.byContradiction fun hlt => hex ⟨m, by omega, hm⟩⟩
theorem GL.loop {ι : Type} {b : Code} (E : ι → Env) (M : ι → List It) (G : ι → Prop) (μ : ι → Nat) (s0 : ι) (h0 : G s0) (start : ∀ a w, St c env L a w → St c (E s0) (M s0) a w)
    (round : ∀ s, G s → GL P (Exit.then (fun a w => ∃ s', G s' ∧ μ s' < μ s ∧ St c (E s') (M s') a w) Q) c [b] (E s) (M s)) : GL P Q c (.loop b :: r) env L := fun a w st => by
  let I : Nat → Act → World → Prop := fun n a w => ∃ s, G s ∧ μ s = n ∧ St c (E s) (M s) a w
  have least : ∀ a w, ∃ n, (∃ m, I m a w) → I n a w ∧ ∀ m, I m a w → n ≤ m := fun a w => by
    by_cases h : ∃ m, I m a w
    · obtain ⟨n, h1, h2⟩ := exists_least h; exact ⟨n, fun _ => ⟨h1, h2⟩⟩
    · exact ⟨0, fun h' => absurd h' h⟩
  let ν : Act → World → Nat := fun a w => Classical.choose (least a w)
  have hν : ∀ a w, (∃ m, I m a w) → I (ν a w) a w ∧ ∀ m, I m a w → ν a w ≤ m := fun a w => Classical.choose_spec (least a w)
  refine wp_loop (fun a w => ∃ m, I m a w) ν ⟨_, s0, h0, rfl, start a w st⟩ fun a w hI => ?_
  obtain ⟨⟨s, g, hs, st⟩, hmin⟩ := hν a w hI
  refine Go.Code.wp_mono (fun e a' w' q => ?_) (round s g a w st)
  cases e with
  | normal =>
    obtain ⟨s', g', hlt, st'⟩ := q
    have hI' : ∃ m, I m a' w' := ⟨_, s', g', rfl, st'⟩
    exact ⟨hI', by have := (hν a' w' hI').2 _ ⟨s', g', rfl, st'⟩; omega⟩
  | _ => exact q
end

/-! ### a function, entered and left -/
def ArgsAre (args : Array Value) : Env → Prop
  | [] => True
  | p :: r => args[p.1]? = some p.2 ∧ ArgsAre args r
theorem ArgsAre.look {args : Array Value} : ∀ {env : Env}, ArgsAre args env → ∀ {t : Nat} {v : Value}, Fw.look env t = some v → args[t]? = some v
  | [], _, _, _, e => by cases e
  | p :: r, h, t, v, e => by
    simp only [Fw.look] at e
    split at e
    · rename_i hp
      cases e
      rw [← hp]; exact h.1
    · exact ArgsAre.look h.2 e
def AllP (S : Hp) : List It → Prop
  | [] => True
  | A :: r => A.P S Hp.emp ∧ AllP S r
theorem AllP.at {S : Hp} : ∀ {L : List It}, AllP S L → ∀ (i : Nat) (A : It), L[i]? = some A → A.P S Hp.emp
  | [], _, _, _, e => by simp at e
  | B :: r, h, 0, A, e => by simp at e; subst e; exact h.1
  | B :: r, h, i + 1, A, e => AllP.at h.2 i A (by simpa using e)
theorem calls_enter {P : Program} {fid : FuncId} {fn : Func} {code : Code} (nt : Nat) (hf : P.funcs[fid]? = some fn) (hnt : fn.ntmps = nt) (hb : fn.body = some code) {args : Array Value} {w : World} {R : Ending → World → Prop} (S : Hp) (still : Bool) (env : Env) (L : List It)
    (hn : Nat.ble args.size nt = true) (he : ArgsAre args env) (hS : S.sub w) (hL : AllP S L)
    (h : GL P (bodyPost P fn R) ⟨w, S, nt, still, []⟩ [code] env L) : Calls P fid args w R := by
  refine calls_of_wp hf hb (Go.Code.wp_mono (fun e a w q => by cases e <;> exact q) (h _ w ?_))
  have hn' := Nat.le_of_ble_eq_true hn
  refine ⟨rfl, by simp [hnt]; omega, ?_, Below.refl _ _, fun _ => rfl, S, fun _ => Hp.emp, Hp.le_refl S, fun b hb => .inl hb, ⟨hS, fun _ _ => Hp.sub_emp w, fun _ _ => Hp.dj_emp S, fun _ _ _ _ _ => Hp.dj_emp _, fun _ _ b hb => absurd rfl hb⟩, fun i A hA => hL.at i A hA⟩
  intro t v e
  have := he.look e
  obtain ⟨h1, h2⟩ := Array.getElem?_eq_some_iff.1 this
  simp only
  rw [Array.getElem?_append_left h1]
  exact this
section
variable {P : Program} {fn : Func} {c : Cx} {env : Env} {L : List It}
theorem Gx.ret {R : Ending → World → Prop} {v : Value} (hr : ∀ a w, EnvOk env a → (results fn a.tmps).run P w = .ok v w) (h : ∀ a w, St c env L a w → R (.returned v) w) (hd : c.dfs = [] := by rfl) : Gx (bodyPost P fn R) c .ret env L := fun a w st => ⟨st.defers.trans hd, v, hr a w st.env, h a w st⟩
theorem res1 {t : Tmp} {v : Value} (h : fn.results = #[.tmp t]) (hv : look env t = some v) (a : Act) (w : World) (he : EnvOk env a) : (results fn a.tmps).run P w = .ok v w := by
  rw [results_tmp h]
  have := look_ok he hv
  obtain ⟨h1, h2⟩ := Array.getElem?_eq_some_iff.1 this
  simp [h1, h2]
theorem res2 {t u : Tmp} {v x : Value} (h : fn.results = #[.tmp t, .tmp u]) (hv : look env t = some v) (hx : look env u = some x) (a : Act) (w : World) (he : EnvOk env a) : (results fn a.tmps).run P w = .ok (.tuple #[v, x]) w := by
  rw [results_tmp2 h]
  obtain ⟨h1, h2⟩ := Array.getElem?_eq_some_iff.1 (look_ok he hv)
  obtain ⟨h3, h4⟩ := Array.getElem?_eq_some_iff.1 (look_ok he hx)
  simp [h1, h2, h3, h4]
theorem res3 {t u s : Tmp} {v x y : Value} (h : fn.results = #[.tmp t, .tmp u, .tmp s]) (hv : look env t = some v) (hx : look env u = some x) (hy : look env s = some y) (a : Act) (w : World) (he : EnvOk env a) : (results fn a.tmps).run P w = .ok (.tuple #[v, x, y]) w := by
  obtain ⟨h1, h2⟩ := Array.getElem?_eq_some_iff.1 (look_ok he hv)
  obtain ⟨h3, h4⟩ := Array.getElem?_eq_some_iff.1 (look_ok he hx)
  obtain ⟨h5, h6⟩ := Array.getElem?_eq_some_iff.1 (look_ok he hy)
  simp [results, h, h1, h2, h3, h4, h5, h6]
theorem res4 {t u s q : Tmp} {v x y z : Value} (h : fn.results = #[.tmp t, .tmp u, .tmp s, .tmp q]) (hv : look env t = some v) (hx : look env u = some x) (hy : look env s = some y) (hz : look env q = some z) (a : Act) (w : World) (he : EnvOk env a) : (results fn a.tmps).run P w = .ok (.tuple #[v, x, y, z]) w := by
  obtain ⟨h1, h2⟩ := Array.getElem?_eq_some_iff.1 (look_ok he hv)
  obtain ⟨h3, h4⟩ := Array.getElem?_eq_some_iff.1 (look_ok he hx)
  obtain ⟨h5, h6⟩ := Array.getElem?_eq_some_iff.1 (look_ok he hy)
  obtain ⟨h7, h8⟩ := Array.getElem?_eq_some_iff.1 (look_ok he hz)
  simp [results, h, h1, h2, h3, h4, h5, h6, h7, h8]
theorem St.toPostV {a : Act} {w : World} {v : Value} (st : St c env L a w) : PostV c.w0 v (.returned v) w := ⟨rfl, st.below⟩
theorem St.toPostC {a : Act} {w : World} {v : Value} (hs : c.still = true) (st : St c env L a w) : PostC c.w0 v (.returned v) w := ⟨rfl, st.calm hs⟩
theorem St.toPost {O : Type} {V : O → Value} {LR : O → List It} {a : Act} {w : World} (o : O) (st : St c env (LR o) a w) : Post c.w0 c.S0 V LR (.returned (V o)) w := by
  obtain ⟨S, f, e1, e2, e3, e4⟩ := st.heap
  exact ⟨o, rfl, st.below, S, f, e1, e3.sub, e2, fun i hi => ⟨e3.subf i hi, e3.dS i hi, e3.lo i hi⟩, e3.df, e4⟩
end
/-! ### more steps -/
def mkPlaces : Nat → List (List Value) → List (Nat × Nat)
  | _, [] => []
  | o, s :: r => (o, s.length) :: mkPlaces (o + s.length) r
theorem mkPlaces_at : ∀ (o : Nat) (zs : List (List Value)) (i : Nat) (s : List Value), zs[i]? = some s → (mkPlaces o zs)[i]? = some (o + (zs.take i).flatten.length, s.length)
  | _, [], _, _, h => by simp at h
  | o, z :: r, 0, s, h => by simp at h; subst h; simp [mkPlaces]
  | o, z :: r, i + 1, s, h => by
    have := mkPlaces_at (o + z.length) r i s (by simpa using h)
    simp only [mkPlaces, List.getElem?_cons_succ, this, List.take_succ_cons, List.flatten_cons, List.length_append, Nat.add_assoc]
def SzOk (zs : List (List Value)) (L : List It) : List (Nat × Value) → Prop
  | [] => True
  | p :: r => (∃ (s : List Value) (β : Type) (t : TR β) (e : β), zs[p.1]? = some s ∧ s.length = t.size ∧ VR t p.2 e L) ∧ SzOk zs L r
theorem SzOk.all {zs : List (List Value)} {L : List It} {S : Hp} {f : Nat → Hp} (hi : Its L S f) : ∀ {pv : List (Nat × Value)}, SzOk zs L pv → ∀ p ∈ pv, ∃ s, zs[p.1]? = some s ∧ p.2.cells.toList.length = s.length
  | [], _, p, hp => by cases hp
  | q :: r, h, p, hp => by
    rcases List.mem_cons.1 hp with rfl | hp
    · obtain ⟨⟨s, β, t, e, h1, h2, h3⟩, _⟩ := h
      obtain ⟨cs, h4, h5⟩ := cells_vrep (h3 S f hi)
      exact ⟨s, h1, by rw [h4, t.len h5, h2]⟩
    · exact SzOk.all hi h.2 p hp
/-- one cell, known from what it reads as -/
def Ex {α : Type} (r : TR α) (enc : α → Value) : Prop := ∀ S cs e, r.rep S cs e → mkv r.agg cs = enc e
theorem Ex.ik {k : IntKind} : Ex (TR.ik k) (fun x => .int k x) := fun _ cs e h => by have h' : cs = [.int k e] := h; rw [h']; rfl
theorem Ex.bool : Ex TR.bool (fun x => .bool x) := fun _ cs e h => by have h' : cs = [.bool e] := h; rw [h']; rfl
theorem Ex.str : Ex TR.str (fun x => .string ⟨x.toArray⟩) := fun _ cs e h => by have h' : cs = [.string ⟨e.toArray⟩] := h; rw [h']; rfl
section
variable {md : Md} {P : Program} {ops : Array Oper} {Q : Exit → Act → World → Prop} {c : Cx} {rest : List Oper} {env : Env} {L : List It}
variable {d : Nat} {ty : TypeId} {pos : String} {af : Array Edge} {g : Option (Nat × Bool)}
theorem RL.ldSx {α β : Type} {t : TR α} {r : TR β} {l : List α} {v : Value} {x : Operand} {T : TypeId} {i off : Nat} {e : α} {e' : β} {enc : β → Value} (n : Nat) (hx' : Ex r enc) {A : It} (hE : Ln P T r.size r.agg) (hg : wanted ops env g = some true) (hd : Slot c d)
    (hx : opv env x = some (adr v (i * t.size + off))) (hA : L[n]? = some A) (hs : SlOf A t v l) (he : l[i]? = some e) (hp : Part t e off r e')
    (k : RL md P ops Q c rest (put env d (enc e')) L) : RL md P ops Q c (⟨some d, .load T x, ty, pos, af, g⟩ :: rest) env L :=
  RL.rd (X := fun u Lx => u = enc e' ∧ Lx = []) hg hd (fun S f hi _ => by
    obtain ⟨cs, h1, h2⟩ := ldS_rd (ty := ty) (pos := pos) (af := af) (g := g) (d := d) n hE hx hA hs he hp S f hi
    exact ⟨_, [], ⟨rfl, rfl⟩, fun i A hA => by simp at hA, by rw [← hx' S cs e' h1]; exact h2⟩) (by rintro _ _ ⟨rfl, rfl⟩; rw [List.append_nil]; exact k)
theorem RL.ldPx {α β : Type} {t : TR α} {r : TR β} {dt : α} {v : Value} {x : Operand} {T : TypeId} {off : Nat} {e' : β} {enc : β → Value} (n : Nat) (hx' : Ex r enc) {A : It} (hE : Ln P T r.size r.agg) (hg : wanted ops env g = some true) (hd : Slot c d)
    (hx : opv env x = some (adr v off) ∨ (opv env x = some v ∧ off = 0)) (hA : L[n]? = some A) (hs : PtOf A t v dt) (hp : Part t dt off r e')
    (k : RL md P ops Q c rest (put env d (enc e')) L) : RL md P ops Q c (⟨some d, .load T x, ty, pos, af, g⟩ :: rest) env L :=
  RL.rd (X := fun u Lx => u = enc e' ∧ Lx = []) hg hd (fun S f hi _ => by
    obtain ⟨cs, h1, h2⟩ := ldP_rd (ty := ty) (pos := pos) (af := af) (g := g) (d := d) n hE hx hA hs hp S f hi
    exact ⟨_, [], ⟨rfl, rfl⟩, fun i A hA => by simp at hA, by rw [← hx' S cs e' h1]; exact h2⟩) (by rintro _ _ ⟨rfl, rfl⟩; rw [List.append_nil]; exact k)
/-- a bool of the frame, either way -/
theorem RL.split {t : Nat} {b : Bool} (hl : look env t = some (.bool b)) (h1 : b = true → RL md P ops Q c rest (put env t (.bool true)) L) (h2 : b = false → RL md P ops Q c rest (put env t (.bool false)) L) : RL md P ops Q c rest env L := by
  have key : ∀ u, b = u → ∀ a, EnvOk env a → EnvOk (put env t (.bool u)) a := by
    intro u hu a he k v hk
    simp only [put, look] at hk
    split at hk
    · rename_i hkt
      subst hkt
      cases hk
      rw [← hu]; exact he _ _ hl
    · exact he _ _ hk
  have all : ∀ u, b = u → RL md P ops Q c rest (put env t (.bool u)) L → RL md P ops Q c rest env L := by
    intro u hu h
    cases md with
    | plain => exact fun a w st => h a w (st.mk_env rfl rfl (key u hu a st.env))
    | head tail => exact fun a w st => h a w (st.mk_env rfl rfl (key u hu a st.env))
    | quiet n0 => exact fun S f e1 e2 e3 e4 a de s e => h S f e1 e2 e3 e4 a de s (key u hu a e)
  cases hb : b with
  | true => exact all true hb (h1 hb)
  | false => exact all false hb (h2 hb)
theorem RL.pickT {x y z : Operand} {u : Value} (hg : wanted ops env g = some true) (hd : Slot c d) (hx : opv env x = some (.bool true)) (hy : opv env y = some u)
    (k : RL md P ops Q c rest (put env d u) L) : RL md P ops Q c (⟨some d, .pick x y z, ty, pos, af, g⟩ :: rest) env L :=
  RL.val hg hd (fun S f a w st => by simp [execOp, opv_ok st.env hx, asBool, opv_ok st.env hy]) k
theorem RL.bld {α : Type} {t : TR α} {d0 : α} {zs : List (List Value)} {T : TypeId} {parts : Array (Nat × Operand)} {pv : List (Nat × Value)} (hag : t.agg = true) (hB : ∀ pv, P.built T pv = Instr.fill ((mkPlaces 0 zs).toArray[·]?) zs.flatten.toArray pv)
    (hg : wanted ops env g = some true) (hd : Slot c d) (hx : parts.toList.map (fun p => (p.1, opv env p.2)) = pv.map fun p => (p.1, some p.2)) (hsz : SzOk zs L pv) (hrep : ∀ S f, Its L S f → t.rep S (segs zs pv).flatten d0)
    (k : ∀ u, RL md P ops Q c rest (put env d u) (L ++ [imm t u d0])) : RL md P ops Q c (⟨some d, .build T parts, ty, pos, af, g⟩ :: rest) env L := by
  refine RL.rd (X := fun u Lx => Lx = [imm t u d0]) hg hd (fun S f hi _ => ?_) (by rintro u _ rfl; exact k u)
  refine ⟨.agg (segs zs pv).flatten.toArray, _, rfl, ?_, fun a w vw => ?_⟩
  · intro j B hB'
    match j, hB' with
    | 0, hB' => simp at hB'; subst hB'; exact ⟨_, by simp [mkv, hag], hrep S f hi⟩
  · have hpv : (parts.map fun (x : Nat × Operand) => (x.1, a.eval x.2)).toList = pv := by
      rw [Array.toList_map]
      apply List.ext_getElem?
      intro j
      have := congrArg (fun l => l[j]?) hx
      simp only [List.getElem?_map] at this ⊢
      cases hj : parts.toList[j]? with
      | none =>
        rw [hj] at this
        cases hv : pv[j]? with
        | none => rfl
        | some q => rw [hv] at this; simp at this
      | some p =>
        rw [hj] at this
        cases hv : pv[j]? with
        | none => rw [hv] at this; simp at this
        | some q =>
          rw [hv] at this
          simp at this
          simp only [Option.map_some, opv_ok vw.env this.2, this.1]
    have hfill : P.built T (parts.map fun (x : Nat × Operand) => (x.1, a.eval x.2)).toList = some (segs zs pv).flatten.toArray := by
      rw [hpv, hB]
      exact fill_segs _ pv zs (fun i s hs => by simpa using mkPlaces_at 0 zs i s hs) (hsz.all hi)
    have hr := run_build (P := P) w T _ _ hfill
    simp only [execOp, Sem.run_bind, hr]; rfl
theorem RL.mkF {fid : FuncId} {caps : Array Operand} {vs : List Value} (hg : wanted ops env g = some true) (hd : Slot c d) (hx : caps.toList.map (opv env) = vs.map some)
    (k : RL md P ops Q c rest (put env d (.func (.func fid) #[] vs.toArray)) L) : RL md P ops Q c (⟨some d, .makeFunc (.func fid) #[] caps, ty, pos, af, g⟩ :: rest) env L :=
  RL.val hg hd (fun S f a w st => by simp [execOp, Instr.makeFunc, args_ok st.env hx]) k
theorem RL.pickF {x y z : Operand} {u : Value} (hg : wanted ops env g = some true) (hd : Slot c d) (hx : opv env x = some (.bool false)) (hz : opv env z = some u)
    (k : RL md P ops Q c rest (put env d u) L) : RL md P ops Q c (⟨some d, .pick x y z, ty, pos, af, g⟩ :: rest) env L :=
  RL.val hg hd (fun S f a w st => by simp [execOp, opv_ok st.env hx, asBool, opv_ok st.env hz]) k
end
theorem St.nilOwn {c : Cx} {env : Env} {L : List It} {a : Act} {w : World} {α : Type} (e : TypeId) (t : TR α) (st : St c env L a w) : St c env (L ++ [own e t (.slice none 0 0) []]) a w :=
  st.note fun _ _ _ _ => ⟨[], ⟨by simp, .inl ⟨rfl, rfl⟩⟩, rfl⟩
theorem St.nilImm {c : Cx} {env : Env} {L : List It} {a : Act} {w : World} {α : Type} (t : TR α) (st : St c env L a w) : St c env (L ++ [imm t.sl (.slice none 0 0) []]) a w :=
  st.note fun S f _ _ => VR.nil (L := []) S f (fun i A hA => by simp at hA)
theorem len_imm {α : Type} {t : TR α} {v : Value} {l : List α} (S : Hp) (h : t.sl.vrep S v l) : l.length ≤ 9223372036854775807 := by
  obtain ⟨cs, _, u, xs, _, ⟨_, cap, _, h1, h2, _⟩, _⟩ := h
  simp only [maxLen] at h2; omega
/-- the length of what is owned -/
theorem GL.lenOwn {P : Program} {Q : Exit → Act → World → Prop} {c : Cx} {r : List Code} {env : Env} {L : List It} {α : Type} {e : TypeId} {t : TR α} {v : Value} {l : List α} (n : Nat) (hA : L[n]? = some (own e t v l)) (k : l.length ≤ 9223372036854775807 → GL P Q c r env L) : GL P Q c r env L := by
  intro a w st
  obtain ⟨S, f, _, _, h⟩ := st.has hA
  obtain ⟨xs, h1, _⟩ := h
  obtain ⟨_, cap, _, h3, h4, _⟩ := slAt_of_own h1
  exact k (by simp only [maxLen] at h4; omega) a w st
end Go.Fw

set_option linter.all false
namespace Go.Fw
theorem Ln.of {P : Program} {T : TypeId} {z : Option Value} {sz b : Nat} {d : TypeDesc} {ag : Bool} (h : (P.info? T).map (fun i => (i.zero, i.size, i.bytes)) = some (z, sz, b)) (hu : P.underlying T = some d) (hd : aggDesc d = ag) : Ln P T sz ag := by
  cases hi : P.info? T with
  | none => rw [hi] at h; cases h
  | some i =>
    rw [hi] at h
    simp at h
    exact ⟨i, d, hi, h.2.1, hu, hd⟩
theorem LnO.of {P : Program} {T : TypeId} {z : Value} {sz b : Nat} {zc : List Value} (h : (P.info? T).map (fun i => (i.zero, i.size, i.bytes)) = some (some z, sz, b)) (hz : z.cells.toList = zc) (hl : zc.length = sz) (h0 : 0 < sz) (hb : b ≤ 1024) : LnO P T sz zc := by
  cases hi : P.info? T with
  | none => rw [hi] at h; cases h
  | some i =>
    rw [hi] at h
    simp at h
    exact ⟨i, z, hi, h.2.1, h.1, hz, hl, h0, by rw [h.2.2]; exact hb⟩
theorem Fit.of {P : Program} {f : FuncId} {fn : Func} (h : P.funcs[f]? = some fn) (h1 : (fn.name == "runtime.NumGoroutine") = false) (h2 : fn.body.isNone = false) : Fit P f := ⟨fn, h, h1, h2⟩
end Go.Fw
