/- Regions that draw their order: operations that only compute go first, what is forced goes in its order, what only reads ahead of a write is sunk into it. No program in sight. -/
import Derived.Test.YtfekdillbgblkaaFwG
set_option linter.all false
namespace Go.Fw
open Go.RowKit Go.Region

section
variable {P : Program} {ops : Array Oper} {md : Region.Mode} {w : World}

/-- 'hd' holds operations that only read, each of them waited for by a later one or by n; whatever else is left waits for n or for something else that is left -/
def hdB (ops : Array Oper) (hd : List Nat) (n : Nat) (l0 : Array Bool) : Bool :=
  decide (l0.size = ops.size) && !(hd.contains n) &&
  hd.all (fun i => decide (i < ops.size) && (List.range ops.size).any fun j => decide (i < j) && (hd.contains j || j == n) && Region.waitsFor .any ops j i) &&
  (List.range ops.size).all (fun t => hd.contains t || l0.getD t true || t == n || (List.range ops.size).any fun s => !(hd.contains s) && !(l0.getD s true) && Region.waitsFor .any ops t s)
def lexHd (ops : Array Oper) : List Nat → Array Bool → Bool
  | [], _ => true
  | k :: r, l => (Region.ready .any ops l).contains k && Region.free .any ops l k && lexHd ops r (l.setIfInBounds k true)
def setAll : List Nat → Array Bool → Array Bool
  | [], l => l
  | k :: r, l => setAll r (l.setIfInBounds k true)
structure HdInv (ops : Array Oper) (hd : List Nat) (l0 listed : Array Bool) : Prop where
  size : listed.size = ops.size
  closed : ∀ j oj, hd.contains j = true → ops[j]? = some oj → listed.getD j false = true → ∀ e ∈ oj.after, Region.binds .any e = true → listed.getD e.on false = true
  late : ∀ t, t < ops.size → hd.contains t = false → l0.getD t true = false → listed.getD t true = false
theorem HdInv.set {hd : List Nat} {l0 listed : Array Bool} {i : Nat} (inv : HdInv ops hd l0 listed) (hi : i ∈ Region.ready .any ops listed) (hin : hd.contains i = true) : HdInv ops hd l0 (listed.setIfInBounds i true) := by
  obtain ⟨_, oi, hoi, hall⟩ := mem_ready.1 hi
  refine ⟨by simp [inv.size], fun j oj hjh hj hl e he hb => ?_, fun t ht h1 h2 => ?_⟩
  · by_cases hij : i = j
    · subst hij
      have : oj = oi := Option.some.inj (hj.symm.trans hoi)
      subst this
      exact getD_set_true (hall e he hb)
    · rw [getD_set_ne false hij] at hl
      exact getD_set_true (inv.closed j oj hjh hj hl e he hb)
  · have hne : i ≠ t := fun e => by subst e; rw [hin] at h1; cases h1
    rw [getD_set_ne true hne]; exact inv.late t ht h1 h2
theorem late_waits {hd : List Nat} {n : Nat} {l0 listed : Array Bool} (hB : hdB ops hd n l0 = true) (inv : HdInv ops hd l0 listed) :
    ∀ (d i : Nat), ops.size - i = d → hd.contains i = true → listed.getD i true = false → ∀ t, hd.contains t = false → l0.getD t true = false → t ∉ Region.ready .any ops listed := by
  simp only [hdB, Bool.and_eq_true, decide_eq_true_eq] at hB
  obtain ⟨⟨⟨hsz, hnn⟩, hs⟩, hc⟩ := hB
  intro d
  induction d using Nat.strongRecOn with
  | _ d ih =>
    intro i hd' hi hun t ht h0 hr
    obtain ⟨_, ot, hot, hall⟩ := mem_ready.1 hr
    have htlt : t < ops.size := (Array.getElem?_eq_some_iff.1 hot).1
    by_cases htn : t = n
    · subst htn
      have h1 := List.all_eq_true.1 hs i (by simpa using hi)
      simp only [Bool.and_eq_true, decide_eq_true_eq] at h1
      obtain ⟨hilt, h1⟩ := h1
      obtain ⟨j, hj, hj2⟩ := List.any_eq_true.1 h1
      simp only [Bool.and_eq_true, decide_eq_true_eq, Bool.or_eq_true, beq_iff_eq] at hj2
      obtain ⟨⟨hij, hj3⟩, hj4⟩ := hj2
      obtain ⟨oj, hoj, e, he, hb, hon⟩ := Region.waitsFor_spec hj4
      have hjs : j < ops.size := List.mem_range.1 hj
      by_cases hjt : j = t
      · subst hjt
        have : oj = ot := Option.some.inj (hoj.symm.trans hot)
        subst this
        have h2 := hall e he hb
        rw [hon, getD_both hun] at h2
        cases h2
      · have hjh : hd.contains j = true := by
          rcases hj3 with h | h
          · exact h
          · exact absurd h hjt
        cases hl : listed.getD j false with
        | true =>
          have h2 := inv.closed j oj hjh hoj hl e he hb
          rw [hon, getD_both hun] at h2
          cases h2
        | false =>
          exact ih (ops.size - j) (by omega) j rfl hjh (getD_in (by rw [inv.size]; exact hjs) hl) t ht h0 hr
    · have h1 := List.all_eq_true.1 hc t (List.mem_range.2 htlt)
      simp only [Bool.or_eq_true, beq_iff_eq] at h1
      rcases h1 with ((h1 | h1) | h1) | h1
      · rw [ht] at h1; cases h1
      · rw [h0] at h1; cases h1
      · exact htn h1
      · obtain ⟨s, hs1, hs2⟩ := List.any_eq_true.1 h1
        simp only [Bool.and_eq_true, Bool.not_eq_true'] at hs2
        obtain ⟨⟨hs3, hs4⟩, hs5⟩ := hs2
        obtain ⟨o', ho', e, he, hb, hon⟩ := Region.waitsFor_spec hs5
        have : o' = ot := Option.some.inj (ho'.symm.trans hot)
        subst this
        have h2 := hall e he hb
        rw [hon, getD_both (inv.late s (List.mem_range.1 hs1) hs3 hs4)] at h2
        cases h2
def wpAnyH (P : Program) (ops : Array Oper) (w : World) (hd : List Nat) (Lq : Array Bool → Act → Prop) : Nat → Array Bool → Act → Prop
  | 0, listed, a => Lq listed a
  | f + 1, listed, a =>
    Region.ready .any ops listed ≠ [] ∧ ∀ i ∈ Region.ready .any ops listed, hd.contains i = true ∧ stOp P ops w i (wpAnyH P ops w hd Lq f (listed.setIfInBounds i true)) a
theorem wpAny_of_hd {hd : List Nat} {g : Nat} {Lq : Array Bool → Act → Prop} {Q' : Exit → Act → World → Prop} (hL : ∀ listed a, Lq listed a → wpAny P .any ops Q' g listed a w) :
    ∀ (f : Nat) (listed : Array Bool) (a : Act), wpAnyH P ops w hd Lq f listed a → wpAny P .any ops Q' (f + g) listed a w
  | 0, listed, a, h => by rw [Nat.zero_add]; exact hL _ _ h
  | f + 1, listed, a, h => by
    rw [show f + 1 + g = (f + g) + 1 by omega]
    exact ⟨fun h0 => absurd h0 h.1, fun i hi => wpOp_of_stOp (fun a' h' => wpAny_of_hd hL f _ a' h') (h.2 i hi).2⟩
theorem wpAnyH_first {hd : List Nat} {n i : Nat} {l0 : Array Bool} {oi : Oper} {v : Value} {Lq : Array Bool → Act → Prop} (hi : ops[i]? = some oi) (hsel : ∀ (j : Nat) (o : Oper) cs b, ops[j]? = some o → o.op ≠ .select cs b)
    (hB : hdB ops hd n l0 = true) (hin : hd.contains i = true) (hl0 : ∀ t, l0.getD t true = true → t ∉ hd → ∀ listed : Array Bool, HdInv ops hd l0 listed → (∀ k, l0.getD k true = true → listed.getD k true = true) → listed.getD t true = true)
    (hdone : ∀ listed a, Lq listed a → ∀ j ∈ Region.ready .any ops listed, hd.contains j = false) :
    ∀ (f : Nat) (listed : Array Bool) (a : Act), HdInv ops hd l0 listed → (∀ k, l0.getD k true = true → listed.getD k true = true) →
      (∀ j oj, ops[j]? = some oj → j ≠ i → listed.getD j true = false → (∀ e ∈ oj.after, Region.binds .any e = true → e.on ≠ i) → oi.apart ops oj = true) →
      i ∈ Region.ready .any ops listed → YieldsAt P ops w oi v a →
      wpAnyH P ops w hd Lq f (listed.setIfInBounds i true) (a.put oi.dst v) → wpAnyH P ops w hd Lq (f + 1) listed a := by
  intro f
  have inhd : ∀ listed : Array Bool, HdInv ops hd l0 listed → (∀ k, l0.getD k true = true → listed.getD k true = true) → listed.getD i true = false → ∀ j ∈ Region.ready .any ops listed, hd.contains j = true := by
    intro listed inv hk hun j hj
    cases hc : hd.contains j with
    | true => rfl
    | false =>
      exfalso
      have hju := (mem_ready.1 hj).1
      cases h0 : l0.getD j true with
      | true => rw [hk j h0] at hju; cases hju
      | false => exact late_waits hB inv _ i rfl hin hun j hc h0 hj
  have hset : ∀ (listed : Array Bool) (q : Nat), (∀ k, l0.getD k true = true → listed.getD k true = true) → (∀ k, l0.getD k true = true → (listed.setIfInBounds q true).getD k true = true) := by
    intro listed q hk k h
    by_cases hqk : q = k
    · subst hqk
      rcases Nat.lt_or_ge q listed.size with h' | h'
      · simp [h']
      · simp [Array.getElem?_eq_none, h']
    · rw [getD_set_ne true hqk]; exact hk k h
  induction f with
  | zero =>
    intro listed a inv hk _ hr hy H
    have hun := (mem_ready.1 hr).1
    refine ⟨fun h => (by rw [h] at hr; cases hr), fun j hj => ?_⟩
    refine ⟨inhd listed inv hk hun j hj, ?_⟩
    by_cases hji : j = i
    · subst hji; exact hy.stOp hi H
    · have h1 := hdone _ _ H j (ready_mono hj hji)
      rw [inhd listed inv hk hun j hj] at h1
      cases h1
  | succ f ih =>
    intro listed a inv hk hfree hr hy H
    have hun := (mem_ready.1 hr).1
    refine ⟨fun h => (by rw [h] at hr; cases hr), fun j hj => ?_⟩
    have hjh := inhd listed inv hk hun j hj
    refine ⟨hjh, ?_⟩
    by_cases hji : j = i
    · subst hji; exact hy.stOp hi H
    · have h1 := (H.2 j (ready_mono hj hji)).2
      obtain ⟨hjun, oj, hoj, hall⟩ := mem_ready.1 hj
      have hnot : ∀ e ∈ oj.after, Region.binds .any e = true → e.on ≠ i := fun e he hb heq => by
        have h1 := hall e he hb
        rw [heq, getD_both hun] at h1
        cases h1
      have h2 := stOp_put hoj (hfree j oj hoj hji hjun hnot) (fun cs b => hsel i oi cs b hi) (fun cs b => hsel j oj cs b hoj) hy h1
      have hfree' : ∀ k ok, ops[k]? = some ok → k ≠ i → (listed.setIfInBounds j true).getD k true = false →
          (∀ e ∈ ok.after, Region.binds .any e = true → e.on ≠ i) → oi.apart ops ok = true := fun k ok hk hki hun hno => by
        refine hfree k ok hk hki ?_ hno
        by_cases hjk : j = k
        · subst hjk; exact hjun
        · rw [getD_set_ne true hjk] at hun; exact hun
      refine stOp_mono (fun a' h3 => ih (listed.setIfInBounds j true) a' (inv.set hj hjh) (hset listed j hk) hfree' (ready_mono hr (Ne.symm hji)) h3.1 ?_) h2
      rw [Array.setIfInBounds_comm _ _ hji]
      exact h3.2
def pickOps (ops : Array Oper) : List Nat → List Oper
  | [] => []
  | k :: r => match ops[k]? with
    | some o => o :: pickOps ops r
    | none => []
theorem wpAnyH_lex {hd : List Nat} {n : Nat} {l0 le : Array Bool} {K : Act → Prop} (hsel : Region.noSelect ops = true) (hB : hdB ops hd n l0 = true) (hend : (Region.ready .any ops le).all (fun j => !(hd.contains j)) = true) :
    ∀ (l : List Nat) (listed : Array Bool) (a : Act), (∀ k ∈ l, hd.contains k = true) → setAll l listed = le → HdInv ops hd l0 listed → (∀ k, l0.getD k true = true → listed.getD k true = true) →
    lexHd ops l listed = true → wpStill P ops w K (pickOps ops l) a → wpAnyH P ops w hd (fun listed' a' => listed' = le ∧ K a') l.length listed a
  | [], listed, a, _, hs, _, _, _, h => ⟨hs, h⟩
  | k :: l, listed, a, hin, hs, inv, hk, hlex, h => by
    simp only [lexHd, Bool.and_eq_true] at hlex
    obtain ⟨⟨hr, hf⟩, hlex'⟩ := hlex
    have hr' : k ∈ Region.ready .any ops listed := by simpa using hr
    obtain ⟨_, o, h0, _⟩ := mem_ready.1 hr'
    simp only [pickOps, h0] at h
    have hst : stOp P ops w k (wpStill P ops w K (pickOps ops l)) a := by unfold stOp; simp only [h0]; exact h
    obtain ⟨v, hy, hK⟩ := yieldsAt_of_stOp h0 hst
    have hkin := hin k (by simp)
    have hset : ∀ q, l0.getD q true = true → (listed.setIfInBounds k true).getD q true = true := by
      intro q h
      by_cases hqk : k = q
      · subst hqk
        rcases Nat.lt_or_ge k listed.size with h' | h'
        · simp [h']
        · simp [Array.getElem?_eq_none, h']
      · rw [getD_set_ne true hqk]; exact hk q h
    refine wpAnyH_first h0 (Region.noSelect_spec hsel) hB hkin (fun t h1 _ listed _ h3 => h3 t h1) (fun listed a hL j hj => ?_) l.length listed a inv hk (Region.free_spec h0 hf) hr' hy
      (wpAnyH_lex hsel hB hend l _ _ (fun q hq => hin q (by simp [hq])) hs (inv.set hr' hkin) hset hlex' hK)
    rw [hL.1] at hj
    have := List.all_eq_true.1 hend j hj
    simpa using this
end

/-- alike but for what the operations write -/
def agree (ops : Array Oper) (t t' : Array Value) : Prop := ∀ i, (ops.any fun o => o.dst == some i) = false → t[i]? = t'[i]?
def onlyN (ops : Array Oper) (K : Act → World → Prop) (Q0 : Exit → Act → World → Prop) : Exit → Act → World → Prop := fun e a w => match e with | .normal => K a w | .panic ch => ∀ t, agree ops t a.tmps → Q0 (.panic ch) { a with tmps := t } w | e => Q0 e a w
theorem agree_put {ops : Array Oper} {i d : Nat} {op : Op} {ty : TypeId} {pos : String} {af : Array Edge} {g : Option (Nat × Bool)} {v : Value} {a : Act} {t : Array Value} (hi : ops[i]? = some ⟨some d, op, ty, pos, af, g⟩) (ht : agree ops t a.tmps) : agree ops t (a.put (some d) v).tmps := fun j hj => by
  rw [ht j hj]
  by_cases e : d = j
  · subst e
    obtain ⟨h1, h2⟩ := Array.getElem?_eq_some_iff.1 hi
    have := Array.any_eq_false.1 hj i h1
    rw [h2] at this
    simp at this
  · simp [Act.put, Array.getElem?_setIfInBounds, e]
def RA (P : Program) (ops : Array Oper) (K : Act → World → Prop) (Q0 : Exit → Act → World → Prop) (c : Cx) (f : Nat) (listed : Array Bool) (env : Env) (L : List It) : Prop := ∀ a w, St c env L a w → wpAny P .any ops (onlyN ops K Q0) f listed a w
section
variable {P : Program} {Q Q0 : Exit → Act → World → Prop} {c : Cx} {env env' : Env} {L L' : List It} {r : List Code} {ops : Array Oper} {K : Act → World → Prop} {f : Nat} {listed : Array Bool}
theorem GL.regionA {id : Nat} {l : List Oper} (hq : c.still = false) (hm : P.follows .mixedOrders = true)
    (h : RA P l.toArray (wps P Q r) Q c l.length (Array.replicate l.length false) env L) : GL P Q c (.region id l.toArray true :: r) env L := fun a w st => by
  refine Go.Code.wp_mono (Q := onlyN l.toArray (wps P Q r) Q) (fun e a w q => by cases e <;> first | exact q | exact q a.tmps (fun _ _ => rfl)) (wp_region_any hm ?_)
  have := h a { w with drawn := w.drawn + 1 } (st.drew hq)
  simpa using this
theorem RA.done (hr : (Region.ready .any ops listed).isEmpty = true) (h : ∀ a w, St c env L a w → K a w) : RA P ops K Q0 c f listed env L := fun a w st => wpAny_done (List.isEmpty_iff.1 hr) (h a w st) f
theorem RA.weak (h : ∀ a w, St c env L a w → St c env' L' a w) (k : RA P ops K Q0 c f listed env' L') : RA P ops K Q0 c f listed env L := fun a w st => k a w (h a w st)
/-- an operation that only computes -/
theorem RA.pure {d : Nat} {op : Op} {ty : TypeId} {pos : String} {af : Array Edge} {g : Option (Nat × Bool)} {v : Value} (i : Nat) (hi : ops[i]? = some ⟨some d, op, ty, pos, af, g⟩) (hB : (Region.noSelect ops && (Region.ready .any ops listed).contains i && Region.free .any ops listed i) = true) (hg : wanted ops env g = some true) (hd : Slot c d)
    (hr : ∀ a w, St c env L a w → ∀ w', (execOp a.eval ⟨some d, op, ty, pos, af, g⟩).run P w' = .ok (.value v) w') (k : RA P ops K Q0 c f (listed.setIfInBounds i true) (put env d v) L) : RA P ops K Q0 c (f + 1) listed env L := fun a w st => by
  simp only [Bool.and_eq_true] at hB
  exact wpAny_take hi hB.1.1 hB.2 hB.1.2 (fun c a w h t ht => h t (agree_put hi ht)) (.inl ⟨wanted_ok (o := ⟨some d, op, ty, pos, af, g⟩) st.env hg, hr a w st⟩) (k _ _ (st.put v hd))
theorem RA.mv {d : Nat} {x : Operand} {ty : TypeId} {pos : String} {af : Array Edge} {g : Option (Nat × Bool)} {v : Value} (i : Nat) (hi : ops[i]? = some ⟨some d, .move x, ty, pos, af, g⟩) (hB : (Region.noSelect ops && (Region.ready .any ops listed).contains i && Region.free .any ops listed i) = true) (hg : wanted ops env g = some true) (hd : Slot c d)
    (hx : opv env x = some v) (k : RA P ops K Q0 c f (listed.setIfInBounds i true) (put env d v) L) : RA P ops K Q0 c (f + 1) listed env L :=
  RA.pure i hi hB hg hd (fun a w st w' => by simp [execOp, opv_ok st.env hx]) k
theorem RA.asg {d : Nat} {x : Operand} {ty : TypeId} {pos : String} {af : Array Edge} {g : Option (Nat × Bool)} {v : Value} (i : Nat) (hi : ops[i]? = some ⟨some d, .assign x, ty, pos, af, g⟩) (hB : (Region.noSelect ops && (Region.ready .any ops listed).contains i && Region.free .any ops listed i) = true) (hg : wanted ops env g = some true) (hd : Slot c d)
    (hx : opv env x = some v) (k : RA P ops K Q0 c f (listed.setIfInBounds i true) (put env d v) L) : RA P ops K Q0 c (f + 1) listed env L :=
  RA.pure i hi hB hg hd (fun a w st w' => by simp [execOp, opv_ok st.env hx]) k
theorem RA.binI {d : Nat} {op : BinOp} {xt yt : TypeId} {x y : Operand} {kd : IntKind} {m n : Int} {ty : TypeId} {pos : String} {af : Array Edge} {g : Option (Nat × Bool)} {v : Value} (i : Nat) (hi : ops[i]? = some ⟨some d, .binOp op xt x y yt, ty, pos, af, g⟩) (hB : (Region.noSelect ops && (Region.ready .any ops listed).contains i && Region.free .any ops listed i) = true) (hg : wanted ops env g = some true) (hd : Slot c d)
    (hx : opv env x = some (.int kd m)) (hy : opv env y = some (.int kd n)) (hv : binI op kd m n = some v) (k : RA P ops K Q0 c f (listed.setIfInBounds i true) (put env d v) L) : RA P ops K Q0 c (f + 1) listed env L :=
  RA.pure i hi hB hg hd (fun a w st w' => by simp [execOp, opv_ok st.env hx, opv_ok st.env hy, eqGuard_at_int, run_binI hv]) k
theorem RA.quo {d : Nat} {xt yt : TypeId} {x y : Operand} {kd : IntKind} {m n : Int} {ty : TypeId} {pos : String} {af : Array Edge} {g : Option (Nat × Bool)} (i : Nat) (hi : ops[i]? = some ⟨some d, .binOp .quo xt x y yt, ty, pos, af, g⟩) (hB : (Region.noSelect ops && (Region.ready .any ops listed).contains i && Region.free .any ops listed i) = true) (hg : wanted ops env g = some true) (hd : Slot c d)
    (hx : opv env x = some (.int kd m)) (hy : opv env y = some (.int kd n)) (hn : n ≠ 0) (k : RA P ops K Q0 c f (listed.setIfInBounds i true) (put env d (.int kd (kd.wrap (m.tdiv n)))) L) : RA P ops K Q0 c (f + 1) listed env L :=
  RA.pure i hi hB hg hd (fun a w st w' => by simp [execOp, opv_ok st.env hx, opv_ok st.env hy, eqGuard_at_int, binOp_quo, Op.intDiv, hn]) k
theorem RA.rem {d : Nat} {xt yt : TypeId} {x y : Operand} {kd : IntKind} {m n : Int} {ty : TypeId} {pos : String} {af : Array Edge} {g : Option (Nat × Bool)} (i : Nat) (hi : ops[i]? = some ⟨some d, .binOp .rem xt x y yt, ty, pos, af, g⟩) (hB : (Region.noSelect ops && (Region.ready .any ops listed).contains i && Region.free .any ops listed i) = true) (hg : wanted ops env g = some true) (hd : Slot c d)
    (hx : opv env x = some (.int kd m)) (hy : opv env y = some (.int kd n)) (hn : n ≠ 0) (k : RA P ops K Q0 c f (listed.setIfInBounds i true) (put env d (.int kd (m.tmod n))) L) : RA P ops K Q0 c (f + 1) listed env L :=
  RA.pure i hi hB hg hd (fun a w st w' => by simp [execOp, opv_ok st.env hx, opv_ok st.env hy, eqGuard_at_int, binOp_rem, Op.intDiv, hn]) k
theorem RA.idxS {α : Type} {t : TR α} {l : List α} {v : Value} {x y : Operand} {T E : TypeId} {kd : IntKind} {q : Int} {sz : Nat} {ag : Bool} {d : Nat} {ty : TypeId} {pos : String} {af : Array Edge} {g : Option (Nat × Bool)} (n : Nat) {A : It} (hT : P.underlying T = some (.slice E)) (hE : Ln P E sz ag) (i : Nat) (hi : ops[i]? = some ⟨some d, .indexAddr T x y, ty, pos, af, g⟩) (hB : (Region.noSelect ops && (Region.ready .any ops listed).contains i && Region.free .any ops listed i) = true) (hg : wanted ops env g = some true) (hd : Slot c d)
    (hx : opv env x = some v) (hy : opv env y = some (.int kd q)) (hA : L[n]? = some A) (hs : SlOf A t v l) (h0 : 0 ≤ q) (h1 : q < l.length) (k : RA P ops K Q0 c f (listed.setIfInBounds i true) (put env d (adr v (q.toNat * sz))) L) : RA P ops K Q0 c (f + 1) listed env L :=
  RA.pure i hi hB hg hd (fun a w st w' => by
    obtain ⟨S, f, _, _, h⟩ := st.has hA
    obtain ⟨_, xs, _, ⟨ad, cap, rfl, _, _, h2⟩, _⟩ := hs S f h
    rcases h2 with ⟨h2, _⟩ | ⟨b, off, C, ty, fz, rfl, _⟩
    · omega
    · simp [execOp, opv_ok st.env hx, opv_ok st.env hy, Instr.indexAt, asIntOf, run_underlying hT, h0, h1, run_sizeOf hE, adr]) k
theorem RA.skip {d : Nat} {op : Op} {ty : TypeId} {pos : String} {af : Array Edge} {g : Option (Nat × Bool)} (i : Nat) (hi : ops[i]? = some ⟨some d, op, ty, pos, af, g⟩) (hB : (Region.noSelect ops && (Region.ready .any ops listed).contains i && Region.free .any ops listed i) = true) (hg : wanted ops env g = some false) (hd : Slot c d)
    (k : RA P ops K Q0 c f (listed.setIfInBounds i true) (put env d undef) L) : RA P ops K Q0 c (f + 1) listed env L := fun a w st => by
  simp only [Bool.and_eq_true] at hB
  exact wpAny_take hi hB.1.1 hB.2 hB.1.2 (fun c a w h t ht => h t (agree_put hi ht)) (.inr ⟨wanted_ok (o := ⟨some d, op, ty, pos, af, g⟩) st.env hg, rfl⟩) (k _ _ (st.put undef hd))
theorem RA.sh {d : Nat} {op : BinOp} {xt yt : TypeId} {x y : Operand} {kd ke : IntKind} {m n : Int} {ty : TypeId} {pos : String} {af : Array Edge} {g : Option (Nat × Bool)} (hop : op = .shl ∨ op = .shr) (i : Nat) (hi : ops[i]? = some ⟨some d, .binOp op xt x y yt, ty, pos, af, g⟩) (hB : (Region.noSelect ops && (Region.ready .any ops listed).contains i && Region.free .any ops listed i) = true) (hg : wanted ops env g = some true) (hd : Slot c d)
    (hx : opv env x = some (.int kd m)) (hy : opv env y = some (.int ke n)) (hn : 0 ≤ n) (k : RA P ops K Q0 c f (listed.setIfInBounds i true) (put env d (shv op kd m n)) L) : RA P ops K Q0 c (f + 1) listed env L :=
  RA.pure i hi hB hg hd (fun a w st w' => by
    have h' : ¬ n < 0 := by omega
    rcases hop with rfl | rfl <;> simp [execOp, opv_ok st.env hx, opv_ok st.env hy, eqGuard_at_int, binOp_shl, binOp_shr, Op.shift, h', shv]) k
theorem RA.notB {d : Nat} {xt : TypeId} {x : Operand} {m : Bool} {ty : TypeId} {pos : String} {af : Array Edge} {g : Option (Nat × Bool)} (i : Nat) (hi : ops[i]? = some ⟨some d, .unOp .not xt x, ty, pos, af, g⟩) (hB : (Region.noSelect ops && (Region.ready .any ops listed).contains i && Region.free .any ops listed i) = true) (hg : wanted ops env g = some true) (hd : Slot c d)
    (hx : opv env x = some (.bool m)) (k : RA P ops K Q0 c f (listed.setIfInBounds i true) (put env d (.bool (!m))) L) : RA P ops K Q0 c (f + 1) listed env L :=
  RA.pure i hi hB hg hd (fun a w st w' => by simp [execOp, opv_ok st.env hx, Op.unary]) k
theorem RA.ext {d : Nat} {x : Operand} {vs : Array Value} {q : Nat} {v : Value} {ty : TypeId} {pos : String} {af : Array Edge} {g : Option (Nat × Bool)} (i : Nat) (hi : ops[i]? = some ⟨some d, .extract x q, ty, pos, af, g⟩) (hB : (Region.noSelect ops && (Region.ready .any ops listed).contains i && Region.free .any ops listed i) = true) (hg : wanted ops env g = some true) (hd : Slot c d)
    (hx : opv env x = some (.tuple vs)) (hv : vs[q]? = some v) (k : RA P ops K Q0 c f (listed.setIfInBounds i true) (put env d v) L) : RA P ops K Q0 c (f + 1) listed env L :=
  RA.pure i hi hB hg hd (fun a w st w' => by simp [execOp, opv_ok st.env hx, Instr.extract, hv]) k
theorem RA.minI {d : Nat} {ts : Array TypeId} {x y : Operand} {k1 k2 : IntKind} {m n : Int} {ty : TypeId} {pos : String} {af : Array Edge} {g : Option (Nat × Bool)} (i : Nat) (hi : ops[i]? = some ⟨some d, .call ⟨.builtin .min, #[x, y], ts⟩, ty, pos, af, g⟩) (hB : (Region.noSelect ops && (Region.ready .any ops listed).contains i && Region.free .any ops listed i) = true) (hg : wanted ops env g = some true) (hd : Slot c d)
    (hx : opv env x = some (.int k1 m)) (hy : opv env y = some (.int k2 n)) (k : RA P ops K Q0 c f (listed.setIfInBounds i true) (put env d (.int k1 (if n < m then n else m))) L) : RA P ops K Q0 c (f + 1) listed env L :=
  RA.pure i hi hB hg hd (fun a w st w' => by simp [execOp, resolve, invoke, builtin, opv_ok st.env hx, opv_ok st.env hy, run_min_int2]) k
theorem RA.maxI {d : Nat} {ts : Array TypeId} {x y : Operand} {k1 k2 : IntKind} {m n : Int} {ty : TypeId} {pos : String} {af : Array Edge} {g : Option (Nat × Bool)} (i : Nat) (hi : ops[i]? = some ⟨some d, .call ⟨.builtin .max, #[x, y], ts⟩, ty, pos, af, g⟩) (hB : (Region.noSelect ops && (Region.ready .any ops listed).contains i && Region.free .any ops listed i) = true) (hg : wanted ops env g = some true) (hd : Slot c d)
    (hx : opv env x = some (.int k1 m)) (hy : opv env y = some (.int k2 n)) (k : RA P ops K Q0 c f (listed.setIfInBounds i true) (put env d (.int k1 (if n > m then n else m))) L) : RA P ops K Q0 c (f + 1) listed env L :=
  RA.pure i hi hB hg hd (fun a w st w' => by simp [execOp, resolve, invoke, builtin, opv_ok st.env hx, opv_ok st.env hy, run_max_int2]) k
theorem RA.lenS {α : Type} {t : TR α} {l : List α} {v : Value} {x : Operand} {T E : TypeId} {d : Nat} {ty : TypeId} {pos : String} {af : Array Edge} {g : Option (Nat × Bool)} (n : Nat) {A : It} (hT : P.underlying T = some (.slice E)) (i : Nat) (hi : ops[i]? = some ⟨some d, .call ⟨.builtin .len, #[x], #[T]⟩, ty, pos, af, g⟩) (hB : (Region.noSelect ops && (Region.ready .any ops listed).contains i && Region.free .any ops listed i) = true) (hg : wanted ops env g = some true) (hd : Slot c d)
    (hx : opv env x = some v) (hA : L[n]? = some A) (hs : SlOf A t v l) (k : RA P ops K Q0 c f (listed.setIfInBounds i true) (put env d (.int .i64 l.length)) L) : RA P ops K Q0 c (f + 1) listed env L :=
  RA.pure i hi hB hg hd (fun a w st w' => by
    obtain ⟨S, f, _, _, h⟩ := st.has hA
    obtain ⟨_, xs, _, ⟨ad, cap, rfl, _⟩, _⟩ := hs S f h
    simp [execOp, resolve, invoke, builtin, opv_ok st.env hx, Builtin.len_, run_underlying hT, goInt]) k
/-- a bool of the frame, either way -/
theorem RA.split {t : Nat} {b : Bool} (hl : look env t = some (.bool b)) (h1 : b = true → RA P ops K Q0 c f listed (put env t (.bool true)) L) (h2 : b = false → RA P ops K Q0 c f listed (put env t (.bool false)) L) : RA P ops K Q0 c f listed env L := by
  have key : ∀ u, b = u → ∀ a, EnvOk env a → EnvOk (put env t (.bool u)) a := by
    intro u hu a he k v hk
    simp only [put, look] at hk
    split at hk
    · rename_i hkt
      subst hkt
      cases hk
      rw [← hu]; exact he _ _ hl
    · exact he _ _ hk
  cases hb : b with
  | true => exact fun a w st => h1 hb a w (st.mk_env rfl rfl (key true hb a st.env))
  | false => exact fun a w st => h2 hb a w (st.mk_env rfl rfl (key false hb a st.env))
/-- two operations, either of which may come now -/
theorem RA.two {o p : Oper} (i j : Nat) (hi : ops[i]? = some o) (hj : ops[j]? = some p) (hB : decide (Region.ready .any ops listed = [i, j]) = true)
    (h1 : RL .plain P ops (Exit.then (wpAny P .any ops (onlyN ops K Q0) f (listed.setIfInBounds i true)) (onlyN ops K Q0)) c [o] env L)
    (h2 : RL .plain P ops (Exit.then (wpAny P .any ops (onlyN ops K Q0) f (listed.setIfInBounds j true)) (onlyN ops K Q0)) c [p] env L) : RA P ops K Q0 c (f + 1) listed env L := fun a w st => by
  have hr := of_decide_eq_true hB
  refine wpAny_all hr (by simp) fun q hq => ?_
  have : q = i ∨ q = j := by simpa using hq
  rcases this with rfl | rfl
  · have := h1 a w st
    unfold wpOp
    simp only [hi]
    unfold wpList at this
    exact this
  · have := h2 a w st
    unfold wpOp
    simp only [hj]
    unfold wpList at this
    exact this
theorem RA.three {o p s : Oper} (i j k : Nat) (hi : ops[i]? = some o) (hj : ops[j]? = some p) (hk : ops[k]? = some s) (hB : decide (Region.ready .any ops listed = [i, j, k]) = true)
    (h1 : RL .plain P ops (Exit.then (wpAny P .any ops (onlyN ops K Q0) f (listed.setIfInBounds i true)) (onlyN ops K Q0)) c [o] env L)
    (h2 : RL .plain P ops (Exit.then (wpAny P .any ops (onlyN ops K Q0) f (listed.setIfInBounds j true)) (onlyN ops K Q0)) c [p] env L)
    (h3 : RL .plain P ops (Exit.then (wpAny P .any ops (onlyN ops K Q0) f (listed.setIfInBounds k true)) (onlyN ops K Q0)) c [s] env L) : RA P ops K Q0 c (f + 1) listed env L := fun a w st => by
  have hr := of_decide_eq_true hB
  refine wpAny_all hr (by simp) fun q hq => ?_
  have : q = i ∨ q = j ∨ q = k := by simpa using hq
  rcases this with rfl | rfl | rfl
  · have := h1 a w st
    unfold wpOp
    simp only [hi]
    unfold wpList at this
    exact this
  · have := h2 a w st
    unfold wpOp
    simp only [hj]
    unfold wpList at this
    exact this
  · have := h3 a w st
    unfold wpOp
    simp only [hk]
    unfold wpList at this
    exact this
def RAs (P : Program) (ops : Array Oper) (K : Act → World → Prop) (Q0 : Exit → Act → World → Prop) (c : Cx) (f : Nat) (listed : Array Bool) (env : Env) (L : List It) : List Nat → Prop
  | [] => True
  | i :: r => (∃ o, ops[i]? = some o ∧ RL .plain P ops (Exit.then (wpAny P .any ops (onlyN ops K Q0) f (listed.setIfInBounds i true)) (onlyN ops K Q0)) c [o] env L) ∧ RAs P ops K Q0 c f listed env L r
theorem RAs.at : ∀ {is : List Nat}, RAs P ops K Q0 c f listed env L is → ∀ i ∈ is, ∃ o, ops[i]? = some o ∧ RL .plain P ops (Exit.then (wpAny P .any ops (onlyN ops K Q0) f (listed.setIfInBounds i true)) (onlyN ops K Q0)) c [o] env L
  | [], _, i, h => by simp at h
  | j :: r, h, i, hi => by
    rcases List.mem_cons.1 hi with rfl | hi
    · exact h.1
    · exact RAs.at h.2 i hi
/-- several operations, any of which may come now -/
theorem RA.many (is : List Nat) (hB : (decide (Region.ready .any ops listed = is) && !is.isEmpty) = true) (h : RAs P ops K Q0 c f listed env L is) : RA P ops K Q0 c (f + 1) listed env L := fun a w st => by
  simp only [Bool.and_eq_true, decide_eq_true_eq, Bool.not_eq_true', List.isEmpty_eq_false_iff] at hB
  refine wpAny_all hB.1 hB.2 fun q hq => ?_
  obtain ⟨o, ho, h'⟩ := h.at q hq
  have := h' a w st
  unfold wpOp
  simp only [ho]
  unfold wpList at this
  exact this
theorem RA.idxR {α : Type} {es e : TypeId} {t : TR α} {l : List (List α)} {v : Value} {vs : List Value} {x y : Operand} {T E : TypeId} {kd : IntKind} {q : Int} {ag : Bool} {d : Nat} {ty : TypeId} {pos : String} {af : Array Edge} {g : Option (Nat × Bool)} (n : Nat) (hT : P.underlying T = some (.slice E)) (hE : Ln P E 1 ag) (i : Nat) (hi : ops[i]? = some ⟨some d, .indexAddr T x y, ty, pos, af, g⟩) (hB : (Region.noSelect ops && (Region.ready .any ops listed).contains i && Region.free .any ops listed i) = true) (hg : wanted ops env g = some true) (hd : Slot c d)
    (hx : opv env x = some v) (hy : opv env y = some (.int kd q)) (hA : L[n]? = some (own2 es e t v vs l)) (h0 : 0 ≤ q) (h1 : q < l.length) (k : RA P ops K Q0 c f (listed.setIfInBounds i true) (put env d (adr v (q.toNat * 1))) L) : RA P ops K Q0 c (f + 1) listed env L :=
  RA.pure i hi hB hg hd (fun a w st w' => by
    obtain ⟨S, f, _, _, h⟩ := st.has hA
    rw [← Rows.len h] at h1
    obtain ⟨ad, cap, rfl, _, _, h2⟩ := slAt_of_own (Rows.sp h)
    rcases h2 with ⟨h2, _⟩ | ⟨b, off, C, ty, fz, rfl, _⟩
    · omega
    · simp [execOp, opv_ok st.env hx, opv_ok st.env hy, Instr.indexAt, asIntOf, run_underlying hT, h0, h1, run_sizeOf hE, adr]) k
theorem RA.lenR {α : Type} {es e : TypeId} {t : TR α} {l : List (List α)} {v : Value} {vs : List Value} {x : Operand} {T E : TypeId} {d : Nat} {ty : TypeId} {pos : String} {af : Array Edge} {g : Option (Nat × Bool)} (n : Nat) (hT : P.underlying T = some (.slice E)) (i : Nat) (hi : ops[i]? = some ⟨some d, .call ⟨.builtin .len, #[x], #[T]⟩, ty, pos, af, g⟩) (hB : (Region.noSelect ops && (Region.ready .any ops listed).contains i && Region.free .any ops listed i) = true) (hg : wanted ops env g = some true) (hd : Slot c d)
    (hx : opv env x = some v) (hA : L[n]? = some (own2 es e t v vs l)) (k : RA P ops K Q0 c f (listed.setIfInBounds i true) (put env d (.int .i64 l.length)) L) : RA P ops K Q0 c (f + 1) listed env L :=
  RA.pure i hi hB hg hd (fun a w st w' => by
    obtain ⟨S, f, _, _, h⟩ := st.has hA
    obtain ⟨ad, cap, rfl, _⟩ := slAt_of_own (Rows.sp h)
    simp [execOp, resolve, invoke, builtin, opv_ok st.env hx, Builtin.len_, run_underlying hT, goInt, Rows.len h]) k
theorem RA.negI {d : Nat} {xt : TypeId} {x : Operand} {kd : IntKind} {m : Int} {ty : TypeId} {pos : String} {af : Array Edge} {g : Option (Nat × Bool)} (i : Nat) (hi : ops[i]? = some ⟨some d, .unOp .neg xt x, ty, pos, af, g⟩) (hB : (Region.noSelect ops && (Region.ready .any ops listed).contains i && Region.free .any ops listed i) = true) (hg : wanted ops env g = some true) (hd : Slot c d)
    (hx : opv env x = some (.int kd m)) (k : RA P ops K Q0 c f (listed.setIfInBounds i true) (put env d (.int kd (kd.wrap (0 - m)))) L) : RA P ops K Q0 c (f + 1) listed env L :=
  RA.pure i hi hB hg hd (fun a w st w' => by simp [execOp, opv_ok st.env hx, Op.unary, Op.intArith]) k
/-- several orders meet again -/
theorem RA.meet {ι : Type} (E : ι → Env) (M : ι → List It) (f' : Nat) (le : Array Bool) (h1 : (∀ p a w, St c (E p) (M p) a w → wpAny P .any ops (onlyN ops K Q0) f' le a w) → RA P ops K Q0 c f listed env L)
    (h2 : ∀ p, RA P ops K Q0 c f' le (E p) (M p)) : RA P ops K Q0 c f listed env L := h1 fun p a w st => h2 p a w st
theorem RA.relist (f' : Nat) (le : Array Bool) (hf : f = f') (hB : decide (listed = le) = true) (h : RA P ops K Q0 c f' le env L) : RA P ops K Q0 c f listed env L := by
  have := of_decide_eq_true hB
  subst this; subst hf; exact h
/-- the one operation that may come now -/
theorem RA.seq {o : Oper} (i : Nat) (hi : ops[i]? = some o) (hB : decide (Region.ready .any ops listed = [i]) = true)
    (h : RL .plain P ops (Exit.then (wpAny P .any ops (onlyN ops K Q0) f (listed.setIfInBounds i true)) (onlyN ops K Q0)) c [o] env L) : RA P ops K Q0 c (f + 1) listed env L := fun a w st => by
  have hr := of_decide_eq_true hB
  refine wpAny_all hr (by simp) fun j hj => ?_
  have : j = i := by simpa using hj
  subst this
  have := h a w st
  unfold wpOp
  simp only [hi]
  unfold wpList at this
  exact this
theorem RA.next (h : RA P ops K Q0 c f listed env L) : Gx (Exit.then (wpAny P .any ops (onlyN ops K Q0) f listed) (onlyN ops K Q0)) c .normal env L := h
/-- what only reads, ahead of operation n -/
theorem RA.still {le : Array Bool} {fl : Nat} (hd : List Nat) (n : Nat) (hf : hd.length + f = fl) (hB : (Region.noSelect ops && hdB ops hd n listed && lexHd ops hd listed && decide (setAll hd listed = le) && (Region.ready .any ops le).all (fun j => !(hd.contains j)) && hd.all (fun j => !(listed.getD j true))) = true)
    (h : RL (.head []) P ops (Exit.then (wpAny P .any ops (onlyN ops K Q0) f le) (onlyN ops K Q0)) c (pickOps ops hd) env L) : RA P ops K Q0 c fl listed env L := fun a w st => by
  subst hf
  simp only [Bool.and_eq_true, decide_eq_true_eq] at hB
  obtain ⟨⟨⟨⟨⟨h1, h2⟩, h3⟩, h4⟩, h5⟩, h6⟩ := hB
  have hsz : listed.size = ops.size := by
    have := h2
    simp only [hdB, Bool.and_eq_true, decide_eq_true_eq] at this
    exact this.1.1.1
  refine wpAny_of_hd (Lq := fun listed' a' => listed' = le ∧ wpAny P .any ops (onlyN ops K Q0) f le a' w) (fun l a h => by rw [h.1]; exact h.2) _ _ _ (wpAnyH_lex h1 h2 h5 hd listed a (fun k hk => by simpa using hk) h4 ⟨hsz, ?_, fun t _ _ h => h⟩ (fun k h => h) h3 (h a w st))
  intro j oj hj _ hl
  have := List.all_eq_true.1 h6 j (by simpa using hj)
  simp only [Bool.not_eq_true'] at this
  rw [getD_both this] at hl
  cases hl
/-- what is left only reads -/
theorem RA.quiet (k : Nat) (hq : c.still = false) (hf : (ops.toList.drop k).length = f) (hB : (Region.noSelect ops && Region.lexFrom .any ops f k listed) = true)
    (h : RL (.quiet L.length) P ops (onlyN ops K Q0) c (ops.toList.drop k) env L) : RA P ops K Q0 c f listed env L := fun a w st => by
  subst hf
  simp only [Bool.and_eq_true] at hB
  obtain ⟨S, f, e1, e2, e3, e4⟩ := st.heap
  have hits : Its L S (fcat f L.length fun _ => Hp.emp) := fun i A hA => by
    have hi := (List.getElem?_eq_some_iff.1 hA).1
    unfold fcat; rw [if_pos hi]; exact e4 i A hA
  have h' := h S f e1 e2 (Nat.le_refl _) hits a st.defers st.size st.env
  refine wpAny_of_quiet (C := Cl c S f L.length) (Q := fun a' => ∀ w', Cl c S f L.length w' → onlyN ops K Q0 .normal a' w') (fun a w hw h => h w hw) _ _ _ _ ⟨e3, st.below, hq⟩ (wpAnyQ_lex hB.1 _ k listed a (fun j => ?_) hB.2 h')
  simp
theorem RA.doneG {r : List Code} (hr : (Region.ready .any ops listed).isEmpty = true) (h : GL P Q c r env L) : RA P ops (wps P Q r) Q0 c f listed env L := RA.done hr h
theorem RA.outQ {r : List Code} (h : GL P Q c r env L) : Gx (onlyN ops (wps P Q r) Q) c .normal env L := h
/-- a store of a whole element -/
theorem RL.stE {α : Type} {t : TR α} {l : List α} {v u : Value} {x y : Operand} {T e : TypeId} {i off : Nat} {e' : α} (n : Nat) (hE : Ln P T t.size t.agg) (hq : c.still = false) {g : Option (Nat × Bool)} {ty : TypeId} {pos : String} {af : Array Edge} {rest : List Oper} {Q : Exit → Act → World → Prop} (hg : wanted ops env g = some true)
    (hx : opv env x = some (adr v (i * t.size + 0))) (hy : opv env y = some u) (hu : VR t u e' L) (hA : L[n]? = some (own e t v l)) (hi : i < l.length)
    (k : RL .plain P ops Q c rest env (L.set n (own e t v (l.set i e')))) : RL .plain P ops Q c (⟨none, .store T x y, ty, pos, af, g⟩ :: rest) env L :=
  RL.stS n hE hq hg hx hy hu hA (List.getElem?_eq_getElem hi) Upd.self k
end
end Go.Fw
