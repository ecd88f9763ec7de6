/- Steps of a walk over the frame, more: memory of the call's own. No program in sight. -/
import Derived.Test.YtfekdillbgblkaaFwB
set_option linter.all false
namespace Go.Fw
open Go.RowKit

/-! ### an item is changed -/
theorem St.upd {c : Cx} {env env' : Env} {L : List It} {a a' : Act} {w w' : World} {S : Hp} {f : Nat → Hp} (st : St c env L a w) (h1 : a'.defers = c.dfs) (h2 : a'.tmps.size = c.nt) (h3 : EnvOk env' a')
    (e1 : Hp.le c.S0 S) (e2 : ∀ b, S b ≠ none → c.S0 b ≠ none ∨ c.w0.heap.size ≤ b) (e3 : HeapOk c.w0.heap.size S f L.length w) (e4 : Its L S f)
    (k : Nat) (A : It) (h' : Hp) (hk : k < L.length) (hq : c.still = false) (hos : w'.os = w.os) (htape : w'.tape = w.tape) (hout : w'.output = w.output) (hsz : w.heap.size ≤ w'.heap.size)
    (hsub : h'.sub w') (hdom : ∀ b, h' b ≠ none → f k b ≠ none ∨ w.heap.size ≤ b) (hkeep : ∀ b, b < w.heap.size → f k b = none → w'.heap[b]? = w.heap[b]?) (hA : A.P S h') : St c env' (L.set k A) a' w' := by
  have hB := st.below.size
  have hS : S.sub w' := fun b o hb => by
    have hlt := Hp.lt_of_sub e3.sub (b := b) (by rw [hb]; simp)
    rcases e3.dS k hk b with h | h
    · rw [h] at hb; cases hb
    · rw [hkeep b hlt h]; exact e3.sub b o hb
  have hf : ∀ i, i < L.length → i ≠ k → (f i).sub w' := fun i hi hik b o hb => by
    have hlt := Hp.lt_of_sub (e3.subf i hi) (b := b) (by rw [hb]; simp)
    rcases e3.df i k hi hk hik b with h | h
    · rw [h] at hb; cases hb
    · rw [hkeep b hlt h]; exact e3.subf i hi b o hb
  refine ⟨h1, h2, h3, ?_, (fun q => by rw [hq] at q; cases q), S, fun i => if i = k then h' else f i, e1, e2, ⟨hS, ?_, ?_, ?_, ?_⟩, ?_⟩
  · refine st.below.trans ⟨hos, htape, hout, hsz, fun b hb => hkeep b (by omega) ?_⟩
    refine Classical.byContradiction fun hn => ?_
    have := e3.lo k hk b hn
    omega
  · intro i hi
    rw [List.length_set] at hi
    split
    · exact hsub
    · rename_i h; exact hf i hi h
  · intro i hi b
    rw [List.length_set] at hi
    split
    · by_cases hb : S b = none
      · exact .inl hb
      · right
        refine Classical.byContradiction fun hn => ?_
        rcases hdom b hn with h | h
        · rcases e3.dS k hk b with h' | h'
          · exact hb h'
          · exact h h'
        · have := Hp.lt_of_sub e3.sub hb; omega
    · exact e3.dS i hi b
  · intro i j hi hj hij b
    rw [List.length_set] at hi hj
    have key : ∀ m, m < L.length → m ≠ k → h' b = none ∨ f m b = none := by
      intro m hm hmk
      by_cases hb : h' b = none
      · exact .inl hb
      · right
        refine Classical.byContradiction fun hn => ?_
        rcases hdom b hb with h | h
        · rcases e3.df m k hm hk hmk b with h' | h'
          · exact hn h'
          · exact h h'
        · have := Hp.lt_of_sub (e3.subf m hm) hn; omega
    split
    · rename_i hik
      rw [if_neg (by omega)]
      exact key j hj (by omega)
    · rename_i hik
      split
      · exact (key i hi hik).symm
      · exact e3.df i j hi hj hij b
  · intro i hi b hb
    rw [List.length_set] at hi
    replace hb : (if i = k then h' else f i) b ≠ none := hb
    split at hb
    · rcases hdom b hb with h | h
      · exact e3.lo k hk b h
      · omega
    · exact e3.lo i hi b hb
  · intro i B hB
    by_cases hik : i = k
    · subst hik
      rw [List.getElem?_set_self hk] at hB
      cases hB
      show A.P S (if i = i then h' else f i)
      rw [if_pos rfl]; exact hA
    · rw [List.getElem?_set_ne (Ne.symm hik)] at hB
      show B.P S (if i = k then h' else f i)
      rw [if_neg hik]; exact e4 i B hB

theorem Hp.one_ne {g b : Nat} {o : Obj} (h : Hp.one g o b ≠ none) : b = g := by
  unfold Hp.one at h
  split at h
  · assumption
  · exact absurd rfl h
theorem Hp.one_sub {g : Nat} {o : Obj} {w : World} (h : w.heap[g]? = some o) : (Hp.one g o).sub w := fun b o' hb => by
  have : b = g := Hp.one_ne (by rw [hb]; simp)
  subst this
  simp [Hp.one] at hb; subst hb; exact h
theorem Hp.one_self (g : Nat) (o : Obj) : Hp.one g o g = some o := by simp [Hp.one]

structure LnO (P : Program) (T : TypeId) (sz : Nat) (zc : List Value) : Prop where
  ex : ∃ i z, P.info? T = some i ∧ i.size = sz ∧ i.zero = some z ∧ z.cells.toList = zc ∧ zc.length = sz ∧ 0 < sz ∧ i.bytes ≤ 1024

theorem cells_mkv' {ag : Bool} {cs : List Value} (h1 : ag = false → cs.length = 1) (h2 : ∀ u ∈ cs, u.oneCell' = true) : (mkv ag cs).cells.toList = cs := by
  unfold mkv
  split
  · rfl
  · rename_i ha
    have h1 := h1 (by simpa using ha)
    match cs, h1, h2 with
    | [u], _, h2 =>
      have := h2 u (by simp)
      cases u <;> first | rfl | (simp [Value.oneCell'] at this)
    | [], h1, _ => simp at h1
    | _ :: _ :: _, h1, _ => simp at h1
theorem cells_vrep {α : Type} {t : TR α} {S : Hp} {u : Value} {e : α} (h : t.vrep S u e) : ∃ cs, u.cells.toList = cs ∧ t.rep S cs e := by
  obtain ⟨cs, rfl, r⟩ := h
  exact ⟨cs, cells_mkv t r, r⟩

/-- a store of cells into a block known whole -/
theorem run_storeAt {P : Program} {T : TypeId} {sz : Nat} {ag : Bool} (l : Ln P T sz ag) (w : World) (g o : Nat) (C : Array Value) (e : TypeId) (u : Value) (cs : List Value) (hu : u.cells.toList = cs) (hl : cs.length = sz)
    (hf : ∀ x ∈ cs, x.oneCell' = true) (hg : w.heap[g]? = some (.cells C e (0, 0))) (ho : o + sz ≤ C.size) :
    (Instr.storeAt T (.pointer (some ⟨g, o, none⟩)) u).run P w = .ok () (w.setRow g (C.toList.take o ++ cs ++ C.toList.drop (o + sz)).toArray) := by
  have hs := run_storeCells_at P g o e cs 0 C w hg (by omega) hf
  have hsz : u.cells.size = sz := by rw [← hl, ← hu]; simp
  simp only [Nat.add_zero] at hs
  rw [hl] at hs
  unfold Instr.storeAt Instr.sureAddr storeVar
  simp only [Sem.run_bind, Sem.run_pure, Result.andThen_ok, run_sizeOf l, hsz, hu]
  simpa using hs

/-! ### splicing -/
theorem foldl_set_aux : ∀ (vs m a b : List Value) (k : Nat), m.length = vs.length → (vs.zipIdx k).foldl (fun cs (p : Value × Nat) => cs.setIfInBounds (a.length - k + p.2) p.1) (a ++ m ++ b).toArray = (a ++ vs ++ b).toArray ∨ a.length < k := by
  intro vs
  induction vs with
  | nil => intro m a b k h; simp at h; subst h; left; simp
  | cons v vs ih =>
    intro m a b k h
    by_cases hk : a.length < k
    · exact .inr hk
    · left
      match m, h with
      | x :: m, h =>
        simp at h
        rw [List.zipIdx_cons, List.foldl_cons]
        have e1 : (a ++ x :: m ++ b).toArray.setIfInBounds (a.length - k + k) v = ((a ++ [v]) ++ m ++ b).toArray := by
          rw [show a.length - k + k = a.length from by omega]
          apply Array.ext'
          simp
        dsimp only
        rw [e1]
        rcases ih m (a ++ [v]) b (k + 1) h with h2 | h2
        · have e2 : (a ++ [v]).length - (k + 1) = a.length - k := by simp
          rw [e2] at h2
          rw [h2]
          simp
        · simp at h2; omega
theorem foldl_set (vs m a b : List Value) (h : m.length = vs.length) : (vs.toArray.zipIdx).foldl (fun cs (p : Value × Nat) => cs.setIfInBounds (a.length + p.2) p.1) (a ++ m ++ b).toArray = (a ++ vs ++ b).toArray := by
  have := foldl_set_aux vs m a b 0 h
  rcases this with h | h
  · simpa using h
  · omega

/-- segments, some of them replaced -/
def segs : List (List Value) → List (Nat × Value) → List (List Value)
  | ss, [] => ss
  | ss, (i, v) :: r => segs (ss.set i v.cells.toList) r
theorem fill_segs (place : Nat → Option (Nat × Nat)) : ∀ (parts : List (Nat × Value)) (ss : List (List Value)), (∀ i s, ss[i]? = some s → place i = some ((ss.take i).flatten.length, s.length)) →
    (∀ p ∈ parts, ∃ s, ss[p.1]? = some s ∧ p.2.cells.toList.length = s.length) → Instr.fill place ss.flatten.toArray parts = some (segs ss parts).flatten.toArray
  | [], ss, _, _ => rfl
  | (i, v) :: r, ss, h1, h2 => by
    obtain ⟨s, hs, hl⟩ := h2 (i, v) (by simp)
    have hi : i < ss.length := (List.getElem?_eq_some_iff.1 hs).1
    have hsplit : ss = ss.take i ++ s :: ss.drop (i + 1) := by
      have h3 := (List.getElem?_eq_some_iff.1 hs).2
      rw [← h3]; simp
    have hflat : ss.flatten = (ss.take i).flatten ++ s ++ (ss.drop (i + 1)).flatten := by
      conv => lhs; rw [hsplit]
      simp
    have hset : ss.set i v.cells.toList = ss.take i ++ v.cells.toList :: ss.drop (i + 1) := by
      rw [List.set_eq_take_append_cons_drop, if_pos hi]
    have hv : v.cells.size = s.length := by rw [← hl]; simp
    have hlen : ∀ j, ((ss.set i v.cells.toList).take j).flatten.length = (ss.take j).flatten.length := by
      intro j
      simp only [List.length_flatten]
      congr 1
      rw [List.map_take, List.map_take, List.map_set]
      congr 1
      apply List.ext_getElem?
      intro k
      by_cases hk : k = i
      · subst hk; rw [List.getElem?_set_self (by simpa using hi)]; simpa [hs] using hl
      · rw [List.getElem?_set_ne (Ne.symm hk)]
    simp only [Instr.fill, h1 i s hs, segs]
    rw [if_neg (by
      have hfl : ss.flatten.length = (ss.take i).flatten.length + s.length + (ss.drop (i + 1)).flatten.length := by rw [hflat]; simp only [List.length_append]
      simp only [hv, List.size_toArray, hfl, ne_eq, not_true_eq_false, decide_false, Bool.false_or, decide_eq_true_eq]
      omega)]
    have hspl := foldl_set v.cells.toList s (ss.take i).flatten (ss.drop (i + 1)).flatten hl.symm
    simp only [Array.toArray_toList] at hspl
    rw [hflat, hspl]
    have hnew : ((ss.take i).flatten ++ v.cells.toList ++ (ss.drop (i + 1)).flatten) = (ss.set i v.cells.toList).flatten := by rw [hset]; simp
    rw [hnew]
    refine fill_segs place r _ ?_ ?_
    · intro j s' hj
      rw [hlen j]
      by_cases hji : j = i
      · subst hji
        rw [List.getElem?_set_self hi] at hj
        cases hj
        rw [h1 j s hs, hl]
      · rw [List.getElem?_set_ne (Ne.symm hji)] at hj
        exact h1 j s' hj
    · intro p hp
      obtain ⟨s', hs', hl'⟩ := h2 p (List.mem_cons_of_mem _ hp)
      by_cases hpi : p.1 = i
      · refine ⟨v.cells.toList, by rw [hpi]; exact List.getElem?_set_self hi, ?_⟩
        rw [hl', hl]
        rw [hpi, hs] at hs'; cases hs'; rfl
      · exact ⟨s', by rw [List.getElem?_set_ne (Ne.symm hpi)]; exact hs', hl'⟩
theorem segs_length : ∀ (parts : List (Nat × Value)) (ss : List (List Value)), (segs ss parts).length = ss.length
  | [], _ => rfl
  | (i, v) :: r, ss => by rw [segs, segs_length r]; simp

theorem madeCells_flat (z : Array Value) : ∀ n, (madeCells z (n * z.size)).toList = (List.replicate n z.toList).flatten := by
  intro n
  apply List.ext_getElem?
  intro i
  induction n generalizing i with
  | zero => simp [madeCells]
  | succ n ih =>
    have hlen : (madeCells z ((n + 1) * z.size)).toList.length = (n + 1) * z.size := by simp [size_madeCells]
    by_cases hi : i < (n + 1) * z.size
    · have e1 : (madeCells z ((n + 1) * z.size)).toList[i]? = some (z[i % z.size]!) := by
        simp [madeCells, hi]
      rw [e1]
      rw [List.replicate_succ', List.flatten_append, List.flatten_singleton]
      have hfl : (List.replicate n z.toList).flatten.length = n * z.size := by simp
      by_cases hi2 : i < n * z.size
      · rw [List.getElem?_append_left (by omega), ← ih i]
        simp [madeCells, hi2]
      · rw [List.getElem?_append_right (by omega), hfl]
        have hm : i % z.size = i - n * z.size := by
          have h3 : i = (i - n * z.size) + n * z.size := by omega
          have h4 : i - n * z.size < z.size := by rw [Nat.add_mul] at hi; omega
          conv => lhs; rw [h3]
          rw [Nat.add_mul_mod_self_right, Nat.mod_eq_of_lt h4]
        have h4 : i - n * z.size < z.size := by rw [Nat.add_mul] at hi; omega
        rw [hm]
        simp [h4]
    · rw [List.getElem?_eq_none (by omega), List.getElem?_eq_none (by simp; omega)]

section
variable {md : Md} {P : Program} {ops : Array Oper} {Q : Exit → Act → World → Prop} {c : Cx} {rest : List Oper} {env : Env} {L : List It}
variable {d : Nat} {ty : TypeId} {pos : String} {af : Array Edge} {g : Option (Nat × Bool)}

/-- the address of a field -/
theorem RL.fadr {v : Value} {x : Operand} {T : TypeId} {off fi fo : Nat} {α : Type} {t : TR α} {dt : α} (n : Nat) {A : It} (hF : ∀ (ad : Addr) (w : World), (Instr.fieldAt T (.pointer (some ad)) fi).run P w = .ok (.pointer (some (ad.add fo))) w) (hg : wanted ops env g = some true) (hd : Slot c d)
    (hA : L[n]? = some A) (hs : PtOf A t v dt) (hx : opv env x = some (adr v off) ∨ (opv env x = some v ∧ off = 0)) (k : RL md P ops Q c rest (put env d (adr v (off + fo))) L) : RL md P ops Q c (⟨some d, .fieldAddr T x fi, ty, pos, af, g⟩ :: rest) env L :=
  RL.val hg hd (fun S f a w st => by
    have h := st.has hA
    obtain ⟨_, b, o, _, _, _, _, _, rfl, _⟩ := hs S _ h
    rcases hx with hx | ⟨hx, rfl⟩
    · simp [execOp, opv_ok st.env hx, adr, add_mk, hF, Nat.add_assoc]
    · simp [execOp, opv_ok st.env hx, adr, add_mk, hF]) k
/-- the address of an element of a slice, then of a field of it -/
theorem RL.fadrS {v : Value} {x : Operand} {T : TypeId} {off fi fo : Nat} {α : Type} {t : TR α} {l : List α} (n : Nat) {A : It} (hF : ∀ (ad : Addr) (w : World), (Instr.fieldAt T (.pointer (some ad)) fi).run P w = .ok (.pointer (some (ad.add fo))) w) (hg : wanted ops env g = some true) (hd : Slot c d)
    (hA : L[n]? = some A) (hs : SlOf A t v l) (hl : 0 < l.length) (hx : opv env x = some (adr v off)) (k : RL md P ops Q c rest (put env d (adr v (off + fo))) L) : RL md P ops Q c (⟨some d, .fieldAddr T x fi, ty, pos, af, g⟩ :: rest) env L :=
  RL.val hg hd (fun S f a w st => by
    have h := st.has hA
    obtain ⟨_, xs, _, ⟨ad, cap, rfl, _, _, h2⟩, _⟩ := hs S _ h
    rcases h2 with ⟨h2, _⟩ | ⟨b, o, C, ty, fz, rfl, _⟩
    · omega
    · simp [execOp, opv_ok st.env hx, adr, add_mk, hF, Nat.add_assoc]) k
/-- the address of an element of an array in memory -/
theorem RL.idxA {v : Value} {x y : Operand} {T E : TypeId} {off sz len : Nat} {ag : Bool} {kd : IntKind} {i : Int} {α : Type} {t : TR α} {dt : α} (n : Nat) {A : It} (hT : P.underlying T = some (.array len E)) (hE : Ln P E sz ag) (hg : wanted ops env g = some true) (hd : Slot c d)
    (hA : L[n]? = some A) (hs : PtOf A t v dt) (hx : opv env x = some (adr v off)) (hy : opv env y = some (.int kd i)) {β : Type} {t' : TR β} {l : List β} (hp : Part t dt off (TR.arr len t') l) (h0 : 0 ≤ i) (h1' : i < l.length)
    (k : RL md P ops Q c rest (put env d (adr v (off + i.toNat * sz))) L) : RL md P ops Q c (⟨some d, .indexAddr T x y, ty, pos, af, g⟩ :: rest) env L :=
  RL.val hg hd (fun S f a w st => by
    have h := st.has hA
    obtain ⟨_, b, o, _, _, _, _, _, rfl, _, hrep, _⟩ := hs S _ h
    obtain ⟨_, _, _, _, _, hl⟩ := hp S _ hrep
    have h1 : i < len := by rw [← hl.1]; exact h1'
    simp [execOp, opv_ok st.env hx, opv_ok st.env hy, Instr.indexAt, asIntOf, run_underlying hT, Instr.sureAddr, h0, h1, run_sizeOf hE, adr, add_mk, Nat.add_assoc]) k
theorem RL.idxA0 {v : Value} {x y : Operand} {T E : TypeId} {sz len : Nat} {ag : Bool} {kd : IntKind} {i : Int} {α : Type} {t : TR α} {dt : α} (n : Nat) {A : It} (hT : P.underlying T = some (.array len E)) (hE : Ln P E sz ag) (hg : wanted ops env g = some true) (hd : Slot c d)
    (hA : L[n]? = some A) (hs : PtOf A t v dt) (hx : opv env x = some v) (hy : opv env y = some (.int kd i)) {β : Type} {t' : TR β} {l : List β} (hp : Part t dt 0 (TR.arr len t') l) (h0 : 0 ≤ i) (h1' : i < l.length)
    (k : RL md P ops Q c rest (put env d (adr v (i.toNat * sz))) L) : RL md P ops Q c (⟨some d, .indexAddr T x y, ty, pos, af, g⟩ :: rest) env L :=
  RL.val hg hd (fun S f a w st => by
    have h := st.has hA
    obtain ⟨_, b, o, _, _, _, _, _, rfl, _, hrep, _⟩ := hs S _ h
    obtain ⟨_, _, _, _, _, hl⟩ := hp S _ hrep
    have h1 : i < len := by rw [← hl.1]; exact h1'
    simp [execOp, opv_ok st.env hx, opv_ok st.env hy, Instr.indexAt, asIntOf, run_underlying hT, Instr.sureAddr, h0, h1, run_sizeOf hE, adr, add_mk]) k

/-- a store into an element (or a part of one) of a slice of the call's own -/
theorem RL.stS {α β : Type} {t : TR α} {r : TR β} {l : List α} {v u : Value} {x y : Operand} {T e : TypeId} {i off : Nat} {e0 e1 : α} {e' : β} (n : Nat) (hE : Ln P T r.size r.agg) (hq : c.still = false) (hg : wanted ops env g = some true)
    (hx : opv env x = some (adr v (i * t.size + off))) (hy : opv env y = some u) (hu : VR r u e' L) (hA : L[n]? = some (own e t v l)) (he : l[i]? = some e0) (hp : Upd t e0 off r e' e1)
    (k : RL .plain P ops Q c rest env (L.set n (own e t v (l.set i e1)))) : RL .plain P ops Q c (⟨none, .store T x y, ty, pos, af, g⟩ :: rest) env L := by
  intro a w st
  obtain ⟨S, f, hS0, hS1, h3, h4⟩ := st.heap
  have hn := (List.getElem?_eq_some_iff.1 hA).1
  obtain ⟨xs, ⟨hxl, hown⟩, hr⟩ := h4 n _ hA
  have hi : i < l.length := (List.getElem?_eq_some_iff.1 he).1
  rcases hown with ⟨_, h2⟩ | ⟨b, cap, C, rfl, hb, hcap, hmax, hC, htk⟩
  · omega
  obtain ⟨cs', hcu, hcr⟩ := cells_vrep (hu S f h4)
  obtain ⟨p0, m0, q0, e2, hp0, hm0⟩ := reps_get i e0 hr he
  obtain ⟨p', m', q', rfl, hpl', hm', hup⟩ := hp S m0 cs' hm0 hcr
  obtain ⟨p, m, q, e3, hpl, hml, hset⟩ := reps_set i e0 e1 _ hr he hup
  have hwb := h3.subf n hn b _ hb
  have hlen0 : p0.length = p.length := by omega
  have hmid : (p' ++ m' ++ q').length = m.length := by rw [hml, t.len hm0]
  have e4 : p0 ++ ((p' ++ m' ++ q') ++ q0) = p ++ (m ++ q) := by rw [← List.append_assoc, ← e2, e3, List.append_assoc]
  obtain ⟨e5, e6⟩ := List.append_inj e4 hlen0
  obtain ⟨e7, e8⟩ := List.append_inj e6 hmid
  subst e5 e8
  have hxs : xs = (p0 ++ p') ++ m' ++ (q' ++ q0) := by rw [e2]; simp
  have hCl : C.toList = xs ++ C.toList.drop (l.length * t.size) := by rw [← htk]; simp
  have hfit : i * t.size + off + r.size ≤ C.size := by
    have h5 : xs.length = i * t.size + off + r.size + (q' ++ q0).length := by rw [hxs]; simp [List.length_append]; omega
    have h6 : C.size = C.toList.length := by simp
    rw [h6, hCl, List.length_append]; omega
  have hrun := run_storeAt (P := P) hE w b (i * t.size + off) C e u cs' hcu (r.len hcr) (r.flat hcr) hwb hfit
  have hval : (execOp a.eval ⟨none, .store T x y, ty, pos, af, g⟩).run P w = .ok .skip (w.setRow b (C.toList.take (i * t.size + off) ++ cs' ++ C.toList.drop (i * t.size + off + r.size)).toArray) := by
    simp only [execOp, opv_ok st.env hx, opv_ok st.env hy, adr, add_mk, Nat.zero_add, Sem.run_bind, hrun]; rfl
  refine wpl_skip (wanted_ok (o := ⟨none, .store T x y, ty, pos, af, g⟩) st.env hg) hval (k _ _ ?_)
  have hC' : C.toList.take (i * t.size + off) ++ cs' ++ C.toList.drop (i * t.size + off + r.size) = (p0 ++ p') ++ cs' ++ (q' ++ q0) ++ C.toList.drop (l.length * t.size) := by
    have hl1 : (p0 ++ p').length = i * t.size + off := by rw [List.length_append]; omega
    have hl2 : ((p0 ++ p') ++ m').length = i * t.size + off + r.size := by rw [List.length_append]; omega
    have e9 : C.toList = (p0 ++ p') ++ (m' ++ (q' ++ q0) ++ C.toList.drop (l.length * t.size)) := by
      conv => lhs; rw [hCl, hxs]
      simp
    have e10 : C.toList = ((p0 ++ p') ++ m') ++ ((q' ++ q0) ++ C.toList.drop (l.length * t.size)) := by
      conv => lhs; rw [hCl, hxs]
      simp
    have t1 : C.toList.take (i * t.size + off) = p0 ++ p' := by
      conv => lhs; rw [e9, ← hl1]
      exact List.take_left
    have t2 : C.toList.drop (i * t.size + off + r.size) = (q' ++ q0) ++ C.toList.drop (l.length * t.size) := by
      conv => lhs; rw [e10, ← hl2]
      exact List.drop_left
    rw [t1, t2]; simp
  have hnl : ((p0 ++ p') ++ cs' ++ (q' ++ q0)).length = l.length * t.size := by
    rw [← hxl, hxs]
    have := r.len hcr
    simp only [List.length_append]; omega
  have hlen' : ((p0 ++ p') ++ cs' ++ (q' ++ q0) ++ C.toList.drop (l.length * t.size)).length = C.toList.length := by
    rw [List.length_append, hnl]
    conv => rhs; rw [hCl, List.length_append, hxl]
  rw [hC']
  refine st.upd (S := S) (f := f) (by simpa [Act.put] using st.defers) (by simpa [Act.put] using st.size) (by simpa [Act.put] using st.env) hS0 hS1 h3 h4 n _ (Hp.one b (.cells ((p0 ++ p') ++ cs' ++ (q' ++ q0) ++ C.toList.drop (l.length * t.size)).toArray e (0, 0))) hn hq rfl rfl rfl (by simp)
    (Hp.one_sub (setRow_heap w b C _ e _ hwb)) (fun b' hb' => .inl (by rw [Hp.one_ne hb', hb]; simp)) (fun b' _ hb' => setRow_other w b b' _ (fun e => by subst e; rw [hb] at hb'; cases hb')) ?_
  refine ⟨(p0 ++ p') ++ cs' ++ (q' ++ q0), ⟨by rw [List.length_set]; exact hnl, .inr ⟨b, cap, _, by rw [List.length_set], Hp.one_self b _, by rw [List.length_set]; exact hcap, hmax, ?_, ?_⟩⟩, ?_⟩
  · rw [List.size_toArray, hlen', ← hC]; simp
  · rw [List.length_set, ← hnl]; exact List.take_left
  · simpa using hset
/-- a store into a variable of the call's own (or a part of one) -/
theorem RL.stP {α β : Type} {t : TR α} {r : TR β} {dt d1 : α} {v u : Value} {x y : Operand} {T e : TypeId} {off : Nat} {e' : β} (n : Nat) (hE : Ln P T r.size r.agg) (hq : c.still = false) (hg : wanted ops env g = some true)
    (hx : opv env x = some (adr v off) ∨ (opv env x = some v ∧ off = 0)) (hy : opv env y = some u) (hu : VR r u e' L) (hA : L[n]? = some (obox e t v dt)) (hp : Upd t dt off r e' d1)
    (k : RL .plain P ops Q c rest env (L.set n (obox e t v d1))) : RL .plain P ops Q c (⟨none, .store T x y, ty, pos, af, g⟩ :: rest) env L := by
  intro a w st
  obtain ⟨S, f, hS0, hS1, h3, h4⟩ := st.heap
  have hn := (List.getElem?_eq_some_iff.1 hA).1
  obtain ⟨b, cs, rfl, hb, hr⟩ := h4 n _ hA
  obtain ⟨cs', hcu, hcr⟩ := cells_vrep (hu S f h4)
  obtain ⟨p, m, q, rfl, hpl, hml, hup⟩ := hp S cs cs' hr hcr
  have hwb := h3.subf n hn b _ hb
  have hrun := run_storeAt (P := P) hE w b off (p ++ m ++ q).toArray e u cs' hcu (r.len hcr) (r.flat hcr) hwb (by simp; omega)
  have hC' : (p ++ m ++ q).toArray.toList.take off ++ cs' ++ (p ++ m ++ q).toArray.toList.drop (off + r.size) = p ++ cs' ++ q := by
    have t1 : (p ++ m ++ q).take off = p := by rw [List.append_assoc, ← hpl]; exact List.take_left
    have t2 : (p ++ m ++ q).drop (off + r.size) = q := by rw [show off + r.size = (p ++ m).length from by rw [List.length_append]; omega]; exact List.drop_left
    simp only [t1, t2]
  rw [hC'] at hrun
  have hx' : a.eval x = .pointer (some ⟨b, off, none⟩) := by
    rcases hx with hx | ⟨hx, rfl⟩
    · rw [opv_ok st.env hx, adr, add_mk, Nat.zero_add]
    · rw [opv_ok st.env hx]
  have hval : (execOp a.eval ⟨none, .store T x y, ty, pos, af, g⟩).run P w = .ok .skip (w.setRow b (p ++ cs' ++ q).toArray) := by
    simp only [execOp, hx', opv_ok st.env hy, Sem.run_bind, hrun]; rfl
  refine wpl_skip (wanted_ok (o := ⟨none, .store T x y, ty, pos, af, g⟩) st.env hg) hval (k _ _ ?_)
  refine st.upd (S := S) (f := f) (by simpa [Act.put] using st.defers) (by simpa [Act.put] using st.size) (by simpa [Act.put] using st.env) hS0 hS1 h3 h4 n _ (Hp.one b (.cells (p ++ cs' ++ q).toArray e (0, 0))) hn hq rfl rfl rfl (by simp)
    (Hp.one_sub (setRow_heap w b _ _ e _ hwb)) (fun b' hb' => .inl (by rw [Hp.one_ne hb', hb]; simp)) (fun b' _ hb' => setRow_other w b b' _ (fun e => by subst e; rw [hb] at hb'; cases hb')) ?_
  exact ⟨b, p ++ cs' ++ q, rfl, Hp.one_self b _, hup⟩

theorem below_alloc (w : World) (o : Obj) : Below w.heap.size w (w.alloc o) := (Below.refl _ _).alloc (Nat.le_refl _) o
/-- one new block, of the call's own -/
theorem St.alloc {c : Cx} {env env' : Env} {L : List It} {a a' : Act} {w w' : World} {o : Obj} {A : It} (st : St c env L a w) (hq : c.still = false) (h1 : a'.defers = c.dfs) (h2 : a'.tmps.size = c.nt) (h3 : EnvOk env' a') (hw : w' = w.alloc o ∨ w' = w.drew.alloc o)
    (hA : ∀ S f, S.sub w → Its L S f → A.P S (Hp.one w.heap.size o)) : St c env' (L ++ [A]) a' w' := by
  have hheap : w'.heap[w.heap.size]? = some o := by rcases hw with rfl | rfl <;> exact heap_alloc_new _ o
  have hb : Below w.heap.size w w' := by
    rcases hw with rfl | rfl
    · exact below_alloc w o
    · exact ((Below.refl _ _).drew).alloc (Nat.le_refl _) o
  refine st.grow (L' := [A]) h1 h2 h3 hb (fun q => by rw [hq] at q; cases q) fun S f hs _ hi => ⟨S, fun _ => Hp.one w.heap.size o, Hp.le_refl S, Hp.sub_grow hs hb, fun b hb => .inl hb, fun i _ => ⟨Hp.one_sub hheap, fun b => ?_, fun b hb => by rw [Hp.one_ne hb]; exact Nat.le_refl _⟩, fun i j hi hj hij => by simp at hi hj; omega, fun i B hB => ?_⟩
  · by_cases hb' : S b = none
    · exact .inl hb'
    · right
      have := Hp.lt_of_sub hs hb'
      unfold Hp.one; exact if_neg (by omega)
  · match i, hB with
    | 0, hB => simp at hB; subst hB; exact hA S f hs hi
theorem RL.alloc {α : Type} {t : TR α} {z : α} {zc : List Value} {T : TypeId} (hO : LnO P T t.size zc) (hz : ∀ S, t.rep S zc z) (hq : c.still = false) (hg : wanted ops env g = some true) (hd : Slot c d)
    (k : ∀ v, RL .plain P ops Q c rest (put env d v) (L ++ [obox T t v z])) : RL .plain P ops Q c (⟨some d, .alloc T, ty, pos, af, g⟩ :: rest) env L := by
  intro a w st
  obtain ⟨i, zv, h1, h2, h3, h4, h5, h6, h7⟩ := hO.ex
  have hrun : (execOp a.eval ⟨some d, .alloc T, ty, pos, af, g⟩).run P w = .ok (.value (.pointer (some ⟨w.heap.size, 0, none⟩))) (w.alloc (.cells zv.cells T)) := by
    simp [execOp, Instr.alloc, zeroValue, typeInfo, h1, h3, newVar, newRow]
  refine wpl_val (wanted_ok (o := ⟨some d, .alloc T, ty, pos, af, g⟩) st.env hg) hrun (k (.pointer (some ⟨w.heap.size, 0, none⟩)) _ _ ?_)
  have st' := st.put (.pointer (some ⟨w.heap.size, 0, none⟩)) hd
  exact st.alloc hq st'.defers st'.size st'.env (.inl rfl) fun S f _ _ => ⟨w.heap.size, zc, rfl, by rw [Hp.one_self, ← h4], hz S⟩
theorem RL.box {α : Type} {t : TR α} {e : α} {u : Value} {x : Operand} {T : TypeId} (hq : c.still = false) (hg : wanted ops env g = some true) (hd : Slot c d) (hx : opv env x = some u) (hu : VR t u e L)
    (k : ∀ v, RL .plain P ops Q c rest (put env d v) (L ++ [obox T t v e])) : RL .plain P ops Q c (⟨some d, .box T x, ty, pos, af, g⟩ :: rest) env L := by
  intro a w st
  have hrun : (execOp a.eval ⟨some d, .box T x, ty, pos, af, g⟩).run P w = .ok (.value (.pointer (some ⟨w.heap.size, 0, none⟩))) (w.alloc (.cells u.cells T)) := by
    simp [execOp, Instr.box, opv_ok st.env hx, newVar, newRow]
  refine wpl_val (wanted_ok (o := ⟨some d, .box T x, ty, pos, af, g⟩) st.env hg) hrun (k (.pointer (some ⟨w.heap.size, 0, none⟩)) _ _ ?_)
  have st' := st.put (.pointer (some ⟨w.heap.size, 0, none⟩)) hd
  refine st.alloc hq st'.defers st'.size st'.env (.inl rfl) fun S f _ hi => ?_
  obtain ⟨cs, h1, h2⟩ := cells_vrep (hu S f hi)
  exact ⟨w.heap.size, cs, rfl, by rw [Hp.one_self, ← h1], h2⟩
/-- make, at equal length and capacity -/
theorem RL.mkS {α : Type} {t : TR α} {z : α} {zc : List Value} {T E : TypeId} {x : Operand} {kd : IntKind} {n : Int} (hT : P.underlying T = some (.slice E)) (hO : LnO P E t.size zc) (hz : ∀ S, t.rep S zc z) (hq : c.still = false) (hg : wanted ops env g = some true) (hd : Slot c d)
    (hx : opv env x = some (.int kd n)) (h0 : 0 ≤ n) (h1 : n ≤ 68719476736)
    (k : ∀ v, RL .plain P ops Q c rest (put env d v) (L ++ [own E t v (List.replicate n.toNat z)])) : RL .plain P ops Q c (⟨some d, .makeSlice T x x, ty, pos, af, g⟩ :: rest) env L := by
  intro a w st
  obtain ⟨i, zv, i1, i2, i3, i4, i5, i6, i7⟩ := hO.ex
  have hby : (i.bytes : Int) * n ≤ 281474976710656 := by
    have : (i.bytes : Int) ≤ 1024 := by omega
    calc (i.bytes : Int) * n ≤ 1024 * n := Int.mul_le_mul_of_nonneg_right this h0
      _ ≤ 281474976710656 := by omega
  have hr := run_make (P := P) w T E i zv hT i1 i3 kd kd n n h0 (Int.le_refl _) hby (by omega)
  have hrun : (execOp a.eval ⟨some d, .makeSlice T x x, ty, pos, af, g⟩).run P w = .ok (.value (.slice (some ⟨w.heap.size, 0, none⟩) n.toNat n.toNat)) (w.alloc (.cells (madeCells zv.cells (n.toNat * i.size)) E)) := by
    simp only [execOp, opv_ok st.env hx, Sem.run_bind, hr]; rfl
  refine wpl_val (wanted_ok (o := ⟨some d, .makeSlice T x x, ty, pos, af, g⟩) st.env hg) hrun (k (.slice (some ⟨w.heap.size, 0, none⟩) n.toNat n.toNat) _ _ ?_)
  have st' := st.put (.slice (some ⟨w.heap.size, 0, none⟩) n.toNat n.toNat) hd
  have hzs : zv.cells.size = t.size := by rw [← i5, ← i4]; simp
  refine st.alloc hq st'.defers st'.size st'.env (.inl rfl) fun S f _ _ => ⟨(List.replicate n.toNat zc).flatten, ⟨by simp [i5], .inr ⟨w.heap.size, n.toNat, madeCells zv.cells (n.toNat * i.size), by simp, Hp.one_self _ _, by simp, by simp [maxLen]; omega, by rw [size_madeCells, i2], ?_⟩⟩, reps_replicate (hz S) _⟩
  have := madeCells_flat zv.cells n.toNat
  rw [i2, List.length_replicate, ← hzs, this, ← i4]
  exact List.take_of_length_le (by simp)
end
end Go.Fw
