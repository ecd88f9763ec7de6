/- Slices of slices that are the call's own, row by row; a comparison with nil. No program in sight. -/
import Derived.Test.YtfekdillbgblkaaFwF
import Derived.Lib.SliceRun
set_option linter.all false
namespace Go.Fw
open Go.RowKit

section
variable {md : Md} {P : Program} {ops : Array Oper} {Q : Exit → Act → World → Prop} {c : Cx} {rest : List Oper} {env : Env} {L : List It}
variable {d : Nat} {ty : TypeId} {pos : String} {af : Array Edge} {g : Option (Nat × Bool)}
theorem RL.eqNil {α : Type} {t : TR α} {l : List α} {v : Value} {x y : Operand} {T E yt : TypeId} (n : Nat) {A : It} (hT : P.underlying T = some (.slice E)) (hg : wanted ops env g = some true) (hd : Slot c d) (hx : opv env x = some v) (hy : opv env y = some (.slice none 0 0))
    (hA : L[n]? = some A) (hs : SlOf A t v l) (k : ∀ b : Bool, (b = true → l = []) → RL md P ops Q c rest (put env d (.bool b)) L) : RL md P ops Q c (⟨some d, .binOp .eql T x y yt, ty, pos, af, g⟩ :: rest) env L :=
  RL.rd (X := fun u Lx => ∃ b, u = .bool b ∧ (b = true → l = []) ∧ Lx = []) hg hd (fun S f hi _ => by
    obtain ⟨h, xs, _, ⟨ad, cap, rfl, _, _, h2⟩, _⟩ := hs S _ (hi n A hA)
    refine ⟨.bool ad.isNone, [], ⟨ad.isNone, rfl, ?_, rfl⟩, fun i A hA => by simp at hA, fun a w vw => ?_⟩
    · intro hb
      rcases h2 with ⟨h2, _⟩ | ⟨b, off, C, ty, fz, rfl, _⟩
      · exact List.eq_nil_of_length_eq_zero h2
      · simp at hb
    · simp [execOp, opv_ok vw.env hx, opv_ok vw.env hy, eqGuard_at_slice, Lib.run_eql_slice_nil w T E ad _ _ _ _ hT]) (by rintro _ _ ⟨b, rfl, hb, rfl⟩; rw [List.append_nil]; exact k b hb)
end

/-! ### generic turns of the frame -/
def gone : It := ⟨fun _ _ => True, fun _ h => h⟩
def both (A B : It) : It := ⟨fun S f => ∃ f1 f2, f = Hp.cup f1 f2 ∧ Hp.dj f1 f2 ∧ A.P S f1 ∧ B.P S f2, fun l ⟨f1, f2, e, h, a, b⟩ => ⟨f1, f2, e, h, A.mono l a, B.mono l b⟩⟩
theorem St.map {c : Cx} {env : Env} {L : List It} {a : Act} {w : World} {A C : It} (n : Nat) (hA : L[n]? = some A) (hC : ∀ S f, A.P S f → C.P S f) (st : St c env L a w) : St c env (L.set n C) a w := by
  obtain ⟨S, f, e1, e2, e3, e4⟩ := st.heap
  have hn := (List.getElem?_eq_some_iff.1 hA).1
  refine ⟨st.defers, st.size, st.env, st.below, st.calm, S, f, e1, e2, by rw [List.length_set]; exact e3, ?_⟩
  intro i B hB
  by_cases hin : i = n
  · subst hin
    rw [List.getElem?_set_self hn] at hB
    cases hB
    exact hC S _ (e4 i A hA)
  · rw [List.getElem?_set_ne (Ne.symm hin)] at hB
    exact e4 i B hB
theorem St.melt {c : Cx} {env : Env} {L : List It} {a : Act} {w : World} {A C : It} (n : Nat) (hA : L[n]? = some A) (hC : ∀ S f, Hp.dj S f → A.P S f → C.P (S.cup f) Hp.emp) (st : St c env L a w) : St c env (L.set n C) a w := by
  obtain ⟨S, f, e1, e2, e3, e4⟩ := st.heap
  have hn := (List.getElem?_eq_some_iff.1 hA).1
  have dj := e3.dS n hn
  refine ⟨st.defers, st.size, st.env, st.below, st.calm, S.cup (f n), fun i => if i = n then Hp.emp else f i, Hp.le_trans e1 (Hp.le_cup_left _ _), ?_, ⟨Hp.sub_cup e3.sub (e3.subf n hn), ?_, ?_, ?_, ?_⟩, ?_⟩
  · intro b hb
    by_cases hs : S b = none
    · right
      have : f n b ≠ none := fun hf => hb (by simp [Hp.cup, hs, hf])
      exact e3.lo n hn b this
    · exact e2 b hs
  · intro i hi
    rw [List.length_set] at hi
    split
    · exact Hp.sub_emp w
    · exact e3.subf i hi
  · intro i hi
    rw [List.length_set] at hi
    split
    · exact Hp.dj_emp _
    · rename_i hin
      intro b
      rcases e3.dS i hi b with h | h
      · rcases e3.df n i hn hi (Ne.symm hin) b with h' | h'
        · left; simp [Hp.cup, h, h']
        · exact .inr h'
      · exact .inr h
  · intro i j hi hj hij
    rw [List.length_set] at hi hj
    split
    · exact Hp.dj_comm (Hp.dj_emp _)
    · split
      · exact Hp.dj_emp _
      · exact e3.df i j hi hj hij
  · intro i hi b hb
    rw [List.length_set] at hi
    split at hb
    · exact absurd rfl hb
    · exact e3.lo i hi b hb
  · intro i B hB
    by_cases hin : i = n
    · subst hin
      rw [List.getElem?_set_self hn] at hB
      cases hB
      show C.P (S.cup (f i)) (if i = i then Hp.emp else f i)
      rw [if_pos rfl]
      exact hC S _ dj (e4 i A hA)
    · rw [List.getElem?_set_ne (Ne.symm hin)] at hB
      show B.P (S.cup (f n)) (if i = n then Hp.emp else f i)
      rw [if_neg hin]
      exact B.mono (Hp.le_cup_left _ _) (e4 i B hB)
/-- two items become one; where the second lay nothing is left -/
theorem St.merge {c : Cx} {env : Env} {L : List It} {a : Act} {w : World} {A B : It} (n k : Nat) (hnk : n ≠ k) (hA : L[n]? = some A) (hB : L[k]? = some B) (st : St c env L a w) : St c env ((L.set n (both A B)).set k gone) a w := by
  obtain ⟨S, f, e1, e2, e3, e4⟩ := st.heap
  have hn := (List.getElem?_eq_some_iff.1 hA).1
  have hk := (List.getElem?_eq_some_iff.1 hB).1
  have dnk := e3.df n k hn hk hnk
  refine ⟨st.defers, st.size, st.env, st.below, st.calm, S, fun i => if i = n then (f n).cup (f k) else if i = k then Hp.emp else f i, e1, e2, ⟨e3.sub, ?_, ?_, ?_, ?_⟩, ?_⟩
  · intro i hi
    simp only [List.length_set] at hi
    split
    · exact Hp.sub_cup (e3.subf n hn) (e3.subf k hk)
    · split
      · exact Hp.sub_emp w
      · exact e3.subf i hi
  · intro i hi b
    simp only [List.length_set] at hi
    split
    · rcases e3.dS n hn b with h | h
      · exact .inl h
      · rcases e3.dS k hk b with h' | h'
        · exact .inl h'
        · right; simp [Hp.cup, h, h']
    · split
      · exact .inr rfl
      · exact e3.dS i hi b
  · have key : ∀ m, m < L.length → m ≠ n → m ≠ k → Hp.dj ((f n).cup (f k)) (f m) := fun m hm h1 h2 b => by
      rcases e3.df n m hn hm (Ne.symm h1) b with h | h
      · rcases e3.df k m hk hm (Ne.symm h2) b with h' | h'
        · left; simp [Hp.cup, h, h']
        · exact .inr h'
      · exact .inr h
    intro i j hi hj hij
    simp only [List.length_set] at hi hj
    by_cases hin : i = n
    · rw [if_pos hin]
      rw [if_neg (by omega)]
      by_cases hjk : j = k
      · rw [if_pos hjk]; exact Hp.dj_emp _
      · rw [if_neg hjk]; exact key j hj (by omega) hjk
    · rw [if_neg hin]
      by_cases hik : i = k
      · rw [if_pos hik]; exact Hp.dj_comm (Hp.dj_emp _)
      · rw [if_neg hik]
        by_cases hjn : j = n
        · rw [if_pos hjn]; exact Hp.dj_comm (key i hi hin hik)
        · rw [if_neg hjn]
          by_cases hjk : j = k
          · rw [if_pos hjk]; exact Hp.dj_emp _
          · rw [if_neg hjk]; exact e3.df i j hi hj hij
  · intro i hi b hb
    simp only [List.length_set] at hi
    split at hb
    · by_cases h : f n b = none
      · exact e3.lo k hk b (by simpa [Hp.cup, h] using hb)
      · exact e3.lo n hn b h
    · split at hb
      · exact absurd rfl hb
      · exact e3.lo i hi b hb
  · intro i C hC
    by_cases hik : i = k
    · subst hik
      rw [List.getElem?_set_self (by simpa using hk)] at hC
      cases hC
      exact trivial
    · rw [List.getElem?_set_ne (Ne.symm hik)] at hC
      by_cases hin : i = n
      · subst hin
        rw [List.getElem?_set_self hn] at hC
        cases hC
        show (both A B).P S (if i = i then _ else _)
        rw [if_pos rfl]
        exact ⟨f i, f k, rfl, dnk, e4 i A hA, e4 k B hB⟩
      · rw [List.getElem?_set_ne (Ne.symm hin)] at hC
        show C.P S (if i = n then _ else if i = k then _ else f i)
        rw [if_neg hin, if_neg hik]
        exact e4 i C hC

/-! ### rows -/
def TR.raw : TR Value where
  size := 1
  agg := false
  rep _ cs x := cs = [x] ∧ x.oneCell' = true
  len h := by rw [h.1]; rfl
  mono _ h := h
  flat h u hu := by obtain ⟨rfl, h⟩ := h; simp at hu; rw [hu]; exact h
  one _ := rfl
theorem reps_raw {h : Hp} : ∀ {vs : List Value}, (∀ v ∈ vs, v.oneCell' = true) → reps TR.raw h vs vs
  | [], _ => rfl
  | v :: vs, k => ⟨[v], vs, rfl, ⟨rfl, k v (by simp)⟩, reps_raw fun u hu => k u (by simp [hu])⟩
theorem reps_raw_eq {h : Hp} : ∀ {xs vs : List Value}, reps TR.raw h xs vs → xs = vs
  | xs, [], r => r
  | xs, v :: vs, ⟨c, q, e, ⟨r1, _⟩, r2⟩ => by rw [e, r1, reps_raw_eq r2]; rfl
theorem reps_raw_cell {h : Hp} : ∀ {xs vs : List Value}, reps TR.raw h xs vs → ∀ v ∈ vs, v.oneCell' = true
  | xs, [], r => by simp
  | xs, v :: vs, ⟨c, q, e, ⟨r1, r3⟩, r2⟩ => fun u hu => by
    rcases List.mem_cons.1 hu with rfl | hu
    · exact r3
    · exact reps_raw_cell r2 u hu
def rowv (vs : List Value) (i : Nat) : Value := vs.getD i (.slice none 0 0)
def Bl (v : Value) (b : Nat) : Prop := ∃ n cap, v = .slice (some ⟨b, 0, none⟩) n cap
theorem ownAt_at {e : TypeId} {s : Nat} {f f' : Hp} {v : Value} {n : Nat} {xs : List Value} (h : ∀ b, Bl v b → f b ≠ none → f' b = f b) (o : ownAt e s f v n xs) : ownAt e s f' v n xs := by
  obtain ⟨o1, o2 | ⟨b, cap, C, rfl, hb, r⟩⟩ := o
  · exact ⟨o1, .inl o2⟩
  · exact ⟨o1, .inr ⟨b, cap, C, rfl, by rw [h b ⟨_, _, rfl⟩ (by rw [hb]; simp)]; exact hb, r⟩⟩
theorem ownAt_has {e : TypeId} {s : Nat} {f : Hp} {v : Value} {n : Nat} {xs : List Value} (o : ownAt e s f v n xs) {b : Nat} (hb : Bl v b) : f b ≠ none := by
  obtain ⟨_, ⟨rfl, _⟩ | ⟨b', cap, C, rfl, h, _⟩⟩ := o
  · obtain ⟨_, _, e⟩ := hb; cases e
  · obtain ⟨_, _, e⟩ := hb; cases e; rw [h]; simp
theorem ownAt_cell {e : TypeId} {s : Nat} {f : Hp} {v : Value} {n : Nat} {xs : List Value} (o : ownAt e s f v n xs) : v.oneCell' = true := by
  obtain ⟨_, ⟨rfl, _⟩ | ⟨b', cap, C, rfl, h, _⟩⟩ := o <;> rfl
structure Rows {α : Type} (es e : TypeId) (t : TR α) (v : Value) (vs : List Value) (d : List (List α)) (S f : Hp) : Prop where
  sp : ownAt es 1 f v vs.length vs
  len : vs.length = d.length
  row : ∀ i r, d[i]? = some r → ∃ xs, ownAt e t.size f (rowv vs i) r.length xs ∧ reps t S xs r
  ap : ∀ i j, i < d.length → j < d.length → i ≠ j → ∀ b, Bl (rowv vs i) b → ¬ Bl (rowv vs j) b
  as : ∀ i, i < d.length → ∀ b, Bl (rowv vs i) b → ¬ Bl v b
/-- a slice of slices, all of it the call's own -/
def own2 {α : Type} (es e : TypeId) (t : TR α) (v : Value) (vs : List Value) (d : List (List α)) : It :=
  ⟨fun S f => Rows es e t v vs d S f, fun l h => ⟨h.sp, h.len, fun i r hr => let ⟨xs, a, b⟩ := h.row i r hr; ⟨xs, a, reps_mono l b⟩, h.ap, h.as⟩⟩
theorem SlOf.row {α : Type} {es e : TypeId} {t : TR α} {v : Value} {vs : List Value} {d : List (List α)} {i : Nat} {r : List α} (h : d[i]? = some r) : SlOf (own2 es e t v vs d) t (rowv vs i) r := fun S f k => by
  obtain ⟨xs, h1, h2⟩ := k.row i r h
  exact ⟨f, xs, .inr rfl, slAt_of_own h1, h2⟩
theorem Seen.row {α : Type} {es e : TypeId} {t : TR α} {v : Value} {vs : List Value} {d : List (List α)} {i : Nat} {r : List α} (h : d[i]? = some r) : Seen (own2 es e t v vs d) (fun U => t.sl.vrep U (rowv vs i) r) := fun _ _ _ h1 h2 k => by
  obtain ⟨xs, k1, k2⟩ := k.row i r h
  exact ⟨[rowv vs i], rfl, _, xs, rfl, slAt_mono h2 (slAt_of_own k1), reps_mono h1 k2⟩
theorem reps_rows {α : Type} {e : TypeId} {t : TR α} {S f U : Hp} (hS : Hp.le S U) (hf : Hp.le f U) : ∀ (vs : List Value) (d : List (List α)), vs.length = d.length → (∀ i r, d[i]? = some r → ∃ xs, ownAt e t.size f (rowv vs i) r.length xs ∧ reps t S xs r) → reps t.sl U vs d
  | [], [], _, _ => rfl
  | v :: vs, r :: d, hl, h => by
    refine ⟨[v], vs, rfl, ?_, reps_rows (e := e) hS hf vs d (by simpa using hl) fun i r' hr => ?_⟩
    · obtain ⟨xs, k1, k2⟩ := h 0 r rfl
      exact ⟨v, xs, rfl, slAt_mono hf (slAt_of_own (by simpa [rowv] using k1)), reps_mono hS k2⟩
    · have := h (i + 1) r' (by simpa using hr)
      simpa [rowv] using this
  | [], _ :: _, hl, _ => by simp at hl
  | _ :: _, [], hl, _ => by simp at hl
theorem Rows.vrep {α : Type} {es e : TypeId} {t : TR α} {v : Value} {vs : List Value} {d : List (List α)} {S f U : Hp} (h : Rows es e t v vs d S f) (hS : Hp.le S U) (hf : Hp.le f U) : t.sl.sl.vrep U v d := by
  refine ⟨[v], rfl, v, vs, rfl, ?_, reps_rows hS hf vs d h.len h.row⟩
  rw [← h.len]
  exact slAt_mono hf (slAt_of_own h.sp)
theorem Seen.own2 {α : Type} {es e : TypeId} {t : TR α} {v : Value} {vs : List Value} {d : List (List α)} : Seen (own2 es e t v vs d) (fun U => t.sl.sl.vrep U v d) := fun _ _ _ h1 h2 k => Rows.vrep k h1 h2
theorem St.freeze2 {c : Cx} {env : Env} {L : List It} {a : Act} {w : World} {α : Type} {es e : TypeId} {t : TR α} {v : Value} {vs : List Value} {d : List (List α)} (n : Nat) (hA : L[n]? = some (own2 es e t v vs d)) (st : St c env L a w) : St c env (L.set n (imm t.sl.sl v d)) a w :=
  st.melt n hA fun S f dj k => Rows.vrep k (Hp.le_cup_left _ _) (Hp.le_cup_right dj)
theorem rowv_rep {n i : Nat} : rowv (List.replicate n (.slice none 0 0)) i = .slice none 0 0 := by
  unfold rowv
  rw [List.getD_eq_getElem?_getD, List.getElem?_replicate]
  split <;> rfl
theorem St.toRows {c : Cx} {env : Env} {L : List It} {a : Act} {w : World} {α : Type} {es : TypeId} (e : TypeId) (t : TR α) {v : Value} {m : Nat} (n : Nat) (hA : L[n]? = some (own es TR.raw v (List.replicate m (.slice none 0 0)))) (st : St c env L a w) :
    St c env (L.set n (own2 es e t v (List.replicate m (.slice none 0 0)) (List.replicate m []))) a w :=
  st.map n hA fun S f ⟨xs, h1, h2⟩ => by
    have := reps_raw_eq h2
    subst this
    refine ⟨by simpa [TR.raw] using h1, by simp, ?_, ?_, ?_⟩
    · intro i r hr
      rw [List.getElem?_replicate] at hr
      split at hr
      · cases hr
        exact ⟨[], ⟨by simp, .inl ⟨rowv_rep, rfl⟩⟩, rfl⟩
      · cases hr
    · intro i j _ _ _ b hb; rw [rowv_rep] at hb; obtain ⟨_, _, h⟩ := hb; cases h
    · intro i _ b hb; rw [rowv_rep] at hb; obtain ⟨_, _, h⟩ := hb; cases h

/-- a store into a slice of the call's own, as to its block -/
theorem store_core {α β : Type} {P : Program} {t : TR α} {r : TR β} {S f : Hp} {w : World} {l : List α} {v u : Value} {T e : TypeId} {i off : Nat} {e0 e1 : α} {e' : β} {xs cs' : List Value} (hE : Ln P T r.size r.agg) (hfs : f.sub w)
    (hown : ownAt e t.size f v l.length xs) (hr : reps t S xs l) (he : l[i]? = some e0) (hp : Upd t e0 off r e' e1) (hcu : u.cells.toList = cs') (hcr : r.rep S cs' e') :
    ∃ b C xs', Bl v b ∧ (∀ b', Bl v b' → b' = b) ∧ f b ≠ none ∧ adr v (i * t.size + off) = .pointer (some ⟨b, i * t.size + off, none⟩) ∧ (Instr.storeAt T (.pointer (some ⟨b, i * t.size + off, none⟩)) u).run P w = .ok () (w.setRow b C) ∧ w.heap[b]? ≠ none ∧ (w.setRow b C).heap[b]? = some (.cells C e (0, 0)) ∧
      (∀ f', f' b = some (.cells C e (0, 0)) → ownAt e t.size f' v l.length xs') ∧ reps t S xs' (l.set i e1) := by
  obtain ⟨hxl, hown⟩ := hown
  have hi : i < l.length := (List.getElem?_eq_some_iff.1 he).1
  rcases hown with ⟨_, h2⟩ | ⟨b, cap, C, rfl, hb, hcap, hmax, hC, htk⟩
  · omega
  obtain ⟨p0, m0, q0, e2, hp0, hm0⟩ := reps_get i e0 hr he
  obtain ⟨p', m', q', rfl, hpl', hm', hup⟩ := hp S m0 cs' hm0 hcr
  obtain ⟨p, m, q, e3, hpl, hml, hset⟩ := reps_set i e0 e1 _ hr he hup
  have hwb := hfs b _ hb
  have hlen0 : p0.length = p.length := by omega
  have hmid : (p' ++ m' ++ q').length = m.length := by rw [hml, t.len hm0]
  have e4 : p0 ++ ((p' ++ m' ++ q') ++ q0) = p ++ (m ++ q) := by rw [← List.append_assoc, ← e2, e3, List.append_assoc]
  obtain ⟨e5, e6⟩ := List.append_inj e4 hlen0
  obtain ⟨e7, e8⟩ := List.append_inj e6 hmid
  subst e5 e8
  have hxs : xs = (p0 ++ p') ++ m' ++ (q' ++ q0) := by rw [e2]; simp
  have hCl : C.toList = xs ++ C.toList.drop (l.length * t.size) := by rw [← htk]; simp
  have hfit : i * t.size + off + r.size ≤ C.size := by
    have h5 : xs.length = i * t.size + off + r.size + (q' ++ q0).length := by rw [hxs]; simp [List.length_append]; omega
    have h6 : C.size = C.toList.length := by simp
    rw [h6, hCl, List.length_append]; omega
  have hrun := run_storeAt (P := P) hE w b (i * t.size + off) C e u cs' hcu (r.len hcr) (r.flat hcr) hwb hfit
  have hC' : C.toList.take (i * t.size + off) ++ cs' ++ C.toList.drop (i * t.size + off + r.size) = (p0 ++ p') ++ cs' ++ (q' ++ q0) ++ C.toList.drop (l.length * t.size) := by
    have hl1 : (p0 ++ p').length = i * t.size + off := by rw [List.length_append]; omega
    have hl2 : ((p0 ++ p') ++ m').length = i * t.size + off + r.size := by rw [List.length_append]; omega
    have e9 : C.toList = (p0 ++ p') ++ (m' ++ (q' ++ q0) ++ C.toList.drop (l.length * t.size)) := by
      conv => lhs; rw [hCl, hxs]
      simp
    have e10 : C.toList = ((p0 ++ p') ++ m') ++ ((q' ++ q0) ++ C.toList.drop (l.length * t.size)) := by
      conv => lhs; rw [hCl, hxs]
      simp
    have t1 : C.toList.take (i * t.size + off) = p0 ++ p' := by
      conv => lhs; rw [e9, ← hl1]
      exact List.take_left
    have t2 : C.toList.drop (i * t.size + off + r.size) = (q' ++ q0) ++ C.toList.drop (l.length * t.size) := by
      conv => lhs; rw [e10, ← hl2]
      exact List.drop_left
    rw [t1, t2]; simp
  have hnl : ((p0 ++ p') ++ cs' ++ (q' ++ q0)).length = l.length * t.size := by
    rw [← hxl, hxs]
    have := r.len hcr
    simp only [List.length_append]; omega
  have hlen' : ((p0 ++ p') ++ cs' ++ (q' ++ q0) ++ C.toList.drop (l.length * t.size)).length = C.toList.length := by
    rw [List.length_append, hnl]
    conv => rhs; rw [hCl, List.length_append, hxl]
  rw [hC'] at hrun
  refine ⟨b, _, (p0 ++ p') ++ cs' ++ (q' ++ q0), ⟨_, _, rfl⟩, ?_, by rw [hb]; simp, by simp [adr, add_mk], hrun, by rw [hwb]; simp, setRow_heap w b C _ e _ hwb, ?_, by simpa using hset⟩
  · rintro b' ⟨_, _, h⟩; cases h; rfl
  · intro f' hf'
    refine ⟨hnl, .inr ⟨b, cap, _, rfl, hf', hcap, hmax, ?_, ?_⟩⟩
    · rw [List.size_toArray, hlen', ← hC]; simp
    · rw [← hnl]; exact List.take_left

section
variable {md : Md} {P : Program} {ops : Array Oper} {Q : Exit → Act → World → Prop} {c : Cx} {rest : List Oper} {env : Env} {L : List It}
variable {d : Nat} {ty : TypeId} {pos : String} {af : Array Edge} {g : Option (Nat × Bool)}
variable {α : Type} {es e : TypeId} {t : TR α} {v : Value} {vs : List Value} {l : List (List α)}
theorem RL.lenR {x : Operand} {T E : TypeId} (n : Nat) (hT : P.underlying T = some (.slice E)) (hg : wanted ops env g = some true) (hd : Slot c d) (hx : opv env x = some v)
    (hA : L[n]? = some (own2 es e t v vs l)) (k : RL md P ops Q c rest (put env d (.int .i64 l.length)) L) : RL md P ops Q c (⟨some d, .call ⟨.builtin .len, #[x], #[T]⟩, ty, pos, af, g⟩ :: rest) env L :=
  RL.val hg hd (fun S f a w st => by
    have h := st.has hA
    obtain ⟨ad, cap, rfl, _⟩ := slAt_of_own (Rows.sp h)
    simp [execOp, resolve, invoke, builtin, opv_ok st.env hx, Builtin.len_, run_underlying hT, goInt, Rows.len h]) k
theorem RL.idxR {x y : Operand} {T E : TypeId} {kd : IntKind} {i : Int} {ag : Bool} (n : Nat) (hT : P.underlying T = some (.slice E)) (hE : Ln P E 1 ag) (hg : wanted ops env g = some true) (hd : Slot c d)
    (hx : opv env x = some v) (hy : opv env y = some (.int kd i)) (hA : L[n]? = some (own2 es e t v vs l)) (h0 : 0 ≤ i) (h1 : i < l.length)
    (k : RL md P ops Q c rest (put env d (adr v (i.toNat * 1))) L) : RL md P ops Q c (⟨some d, .indexAddr T x y, ty, pos, af, g⟩ :: rest) env L :=
  RL.val hg hd (fun S f a w st => by
    have h := st.has hA
    rw [← Rows.len h] at h1
    obtain ⟨ad, cap, rfl, _, _, h2⟩ := slAt_of_own (Rows.sp h)
    rcases h2 with ⟨h2, _⟩ | ⟨b, off, C, ty, fz, rfl, _⟩
    · omega
    · simp [execOp, opv_ok st.env hx, opv_ok st.env hy, Instr.indexAt, asIntOf, run_underlying hT, h0, h1, run_sizeOf hE, adr]) k
theorem RL.ldR {x : Operand} {T : TypeId} {i : Nat} {r : List α} (n : Nat) (hE : Ln P T 1 false) (hg : wanted ops env g = some true) (hd : Slot c d)
    (hx : opv env x = some (adr v (i * 1))) (hA : L[n]? = some (own2 es e t v vs l)) (he : l[i]? = some r)
    (k : RL md P ops Q c rest (put env d (rowv vs i)) L) : RL md P ops Q c (⟨some d, .load T x, ty, pos, af, g⟩ :: rest) env L :=
  RL.val hg hd (fun S f a w st => by
    have h := st.has hA
    have hn := (List.getElem?_eq_some_iff.1 hA).1
    have hi : i < vs.length := by rw [Rows.len h]; exact (List.getElem?_eq_some_iff.1 he).1
    obtain ⟨ad, cap, rfl, _, _, h2⟩ := slAt_of_own (Rows.sp h)
    rcases h2 with ⟨h2, _⟩ | ⟨b, off, C, ty, fz, rfl, hb, hC⟩
    · omega
    · have hcell : w.cell? ⟨b, off + i, none⟩ = some (rowv vs i) := cell_of_sub (st.subf n hn) hb (hC i _ (by unfold rowv; rw [List.getD_eq_getElem?_getD, List.getElem?_eq_getElem hi]; rfl))
      have hrun := run_loadAt hE w b (off + i * 1) [rowv vs i] rfl (fun _ => rfl) (fun j u hu => by
        match j, hu with
        | 0, hu => simp at hu; subst hu; simpa using hcell)
      simp only [execOp, opv_ok st.env hx, adr, add_mk, Sem.run_bind, hrun]; rfl) k
theorem stR {a : Act} {w : World} {β : Type} {r : TR β} {u : Value} {x y : Operand} {T : TypeId} {i j off : Nat} {row : List α} {e0 e1 : α} {e' : β} (n : Nat) (hE : Ln P T r.size r.agg) (hq : c.still = false)
    (hx : opv env x = some (adr (rowv vs i) (j * t.size + off))) (hy : opv env y = some u) (hu : VR r u e' L) (hA : L[n]? = some (own2 es e t v vs l)) (hi : l[i]? = some row) (he : row[j]? = some e0) (hp : Upd t e0 off r e' e1) (st : St c env L a w) :
    ∃ w', (execOp a.eval ⟨none, .store T x y, ty, pos, af, g⟩).run P w = .ok .skip w' ∧ St c env (L.set n (own2 es e t v vs (l.set i (row.set j e1)))) (a.put none undef) w' := by
  obtain ⟨S, f, hS0, hS1, h3, h4⟩ := st.heap
  have hn := (List.getElem?_eq_some_iff.1 hA).1
  have hR : Rows es e t v vs l S (f n) := h4 n _ hA
  obtain ⟨xs, ho, hr⟩ := hR.row i row hi
  obtain ⟨cs', hcu, hcr⟩ := cells_vrep (hu S f h4)
  have hil : i < l.length := (List.getElem?_eq_some_iff.1 hi).1
  obtain ⟨b, C, xs', hbl, hun, hfb, hadr, hrun, hwb, hwb', hnew, hrep⟩ := store_core (P := P) hE (h3.subf n hn) ho hr he hp hcu hcr
  refine ⟨w.setRow b C, ?_, ?_⟩
  · rw [hadr] at hx
    simp only [execOp, opv_ok st.env hx, opv_ok st.env hy, Sem.run_bind, hrun]; rfl
  have hfn : ∀ b', f n b' ≠ none → b' < w.heap.size := fun b' hb' => Hp.lt_of_sub (h3.subf n hn) hb'
  refine st.upd (S := S) (f := f) (by simpa [Act.put] using st.defers) (by simpa [Act.put] using st.size) (by simpa [Act.put] using st.env) hS0 hS1 h3 h4 n _ (fun b' => if b' = b then some (.cells C e (0, 0)) else f n b') hn hq rfl rfl rfl (by simp)
    (fun b' o ho' => ?_) (fun b' hb' => ?_) (fun b' _ hb' => setRow_other w b b' _ (fun e => by subst e; exact hfb hb')) ?_
  · dsimp only at ho'
    by_cases hbb : b' = b
    · subst hbb; rw [if_pos rfl] at ho'; cases ho'; exact hwb'
    · rw [if_neg hbb] at ho'
      rw [setRow_other w b b' _ hbb]
      exact h3.subf n hn b' o ho'
  · by_cases hbb : b' = b
    · subst hbb; exact .inl hfb
    · left; simpa [hbb] using hb'
  · refine ⟨ownAt_at (fun b' h' _ => if_neg fun hh => hR.as i hil b (by exact hbl) (by rw [← hh]; exact h')) hR.sp, by rw [List.length_set]; exact hR.len, ?_, by simpa using hR.ap, by simpa using hR.as⟩
    intro k rk hk
    by_cases hki : k = i
    · subst hki
      rw [List.getElem?_set_self hil] at hk
      cases hk
      exact ⟨xs', by rw [List.length_set]; exact hnew _ (if_pos rfl), hrep⟩
    · rw [List.getElem?_set_ne (Ne.symm hki)] at hk
      obtain ⟨ys, y1, y2⟩ := hR.row k rk hk
      exact ⟨ys, ownAt_at (fun b' h' _ => if_neg fun hh => hR.ap k i (List.getElem?_eq_some_iff.1 hk).1 hil hki b' h' (by rw [hh]; exact hbl)) y1, y2⟩
/-- a store into a row -/
theorem RL.stR {β : Type} {r : TR β} {u : Value} {x y : Operand} {T : TypeId} {i j off : Nat} {row : List α} {e0 e1 : α} {e' : β} (n : Nat) (hE : Ln P T r.size r.agg) (hq : c.still = false) (hg : wanted ops env g = some true)
    (hx : opv env x = some (adr (rowv vs i) (j * t.size + off))) (hy : opv env y = some u) (hu : VR r u e' L) (hA : L[n]? = some (own2 es e t v vs l)) (hi : l[i]? = some row) (he : row[j]? = some e0) (hp : Upd t e0 off r e' e1)
    (k : RL .plain P ops Q c rest env (L.set n (own2 es e t v vs (l.set i (row.set j e1))))) : RL .plain P ops Q c (⟨none, .store T x y, ty, pos, af, g⟩ :: rest) env L := by
  intro a w st
  obtain ⟨w', hrun, st'⟩ := Fw.stR (P := P) (ty := ty) (pos := pos) (af := af) (g := g) n hE hq hx hy hu hA hi he hp st
  exact wpl_skip (wanted_ok (o := ⟨none, .store T x y, ty, pos, af, g⟩) st.env hg) hrun (k _ _ st')
theorem rowv_set {vs : List Value} {i j : Nat} {u : Value} (hi : i < vs.length) : rowv (vs.set i u) j = if j = i then u else rowv vs j := by
  unfold rowv
  simp only [List.getD_eq_getElem?_getD]
  split
  · rename_i h; subst h; rw [List.getElem?_set_self hi]; rfl
  · rename_i h; rw [List.getElem?_set_ne (Ne.symm h)]
/-- a row of the call's own goes into its place -/
theorem RL.stSp {u : Value} {x y : Operand} {T : TypeId} {i : Nat} {row r0 : List α} (n m : Nat) (hnm : n ≠ m) (hE : Ln P T 1 false) (hq : c.still = false) (hg : wanted ops env g = some true)
    (hx : opv env x = some (adr v (i * 1))) (hy : opv env y = some u) (hA : L[n]? = some (own2 es e t v vs l)) (hB : L[m]? = some (own e t u row)) (hi : l[i]? = some r0)
    (k : RL .plain P ops Q c rest env (((L.set n (both (own2 es e t v vs l) (own e t u row))).set m gone).set n (own2 es e t v (vs.set i u) (l.set i row)))) : RL .plain P ops Q c (⟨none, .store T x y, ty, pos, af, g⟩ :: rest) env L := by
  intro a w st0
  have st := st0.merge n m hnm hA hB
  have hA' : ((L.set n (both (own2 es e t v vs l) (own e t u row))).set m gone)[n]? = some (both (own2 es e t v vs l) (own e t u row)) := by
    rw [List.getElem?_set_ne (Ne.symm hnm), List.getElem?_set_self (List.getElem?_eq_some_iff.1 hA).1]
  generalize (L.set n (both (own2 es e t v vs l) (own e t u row))).set m gone = L' at *
  obtain ⟨S, f, hS0, hS1, h3, h4⟩ := st.heap
  have hn := (List.getElem?_eq_some_iff.1 hA').1
  obtain ⟨f1, f2, hf, hdj, hR, ⟨ys, hu1, hu2⟩⟩ := h4 n _ hA'
  replace hR : Rows es e t v vs l S f1 := hR
  have hil : i < l.length := (List.getElem?_eq_some_iff.1 hi).1
  have hiv : i < vs.length := by rw [hR.len]; exact hil
  have hcells : ∀ z ∈ vs, z.oneCell' = true := fun z hz => by
    obtain ⟨q, hq1, hq2⟩ := List.mem_iff_getElem.1 hz
    have hql : q < l.length := by rw [← hR.len]; exact hq1
    obtain ⟨zs, z1, _⟩ := hR.row q _ (List.getElem?_eq_getElem hql)
    have := ownAt_cell z1
    unfold rowv at this
    rw [List.getD_eq_getElem?_getD, List.getElem?_eq_getElem hq1] at this
    rw [← hq2]; exact this
  have hf1 : Hp.sub f1 w := Hp.le_sub (Hp.le_cup_left f1 f2) (by rw [← hf]; exact h3.subf n hn)
  have hucell := ownAt_cell hu1
  have hucs : u.cells.toList = [u] := by
    cases u <;> first | rfl | (simp [Value.oneCell'] at hucell)
  obtain ⟨b, C, xs', hbl, hun, hfb, hadr, hrun, hwb, hwb', hnew, hrep⟩ := store_core (P := P) (t := TR.raw) (r := TR.raw) (S := S) (i := i) (off := 0) (e0 := vs[i]) (e1 := u) (e' := u) hE hf1 (by simpa [TR.raw] using hR.sp) (reps_raw hcells) (List.getElem?_eq_getElem hiv) Upd.self hucs ⟨rfl, hucell⟩
  have hxs := reps_raw_eq hrep
  subst hxs
  have hx' : opv env x = some (.pointer (some ⟨b, i * TR.raw.size + 0, none⟩)) := by rw [← hadr]; exact hx
  have hval : (execOp a.eval ⟨none, .store T x y, ty, pos, af, g⟩).run P w = .ok .skip (w.setRow b C) := by
    simp only [execOp, opv_ok st.env hx', opv_ok st.env hy, Sem.run_bind, hrun]; rfl
  refine wpl_skip (wanted_ok (o := ⟨none, .store T x y, ty, pos, af, g⟩) st.env hg) hval (k _ _ ?_)
  have hf2b : f2 b = none := by
    rcases hdj b with h | h
    · exact absurd h hfb
    · exact h
  refine st.upd (S := S) (f := f) (by simpa [Act.put] using st.defers) (by simpa [Act.put] using st.size) (by simpa [Act.put] using st.env) hS0 hS1 h3 h4 n _ (fun b' => if b' = b then some (.cells C es (0, 0)) else f n b') hn hq rfl rfl rfl (by simp)
    (fun b' o ho' => ?_) (fun b' hb' => ?_) (fun b' _ hb' => setRow_other w b b' _ (fun e => by subst e; rw [hf] at hb'; exact hfb (by simp [Hp.cup] at hb'; exact hb'.1))) ?_
  · dsimp only at ho'
    by_cases hbb : b' = b
    · subst hbb; rw [if_pos rfl] at ho'; cases ho'; exact hwb'
    · rw [if_neg hbb] at ho'
      rw [setRow_other w b b' _ hbb]
      exact h3.subf n hn b' o ho'
  · by_cases hbb : b' = b
    · subst hbb; left; rw [hf]
      intro hh; simp [Hp.cup] at hh; exact hfb hh.1
    · left; simpa [hbb] using hb'
  · have hat1 : ∀ b', b' ≠ b → f1 b' ≠ none → (if b' = b then some (Obj.cells C es (0, 0)) else f n b') = f1 b' := fun b' h1 h2 => by
      rw [if_neg h1, hf]
      cases hc : f1 b' with
      | none => exact absurd hc h2
      | some o => simp [Hp.cup, hc]
    have hat2 : ∀ b', f2 b' ≠ none → (if b' = b then some (Obj.cells C es (0, 0)) else f n b') = f2 b' := fun b' h2 => by
      rw [if_neg (fun h => h2 (by rw [h]; exact hf2b)), hf]
      rcases hdj b' with h | h
      · simp [Hp.cup, h]
      · exact absurd h h2
    refine ⟨by simpa [TR.raw] using hnew _ (if_pos rfl), by simpa using hR.len, ?_, ?_, ?_⟩
    · intro q r hq
      rw [rowv_set hiv]
      by_cases hqi : q = i
      · subst hqi
        rw [List.getElem?_set_self hil] at hq
        cases hq
        rw [if_pos rfl]
        exact ⟨ys, ownAt_at (fun b' _ h2 => hat2 b' h2) hu1, hu2⟩
      · rw [List.getElem?_set_ne (Ne.symm hqi)] at hq
        rw [if_neg hqi]
        obtain ⟨zs, z1, z2⟩ := hR.row q r hq
        exact ⟨zs, ownAt_at (fun b' h1 h2 => hat1 b' (fun hh => hR.as q (List.getElem?_eq_some_iff.1 hq).1 b (by rw [← hh]; exact h1) hbl) h2) z1, z2⟩
    · intro p q hp hq hpq b' h1 h2
      rw [List.length_set] at hp hq
      rw [rowv_set hiv] at h1 h2
      have key : ∀ q, q < l.length → Bl u b' → Bl (rowv vs q) b' → False := fun q hq k1 k2 => by
        have g2 := ownAt_has hu1 k1
        obtain ⟨zs, z1, _⟩ := hR.row q _ (List.getElem?_eq_getElem hq)
        have g1 := ownAt_has z1 k2
        rcases hdj b' with h | h
        · exact g1 h
        · exact g2 h
      by_cases hpi : p = i
      · rw [if_pos hpi] at h1
        rw [if_neg (by omega)] at h2
        exact key q hq h1 h2
      · rw [if_neg hpi] at h1
        by_cases hqi : q = i
        · rw [if_pos hqi] at h2; exact key p hp h2 h1
        · rw [if_neg hqi] at h2; exact hR.ap p q hp hq hpq b' h1 h2
    · intro p hp b' h1 h2
      rw [List.length_set] at hp
      rw [rowv_set hiv] at h1
      by_cases hpi : p = i
      · rw [if_pos hpi] at h1
        have g2 := ownAt_has hu1 h1
        have g1 := ownAt_has hR.sp h2
        rcases hdj b' with h | h
        · exact g1 h
        · exact g2 h
      · rw [if_neg hpi] at h1
        exact hR.as p hp b' h1 h2
end
theorem GL.lenR {P : Program} {Q : Exit → Act → World → Prop} {c : Cx} {r : List Code} {env : Env} {L : List It} {α : Type} {es e : TypeId} {t : TR α} {v : Value} {vs : List Value} {l : List (List α)} (n : Nat) (hA : L[n]? = some (own2 es e t v vs l)) (k : l.length ≤ 9223372036854775807 → GL P Q c r env L) : GL P Q c r env L := by
  intro a w st
  obtain ⟨S, f, _, _, h⟩ := st.has hA
  obtain ⟨_, cap, _, h3, h4, _⟩ := slAt_of_own (Rows.sp h)
  have := Rows.len h
  exact k (by simp only [maxLen] at h4; omega) a w st
end Go.Fw
