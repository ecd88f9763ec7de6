/- Slices of slices that are the call's own, row by row; a comparison with nil. No program in sight. -/
import Derived.Test.YtpapmcdhinblaaaGreatDoorFwF
import Derived.Lib.SliceRun
set_option linter.all false
namespace Go.Fw
open Go.RowKit

section
variable {md : Md} {P : Program} {ops : Array Oper} {Q : Exit → Act → World → Prop} {c : Cx} {rest : List Oper} {env : Env} {L : List It}
variable {d : Nat} {ty : TypeId} {pos : String} {af : Array Edge} {g : Option (Nat × Bool)}
theorem RL.eqNil {α : Type} {t : TR α} {l : List α} {v : Value} {x y : Operand} {T E yt : TypeId} (n : Nat) {A : It} (hT : P.underlying T = some (.slice E)) (hg : wanted ops env g = some true) (hd : Slot c d) (hx : opv env x = some v) (hy : opv env y = some (.slice none 0 0))
    (hA : L[n]? = some A) (hs : SlOf A t v l) (k : ∀ b : Bool, (b = true → l = []) → RL md P ops Q c rest (put env d (.bool b)) L) : RL md P ops Q c (⟨some d, .binOp .eql T x y yt, ty, pos, af, g⟩ :: rest) env L :=
  RL.rd (X := fun u Lx => ∃ b, u = .bool b ∧ (b = true → l = []) ∧ Lx = []) hg hd (fun S f hi _ => by
    obtain ⟨h, xs, _, ⟨ad, cap, rfl, _, _, h2⟩, _⟩ := hs S _ (hi n A hA)
    refine ⟨.bool ad.isNone, [], ⟨ad.isNone, rfl, ?_, rfl⟩, fun i A hA => by simp at hA, fun a w vw => ?_⟩
    · intro hb
      rcases h2 with ⟨h2, _⟩ | ⟨b, off, C, ty, fz, rfl, _⟩
      · exact List.eq_nil_of_length_eq_zero h2
      · simp at hb
    · simp [execOp, opv_ok vw.env hx, opv_ok vw.env hy, eqGuard_at_slice, Lib.run_eql_slice_nil w T E ad _ _ _ _ hT]) (by rintro _ _ ⟨b, rfl, hb, rfl⟩; rw [List.append_nil]; exact k b hb)
end

def gone : It := ⟨fun _ _ => True, fun _ h => h⟩
def both (A B : It) : It := ⟨fun S f => ∃ f1 f2, f = Hp.cup f1 f2 ∧ Hp.dj f1 f2 ∧ A.P S f1 ∧ B.P S f2, fun l ⟨f1, f2, e, h, a, b⟩ => ⟨f1, f2, e, h, A.mono l a, B.mono l b⟩⟩
theorem St.map {c : Cx} {env : Env} {L : List It} {a : Act} {w : World} {A C : It} (n : Nat) (hA : L[n]? = some A) (hC : ∀ S f, A.P S f → C.P S f) (st : St c env L a w) : St c env (L.set n C) a w := by
  obtain ⟨S, f, e1, e2, e3, e4⟩ := st.heap
  have hn := (List.getElem?_eq_some_iff.1 hA).1
  refine ⟨st.defers, st.size, st.env, st.below, st.calm, S, f, e1, e2, by rw [List.length_set]; exact e3, ?_⟩
  intro i B hB
  by_cases hin : i = n
  · subst hin
    rw [List.getElem?_set_self hn] at hB
    cases hB
    exact hC S _ (e4 i A hA)
  · rw [List.getElem?_set_ne (Ne.symm hin)] at hB
    exact e4 i B hB
theorem St.melt {c : Cx} {env : Env} {L : List It} {a : Act} {w : World} {A C : It} (n : Nat) (hA : L[n]? = some A) (hC : ∀ S f, Hp.dj S f → A.P S f → C.P (S.cup f) Hp.emp) (st : St c env L a w) : St c env (L.set n C) a w := by
  obtain ⟨S, f, e1, e2, e3, e4⟩ := st.heap
  have hn := (List.getElem?_eq_some_iff.1 hA).1
  have dj := e3.dS n hn
  refine ⟨st.defers, st.size, st.env, st.below, st.calm, S.cup (f n), fun i => if i = n then Hp.emp else f i, Hp.le_trans e1 (Hp.le_cup_left _ _), ?_, ⟨Hp.sub_cup e3.sub (e3.subf n hn), ?_, ?_, ?_, ?_⟩, ?_⟩
  · intro b hb
    by_cases hs : S b = none
    · right
      have : f n b ≠ none := fun hf => hb (by simp [Hp.cup, hs, hf])
      exact e3.lo n hn b this
    · exact e2 b hs
  · intro i hi
    rw [List.length_set] at hi
    split
    · exact Hp.sub_emp w
    · exact e3.subf i hi
  · intro i hi
    rw [List.length_set] at hi
    split
    · exact Hp.dj_emp _
    · rename_i hin
      intro b
      rcases e3.dS i hi b with h | h
      · rcases e3.df n i hn hi (Ne.symm hin) b with h' | h'
        · left; simp [Hp.cup, h, h']
        · exact .inr h'
      · exact .inr h
  · intro i j hi hj hij
    rw [List.length_set] at hi hj
    split
    · exact Hp.dj_comm (Hp.dj_emp _)
    · split
      · exact Hp.dj_emp _
      · exact e3.df i j hi hj hij
  · intro i hi b hb
    rw [List.length_set] at hi
    split at hb
    · exact absurd rfl hb
    · exact e3.lo i hi b hb
  · intro i B hB
    by_cases hin : i = n
    · subst hin
      rw [List.getElem?_set_self hn] at hB
      cases hB
      show C.P (S.cup (f i)) (if i = i then Hp.emp else f i)
      rw [if_pos rfl]
      exact hC S _ dj (e4 i A hA)
    · rw [List.getElem?_set_ne (Ne.symm hin)] at hB
      show B.P (S.cup (f n)) (if i = n then Hp.emp else f i)
      rw [if_neg hin]
      exact B.mono (Hp.le_cup_left _ _) (e4 i B hB)
def TR.raw : TR Value where
  size := 1
  agg := false
  rep _ cs x := cs = [x] ∧ x.oneCell' = true
  len h := by rw [h.1]; rfl
  mono _ h := h
  flat h u hu := by obtain ⟨rfl, h⟩ := h; simp at hu; rw [hu]; exact h
  one _ := rfl
def rowv (vs : List Value) (i : Nat) : Value := vs.getD i (.slice none 0 0)
def Bl (v : Value) (b : Nat) : Prop := ∃ n cap, v = .slice (some ⟨b, 0, none⟩) n cap
theorem ownAt_cell {e : TypeId} {s : Nat} {f : Hp} {v : Value} {n : Nat} {xs : List Value} (o : ownAt e s f v n xs) : v.oneCell' = true := by
  obtain ⟨_, ⟨rfl, _⟩ | ⟨b', cap, C, rfl, h, _⟩⟩ := o <;> rfl
structure Rows {α : Type} (es e : TypeId) (t : TR α) (v : Value) (vs : List Value) (d : List (List α)) (S f : Hp) : Prop where
  sp : ownAt es 1 f v vs.length vs
  len : vs.length = d.length
  row : ∀ i r, d[i]? = some r → ∃ xs, ownAt e t.size f (rowv vs i) r.length xs ∧ reps t S xs r
  ap : ∀ i j, i < d.length → j < d.length → i ≠ j → ∀ b, Bl (rowv vs i) b → ¬ Bl (rowv vs j) b
  as : ∀ i, i < d.length → ∀ b, Bl (rowv vs i) b → ¬ Bl v b
def own2 {α : Type} (es e : TypeId) (t : TR α) (v : Value) (vs : List Value) (d : List (List α)) : It :=
  ⟨fun S f => Rows es e t v vs d S f, fun l h => ⟨h.sp, h.len, fun i r hr => let ⟨xs, a, b⟩ := h.row i r hr; ⟨xs, a, reps_mono l b⟩, h.ap, h.as⟩⟩
theorem SlOf.row {α : Type} {es e : TypeId} {t : TR α} {v : Value} {vs : List Value} {d : List (List α)} {i : Nat} {r : List α} (h : d[i]? = some r) : SlOf (own2 es e t v vs d) t (rowv vs i) r := fun S f k => by
  obtain ⟨xs, h1, h2⟩ := k.row i r h
  exact ⟨f, xs, .inr rfl, slAt_of_own h1, h2⟩
theorem Seen.row {α : Type} {es e : TypeId} {t : TR α} {v : Value} {vs : List Value} {d : List (List α)} {i : Nat} {r : List α} (h : d[i]? = some r) : Seen (own2 es e t v vs d) (fun U => t.sl.vrep U (rowv vs i) r) := fun _ _ _ h1 h2 k => by
  obtain ⟨xs, k1, k2⟩ := k.row i r h
  exact ⟨[rowv vs i], rfl, _, xs, rfl, slAt_mono h2 (slAt_of_own k1), reps_mono h1 k2⟩
theorem reps_rows {α : Type} {e : TypeId} {t : TR α} {S f U : Hp} (hS : Hp.le S U) (hf : Hp.le f U) : ∀ (vs : List Value) (d : List (List α)), vs.length = d.length → (∀ i r, d[i]? = some r → ∃ xs, ownAt e t.size f (rowv vs i) r.length xs ∧ reps t S xs r) → reps t.sl U vs d
  | [], [], _, _ => rfl
  | v :: vs, r :: d, hl, h => by
    refine ⟨[v], vs, rfl, ?_, reps_rows (e := e) hS hf vs d (by simpa using hl) fun i r' hr => ?_⟩
    · obtain ⟨xs, k1, k2⟩ := h 0 r rfl
      exact ⟨v, xs, rfl, slAt_mono hf (slAt_of_own (by simpa [rowv] using k1)), reps_mono hS k2⟩
    · have := h (i + 1) r' (by simpa using hr)
      simpa [rowv] using this
  | [], _ :: _, hl, _ => by simp at hl
  | _ :: _, [], hl, _ => by simp at hl
theorem Rows.vrep {α : Type} {es e : TypeId} {t : TR α} {v : Value} {vs : List Value} {d : List (List α)} {S f U : Hp} (h : Rows es e t v vs d S f) (hS : Hp.le S U) (hf : Hp.le f U) : t.sl.sl.vrep U v d := by
  refine ⟨[v], rfl, v, vs, rfl, ?_, reps_rows hS hf vs d h.len h.row⟩
  rw [← h.len]
  exact slAt_mono hf (slAt_of_own h.sp)
theorem Seen.own2 {α : Type} {es e : TypeId} {t : TR α} {v : Value} {vs : List Value} {d : List (List α)} : Seen (own2 es e t v vs d) (fun U => t.sl.sl.vrep U v d) := fun _ _ _ h1 h2 k => Rows.vrep k h1 h2
section
variable {md : Md} {P : Program} {ops : Array Oper} {Q : Exit → Act → World → Prop} {c : Cx} {rest : List Oper} {env : Env} {L : List It}
variable {d : Nat} {ty : TypeId} {pos : String} {af : Array Edge} {g : Option (Nat × Bool)}
variable {α : Type} {es e : TypeId} {t : TR α} {v : Value} {vs : List Value} {l : List (List α)}
end
end Go.Fw
