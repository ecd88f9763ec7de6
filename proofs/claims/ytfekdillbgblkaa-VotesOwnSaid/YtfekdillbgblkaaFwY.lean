/- Appends of as much as the platform's room bears, by an element's bytes. No program in sight. -/
import Derived.Test.YtfekdillbgblkaaFwS
set_option linter.all false
namespace Go.Fw
open Go.RowKit
/-- N elements are within the platform's room -/
def RoomN (P : Program) (E : TypeId) (N : Nat) : Prop := N ≤ 140737488355328 ∧ ∀ i, P.info? E = some i → N * i.bytes ≤ 140737488355328
theorem RoomN.of {P : Program} {E : TypeId} {N sz B : Nat} {zc : Value} (h : (P.info? E).map (fun i => (i.zero, i.size, i.bytes)) = some (some zc, sz, B)) (h1 : N ≤ 140737488355328) (h2 : N * B ≤ 140737488355328) : RoomN P E N := by
  refine ⟨h1, fun i hi => ?_⟩
  rw [hi] at h
  have hB : i.bytes = B := congrArg (fun x : Option Value × Nat × Nat => x.2.2) (Option.some.inj h)
  rw [hB]; exact h2
section
variable {P : Program} {ops : Array Oper} {Q : Exit → Act → World → Prop} {c : Cx} {rest : List Oper} {env : Env} {L : List It}
variable {d : Nat} {ty : TypeId} {pos : String} {af : Array Edge} {g : Option (Nat × Bool)}
/-- append to a slice of the call's own -/
theorem RL.appB {α : Type} {t : TR α} {zc : List Value} {T E : TypeId} {x y : Operand} {v u : Value} {l m : List α} (n q : Nat) {A : It} (hT : P.underlying T = some (.slice E)) (hO : LnO P E t.size zc) (hq : c.still = false) (hg : wanted ops env g = some true) (hd : Slot c d)
    (hx : opv env x = some v) (hy : opv env y = some u) (hA : L[n]? = some (own E t v l)) (hB : L[q]? = some A) (hs : SlOf A t u m) {N : Nat} (hN : RoomN P E N) (hb : l.length + m.length ≤ N)
    (k : ∀ v', RL .plain P ops Q c rest (put env d v') (L.set n (own E t v' (l ++ m)))) : RL .plain P ops Q c (⟨some d, .call ⟨.builtin .append, #[x, y], #[T, T]⟩, ty, pos, af, g⟩ :: rest) env L := by
  intro a w st
  obtain ⟨i, zv, i1, i2, i3, i4, i5, i6, i7⟩ := hO.ex
  obtain ⟨S, f, hS0, hS1, h3, h4⟩ := st.heap
  have hn := (List.getElem?_eq_some_iff.1 hA).1
  have hql := (List.getElem?_eq_some_iff.1 hB).1
  obtain ⟨xs, hown, hr⟩ := h4 n _ hA
  obtain ⟨h, ys, hh, ⟨ad, cap2, rfl, hc2, _, h2⟩, hr2⟩ := hs S (f q) (h4 q A hB)
  have hsub : h.sub w := by
    rcases hh with rfl | rfl
    · exact h3.sub
    · exact h3.subf q hql
  have hyl := reps_len hr2
  by_cases hm0 : m.length = 0
  · have hm : m = [] := List.eq_nil_of_length_eq_zero hm0
    subst hm
    have hrun : (execOp a.eval ⟨some d, .call ⟨.builtin .append, #[x, y], #[T, T]⟩, ty, pos, af, g⟩).run P w = .ok (.value v) w := by
      have hfc : (Builtin.firstCells i.size 0 (.slice ad 0 cap2)).run P w = .ok #[] w := by
        cases ad <;> simp [Builtin.firstCells, loadCells, loadCellsFrom]
      rcases hown.2 with ⟨rfl, hl0⟩ | ⟨b, cap, C, rfl, hb', hcap, hmax, hC, htk⟩
      · simp [execOp, resolve, invoke, builtin, opv_ok st.env hx, opv_ok st.env hy, Builtin.append_, run_underlying hT, sizeOf, typeInfo, i1, Builtin.lenOf, hfc]
      · simp [execOp, resolve, invoke, builtin, opv_ok st.env hx, opv_ok st.env hy, Builtin.append_, run_underlying hT, sizeOf, typeInfo, i1, Builtin.lenOf, hfc, hcap, storeCells]
    refine wpl_val (wanted_ok (o := ⟨some d, .call ⟨.builtin .append, #[x, y], #[T, T]⟩, ty, pos, af, g⟩) st.env hg) hrun (k v _ _ ?_)
    have st' := st.put v hd
    have hL : L.set n (own E t v (l ++ [])) = L := by
      rw [List.append_nil]
      apply List.ext_getElem?
      intro j
      by_cases hj : j = n
      · subst hj; rw [List.getElem?_set_self hn, hA]
      · rw [List.getElem?_set_ne (Ne.symm hj)]
    rw [hL]; exact st'
  · rcases h2 with ⟨h2, _⟩ | ⟨b2, o2, C2, tb, fz, rfl, hb2, hC2⟩
    · omega
    have hnews : ∀ j z, ys[j]? = some z → w.cell? ((⟨b2, o2, none⟩ : Addr).add j) = some z := fun j z hz => by
      rw [add_mk]; exact cell_of_sub hsub hb2 (hC2 j z hz)
    have hzs : zv.cells.size = t.size := by rw [← i5, ← i4]; simp
    have hN1 := hN.1
    have hbyte : (l.length + m.length) * i.bytes ≤ 140737488355328 := by
      calc (l.length + m.length) * i.bytes ≤ N * i.bytes := Nat.mul_le_mul hb (Nat.le_refl _)
        _ ≤ 140737488355328 := hN.2 i i1
    obtain ⟨w', b, C, cap, hrun', hwb, hcap, hmax, hC, htk, hdom, hkeep, k1, k2, k3, k4⟩ := run_app (P := P) w T ty E i zv t.size hT i1 i3 i2 hzs (f n) (h3.subf n hn) v l.length xs hown ⟨b2, o2, none⟩ m.length cap2 ys hyl hnews (reps_flat hr2) (by omega) (by simp [maxLen]; omega) hbyte
    have hrun : (execOp a.eval ⟨some d, .call ⟨.builtin .append, #[x, y], #[T, T]⟩, ty, pos, af, g⟩).run P w = .ok (.value (.slice (some ⟨b, 0, none⟩) (l.length + m.length) cap)) w' := by
      simp [execOp, resolve, invoke, builtin, opv_ok st.env hx, opv_ok st.env hy, hrun']
    refine wpl_val (wanted_ok (o := ⟨some d, .call ⟨.builtin .append, #[x, y], #[T, T]⟩, ty, pos, af, g⟩) st.env hg) hrun (k (.slice (some ⟨b, 0, none⟩) (l.length + m.length) cap) _ _ ?_)
    have st' := st.put (.slice (some ⟨b, 0, none⟩) (l.length + m.length) cap) hd
    refine st.upd (S := S) (f := f) st'.defers st'.size st'.env hS0 hS1 h3 h4 n _ (Hp.one b (.cells C E (0, 0))) hn hq k1 k2 k3 k4 (Hp.one_sub hwb) (fun b' hb' => by rw [Hp.one_ne hb']; exact hdom) hkeep ?_
    refine ⟨xs ++ ys, ⟨?_, .inr ⟨b, cap, C, by rw [List.length_append], Hp.one_self b _, by rw [List.length_append]; exact hcap, hmax, hC, by rw [List.length_append]; exact htk⟩⟩, reps_append hr hr2⟩
    rw [List.length_append, hown.1, hyl, List.length_append, Nat.add_mul]
end
end Go.Fw
