/-
  The statement Rows.ListsOwnUptoSaid: the law ListsOwn of the given program returns true for every input, and leaves its arguments as they were. Where what it reads is of bulk at most 1048576.
-/
import Derived.Test.YtnhpddgfhoejeaaWListsOwnWalks
import Derived.Test.YtnhpddgfhoejeaaFwO
import Derived.Test.YtnhpddgfhoejeaaPuJListsOwn1
import Derived.Test.YtnhpddgfhoejeaaPuJListsOwn2
import Derived.Test.YtnhpddgfhoejeaaPuJListsOwn3
import Derived.JoinedCond
import Derived.Test.YtnhpddgfhoejeaaRows
import Derived.ShutString
import Derived.Below
import Derived.Lib.SmallJoins
namespace Go.Proofs.Ytnhpddgfhoejeaa
open Go.ChangeShapes Go.WideShapes Go.ChangeAt Go.RowKit Go.Fw
open Go.ChangeMaps (open_string shut_string)
namespace FinListsOwn
theorem own : ownKnob Try.prog.godebug = none := by kernel_rfl
theorem laidOut : laidOutB Try.prog = true := by kernel_rfl
/-- a slice's reading holds as many as the slice -/
theorem slice_len {α : Type} {P : Program} {T E : TypeId} {t : TR α} (hu : P.underlying T = some (.slice E)) {H : Type} {enc : TypeId × Value → H} {w : World} {spare : Nat → Bool} {held : Bool} {v : Value} {d : DataW H} {ps : List MemPlace} {h : Hp} {x : List α} (hz : (TR.sl t).vrep h v x)
    (e : DataW.Trod enc P w 0 spare held T v d ps) : x = [] ∨ ∃ elems rest, d = .slice elems rest ∧ elems.length = x.length := by
  obtain ⟨cs, hv, v', xs, rfl, ⟨a, cap, rfl, _⟩, _⟩ := hz
  have hvs : v = .slice a x.length cap := hv
  subst hvs
  obtain ⟨fuel, e⟩ := e
  rcases DataW.trod_slice hu e with ⟨hc, hd⟩ | ⟨a', len, cap', elems, rest, n, _, hc, hd, _, _, _, hel, _⟩
  · left
    have hc' : [Value.slice a x.length cap] = [Value.slice none 0 0] := hc
    simp only [List.cons.injEq, Value.slice.injEq, and_true] at hc'
    exact List.length_eq_zero_iff.1 hc'.2.1
  · right
    have hc' : [Value.slice a x.length cap] = [Value.slice (some a') len cap'] := hc
    simp only [List.cons.injEq, Value.slice.injEq, and_true] at hc'
    have hd' := congrArg Prod.fst hd
    exact ⟨_, _, hd', by rw [List.length_map]; omega⟩
theorem bulk_one {H : Type} (d : DataW H) : 1 ≤ Rows.uptoBulk d := by
  cases d with
  | lit l => cases l <;> simp [Rows.uptoBulk]
  | _ => simp [Rows.uptoBulk]
theorem bulk_length {H : Type} (l : List (DataW H)) : l.length ≤ Rows.uptoBulkAll l := by
  induction l with
  | nil => simp [Rows.uptoBulkAll]
  | cons x r ih => have := bulk_one x; simp only [Rows.uptoBulkAll, List.length_cons]; omega
theorem bulk_mem {H : Type} {l : List (DataW H)} {e : DataW H} (h : e ∈ l) : Rows.uptoBulk e ≤ Rows.uptoBulkAll l := by
  induction l with
  | nil => cases h
  | cons x r ih =>
    simp only [Rows.uptoBulkAll]
    rcases List.mem_cons.1 h with rfl | h
    · omega
    · have := ih h; omega
set_option maxRecDepth 100000 in
theorem lifted (os : Os) (started : os.Started) (H : Type) (enc : TypeId × Value → H) (F : Stop.Interp) :
    ReturnsInHanded {} Try.checked os 5 .any ((Rows.OpenSpec.upto Rows.listsOwnSpec).pre6 enc Try.prog Try.f5 Rows.listsOwnUptoRow.domain false) (((Rows.OpenSpec.upto Rows.listsOwnSpec).at F).post enc Try.prog Try.f5 false true false false) := by
  refine returnsInHanded_of_cond (C := Try.checked) (s := Rows.OpenSpec.upto Rows.listsOwnSpec) (k := Rows.uptoSmall) rfl own started (by kernel_rfl) Try.func5
    (OpenSpec.witness (enc := enc) (C := Try.checked) (s := Rows.OpenSpec.upto Rows.listsOwnSpec) (k := Rows.uptoSmall) rfl false ⟨#[], #[.slice none 0 0, .int .i64 0, .slice none 0 0, .slice none 0 0], []⟩ 8 (by kernel_rfl) (by kernel_rfl) (by kernel_rfl) (x := ([.nil, .lit (.int .i64 0), .nil, .nil], [], [])) (by kernel_rfl) rfl (by kernel_rfl)) ?_
  intro W base args ds gs before hval0 hW _ hk _
  have hval : ∀ (j : Nat) t v, Try.f5.params[j]? = some t → args[j]? = some v → Value.okWide Try.prog W .any base t v := hval0
  have hW' := hW
  obtain ⟨p, q, hA0, hV, rfl, hfz, hnd⟩ := hW
  have hA : DataW.TrodAll enc Try.prog W 0 (fun _ => true) true Try.f5.params.toList args.toList ds p := hA0
  rw [Try.params5] at hA hval
  obtain ⟨v0, vs0, d0, ds0, p0, q0, hargs, rfl, rfl, h0, r0⟩ := trodAll_cons hA
  obtain ⟨v1, vs1, d1, ds1, p1, q1, rfl, rfl, rfl, h1, r1⟩ := trodAll_cons r0
  obtain ⟨v2, vs2, d2, ds2, p2, q2, rfl, rfl, rfl, h2, r2⟩ := trodAll_cons r1
  obtain ⟨v3, vs3, d3, ds3, p3, q3, rfl, rfl, rfl, h3, r3⟩ := trodAll_cons r2
  obtain ⟨rfl, rfl, rfl⟩ := trodAll_nil r3
  obtain rfl : args = #[v0, v1, v2, v3] := by cases args; simp_all
  obtain ⟨rfl, rfl⟩ := trodVars_none hV
  obtain ⟨b0, len0, cap0, rfl⟩ := okWide_slice Try.underlying23 (hval 0 23 v0 rfl rfl)
  have k0 := h0
  have lt0 : ∀ x ∈ p0, x.block < W.heap.size := by obtain ⟨m, hm⟩ := k0; exact DataW.trod_lt m _ _ _ hm
  obtain ⟨a0, z0, w0⟩ := open_arg (t := (TR.sl TR.int)) (Opens.sl Try.underlying23 (Opens.int Try.underlying3) (by kernel_rfl) (by decide)) rfl h0
  obtain ⟨a1, rfl, rfl, rfl, w1⟩ := open_int Try.underlying3 (hval 1 3 v1 rfl rfl) h1
  obtain ⟨b2, len2, cap2, rfl⟩ := okWide_slice Try.underlying22 (hval 2 22 v2 rfl rfl)
  have k2 := h2
  have lt2 : ∀ x ∈ p2, x.block < W.heap.size := by obtain ⟨m, hm⟩ := k2; exact DataW.trod_lt m _ _ _ hm
  obtain ⟨a2, z2, w2, D2⟩ := open_argD (t := (TR.sl (TR.sl TR.int))) (OpensD.sl Try.underlying22 (OpensD.sl Try.underlying23 (Opens.int Try.underlying3).d (by kernel_rfl) (by decide)) (by kernel_rfl) (by decide)) rfl h2
  obtain ⟨b3, len3, cap3, rfl⟩ := okWide_slice Try.underlying51 (hval 3 51 v3 rfl rfl)
  have k3 := h3
  have lt3 : ∀ x ∈ p3, x.block < W.heap.size := by obtain ⟨m, hm⟩ := k3; exact DataW.trod_lt m _ _ _ hm
  obtain ⟨a3, z3, w3⟩ := open_arg (t := (TR.sl (TR.pair TR.int TR.int))) (Opens.sl Try.underlying51 (Opens.struct Try.underlying54 (OpensF.cons rfl (Opens.int Try.underlying3) (by kernel_rfl) (OpensF.last rfl (Opens.int Try.underlying3) (by kernel_rfl))) (by kernel_rfl)) (by kernel_rfl) (by decide)) rfl h3
  clear hA0 hval0
  have hb : Rows.uptoBulkAll [d0, .lit (.int .i64 a1), d2, d3] ≤ 1048576 := by
    have h := of_decide_eq_true hk
    simpa only [List.append_nil] using h
  have b0 : a0.length ≤ 1048576 := by
    rcases slice_len Try.underlying23 z0 k0 with e | ⟨elems, rest, e, he⟩
    · rw [e]; exact Nat.zero_le _
    · have := bulk_length elems
      rw [e] at hb
      simp only [Rows.uptoBulkAll, Rows.uptoBulk] at hb
      omega
  have b2 : a2.length ≤ 1048576 ∧ ∀ r ∈ a2, r.length ≤ 1048576 := by
    rcases D2 with e | ⟨elems, rest, e, he, hr⟩
    · rw [e]; exact ⟨Nat.zero_le _, by simp⟩
    · rw [e] at hb
      simp only [Rows.uptoBulkAll, Rows.uptoBulk] at hb
      have := bulk_length elems
      refine ⟨by omega, fun r hr2 => ?_⟩
      obtain ⟨x, hx, hd⟩ := hr r hr2
      have h1 := bulk_mem hx
      rcases hd with e2 | ⟨es, rs, e2, he2, _⟩
      · rw [e2]; exact Nat.zero_le _
      · have := bulk_length es
        rw [e2] at h1
        simp only [Rows.uptoBulk] at h1
        omega
  have b3 : a3.length ≤ 1048576 := by
    rcases slice_len Try.underlying51 z3 k3 with e | ⟨elems, rest, e, he⟩
    · rw [e]; exact Nat.zero_le _
    · have := bulk_length elems
      rw [e] at hb
      simp only [Rows.uptoBulkAll, Rows.uptoBulk] at hb
      omega
  refine (Go.Wk.pk_ListsOwn_c (whole W) W (whole_sub W) _ a0 z0 a1 _ a2 z2 _ a3 z3 true (Go.Pu.ListsOwn a0 w0 b0 a1 w1 a2 w2 b2 a3 w3 b3)).mono fun e W' ⟨he, bel⟩ => ?_
  subst he
  exact ⟨_, rfl, _, _, _, [], _, [], hW', trodAll_mk1 (shut_bool Try.underlying4 _), (trodAll_cons_mk (Below.trod laidOut (by kernel_rfl) (of_decide_eq_true (by kernel_rfl)) k0 bel lt0) (trodAll_cons_mk (shut_int Try.underlying3 w1) (trodAll_cons_mk (Below.trod laidOut (by kernel_rfl) (of_decide_eq_true (by kernel_rfl)) k2 bel lt2) (trodAll_cons_mk (Below.trod laidOut (by kernel_rfl) (of_decide_eq_true (by kernel_rfl)) k3 bel lt3) trodAll_mk0)))), rfl, bel.frame _, fun h => by cases h⟩
theorem over : Rows.ListsOwnUptoSaid :=
  OpenClaim.holds_of_cond 5 Try.f5 rfl rfl rfl rfl rfl rfl rfl ⟨rfl, rfl, rfl, rfl, rfl⟩ rfl rfl rfl rfl rfl (by kernel_rfl) Try.func5 (by kernel_rfl)
    (of_decide_eq_true (by kernel_rfl)) (by unfold Func.isWrapper; first | (rw [if_pos (by decide +kernel)]; kernel_rfl) | (rw [if_neg (by decide +kernel)]; exact ⟨rfl, rfl⟩))
    (fun os started H enc _ F => lifted os started H enc F)
end FinListsOwn
theorem listsOwn_holds : Rows.ListsOwnUptoSaid := FinListsOwn.over
#print axioms listsOwn_holds
end Go.Proofs.Ytnhpddgfhoejeaa
