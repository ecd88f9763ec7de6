/-
  The statement Rows.TreeZermeloUptoSaid: the law TreeZermelo of the given program returns true for every input, and leaves its arguments as they were. Where what it reads is of bulk at most 1048576.
-/
import Derived.Test.YtnkhelpadbickaaWTreeZermeloWalks
import Derived.Test.YtnkhelpadbickaaFwO
import Derived.Test.YtnkhelpadbickaaPuKit
import Derived.Test.YtnkhelpadbickaaPuWp
import Derived.Test.YtnkhelpadbickaaPuWithin
import Derived.Test.YtnkhelpadbickaaPuEq
import Derived.Test.YtnkhelpadbickaaPuTree
import Derived.Test.YtnkhelpadbickaaPuAuction
import Derived.Test.YtnkhelpadbickaaPuTKuhn
import Derived.Test.YtnkhelpadbickaaPuGood
import Derived.Test.YtnkhelpadbickaaPuTZermelo
import Derived.JoinedCond
import Derived.Test.YtnkhelpadbickaaRows
import Derived.ShutString
import Derived.Below
import Derived.Lib.SmallJoins
namespace Go.Proofs.Ytnkhelpadbickaa
open Go.ChangeShapes Go.WideShapes Go.ChangeAt Go.RowKit Go.Fw
open Go.ChangeMaps (open_string shut_string)
namespace FinTreeZermelo
theorem own : ownKnob Try.prog.godebug = none := by kernel_rfl
theorem laidOut : laidOutB Try.prog = true := by kernel_rfl
/-- a slice's reading holds as many as the slice -/
theorem slice_len {α : Type} {P : Program} {T E : TypeId} {t : TR α} (hu : P.underlying T = some (.slice E)) {H : Type} {enc : TypeId × Value → H} {w : World} {spare : Nat → Bool} {held : Bool} {v : Value} {d : DataW H} {ps : List MemPlace} {h : Hp} {x : List α} (hz : (TR.sl t).vrep h v x)
    (e : DataW.Trod enc P w 0 spare held T v d ps) : x = [] ∨ ∃ elems rest, d = .slice elems rest ∧ elems.length = x.length := by
  obtain ⟨cs, hv, v', xs, rfl, ⟨a, cap, rfl, _⟩, _⟩ := hz
  have hvs : v = .slice a x.length cap := hv
  subst hvs
  obtain ⟨fuel, e⟩ := e
  rcases DataW.trod_slice hu e with ⟨hc, hd⟩ | ⟨a', len, cap', elems, rest, n, _, hc, hd, _, _, _, hel, _⟩
  · left
    have hc' : [Value.slice a x.length cap] = [Value.slice none 0 0] := hc
    simp only [List.cons.injEq, Value.slice.injEq, and_true] at hc'
    exact List.length_eq_zero_iff.1 hc'.2.1
  · right
    have hc' : [Value.slice a x.length cap] = [Value.slice (some a') len cap'] := hc
    simp only [List.cons.injEq, Value.slice.injEq, and_true] at hc'
    have hd' := congrArg Prod.fst hd
    exact ⟨_, _, hd', by rw [List.length_map]; omega⟩
theorem bulk_one {H : Type} (d : DataW H) : 1 ≤ Rows.uptoBulk d := by
  cases d with
  | lit l => cases l <;> simp [Rows.uptoBulk]
  | _ => simp [Rows.uptoBulk]
theorem bulk_length {H : Type} (l : List (DataW H)) : l.length ≤ Rows.uptoBulkAll l := by
  induction l with
  | nil => simp [Rows.uptoBulkAll]
  | cons x r ih => have := bulk_one x; simp only [Rows.uptoBulkAll, List.length_cons]; omega
set_option maxRecDepth 100000 in
theorem lifted (os : Os) (started : os.Started) (H : Type) (enc : TypeId × Value → H) (F : Stop.Interp) :
    ReturnsInHanded {} Try.checked os 6 .any ((Rows.OpenSpec.upto Rows.treeZermeloSpec).pre6 enc Try.prog Try.f6 Rows.treeZermeloUptoRow.domain false) (((Rows.OpenSpec.upto Rows.treeZermeloSpec).at F).post enc Try.prog Try.f6 false true false false) := by
  refine returnsInHanded_of_cond (C := Try.checked) (s := Rows.OpenSpec.upto Rows.treeZermeloSpec) (k := Rows.uptoSmall) rfl own started (by kernel_rfl) Try.func6
    (OpenSpec.witness (enc := enc) (C := Try.checked) (s := Rows.OpenSpec.upto Rows.treeZermeloSpec) (k := Rows.uptoSmall) rfl false ⟨#[], #[.slice none 0 0, .slice none 0 0, .slice none 0 0], []⟩ 8 (by kernel_rfl) (by kernel_rfl) (by kernel_rfl) (x := ([.nil, .nil, .nil], [], [])) (by kernel_rfl) rfl (by kernel_rfl)) ?_
  intro W base args ds gs before hval0 hW _ hk _
  have hval : ∀ (j : Nat) t v, Try.f6.params[j]? = some t → args[j]? = some v → Value.okWide Try.prog W .any base t v := hval0
  have hW' := hW
  obtain ⟨p, q, hA0, hV, rfl, hfz, hnd⟩ := hW
  have hA : DataW.TrodAll enc Try.prog W 0 (fun _ => true) true Try.f6.params.toList args.toList ds p := hA0
  rw [Try.params6] at hA hval
  obtain ⟨v0, vs0, d0, ds0, p0, q0, hargs, rfl, rfl, h0, r0⟩ := trodAll_cons hA
  obtain ⟨v1, vs1, d1, ds1, p1, q1, rfl, rfl, rfl, h1, r1⟩ := trodAll_cons r0
  obtain ⟨v2, vs2, d2, ds2, p2, q2, rfl, rfl, rfl, h2, r2⟩ := trodAll_cons r1
  obtain ⟨rfl, rfl, rfl⟩ := trodAll_nil r2
  obtain rfl : args = #[v0, v1, v2] := by cases args; simp_all
  obtain ⟨rfl, rfl⟩ := trodVars_none hV
  obtain ⟨b0, len0, cap0, rfl⟩ := okWide_slice Try.underlying22 (hval 0 22 v0 rfl rfl)
  have k0 := h0
  have lt0 : ∀ x ∈ p0, x.block < W.heap.size := by obtain ⟨m, hm⟩ := k0; exact DataW.trod_lt m _ _ _ hm
  obtain ⟨a0, z0, w0⟩ := open_arg (t := (TR.sl (TR.pair TR.int (TR.pair (TR.sl TR.int) (TR.sl TR.int))))) (Opens.sl Try.underlying22 (Opens.struct Try.underlying31 (OpensF.cons rfl (Opens.int Try.underlying3) (by kernel_rfl) (OpensF.cons rfl (Opens.sl Try.underlying24 (Opens.int Try.underlying3) (by kernel_rfl) (by decide)) (by kernel_rfl) (OpensF.last rfl (Opens.sl Try.underlying24 (Opens.int Try.underlying3) (by kernel_rfl) (by decide)) (by kernel_rfl)))) (by kernel_rfl)) (by kernel_rfl) (by decide)) rfl h0
  obtain ⟨b1, len1, cap1, rfl⟩ := okWide_slice Try.underlying24 (hval 1 24 v1 rfl rfl)
  have k1 := h1
  have lt1 : ∀ x ∈ p1, x.block < W.heap.size := by obtain ⟨m, hm⟩ := k1; exact DataW.trod_lt m _ _ _ hm
  obtain ⟨a1, z1, w1⟩ := open_arg (t := (TR.sl TR.int)) (Opens.sl Try.underlying24 (Opens.int Try.underlying3) (by kernel_rfl) (by decide)) rfl h1
  obtain ⟨b2, len2, cap2, rfl⟩ := okWide_slice Try.underlying24 (hval 2 24 v2 rfl rfl)
  have k2 := h2
  have lt2 : ∀ x ∈ p2, x.block < W.heap.size := by obtain ⟨m, hm⟩ := k2; exact DataW.trod_lt m _ _ _ hm
  obtain ⟨a2, z2, w2⟩ := open_arg (t := (TR.sl TR.int)) (Opens.sl Try.underlying24 (Opens.int Try.underlying3) (by kernel_rfl) (by decide)) rfl h2
  clear hA0 hval0
  have hb : Rows.uptoBulkAll [d0, d1, d2] ≤ 1048576 := by
    have h := of_decide_eq_true hk
    simpa only [List.append_nil] using h
  have b0 : a0.length ≤ 1048576 := by
    rcases slice_len Try.underlying22 z0 k0 with e | ⟨elems, rest, e, he⟩
    · rw [e]; exact Nat.zero_le _
    · have := bulk_length elems
      rw [e] at hb
      simp only [Rows.uptoBulkAll, Rows.uptoBulk] at hb
      omega
  have b1 : a1.length ≤ 1048576 := by
    rcases slice_len Try.underlying24 z1 k1 with e | ⟨elems, rest, e, he⟩
    · rw [e]; exact Nat.zero_le _
    · have := bulk_length elems
      rw [e] at hb
      simp only [Rows.uptoBulkAll, Rows.uptoBulk] at hb
      omega
  have b2 : a2.length ≤ 1048576 := by
    rcases slice_len Try.underlying24 z2 k2 with e | ⟨elems, rest, e, he⟩
    · rw [e]; exact Nat.zero_le _
    · have := bulk_length elems
      rw [e] at hb
      simp only [Rows.uptoBulkAll, Rows.uptoBulk] at hb
      omega
  refine (Go.Wk.pk_TreeZermelo_c (whole W) W (whole_sub W) _ a0 z0 _ a1 z1 _ a2 z2 true (Go.Pu.TreeZermelo a0 w0 b0 a1 w1 b1 a2 w2 b2)).mono fun e W' ⟨he, bel⟩ => ?_
  subst he
  exact ⟨_, rfl, _, _, _, [], _, [], hW', trodAll_mk1 (shut_bool Try.underlying4 _), (trodAll_cons_mk (Below.trod laidOut (by kernel_rfl) (of_decide_eq_true (by kernel_rfl)) k0 bel lt0) (trodAll_cons_mk (Below.trod laidOut (by kernel_rfl) (of_decide_eq_true (by kernel_rfl)) k1 bel lt1) (trodAll_cons_mk (Below.trod laidOut (by kernel_rfl) (of_decide_eq_true (by kernel_rfl)) k2 bel lt2) trodAll_mk0))), rfl, bel.frame _, fun h => by cases h⟩
theorem over : Rows.TreeZermeloUptoSaid :=
  OpenClaim.holds_of_cond 6 Try.f6 rfl rfl rfl rfl rfl rfl rfl ⟨rfl, rfl, rfl, rfl, rfl⟩ rfl rfl rfl rfl rfl (by kernel_rfl) Try.func6 (by kernel_rfl)
    (of_decide_eq_true (by kernel_rfl)) (by unfold Func.isWrapper; first | (rw [if_pos (by decide +kernel)]; kernel_rfl) | (rw [if_neg (by decide +kernel)]; exact ⟨rfl, rfl⟩))
    (fun os started H enc _ F => lifted os started H enc F)
end FinTreeZermelo
theorem treeZermelo_holds : Rows.TreeZermeloUptoSaid := FinTreeZermelo.over
#print axioms treeZermelo_holds
end Go.Proofs.Ytnkhelpadbickaa
