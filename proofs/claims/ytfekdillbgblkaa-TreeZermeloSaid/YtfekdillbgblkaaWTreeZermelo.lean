/-
  The statement Rows.TreeZermeloSaid: the law TreeZermelo of the given program returns true for every input, and leaves its arguments as they were. No condition.
-/
import Derived.Test.YtfekdillbgblkaaWTreeZermeloWalks
import Derived.Test.YtfekdillbgblkaaFwO
import Derived.Test.YtfekdillbgblkaaPuKit
import Derived.Test.YtfekdillbgblkaaPuWp
import Derived.Test.YtfekdillbgblkaaPuWithin
import Derived.Test.YtfekdillbgblkaaPuEq
import Derived.Test.YtfekdillbgblkaaPuTree
import Derived.Test.YtfekdillbgblkaaPuAuction
import Derived.Test.YtfekdillbgblkaaPuTKuhn
import Derived.Test.YtfekdillbgblkaaPuGood
import Derived.Test.YtfekdillbgblkaaPuTZermelo
import Derived.SizedLaws
import Derived.Test.YtfekdillbgblkaaFwW
import Derived.Test.YtfekdillbgblkaaRows
import Derived.ShutString
import Derived.Below
import Derived.Lib.SmallJoins
namespace Go.Proofs.Ytfekdillbgblkaa
open Go.ChangeShapes Go.WideShapes Go.ChangeAt Go.RowKit Go.Fw
open Go.ChangeMaps (open_string shut_string)
namespace FinTreeZermelo
theorem own : ownKnob Try.prog.godebug = none := by kernel_rfl
theorem laidOut : laidOutB Try.prog = true := by kernel_rfl
/-- a slice's reading holds as many as the slice -/
theorem slice_len {α : Type} {P : Program} {T E : TypeId} {t : TR α} (hu : P.underlying T = some (.slice E)) {H : Type} {enc : TypeId × Value → H} {w : World} {spare : Nat → Bool} {held : Bool} {v : Value} {d : DataW H} {ps : List MemPlace} {h : Hp} {x : List α} (hz : (TR.sl t).vrep h v x)
    (e : DataW.Trod enc P w 0 spare held T v d ps) : x = [] ∨ ∃ elems rest, d = .slice elems rest ∧ elems.length = x.length := by
  obtain ⟨cs, hv, v', xs, rfl, ⟨a, cap, rfl, _⟩, _⟩ := hz
  have hvs : v = .slice a x.length cap := hv
  subst hvs
  obtain ⟨fuel, e⟩ := e
  rcases DataW.trod_slice hu e with ⟨hc, hd⟩ | ⟨a', len, cap', elems, rest, n, _, hc, hd, _, _, _, hel, _⟩
  · left
    have hc' : [Value.slice a x.length cap] = [Value.slice none 0 0] := hc
    simp only [List.cons.injEq, Value.slice.injEq, and_true] at hc'
    exact List.length_eq_zero_iff.1 hc'.2.1
  · right
    have hc' : [Value.slice a x.length cap] = [Value.slice (some a') len cap'] := hc
    simp only [List.cons.injEq, Value.slice.injEq, and_true] at hc'
    have hd' := congrArg Prod.fst hd
    exact ⟨_, _, hd', by rw [List.length_map]; omega⟩
set_option maxRecDepth 100000 in
theorem lifted (os : Os) (started : os.Started) (H : Type) (enc : TypeId × Value → H) :
    ReturnsInHanded {} Try.checked os 4 .any (Rows.treeZermeloSpec.pre6 enc Try.prog Try.f4 Rows.treeZermeloRow.domain false) (Rows.treeZermeloSpec.post enc Try.prog Try.f4 false true false false) := by
  refine returnsInHanded_of_change_sized (C := Try.checked) own started (by kernel_rfl) Try.func4
    (ChangeSpec.witness6 (enc := enc) (C := Try.checked) false ⟨#[], #[.slice none 0 0, .slice none 0 0, .slice none 0 0], []⟩ 8 (by kernel_rfl) (by kernel_rfl) (by kernel_rfl) (by kernel_rfl)) ?_
  intro W base args ds gs before hval0 hW hcnd hsz _
  have hval : ∀ (j : Nat) t v, Try.f4.params[j]? = some t → args[j]? = some v → Value.okWide Try.prog W .any base t v := hval0
  have hW' := hW
  obtain ⟨p, q, hA0, hV, rfl, hfz, hnd⟩ := hW
  have hA : DataW.TrodAll enc Try.prog W 0 (fun _ => true) true Try.f4.params.toList args.toList ds p := hA0
  rw [Try.params4] at hA hval
  obtain ⟨v0, vs0, d0, ds0, p0, q0, hargs, rfl, rfl, h0, r0⟩ := trodAll_cons hA
  obtain ⟨v1, vs1, d1, ds1, p1, q1, rfl, rfl, rfl, h1, r1⟩ := trodAll_cons r0
  obtain ⟨v2, vs2, d2, ds2, p2, q2, rfl, rfl, rfl, h2, r2⟩ := trodAll_cons r1
  obtain ⟨rfl, rfl, rfl⟩ := trodAll_nil r2
  obtain rfl : args = #[v0, v1, v2] := by cases args; simp_all
  obtain ⟨rfl, rfl⟩ := trodVars_none hV
  obtain ⟨b0, len0, cap0, rfl⟩ := okWide_slice Try.underlying33 (hval 0 33 v0 rfl rfl)
  have k0 := h0
  have lt0 : ∀ x ∈ p0, x.block < W.heap.size := by obtain ⟨m, hm⟩ := k0; exact DataW.trod_lt m _ _ _ hm
  obtain ⟨a0, z0, w0⟩ := open_arg (t := (TR.sl (TR.pair TR.int (TR.pair (TR.sl TR.int) (TR.sl TR.int))))) (Opens.sl Try.underlying33 (Opens.struct Try.underlying36 (OpensF.cons rfl (Opens.int Try.underlying3) (by kernel_rfl) (OpensF.cons rfl (Opens.sl Try.underlying24 (Opens.int Try.underlying3) (by kernel_rfl) (by decide)) (by kernel_rfl) (OpensF.last rfl (Opens.sl Try.underlying24 (Opens.int Try.underlying3) (by kernel_rfl) (by decide)) (by kernel_rfl)))) (by kernel_rfl)) (by kernel_rfl) (by decide)) rfl h0
  obtain ⟨b1, len1, cap1, rfl⟩ := okWide_slice Try.underlying24 (hval 1 24 v1 rfl rfl)
  have k1 := h1
  have lt1 : ∀ x ∈ p1, x.block < W.heap.size := by obtain ⟨m, hm⟩ := k1; exact DataW.trod_lt m _ _ _ hm
  obtain ⟨a1, z1, w1⟩ := open_arg (t := (TR.sl TR.int)) (Opens.sl Try.underlying24 (Opens.int Try.underlying3) (by kernel_rfl) (by decide)) rfl h1
  obtain ⟨b2, len2, cap2, rfl⟩ := okWide_slice Try.underlying24 (hval 2 24 v2 rfl rfl)
  have k2 := h2
  have lt2 : ∀ x ∈ p2, x.block < W.heap.size := by obtain ⟨m, hm⟩ := k2; exact DataW.trod_lt m _ _ _ hm
  obtain ⟨a2, z2, w2⟩ := open_arg (t := (TR.sl TR.int)) (Opens.sl Try.underlying24 (Opens.int Try.underlying3) (by kernel_rfl) (by decide)) rfl h2
  clear hA0 hval0
  have wt0 := within_top hsz (j := 0) (t := 33) (d := d0) (by kernel_rfl) rfl
  have b0 : a0.length ≤ 2513169434843 := by
    rcases slice_len Try.underlying33 z0 k0 with e | ⟨elems, rest, e, he⟩
    · rw [e]; exact Nat.zero_le _
    · rw [e] at wt0
      have q := (wt0.slice Try.underlying33).1
      rw [show Try.prog.bytesOf 36 = 56 by kernel_rfl] at q
      omega
  have wt1 := within_top hsz (j := 1) (t := 24) (d := d1) (by kernel_rfl) rfl
  have b1 : a1.length ≤ 17592186043904 := by
    rcases slice_len Try.underlying24 z1 k1 with e | ⟨elems, rest, e, he⟩
    · rw [e]; exact Nat.zero_le _
    · rw [e] at wt1
      have q := (wt1.slice Try.underlying24).1
      rw [show Try.prog.bytesOf 3 = 8 by kernel_rfl] at q
      omega
  have wt2 := within_top hsz (j := 2) (t := 24) (d := d2) (by kernel_rfl) rfl
  have b2 : a2.length ≤ 17592186043904 := by
    rcases slice_len Try.underlying24 z2 k2 with e | ⟨elems, rest, e, he⟩
    · rw [e]; exact Nat.zero_le _
    · rw [e] at wt2
      have q := (wt2.slice Try.underlying24).1
      rw [show Try.prog.bytesOf 3 = 8 by kernel_rfl] at q
      omega
  refine (Go.Wk.pk_TreeZermelo_c (whole W) W (whole_sub W) _ a0 z0 _ a1 z1 _ a2 z2 true (Go.Pu.TreeZermelo a0 w0 b0 a1 w1 b1 a2 w2 b2)).mono fun e W' ⟨he, bel⟩ => ?_
  subst he
  exact ⟨_, rfl, _, _, _, [], _, [], hW', trodAll_mk1 (shut_bool Try.underlying4 _), (trodAll_cons_mk (Below.trod laidOut (by kernel_rfl) (of_decide_eq_true (by kernel_rfl)) k0 bel lt0) (trodAll_cons_mk (Below.trod laidOut (by kernel_rfl) (of_decide_eq_true (by kernel_rfl)) k1 bel lt1) (trodAll_cons_mk (Below.trod laidOut (by kernel_rfl) (of_decide_eq_true (by kernel_rfl)) k2 bel lt2) trodAll_mk0))), rfl, bel.frame _, fun h => by cases h⟩
theorem over : Rows.treeZermeloRow.holds Try.pinned (OpenSpec.ofChange Rows.treeZermeloSpec) :=
  OpenClaim.holds_of_wide 4 Try.f4 rfl rfl rfl rfl rfl rfl rfl ⟨rfl, rfl, rfl, rfl, rfl⟩ rfl rfl rfl rfl rfl (by kernel_rfl) Try.func4 (by kernel_rfl)
    (of_decide_eq_true (by kernel_rfl)) (by unfold Func.isWrapper; first | (rw [if_pos (by decide +kernel)]; kernel_rfl) | (rw [if_neg (by decide +kernel)]; exact ⟨rfl, rfl⟩))
    (fun os started H enc _ => lifted os started H enc)
end FinTreeZermelo
theorem treeZermelo_holds : Rows.TreeZermeloSaid := FinTreeZermelo.over
#print axioms treeZermelo_holds
end Go.Proofs.Ytfekdillbgblkaa
