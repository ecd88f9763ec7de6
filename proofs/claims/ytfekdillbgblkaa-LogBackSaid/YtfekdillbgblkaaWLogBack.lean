/-
  The statement Rows.LogBackSaid: the law LogBack of the given program returns true for every input, and leaves its arguments as they were. No condition.
-/
import Derived.Test.YtfekdillbgblkaaWLogBackWalks
import Derived.Test.YtfekdillbgblkaaFwO
import Derived.Test.YtfekdillbgblkaaPuKit
import Derived.Test.YtfekdillbgblkaaPuWp
import Derived.Test.YtfekdillbgblkaaPuFl
import Derived.Test.YtfekdillbgblkaaPuLog
import Derived.Test.YtfekdillbgblkaaPuLogK0
import Derived.Test.YtfekdillbgblkaaPuWithin
import Derived.Test.YtfekdillbgblkaaPuLogS
import Derived.Test.YtfekdillbgblkaaPuLogB
import Derived.SizedLaws
import Derived.Test.YtfekdillbgblkaaFwW
import Derived.Test.YtfekdillbgblkaaRows
import Derived.ShutString
import Derived.Below
import Derived.Lib.SmallJoins
namespace Go.Proofs.Ytfekdillbgblkaa
open Go.ChangeShapes Go.WideShapes Go.ChangeAt Go.RowKit Go.Fw
open Go.ChangeMaps (open_string shut_string)
namespace FinLogBack
theorem own : ownKnob Try.prog.godebug = none := by kernel_rfl
theorem laidOut : laidOutB Try.prog = true := by kernel_rfl
/-- a slice's reading holds as many as the slice -/
theorem slice_len {α : Type} {P : Program} {T E : TypeId} {t : TR α} (hu : P.underlying T = some (.slice E)) {H : Type} {enc : TypeId × Value → H} {w : World} {spare : Nat → Bool} {held : Bool} {v : Value} {d : DataW H} {ps : List MemPlace} {h : Hp} {x : List α} (hz : (TR.sl t).vrep h v x)
    (e : DataW.Trod enc P w 0 spare held T v d ps) : x = [] ∨ ∃ elems rest, d = .slice elems rest ∧ elems.length = x.length := by
  obtain ⟨cs, hv, v', xs, rfl, ⟨a, cap, rfl, _⟩, _⟩ := hz
  have hvs : v = .slice a x.length cap := hv
  subst hvs
  obtain ⟨fuel, e⟩ := e
  rcases DataW.trod_slice hu e with ⟨hc, hd⟩ | ⟨a', len, cap', elems, rest, n, _, hc, hd, _, _, _, hel, _⟩
  · left
    have hc' : [Value.slice a x.length cap] = [Value.slice none 0 0] := hc
    simp only [List.cons.injEq, Value.slice.injEq, and_true] at hc'
    exact List.length_eq_zero_iff.1 hc'.2.1
  · right
    have hc' : [Value.slice a x.length cap] = [Value.slice (some a') len cap'] := hc
    simp only [List.cons.injEq, Value.slice.injEq, and_true] at hc'
    have hd' := congrArg Prod.fst hd
    exact ⟨_, _, hd', by rw [List.length_map]; omega⟩
set_option maxRecDepth 100000 in
theorem lifted (os : Os) (started : os.Started) (H : Type) (enc : TypeId × Value → H) :
    ReturnsInHanded {} Try.checked os 3 .any (Rows.logBackSpec.pre6 enc Try.prog Try.f3 Rows.logBackRow.domain false) (Rows.logBackSpec.post enc Try.prog Try.f3 false true false false) := by
  refine returnsInHanded_of_change_sized (C := Try.checked) own started (by kernel_rfl) Try.func3
    (ChangeSpec.witness6 (enc := enc) (C := Try.checked) false ⟨#[], #[.slice none 0 0, .int .i64 0], []⟩ 8 (by kernel_rfl) (by kernel_rfl) (by kernel_rfl) (by kernel_rfl)) ?_
  intro W base args ds gs before hval0 hW hcnd hsz _
  have hval : ∀ (j : Nat) t v, Try.f3.params[j]? = some t → args[j]? = some v → Value.okWide Try.prog W .any base t v := hval0
  have hW' := hW
  obtain ⟨p, q, hA0, hV, rfl, hfz, hnd⟩ := hW
  have hA : DataW.TrodAll enc Try.prog W 0 (fun _ => true) true Try.f3.params.toList args.toList ds p := hA0
  rw [Try.params3] at hA hval
  obtain ⟨v0, vs0, d0, ds0, p0, q0, hargs, rfl, rfl, h0, r0⟩ := trodAll_cons hA
  obtain ⟨v1, vs1, d1, ds1, p1, q1, rfl, rfl, rfl, h1, r1⟩ := trodAll_cons r0
  obtain ⟨rfl, rfl, rfl⟩ := trodAll_nil r1
  obtain rfl : args = #[v0, v1] := by cases args; simp_all
  obtain ⟨rfl, rfl⟩ := trodVars_none hV
  obtain ⟨b0, len0, cap0, rfl⟩ := okWide_slice Try.underlying22 (hval 0 22 v0 rfl rfl)
  have k0 := h0
  have lt0 : ∀ x ∈ p0, x.block < W.heap.size := by obtain ⟨m, hm⟩ := k0; exact DataW.trod_lt m _ _ _ hm
  obtain ⟨a0, z0, w0⟩ := open_arg (t := (TR.sl TR.str)) (Opens.sl Try.underlying22 (Opens.str Try.underlying9) (by kernel_rfl) (by decide)) rfl h0
  obtain ⟨a1, rfl, rfl, rfl, w1⟩ := open_int Try.underlying3 (hval 1 3 v1 rfl rfl) h1
  clear hA0 hval0
  have wt0 := within_top hsz (j := 0) (t := 22) (d := d0) (by kernel_rfl) rfl
  have b0 : a0.length ≤ 8796093021952 := by
    rcases slice_len Try.underlying22 z0 k0 with e | ⟨elems, rest, e, he⟩
    · rw [e]; exact Nat.zero_le _
    · rw [e] at wt0
      have q := (wt0.slice Try.underlying22).1
      rw [show Try.prog.bytesOf 9 = 16 by kernel_rfl] at q
      omega
  refine (Go.Wk.pk_LogBack_c (whole W) W (whole_sub W) _ a0 z0 a1 true (Go.Pu.LogBack a0 w0 b0 a1 w1)).mono fun e W' ⟨he, bel⟩ => ?_
  subst he
  exact ⟨_, rfl, _, _, _, [], _, [], hW', trodAll_mk1 (shut_bool Try.underlying4 _), (trodAll_cons_mk (Below.trod laidOut (by kernel_rfl) (of_decide_eq_true (by kernel_rfl)) k0 bel lt0) (trodAll_cons_mk (shut_int Try.underlying3 w1) trodAll_mk0)), rfl, bel.frame _, fun h => by cases h⟩
theorem over : Rows.logBackRow.holds Try.pinned (OpenSpec.ofChange Rows.logBackSpec) :=
  OpenClaim.holds_of_wide 3 Try.f3 rfl rfl rfl rfl rfl rfl rfl ⟨rfl, rfl, rfl, rfl, rfl⟩ rfl rfl rfl rfl rfl (by kernel_rfl) Try.func3 (by kernel_rfl)
    (of_decide_eq_true (by kernel_rfl)) (by unfold Func.isWrapper; first | (rw [if_pos (by decide +kernel)]; kernel_rfl) | (rw [if_neg (by decide +kernel)]; exact ⟨rfl, rfl⟩))
    (fun os started H enc _ => lifted os started H enc)
end FinLogBack
theorem logBack_holds : Rows.LogBackSaid := FinLogBack.over
#print axioms logBack_holds
end Go.Proofs.Ytfekdillbgblkaa
