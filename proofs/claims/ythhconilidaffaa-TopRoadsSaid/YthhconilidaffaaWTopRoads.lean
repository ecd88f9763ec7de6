/-
  The statement Rows.TopRoadsSaid: the law TopRoads of the given program returns true for every input, and leaves its arguments as they were. No condition.
-/
import Derived.Test.YthhconilidaffaaWTopRoadsWalks
import Derived.Test.YthhconilidaffaaFwO
import Derived.Test.YthhconilidaffaaPuKit
import Derived.Test.YthhconilidaffaaPuWp
import Derived.Test.YthhconilidaffaaPuMat
import Derived.Test.YthhconilidaffaaPuGood
import Derived.Test.YthhconilidaffaaPuEq
import Derived.Test.YthhconilidaffaaPuRoads
import Derived.Test.YthhconilidaffaaPuWithin
import Derived.Test.YthhconilidaffaaPuAuction
import Derived.Test.YthhconilidaffaaPuRHeight
import Derived.Test.YthhconilidaffaaPuRRest
import Derived.Test.YthhconilidaffaaPuList
import Derived.Test.YthhconilidaffaaPuPt
import Derived.Test.YthhconilidaffaaPuSad
import Derived.Test.YthhconilidaffaaPuEqu
import Derived.Test.YthhconilidaffaaPuFl
import Derived.Test.YthhconilidaffaaPuTRoads
import Derived.Test.YthhconilidaffaaRows
import Derived.ShutString
import Derived.Below
import Derived.Lib.SmallJoins
namespace Go.Proofs.Ythhconilidaffaa
open Go.ChangeShapes Go.WideShapes Go.ChangeAt Go.RowKit Go.Fw
open Go.ChangeMaps (open_string shut_string)
namespace FinTopRoads
theorem own : ownKnob Try.prog.godebug = none := by kernel_rfl
theorem laidOut : laidOutB Try.prog = true := by kernel_rfl
set_option maxRecDepth 100000 in
theorem lifted (os : Os) (started : os.Started) (H : Type) (enc : TypeId × Value → H) :
    ReturnsInHanded {} Try.checked os 4 .any (Rows.topRoadsSpec.pre6 enc Try.prog Try.f4 Rows.topRoadsRow.domain false) (Rows.topRoadsSpec.post enc Try.prog Try.f4 false true false false) := by
  refine returnsInHanded_of_change (C := Try.checked) own started (by kernel_rfl) Try.func4
    (ChangeSpec.witness6 (enc := enc) (C := Try.checked) false ⟨#[], #[.slice none 0 0, .agg #[.int .i64 0, .int .i64 0]], []⟩ 8 (by kernel_rfl) (by kernel_rfl) (by kernel_rfl) (by kernel_rfl)) ?_
  intro W base args ds gs before hval0 hW hcnd _
  have hval : ∀ (j : Nat) t v, Try.f4.params[j]? = some t → args[j]? = some v → Value.okWide Try.prog W .any base t v := hval0
  have hW' := hW
  obtain ⟨p, q, hA0, hV, rfl, hfz, hnd⟩ := hW
  have hA : DataW.TrodAll enc Try.prog W 0 (fun _ => true) true Try.f4.params.toList args.toList ds p := hA0
  rw [Try.params4] at hA hval
  obtain ⟨v0, vs0, d0, ds0, p0, q0, hargs, rfl, rfl, h0, r0⟩ := trodAll_cons hA
  obtain ⟨v1, vs1, d1, ds1, p1, q1, rfl, rfl, rfl, h1, r1⟩ := trodAll_cons r0
  obtain ⟨rfl, rfl, rfl⟩ := trodAll_nil r1
  obtain rfl : args = #[v0, v1] := by cases args; simp_all
  obtain ⟨rfl, rfl⟩ := trodVars_none hV
  obtain ⟨b0, len0, cap0, rfl⟩ := okWide_slice Try.underlying36 (hval 0 36 v0 rfl rfl)
  have k0 := h0
  have lt0 : ∀ x ∈ p0, x.block < W.heap.size := by obtain ⟨m, hm⟩ := k0; exact DataW.trod_lt m _ _ _ hm
  obtain ⟨a0, z0, w0⟩ := open_arg (t := (TR.sl (TR.rec1 (TR.sl TR.int)))) (Opens.sl Try.underlying36 (Opens.struct (t := (TR.rec1 (TR.sl TR.int))) Try.underlying74 (OpensF.last (t := (TR.sl TR.int)) rfl (Opens.sl Try.underlying22 (Opens.int Try.underlying3) (by kernel_rfl) (by decide)) (by kernel_rfl)) (by kernel_rfl)) (by kernel_rfl) (by decide)) rfl h0
  have k1 := h1
  have lt1 : ∀ x ∈ p1, x.block < W.heap.size := by obtain ⟨m, hm⟩ := k1; exact DataW.trod_lt m _ _ _ hm
  obtain ⟨a1, z1, w1⟩ := open_arg (t := (TR.arr 2 TR.int)) (Opens.arr Try.underlying37 (Opens.int Try.underlying3) (by kernel_rfl) (by kernel_rfl)) (okWide_agg Try.underlying37 rfl (hval 1 37 v1 rfl rfl)) h1
  clear hA0 hval0
  refine (Go.Wk.top_TopRoads_c (whole W) W (whole_sub W) _ a0 z0 _ a1 z1 true (Go.Pu.TopRoads a0 w0 a1 w1)).mono fun e W' ⟨he, bel⟩ => ?_
  subst he
  exact ⟨_, rfl, _, _, _, [], _, [], hW', trodAll_mk1 (shut_bool Try.underlying4 _), (trodAll_cons_mk (Below.trod laidOut (by kernel_rfl) (of_decide_eq_true (by kernel_rfl)) k0 bel lt0) (trodAll_cons_mk (Below.trod laidOut (by kernel_rfl) (of_decide_eq_true (by kernel_rfl)) k1 bel lt1) trodAll_mk0)), rfl, bel.frame _, fun h => by cases h⟩
theorem over : Rows.topRoadsRow.holds Try.pinned (OpenSpec.ofChange Rows.topRoadsSpec) :=
  OpenClaim.holds_of_wide 4 Try.f4 rfl rfl rfl rfl rfl rfl rfl ⟨rfl, rfl, rfl, rfl, rfl⟩ rfl rfl rfl rfl rfl (by kernel_rfl) Try.func4 (by kernel_rfl)
    (of_decide_eq_true (by kernel_rfl)) (by unfold Func.isWrapper; first | (rw [if_pos (by decide +kernel)]; kernel_rfl) | (rw [if_neg (by decide +kernel)]; exact ⟨rfl, rfl⟩))
    (fun os started H enc _ => lifted os started H enc)
end FinTopRoads
theorem topRoads_holds : Rows.TopRoadsSaid := FinTopRoads.over
#print axioms topRoads_holds
end Go.Proofs.Ythhconilidaffaa
