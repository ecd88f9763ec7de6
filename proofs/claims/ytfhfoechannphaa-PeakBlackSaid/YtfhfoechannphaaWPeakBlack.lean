/-
  The statement Rows.PeakBlackSaid: the law PeakBlack of the given program returns true for every input, and leaves its arguments as they were. No condition.
-/
import Derived.Test.YtfhfoechannphaaWPeakBlackWalks
import Derived.Test.YtfhfoechannphaaFwO
import Derived.Test.YtfhfoechannphaaPuKit
import Derived.Test.YtfhfoechannphaaPuWp
import Derived.Test.YtfhfoechannphaaPuWithin
import Derived.Test.YtfhfoechannphaaPuOrd
import Derived.Test.YtfhfoechannphaaPuMat
import Derived.Test.YtfhfoechannphaaPuDuels
import Derived.Test.YtfhfoechannphaaPuList
import Derived.Test.YtfhfoechannphaaPuFar
import Derived.Test.YtfhfoechannphaaPuGood
import Derived.Test.YtfhfoechannphaaPuSums
import Derived.Test.YtfhfoechannphaaPuReverse
import Derived.Test.YtfhfoechannphaaPuTab
import Derived.Test.YtfhfoechannphaaPuEq
import Derived.Test.YtfhfoechannphaaPuWorst
import Derived.Test.YtfhfoechannphaaPuCopeland
import Derived.Test.YtfhfoechannphaaPuRMay
import Derived.Test.YtfhfoechannphaaPuRoads
import Derived.Test.YtfhfoechannphaaPuRMost
import Derived.Test.YtfhfoechannphaaPuRounds
import Derived.Test.YtfhfoechannphaaPuRMostL
import Derived.Test.YtfhfoechannphaaPuArgmax
import Derived.Test.YtfhfoechannphaaPuAllOrd
import Derived.Test.YtfhfoechannphaaPuRename
import Derived.Test.YtfhfoechannphaaPuRounds2
import Derived.Test.YtfhfoechannphaaPuRNames
import Derived.Test.YtfhfoechannphaaPuAlong
import Derived.Test.YtfhfoechannphaaPuFl
import Derived.Test.YtfhfoechannphaaPuPkAl
import Derived.Test.YtfhfoechannphaaPuWide
import Derived.Test.YtfhfoechannphaaPuBeater
import Derived.Test.YtfhfoechannphaaPuPkO
import Derived.Test.YtfhfoechannphaaPuIns
import Derived.Test.YtfhfoechannphaaPuSortAny
import Derived.Test.YtfhfoechannphaaPuAuction
import Derived.Test.YtfhfoechannphaaPuIsSort
import Derived.Test.YtfhfoechannphaaPuUnits
import Derived.Test.YtfhfoechannphaaPuMeet
import Derived.Test.YtfhfoechannphaaPuPkB
import Derived.Test.YtfhfoechannphaaRows
import Derived.ShutString
import Derived.Below
import Derived.Lib.SmallJoins
namespace Go.Proofs.Ytfhfoechannphaa
open Go.ChangeShapes Go.WideShapes Go.ChangeAt Go.RowKit Go.Fw
open Go.ChangeMaps (open_string shut_string)
namespace FinPeakBlack
theorem own : ownKnob Try.prog.godebug = none := by kernel_rfl
theorem laidOut : laidOutB Try.prog = true := by kernel_rfl
set_option maxRecDepth 100000 in
theorem lifted (os : Os) (started : os.Started) (H : Type) (enc : TypeId × Value → H) :
    ReturnsInHanded {} Try.checked os 7 .any (Rows.peakBlackSpec.pre6 enc Try.prog Try.f7 Rows.peakBlackRow.domain false) (Rows.peakBlackSpec.post enc Try.prog Try.f7 false true false false) := by
  refine returnsInHanded_of_change (C := Try.checked) own started (by kernel_rfl) Try.func7
    (ChangeSpec.witness6 (enc := enc) (C := Try.checked) false ⟨#[], #[.int .i64 0, .slice none 0 0, .slice none 0 0], []⟩ 8 (by kernel_rfl) (by kernel_rfl) (by kernel_rfl) (by kernel_rfl)) ?_
  intro W base args ds gs before hval0 hW hcnd _
  have hval : ∀ (j : Nat) t v, Try.f7.params[j]? = some t → args[j]? = some v → Value.okWide Try.prog W .any base t v := hval0
  have hW' := hW
  obtain ⟨p, q, hA0, hV, rfl, hfz, hnd⟩ := hW
  have hA : DataW.TrodAll enc Try.prog W 0 (fun _ => true) true Try.f7.params.toList args.toList ds p := hA0
  rw [Try.params7] at hA hval
  obtain ⟨v0, vs0, d0, ds0, p0, q0, hargs, rfl, rfl, h0, r0⟩ := trodAll_cons hA
  obtain ⟨v1, vs1, d1, ds1, p1, q1, rfl, rfl, rfl, h1, r1⟩ := trodAll_cons r0
  obtain ⟨v2, vs2, d2, ds2, p2, q2, rfl, rfl, rfl, h2, r2⟩ := trodAll_cons r1
  obtain ⟨rfl, rfl, rfl⟩ := trodAll_nil r2
  obtain rfl : args = #[v0, v1, v2] := by cases args; simp_all
  obtain ⟨rfl, rfl⟩ := trodVars_none hV
  obtain ⟨a0, rfl, rfl, rfl, w0⟩ := open_int Try.underlying3 (hval 0 3 v0 rfl rfl) h0
  obtain ⟨b1, len1, cap1, rfl⟩ := okWide_slice Try.underlying27 (hval 1 27 v1 rfl rfl)
  have k1 := h1
  have lt1 : ∀ x ∈ p1, x.block < W.heap.size := by obtain ⟨m, hm⟩ := k1; exact DataW.trod_lt m _ _ _ hm
  obtain ⟨a1, z1, w1⟩ := open_arg (t := (TR.sl TR.int)) (Opens.sl Try.underlying27 (Opens.int Try.underlying3) (by kernel_rfl) (by decide)) rfl h1
  obtain ⟨b2, len2, cap2, rfl⟩ := okWide_slice Try.underlying37 (hval 2 37 v2 rfl rfl)
  have k2 := h2
  have lt2 : ∀ x ∈ p2, x.block < W.heap.size := by obtain ⟨m, hm⟩ := k2; exact DataW.trod_lt m _ _ _ hm
  obtain ⟨a2, z2, w2⟩ := open_arg (t := (TR.sl (TR.sl TR.int))) (Opens.sl Try.underlying37 (Opens.sl Try.underlying27 (Opens.int Try.underlying3) (by kernel_rfl) (by decide)) (by kernel_rfl) (by decide)) rfl h2
  clear hA0 hval0
  refine (Go.Wk.pk_PeakBlack_c (whole W) W (whole_sub W) a0 _ a1 z1 _ a2 z2 true (Go.Pu.PeakBlack a0 w0 a1 w1 a2 w2)).mono fun e W' ⟨he, bel⟩ => ?_
  subst he
  exact ⟨_, rfl, _, _, _, [], _, [], hW', trodAll_mk1 (shut_bool Try.underlying4 _), (trodAll_cons_mk (shut_int Try.underlying3 w0) (trodAll_cons_mk (Below.trod laidOut (by kernel_rfl) (of_decide_eq_true (by kernel_rfl)) k1 bel lt1) (trodAll_cons_mk (Below.trod laidOut (by kernel_rfl) (of_decide_eq_true (by kernel_rfl)) k2 bel lt2) trodAll_mk0))), rfl, bel.frame _, fun h => by cases h⟩
theorem over : Rows.peakBlackRow.holds Try.pinned (OpenSpec.ofChange Rows.peakBlackSpec) :=
  OpenClaim.holds_of_wide 7 Try.f7 rfl rfl rfl rfl rfl rfl rfl ⟨rfl, rfl, rfl, rfl, rfl⟩ rfl rfl rfl rfl rfl (by kernel_rfl) Try.func7 (by kernel_rfl)
    (of_decide_eq_true (by kernel_rfl)) (by unfold Func.isWrapper; first | (rw [if_pos (by decide +kernel)]; kernel_rfl) | (rw [if_neg (by decide +kernel)]; exact ⟨rfl, rfl⟩))
    (fun os started H enc _ => lifted os started H enc)
end FinPeakBlack
theorem peakBlack_holds : Rows.PeakBlackSaid := FinPeakBlack.over
#print axioms peakBlack_holds
end Go.Proofs.Ytfhfoechannphaa
