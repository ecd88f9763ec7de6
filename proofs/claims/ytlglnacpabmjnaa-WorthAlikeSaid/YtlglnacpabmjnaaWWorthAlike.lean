/-
  The statement Rows.WorthAlikeSaid: the law WorthAlike of the given program returns true for every input, and leaves its arguments as they were. No condition.
-/
import Derived.Test.YtlglnacpabmjnaaWWorthAlikeWalks
import Derived.Test.YtlglnacpabmjnaaFwO
import Derived.Test.YtlglnacpabmjnaaPuKit
import Derived.Test.YtlglnacpabmjnaaPuWp
import Derived.Test.YtlglnacpabmjnaaPuMat
import Derived.Test.YtlglnacpabmjnaaPuLC
import Derived.Test.YtlglnacpabmjnaaPuSets
import Derived.Test.YtlglnacpabmjnaaPuWithin
import Derived.Test.YtlglnacpabmjnaaPuWorth
import Derived.Test.YtlglnacpabmjnaaPuOrd
import Derived.Test.YtlglnacpabmjnaaPuDuels
import Derived.Test.YtlglnacpabmjnaaPuList
import Derived.Test.YtlglnacpabmjnaaPuFar
import Derived.Test.YtlglnacpabmjnaaPuGood
import Derived.Test.YtlglnacpabmjnaaPuSums
import Derived.Test.YtlglnacpabmjnaaPuReverse
import Derived.Test.YtlglnacpabmjnaaPuTab
import Derived.Test.YtlglnacpabmjnaaPuEq
import Derived.Test.YtlglnacpabmjnaaPuWorst
import Derived.Test.YtlglnacpabmjnaaPuCopeland
import Derived.Test.YtlglnacpabmjnaaPuRMay
import Derived.Test.YtlglnacpabmjnaaPuRoads
import Derived.Test.YtlglnacpabmjnaaPuRMost
import Derived.Test.YtlglnacpabmjnaaPuRounds
import Derived.Test.YtlglnacpabmjnaaPuRMostL
import Derived.Test.YtlglnacpabmjnaaPuArgmax
import Derived.Test.YtlglnacpabmjnaaPuAllOrd
import Derived.Test.YtlglnacpabmjnaaPuRename
import Derived.Test.YtlglnacpabmjnaaPuRounds2
import Derived.Test.YtlglnacpabmjnaaPuRNames
import Derived.Test.YtlglnacpabmjnaaPuBest
import Derived.Test.YtlglnacpabmjnaaPuMTurned
import Derived.Test.YtlglnacpabmjnaaPuWAlike
import Derived.Test.YtlglnacpabmjnaaRows
import Derived.ShutString
import Derived.Below
import Derived.Lib.SmallJoins
namespace Go.Proofs.Ytlglnacpabmjnaa
open Go.ChangeShapes Go.WideShapes Go.ChangeAt Go.RowKit Go.Fw
open Go.ChangeMaps (open_string shut_string)
namespace FinWorthAlike
theorem own : ownKnob Try.prog.godebug = none := by kernel_rfl
theorem laidOut : laidOutB Try.prog = true := by kernel_rfl
set_option maxRecDepth 100000 in
theorem lifted (os : Os) (started : os.Started) (H : Type) (enc : TypeId × Value → H) :
    ReturnsInHanded {} Try.checked os 5 .any (Rows.worthAlikeSpec.pre6 enc Try.prog Try.f5 Rows.worthAlikeRow.domain false) (Rows.worthAlikeSpec.post enc Try.prog Try.f5 false true false false) := by
  refine returnsInHanded_of_change (C := Try.checked) own started (by kernel_rfl) Try.func5
    (ChangeSpec.witness6 (enc := enc) (C := Try.checked) false ⟨#[], #[.int .i64 0, .slice none 0 0, .slice none 0 0, .int .i64 0, .int .i64 0], []⟩ 8 (by kernel_rfl) (by kernel_rfl) (by kernel_rfl) (by kernel_rfl)) ?_
  intro W base args ds gs before hval0 hW hcnd _
  have hval : ∀ (j : Nat) t v, Try.f5.params[j]? = some t → args[j]? = some v → Value.okWide Try.prog W .any base t v := hval0
  have hW' := hW
  obtain ⟨p, q, hA0, hV, rfl, hfz, hnd⟩ := hW
  have hA : DataW.TrodAll enc Try.prog W 0 (fun _ => true) true Try.f5.params.toList args.toList ds p := hA0
  rw [Try.params5] at hA hval
  obtain ⟨v0, vs0, d0, ds0, p0, q0, hargs, rfl, rfl, h0, r0⟩ := trodAll_cons hA
  obtain ⟨v1, vs1, d1, ds1, p1, q1, rfl, rfl, rfl, h1, r1⟩ := trodAll_cons r0
  obtain ⟨v2, vs2, d2, ds2, p2, q2, rfl, rfl, rfl, h2, r2⟩ := trodAll_cons r1
  obtain ⟨v3, vs3, d3, ds3, p3, q3, rfl, rfl, rfl, h3, r3⟩ := trodAll_cons r2
  obtain ⟨v4, vs4, d4, ds4, p4, q4, rfl, rfl, rfl, h4, r4⟩ := trodAll_cons r3
  obtain ⟨rfl, rfl, rfl⟩ := trodAll_nil r4
  obtain rfl : args = #[v0, v1, v2, v3, v4] := by cases args; simp_all
  obtain ⟨rfl, rfl⟩ := trodVars_none hV
  obtain ⟨a0, rfl, rfl, rfl, w0⟩ := open_int Try.underlying3 (hval 0 3 v0 rfl rfl) h0
  obtain ⟨b1, len1, cap1, rfl⟩ := okWide_slice Try.underlying22 (hval 1 22 v1 rfl rfl)
  have k1 := h1
  have lt1 : ∀ x ∈ p1, x.block < W.heap.size := by obtain ⟨m, hm⟩ := k1; exact DataW.trod_lt m _ _ _ hm
  obtain ⟨a1, z1, w1⟩ := open_arg (t := (TR.sl TR.int)) (Opens.sl Try.underlying22 (Opens.int Try.underlying3) (by kernel_rfl) (by decide)) rfl h1
  obtain ⟨b2, len2, cap2, rfl⟩ := okWide_slice Try.underlying22 (hval 2 22 v2 rfl rfl)
  have k2 := h2
  have lt2 : ∀ x ∈ p2, x.block < W.heap.size := by obtain ⟨m, hm⟩ := k2; exact DataW.trod_lt m _ _ _ hm
  obtain ⟨a2, z2, w2⟩ := open_arg (t := (TR.sl TR.int)) (Opens.sl Try.underlying22 (Opens.int Try.underlying3) (by kernel_rfl) (by decide)) rfl h2
  obtain ⟨a3, rfl, rfl, rfl, w3⟩ := open_int Try.underlying3 (hval 3 3 v3 rfl rfl) h3
  obtain ⟨a4, rfl, rfl, rfl, w4⟩ := open_int Try.underlying3 (hval 4 3 v4 rfl rfl) h4
  clear hA0 hval0
  refine (Go.Wk.pk_WorthAlike_c (whole W) W (whole_sub W) a0 _ a1 z1 _ a2 z2 a3 a4 true (Go.Pu.WorthAlike a0 w0 a1 w1 a2 w2 a3 w3 a4 w4)).mono fun e W' ⟨he, bel⟩ => ?_
  subst he
  exact ⟨_, rfl, _, _, _, [], _, [], hW', trodAll_mk1 (shut_bool Try.underlying4 _), (trodAll_cons_mk (shut_int Try.underlying3 w0) (trodAll_cons_mk (Below.trod laidOut (by kernel_rfl) (of_decide_eq_true (by kernel_rfl)) k1 bel lt1) (trodAll_cons_mk (Below.trod laidOut (by kernel_rfl) (of_decide_eq_true (by kernel_rfl)) k2 bel lt2) (trodAll_cons_mk (shut_int Try.underlying3 w3) (trodAll_cons_mk (shut_int Try.underlying3 w4) trodAll_mk0))))), rfl, bel.frame _, fun h => by cases h⟩
theorem over : Rows.worthAlikeRow.holds Try.pinned (OpenSpec.ofChange Rows.worthAlikeSpec) :=
  OpenClaim.holds_of_wide 5 Try.f5 rfl rfl rfl rfl rfl rfl rfl ⟨rfl, rfl, rfl, rfl, rfl⟩ rfl rfl rfl rfl rfl (by kernel_rfl) Try.func5 (by kernel_rfl)
    (of_decide_eq_true (by kernel_rfl)) (by unfold Func.isWrapper; first | (rw [if_pos (by decide +kernel)]; kernel_rfl) | (rw [if_neg (by decide +kernel)]; exact ⟨rfl, rfl⟩))
    (fun os started H enc _ => lifted os started H enc)
end FinWorthAlike
theorem worthAlike_holds : Rows.WorthAlikeSaid := FinWorthAlike.over
#print axioms worthAlike_holds
end Go.Proofs.Ytlglnacpabmjnaa
