/-
  The statement Rows.LedgerKeepsSaid: the law LedgerKeeps of the given program returns true for every input, and leaves its arguments as they were. No condition.
-/
import Derived.Test.YtjhhkbkhijllfaaWLedgerKeepsWalks
import Derived.Test.YtjhhkbkhijllfaaFwO
import Derived.Test.YtjhhkbkhijllfaaPuKit
import Derived.Test.YtjhhkbkhijllfaaPuWp
import Derived.Test.YtjhhkbkhijllfaaPuGood
import Derived.Test.YtjhhkbkhijllfaaPuFl
import Derived.Test.YtjhhkbkhijllfaaPuQueue
import Derived.Test.YtjhhkbkhijllfaaPuQOne
import Derived.Test.YtjhhkbkhijllfaaPuQClean
import Derived.Test.YtjhhkbkhijllfaaPuMat
import Derived.Test.YtjhhkbkhijllfaaPuLedger
import Derived.Test.YtjhhkbkhijllfaaPuList
import Derived.Test.YtjhhkbkhijllfaaPuEq
import Derived.Test.YtjhhkbkhijllfaaPuPt
import Derived.Test.YtjhhkbkhijllfaaPuSad
import Derived.Test.YtjhhkbkhijllfaaPuMix
import Derived.Test.YtjhhkbkhijllfaaPuPick
import Derived.Test.YtjhhkbkhijllfaaPuIns
import Derived.Test.YtjhhkbkhijllfaaPuLOnce
import Derived.Test.YtjhhkbkhijllfaaPuLApart
import Derived.Test.YtjhhkbkhijllfaaPuLKeeps
import Derived.Test.YtjhhkbkhijllfaaRows
import Derived.ShutString
import Derived.Below
import Derived.Lib.SmallJoins
namespace Go.Proofs.Ytjhhkbkhijllfaa
open Go.ChangeShapes Go.WideShapes Go.ChangeAt Go.RowKit Go.Fw
open Go.ChangeMaps (open_string shut_string)
namespace FinLedgerKeeps
theorem own : ownKnob Try.prog.godebug = none := by kernel_rfl
theorem laidOut : laidOutB Try.prog = true := by kernel_rfl
set_option maxRecDepth 100000 in
theorem lifted (os : Os) (started : os.Started) (H : Type) (enc : TypeId × Value → H) :
    ReturnsInHanded {} Try.checked os 7 .any (Rows.ledgerKeepsSpec.pre6 enc Try.prog Try.f7 Rows.ledgerKeepsRow.domain false) (Rows.ledgerKeepsSpec.post enc Try.prog Try.f7 false true false false) := by
  refine returnsInHanded_of_change (C := Try.checked) own started (by kernel_rfl) Try.func7
    (ChangeSpec.witness6 (enc := enc) (C := Try.checked) false ⟨#[], #[.slice none 0 0, .agg #[.string ⟨#[]⟩, .string ⟨#[]⟩, .int .i64 0, .int .i64 0, .int .i64 0, .int .i64 0], .string ⟨#[]⟩, .string ⟨#[]⟩, .int .i64 0], []⟩ 8 (by kernel_rfl) (by kernel_rfl) (by kernel_rfl) (by kernel_rfl)) ?_
  intro W base args ds gs before hval0 hW hcnd _
  have hval : ∀ (j : Nat) t v, Try.f7.params[j]? = some t → args[j]? = some v → Value.okWide Try.prog W .any base t v := hval0
  have hW' := hW
  obtain ⟨p, q, hA0, hV, rfl, hfz, hnd⟩ := hW
  have hA : DataW.TrodAll enc Try.prog W 0 (fun _ => true) true Try.f7.params.toList args.toList ds p := hA0
  rw [Try.params7] at hA hval
  obtain ⟨v0, vs0, d0, ds0, p0, q0, hargs, rfl, rfl, h0, r0⟩ := trodAll_cons hA
  obtain ⟨v1, vs1, d1, ds1, p1, q1, rfl, rfl, rfl, h1, r1⟩ := trodAll_cons r0
  obtain ⟨v2, vs2, d2, ds2, p2, q2, rfl, rfl, rfl, h2, r2⟩ := trodAll_cons r1
  obtain ⟨v3, vs3, d3, ds3, p3, q3, rfl, rfl, rfl, h3, r3⟩ := trodAll_cons r2
  obtain ⟨v4, vs4, d4, ds4, p4, q4, rfl, rfl, rfl, h4, r4⟩ := trodAll_cons r3
  obtain ⟨rfl, rfl, rfl⟩ := trodAll_nil r4
  obtain rfl : args = #[v0, v1, v2, v3, v4] := by cases args; simp_all
  obtain ⟨rfl, rfl⟩ := trodVars_none hV
  obtain ⟨b0, len0, cap0, rfl⟩ := okWide_slice Try.underlying51 (hval 0 51 v0 rfl rfl)
  have k0 := h0
  have lt0 : ∀ x ∈ p0, x.block < W.heap.size := by obtain ⟨m, hm⟩ := k0; exact DataW.trod_lt m _ _ _ hm
  obtain ⟨a0, z0, w0⟩ := open_arg (t := (TR.sl (TR.pair TR.str (TR.pair TR.int TR.int)))) (Opens.sl Try.underlying51 (Opens.struct Try.underlying59 (OpensF.cons rfl (Opens.str Try.underlying9) (by kernel_rfl) (OpensF.cons rfl (Opens.int Try.underlying3) (by kernel_rfl) (OpensF.last rfl (Opens.int Try.underlying3) (by kernel_rfl)))) (by kernel_rfl)) (by kernel_rfl) (by decide)) rfl h0
  have k1 := h1
  have lt1 : ∀ x ∈ p1, x.block < W.heap.size := by obtain ⟨m, hm⟩ := k1; exact DataW.trod_lt m _ _ _ hm
  obtain ⟨a1, z1, w1⟩ := open_arg (t := (TR.pair TR.str (TR.pair TR.str (TR.pair TR.int (TR.pair TR.int (TR.pair TR.int TR.int)))))) (Opens.struct Try.underlying53 (OpensF.cons rfl (Opens.str Try.underlying9) (by kernel_rfl) (OpensF.cons rfl (Opens.str Try.underlying9) (by kernel_rfl) (OpensF.cons rfl (Opens.int Try.underlying3) (by kernel_rfl) (OpensF.cons rfl (Opens.int Try.underlying3) (by kernel_rfl) (OpensF.cons rfl (Opens.int Try.underlying3) (by kernel_rfl) (OpensF.last rfl (Opens.int Try.underlying3) (by kernel_rfl))))))) (by kernel_rfl)) (okWide_agg Try.underlying53 rfl (hval 1 53 v1 rfl rfl)) h1
  obtain ⟨s2, rfl, rfl, rfl, w2⟩ := open_string Try.underlying9 (hval 2 9 v2 rfl rfl) h2
  obtain ⟨a2, rfl⟩ : ∃ a : List UInt8, s2 = ⟨a.toArray⟩ := ⟨s2.data.toList, by simp⟩
  obtain ⟨s3, rfl, rfl, rfl, w3⟩ := open_string Try.underlying9 (hval 3 9 v3 rfl rfl) h3
  obtain ⟨a3, rfl⟩ : ∃ a : List UInt8, s3 = ⟨a.toArray⟩ := ⟨s3.data.toList, by simp⟩
  obtain ⟨a4, rfl, rfl, rfl, w4⟩ := open_int Try.underlying3 (hval 4 3 v4 rfl rfl) h4
  clear hA0 hval0
  refine (Go.Wk.pk_LedgerKeeps_c (whole W) W (whole_sub W) _ a0 z0 _ a1 z1 a2 a3 a4 true (Go.Pu.LedgerKeeps a0 w0 a1 w1 a2 w2 a3 w3 a4 w4)).mono fun e W' ⟨he, bel⟩ => ?_
  subst he
  exact ⟨_, rfl, _, _, _, [], _, [], hW', trodAll_mk1 (shut_bool Try.underlying4 _), (trodAll_cons_mk (Below.trod laidOut (by kernel_rfl) (of_decide_eq_true (by kernel_rfl)) k0 bel lt0) (trodAll_cons_mk (Below.trod laidOut (by kernel_rfl) (of_decide_eq_true (by kernel_rfl)) k1 bel lt1) (trodAll_cons_mk (shut_string Try.underlying9 w2) (trodAll_cons_mk (shut_string Try.underlying9 w3) (trodAll_cons_mk (shut_int Try.underlying3 w4) trodAll_mk0))))), rfl, bel.frame _, fun h => by cases h⟩
theorem over : Rows.ledgerKeepsRow.holds Try.pinned (OpenSpec.ofChange Rows.ledgerKeepsSpec) :=
  OpenClaim.holds_of_wide 7 Try.f7 rfl rfl rfl rfl rfl rfl rfl ⟨rfl, rfl, rfl, rfl, rfl⟩ rfl rfl rfl rfl rfl (by kernel_rfl) Try.func7 (by kernel_rfl)
    (of_decide_eq_true (by kernel_rfl)) (by unfold Func.isWrapper; first | (rw [if_pos (by decide +kernel)]; kernel_rfl) | (rw [if_neg (by decide +kernel)]; exact ⟨rfl, rfl⟩))
    (fun os started H enc _ => lifted os started H enc)
end FinLedgerKeeps
theorem ledgerKeeps_holds : Rows.LedgerKeepsSaid := FinLedgerKeeps.over
#print axioms ledgerKeeps_holds
end Go.Proofs.Ytjhhkbkhijllfaa
