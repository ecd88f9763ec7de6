/-
  The statement Rows.VotesOwnSaid: the law VotesOwn of the given program returns true for every input, and leaves its arguments as they were. No condition.
-/
import Derived.Test.YtfekdillbgblkaaWVotesOwnWalks
import Derived.Test.YtfekdillbgblkaaFwO
import Derived.Test.YtfekdillbgblkaaPuKit
import Derived.Test.YtfekdillbgblkaaPuWp
import Derived.Test.YtfekdillbgblkaaPuEq
import Derived.Test.YtfekdillbgblkaaPuList
import Derived.Test.YtfekdillbgblkaaPuMat
import Derived.Test.YtfekdillbgblkaaPuPt
import Derived.Test.YtfekdillbgblkaaPuGood
import Derived.Test.YtfekdillbgblkaaPuSad
import Derived.Test.YtfekdillbgblkaaPuSTurned
import Derived.Test.YtfekdillbgblkaaPuWithin
import Derived.Test.YtfekdillbgblkaaPuAuction
import Derived.Test.YtfekdillbgblkaaPuOwn
import Derived.Test.YtfekdillbgblkaaPuOrd
import Derived.Test.YtfekdillbgblkaaPuDuels
import Derived.Test.YtfekdillbgblkaaPuFar
import Derived.Test.YtfekdillbgblkaaPuSums
import Derived.Test.YtfekdillbgblkaaPuReverse
import Derived.Test.YtfekdillbgblkaaPuAllOrd
import Derived.Test.YtfekdillbgblkaaPuBest
import Derived.Test.YtfekdillbgblkaaPuORaise
import Derived.Test.YtfekdillbgblkaaPuTab
import Derived.Test.YtfekdillbgblkaaPuWorst
import Derived.Test.YtfekdillbgblkaaPuCopeland
import Derived.Test.YtfekdillbgblkaaPuRMay
import Derived.Test.YtfekdillbgblkaaPuRoads
import Derived.Test.YtfekdillbgblkaaPuRMost
import Derived.Test.YtfekdillbgblkaaPuRounds
import Derived.Test.YtfekdillbgblkaaPuRMostL
import Derived.Test.YtfekdillbgblkaaPuArgmax
import Derived.Test.YtfekdillbgblkaaPuRename
import Derived.Test.YtfekdillbgblkaaPuRounds2
import Derived.Test.YtfekdillbgblkaaPuRNames
import Derived.Test.YtfekdillbgblkaaPuOrdAny
import Derived.Test.YtfekdillbgblkaaPuBeater
import Derived.Test.YtfekdillbgblkaaPuVoOwn
import Derived.SizedLaws
import Derived.Test.YtfekdillbgblkaaFwW
import Derived.Test.YtfekdillbgblkaaRows
import Derived.ShutString
import Derived.Below
import Derived.Lib.SmallJoins
namespace Go.Proofs.Ytfekdillbgblkaa
open Go.ChangeShapes Go.WideShapes Go.ChangeAt Go.RowKit Go.Fw
open Go.ChangeMaps (open_string shut_string)
namespace FinVotesOwn
theorem own : ownKnob Try.prog.godebug = none := by kernel_rfl
theorem laidOut : laidOutB Try.prog = true := by kernel_rfl
/-- a slice's reading holds as many as the slice -/
theorem slice_len {α : Type} {P : Program} {T E : TypeId} {t : TR α} (hu : P.underlying T = some (.slice E)) {H : Type} {enc : TypeId × Value → H} {w : World} {spare : Nat → Bool} {held : Bool} {v : Value} {d : DataW H} {ps : List MemPlace} {h : Hp} {x : List α} (hz : (TR.sl t).vrep h v x)
    (e : DataW.Trod enc P w 0 spare held T v d ps) : x = [] ∨ ∃ elems rest, d = .slice elems rest ∧ elems.length = x.length := by
  obtain ⟨cs, hv, v', xs, rfl, ⟨a, cap, rfl, _⟩, _⟩ := hz
  have hvs : v = .slice a x.length cap := hv
  subst hvs
  obtain ⟨fuel, e⟩ := e
  rcases DataW.trod_slice hu e with ⟨hc, hd⟩ | ⟨a', len, cap', elems, rest, n, _, hc, hd, _, _, _, hel, _⟩
  · left
    have hc' : [Value.slice a x.length cap] = [Value.slice none 0 0] := hc
    simp only [List.cons.injEq, Value.slice.injEq, and_true] at hc'
    exact List.length_eq_zero_iff.1 hc'.2.1
  · right
    have hc' : [Value.slice a x.length cap] = [Value.slice (some a') len cap'] := hc
    simp only [List.cons.injEq, Value.slice.injEq, and_true] at hc'
    have hd' := congrArg Prod.fst hd
    exact ⟨_, _, hd', by rw [List.length_map]; omega⟩
set_option maxRecDepth 100000 in
theorem lifted (os : Os) (started : os.Started) (H : Type) (enc : TypeId × Value → H) :
    ReturnsInHanded {} Try.checked os 8 .any (Rows.votesOwnSpec.pre6 enc Try.prog Try.f8 Rows.votesOwnRow.domain false) (Rows.votesOwnSpec.post enc Try.prog Try.f8 false true false false) := by
  refine returnsInHanded_of_change_sized (C := Try.checked) own started (by kernel_rfl) Try.func8
    (ChangeSpec.witness6 (enc := enc) (C := Try.checked) false ⟨#[], #[.int .i64 0, .slice none 0 0, .slice none 0 0, .int .i64 0], []⟩ 8 (by kernel_rfl) (by kernel_rfl) (by kernel_rfl) (by kernel_rfl)) ?_
  intro W base args ds gs before hval0 hW hcnd hsz _
  have hval : ∀ (j : Nat) t v, Try.f8.params[j]? = some t → args[j]? = some v → Value.okWide Try.prog W .any base t v := hval0
  have hW' := hW
  obtain ⟨p, q, hA0, hV, rfl, hfz, hnd⟩ := hW
  have hA : DataW.TrodAll enc Try.prog W 0 (fun _ => true) true Try.f8.params.toList args.toList ds p := hA0
  rw [Try.params8] at hA hval
  obtain ⟨v0, vs0, d0, ds0, p0, q0, hargs, rfl, rfl, h0, r0⟩ := trodAll_cons hA
  obtain ⟨v1, vs1, d1, ds1, p1, q1, rfl, rfl, rfl, h1, r1⟩ := trodAll_cons r0
  obtain ⟨v2, vs2, d2, ds2, p2, q2, rfl, rfl, rfl, h2, r2⟩ := trodAll_cons r1
  obtain ⟨v3, vs3, d3, ds3, p3, q3, rfl, rfl, rfl, h3, r3⟩ := trodAll_cons r2
  obtain ⟨rfl, rfl, rfl⟩ := trodAll_nil r3
  obtain rfl : args = #[v0, v1, v2, v3] := by cases args; simp_all
  obtain ⟨rfl, rfl⟩ := trodVars_none hV
  obtain ⟨a0, rfl, rfl, rfl, w0⟩ := open_int Try.underlying3 (hval 0 3 v0 rfl rfl) h0
  obtain ⟨b1, len1, cap1, rfl⟩ := okWide_slice Try.underlying24 (hval 1 24 v1 rfl rfl)
  have k1 := h1
  have lt1 : ∀ x ∈ p1, x.block < W.heap.size := by obtain ⟨m, hm⟩ := k1; exact DataW.trod_lt m _ _ _ hm
  obtain ⟨a1, z1, w1⟩ := open_arg (t := (TR.sl TR.int)) (Opens.sl Try.underlying24 (Opens.int Try.underlying3) (by kernel_rfl) (by decide)) rfl h1
  obtain ⟨b2, len2, cap2, rfl⟩ := okWide_slice Try.underlying37 (hval 2 37 v2 rfl rfl)
  have k2 := h2
  have lt2 : ∀ x ∈ p2, x.block < W.heap.size := by obtain ⟨m, hm⟩ := k2; exact DataW.trod_lt m _ _ _ hm
  obtain ⟨a2, z2, w2, D2⟩ := open_argD (t := (TR.sl (TR.sl TR.int))) (OpensD.sl Try.underlying37 (OpensD.sl Try.underlying24 (Opens.int Try.underlying3).d (by kernel_rfl) (by decide)) (by kernel_rfl) (by decide)) rfl h2
  obtain ⟨a3, rfl, rfl, rfl, w3⟩ := open_int Try.underlying3 (hval 3 3 v3 rfl rfl) h3
  clear hA0 hval0
  have wt1 := within_top hsz (j := 1) (t := 24) (d := d1) (by kernel_rfl) rfl
  have b1 : a1.length ≤ 17592186043904 := by
    rcases slice_len Try.underlying24 z1 k1 with e | ⟨elems, rest, e, he⟩
    · rw [e]; exact Nat.zero_le _
    · rw [e] at wt1
      have q := (wt1.slice Try.underlying24).1
      rw [show Try.prog.bytesOf 3 = 8 by kernel_rfl] at q
      omega
  have wt2 := within_top hsz (j := 2) (t := 37) (d := d2) (by kernel_rfl) rfl
  have b2 : a2.length ≤ 5864062014634 ∧ ∀ r ∈ a2, r.length ≤ 17592186043904 := by
    rcases D2 with e | ⟨elems, rest, e, he, hr⟩
    · rw [e]; exact ⟨Nat.zero_le _, by simp⟩
    · rw [e] at wt2
      obtain ⟨q, qs⟩ := wt2.slice Try.underlying37
      rw [show Try.prog.bytesOf 24 = 24 by kernel_rfl] at q
      refine ⟨by omega, fun r hr2 => ?_⟩
      obtain ⟨x, hx, hd⟩ := hr r hr2
      have h1 := qs x hx
      rcases hd with e2 | ⟨es, rs, e2, he2, _⟩
      · rw [e2]; exact Nat.zero_le _
      · rw [e2] at h1
        have q2 := (h1.slice Try.underlying24).1
        rw [show Try.prog.bytesOf 3 = 8 by kernel_rfl] at q2
        omega
  refine (Go.Wk.pk_VotesOwn_c (whole W) W (whole_sub W) a0 _ a1 z1 _ a2 z2 a3 true (Go.Pu.VotesOwn a0 w0 a1 w1 b1 a2 w2 b2 a3 w3)).mono fun e W' ⟨he, bel⟩ => ?_
  subst he
  exact ⟨_, rfl, _, _, _, [], _, [], hW', trodAll_mk1 (shut_bool Try.underlying4 _), (trodAll_cons_mk (shut_int Try.underlying3 w0) (trodAll_cons_mk (Below.trod laidOut (by kernel_rfl) (of_decide_eq_true (by kernel_rfl)) k1 bel lt1) (trodAll_cons_mk (Below.trod laidOut (by kernel_rfl) (of_decide_eq_true (by kernel_rfl)) k2 bel lt2) (trodAll_cons_mk (shut_int Try.underlying3 w3) trodAll_mk0)))), rfl, bel.frame _, fun h => by cases h⟩
theorem over : Rows.votesOwnRow.holds Try.pinned (OpenSpec.ofChange Rows.votesOwnSpec) :=
  OpenClaim.holds_of_wide 8 Try.f8 rfl rfl rfl rfl rfl rfl rfl ⟨rfl, rfl, rfl, rfl, rfl⟩ rfl rfl rfl rfl rfl (by kernel_rfl) Try.func8 (by kernel_rfl)
    (of_decide_eq_true (by kernel_rfl)) (by unfold Func.isWrapper; first | (rw [if_pos (by decide +kernel)]; kernel_rfl) | (rw [if_neg (by decide +kernel)]; exact ⟨rfl, rfl⟩))
    (fun os started H enc _ => lifted os started H enc)
end FinVotesOwn
theorem votesOwn_holds : Rows.VotesOwnSaid := FinVotesOwn.over
#print axioms votesOwn_holds
end Go.Proofs.Ytfekdillbgblkaa
