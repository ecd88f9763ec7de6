/-
  The statement Rows.TreesOwnSaid: the law TreesOwn of the given program returns true for every input, and leaves its arguments as they were. No condition.
-/
import Derived.Test.YtfekdillbgblkaaWTreesOwnWalks
import Derived.Test.YtfekdillbgblkaaFwO
import Derived.Test.YtfekdillbgblkaaPuKit
import Derived.Test.YtfekdillbgblkaaPuWp
import Derived.Test.YtfekdillbgblkaaPuEq
import Derived.Test.YtfekdillbgblkaaPuList
import Derived.Test.YtfekdillbgblkaaPuMat
import Derived.Test.YtfekdillbgblkaaPuPt
import Derived.Test.YtfekdillbgblkaaPuGood
import Derived.Test.YtfekdillbgblkaaPuSad
import Derived.Test.YtfekdillbgblkaaPuSTurned
import Derived.Test.YtfekdillbgblkaaPuWithin
import Derived.Test.YtfekdillbgblkaaPuAuction
import Derived.Test.YtfekdillbgblkaaPuOwn
import Derived.Test.YtfekdillbgblkaaPuTree
import Derived.Test.YtfekdillbgblkaaPuTreeF
import Derived.Test.YtfekdillbgblkaaPuTKuhn
import Derived.Test.YtfekdillbgblkaaPuOrd
import Derived.Test.YtfekdillbgblkaaPuDuels
import Derived.Test.YtfekdillbgblkaaPuFar
import Derived.Test.YtfekdillbgblkaaPuSums
import Derived.Test.YtfekdillbgblkaaPuReverse
import Derived.Test.YtfekdillbgblkaaPuAllOrd
import Derived.Test.YtfekdillbgblkaaPuBest
import Derived.Test.YtfekdillbgblkaaPuORaise
import Derived.Test.YtfekdillbgblkaaPuTab
import Derived.Test.YtfekdillbgblkaaPuWorst
import Derived.Test.YtfekdillbgblkaaPuCopeland
import Derived.Test.YtfekdillbgblkaaPuRMay
import Derived.Test.YtfekdillbgblkaaPuRoads
import Derived.Test.YtfekdillbgblkaaPuRMost
import Derived.Test.YtfekdillbgblkaaPuRounds
import Derived.Test.YtfekdillbgblkaaPuRMostL
import Derived.Test.YtfekdillbgblkaaPuArgmax
import Derived.Test.YtfekdillbgblkaaPuRename
import Derived.Test.YtfekdillbgblkaaPuMono
import Derived.Test.YtfekdillbgblkaaPuTrOwn
import Derived.SizedLaws
import Derived.Test.YtfekdillbgblkaaFwW
import Derived.Test.YtfekdillbgblkaaRows
import Derived.ShutString
import Derived.Below
import Derived.Lib.SmallJoins
namespace Go.Proofs.Ytfekdillbgblkaa
open Go.ChangeShapes Go.WideShapes Go.ChangeAt Go.RowKit Go.Fw
open Go.ChangeMaps (open_string shut_string)
namespace FinTreesOwn
theorem own : ownKnob Try.prog.godebug = none := by kernel_rfl
theorem laidOut : laidOutB Try.prog = true := by kernel_rfl
/-- a slice's reading holds as many as the slice -/
theorem slice_len {α : Type} {P : Program} {T E : TypeId} {t : TR α} (hu : P.underlying T = some (.slice E)) {H : Type} {enc : TypeId × Value → H} {w : World} {spare : Nat → Bool} {held : Bool} {v : Value} {d : DataW H} {ps : List MemPlace} {h : Hp} {x : List α} (hz : (TR.sl t).vrep h v x)
    (e : DataW.Trod enc P w 0 spare held T v d ps) : x = [] ∨ ∃ elems rest, d = .slice elems rest ∧ elems.length = x.length := by
  obtain ⟨cs, hv, v', xs, rfl, ⟨a, cap, rfl, _⟩, _⟩ := hz
  have hvs : v = .slice a x.length cap := hv
  subst hvs
  obtain ⟨fuel, e⟩ := e
  rcases DataW.trod_slice hu e with ⟨hc, hd⟩ | ⟨a', len, cap', elems, rest, n, _, hc, hd, _, _, _, hel, _⟩
  · left
    have hc' : [Value.slice a x.length cap] = [Value.slice none 0 0] := hc
    simp only [List.cons.injEq, Value.slice.injEq, and_true] at hc'
    exact List.length_eq_zero_iff.1 hc'.2.1
  · right
    have hc' : [Value.slice a x.length cap] = [Value.slice (some a') len cap'] := hc
    simp only [List.cons.injEq, Value.slice.injEq, and_true] at hc'
    have hd' := congrArg Prod.fst hd
    exact ⟨_, _, hd', by rw [List.length_map]; omega⟩
set_option maxRecDepth 100000 in
theorem lifted (os : Os) (started : os.Started) (H : Type) (enc : TypeId × Value → H) :
    ReturnsInHanded {} Try.checked os 5 .any (Rows.treesOwnSpec.pre6 enc Try.prog Try.f5 Rows.treesOwnRow.domain false) (Rows.treesOwnSpec.post enc Try.prog Try.f5 false true false false) := by
  refine returnsInHanded_of_change_sized (C := Try.checked) own started (by kernel_rfl) Try.func5
    (ChangeSpec.witness6 (enc := enc) (C := Try.checked) false ⟨#[], #[.int .i64 0, .slice none 0 0], []⟩ 8 (by kernel_rfl) (by kernel_rfl) (by kernel_rfl) (by kernel_rfl)) ?_
  intro W base args ds gs before hval0 hW hcnd hsz _
  have hval : ∀ (j : Nat) t v, Try.f5.params[j]? = some t → args[j]? = some v → Value.okWide Try.prog W .any base t v := hval0
  have hW' := hW
  obtain ⟨p, q, hA0, hV, rfl, hfz, hnd⟩ := hW
  have hA : DataW.TrodAll enc Try.prog W 0 (fun _ => true) true Try.f5.params.toList args.toList ds p := hA0
  rw [Try.params5] at hA hval
  obtain ⟨v0, vs0, d0, ds0, p0, q0, hargs, rfl, rfl, h0, r0⟩ := trodAll_cons hA
  obtain ⟨v1, vs1, d1, ds1, p1, q1, rfl, rfl, rfl, h1, r1⟩ := trodAll_cons r0
  obtain ⟨rfl, rfl, rfl⟩ := trodAll_nil r1
  obtain rfl : args = #[v0, v1] := by cases args; simp_all
  obtain ⟨rfl, rfl⟩ := trodVars_none hV
  obtain ⟨a0, rfl, rfl, rfl, w0⟩ := open_int Try.underlying3 (hval 0 3 v0 rfl rfl) h0
  obtain ⟨b1, len1, cap1, rfl⟩ := okWide_slice Try.underlying33 (hval 1 33 v1 rfl rfl)
  have k1 := h1
  have lt1 : ∀ x ∈ p1, x.block < W.heap.size := by obtain ⟨m, hm⟩ := k1; exact DataW.trod_lt m _ _ _ hm
  obtain ⟨a1, z1, w1, D1⟩ := open_argD (t := (TR.sl (TR.pair TR.int (TR.pair (TR.sl TR.int) (TR.sl TR.int))))) (OpensD.sl Try.underlying33 (OpensD.structG Try.underlying36 (OpensDG.cons rfl (Opens.int Try.underlying3).d (by kernel_rfl) (OpensDG.cons rfl (OpensD.sl Try.underlying24 (Opens.int Try.underlying3).d (by kernel_rfl) (by decide)) (by kernel_rfl) (OpensDG.last rfl (OpensD.sl Try.underlying24 (Opens.int Try.underlying3).d (by kernel_rfl) (by decide)) (by kernel_rfl)))) (by kernel_rfl)) (by kernel_rfl) (by decide)) rfl h1
  clear hA0 hval0
  have wt1 := within_top hsz (j := 1) (t := 33) (d := d1) (by kernel_rfl) rfl
  have b1 : a1.length ≤ 2513169434843 ∧ ∀ x ∈ a1, x.2.1.length ≤ 17592186043904 ∧ x.2.2.length ≤ 17592186043904 := by
    rcases D1 with e | ⟨elems, rest, e, he, hr⟩
    · rw [e]; exact ⟨Nat.zero_le _, by simp⟩
    · rw [e] at wt1
      obtain ⟨q, qs⟩ := wt1.slice Try.underlying33
      rw [show Try.prog.bytesOf 36 = 56 by kernel_rfl] at q
      refine ⟨by omega, fun r hr2 => ?_⟩
      obtain ⟨x, hx, parts, hp, hd⟩ := hr r hr2
      have h1 := qs x hx
      rw [hp] at h1
      obtain ⟨⟨e0, m0, d0⟩, ⟨e1, m1, d1⟩, e2, m2, d2⟩ := hd
      have q1 := h1.struct Try.underlying36 (i := 1) (t := 24) rfl m1
      have q2 := h1.struct Try.underlying36 (i := 2) (t := 24) rfl m2
      refine ⟨?_, ?_⟩
      · rcases d1 with z | ⟨es, rs, z, hz, _⟩
        · rw [z]; exact Nat.zero_le _
        · rw [z] at q1
          have q := (q1.slice Try.underlying24).1
          rw [show Try.prog.bytesOf 3 = 8 by kernel_rfl] at q
          omega
      · rcases d2 with z | ⟨es, rs, z, hz, _⟩
        · rw [z]; exact Nat.zero_le _
        · rw [z] at q2
          have q := (q2.slice Try.underlying24).1
          rw [show Try.prog.bytesOf 3 = 8 by kernel_rfl] at q
          omega
  refine (Go.Wk.pk_TreesOwn_c (whole W) W (whole_sub W) a0 _ a1 z1 true (Go.Pu.TreesOwn a0 w0 a1 w1 b1)).mono fun e W' ⟨he, bel⟩ => ?_
  subst he
  exact ⟨_, rfl, _, _, _, [], _, [], hW', trodAll_mk1 (shut_bool Try.underlying4 _), (trodAll_cons_mk (shut_int Try.underlying3 w0) (trodAll_cons_mk (Below.trod laidOut (by kernel_rfl) (of_decide_eq_true (by kernel_rfl)) k1 bel lt1) trodAll_mk0)), rfl, bel.frame _, fun h => by cases h⟩
theorem over : Rows.treesOwnRow.holds Try.pinned (OpenSpec.ofChange Rows.treesOwnSpec) :=
  OpenClaim.holds_of_wide 5 Try.f5 rfl rfl rfl rfl rfl rfl rfl ⟨rfl, rfl, rfl, rfl, rfl⟩ rfl rfl rfl rfl rfl (by kernel_rfl) Try.func5 (by kernel_rfl)
    (of_decide_eq_true (by kernel_rfl)) (by unfold Func.isWrapper; first | (rw [if_pos (by decide +kernel)]; kernel_rfl) | (rw [if_neg (by decide +kernel)]; exact ⟨rfl, rfl⟩))
    (fun os started H enc _ => lifted os started H enc)
end FinTreesOwn
theorem treesOwn_holds : Rows.TreesOwnSaid := FinTreesOwn.over
#print axioms treesOwn_holds
end Go.Proofs.Ytfekdillbgblkaa
