/-
  The statement Rows.HouseOwnCardSaid: the law HouseOwn of the given program returns true for every input, and leaves its arguments as they were. No condition.
-/
import Derived.Test.YtpapmcdhinblaaaGreatDoorWHouseOwnWalks
import Derived.Test.YtpapmcdhinblaaaGreatDoorFwO
import Derived.Test.YtpapmcdhinblaaaGreatDoorPuJHouseOwn1
import Derived.Test.YtpapmcdhinblaaaGreatDoorPuJHouseOwn2
import Derived.SizedLaws
import Derived.Test.YtpapmcdhinblaaaGreatDoorFwW
import Derived.Test.YtpapmcdhinblaaaGreatDoorCards
import Derived.Test.YtpapmcdhinblaaaGreatDoorTie
import Derived.JoinedCond
import Derived.Deep.DeepHandedRow
import Derived.Lib.LaidTab
import Derived.Lib.LaidIn
import Derived.Lib.LaidU8
import Derived.Lib.DecodeN
import Derived.Shelf.Vars
import Derived.ShutString
import Derived.Below
import Derived.Lib.SmallJoins
namespace Go.Proofs.YtpapmcdhinblaaaGreatDoor
open Go.ChangeShapes Go.WideShapes Go.ChangeAt Go.RowKit Go.Fw
open Go.ChangeMaps (open_string shut_string)
namespace FinHouseOwn
theorem own : ownKnob Tryz.prog.godebug = none := by kernel_rfl
theorem laidOut : laidOutB Tryz.prog = true := by kernel_rfl
/-- a slice's reading holds as many as the slice -/
theorem slice_len {α : Type} {P : Program} {T E : TypeId} {t : TR α} (hu : P.underlying T = some (.slice E)) {H : Type} {enc : TypeId × Value → H} {w : World} {spare : Nat → Bool} {held : Bool} {v : Value} {d : DataW H} {ps : List MemPlace} {h : Hp} {x : List α} (hz : (TR.sl t).vrep h v x)
    (e : DataW.Trod enc P w 0 spare held T v d ps) : x = [] ∨ ∃ elems rest, d = .slice elems rest ∧ elems.length = x.length := by
  obtain ⟨cs, hv, v', xs, rfl, ⟨a, cap, rfl, _⟩, _⟩ := hz
  have hvs : v = .slice a x.length cap := hv
  subst hvs
  obtain ⟨fuel, e⟩ := e
  rcases DataW.trod_slice hu e with ⟨hc, hd⟩ | ⟨a', len, cap', elems, rest, n, _, hc, hd, _, _, _, hel, _⟩
  · left
    have hc' : [Value.slice a x.length cap] = [Value.slice none 0 0] := hc
    simp only [List.cons.injEq, Value.slice.injEq, and_true] at hc'
    exact List.length_eq_zero_iff.1 hc'.2.1
  · right
    have hc' : [Value.slice a x.length cap] = [Value.slice (some a') len cap'] := hc
    simp only [List.cons.injEq, Value.slice.injEq, and_true] at hc'
    have hd' := congrArg Prod.fst hd
    exact ⟨_, _, hd', by rw [List.length_map]; omega⟩
theorem gPow : Tryz.prog.globalNamed "internal/strconv.uint64pow10" = some 2 := by kernel_rfl
theorem gPowT : (Tryz.prog.globals[2]?).map (·.type) = some 162 := by kernel_rfl
theorem cellsPt : Tryz.prog.cellsOf 162 = 20 := by kernel_rfl
theorem cellsPe : Tryz.prog.cellsOf 123 = 1 := by kernel_rfl
theorem ren3 : Tryz.lays146_ren.g 1 = 3 := by kernel_rfl
/-- what the list and the world's form give -/
theorem tabs {W : World} (h : laidMetH Tryz.prog Rows.houseOwnRow.laid W) (hs : W.ShapedOpen Tryz.prog) : Tab Tryz.prog (Tryz.lays146_ren.g 1) (whole W) := by
  have h0 : laidMet Tryz.prog Rows.houseOwnRow.laid W := h
  refine tab_start (Lib.tabIs_of_head (rest := Rows.houseOwnRow.laid.drop 3) gPow gPowT Tryz.underlying162 Tryz.underlying123 cellsPe cellsPt (laid_tail (laid_tail h0))) ?_
  rw [ren3]
  exact cell_of_shapedOpen_int (P := Tryz.prog) (g := 3) (t := 3) (zero := #[.int .i64 0]) hs (of_decide_eq_true (by kernel_rfl)) (by kernel_rfl) rfl (by kernel_rfl) (by kernel_rfl) Tryz.underlying3
/-! ### one start that fits -/
noncomputable def low : Nat := (World.holding Tryz.prog default ⟨#[], #[], []⟩).heap.size
noncomputable def laidWorld (os : Os) : World :=
  let w0 := World.holding Tryz.prog os ⟨#[.cells #[.string ⟨#[105, 110, 118, 97, 108, 105, 100, 32, 115, 121, 110, 116, 97, 120]⟩] 169, .cells #[.string ⟨#[118, 97, 108, 117, 101, 32, 111, 117, 116, 32, 111, 102, 32, 114, 97, 110, 103, 101]⟩] 169], #[], []⟩
  let put (h : Array Obj) (g : Nat) (cs : Array Value) : Array Obj := h.modify g fun
    | .cells _ t frozen => .cells cs t frozen
    | o => o
  { w0 with heap := (put (put (put (put (put (put (put w0.heap 0 #[.iface 167 (.pointer (some ⟨low, 0, none⟩))]) 1 #[.iface 167 (.pointer (some ⟨low + 1, 0, none⟩))]) 2 (Lib.pow10Tab.map fun z => Value.int .u64 z).toArray) 4 (Lib.firstTab.map fun z => Value.int .u8 z).toArray) 5 ((List.range 16).flatMap fun i => [Value.int .u8 (Lib.accLo i), Value.int .u8 (Lib.accHi i)]).toArray) 6 #[.int .u8 0, .int .u8 1, .int .u8 28, .int .u8 2, .int .u8 29, .int .u8 14, .int .u8 24, .int .u8 3, .int .u8 30, .int .u8 22, .int .u8 20, .int .u8 15, .int .u8 25, .int .u8 17, .int .u8 4, .int .u8 8, .int .u8 31, .int .u8 27, .int .u8 13, .int .u8 23, .int .u8 21, .int .u8 19, .int .u8 16, .int .u8 7, .int .u8 26, .int .u8 12, .int .u8 18, .int .u8 6, .int .u8 11, .int .u8 5, .int .u8 10, .int .u8 9]) 7 #[.int .u8 0, .int .u8 1, .int .u8 56, .int .u8 2, .int .u8 57, .int .u8 49, .int .u8 28, .int .u8 3, .int .u8 61, .int .u8 58, .int .u8 42, .int .u8 50, .int .u8 38, .int .u8 29, .int .u8 17, .int .u8 4, .int .u8 62, .int .u8 47, .int .u8 59, .int .u8 36, .int .u8 45, .int .u8 43, .int .u8 51, .int .u8 22, .int .u8 53, .int .u8 39, .int .u8 33, .int .u8 30, .int .u8 24, .int .u8 18, .int .u8 12, .int .u8 5, .int .u8 63, .int .u8 55, .int .u8 48, .int .u8 27, .int .u8 60, .int .u8 41, .int .u8 37, .int .u8 16, .int .u8 46, .int .u8 35, .int .u8 44, .int .u8 21, .int .u8 52, .int .u8 32, .int .u8 23, .int .u8 11, .int .u8 54, .int .u8 26, .int .u8 40, .int .u8 15, .int .u8 34, .int .u8 20, .int .u8 31, .int .u8 10, .int .u8 25, .int .u8 14, .int .u8 19, .int .u8 9, .int .u8 13, .int .u8 8, .int .u8 7, .int .u8 6]) }
theorem laid_met (os : Os) : laidMet Tryz.prog Rows.houseOwnRow.laid ((laidWorld os).forCall (fun _ _ => 0) ⟨#[], #[.slice none 0 0, .agg #[.string ⟨#[]⟩, .string ⟨#[]⟩, .int .i64 0, .int .i64 0, .int .i64 0, .int .i64 0], .slice none 0 0, .slice none 0 0], []⟩).memory :=
  (LaidIn.of_run (l := Rows.houseOwnRow.laid) [6, 7, 2, 5, 1, 0, 4, low, low + 1] 8 (by kernel_rfl) (by kernel_rfl) (by kernel_rfl) (by kernel_rfl)).met
theorem reads (os : Os) {H : Type} (enc : TypeId × Value → H) : ∃ places, DataW.whole enc Tryz.prog ((laidWorld os).forCall (fun _ _ => 0) ⟨#[], #[.slice none 0 0, .agg #[.string ⟨#[]⟩, .string ⟨#[]⟩, .int .i64 0, .int .i64 0, .int .i64 0, .int .i64 0], .slice none 0 0, .slice none 0 0], []⟩).memory Tryz.f3.params.toList Rows.houseOwnSpec.vars false (#[.slice none 0 0, .agg #[.string ⟨#[]⟩, .string ⟨#[]⟩, .int .i64 0, .int .i64 0, .int .i64 0, .int .i64 0], .slice none 0 0, .slice none 0 0] : Array Value).toList 8 = some ([.nil, .agg [.lit (.string []), .lit (.string []), .lit (.int .i64 0), .lit (.int .i64 0), .lit (.int .i64 0), .lit (.int .i64 0)], .nil, .nil], [], places) :=
  ⟨[], by kernel_rfl⟩
set_option maxRecDepth 100000 in
theorem lifted (os : Os) (started : os.Started) (H : Type) (enc : TypeId × Value → H) (F : Stop.Interp) :
    ReturnsInHanded {} Tryz.checked os 3 .any ((OpenSpec.ofChange Rows.houseOwnSpec).preRow enc Tryz.prog Tryz.f3 Rows.houseOwnRow.domain false Rows.houseOwnRow.laid) (((OpenSpec.ofChange Rows.houseOwnSpec).at F).post enc Tryz.prog Tryz.f3 false true false false) := by
  obtain ⟨places, hx⟩ := reads os enc
  refine returnsInHanded_of_row (C := Tryz.checked) (s := OpenSpec.ofChange Rows.houseOwnSpec) own started (by kernel_rfl) Tryz.func3
    (witness_row_at (enc := enc) (C := Tryz.checked) false (laidWorld os) #[.slice none 0 0, .agg #[.string ⟨#[]⟩, .string ⟨#[]⟩, .int .i64 0, .int .i64 0, .int .i64 0, .int .i64 0], .slice none 0 0, .slice none 0 0] rfl (by kernel_rfl) (by kernel_rfl) (by kernel_rfl)
      (OpenSpec.preRow_of_cond 8 hx (by kernel_rfl) (fun k hk => by cases hk) (by kernel_rfl) (laid_met os))) ?_
  intro W base args ds gs before hval0 hW _ hk hsz hL hsh _
  have hval : ∀ (j : Nat) t v, Tryz.f3.params[j]? = some t → args[j]? = some v → Value.okWide Tryz.prog W .any base t v := hval0
  have hW' := hW
  obtain ⟨p, q, hA0, hV, rfl, hfz, hnd⟩ := hW
  have hA : DataW.TrodAll enc Tryz.prog W 0 (fun _ => true) true Tryz.f3.params.toList args.toList ds p := hA0
  rw [Tryz.params3] at hA hval
  obtain ⟨v0, vs0, d0, ds0, p0, q0, hargs, rfl, rfl, h0, r0⟩ := trodAll_cons hA
  obtain ⟨v1, vs1, d1, ds1, p1, q1, rfl, rfl, rfl, h1, r1⟩ := trodAll_cons r0
  obtain ⟨v2, vs2, d2, ds2, p2, q2, rfl, rfl, rfl, h2, r2⟩ := trodAll_cons r1
  obtain ⟨v3, vs3, d3, ds3, p3, q3, rfl, rfl, rfl, h3, r3⟩ := trodAll_cons r2
  obtain ⟨rfl, rfl, rfl⟩ := trodAll_nil r3
  obtain rfl : args = #[v0, v1, v2, v3] := by cases args; simp_all
  obtain ⟨rfl, rfl⟩ := trodVars_none hV
  obtain ⟨b0, len0, cap0, rfl⟩ := okWide_slice Tryz.underlying22 (hval 0 22 v0 rfl rfl)
  have k0 := h0
  have lt0 : ∀ x ∈ p0, x.block < W.heap.size := by obtain ⟨m, hm⟩ := k0; exact DataW.trod_lt m _ _ _ hm
  obtain ⟨a0, z0, w0⟩ := open_arg (t := (TR.sl (TR.pair TR.str (TR.pair TR.int TR.int)))) (Opens.sl Tryz.underlying22 (Opens.struct Tryz.underlying30 (OpensF.cons rfl (Opens.str Tryz.underlying9) (by kernel_rfl) (OpensF.cons rfl (Opens.int Tryz.underlying3) (by kernel_rfl) (OpensF.last rfl (Opens.int Tryz.underlying3) (by kernel_rfl)))) (by kernel_rfl)) (by kernel_rfl) (by decide)) rfl h0
  have k1 := h1
  have lt1 : ∀ x ∈ p1, x.block < W.heap.size := by obtain ⟨m, hm⟩ := k1; exact DataW.trod_lt m _ _ _ hm
  obtain ⟨a1, z1, w1⟩ := open_arg (t := (TR.pair TR.str (TR.pair TR.str (TR.pair TR.int (TR.pair TR.int (TR.pair TR.int TR.int)))))) (Opens.struct Tryz.underlying24 (OpensF.cons rfl (Opens.str Tryz.underlying9) (by kernel_rfl) (OpensF.cons rfl (Opens.str Tryz.underlying9) (by kernel_rfl) (OpensF.cons rfl (Opens.int Tryz.underlying3) (by kernel_rfl) (OpensF.cons rfl (Opens.int Tryz.underlying3) (by kernel_rfl) (OpensF.cons rfl (Opens.int Tryz.underlying3) (by kernel_rfl) (OpensF.last rfl (Opens.int Tryz.underlying3) (by kernel_rfl))))))) (by kernel_rfl)) (okWide_agg Tryz.underlying24 rfl (hval 1 24 v1 rfl rfl)) h1
  obtain ⟨b2, len2, cap2, rfl⟩ := okWide_slice Tryz.underlying25 (hval 2 25 v2 rfl rfl)
  have k2 := h2
  have lt2 : ∀ x ∈ p2, x.block < W.heap.size := by obtain ⟨m, hm⟩ := k2; exact DataW.trod_lt m _ _ _ hm
  obtain ⟨a2, z2, w2⟩ := open_arg (t := (TR.sl (TR.pair TR.str (TR.pair TR.str (TR.pair TR.int (TR.pair TR.int (TR.pair TR.int TR.int))))))) (Opens.sl Tryz.underlying25 (Opens.struct Tryz.underlying24 (OpensF.cons rfl (Opens.str Tryz.underlying9) (by kernel_rfl) (OpensF.cons rfl (Opens.str Tryz.underlying9) (by kernel_rfl) (OpensF.cons rfl (Opens.int Tryz.underlying3) (by kernel_rfl) (OpensF.cons rfl (Opens.int Tryz.underlying3) (by kernel_rfl) (OpensF.cons rfl (Opens.int Tryz.underlying3) (by kernel_rfl) (OpensF.last rfl (Opens.int Tryz.underlying3) (by kernel_rfl))))))) (by kernel_rfl)) (by kernel_rfl) (by decide)) rfl h2
  obtain ⟨b3, len3, cap3, rfl⟩ := okWide_slice Tryz.underlying26 (hval 3 26 v3 rfl rfl)
  have k3 := h3
  have lt3 : ∀ x ∈ p3, x.block < W.heap.size := by obtain ⟨m, hm⟩ := k3; exact DataW.trod_lt m _ _ _ hm
  obtain ⟨a3, z3, w3⟩ := open_arg (t := (TR.sl (TR.pair TR.int (TR.pair TR.int (TR.pair TR.str (TR.pair TR.str (TR.pair TR.str (TR.pair TR.int (TR.pair TR.int (TR.pair TR.int TR.int)))))))))) (Opens.sl Tryz.underlying26 (Opens.struct Tryz.underlying61 (OpensF.cons rfl (Opens.int Tryz.underlying3) (by kernel_rfl) (OpensF.cons rfl (Opens.int Tryz.underlying3) (by kernel_rfl) (OpensF.cons rfl (Opens.str Tryz.underlying9) (by kernel_rfl) (OpensF.last rfl (Opens.struct Tryz.underlying24 (OpensF.cons rfl (Opens.str Tryz.underlying9) (by kernel_rfl) (OpensF.cons rfl (Opens.str Tryz.underlying9) (by kernel_rfl) (OpensF.cons rfl (Opens.int Tryz.underlying3) (by kernel_rfl) (OpensF.cons rfl (Opens.int Tryz.underlying3) (by kernel_rfl) (OpensF.cons rfl (Opens.int Tryz.underlying3) (by kernel_rfl) (OpensF.last rfl (Opens.int Tryz.underlying3) (by kernel_rfl))))))) (by kernel_rfl)) (by kernel_rfl))))) (by kernel_rfl)) (by kernel_rfl) (by decide)) rfl h3
  clear hA0 hval0
  have wt0 := within_top hsz (j := 0) (t := 22) (d := d0) (by kernel_rfl) rfl
  have b0 : a0.length ≤ 4398046510976 := by
    rcases slice_len Tryz.underlying22 z0 k0 with e | ⟨elems, rest, e, he⟩
    · rw [e]; exact Nat.zero_le _
    · rw [e] at wt0
      have q := (wt0.slice Tryz.underlying22).1
      rw [show Tryz.prog.bytesOf 30 = 32 by kernel_rfl] at q
      omega
  have wt2 := within_top hsz (j := 2) (t := 25) (d := d2) (by kernel_rfl) rfl
  have b2 : a2.length ≤ 2199023255488 := by
    rcases slice_len Tryz.underlying25 z2 k2 with e | ⟨elems, rest, e, he⟩
    · rw [e]; exact Nat.zero_le _
    · rw [e] at wt2
      have q := (wt2.slice Tryz.underlying25).1
      rw [show Tryz.prog.bytesOf 24 = 64 by kernel_rfl] at q
      omega
  have wt3 := within_top hsz (j := 3) (t := 26) (d := d3) (by kernel_rfl) rfl
  have b3 : a3.length ≤ 1466015503658 := by
    rcases slice_len Tryz.underlying26 z3 k3 with e | ⟨elems, rest, e, he⟩
    · rw [e]; exact Nat.zero_le _
    · rw [e] at wt3
      have q := (wt3.slice Tryz.underlying26).1
      rw [show Tryz.prog.bytesOf 61 = 96 by kernel_rfl] at q
      omega
  refine (Go.Wk.pk_HouseOwn_c (whole W) W (whole_sub W) (tabs hL hsh) _ a0 z0 _ a1 z1 _ a2 z2 _ a3 z3 true (Go.Pu.HouseOwn a0 w0 b0 a1 w1 a2 w2 b2 a3 w3 b3)).mono fun e W' ⟨he, bel⟩ => ?_
  subst he
  exact ⟨_, rfl, _, _, _, [], _, [], hW', trodAll_mk1 (shut_bool Tryz.underlying4 _), (trodAll_cons_mk (Below.trod laidOut (by kernel_rfl) (of_decide_eq_true (by kernel_rfl)) k0 bel lt0) (trodAll_cons_mk (Below.trod laidOut (by kernel_rfl) (of_decide_eq_true (by kernel_rfl)) k1 bel lt1) (trodAll_cons_mk (Below.trod laidOut (by kernel_rfl) (of_decide_eq_true (by kernel_rfl)) k2 bel lt2) (trodAll_cons_mk (Below.trod laidOut (by kernel_rfl) (of_decide_eq_true (by kernel_rfl)) k3 bel lt3) trodAll_mk0)))), rfl, bel.frame _, fun h => by cases h⟩
theorem over : Rows.HouseOwnSaid :=
  OpenClaim.holds_of_cond 3 Tryz.f3 rfl rfl rfl rfl rfl rfl rfl ⟨rfl, rfl, rfl, rfl, rfl⟩ rfl rfl rfl rfl rfl (by kernel_rfl) Tryz.func3 (by kernel_rfl)
    (of_decide_eq_true (by kernel_rfl)) (by unfold Func.isWrapper; first | (rw [if_pos (by decide +kernel)]; kernel_rfl) | (rw [if_neg (by decide +kernel)]; exact ⟨rfl, rfl⟩))
    (fun os started H enc _ F => by rw [OpenClaim.pre_eq_preRow]; exact lifted os started H enc F)
theorem plain (f : FuncId) (fn : Func) (hf : Tryz.pinned.checked.prog.funcNamed "feathermark/plumekeep.HouseOwn" = some f) (hfn : Tryz.pinned.checked.prog.funcs[f]? = some fn) :
    true = Tryz.pinned.checked.prog.looks [] ∧ ∀ (j : Nat) t, fn.params[j]? = some t → Tryz.pinned.checked.prog.wantsStandIn t = false := by
  obtain rfl : f = 3 := Option.some.inj ((show Tryz.prog.funcNamed "feathermark/plumekeep.HouseOwn" = some 3 by kernel_rfl).symm.trans hf) |>.symm
  obtain rfl : fn = Tryz.f3 := (Option.some.inj (Tryz.func3.symm.trans hfn)).symm
  refine ⟨by kernel_rfl, fun j t ht => ?_⟩
  rw [Tryz.params3] at ht
  have hm := Array.mem_of_getElem? ht
  simp only [List.mem_toArray, List.mem_cons, List.not_mem_nil, or_false] at hm
  rcases hm with rfl | rfl | rfl | rfl
  · exact (show Tryz.prog.wantsStandIn 22 = false by kernel_rfl)
  · exact (show Tryz.prog.wantsStandIn 24 = false by kernel_rfl)
  · exact (show Tryz.prog.wantsStandIn 25 = false by kernel_rfl)
  · exact (show Tryz.prog.wantsStandIn 26 = false by kernel_rfl)
theorem card : Rows.HouseOwnCardSaid :=
  Claim7.holds_tied_plain_at .later [] _ _ _ _ over (fun _ h => by cases h) (by kernel_rfl) (fun _ h => by cases h) houseOwn_row_tie rfl ⟨rfl, rfl⟩ (by kernel_rfl) rfl plain (by kernel_rfl)
end FinHouseOwn
theorem houseOwn_holds : Rows.HouseOwnCardSaid := FinHouseOwn.card
#print axioms houseOwn_holds
end Go.Proofs.YtpapmcdhinblaaaGreatDoor
