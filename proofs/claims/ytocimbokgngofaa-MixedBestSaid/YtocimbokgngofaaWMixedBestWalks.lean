/- Each function comes to what its model says; printed by a program of this repository. -/
import Derived.Test.YtocimbokgngofaaProg
import Derived.Test.YtocimbokgngofaaWMixedBestModels
import Derived.Test.YtocimbokgngofaaWMixedBestWalks1
namespace Go.Wk
open Go.Fw Go.Mo Go.Proofs Go.RowKit
set_option linter.all false
set_option maxRecDepth 100000

set_option maxHeartbeats 4000000 in
theorem pk_mixes_c (S : Hp) (w : World) (hS : S.sub w)  (res : Bool) (hm : pk_mixes_m = some res) : Calls Try.prog 14 #[] w (PostV w (.bool res)) := by
 refine calls_enter 24 Try.func14 Try.ntmps14 rfl S false [] [] rfl trivial hS trivial ?_
 unfold pk_mixes_m at hm
 refine GL.seq ?_
 refine GL.region ?_
 refine RL.asg rfl rfl rfl ?_
 refine RL.finG ?_
 refine GL.seq ?_
 refine GL.region ?_
 refine RL.bS (t := TR.int) (vs := [.int .i64 (1 : Int), .int .i64 (-1 : Int)]) ([(1 : Int), (-1 : Int)] : (List Int)) Try.underlying32 Try_lo3 rfl rfl rfl rfl ⟨VR.int, ⟨VR.int, trivial⟩⟩ rfl (by decide) ?_
 intro v10
 refine RL.bS (t := TR.int) (vs := [.int .i64 (-1 : Int), .int .i64 (1 : Int)]) ([(-1 : Int), (1 : Int)] : (List Int)) Try.underlying32 Try_lo3 rfl rfl rfl rfl ⟨VR.int, ⟨VR.int, trivial⟩⟩ rfl (by decide) ?_
 intro v11
 refine RL.reL (L' := [own 3 TR.int v10 ([(1 : Int), (-1 : Int)] : (List Int)), own 3 TR.int v11 ([(-1 : Int), (1 : Int)] : (List Int))]) rfl ?_
 refine RL.weak (fun a w st => st.freeze 0 rfl) ?_
 refine RL.weak (fun a w st => st.freeze 1 rfl) ?_
 refine RL.bS (t := (TR.sl TR.int)) (vs := [v10, v11]) ([([(1 : Int), (-1 : Int)] : (List Int)), ([(-1 : Int), (1 : Int)] : (List Int))] : (List (List Int))) Try.underlying22 Try_lo32 rfl rfl rfl rfl ⟨(VR.item 0 rfl), ⟨(VR.item 1 rfl), trivial⟩⟩ rfl (by decide) ?_
 intro v12
 refine RL.reL (L' := [imm (TR.sl TR.int) v10 ([(1 : Int), (-1 : Int)] : (List Int)), imm (TR.sl TR.int) v11 ([(-1 : Int), (1 : Int)] : (List Int)), own 32 (TR.sl TR.int) v12 ([([(1 : Int), (-1 : Int)] : (List Int)), ([(-1 : Int), (1 : Int)] : (List Int))] : (List (List Int)))]) rfl ?_
 refine RL.weak (fun a w st => st.freeze 2 rfl) ?_
 obtain ⟨y13, e14, hm⟩ := bind_some hm
 refine RL.call (vs := [v12]) Try_fit16 rfl rfl rfl rfl rfl (fun S f w hS hW hi => mixed_Solve_c S w hS _ _ (hi 2 _ rfl) _ e14) ?_
 intro ⟨v15, v16⟩
 refine RL.reL (L' := [imm (TR.sl TR.int) v10 ([(1 : Int), (-1 : Int)] : (List Int)), imm (TR.sl TR.int) v11 ([(-1 : Int), (1 : Int)] : (List Int)), imm (TR.sl (TR.sl TR.int)) v12 ([([(1 : Int), (-1 : Int)] : (List Int)), ([(-1 : Int), (1 : Int)] : (List Int))] : (List (List Int))), imm (TR.pair TR.int TR.int) v15 y13.1, imm (TR.pair TR.int TR.int) v16 y13.2.1]) rfl ?_
 refine RL.mv rfl rfl rfl ?_
 refine RL.ext rfl rfl rfl rfl ?_
 refine RL.ext rfl rfl rfl rfl ?_
 refine RL.ext rfl rfl rfl rfl ?_
 refine RL.alloc (t := (TR.pair TR.int TR.int)) (z := ((0 : Int), (0 : Int))) Try_lo26 (fun S => ⟨[.int .i64 0], _, rfl, rfl, rfl⟩) rfl rfl rfl ?_
 intro v17
 refine RL.alloc (t := (TR.pair TR.int TR.int)) (z := ((0 : Int), (0 : Int))) Try_lo26 (fun S => ⟨[.int .i64 0], _, rfl, rfl, rfl⟩) rfl rfl rfl ?_
 intro v18
 refine RL.reL (L' := [imm (TR.sl TR.int) v10 ([(1 : Int), (-1 : Int)] : (List Int)), imm (TR.sl TR.int) v11 ([(-1 : Int), (1 : Int)] : (List Int)), imm (TR.sl (TR.sl TR.int)) v12 ([([(1 : Int), (-1 : Int)] : (List Int)), ([(-1 : Int), (1 : Int)] : (List Int))] : (List (List Int))), imm (TR.pair TR.int TR.int) v15 y13.1, imm (TR.pair TR.int TR.int) v16 y13.2.1, obox 26 (TR.pair TR.int TR.int) v17 ((0 : Int), (0 : Int)), obox 26 (TR.pair TR.int TR.int) v18 ((0 : Int), (0 : Int))]) rfl ?_
 refine RL.stP (off := 0) (e' := y13.1) (d1 := y13.1) (r := (TR.pair TR.int TR.int)) 5 Try_ln26 rfl rfl (Or.inr ⟨rfl, rfl⟩) rfl (VR.item 3 rfl) rfl Upd.self ?_
 refine RL.stP (off := 0) (e' := y13.2.1) (d1 := y13.2.1) (r := (TR.pair TR.int TR.int)) 6 Try_ln26 rfl rfl (Or.inr ⟨rfl, rfl⟩) rfl (VR.item 4 rfl) rfl Upd.self ?_
 refine RL.reL (L' := [imm (TR.sl TR.int) v10 ([(1 : Int), (-1 : Int)] : (List Int)), imm (TR.sl TR.int) v11 ([(-1 : Int), (1 : Int)] : (List Int)), imm (TR.sl (TR.sl TR.int)) v12 ([([(1 : Int), (-1 : Int)] : (List Int)), ([(-1 : Int), (1 : Int)] : (List Int))] : (List (List Int))), imm (TR.pair TR.int TR.int) v15 y13.1, imm (TR.pair TR.int TR.int) v16 y13.2.1, obox 26 (TR.pair TR.int TR.int) v17 y13.1, obox 26 (TR.pair TR.int TR.int) v18 y13.2.1]) rfl ?_
 refine RL.asg rfl rfl rfl ?_
 refine RL.finG ?_
 refine GL.seq ?_
 obtain ⟨y32, K33, h34, h35, h36, h37, h38⟩ := bindR_K hm
 refine GL.join (ι := Bool) (fun (p : Bool) => [(0, .bool p)]) (fun (p : Bool) => []) (fun (p : Bool) => K33 (.nx p)) ?_ ?_
 ·skip
  refine GL.region ?_
  refine RL.mv rfl rfl rfl ?_
  refine RL.binI (v := .bool (y13.2.2 == (0 : Int))) rfl rfl rfl rfl rfl ?_
  refine RL.mv rfl rfl rfl ?_
  refine RL.split (t := 14) rfl (fun b39 => ?_) (fun b39 => ?_)
  ·replace h34 := ite_t b39 h34
   refine RL.ldP (off := 0) (r := (TR.pair TR.int TR.int)) (e' := y13.1) 5 Try_ln26 rfl rfl (Or.inr ⟨rfl, rfl⟩) rfl PtOf.obox Part.self ?_
   intro v40
   refine RL.bld (t := (TR.pair TR.int TR.int)) (d0 := (((1 : Int), (2 : Int)) : (Int × Int))) (pv := [(0, .int .i64 (1 : Int)), (1, .int .i64 (2 : Int))]) rfl Try_bld26 rfl rfl rfl ⟨⟨_, _, TR.int, (1 : Int), rfl, rfl, VR.int⟩, ⟨⟨_, _, TR.int, (2 : Int), rfl, rfl, VR.int⟩, trivial⟩⟩ (fun S f hi => by
     obtain ⟨c0, e0, r0⟩ := cells_vrep (t := TR.int) (u := .int .i64 (1 : Int)) (e := (1 : Int)) (VR.int S f hi)
     obtain ⟨c1, e1, r1⟩ := cells_vrep (t := TR.int) (u := .int .i64 (2 : Int)) (e := (2 : Int)) (VR.int S f hi)
     show TR.rep (TR.pair TR.int TR.int) S (List.flatten [(.int .i64 (1 : Int) : Value).cells.toList, (.int .i64 (2 : Int) : Value).cells.toList]) _
     simp only [e0, e1,  List.flatten_cons, List.flatten_nil, List.append_nil]
     exact ⟨_, _, rfl, r0, r1⟩) ?_
   intro v41
   refine RL.reL (L' := [imm (TR.sl TR.int) v10 ([(1 : Int), (-1 : Int)] : (List Int)), imm (TR.sl TR.int) v11 ([(-1 : Int), (1 : Int)] : (List Int)), imm (TR.sl (TR.sl TR.int)) v12 ([([(1 : Int), (-1 : Int)] : (List Int)), ([(-1 : Int), (1 : Int)] : (List Int))] : (List (List Int))), imm (TR.pair TR.int TR.int) v15 y13.1, imm (TR.pair TR.int TR.int) v16 y13.2.1, obox 26 (TR.pair TR.int TR.int) v17 y13.1, obox 26 (TR.pair TR.int TR.int) v18 y13.2.1, imm (TR.pair TR.int TR.int) v40 y13.1, imm (TR.pair TR.int TR.int) v41 (((1 : Int), (2 : Int)) : (Int × Int))]) rfl ?_
   refine RL.eqG (t := (TR.pair TR.int TR.int)) (e := y13.1) (e' := (((1 : Int), (2 : Int)) : (Int × Int))) rfl Try_eq26 (by decide) Try.eqGuardType26 rfl rfl rfl rfl (VR.item 7 rfl) (VR.item 8 rfl) ?_
   refine RL.pickT rfl rfl rfl rfl ?_
   refine RL.mv rfl rfl rfl ?_
   refine RL.split (t := 19) rfl (fun b42 => ?_) (fun b42 => ?_)
   ·replace h34 := ite_t b42 h34
    refine RL.ldP (off := 0) (r := (TR.pair TR.int TR.int)) (e' := y13.2.1) 6 Try_ln26 rfl rfl (Or.inr ⟨rfl, rfl⟩) rfl PtOf.obox Part.self ?_
    intro v43
    refine RL.bld (t := (TR.pair TR.int TR.int)) (d0 := (((0 : Int), (1 : Int)) : (Int × Int))) (pv := [(1, .int .i64 (1 : Int))]) rfl Try_bld26 rfl rfl rfl ⟨⟨_, _, TR.int, (1 : Int), rfl, rfl, VR.int⟩, trivial⟩ (fun S f hi => by
      obtain ⟨c1, e1, r1⟩ := cells_vrep (t := TR.int) (u := .int .i64 (1 : Int)) (e := (1 : Int)) (VR.int S f hi)
      show TR.rep (TR.pair TR.int TR.int) S (List.flatten [[.int .i64 0], (.int .i64 (1 : Int) : Value).cells.toList]) _
      simp only [e1,  List.flatten_cons, List.flatten_nil, List.append_nil]
      exact ⟨_, _, rfl, rfl, r1⟩) ?_
    intro v44
    refine RL.reL (L' := [imm (TR.sl TR.int) v10 ([(1 : Int), (-1 : Int)] : (List Int)), imm (TR.sl TR.int) v11 ([(-1 : Int), (1 : Int)] : (List Int)), imm (TR.sl (TR.sl TR.int)) v12 ([([(1 : Int), (-1 : Int)] : (List Int)), ([(-1 : Int), (1 : Int)] : (List Int))] : (List (List Int))), imm (TR.pair TR.int TR.int) v15 y13.1, imm (TR.pair TR.int TR.int) v16 y13.2.1, obox 26 (TR.pair TR.int TR.int) v17 y13.1, obox 26 (TR.pair TR.int TR.int) v18 y13.2.1, imm (TR.pair TR.int TR.int) v40 y13.1, imm (TR.pair TR.int TR.int) v41 (((1 : Int), (2 : Int)) : (Int × Int)), imm (TR.pair TR.int TR.int) v43 y13.2.1, imm (TR.pair TR.int TR.int) v44 (((0 : Int), (1 : Int)) : (Int × Int))]) rfl ?_
    refine RL.eqG (t := (TR.pair TR.int TR.int)) (e := y13.2.1) (e' := (((0 : Int), (1 : Int)) : (Int × Int))) rfl Try_eq26 (by decide) Try.eqGuardType26 rfl rfl rfl rfl (VR.item 9 rfl) (VR.item 10 rfl) ?_
    refine RL.pickT rfl rfl rfl rfl ?_
    refine RL.asg rfl rfl rfl ?_
    refine RL.fin ?_
    cases h34
    exact fun a w st => mid_intro (decide (y13.2.1 = (((0 : Int), (1 : Int)) : (Int × Int)))) h35 (St.cut [] ⟨rfl, trivial⟩ (by decide) rfl st)
   replace h34 := ite_f b42 h34
   refine RL.skip rfl rfl ?_
   refine RL.skip rfl rfl ?_
   refine RL.skip rfl rfl ?_
   refine RL.pickF rfl rfl rfl rfl ?_
   refine RL.asg rfl rfl rfl ?_
   refine RL.fin ?_
   cases h34
   exact fun a w st => mid_intro false h35 (St.cut [] ⟨rfl, trivial⟩ (by decide) rfl st)
  replace h34 := ite_f b39 h34
  refine RL.skip rfl rfl ?_
  refine RL.skip rfl rfl ?_
  refine RL.skip rfl rfl ?_
  refine RL.pickF rfl rfl rfl rfl ?_
  refine RL.mv rfl rfl rfl ?_
  refine RL.skip rfl rfl ?_
  refine RL.skip rfl rfl ?_
  refine RL.skip rfl rfl ?_
  refine RL.pickF rfl rfl rfl rfl ?_
  refine RL.asg rfl rfl rfl ?_
  refine RL.fin ?_
  cases h34
  exact fun a w st => mid_intro false h35 (St.cut [] ⟨rfl, trivial⟩ (by decide) rfl st)
 rintro x31 h45
 have h46 := h36 _ h45
 try dsimp only at h46
 refine GL.weak (env' := [(0, .bool x31)]) (L' := []) (fun _ _ st => st) ?_
 have h46 := Option.some.inj h46
 subst h46
 exact GL.ret (Gx.ret (v := .bool x31) (res1 rfl rfl) (fun a w st => st.toPostV))

set_option maxHeartbeats 4000000 in
theorem pk_two_c (S : Hp) (w : World) (hS : S.sub w) (v0 : Value) (x0 : (List (List Int))) (k0 : ((TR.sl (TR.sl TR.int))).vrep S v0 x0) (res : (List (List Int))) (hm : pk_two_m x0 = some res) : Calls Try.prog 15 #[v0] w (Post w S (fun (o : Value) => o) (fun (o : Value) => [imm (TR.sl (TR.sl TR.int)) o res])) := by
 refine calls_enter 9 Try.func15 Try.ntmps15 rfl S false [(0, v0)] [imm (TR.sl (TR.sl TR.int)) v0 x0] rfl ⟨rfl, trivial⟩ hS ⟨k0, trivial⟩ ?_
 unfold pk_two_m at hm
 refine GL.seq ?_
 refine GL.region ?_
 refine RL.asg rfl rfl rfl ?_
 refine RL.finG ?_
 refine GL.seq ?_
 refine GL.seq ?_
 refine GL.region ?_
 refine RL.mv rfl rfl rfl ?_
 refine RL.lenS 0 Try.underlying22 rfl rfl rfl rfl SlOf.imm ?_
 refine RL.binI (v := .bool (decide (((x0).length : Int) > (2 : Int)))) rfl rfl rfl rfl rfl ?_
 refine RL.finG ?_
 refine GL.cond rfl (fun b2 => ?_) (fun b2 => ?_)
 ·replace hm := ite_t b2 hm
  refine GL.seq ?_
  refine GL.region ?_
  refine RL.mv rfl rfl rfl ?_
  obtain ⟨y6, e7, hm⟩ := bind_some hm
  replace e7 := chk_some e7
  refine RL.slc (t := (TR.sl TR.int)) (i := 0) (j := ((2 : Int)).toNat) (sz := 1) 0 Try.underlying22 Try_ln32 rfl rfl rfl rfl (Or.inl ⟨rfl, rfl⟩) (Or.inr ⟨_, _, rfl, by rw [Int.toNat_of_nonneg (by omega)]; rfl⟩) rfl (by omega) (by omega) ?_
  intro v8
  refine RL.asg rfl rfl rfl ?_
  refine RL.finG ?_
  have hm := Option.some.inj hm
  subst hm
  exact GL.ret (Gx.ret (v := v8) (res1 rfl rfl) (fun a w st => (st.pick [1] (by decide) rfl).toPost v8))
 replace hm := ite_f b2 hm
 refine GL.skip ?_
 refine GL.seq ?_
 refine GL.region ?_
 refine RL.mv rfl rfl rfl ?_
 refine RL.asg rfl rfl rfl ?_
 refine RL.finG ?_
 have hm := Option.some.inj hm
 subst hm
 exact GL.ret (Gx.ret (v := v0) (res1 rfl rfl) (fun a w st => (st.pick [0] (by decide) rfl).toPost v0))

set_option maxHeartbeats 4000000 in
theorem pk_gives_c (S : Hp) (w : World) (hS : S.sub w) (v0 : Value) (x0 : (List (List Int))) (k0 : ((TR.sl (TR.sl TR.int))).vrep S v0 x0) (x1 : Int) (x2 : Int) (v3 : Value) (x3 : (Int × Int)) (k3 : ((TR.pair TR.int TR.int)).vrep S v3 x3) (res : Bool) (hm : pk_gives_m x0 x1 x2 x3 = some res) : Calls Try.prog 17 #[v0, .int .i64 x1, .int .i64 x2, v3] w (PostV w (.bool res)) := by
 refine calls_enter 45 Try.func17 Try.ntmps17 rfl S false [(0, v0), (1, .int .i64 x1), (2, .int .i64 x2), (3, v3)] [imm (TR.sl (TR.sl TR.int)) v0 x0, imm (TR.pair TR.int TR.int) v3 x3] rfl ⟨rfl, ⟨rfl, ⟨rfl, ⟨rfl, trivial⟩⟩⟩⟩ hS ⟨k0, ⟨k3, trivial⟩⟩ ?_
 unfold pk_gives_m at hm
 refine GL.seq ?_
 refine GL.region ?_
 refine RL.box (t := (TR.pair TR.int TR.int)) (e := x3) rfl rfl rfl rfl (VR.item 1 rfl) ?_
 intro v6
 refine RL.asg rfl rfl rfl ?_
 refine RL.finG ?_
 refine GL.seq ?_
 refine GL.seq ?_
 refine GL.region ?_
 refine RL.mv rfl rfl rfl ?_
 obtain ⟨y10, e11, hm⟩ := bind_some hm
 refine RL.idxS (sz := 1) 0 Try.underlying22 Try_ln32 rfl rfl rfl rfl rfl SlOf.imm (idx_some e11).1 (idx_some e11).2.1 ?_
 refine RL.ldS (i := ((0 : Int)).toNat) (r := (TR.sl TR.int)) (e' := y10) 0 Try_ln32 rfl rfl rfl rfl SlOf.imm (idx_some e11).2.2 Part.self ?_
 intro v12
 refine RL.reL (L' := [imm (TR.sl (TR.sl TR.int)) v0 x0, imm (TR.pair TR.int TR.int) v3 x3, obox 26 (TR.pair TR.int TR.int) v6 x3, imm (TR.sl TR.int) v12 y10]) rfl ?_
 refine RL.lenS 3 Try.underlying32 rfl rfl rfl rfl SlOf.imm ?_
 refine RL.mv rfl rfl rfl ?_
 refine RL.finG ?_
 refine GL.open_ 3 rfl (fun S h => len_imm S h) (fun n34 => ?_)
 obtain ⟨y35, K36, h37, h38, h39, h40, h41⟩ := bindR_K hm
 refine GL.join (ι := Unit) (fun (p : Unit) => []) (fun (p : Unit) => []) (fun (p : Unit) => K36 (.nx ())) ?_ ?_
 ·refine GL.block ?_
  refine GL.loop (ι := Nat × (List Int)) (fun (p : Nat × (List Int)) => [(0, v0), (1, .int .i64 x1), (2, .int .i64 x2), (7, v6), (13, .int .i64 ((y10).length : Int)), (14, .int .i64 (p.1 : Int))]) (fun (p : Nat × (List Int)) => [imm (TR.sl (TR.sl TR.int)) v0 x0, obox 26 (TR.pair TR.int TR.int) v6 x3]) (fun (p : Nat × (List Int)) => p.1 + p.2.length = (y10).length ∧ List.drop p.1 y10 = p.2 ∧ rangeL (pk_gives_b1 x0 x1 x2 x3) p.2 p.1 () = some y35) (fun (p : Nat × (List Int)) => p.2.length) (0, y10) ⟨by simp, by simp, h37⟩ (fun a w st => St.cut [0, 2] ⟨rfl, rfl, rfl, rfl, rfl, rfl, trivial⟩ (by decide) rfl st) ?_
  rintro ⟨i42, r43⟩ ⟨h48, h49, h47⟩
  try dsimp only at h48 h49 h47
  refine GL.weak (env' := [(0, v0), (1, .int .i64 x1), (2, .int .i64 x2), (7, v6), (13, .int .i64 ((y10).length : Int)), (14, .int .i64 (i42 : Int))]) (L' := [imm (TR.sl (TR.sl TR.int)) v0 x0, obox 26 (TR.pair TR.int TR.int) v6 x3]) (fun _ _ st => st) ?_
  refine GL.seq ?_
  refine GL.region ?_
  refine RL.binI (v := .bool (decide ((i42 : Int) < ((y10).length : Int)))) rfl rfl rfl rfl rfl ?_
  refine RL.finG ?_
  refine GL.seq ?_
  refine GL.cond rfl (fun b50 => ?_) (fun b50 => ?_)
  ·have h51 : i42 < (y10).length := by have := of_decide_eq_true b50; omega
   obtain ⟨y52, r54, hr, e53, h55⟩ := drop_cons h49 rfl h51
   subst hr
   obtain ⟨z44, h45, h46⟩ := rangeL_some h47
   unfold pk_gives_b1 at h45
   try dsimp only at h45
   refine GL.skip ?_
   refine GL.seq ?_
   refine GL.block ?_
   refine GL.seq ?_
   refine GL.region ?_
   refine RL.mv rfl rfl rfl ?_
   refine RL.asg rfl rfl rfl ?_
   refine RL.finG ?_
   refine GL.seq ?_
   refine GL.regionQ rfl rfl (by kernel_rfl) ?_
   refine RL.mv rfl rfl rfl ?_
   obtain ⟨y66, e67, h45⟩ := bind_some h45
   refine RL.idxS (sz := 1) 0 Try.underlying22 Try_ln32 rfl rfl rfl rfl rfl SlOf.imm (idx_some e67).1 (idx_some e67).2.1 ?_
   refine RL.ldS (i := ((0 : Int)).toNat) (r := (TR.sl TR.int)) (e' := y66) 0 Try_ln32 rfl rfl rfl rfl SlOf.imm (idx_some e67).2.2 Part.self ?_
   intro v68
   refine RL.mv rfl rfl rfl ?_
   obtain ⟨y69, e70, h45⟩ := bind_some h45
   refine RL.idxS (sz := 1) 2 Try.underlying32 Try_ln3 rfl rfl rfl rfl rfl SlOf.imm (idx_some e70).1 (idx_some e70).2.1 ?_
   refine RL.ldSx (i := i42) (e' := y69) 2 Ex.ik Try_ln3 rfl rfl rfl rfl SlOf.imm (idx_some e70).2.2 Part.self ?_
   refine RL.mv rfl rfl rfl ?_
   refine RL.binI (v := .int .i64 (wmul y69 x1)) rfl rfl rfl rfl rfl ?_
   refine RL.mv rfl rfl rfl ?_
   obtain ⟨y71, e72, h45⟩ := bind_some h45
   refine RL.idxS (sz := 1) 0 Try.underlying22 Try_ln32 rfl rfl rfl rfl rfl SlOf.imm (idx_some e72).1 (idx_some e72).2.1 ?_
   refine RL.ldS (i := ((1 : Int)).toNat) (r := (TR.sl TR.int)) (e' := y71) 0 Try_ln32 rfl rfl rfl rfl SlOf.imm (idx_some e72).2.2 Part.self ?_
   intro v73
   refine RL.reL (L' := [imm (TR.sl (TR.sl TR.int)) v0 x0, obox 26 (TR.pair TR.int TR.int) v6 x3, imm (TR.sl TR.int) v68 y66, imm (TR.sl TR.int) v73 y71]) rfl ?_
   refine RL.mv rfl rfl rfl ?_
   obtain ⟨y74, e75, h45⟩ := bind_some h45
   refine RL.idxS (sz := 1) 3 Try.underlying32 Try_ln3 rfl rfl rfl rfl rfl SlOf.imm (idx_some e75).1 (idx_some e75).2.1 ?_
   refine RL.ldSx (i := i42) (e' := y74) 3 Ex.ik Try_ln3 rfl rfl rfl rfl SlOf.imm (idx_some e75).2.2 Part.self ?_
   refine RL.mv rfl rfl rfl ?_
   refine RL.mv rfl rfl rfl ?_
   refine RL.binI (v := .int .i64 (wsub x2 x1)) rfl rfl rfl rfl rfl ?_
   refine RL.binI (v := .int .i64 (wmul y74 (wsub x2 x1))) rfl rfl rfl rfl rfl ?_
   refine RL.binI (v := .int .i64 (wadd (wmul y69 x1) (wmul y74 (wsub x2 x1)))) rfl rfl rfl rfl rfl ?_
   refine RL.fadr (off := 0) (fo := 1) 1 Try_fld26_1 rfl rfl rfl PtOf.obox (Or.inr ⟨rfl, rfl⟩) ?_
   refine RL.ldPx (off := (0 + 1)) (e' := x3.2) 1 Ex.ik Try_ln3 rfl rfl (Or.inl rfl) rfl PtOf.obox (Part.snd Part.self) ?_
   refine RL.binI (v := .int .i64 (wmul (wadd (wmul y69 x1) (wmul y74 (wsub x2 x1))) x3.2)) rfl rfl rfl rfl rfl ?_
   refine RL.fadr (off := 0) (fo := 0) 1 Try_fld26_0 rfl rfl rfl PtOf.obox (Or.inr ⟨rfl, rfl⟩) ?_
   refine RL.ldPx (off := (0 + 0)) (e' := x3.1) 1 Ex.ik Try_ln3 rfl rfl (Or.inl rfl) rfl PtOf.obox (Part.fst Part.self) ?_
   refine RL.mv rfl rfl rfl ?_
   refine RL.binI (v := .int .i64 (wmul x3.1 x2)) rfl rfl rfl rfl rfl ?_
   refine RL.binI (v := .bool (decide ((wmul (wadd (wmul y69 x1) (wmul y74 (wsub x2 x1))) x3.2) < (wmul x3.1 x2)))) rfl rfl rfl rfl rfl ?_
   refine RL.finQG ?_
   refine GL.weak (env' := [(0, v0), (1, .int .i64 x1), (2, .int .i64 x2), (7, v6), (13, .int .i64 ((y10).length : Int)), (14, .int .i64 (i42 : Int)), (43, .bool (decide ((wmul (wadd (wmul y69 x1) (wmul y74 (wsub x2 x1))) x3.2) < (wmul x3.1 x2))))]) (L' := [imm (TR.sl (TR.sl TR.int)) v0 x0, obox 26 (TR.pair TR.int TR.int) v6 x3]) (fun a w st => St.cut [0, 1] ⟨rfl, rfl, rfl, rfl, rfl, rfl, rfl, trivial⟩ (by decide) rfl st) ?_
   refine GL.cond rfl (fun b76 => ?_) (fun b76 => ?_)
   ·replace h45 := ite_t b76 h45
    refine GL.seq ?_
    refine GL.region ?_
    refine RL.asg rfl rfl rfl ?_
    refine RL.finG ?_
    cases h45
    replace h46 : some (Fl.rt _) = some y35 := h46
    cases h46
    have hh := h40 _ h38
    subst hh
    exact GL.ret (Gx.ret (v := .bool false) (res1 rfl rfl) (fun a w st => st.toPostV))
   replace h45 := ite_f b76 h45
   refine GL.skip ?_
   refine GL.nilB ?_
   refine GL.region ?_
   refine RL.binI (v := .int .i64 ((i42 + 1 : Nat) : Int)) rfl rfl rfl rfl (binI_succ i42 (by omega)) ?_
   refine RL.mv rfl rfl rfl ?_
   refine RL.fin ?_
   cases h45
   exact fun a w st => lop_intro (i42 + 1, r54) ⟨by show i42 + 1 + r54.length = (y10).length; simp only [List.length_cons] at h48; omega, h55, h46⟩ (by simp) (St.cut [0, 1] ⟨rfl, rfl, rfl, rfl, rfl, rfl, trivial⟩ (by decide) rfl st)
  have h51 : ¬ i42 < (y10).length := by have := of_decide_eq_false b50; omega
  obtain rfl : r43 = [] := by rw [← h49]; exact List.drop_of_length_le (by omega)
  replace h47 : some (Fl.nx _) = some y35 := h47
  cases h47
  exact GL.exit (fun a w st => mid_intro () h38 (St.cut [] trivial (by decide) rfl st))
 rintro ⟨⟩ h77
 have h78 := h39 _ h77
 try dsimp only at h78
 refine GL.weak (env' := []) (L' := []) (fun _ _ st => st) ?_
 refine GL.seq ?_
 refine GL.region ?_
 refine RL.asg rfl rfl rfl ?_
 refine RL.finG ?_
 have h78 := Option.some.inj h78
 subst h78
 exact GL.ret (Gx.ret (v := .bool true) (res1 rfl rfl) (fun a w st => st.toPostV))

set_option maxHeartbeats 4000000 in
theorem ref_Rest_c (S : Hp) (w : World) (hS : S.sub w) (x0 : Int) (x1 : Int) (res : Int) (hm : ref_Rest_m x0 x1 = some res) : Calls Try.prog 39 #[.int .i64 x0, .int .i64 x1] w (PostC w (.int .i64 res)) := by
 refine calls_enter 14 Try.func39 Try.ntmps39 rfl S true [(0, .int .i64 x0), (1, .int .i64 x1)] [] rfl ⟨rfl, ⟨rfl, trivial⟩⟩ hS trivial ?_
 unfold ref_Rest_m at hm
 refine GL.seq ?_
 refine GL.region ?_
 refine RL.asg rfl rfl rfl ?_
 refine RL.finG ?_
 refine GL.seq ?_
 refine GL.region ?_
 refine RL.mv rfl rfl rfl ?_
 refine RL.mv rfl rfl rfl ?_
 obtain ⟨y5, e6, hm⟩ := bind_some hm
 replace e6 := chk_some e6
 refine RL.rem rfl rfl rfl rfl e6 ?_
 refine RL.asg rfl rfl rfl ?_
 refine RL.finG ?_
 refine GL.seq ?_
 refine GL.seq ?_
 refine GL.region ?_
 refine RL.mv rfl rfl rfl ?_
 refine RL.binI (v := .bool (decide ((Int.tmod x0 x1) < (0 : Int)))) rfl rfl rfl rfl rfl ?_
 refine RL.finG ?_
 obtain ⟨y9, K10, h11, h12, h13, h14, h15⟩ := bindR_K hm
 refine GL.join (ι := Int) (fun (p : Int) => [(0, .int .i64 p)]) (fun (p : Int) => []) (fun (p : Int) => K10 (.nx p)) ?_ ?_
 ·skip
  refine GL.cond rfl (fun b16 => ?_) (fun b16 => ?_)
  ·replace h11 := ite_t b16 h11
   refine GL.region ?_
   refine RL.mv rfl rfl rfl ?_
   refine RL.mv rfl rfl rfl ?_
   refine RL.binI (v := .int .i64 (wadd (Int.tmod x0 x1) x1)) rfl rfl rfl rfl rfl ?_
   refine RL.asg rfl rfl rfl ?_
   refine RL.finG ?_
   cases h11
   exact fun a w st => mid_intro (wadd (Int.tmod x0 x1) x1) h12 (St.cut [] ⟨rfl, trivial⟩ (by decide) rfl st)
  replace h11 := ite_f b16 h11
  refine GL.skip ?_
  cases h11
  exact fun a w st => mid_intro (Int.tmod x0 x1) h12 (St.cut [] ⟨rfl, trivial⟩ (by decide) rfl st)
 rintro x8 h17
 have h18 := h13 _ h17
 try dsimp only at h18
 refine GL.weak (env' := [(0, .int .i64 x8)]) (L' := []) (fun _ _ st => st) ?_
 refine GL.seq ?_
 refine GL.region ?_
 refine RL.mv rfl rfl rfl ?_
 refine RL.asg rfl rfl rfl ?_
 refine RL.finG ?_
 have h18 := Option.some.inj h18
 subst h18
 exact GL.ret (Gx.ret (v := .int .i64 x8) (res1 rfl rfl) (fun a w st => st.toPostC rfl))

set_option maxHeartbeats 4000000 in
theorem pk_Within_c (S : Hp) (w : World) (hS : S.sub w) (x0 : Int) (x1 : Int) (res : Int) (hm : pk_Within_m x0 x1 = some res) : Calls Try.prog 18 #[.int .i64 x0, .int .i64 x1] w (PostC w (.int .i64 res)) := by
 refine calls_enter 8 Try.func18 Try.ntmps18 rfl S true [(0, .int .i64 x0), (1, .int .i64 x1)] [] rfl ⟨rfl, ⟨rfl, trivial⟩⟩ hS trivial ?_
 unfold pk_Within_m at hm
 refine GL.seq ?_
 refine GL.region ?_
 refine RL.asg rfl rfl rfl ?_
 refine RL.finG ?_
 refine GL.seq ?_
 refine GL.region ?_
 refine RL.mv rfl rfl rfl ?_
 refine RL.mv rfl rfl rfl ?_
 obtain ⟨y5, e6, hm⟩ := bind_some hm
 refine RL.callC (v := .int .i64 y5) (vs := [.int .i64 x0, .int .i64 x1]) Try_fit39 rfl rfl rfl rfl (fun U w hU hW hL => ref_Rest_c U w hU x0 x1 _ e6) ?_
 refine RL.asg rfl rfl rfl ?_
 refine RL.finG ?_
 have hm := Option.some.inj hm
 subst hm
 exact GL.ret (Gx.ret (v := .int .i64 y5) (res1 rfl rfl) (fun a w st => st.toPostC rfl))

set_option maxHeartbeats 4000000 in
theorem pk_MixedBest_c (S : Hp) (w : World) (hS : S.sub w) (v0 : Value) (x0 : (List (List Int))) (k0 : ((TR.sl (TR.sl TR.int))).vrep S v0 x0) (x1 : Int) (x2 : Int) (res : Bool) (hm : pk_MixedBest_m x0 x1 x2 = some res) : Calls Try.prog 3 #[v0, .int .i64 x1, .int .i64 x2] w (PostV w (.bool res)) := by
 refine calls_enter 103 Try.func3 Try.ntmps3 rfl S false [(0, v0), (1, .int .i64 x1), (2, .int .i64 x2)] [imm (TR.sl (TR.sl TR.int)) v0 x0] rfl ⟨rfl, ⟨rfl, ⟨rfl, trivial⟩⟩⟩ hS ⟨k0, trivial⟩ ?_
 unfold pk_MixedBest_m at hm
 refine GL.seq ?_
 refine GL.region ?_
 refine RL.asg rfl rfl rfl ?_
 refine RL.finG ?_
 refine GL.seq ?_
 refine GL.seq ?_
 refine GL.region ?_
 obtain ⟨y6, e7, hm⟩ := bind_some hm
 refine RL.callV (v := .bool y6) (vs := []) Try_fit14 rfl (Or.inl rfl) rfl rfl rfl rfl (fun U w hU hW hL => pk_mixes_c U w hU  _ e7) ?_
 refine RL.notB rfl rfl rfl ?_
 refine RL.finG ?_
 refine GL.cond rfl (fun b8 => ?_) (fun b8 => ?_)
 ·replace hm := ite_t b8 hm
  refine GL.seq ?_
  refine GL.region ?_
  refine RL.asg rfl rfl rfl ?_
  refine RL.finG ?_
  have hm := Option.some.inj hm
  subst hm
  exact GL.ret (Gx.ret (v := .bool false) (res1 rfl rfl) (fun a w st => st.toPostV))
 replace hm := ite_f b8 hm
 refine GL.skip ?_
 refine GL.seq ?_
 refine GL.region ?_
 refine RL.mv rfl rfl rfl ?_
 obtain ⟨y12, e13, hm⟩ := bind_some hm
 refine RL.call (vs := [v0]) Try_fit15 rfl rfl rfl rfl rfl (fun S f w hS hW hi => pk_two_c S w hS _ _ (hi 0 _ rfl) _ e13) ?_
 intro v14
 refine RL.asg rfl rfl rfl ?_
 refine RL.finG ?_
 refine GL.seq ?_
 refine GL.region ?_
 refine RL.mv rfl rfl rfl ?_
 obtain ⟨y21, e22, hm⟩ := bind_some hm
 refine RL.call (vs := [v14]) Try_fit16 rfl rfl rfl rfl rfl (fun S f w hS hW hi => mixed_Solve_c S w hS _ _ (hi 1 _ rfl) _ e22) ?_
 intro ⟨v23, v24⟩
 refine RL.reL (L' := [imm (TR.sl (TR.sl TR.int)) v0 x0, imm (TR.sl (TR.sl TR.int)) v14 y12, imm (TR.pair TR.int TR.int) v23 y21.1, imm (TR.pair TR.int TR.int) v24 y21.2.1]) rfl ?_
 refine RL.mv rfl rfl rfl ?_
 refine RL.ext rfl rfl rfl rfl ?_
 refine RL.ext rfl rfl rfl rfl ?_
 refine RL.ext rfl rfl rfl rfl ?_
 refine RL.alloc (t := (TR.pair TR.int TR.int)) (z := ((0 : Int), (0 : Int))) Try_lo26 (fun S => ⟨[.int .i64 0], _, rfl, rfl, rfl⟩) rfl rfl rfl ?_
 intro v25
 refine RL.alloc (t := (TR.pair TR.int TR.int)) (z := ((0 : Int), (0 : Int))) Try_lo26 (fun S => ⟨[.int .i64 0], _, rfl, rfl, rfl⟩) rfl rfl rfl ?_
 intro v26
 refine RL.reL (L' := [imm (TR.sl (TR.sl TR.int)) v0 x0, imm (TR.sl (TR.sl TR.int)) v14 y12, imm (TR.pair TR.int TR.int) v23 y21.1, imm (TR.pair TR.int TR.int) v24 y21.2.1, obox 26 (TR.pair TR.int TR.int) v25 ((0 : Int), (0 : Int)), obox 26 (TR.pair TR.int TR.int) v26 ((0 : Int), (0 : Int))]) rfl ?_
 refine RL.stP (off := 0) (e' := y21.1) (d1 := y21.1) (r := (TR.pair TR.int TR.int)) 4 Try_ln26 rfl rfl (Or.inr ⟨rfl, rfl⟩) rfl (VR.item 2 rfl) rfl Upd.self ?_
 refine RL.stP (off := 0) (e' := y21.2.1) (d1 := y21.2.1) (r := (TR.pair TR.int TR.int)) 5 Try_ln26 rfl rfl (Or.inr ⟨rfl, rfl⟩) rfl (VR.item 3 rfl) rfl Upd.self ?_
 refine RL.reL (L' := [imm (TR.sl (TR.sl TR.int)) v0 x0, imm (TR.sl (TR.sl TR.int)) v14 y12, imm (TR.pair TR.int TR.int) v23 y21.1, imm (TR.pair TR.int TR.int) v24 y21.2.1, obox 26 (TR.pair TR.int TR.int) v25 y21.1, obox 26 (TR.pair TR.int TR.int) v26 y21.2.1]) rfl ?_
 refine RL.asg rfl rfl rfl ?_
 refine RL.finG ?_
 refine GL.seq ?_
 refine GL.seq ?_
 refine GL.region ?_
 refine RL.mv rfl rfl rfl ?_
 refine RL.binI (v := .bool (y21.2.2 != (0 : Int))) rfl rfl rfl rfl rfl ?_
 refine RL.finG ?_
 refine GL.cond rfl (fun b27 => ?_) (fun b27 => ?_)
 ·replace hm := ite_t b27 hm
  refine GL.seq ?_
  obtain ⟨y39, K40, h41, h42, h43, h44, h45⟩ := bindR_K hm
  refine GL.join (ι := Bool) (fun (p : Bool) => [(6, .bool p)]) (fun (p : Bool) => []) (fun (p : Bool) => K40 (.nx p)) ?_ ?_
  ·skip
   refine GL.region ?_
   refine RL.ldP (off := 0) (r := (TR.pair TR.int TR.int)) (e' := y21.1) 4 Try_ln26 rfl rfl (Or.inr ⟨rfl, rfl⟩) rfl PtOf.obox Part.self ?_
   intro v46
   refine RL.bld (t := (TR.pair TR.int TR.int)) (d0 := (((0 : Int), (0 : Int)) : (Int × Int))) (pv := []) rfl Try_bld26 rfl rfl rfl trivial (fun S f hi => by
     show TR.rep (TR.pair TR.int TR.int) S (List.flatten [[.int .i64 0], [.int .i64 0]]) _
     simp only [ List.flatten_cons, List.flatten_nil, List.append_nil]
     exact ⟨_, _, rfl, rfl, rfl⟩) ?_
   intro v47
   refine RL.reL (L' := [imm (TR.sl (TR.sl TR.int)) v0 x0, imm (TR.sl (TR.sl TR.int)) v14 y12, imm (TR.pair TR.int TR.int) v23 y21.1, imm (TR.pair TR.int TR.int) v24 y21.2.1, obox 26 (TR.pair TR.int TR.int) v25 y21.1, obox 26 (TR.pair TR.int TR.int) v26 y21.2.1, imm (TR.pair TR.int TR.int) v46 y21.1, imm (TR.pair TR.int TR.int) v47 (((0 : Int), (0 : Int)) : (Int × Int))]) rfl ?_
   refine RL.eqG (t := (TR.pair TR.int TR.int)) (e := y21.1) (e' := (((0 : Int), (0 : Int)) : (Int × Int))) rfl Try_eq26 (by decide) Try.eqGuardType26 rfl rfl rfl rfl (VR.item 6 rfl) (VR.item 7 rfl) ?_
   refine RL.mv rfl rfl rfl ?_
   refine RL.split (t := 26) rfl (fun b48 => ?_) (fun b48 => ?_)
   ·replace h41 := ite_t b48 h41
    refine RL.ldP (off := 0) (r := (TR.pair TR.int TR.int)) (e' := y21.2.1) 5 Try_ln26 rfl rfl (Or.inr ⟨rfl, rfl⟩) rfl PtOf.obox Part.self ?_
    intro v49
    refine RL.bld (t := (TR.pair TR.int TR.int)) (d0 := (((0 : Int), (0 : Int)) : (Int × Int))) (pv := []) rfl Try_bld26 rfl rfl rfl trivial (fun S f hi => by
      show TR.rep (TR.pair TR.int TR.int) S (List.flatten [[.int .i64 0], [.int .i64 0]]) _
      simp only [ List.flatten_cons, List.flatten_nil, List.append_nil]
      exact ⟨_, _, rfl, rfl, rfl⟩) ?_
    intro v50
    refine RL.reL (L' := [imm (TR.sl (TR.sl TR.int)) v0 x0, imm (TR.sl (TR.sl TR.int)) v14 y12, imm (TR.pair TR.int TR.int) v23 y21.1, imm (TR.pair TR.int TR.int) v24 y21.2.1, obox 26 (TR.pair TR.int TR.int) v25 y21.1, obox 26 (TR.pair TR.int TR.int) v26 y21.2.1, imm (TR.pair TR.int TR.int) v46 y21.1, imm (TR.pair TR.int TR.int) v47 (((0 : Int), (0 : Int)) : (Int × Int)), imm (TR.pair TR.int TR.int) v49 y21.2.1, imm (TR.pair TR.int TR.int) v50 (((0 : Int), (0 : Int)) : (Int × Int))]) rfl ?_
    refine RL.eqG (t := (TR.pair TR.int TR.int)) (e := y21.2.1) (e' := (((0 : Int), (0 : Int)) : (Int × Int))) rfl Try_eq26 (by decide) Try.eqGuardType26 rfl rfl rfl rfl (VR.item 8 rfl) (VR.item 9 rfl) ?_
    refine RL.pickT rfl rfl rfl rfl ?_
    refine RL.asg rfl rfl rfl ?_
    refine RL.fin ?_
    cases h41
    exact fun a w st => mid_intro (decide (y21.2.1 = (((0 : Int), (0 : Int)) : (Int × Int)))) h42 (St.cut [] ⟨rfl, trivial⟩ (by decide) rfl st)
   replace h41 := ite_f b48 h41
   refine RL.skip rfl rfl ?_
   refine RL.skip rfl rfl ?_
   refine RL.skip rfl rfl ?_
   refine RL.pickF rfl rfl rfl rfl ?_
   refine RL.asg rfl rfl rfl ?_
   refine RL.fin ?_
   cases h41
   exact fun a w st => mid_intro false h42 (St.cut [] ⟨rfl, trivial⟩ (by decide) rfl st)
  rintro x38 h51
  have h52 := h43 _ h51
  try dsimp only at h52
  refine GL.weak (env' := [(6, .bool x38)]) (L' := []) (fun _ _ st => st) ?_
  have h52 := Option.some.inj h52
  subst h52
  exact GL.ret (Gx.ret (v := .bool x38) (res1 rfl rfl) (fun a w st => st.toPostV))
 replace hm := ite_f b27 hm
 refine GL.skip ?_
 refine GL.seq ?_
 refine GL.seq ?_
 obtain ⟨y68, K69, h70, h71, h72, h73, h74⟩ := bindR_K hm
 refine GL.join (ι := Bool) (fun (p : Bool) => [(0, v14), (1, .int .i64 x1), (2, .int .i64 x2), (8, v26), (60, .bool p)]) (fun (p : Bool) => [imm (TR.sl (TR.sl TR.int)) v14 y12, obox 26 (TR.pair TR.int TR.int) v26 y21.2.1]) (fun (p : Bool) => K69 (.nx p)) ?_ ?_
 ·skip
  refine GL.region ?_
  refine RL.fadr (off := 0) (fo := 1) 4 Try_fld26_1 rfl rfl rfl PtOf.obox (Or.inr ⟨rfl, rfl⟩) ?_
  refine RL.ldPx (off := (0 + 1)) (e' := y21.1.2) 4 Ex.ik Try_ln3 rfl rfl (Or.inl rfl) rfl PtOf.obox (Part.snd Part.self) ?_
  refine RL.binI (v := .bool (decide (y21.1.2 < (1 : Int)))) rfl rfl rfl rfl rfl ?_
  refine RL.mv rfl rfl rfl ?_
  refine RL.split (t := 34) rfl (fun b75 => ?_) (fun b75 => ?_)
  ·replace h70 := ite_t b75 h70
   refine RL.skip rfl rfl ?_
   refine RL.skip rfl rfl ?_
   refine RL.skip rfl rfl ?_
   refine RL.pickT rfl rfl rfl rfl ?_
   refine RL.mv rfl rfl rfl ?_
   refine RL.skip rfl rfl ?_
   refine RL.skip rfl rfl ?_
   refine RL.skip rfl rfl ?_
   refine RL.pickT rfl rfl rfl rfl ?_
   refine RL.mv rfl rfl rfl ?_
   refine RL.skip rfl rfl ?_
   refine RL.skip rfl rfl ?_
   refine RL.skip rfl rfl ?_
   refine RL.skip rfl rfl ?_
   refine RL.skip rfl rfl ?_
   refine RL.pickT rfl rfl rfl rfl ?_
   refine RL.mv rfl rfl rfl ?_
   refine RL.skip rfl rfl ?_
   refine RL.skip rfl rfl ?_
   refine RL.skip rfl rfl ?_
   refine RL.skip rfl rfl ?_
   refine RL.skip rfl rfl ?_
   refine RL.skip rfl rfl ?_
   refine RL.skip rfl rfl ?_
   refine RL.skip rfl rfl ?_
   refine RL.pickT rfl rfl rfl rfl ?_
   refine RL.fin ?_
   cases h70
   exact fun a w st => mid_intro true h71 (St.cut [1, 5] ⟨rfl, rfl, rfl, rfl, rfl, trivial⟩ (by decide) rfl st)
  replace h70 := ite_f b75 h70
  refine RL.fadr (off := 0) (fo := 1) 5 Try_fld26_1 rfl rfl rfl PtOf.obox (Or.inr ⟨rfl, rfl⟩) ?_
  refine RL.ldPx (off := (0 + 1)) (e' := y21.2.1.2) 5 Ex.ik Try_ln3 rfl rfl (Or.inl rfl) rfl PtOf.obox (Part.snd Part.self) ?_
  refine RL.binI (v := .bool (decide (y21.2.1.2 < (1 : Int)))) rfl rfl rfl rfl rfl ?_
  refine RL.pickF rfl rfl rfl rfl ?_
  refine RL.mv rfl rfl rfl ?_
  refine RL.split (t := 39) rfl (fun b76 => ?_) (fun b76 => ?_)
  ·replace h70 := ite_t b76 h70
   refine RL.skip rfl rfl ?_
   refine RL.skip rfl rfl ?_
   refine RL.skip rfl rfl ?_
   refine RL.pickT rfl rfl rfl rfl ?_
   refine RL.mv rfl rfl rfl ?_
   refine RL.skip rfl rfl ?_
   refine RL.skip rfl rfl ?_
   refine RL.skip rfl rfl ?_
   refine RL.skip rfl rfl ?_
   refine RL.skip rfl rfl ?_
   refine RL.pickT rfl rfl rfl rfl ?_
   refine RL.mv rfl rfl rfl ?_
   refine RL.skip rfl rfl ?_
   refine RL.skip rfl rfl ?_
   refine RL.skip rfl rfl ?_
   refine RL.skip rfl rfl ?_
   refine RL.skip rfl rfl ?_
   refine RL.skip rfl rfl ?_
   refine RL.skip rfl rfl ?_
   refine RL.skip rfl rfl ?_
   refine RL.pickT rfl rfl rfl rfl ?_
   refine RL.fin ?_
   cases h70
   exact fun a w st => mid_intro true h71 (St.cut [1, 5] ⟨rfl, rfl, rfl, rfl, rfl, trivial⟩ (by decide) rfl st)
  replace h70 := ite_f b76 h70
  refine RL.fadr (off := 0) (fo := 0) 4 Try_fld26_0 rfl rfl rfl PtOf.obox (Or.inr ⟨rfl, rfl⟩) ?_
  refine RL.ldPx (off := (0 + 0)) (e' := y21.1.1) 4 Ex.ik Try_ln3 rfl rfl (Or.inl rfl) rfl PtOf.obox (Part.fst Part.self) ?_
  refine RL.binI (v := .bool (decide (y21.1.1 < (0 : Int)))) rfl rfl rfl rfl rfl ?_
  refine RL.pickF rfl rfl rfl rfl ?_
  refine RL.mv rfl rfl rfl ?_
  refine RL.split (t := 44) rfl (fun b77 => ?_) (fun b77 => ?_)
  ·replace h70 := ite_t b77 h70
   refine RL.skip rfl rfl ?_
   refine RL.skip rfl rfl ?_
   refine RL.skip rfl rfl ?_
   refine RL.skip rfl rfl ?_
   refine RL.skip rfl rfl ?_
   refine RL.pickT rfl rfl rfl rfl ?_
   refine RL.mv rfl rfl rfl ?_
   refine RL.skip rfl rfl ?_
   refine RL.skip rfl rfl ?_
   refine RL.skip rfl rfl ?_
   refine RL.skip rfl rfl ?_
   refine RL.skip rfl rfl ?_
   refine RL.skip rfl rfl ?_
   refine RL.skip rfl rfl ?_
   refine RL.skip rfl rfl ?_
   refine RL.pickT rfl rfl rfl rfl ?_
   refine RL.fin ?_
   cases h70
   exact fun a w st => mid_intro true h71 (St.cut [1, 5] ⟨rfl, rfl, rfl, rfl, rfl, trivial⟩ (by decide) rfl st)
  replace h70 := ite_f b77 h70
  refine RL.fadr (off := 0) (fo := 0) 4 Try_fld26_0 rfl rfl rfl PtOf.obox (Or.inr ⟨rfl, rfl⟩) ?_
  refine RL.ldPx (off := (0 + 0)) (e' := y21.1.1) 4 Ex.ik Try_ln3 rfl rfl (Or.inl rfl) rfl PtOf.obox (Part.fst Part.self) ?_
  refine RL.fadr (off := 0) (fo := 1) 4 Try_fld26_1 rfl rfl rfl PtOf.obox (Or.inr ⟨rfl, rfl⟩) ?_
  refine RL.ldPx (off := (0 + 1)) (e' := y21.1.2) 4 Ex.ik Try_ln3 rfl rfl (Or.inl rfl) rfl PtOf.obox (Part.snd Part.self) ?_
  refine RL.binI (v := .bool (decide (y21.1.1 > y21.1.2))) rfl rfl rfl rfl rfl ?_
  refine RL.pickF rfl rfl rfl rfl ?_
  refine RL.mv rfl rfl rfl ?_
  refine RL.split (t := 51) rfl (fun b78 => ?_) (fun b78 => ?_)
  ·replace h70 := ite_t b78 h70
   refine RL.skip rfl rfl ?_
   refine RL.skip rfl rfl ?_
   refine RL.skip rfl rfl ?_
   refine RL.skip rfl rfl ?_
   refine RL.skip rfl rfl ?_
   refine RL.skip rfl rfl ?_
   refine RL.skip rfl rfl ?_
   refine RL.skip rfl rfl ?_
   refine RL.pickT rfl rfl rfl rfl ?_
   refine RL.fin ?_
   cases h70
   exact fun a w st => mid_intro true h71 (St.cut [1, 5] ⟨rfl, rfl, rfl, rfl, rfl, trivial⟩ (by decide) rfl st)
  replace h70 := ite_f b78 h70
  refine RL.mv rfl rfl rfl ?_
  refine RL.fadr (off := 0) (fo := 0) 4 Try_fld26_0 rfl rfl rfl PtOf.obox (Or.inr ⟨rfl, rfl⟩) ?_
  refine RL.ldPx (off := (0 + 0)) (e' := y21.1.1) 4 Ex.ik Try_ln3 rfl rfl (Or.inl rfl) rfl PtOf.obox (Part.fst Part.self) ?_
  refine RL.fadr (off := 0) (fo := 1) 4 Try_fld26_1 rfl rfl rfl PtOf.obox (Or.inr ⟨rfl, rfl⟩) ?_
  refine RL.ldPx (off := (0 + 1)) (e' := y21.1.2) 4 Ex.ik Try_ln3 rfl rfl (Or.inl rfl) rfl PtOf.obox (Part.snd Part.self) ?_
  refine RL.ldP (off := 0) (r := (TR.pair TR.int TR.int)) (e' := y21.2.1) 5 Try_ln26 rfl rfl (Or.inr ⟨rfl, rfl⟩) rfl PtOf.obox Part.self ?_
  intro v79
  obtain ⟨y80, e81, h70⟩ := bind_some h70
  refine RL.callV (v := .bool y80) (vs := [v14, .int .i64 y21.1.1, .int .i64 y21.1.2, v79]) Try_fit17 rfl (Or.inl rfl) rfl rfl rfl rfl (fun U w hU hW hL => pk_gives_c U w hU _ _ (hL 1 _ _ rfl Seen.imm) y21.1.1 y21.1.2 _ _ (hL 6 _ _ rfl Seen.imm) _ e81) ?_
  refine RL.notB rfl rfl rfl ?_
  refine RL.pickF rfl rfl rfl rfl ?_
  refine RL.fin ?_
  cases h70
  exact fun a w st => mid_intro (!y80) h71 (St.cut [1, 5] ⟨rfl, rfl, rfl, rfl, rfl, trivial⟩ (by decide) rfl st)
 rintro x67 h82
 have h83 := h72 _ h82
 try dsimp only at h83
 refine GL.weak (env' := [(0, v14), (1, .int .i64 x1), (2, .int .i64 x2), (8, v26), (60, .bool x67)]) (L' := [imm (TR.sl (TR.sl TR.int)) v14 y12, obox 26 (TR.pair TR.int TR.int) v26 y21.2.1]) (fun _ _ st => st) ?_
 refine GL.cond rfl (fun b84 => ?_) (fun b84 => ?_)
 ·replace h83 := ite_t b84 h83
  refine GL.seq ?_
  refine GL.region ?_
  refine RL.asg rfl rfl rfl ?_
  refine RL.finG ?_
  have h83 := Option.some.inj h83
  subst h83
  exact GL.ret (Gx.ret (v := .bool false) (res1 rfl rfl) (fun a w st => st.toPostV))
 replace h83 := ite_f b84 h83
 refine GL.skip ?_
 refine GL.seq ?_
 refine GL.region ?_
 refine RL.mv rfl rfl rfl ?_
 obtain ⟨y87, e88, h83⟩ := bind_some h83
 refine RL.callC (v := .int .i64 y87) (vs := [.int .i64 x2, .int .i64 (5000 : Int)]) Try_fit18 rfl rfl rfl rfl (fun U w hU hW hL => pk_Within_c U w hU x2 (5000 : Int) _ e88) ?_
 refine RL.binI (v := .int .i64 (wadd (1 : Int) y87)) rfl rfl rfl rfl rfl ?_
 refine RL.asg rfl rfl rfl ?_
 refine RL.finG ?_
 refine GL.seq ?_
 refine GL.region ?_
 refine RL.mv rfl rfl rfl ?_
 refine RL.mv rfl rfl rfl ?_
 refine RL.binI (v := .int .i64 (wadd (wadd (1 : Int) y87) (1 : Int))) rfl rfl rfl rfl rfl ?_
 obtain ⟨y91, e92, h83⟩ := bind_some h83
 refine RL.callC (v := .int .i64 y91) (vs := [.int .i64 x1, .int .i64 (wadd (wadd (1 : Int) y87) (1 : Int))]) Try_fit18 rfl rfl rfl rfl (fun U w hU hW hL => pk_Within_c U w hU x1 (wadd (wadd (1 : Int) y87) (1 : Int)) _ e92) ?_
 refine RL.asg rfl rfl rfl ?_
 refine RL.finG ?_
 refine GL.seq ?_
 refine GL.seq ?_
 refine GL.region ?_
 refine RL.mv rfl rfl rfl ?_
 obtain ⟨y96, e97, h83⟩ := bind_some h83
 refine RL.idxS (sz := 1) 0 Try.underlying22 Try_ln32 rfl rfl rfl rfl rfl SlOf.imm (idx_some e97).1 (idx_some e97).2.1 ?_
 refine RL.ldS (i := ((0 : Int)).toNat) (r := (TR.sl TR.int)) (e' := y96) 0 Try_ln32 rfl rfl rfl rfl SlOf.imm (idx_some e97).2.2 Part.self ?_
 intro v98
 refine RL.lenS 2 Try.underlying32 rfl rfl rfl rfl SlOf.imm ?_
 refine RL.mv rfl rfl rfl ?_
 refine RL.finG ?_
 refine GL.open_ 2 rfl (fun S h => len_imm S h) (fun n120 => ?_)
 obtain ⟨y121, K122, h123, h124, h125, h126, h127⟩ := bindR_K h83
 refine GL.join (ι := Unit) (fun (p : Unit) => []) (fun (p : Unit) => []) (fun (p : Unit) => K122 (.nx ())) ?_ ?_
 ·refine GL.block ?_
  refine GL.loop (ι := Nat × (List Int)) (fun (p : Nat × (List Int)) => [(0, v14), (1, .int .i64 y91), (2, .int .i64 (wadd (1 : Int) y87)), (8, v26), (71, .int .i64 ((y96).length : Int)), (72, .int .i64 (p.1 : Int))]) (fun (p : Nat × (List Int)) => [imm (TR.sl (TR.sl TR.int)) v14 y12, obox 26 (TR.pair TR.int TR.int) v26 y21.2.1]) (fun (p : Nat × (List Int)) => p.1 + p.2.length = (y96).length ∧ List.drop p.1 y96 = p.2 ∧ rangeL (pk_MixedBest_b1 y12 y91 y87 y21) p.2 p.1 () = some y121) (fun (p : Nat × (List Int)) => p.2.length) (0, y96) ⟨by simp, by simp, h123⟩ (fun a w st => St.cut [0, 1] ⟨rfl, rfl, rfl, rfl, rfl, rfl, trivial⟩ (by decide) rfl st) ?_
  rintro ⟨i128, r129⟩ ⟨h134, h135, h133⟩
  try dsimp only at h134 h135 h133
  refine GL.weak (env' := [(0, v14), (1, .int .i64 y91), (2, .int .i64 (wadd (1 : Int) y87)), (8, v26), (71, .int .i64 ((y96).length : Int)), (72, .int .i64 (i128 : Int))]) (L' := [imm (TR.sl (TR.sl TR.int)) v14 y12, obox 26 (TR.pair TR.int TR.int) v26 y21.2.1]) (fun _ _ st => st) ?_
  refine GL.seq ?_
  refine GL.region ?_
  refine RL.binI (v := .bool (decide ((i128 : Int) < ((y96).length : Int)))) rfl rfl rfl rfl rfl ?_
  refine RL.finG ?_
  refine GL.seq ?_
  refine GL.cond rfl (fun b136 => ?_) (fun b136 => ?_)
  ·have h137 : i128 < (y96).length := by have := of_decide_eq_true b136; omega
   obtain ⟨y138, r140, hr, e139, h141⟩ := drop_cons h135 rfl h137
   subst hr
   obtain ⟨z130, h131, h132⟩ := rangeL_some h133
   unfold pk_MixedBest_b1 at h131
   try dsimp only at h131
   refine GL.skip ?_
   refine GL.seq ?_
   refine GL.block ?_
   refine GL.seq ?_
   refine GL.region ?_
   refine RL.mv rfl rfl rfl ?_
   refine RL.asg rfl rfl rfl ?_
   refine RL.finG ?_
   refine GL.seq ?_
   refine GL.regionQ rfl rfl (by kernel_rfl) ?_
   refine RL.mv rfl rfl rfl ?_
   obtain ⟨y152, e153, h131⟩ := bind_some h131
   refine RL.idxS (sz := 1) 0 Try.underlying22 Try_ln32 rfl rfl rfl rfl rfl SlOf.imm (idx_some e153).1 (idx_some e153).2.1 ?_
   refine RL.ldS (i := ((0 : Int)).toNat) (r := (TR.sl TR.int)) (e' := y152) 0 Try_ln32 rfl rfl rfl rfl SlOf.imm (idx_some e153).2.2 Part.self ?_
   intro v154
   refine RL.mv rfl rfl rfl ?_
   obtain ⟨y155, e156, h131⟩ := bind_some h131
   refine RL.idxS (sz := 1) 2 Try.underlying32 Try_ln3 rfl rfl rfl rfl rfl SlOf.imm (idx_some e156).1 (idx_some e156).2.1 ?_
   refine RL.ldSx (i := i128) (e' := y155) 2 Ex.ik Try_ln3 rfl rfl rfl rfl SlOf.imm (idx_some e156).2.2 Part.self ?_
   refine RL.mv rfl rfl rfl ?_
   refine RL.binI (v := .int .i64 (wmul y155 y91)) rfl rfl rfl rfl rfl ?_
   refine RL.mv rfl rfl rfl ?_
   obtain ⟨y157, e158, h131⟩ := bind_some h131
   refine RL.idxS (sz := 1) 0 Try.underlying22 Try_ln32 rfl rfl rfl rfl rfl SlOf.imm (idx_some e158).1 (idx_some e158).2.1 ?_
   refine RL.ldS (i := ((1 : Int)).toNat) (r := (TR.sl TR.int)) (e' := y157) 0 Try_ln32 rfl rfl rfl rfl SlOf.imm (idx_some e158).2.2 Part.self ?_
   intro v159
   refine RL.reL (L' := [imm (TR.sl (TR.sl TR.int)) v14 y12, obox 26 (TR.pair TR.int TR.int) v26 y21.2.1, imm (TR.sl TR.int) v154 y152, imm (TR.sl TR.int) v159 y157]) rfl ?_
   refine RL.mv rfl rfl rfl ?_
   obtain ⟨y160, e161, h131⟩ := bind_some h131
   refine RL.idxS (sz := 1) 3 Try.underlying32 Try_ln3 rfl rfl rfl rfl rfl SlOf.imm (idx_some e161).1 (idx_some e161).2.1 ?_
   refine RL.ldSx (i := i128) (e' := y160) 3 Ex.ik Try_ln3 rfl rfl rfl rfl SlOf.imm (idx_some e161).2.2 Part.self ?_
   refine RL.mv rfl rfl rfl ?_
   refine RL.mv rfl rfl rfl ?_
   refine RL.binI (v := .int .i64 (wsub (wadd (1 : Int) y87) y91)) rfl rfl rfl rfl rfl ?_
   refine RL.binI (v := .int .i64 (wmul y160 (wsub (wadd (1 : Int) y87) y91))) rfl rfl rfl rfl rfl ?_
   refine RL.binI (v := .int .i64 (wadd (wmul y155 y91) (wmul y160 (wsub (wadd (1 : Int) y87) y91)))) rfl rfl rfl rfl rfl ?_
   refine RL.fadr (off := 0) (fo := 1) 1 Try_fld26_1 rfl rfl rfl PtOf.obox (Or.inr ⟨rfl, rfl⟩) ?_
   refine RL.ldPx (off := (0 + 1)) (e' := y21.2.1.2) 1 Ex.ik Try_ln3 rfl rfl (Or.inl rfl) rfl PtOf.obox (Part.snd Part.self) ?_
   refine RL.binI (v := .int .i64 (wmul (wadd (wmul y155 y91) (wmul y160 (wsub (wadd (1 : Int) y87) y91))) y21.2.1.2)) rfl rfl rfl rfl rfl ?_
   refine RL.fadr (off := 0) (fo := 0) 1 Try_fld26_0 rfl rfl rfl PtOf.obox (Or.inr ⟨rfl, rfl⟩) ?_
   refine RL.ldPx (off := (0 + 0)) (e' := y21.2.1.1) 1 Ex.ik Try_ln3 rfl rfl (Or.inl rfl) rfl PtOf.obox (Part.fst Part.self) ?_
   refine RL.mv rfl rfl rfl ?_
   refine RL.binI (v := .int .i64 (wmul y21.2.1.1 (wadd (1 : Int) y87))) rfl rfl rfl rfl rfl ?_
   refine RL.binI (v := .bool (decide ((wmul (wadd (wmul y155 y91) (wmul y160 (wsub (wadd (1 : Int) y87) y91))) y21.2.1.2) ≤ (wmul y21.2.1.1 (wadd (1 : Int) y87))))) rfl rfl rfl rfl rfl ?_
   refine RL.finQG ?_
   refine GL.weak (env' := [(0, v14), (1, .int .i64 y91), (2, .int .i64 (wadd (1 : Int) y87)), (8, v26), (71, .int .i64 ((y96).length : Int)), (72, .int .i64 (i128 : Int)), (101, .bool (decide ((wmul (wadd (wmul y155 y91) (wmul y160 (wsub (wadd (1 : Int) y87) y91))) y21.2.1.2) ≤ (wmul y21.2.1.1 (wadd (1 : Int) y87)))))]) (L' := [imm (TR.sl (TR.sl TR.int)) v14 y12, obox 26 (TR.pair TR.int TR.int) v26 y21.2.1]) (fun a w st => St.cut [0, 1] ⟨rfl, rfl, rfl, rfl, rfl, rfl, rfl, trivial⟩ (by decide) rfl st) ?_
   refine GL.cond rfl (fun b162 => ?_) (fun b162 => ?_)
   ·replace h131 := ite_t b162 h131
    refine GL.seq ?_
    refine GL.region ?_
    refine RL.asg rfl rfl rfl ?_
    refine RL.finG ?_
    cases h131
    replace h132 : some (Fl.rt _) = some y121 := h132
    cases h132
    have hh := h126 _ h124
    subst hh
    exact GL.ret (Gx.ret (v := .bool true) (res1 rfl rfl) (fun a w st => st.toPostV))
   replace h131 := ite_f b162 h131
   refine GL.skip ?_
   refine GL.nilB ?_
   refine GL.region ?_
   refine RL.binI (v := .int .i64 ((i128 + 1 : Nat) : Int)) rfl rfl rfl rfl (binI_succ i128 (by omega)) ?_
   refine RL.mv rfl rfl rfl ?_
   refine RL.fin ?_
   cases h131
   exact fun a w st => lop_intro (i128 + 1, r140) ⟨by show i128 + 1 + r140.length = (y96).length; simp only [List.length_cons] at h134; omega, h141, h132⟩ (by simp) (St.cut [0, 1] ⟨rfl, rfl, rfl, rfl, rfl, rfl, trivial⟩ (by decide) rfl st)
  have h137 : ¬ i128 < (y96).length := by have := of_decide_eq_false b136; omega
  obtain rfl : r129 = [] := by rw [← h135]; exact List.drop_of_length_le (by omega)
  replace h133 : some (Fl.nx _) = some y121 := h133
  cases h133
  exact GL.exit (fun a w st => mid_intro () h124 (St.cut [] trivial (by decide) rfl st))
 rintro ⟨⟩ h163
 have h164 := h125 _ h163
 try dsimp only at h164
 refine GL.weak (env' := []) (L' := []) (fun _ _ st => st) ?_
 refine GL.seq ?_
 refine GL.region ?_
 refine RL.asg rfl rfl rfl ?_
 refine RL.finG ?_
 have h164 := Option.some.inj h164
 subst h164
 exact GL.ret (Gx.ret (v := .bool false) (res1 rfl rfl) (fun a w st => st.toPostV))
end Go.Wk
