/- Each function comes to what its model says; printed by a program of this repository. -/
import Derived.Test.YtocimbokgngofaaProg
import Derived.Test.YtocimbokgngofaaWMixedBoundsModels
import Derived.Test.YtocimbokgngofaaWMixedBoundsWalks1
namespace Go.Wk
open Go.Fw Go.Mo Go.Proofs Go.RowKit
set_option linter.all false
set_option maxRecDepth 100000

set_option maxHeartbeats 4000000 in
theorem pk_mixes_c (S : Hp) (w : World) (hS : S.sub w)  (res : Bool) (hm : pk_mixes_m = some res) : Calls Try.prog 14 #[] w (PostV w (.bool res)) := by
 refine calls_enter 24 Try.func14 Try.ntmps14 rfl S false [] [] rfl trivial hS trivial ?_
 unfold pk_mixes_m at hm
 refine GL.seq ?_
 refine GL.region ?_
 refine RL.asg rfl rfl rfl ?_
 refine RL.finG ?_
 refine GL.seq ?_
 refine GL.region ?_
 refine RL.bS (t := TR.int) (vs := [.int .i64 (1 : Int), .int .i64 (-1 : Int)]) ([(1 : Int), (-1 : Int)] : (List Int)) Try.underlying32 Try_lo3 rfl rfl rfl rfl ⟨VR.int, ⟨VR.int, trivial⟩⟩ rfl (by decide) ?_
 intro v10
 refine RL.bS (t := TR.int) (vs := [.int .i64 (-1 : Int), .int .i64 (1 : Int)]) ([(-1 : Int), (1 : Int)] : (List Int)) Try.underlying32 Try_lo3 rfl rfl rfl rfl ⟨VR.int, ⟨VR.int, trivial⟩⟩ rfl (by decide) ?_
 intro v11
 refine RL.reL (L' := [own 3 TR.int v10 ([(1 : Int), (-1 : Int)] : (List Int)), own 3 TR.int v11 ([(-1 : Int), (1 : Int)] : (List Int))]) rfl ?_
 refine RL.weak (fun a w st => st.freeze 0 rfl) ?_
 refine RL.weak (fun a w st => st.freeze 1 rfl) ?_
 refine RL.bS (t := (TR.sl TR.int)) (vs := [v10, v11]) ([([(1 : Int), (-1 : Int)] : (List Int)), ([(-1 : Int), (1 : Int)] : (List Int))] : (List (List Int))) Try.underlying22 Try_lo32 rfl rfl rfl rfl ⟨(VR.item 0 rfl), ⟨(VR.item 1 rfl), trivial⟩⟩ rfl (by decide) ?_
 intro v12
 refine RL.reL (L' := [imm (TR.sl TR.int) v10 ([(1 : Int), (-1 : Int)] : (List Int)), imm (TR.sl TR.int) v11 ([(-1 : Int), (1 : Int)] : (List Int)), own 32 (TR.sl TR.int) v12 ([([(1 : Int), (-1 : Int)] : (List Int)), ([(-1 : Int), (1 : Int)] : (List Int))] : (List (List Int)))]) rfl ?_
 refine RL.weak (fun a w st => st.freeze 2 rfl) ?_
 obtain ⟨y13, e14, hm⟩ := bind_some hm
 refine RL.call (vs := [v12]) Try_fit16 rfl rfl rfl rfl rfl (fun S f w hS hW hi => mixed_Solve_c S w hS _ _ (hi 2 _ rfl) _ e14) ?_
 intro ⟨v15, v16⟩
 refine RL.reL (L' := [imm (TR.sl TR.int) v10 ([(1 : Int), (-1 : Int)] : (List Int)), imm (TR.sl TR.int) v11 ([(-1 : Int), (1 : Int)] : (List Int)), imm (TR.sl (TR.sl TR.int)) v12 ([([(1 : Int), (-1 : Int)] : (List Int)), ([(-1 : Int), (1 : Int)] : (List Int))] : (List (List Int))), imm (TR.pair TR.int TR.int) v15 y13.1, imm (TR.pair TR.int TR.int) v16 y13.2.1]) rfl ?_
 refine RL.mv rfl rfl rfl ?_
 refine RL.ext rfl rfl rfl rfl ?_
 refine RL.ext rfl rfl rfl rfl ?_
 refine RL.ext rfl rfl rfl rfl ?_
 refine RL.alloc (t := (TR.pair TR.int TR.int)) (z := ((0 : Int), (0 : Int))) Try_lo26 (fun S => ⟨[.int .i64 0], _, rfl, rfl, rfl⟩) rfl rfl rfl ?_
 intro v17
 refine RL.alloc (t := (TR.pair TR.int TR.int)) (z := ((0 : Int), (0 : Int))) Try_lo26 (fun S => ⟨[.int .i64 0], _, rfl, rfl, rfl⟩) rfl rfl rfl ?_
 intro v18
 refine RL.reL (L' := [imm (TR.sl TR.int) v10 ([(1 : Int), (-1 : Int)] : (List Int)), imm (TR.sl TR.int) v11 ([(-1 : Int), (1 : Int)] : (List Int)), imm (TR.sl (TR.sl TR.int)) v12 ([([(1 : Int), (-1 : Int)] : (List Int)), ([(-1 : Int), (1 : Int)] : (List Int))] : (List (List Int))), imm (TR.pair TR.int TR.int) v15 y13.1, imm (TR.pair TR.int TR.int) v16 y13.2.1, obox 26 (TR.pair TR.int TR.int) v17 ((0 : Int), (0 : Int)), obox 26 (TR.pair TR.int TR.int) v18 ((0 : Int), (0 : Int))]) rfl ?_
 refine RL.stP (off := 0) (e' := y13.1) (d1 := y13.1) (r := (TR.pair TR.int TR.int)) 5 Try_ln26 rfl rfl (Or.inr ⟨rfl, rfl⟩) rfl (VR.item 3 rfl) rfl Upd.self ?_
 refine RL.stP (off := 0) (e' := y13.2.1) (d1 := y13.2.1) (r := (TR.pair TR.int TR.int)) 6 Try_ln26 rfl rfl (Or.inr ⟨rfl, rfl⟩) rfl (VR.item 4 rfl) rfl Upd.self ?_
 refine RL.reL (L' := [imm (TR.sl TR.int) v10 ([(1 : Int), (-1 : Int)] : (List Int)), imm (TR.sl TR.int) v11 ([(-1 : Int), (1 : Int)] : (List Int)), imm (TR.sl (TR.sl TR.int)) v12 ([([(1 : Int), (-1 : Int)] : (List Int)), ([(-1 : Int), (1 : Int)] : (List Int))] : (List (List Int))), imm (TR.pair TR.int TR.int) v15 y13.1, imm (TR.pair TR.int TR.int) v16 y13.2.1, obox 26 (TR.pair TR.int TR.int) v17 y13.1, obox 26 (TR.pair TR.int TR.int) v18 y13.2.1]) rfl ?_
 refine RL.asg rfl rfl rfl ?_
 refine RL.finG ?_
 refine GL.seq ?_
 obtain ⟨y32, K33, h34, h35, h36, h37, h38⟩ := bindR_K hm
 refine GL.join (ι := Bool) (fun (p : Bool) => [(0, .bool p)]) (fun (p : Bool) => []) (fun (p : Bool) => K33 (.nx p)) ?_ ?_
 ·skip
  refine GL.region ?_
  refine RL.mv rfl rfl rfl ?_
  refine RL.binI (v := .bool (y13.2.2 == (0 : Int))) rfl rfl rfl rfl rfl ?_
  refine RL.mv rfl rfl rfl ?_
  refine RL.split (t := 14) rfl (fun b39 => ?_) (fun b39 => ?_)
  ·replace h34 := ite_t b39 h34
   refine RL.ldP (off := 0) (r := (TR.pair TR.int TR.int)) (e' := y13.1) 5 Try_ln26 rfl rfl (Or.inr ⟨rfl, rfl⟩) rfl PtOf.obox Part.self ?_
   intro v40
   refine RL.bld (t := (TR.pair TR.int TR.int)) (d0 := (((1 : Int), (2 : Int)) : (Int × Int))) (pv := [(0, .int .i64 (1 : Int)), (1, .int .i64 (2 : Int))]) rfl Try_bld26 rfl rfl rfl ⟨⟨_, _, TR.int, (1 : Int), rfl, rfl, VR.int⟩, ⟨⟨_, _, TR.int, (2 : Int), rfl, rfl, VR.int⟩, trivial⟩⟩ (fun S f hi => by
     obtain ⟨c0, e0, r0⟩ := cells_vrep (t := TR.int) (u := .int .i64 (1 : Int)) (e := (1 : Int)) (VR.int S f hi)
     obtain ⟨c1, e1, r1⟩ := cells_vrep (t := TR.int) (u := .int .i64 (2 : Int)) (e := (2 : Int)) (VR.int S f hi)
     show TR.rep (TR.pair TR.int TR.int) S (List.flatten [(.int .i64 (1 : Int) : Value).cells.toList, (.int .i64 (2 : Int) : Value).cells.toList]) _
     simp only [e0, e1,  List.flatten_cons, List.flatten_nil, List.append_nil]
     exact ⟨_, _, rfl, r0, r1⟩) ?_
   intro v41
   refine RL.reL (L' := [imm (TR.sl TR.int) v10 ([(1 : Int), (-1 : Int)] : (List Int)), imm (TR.sl TR.int) v11 ([(-1 : Int), (1 : Int)] : (List Int)), imm (TR.sl (TR.sl TR.int)) v12 ([([(1 : Int), (-1 : Int)] : (List Int)), ([(-1 : Int), (1 : Int)] : (List Int))] : (List (List Int))), imm (TR.pair TR.int TR.int) v15 y13.1, imm (TR.pair TR.int TR.int) v16 y13.2.1, obox 26 (TR.pair TR.int TR.int) v17 y13.1, obox 26 (TR.pair TR.int TR.int) v18 y13.2.1, imm (TR.pair TR.int TR.int) v40 y13.1, imm (TR.pair TR.int TR.int) v41 (((1 : Int), (2 : Int)) : (Int × Int))]) rfl ?_
   refine RL.eqG (t := (TR.pair TR.int TR.int)) (e := y13.1) (e' := (((1 : Int), (2 : Int)) : (Int × Int))) rfl Try_eq26 (by decide) Try.eqGuardType26 rfl rfl rfl rfl (VR.item 7 rfl) (VR.item 8 rfl) ?_
   refine RL.pickT rfl rfl rfl rfl ?_
   refine RL.mv rfl rfl rfl ?_
   refine RL.split (t := 19) rfl (fun b42 => ?_) (fun b42 => ?_)
   ·replace h34 := ite_t b42 h34
    refine RL.ldP (off := 0) (r := (TR.pair TR.int TR.int)) (e' := y13.2.1) 6 Try_ln26 rfl rfl (Or.inr ⟨rfl, rfl⟩) rfl PtOf.obox Part.self ?_
    intro v43
    refine RL.bld (t := (TR.pair TR.int TR.int)) (d0 := (((0 : Int), (1 : Int)) : (Int × Int))) (pv := [(1, .int .i64 (1 : Int))]) rfl Try_bld26 rfl rfl rfl ⟨⟨_, _, TR.int, (1 : Int), rfl, rfl, VR.int⟩, trivial⟩ (fun S f hi => by
      obtain ⟨c1, e1, r1⟩ := cells_vrep (t := TR.int) (u := .int .i64 (1 : Int)) (e := (1 : Int)) (VR.int S f hi)
      show TR.rep (TR.pair TR.int TR.int) S (List.flatten [[.int .i64 0], (.int .i64 (1 : Int) : Value).cells.toList]) _
      simp only [e1,  List.flatten_cons, List.flatten_nil, List.append_nil]
      exact ⟨_, _, rfl, rfl, r1⟩) ?_
    intro v44
    refine RL.reL (L' := [imm (TR.sl TR.int) v10 ([(1 : Int), (-1 : Int)] : (List Int)), imm (TR.sl TR.int) v11 ([(-1 : Int), (1 : Int)] : (List Int)), imm (TR.sl (TR.sl TR.int)) v12 ([([(1 : Int), (-1 : Int)] : (List Int)), ([(-1 : Int), (1 : Int)] : (List Int))] : (List (List Int))), imm (TR.pair TR.int TR.int) v15 y13.1, imm (TR.pair TR.int TR.int) v16 y13.2.1, obox 26 (TR.pair TR.int TR.int) v17 y13.1, obox 26 (TR.pair TR.int TR.int) v18 y13.2.1, imm (TR.pair TR.int TR.int) v40 y13.1, imm (TR.pair TR.int TR.int) v41 (((1 : Int), (2 : Int)) : (Int × Int)), imm (TR.pair TR.int TR.int) v43 y13.2.1, imm (TR.pair TR.int TR.int) v44 (((0 : Int), (1 : Int)) : (Int × Int))]) rfl ?_
    refine RL.eqG (t := (TR.pair TR.int TR.int)) (e := y13.2.1) (e' := (((0 : Int), (1 : Int)) : (Int × Int))) rfl Try_eq26 (by decide) Try.eqGuardType26 rfl rfl rfl rfl (VR.item 9 rfl) (VR.item 10 rfl) ?_
    refine RL.pickT rfl rfl rfl rfl ?_
    refine RL.asg rfl rfl rfl ?_
    refine RL.fin ?_
    cases h34
    exact fun a w st => mid_intro (decide (y13.2.1 = (((0 : Int), (1 : Int)) : (Int × Int)))) h35 (St.cut [] ⟨rfl, trivial⟩ (by decide) rfl st)
   replace h34 := ite_f b42 h34
   refine RL.skip rfl rfl ?_
   refine RL.skip rfl rfl ?_
   refine RL.skip rfl rfl ?_
   refine RL.pickF rfl rfl rfl rfl ?_
   refine RL.asg rfl rfl rfl ?_
   refine RL.fin ?_
   cases h34
   exact fun a w st => mid_intro false h35 (St.cut [] ⟨rfl, trivial⟩ (by decide) rfl st)
  replace h34 := ite_f b39 h34
  refine RL.skip rfl rfl ?_
  refine RL.skip rfl rfl ?_
  refine RL.skip rfl rfl ?_
  refine RL.pickF rfl rfl rfl rfl ?_
  refine RL.mv rfl rfl rfl ?_
  refine RL.skip rfl rfl ?_
  refine RL.skip rfl rfl ?_
  refine RL.skip rfl rfl ?_
  refine RL.pickF rfl rfl rfl rfl ?_
  refine RL.asg rfl rfl rfl ?_
  refine RL.fin ?_
  cases h34
  exact fun a w st => mid_intro false h35 (St.cut [] ⟨rfl, trivial⟩ (by decide) rfl st)
 rintro x31 h45
 have h46 := h36 _ h45
 try dsimp only at h46
 refine GL.weak (env' := [(0, .bool x31)]) (L' := []) (fun _ _ st => st) ?_
 have h46 := Option.some.inj h46
 subst h46
 exact GL.ret (Gx.ret (v := .bool x31) (res1 rfl rfl) (fun a w st => st.toPostV))

set_option maxHeartbeats 4000000 in
theorem saddle_Bounds_c (S : Hp) (w : World) (hS : S.sub w) (v0 : Value) (x0 : (List (List Int))) (k0 : ((TR.sl (TR.sl TR.int))).vrep S v0 x0) (res : Int × Int × Int) (hm : saddle_Bounds_m x0 = some res) : Calls Try.prog 20 #[v0] w (PostC w (.tuple #[.int .i64 res.1, .int .i64 res.2.1, .int .i64 res.2.2])) := by
 refine calls_enter 68 Try.func20 Try.ntmps20 rfl S true [(0, v0)] [imm (TR.sl (TR.sl TR.int)) v0 x0] rfl ⟨rfl, trivial⟩ hS ⟨k0, trivial⟩ ?_
 unfold saddle_Bounds_m at hm
 refine GL.seq ?_
 refine GL.region ?_
 refine RL.asg rfl rfl rfl ?_
 refine RL.asg rfl rfl rfl ?_
 refine RL.asg rfl rfl rfl ?_
 refine RL.finG ?_
 refine GL.seq ?_
 refine GL.seq ?_
 refine GL.region ?_
 refine RL.mv rfl rfl rfl ?_
 obtain ⟨y4, e5, hm⟩ := bind_some hm
 refine RL.callC (v := .int .i64 y4) (vs := [v0]) Try_fit35 rfl rfl rfl rfl (fun U w hU hW hL => saddle_Check_c U w hU _ _ (hL 0 _ _ rfl Seen.imm) _ e5) ?_
 refine RL.asg rfl rfl rfl ?_
 refine RL.finG ?_
 refine GL.seq ?_
 refine GL.region ?_
 refine RL.mv rfl rfl rfl ?_
 refine RL.binI (v := .bool (y4 != (0 : Int))) rfl rfl rfl rfl rfl ?_
 refine RL.finG ?_
 refine GL.cond rfl (fun b6 => ?_) (fun b6 => ?_)
 ·replace hm := ite_t b6 hm
  refine GL.seq ?_
  refine GL.region ?_
  refine RL.mv rfl rfl rfl ?_
  refine RL.asg rfl rfl rfl ?_
  refine RL.asg rfl rfl rfl ?_
  refine RL.asg rfl rfl rfl ?_
  refine RL.finG ?_
  have hm := Option.some.inj hm
  subst hm
  exact GL.ret (Gx.ret (v := .tuple #[.int .i64 (0 : Int), .int .i64 (0 : Int), .int .i64 y4]) (res3 rfl rfl rfl rfl) (fun a w st => st.toPostC rfl))
 replace hm := ite_f b6 hm
 refine GL.skip ?_
 refine GL.seq ?_
 refine GL.region ?_
 refine RL.asg rfl rfl rfl ?_
 refine RL.asg rfl rfl rfl ?_
 refine RL.finG ?_
 refine GL.seq ?_
 refine GL.seq ?_
 refine GL.region ?_
 refine RL.mv rfl rfl rfl ?_
 refine RL.lenS 0 Try.underlying22 rfl rfl rfl rfl SlOf.imm ?_
 refine RL.mv rfl rfl rfl ?_
 refine RL.finG ?_
 refine GL.open_ 0 rfl (fun S h => len_imm S h) (fun n43 => ?_)
 obtain ⟨y44, K45, h46, h47, h48, h49, h50⟩ := bindR_K hm
 refine GL.join (ι := Int) (fun (p : Int) => [(0, v0), (6, .int .i64 p), (7, .int .i64 (1000 : Int))]) (fun (p : Int) => [imm (TR.sl (TR.sl TR.int)) v0 x0]) (fun (p : Int) => K45 (.nx p)) ?_ ?_
 ·refine GL.block ?_
  refine GL.loop (ι := Nat × (List (List Int)) × Int) (fun (p : Nat × (List (List Int)) × Int) => [(0, v0), (6, .int .i64 p.2.2), (7, .int .i64 (1000 : Int)), (22, v0), (23, .int .i64 ((x0).length : Int)), (24, .int .i64 (p.1 : Int))]) (fun (p : Nat × (List (List Int)) × Int) => [imm (TR.sl (TR.sl TR.int)) v0 x0]) (fun (p : Nat × (List (List Int)) × Int) => p.1 + p.2.1.length = (x0).length ∧ List.drop p.1 x0 = p.2.1 ∧ rangeL saddle_Bounds_b1 p.2.1 p.1 p.2.2 = some y44) (fun (p : Nat × (List (List Int)) × Int) => p.2.1.length) (0, x0, (-1000 : Int)) ⟨by simp, by simp, h46⟩ (fun a w st => St.cut [0] ⟨rfl, rfl, rfl, rfl, rfl, rfl, trivial⟩ (by decide) rfl st) ?_
  rintro ⟨i51, r52, x7⟩ ⟨h57, h58, h56⟩
  try dsimp only at h57 h58 h56
  refine GL.weak (env' := [(0, v0), (6, .int .i64 x7), (7, .int .i64 (1000 : Int)), (22, v0), (23, .int .i64 ((x0).length : Int)), (24, .int .i64 (i51 : Int))]) (L' := [imm (TR.sl (TR.sl TR.int)) v0 x0]) (fun _ _ st => st) ?_
  refine GL.seq ?_
  refine GL.region ?_
  refine RL.binI (v := .bool (decide ((i51 : Int) < ((x0).length : Int)))) rfl rfl rfl rfl rfl ?_
  refine RL.finG ?_
  refine GL.seq ?_
  refine GL.cond rfl (fun b59 => ?_) (fun b59 => ?_)
  ·have h60 : i51 < (x0).length := by have := of_decide_eq_true b59; omega
   obtain ⟨y61, r63, hr, e62, h64⟩ := drop_cons h58 rfl h60
   subst hr
   obtain ⟨z53, h54, h55⟩ := rangeL_some h56
   unfold saddle_Bounds_b1 at h54
   try dsimp only at h54
   refine GL.skip ?_
   refine GL.seq ?_
   refine GL.block ?_
   refine GL.seq ?_
   refine GL.region ?_
   refine RL.idxS (sz := 1) 0 Try.underlying22 Try_ln32 rfl rfl rfl rfl rfl SlOf.imm (by omega) (by omega) ?_
   refine RL.ldS (i := i51) (r := (TR.sl TR.int)) (e' := y61) 0 Try_ln32 rfl rfl rfl rfl SlOf.imm e62 Part.self ?_
   intro v66
   refine RL.asg rfl rfl rfl ?_
   refine RL.finG ?_
   refine GL.seq ?_
   refine GL.region ?_
   refine RL.asg rfl rfl rfl ?_
   refine RL.finG ?_
   refine GL.seq ?_
   refine GL.seq ?_
   refine GL.region ?_
   refine RL.mv rfl rfl rfl ?_
   refine RL.lenS 1 Try.underlying32 rfl rfl rfl rfl SlOf.imm ?_
   refine RL.mv rfl rfl rfl ?_
   refine RL.finG ?_
   refine GL.open_ 1 rfl (fun S h => len_imm S h) (fun n72 => ?_)
   obtain ⟨y73, K74, h75, h76, h77, h78, h79⟩ := bindF_K h54
   refine GL.join (ι := Int) (fun (p : Int) => [(0, v0), (6, .int .i64 x7), (7, .int .i64 (1000 : Int)), (10, .int .i64 p), (22, v0), (23, .int .i64 ((x0).length : Int)), (24, .int .i64 (i51 : Int))]) (fun (p : Int) => [imm (TR.sl (TR.sl TR.int)) v0 x0]) (fun (p : Int) => K74 (.nx p)) ?_ ?_
   ·refine GL.block ?_
    refine GL.loop (ι := Nat × (List Int) × Int) (fun (p : Nat × (List Int) × Int) => [(0, v0), (6, .int .i64 x7), (7, .int .i64 (1000 : Int)), (10, .int .i64 p.2.2), (22, v0), (23, .int .i64 ((x0).length : Int)), (24, .int .i64 (i51 : Int)), (28, v66), (29, .int .i64 ((y61).length : Int)), (30, .int .i64 (p.1 : Int))]) (fun (p : Nat × (List Int) × Int) => [imm (TR.sl (TR.sl TR.int)) v0 x0, imm (TR.sl TR.int) v66 y61]) (fun (p : Nat × (List Int) × Int) => p.1 + p.2.1.length = (y61).length ∧ List.drop p.1 y61 = p.2.1 ∧ rangeL saddle_Bounds_b2 p.2.1 p.1 p.2.2 = some y73) (fun (p : Nat × (List Int) × Int) => p.2.1.length) (0, y61, (1000 : Int)) ⟨by simp, by simp, h75⟩ (fun a w st => St.cut [0, 1] ⟨rfl, rfl, rfl, rfl, rfl, rfl, rfl, rfl, rfl, rfl, trivial⟩ (by decide) rfl st) ?_
    rintro ⟨i80, r81, x67⟩ ⟨h86, h87, h85⟩
    try dsimp only at h86 h87 h85
    refine GL.weak (env' := [(0, v0), (6, .int .i64 x7), (7, .int .i64 (1000 : Int)), (10, .int .i64 x67), (22, v0), (23, .int .i64 ((x0).length : Int)), (24, .int .i64 (i51 : Int)), (28, v66), (29, .int .i64 ((y61).length : Int)), (30, .int .i64 (i80 : Int))]) (L' := [imm (TR.sl (TR.sl TR.int)) v0 x0, imm (TR.sl TR.int) v66 y61]) (fun _ _ st => st) ?_
    refine GL.seq ?_
    refine GL.region ?_
    refine RL.binI (v := .bool (decide ((i80 : Int) < ((y61).length : Int)))) rfl rfl rfl rfl rfl ?_
    refine RL.finG ?_
    refine GL.seq ?_
    refine GL.cond rfl (fun b88 => ?_) (fun b88 => ?_)
    ·have h89 : i80 < (y61).length := by have := of_decide_eq_true b88; omega
     obtain ⟨y90, r92, hr, e91, h93⟩ := drop_cons h87 rfl h89
     subst hr
     obtain ⟨z82, h83, h84⟩ := rangeL_some h85
     unfold saddle_Bounds_b2 at h83
     try dsimp only at h83
     refine GL.skip ?_
     refine GL.seq ?_
     refine GL.block ?_
     refine GL.seq ?_
     refine GL.region ?_
     refine RL.idxS (sz := 1) 1 Try.underlying32 Try_ln3 rfl rfl rfl rfl rfl SlOf.imm (by omega) (by omega) ?_
     refine RL.ldSx (i := i80) (e' := y90) 1 Ex.ik Try_ln3 rfl rfl rfl rfl SlOf.imm e91 Part.self ?_
     refine RL.asg rfl rfl rfl ?_
     refine RL.finG ?_
     refine GL.region ?_
     refine RL.mv rfl rfl rfl ?_
     refine RL.mv rfl rfl rfl ?_
     refine RL.minI rfl rfl rfl rfl ?_
     refine RL.asg rfl rfl rfl ?_
     refine RL.finG ?_
     refine GL.nilB ?_
     refine GL.region ?_
     refine RL.binI (v := .int .i64 ((i80 + 1 : Nat) : Int)) rfl rfl rfl rfl (binI_succ i80 (by omega)) ?_
     refine RL.mv rfl rfl rfl ?_
     refine RL.fin ?_
     cases h83
     exact fun a w st => lop_intro (i80 + 1, r92, if y90 < x67 then y90 else x67) ⟨by show i80 + 1 + r92.length = (y61).length; simp only [List.length_cons] at h86; omega, h93, h84⟩ (by simp) (St.cut [0, 1] ⟨rfl, rfl, rfl, rfl, rfl, rfl, rfl, rfl, rfl, rfl, trivial⟩ (by decide) rfl st)
    have h89 : ¬ i80 < (y61).length := by have := of_decide_eq_false b88; omega
    obtain rfl : r81 = [] := by rw [← h87]; exact List.drop_of_length_le (by omega)
    replace h85 : some (Fl.nx _) = some y73 := h85
    cases h85
    exact GL.exit (fun a w st => mid_intro x67 h76 (St.cut [0] ⟨rfl, rfl, rfl, rfl, rfl, rfl, rfl, trivial⟩ (by decide) rfl st))
   rintro x67 h94
   have h95 := h77 _ h94
   try dsimp only at h95
   refine GL.weak (env' := [(0, v0), (6, .int .i64 x7), (7, .int .i64 (1000 : Int)), (10, .int .i64 x67), (22, v0), (23, .int .i64 ((x0).length : Int)), (24, .int .i64 (i51 : Int))]) (L' := [imm (TR.sl (TR.sl TR.int)) v0 x0]) (fun _ _ st => st) ?_
   refine GL.region ?_
   refine RL.mv rfl rfl rfl ?_
   refine RL.mv rfl rfl rfl ?_
   refine RL.maxI rfl rfl rfl rfl ?_
   refine RL.asg rfl rfl rfl ?_
   refine RL.finG ?_
   refine GL.nilB ?_
   refine GL.region ?_
   refine RL.binI (v := .int .i64 ((i51 + 1 : Nat) : Int)) rfl rfl rfl rfl (binI_succ i51 (by omega)) ?_
   refine RL.mv rfl rfl rfl ?_
   refine RL.fin ?_
   cases h95
   exact fun a w st => lop_intro (i51 + 1, r63, if x67 > x7 then x67 else x7) ⟨by show i51 + 1 + r63.length = (x0).length; simp only [List.length_cons] at h57; omega, h64, h55⟩ (by simp) (St.cut [0] ⟨rfl, rfl, rfl, rfl, rfl, rfl, trivial⟩ (by decide) rfl st)
  have h60 : ¬ i51 < (x0).length := by have := of_decide_eq_false b59; omega
  obtain rfl : r52 = [] := by rw [← h58]; exact List.drop_of_length_le (by omega)
  replace h56 : some (Fl.nx _) = some y44 := h56
  cases h56
  exact GL.exit (fun a w st => mid_intro x7 h47 (St.cut [0] ⟨rfl, rfl, rfl, trivial⟩ (by decide) rfl st))
 rintro x7 h96
 have h97 := h48 _ h96
 try dsimp only at h97
 refine GL.weak (env' := [(0, v0), (6, .int .i64 x7), (7, .int .i64 (1000 : Int))]) (L' := [imm (TR.sl (TR.sl TR.int)) v0 x0]) (fun _ _ st => st) ?_
 refine GL.seq ?_
 refine GL.seq ?_
 refine GL.region ?_
 refine RL.mv rfl rfl rfl ?_
 obtain ⟨y101, e102, h97⟩ := bind_some h97
 refine RL.idxS (sz := 1) 0 Try.underlying22 Try_ln32 rfl rfl rfl rfl rfl SlOf.imm (idx_some e102).1 (idx_some e102).2.1 ?_
 refine RL.ldS (i := ((0 : Int)).toNat) (r := (TR.sl TR.int)) (e' := y101) 0 Try_ln32 rfl rfl rfl rfl SlOf.imm (idx_some e102).2.2 Part.self ?_
 intro v103
 refine RL.lenS 1 Try.underlying32 rfl rfl rfl rfl SlOf.imm ?_
 refine RL.mv rfl rfl rfl ?_
 refine RL.finG ?_
 refine GL.open_ 1 rfl (fun S h => len_imm S h) (fun n146 => ?_)
 obtain ⟨y147, K148, h149, h150, h151, h152, h153⟩ := bindR_K h97
 refine GL.join (ι := Int) (fun (p : Int) => [(6, .int .i64 x7), (7, .int .i64 p)]) (fun (p : Int) => []) (fun (p : Int) => K148 (.nx p)) ?_ ?_
 ·refine GL.block ?_
  refine GL.loop (ι := Nat × (List Int) × Int) (fun (p : Nat × (List Int) × Int) => [(0, v0), (6, .int .i64 x7), (7, .int .i64 p.2.2), (45, .int .i64 ((y101).length : Int)), (46, .int .i64 (p.1 : Int))]) (fun (p : Nat × (List Int) × Int) => [imm (TR.sl (TR.sl TR.int)) v0 x0]) (fun (p : Nat × (List Int) × Int) => p.1 + p.2.1.length = (y101).length ∧ List.drop p.1 y101 = p.2.1 ∧ rangeL (saddle_Bounds_b3 x0) p.2.1 p.1 p.2.2 = some y147) (fun (p : Nat × (List Int) × Int) => p.2.1.length) (0, y101, (1000 : Int)) ⟨by simp, by simp, h149⟩ (fun a w st => St.cut [0] ⟨rfl, rfl, rfl, rfl, rfl, trivial⟩ (by decide) rfl st) ?_
  rintro ⟨i154, r155, x104⟩ ⟨h160, h161, h159⟩
  try dsimp only at h160 h161 h159
  refine GL.weak (env' := [(0, v0), (6, .int .i64 x7), (7, .int .i64 x104), (45, .int .i64 ((y101).length : Int)), (46, .int .i64 (i154 : Int))]) (L' := [imm (TR.sl (TR.sl TR.int)) v0 x0]) (fun _ _ st => st) ?_
  refine GL.seq ?_
  refine GL.region ?_
  refine RL.binI (v := .bool (decide ((i154 : Int) < ((y101).length : Int)))) rfl rfl rfl rfl rfl ?_
  refine RL.finG ?_
  refine GL.seq ?_
  refine GL.cond rfl (fun b162 => ?_) (fun b162 => ?_)
  ·have h163 : i154 < (y101).length := by have := of_decide_eq_true b162; omega
   obtain ⟨y164, r166, hr, e165, h167⟩ := drop_cons h161 rfl h163
   subst hr
   obtain ⟨z156, h157, h158⟩ := rangeL_some h159
   unfold saddle_Bounds_b3 at h157
   try dsimp only at h157
   refine GL.skip ?_
   refine GL.seq ?_
   refine GL.block ?_
   refine GL.seq ?_
   refine GL.region ?_
   refine RL.mv rfl rfl rfl ?_
   refine RL.asg rfl rfl rfl ?_
   refine RL.finG ?_
   refine GL.seq ?_
   refine GL.region ?_
   refine RL.asg rfl rfl rfl ?_
   refine RL.finG ?_
   refine GL.seq ?_
   refine GL.seq ?_
   refine GL.region ?_
   refine RL.mv rfl rfl rfl ?_
   refine RL.lenS 0 Try.underlying22 rfl rfl rfl rfl SlOf.imm ?_
   refine RL.mv rfl rfl rfl ?_
   refine RL.finG ?_
   refine GL.open_ 0 rfl (fun S h => len_imm S h) (fun n179 => ?_)
   obtain ⟨y180, K181, h182, h183, h184, h185, h186⟩ := bindF_K h157
   refine GL.join (ι := Int) (fun (p : Int) => [(0, v0), (6, .int .i64 x7), (7, .int .i64 x104), (14, .int .i64 p), (45, .int .i64 ((y101).length : Int)), (46, .int .i64 (i154 : Int))]) (fun (p : Int) => [imm (TR.sl (TR.sl TR.int)) v0 x0]) (fun (p : Int) => K181 (.nx p)) ?_ ?_
   ·refine GL.block ?_
    refine GL.loop (ι := Nat × (List (List Int)) × Int) (fun (p : Nat × (List (List Int)) × Int) => [(0, v0), (6, .int .i64 x7), (7, .int .i64 x104), (13, .int .i64 (i154 : Int)), (14, .int .i64 p.2.2), (45, .int .i64 ((y101).length : Int)), (46, .int .i64 (i154 : Int)), (49, v0), (50, .int .i64 ((x0).length : Int)), (51, .int .i64 (p.1 : Int))]) (fun (p : Nat × (List (List Int)) × Int) => [imm (TR.sl (TR.sl TR.int)) v0 x0]) (fun (p : Nat × (List (List Int)) × Int) => p.1 + p.2.1.length = (x0).length ∧ List.drop p.1 x0 = p.2.1 ∧ rangeL (saddle_Bounds_b4 i154) p.2.1 p.1 p.2.2 = some y180) (fun (p : Nat × (List (List Int)) × Int) => p.2.1.length) (0, x0, (-1000 : Int)) ⟨by simp, by simp, h182⟩ (fun a w st => St.cut [0] ⟨rfl, rfl, rfl, rfl, rfl, rfl, rfl, rfl, rfl, rfl, trivial⟩ (by decide) rfl st) ?_
    rintro ⟨i187, r188, x168⟩ ⟨h193, h194, h192⟩
    try dsimp only at h193 h194 h192
    refine GL.weak (env' := [(0, v0), (6, .int .i64 x7), (7, .int .i64 x104), (13, .int .i64 (i154 : Int)), (14, .int .i64 x168), (45, .int .i64 ((y101).length : Int)), (46, .int .i64 (i154 : Int)), (49, v0), (50, .int .i64 ((x0).length : Int)), (51, .int .i64 (i187 : Int))]) (L' := [imm (TR.sl (TR.sl TR.int)) v0 x0]) (fun _ _ st => st) ?_
    refine GL.seq ?_
    refine GL.region ?_
    refine RL.binI (v := .bool (decide ((i187 : Int) < ((x0).length : Int)))) rfl rfl rfl rfl rfl ?_
    refine RL.finG ?_
    refine GL.seq ?_
    refine GL.cond rfl (fun b195 => ?_) (fun b195 => ?_)
    ·have h196 : i187 < (x0).length := by have := of_decide_eq_true b195; omega
     obtain ⟨y197, r199, hr, e198, h200⟩ := drop_cons h194 rfl h196
     subst hr
     obtain ⟨z189, h190, h191⟩ := rangeL_some h192
     unfold saddle_Bounds_b4 at h190
     try dsimp only at h190
     refine GL.skip ?_
     refine GL.seq ?_
     refine GL.block ?_
     refine GL.seq ?_
     refine GL.region ?_
     refine RL.idxS (sz := 1) 0 Try.underlying22 Try_ln32 rfl rfl rfl rfl rfl SlOf.imm (by omega) (by omega) ?_
     refine RL.ldS (i := i187) (r := (TR.sl TR.int)) (e' := y197) 0 Try_ln32 rfl rfl rfl rfl SlOf.imm e198 Part.self ?_
     intro v202
     refine RL.asg rfl rfl rfl ?_
     refine RL.finG ?_
     refine GL.region ?_
     refine RL.mv rfl rfl rfl ?_
     refine RL.mv rfl rfl rfl ?_
     refine RL.mv rfl rfl rfl ?_
     obtain ⟨y205, e206, h190⟩ := bind_some h190
     refine RL.idxS (sz := 1) 1 Try.underlying32 Try_ln3 rfl rfl rfl rfl rfl SlOf.imm (idx_some e206).1 (idx_some e206).2.1 ?_
     refine RL.ldSx (i := i154) (e' := y205) 1 Ex.ik Try_ln3 rfl rfl rfl rfl SlOf.imm (idx_some e206).2.2 Part.self ?_
     refine RL.maxI rfl rfl rfl rfl ?_
     refine RL.asg rfl rfl rfl ?_
     refine RL.finG ?_
     refine GL.nilB ?_
     refine GL.region ?_
     refine RL.binI (v := .int .i64 ((i187 + 1 : Nat) : Int)) rfl rfl rfl rfl (binI_succ i187 (by omega)) ?_
     refine RL.mv rfl rfl rfl ?_
     refine RL.fin ?_
     cases h190
     exact fun a w st => lop_intro (i187 + 1, r199, if y205 > x168 then y205 else x168) ⟨by show i187 + 1 + r199.length = (x0).length; simp only [List.length_cons] at h193; omega, h200, h191⟩ (by simp) (St.cut [0] ⟨rfl, rfl, rfl, rfl, rfl, rfl, rfl, rfl, rfl, rfl, trivial⟩ (by decide) rfl st)
    have h196 : ¬ i187 < (x0).length := by have := of_decide_eq_false b195; omega
    obtain rfl : r188 = [] := by rw [← h194]; exact List.drop_of_length_le (by omega)
    replace h192 : some (Fl.nx _) = some y180 := h192
    cases h192
    exact GL.exit (fun a w st => mid_intro x168 h183 (St.cut [0] ⟨rfl, rfl, rfl, rfl, rfl, rfl, trivial⟩ (by decide) rfl st))
   rintro x168 h207
   have h208 := h184 _ h207
   try dsimp only at h208
   refine GL.weak (env' := [(0, v0), (6, .int .i64 x7), (7, .int .i64 x104), (14, .int .i64 x168), (45, .int .i64 ((y101).length : Int)), (46, .int .i64 (i154 : Int))]) (L' := [imm (TR.sl (TR.sl TR.int)) v0 x0]) (fun _ _ st => st) ?_
   refine GL.region ?_
   refine RL.mv rfl rfl rfl ?_
   refine RL.mv rfl rfl rfl ?_
   refine RL.minI rfl rfl rfl rfl ?_
   refine RL.asg rfl rfl rfl ?_
   refine RL.finG ?_
   refine GL.nilB ?_
   refine GL.region ?_
   refine RL.binI (v := .int .i64 ((i154 + 1 : Nat) : Int)) rfl rfl rfl rfl (binI_succ i154 (by omega)) ?_
   refine RL.mv rfl rfl rfl ?_
   refine RL.fin ?_
   cases h208
   exact fun a w st => lop_intro (i154 + 1, r166, if x168 < x104 then x168 else x104) ⟨by show i154 + 1 + r166.length = (y101).length; simp only [List.length_cons] at h160; omega, h167, h158⟩ (by simp) (St.cut [0] ⟨rfl, rfl, rfl, rfl, rfl, trivial⟩ (by decide) rfl st)
  have h163 : ¬ i154 < (y101).length := by have := of_decide_eq_false b162; omega
  obtain rfl : r155 = [] := by rw [← h161]; exact List.drop_of_length_le (by omega)
  replace h159 : some (Fl.nx _) = some y147 := h159
  cases h159
  exact GL.exit (fun a w st => mid_intro x104 h150 (St.cut [] ⟨rfl, rfl, trivial⟩ (by decide) rfl st))
 rintro x104 h209
 have h210 := h151 _ h209
 try dsimp only at h210
 refine GL.weak (env' := [(6, .int .i64 x7), (7, .int .i64 x104)]) (L' := []) (fun _ _ st => st) ?_
 refine GL.seq ?_
 refine GL.region ?_
 refine RL.mv rfl rfl rfl ?_
 refine RL.mv rfl rfl rfl ?_
 refine RL.asg rfl rfl rfl ?_
 refine RL.asg rfl rfl rfl ?_
 refine RL.asg rfl rfl rfl ?_
 refine RL.finG ?_
 have h210 := Option.some.inj h210
 subst h210
 exact GL.ret (Gx.ret (v := .tuple #[.int .i64 x7, .int .i64 x104, .int .i64 (0 : Int)]) (res3 rfl rfl rfl rfl) (fun a w st => st.toPostC rfl))

set_option maxHeartbeats 4000000 in
theorem saddle_Points_c (S : Hp) (w : World) (hS : S.sub w) (v0 : Value) (x0 : (List (List Int))) (k0 : ((TR.sl (TR.sl TR.int))).vrep S v0 x0) (res : (List (List Int)) × Int) (hm : saddle_Points_m x0 = some res) : Calls Try.prog 21 #[v0] w (Post w S (fun (o : Value) => .tuple #[o, .int .i64 res.2]) (fun (o : Value) => [own 34 (TR.arr 2 TR.int) o res.1])) := by
 refine calls_enter 73 Try.func21 Try.ntmps21 rfl S false [(0, v0)] [imm (TR.sl (TR.sl TR.int)) v0 x0] rfl ⟨rfl, trivial⟩ hS ⟨k0, trivial⟩ ?_
 unfold saddle_Points_m at hm
 refine GL.seq ?_
 refine GL.region ?_
 refine RL.asg rfl rfl rfl ?_
 refine RL.asg rfl rfl rfl ?_
 refine RL.finG ?_
 refine GL.seq ?_
 refine GL.seq ?_
 refine GL.region ?_
 refine RL.mv rfl rfl rfl ?_
 obtain ⟨y4, e5, hm⟩ := bind_some hm
 refine RL.callC (v := .int .i64 y4) (vs := [v0]) Try_fit35 rfl rfl rfl rfl (fun U w hU hW hL => saddle_Check_c U w hU _ _ (hL 0 _ _ rfl Seen.imm) _ e5) ?_
 refine RL.asg rfl rfl rfl ?_
 refine RL.finG ?_
 refine GL.seq ?_
 refine GL.region ?_
 refine RL.mv rfl rfl rfl ?_
 refine RL.binI (v := .bool (y4 != (0 : Int))) rfl rfl rfl rfl rfl ?_
 refine RL.finG ?_
 refine GL.cond rfl (fun b6 => ?_) (fun b6 => ?_)
 ·replace hm := ite_t b6 hm
  refine GL.seq ?_
  refine GL.region ?_
  refine RL.mv rfl rfl rfl ?_
  refine RL.asg rfl rfl rfl ?_
  refine RL.asg rfl rfl rfl ?_
  refine RL.finG ?_
  refine GL.weak (fun a w st => st.nilOwn 34 (TR.arr 2 TR.int)) ?_
  have hm := Option.some.inj hm
  subst hm
  exact GL.ret (Gx.ret (v := .tuple #[Value.slice none 0 0, .int .i64 y4]) (res2 rfl rfl rfl) (fun a w st => (st.pick [1] (by decide) rfl).toPost (Value.slice none 0 0)))
 replace hm := ite_f b6 hm
 refine GL.skip ?_
 refine GL.seq ?_
 refine GL.region ?_
 refine RL.asg rfl rfl rfl ?_
 refine RL.finG ?_
 refine GL.seq ?_
 refine GL.seq ?_
 refine GL.region ?_
 refine RL.mv rfl rfl rfl ?_
 refine RL.lenS 0 Try.underlying22 rfl rfl rfl rfl SlOf.imm ?_
 refine RL.mv rfl rfl rfl ?_
 refine RL.finG ?_
 refine GL.weak (fun a w st => st.nilOwn 34 (TR.arr 2 TR.int)) ?_
 refine GL.open_ 0 rfl (fun S h => len_imm S h) (fun n319 => ?_)
 obtain ⟨y320, K321, h322, h323, h324, h325, h326⟩ := bindR_K hm
 refine GL.join (ι := (List (List Int)) × Value) (fun (p : (List (List Int)) × Value) => [(5, p.2)]) (fun (p : (List (List Int)) × Value) => [own 34 (TR.arr 2 TR.int) p.2 p.1]) (fun (p : (List (List Int)) × Value) => K321 (.nx p.1)) ?_ ?_
 ·refine GL.block ?_
  refine GL.loop (ι := Nat × (List (List Int)) × (List (List Int)) × Value) (fun (p : Nat × (List (List Int)) × (List (List Int)) × Value) => [(0, v0), (5, p.2.2.2), (20, v0), (21, .int .i64 ((x0).length : Int)), (22, .int .i64 (p.1 : Int))]) (fun (p : Nat × (List (List Int)) × (List (List Int)) × Value) => [imm (TR.sl (TR.sl TR.int)) v0 x0, own 34 (TR.arr 2 TR.int) p.2.2.2 p.2.2.1]) (fun (p : Nat × (List (List Int)) × (List (List Int)) × Value) => p.1 + p.2.1.length = (x0).length ∧ List.drop p.1 x0 = p.2.1 ∧ rangeL (saddle_Points_b1 x0) p.2.1 p.1 p.2.2.1 = some y320) (fun (p : Nat × (List (List Int)) × (List (List Int)) × Value) => p.2.1.length) (0, x0, [], Value.slice none 0 0) ⟨by simp, by simp, h322⟩ (fun a w st => St.cut [0, 1] ⟨rfl, rfl, rfl, rfl, rfl, trivial⟩ (by decide) rfl st) ?_
  rintro ⟨i327, r328, l7, v8⟩ ⟨h333, h334, h332⟩
  try dsimp only at h333 h334 h332
  refine GL.weak (env' := [(0, v0), (5, v8), (20, v0), (21, .int .i64 ((x0).length : Int)), (22, .int .i64 (i327 : Int))]) (L' := [imm (TR.sl (TR.sl TR.int)) v0 x0, own 34 (TR.arr 2 TR.int) v8 l7]) (fun _ _ st => st) ?_
  refine GL.seq ?_
  refine GL.region ?_
  refine RL.binI (v := .bool (decide ((i327 : Int) < ((x0).length : Int)))) rfl rfl rfl rfl rfl ?_
  refine RL.finG ?_
  refine GL.seq ?_
  refine GL.cond rfl (fun b335 => ?_) (fun b335 => ?_)
  ·have h336 : i327 < (x0).length := by have := of_decide_eq_true b335; omega
   obtain ⟨y337, r339, hr, e338, h340⟩ := drop_cons h334 rfl h336
   subst hr
   obtain ⟨z329, h330, h331⟩ := rangeL_some h332
   unfold saddle_Points_b1 at h330
   try dsimp only at h330
   refine GL.skip ?_
   refine GL.seq ?_
   refine GL.block ?_
   refine GL.seq ?_
   refine GL.region ?_
   refine RL.mv rfl rfl rfl ?_
   refine RL.idxS (sz := 1) 0 Try.underlying22 Try_ln32 rfl rfl rfl rfl rfl SlOf.imm (by omega) (by omega) ?_
   refine RL.ldS (i := i327) (r := (TR.sl TR.int)) (e' := y337) 0 Try_ln32 rfl rfl rfl rfl SlOf.imm e338 Part.self ?_
   intro v342
   refine RL.asg rfl rfl rfl ?_
   refine RL.asg rfl rfl rfl ?_
   refine RL.finG ?_
   refine GL.seq ?_
   refine GL.region ?_
   refine RL.mv rfl rfl rfl ?_
   refine RL.lenS 2 Try.underlying32 rfl rfl rfl rfl SlOf.imm ?_
   refine RL.mv rfl rfl rfl ?_
   refine RL.finG ?_
   refine GL.open_ 2 rfl (fun S h => len_imm S h) (fun n486 => ?_)
   obtain ⟨y487, K488, h489, h490, h491, h492, h493⟩ := bindF_K h330
   refine GL.join (ι := (List (List Int)) × Value) (fun (p : (List (List Int)) × Value) => [(0, v0), (5, p.2), (20, v0), (21, .int .i64 ((x0).length : Int)), (22, .int .i64 (i327 : Int))]) (fun (p : (List (List Int)) × Value) => [imm (TR.sl (TR.sl TR.int)) v0 x0, own 34 (TR.arr 2 TR.int) p.2 p.1]) (fun (p : (List (List Int)) × Value) => K488 (.nx p.1)) ?_ ?_
   ·refine GL.block ?_
    refine GL.loop (ι := Nat × (List Int) × (List (List Int)) × Value) (fun (p : Nat × (List Int) × (List (List Int)) × Value) => [(0, v0), (5, p.2.2.2), (6, .int .i64 (i327 : Int)), (7, v342), (20, v0), (21, .int .i64 ((x0).length : Int)), (22, .int .i64 (i327 : Int)), (27, v342), (28, .int .i64 ((y337).length : Int)), (29, .int .i64 (p.1 : Int))]) (fun (p : Nat × (List Int) × (List (List Int)) × Value) => [imm (TR.sl (TR.sl TR.int)) v0 x0, own 34 (TR.arr 2 TR.int) p.2.2.2 p.2.2.1, imm (TR.sl TR.int) v342 y337]) (fun (p : Nat × (List Int) × (List (List Int)) × Value) => p.1 + p.2.1.length = (y337).length ∧ List.drop p.1 y337 = p.2.1 ∧ rangeL (saddle_Points_b2 y337 x0 i327) p.2.1 p.1 p.2.2.1 = some y487) (fun (p : Nat × (List Int) × (List (List Int)) × Value) => p.2.1.length) (0, y337, l7, v8) ⟨by simp, by simp, h489⟩ (fun a w st => St.cut [0, 1, 2] ⟨rfl, rfl, rfl, rfl, rfl, rfl, rfl, rfl, rfl, rfl, trivial⟩ (by decide) rfl st) ?_
    rintro ⟨i494, r495, l343, v344⟩ ⟨h500, h501, h499⟩
    try dsimp only at h500 h501 h499
    refine GL.weak (env' := [(0, v0), (5, v344), (6, .int .i64 (i327 : Int)), (7, v342), (20, v0), (21, .int .i64 ((x0).length : Int)), (22, .int .i64 (i327 : Int)), (27, v342), (28, .int .i64 ((y337).length : Int)), (29, .int .i64 (i494 : Int))]) (L' := [imm (TR.sl (TR.sl TR.int)) v0 x0, own 34 (TR.arr 2 TR.int) v344 l343, imm (TR.sl TR.int) v342 y337]) (fun _ _ st => st) ?_
    refine GL.seq ?_
    refine GL.region ?_
    refine RL.binI (v := .bool (decide ((i494 : Int) < ((y337).length : Int)))) rfl rfl rfl rfl rfl ?_
    refine RL.finG ?_
    refine GL.seq ?_
    refine GL.cond rfl (fun b502 => ?_) (fun b502 => ?_)
    ·have h503 : i494 < (y337).length := by have := of_decide_eq_true b502; omega
     obtain ⟨y504, r506, hr, e505, h507⟩ := drop_cons h501 rfl h503
     subst hr
     obtain ⟨z496, h497, h498⟩ := rangeL_some h499
     unfold saddle_Points_b2 at h497
     try dsimp only at h497
     refine GL.skip ?_
     refine GL.seq ?_
     refine GL.block ?_
     refine GL.seq ?_
     refine GL.region ?_
     refine RL.mv rfl rfl rfl ?_
     refine RL.idxS (sz := 1) 2 Try.underlying32 Try_ln3 rfl rfl rfl rfl rfl SlOf.imm (by omega) (by omega) ?_
     refine RL.ldSx (i := i494) (e' := y504) 2 Ex.ik Try_ln3 rfl rfl rfl rfl SlOf.imm e505 Part.self ?_
     refine RL.asg rfl rfl rfl ?_
     refine RL.asg rfl rfl rfl ?_
     refine RL.finG ?_
     refine GL.seq ?_
     refine GL.region ?_
     refine RL.asg rfl rfl rfl ?_
     refine RL.finG ?_
     refine GL.seq ?_
     refine GL.seq ?_
     refine GL.region ?_
     refine RL.mv rfl rfl rfl ?_
     refine RL.lenS 2 Try.underlying32 rfl rfl rfl rfl SlOf.imm ?_
     refine RL.mv rfl rfl rfl ?_
     refine RL.finG ?_
     refine GL.open_ 2 rfl (fun S h => len_imm S h) (fun n526 => ?_)
     obtain ⟨y527, K528, h529, h530, h531, h532, h533⟩ := bindF_K h497
     refine GL.join (ι := Bool) (fun (p : Bool) => [(0, v0), (5, v344), (6, .int .i64 (i327 : Int)), (7, v342), (8, .int .i64 (i494 : Int)), (9, .int .i64 y504), (10, .bool p), (20, v0), (21, .int .i64 ((x0).length : Int)), (22, .int .i64 (i327 : Int)), (27, v342), (28, .int .i64 ((y337).length : Int)), (29, .int .i64 (i494 : Int))]) (fun (p : Bool) => [imm (TR.sl (TR.sl TR.int)) v0 x0, own 34 (TR.arr 2 TR.int) v344 l343, imm (TR.sl TR.int) v342 y337]) (fun (p : Bool) => K528 (.nx p)) ?_ ?_
     ·refine GL.block ?_
      refine GL.loop (ι := Nat × (List Int) × Bool) (fun (p : Nat × (List Int) × Bool) => [(0, v0), (5, v344), (6, .int .i64 (i327 : Int)), (7, v342), (8, .int .i64 (i494 : Int)), (9, .int .i64 y504), (10, .bool p.2.2), (20, v0), (21, .int .i64 ((x0).length : Int)), (22, .int .i64 (i327 : Int)), (27, v342), (28, .int .i64 ((y337).length : Int)), (29, .int .i64 (i494 : Int)), (34, v342), (35, .int .i64 ((y337).length : Int)), (36, .int .i64 (p.1 : Int))]) (fun (p : Nat × (List Int) × Bool) => [imm (TR.sl (TR.sl TR.int)) v0 x0, own 34 (TR.arr 2 TR.int) v344 l343, imm (TR.sl TR.int) v342 y337]) (fun (p : Nat × (List Int) × Bool) => p.1 + p.2.1.length = (y337).length ∧ List.drop p.1 y337 = p.2.1 ∧ rangeL (saddle_Points_b3 y504) p.2.1 p.1 p.2.2 = some y527) (fun (p : Nat × (List Int) × Bool) => p.2.1.length) (0, y337, true) ⟨by simp, by simp, h529⟩ (fun a w st => St.cut [0, 1, 2] ⟨rfl, rfl, rfl, rfl, rfl, rfl, rfl, rfl, rfl, rfl, rfl, rfl, rfl, rfl, rfl, rfl, trivial⟩ (by decide) rfl st) ?_
      rintro ⟨i534, r535, x508⟩ ⟨h540, h541, h539⟩
      try dsimp only at h540 h541 h539
      refine GL.weak (env' := [(0, v0), (5, v344), (6, .int .i64 (i327 : Int)), (7, v342), (8, .int .i64 (i494 : Int)), (9, .int .i64 y504), (10, .bool x508), (20, v0), (21, .int .i64 ((x0).length : Int)), (22, .int .i64 (i327 : Int)), (27, v342), (28, .int .i64 ((y337).length : Int)), (29, .int .i64 (i494 : Int)), (34, v342), (35, .int .i64 ((y337).length : Int)), (36, .int .i64 (i534 : Int))]) (L' := [imm (TR.sl (TR.sl TR.int)) v0 x0, own 34 (TR.arr 2 TR.int) v344 l343, imm (TR.sl TR.int) v342 y337]) (fun _ _ st => st) ?_
      refine GL.seq ?_
      refine GL.region ?_
      refine RL.binI (v := .bool (decide ((i534 : Int) < ((y337).length : Int)))) rfl rfl rfl rfl rfl ?_
      refine RL.finG ?_
      refine GL.seq ?_
      refine GL.cond rfl (fun b542 => ?_) (fun b542 => ?_)
      ·have h543 : i534 < (y337).length := by have := of_decide_eq_true b542; omega
       obtain ⟨y544, r546, hr, e545, h547⟩ := drop_cons h541 rfl h543
       subst hr
       obtain ⟨z536, h537, h538⟩ := rangeL_some h539
       unfold saddle_Points_b3 at h537
       try dsimp only at h537
       refine GL.skip ?_
       refine GL.seq ?_
       refine GL.block ?_
       refine GL.seq ?_
       refine GL.region ?_
       refine RL.idxS (sz := 1) 2 Try.underlying32 Try_ln3 rfl rfl rfl rfl rfl SlOf.imm (by omega) (by omega) ?_
       refine RL.ldSx (i := i534) (e' := y544) 2 Ex.ik Try_ln3 rfl rfl rfl rfl SlOf.imm e545 Part.self ?_
       refine RL.asg rfl rfl rfl ?_
       refine RL.finG ?_
       obtain ⟨y551, K552, h553, h554, h555, h556, h557⟩ := bindF_K h537
       refine GL.join (ι := Bool) (fun (p : Bool) => [(0, v0), (5, v344), (6, .int .i64 (i327 : Int)), (7, v342), (8, .int .i64 (i494 : Int)), (9, .int .i64 y504), (10, .bool p), (20, v0), (21, .int .i64 ((x0).length : Int)), (22, .int .i64 (i327 : Int)), (27, v342), (28, .int .i64 ((y337).length : Int)), (29, .int .i64 (i494 : Int)), (34, v342), (35, .int .i64 ((y337).length : Int)), (36, .int .i64 (i534 : Int))]) (fun (p : Bool) => [imm (TR.sl (TR.sl TR.int)) v0 x0, own 34 (TR.arr 2 TR.int) v344 l343, imm (TR.sl TR.int) v342 y337]) (fun (p : Bool) => K552 (.nx p)) ?_ ?_
       ·skip
        refine GL.region ?_
        refine RL.mv rfl rfl rfl ?_
        refine RL.mv rfl rfl rfl ?_
        refine RL.split (t := 41) rfl (fun b558 => ?_) (fun b558 => ?_)
        ·replace h553 := ite_t b558 h553
         refine RL.mv rfl rfl rfl ?_
         refine RL.mv rfl rfl rfl ?_
         refine RL.binI (v := .bool (decide (y504 ≤ y544))) rfl rfl rfl rfl rfl ?_
         refine RL.pickT rfl rfl rfl rfl ?_
         refine RL.asg rfl rfl rfl ?_
         refine RL.fin ?_
         cases h553
         exact fun a w st => mid_intro (decide (y504 ≤ y544)) h554 (St.cut [0, 1, 2] ⟨rfl, rfl, rfl, rfl, rfl, rfl, rfl, rfl, rfl, rfl, rfl, rfl, rfl, rfl, rfl, rfl, trivial⟩ (by decide) rfl st)
        replace h553 := ite_f b558 h553
        refine RL.skip rfl rfl ?_
        refine RL.skip rfl rfl ?_
        refine RL.skip rfl rfl ?_
        refine RL.pickF rfl rfl rfl rfl ?_
        refine RL.asg rfl rfl rfl ?_
        refine RL.fin ?_
        cases h553
        exact fun a w st => mid_intro false h554 (St.cut [0, 1, 2] ⟨rfl, rfl, rfl, rfl, rfl, rfl, rfl, rfl, rfl, rfl, rfl, rfl, rfl, rfl, rfl, rfl, trivial⟩ (by decide) rfl st)
       rintro x550 h559
       have h560 := h555 _ h559
       try dsimp only at h560
       refine GL.weak (env' := [(0, v0), (5, v344), (6, .int .i64 (i327 : Int)), (7, v342), (8, .int .i64 (i494 : Int)), (9, .int .i64 y504), (10, .bool x550), (20, v0), (21, .int .i64 ((x0).length : Int)), (22, .int .i64 (i327 : Int)), (27, v342), (28, .int .i64 ((y337).length : Int)), (29, .int .i64 (i494 : Int)), (34, v342), (35, .int .i64 ((y337).length : Int)), (36, .int .i64 (i534 : Int))]) (L' := [imm (TR.sl (TR.sl TR.int)) v0 x0, own 34 (TR.arr 2 TR.int) v344 l343, imm (TR.sl TR.int) v342 y337]) (fun _ _ st => st) ?_
       refine GL.nilB ?_
       refine GL.region ?_
       refine RL.binI (v := .int .i64 ((i534 + 1 : Nat) : Int)) rfl rfl rfl rfl (binI_succ i534 (by omega)) ?_
       refine RL.mv rfl rfl rfl ?_
       refine RL.fin ?_
       cases h560
       exact fun a w st => lop_intro (i534 + 1, r546, x550) ⟨by show i534 + 1 + r546.length = (y337).length; simp only [List.length_cons] at h540; omega, h547, h538⟩ (by simp) (St.cut [0, 1, 2] ⟨rfl, rfl, rfl, rfl, rfl, rfl, rfl, rfl, rfl, rfl, rfl, rfl, rfl, rfl, rfl, rfl, trivial⟩ (by decide) rfl st)
      have h543 : ¬ i534 < (y337).length := by have := of_decide_eq_false b542; omega
      obtain rfl : r535 = [] := by rw [← h541]; exact List.drop_of_length_le (by omega)
      replace h539 : some (Fl.nx _) = some y527 := h539
      cases h539
      exact GL.exit (fun a w st => mid_intro x508 h530 (St.cut [0, 1, 2] ⟨rfl, rfl, rfl, rfl, rfl, rfl, rfl, rfl, rfl, rfl, rfl, rfl, rfl, trivial⟩ (by decide) rfl st))
     rintro x508 h561
     have h562 := h531 _ h561
     try dsimp only at h562
     refine GL.weak (env' := [(0, v0), (5, v344), (6, .int .i64 (i327 : Int)), (7, v342), (8, .int .i64 (i494 : Int)), (9, .int .i64 y504), (10, .bool x508), (20, v0), (21, .int .i64 ((x0).length : Int)), (22, .int .i64 (i327 : Int)), (27, v342), (28, .int .i64 ((y337).length : Int)), (29, .int .i64 (i494 : Int))]) (L' := [imm (TR.sl (TR.sl TR.int)) v0 x0, own 34 (TR.arr 2 TR.int) v344 l343, imm (TR.sl TR.int) v342 y337]) (fun _ _ st => st) ?_
     refine GL.seq ?_
     refine GL.seq ?_
     refine GL.region ?_
     refine RL.mv rfl rfl rfl ?_
     refine RL.lenS 0 Try.underlying22 rfl rfl rfl rfl SlOf.imm ?_
     refine RL.mv rfl rfl rfl ?_
     refine RL.finG ?_
     refine GL.open_ 0 rfl (fun S h => len_imm S h) (fun n589 => ?_)
     obtain ⟨y590, K591, h592, h593, h594, h595, h596⟩ := bindF_K h562
     refine GL.join (ι := Bool) (fun (p : Bool) => [(0, v0), (5, v344), (6, .int .i64 (i327 : Int)), (7, v342), (8, .int .i64 (i494 : Int)), (10, .bool p), (20, v0), (21, .int .i64 ((x0).length : Int)), (22, .int .i64 (i327 : Int)), (27, v342), (28, .int .i64 ((y337).length : Int)), (29, .int .i64 (i494 : Int))]) (fun (p : Bool) => [imm (TR.sl (TR.sl TR.int)) v0 x0, own 34 (TR.arr 2 TR.int) v344 l343, imm (TR.sl TR.int) v342 y337]) (fun (p : Bool) => K591 (.nx p)) ?_ ?_
     ·refine GL.block ?_
      refine GL.loop (ι := Nat × (List (List Int)) × Bool) (fun (p : Nat × (List (List Int)) × Bool) => [(0, v0), (5, v344), (6, .int .i64 (i327 : Int)), (7, v342), (8, .int .i64 (i494 : Int)), (9, .int .i64 y504), (10, .bool p.2.2), (20, v0), (21, .int .i64 ((x0).length : Int)), (22, .int .i64 (i327 : Int)), (27, v342), (28, .int .i64 ((y337).length : Int)), (29, .int .i64 (i494 : Int)), (47, v0), (48, .int .i64 ((x0).length : Int)), (49, .int .i64 (p.1 : Int))]) (fun (p : Nat × (List (List Int)) × Bool) => [imm (TR.sl (TR.sl TR.int)) v0 x0, own 34 (TR.arr 2 TR.int) v344 l343, imm (TR.sl TR.int) v342 y337]) (fun (p : Nat × (List (List Int)) × Bool) => p.1 + p.2.1.length = (x0).length ∧ List.drop p.1 x0 = p.2.1 ∧ rangeL (saddle_Points_b4 i494 y504) p.2.1 p.1 p.2.2 = some y590) (fun (p : Nat × (List (List Int)) × Bool) => p.2.1.length) (0, x0, x508) ⟨by simp, by simp, h592⟩ (fun a w st => St.cut [0, 1, 2] ⟨rfl, rfl, rfl, rfl, rfl, rfl, rfl, rfl, rfl, rfl, rfl, rfl, rfl, rfl, rfl, rfl, trivial⟩ (by decide) rfl st) ?_
      rintro ⟨i597, r598, x563⟩ ⟨h603, h604, h602⟩
      try dsimp only at h603 h604 h602
      refine GL.weak (env' := [(0, v0), (5, v344), (6, .int .i64 (i327 : Int)), (7, v342), (8, .int .i64 (i494 : Int)), (9, .int .i64 y504), (10, .bool x563), (20, v0), (21, .int .i64 ((x0).length : Int)), (22, .int .i64 (i327 : Int)), (27, v342), (28, .int .i64 ((y337).length : Int)), (29, .int .i64 (i494 : Int)), (47, v0), (48, .int .i64 ((x0).length : Int)), (49, .int .i64 (i597 : Int))]) (L' := [imm (TR.sl (TR.sl TR.int)) v0 x0, own 34 (TR.arr 2 TR.int) v344 l343, imm (TR.sl TR.int) v342 y337]) (fun _ _ st => st) ?_
      refine GL.seq ?_
      refine GL.region ?_
      refine RL.binI (v := .bool (decide ((i597 : Int) < ((x0).length : Int)))) rfl rfl rfl rfl rfl ?_
      refine RL.finG ?_
      refine GL.seq ?_
      refine GL.cond rfl (fun b605 => ?_) (fun b605 => ?_)
      ·have h606 : i597 < (x0).length := by have := of_decide_eq_true b605; omega
       obtain ⟨y607, r609, hr, e608, h610⟩ := drop_cons h604 rfl h606
       subst hr
       obtain ⟨z599, h600, h601⟩ := rangeL_some h602
       unfold saddle_Points_b4 at h600
       try dsimp only at h600
       refine GL.skip ?_
       refine GL.seq ?_
       refine GL.block ?_
       refine GL.seq ?_
       refine GL.region ?_
       refine RL.idxS (sz := 1) 0 Try.underlying22 Try_ln32 rfl rfl rfl rfl rfl SlOf.imm (by omega) (by omega) ?_
       refine RL.ldS (i := i597) (r := (TR.sl TR.int)) (e' := y607) 0 Try_ln32 rfl rfl rfl rfl SlOf.imm e608 Part.self ?_
       intro v612
       refine RL.asg rfl rfl rfl ?_
       refine RL.finG ?_
       obtain ⟨y620, K621, h622, h623, h624, h625, h626⟩ := bindF_K h600
       refine GL.join (ι := Bool) (fun (p : Bool) => [(0, v0), (5, v344), (6, .int .i64 (i327 : Int)), (7, v342), (8, .int .i64 (i494 : Int)), (9, .int .i64 y504), (10, .bool p), (20, v0), (21, .int .i64 ((x0).length : Int)), (22, .int .i64 (i327 : Int)), (27, v342), (28, .int .i64 ((y337).length : Int)), (29, .int .i64 (i494 : Int)), (47, v0), (48, .int .i64 ((x0).length : Int)), (49, .int .i64 (i597 : Int))]) (fun (p : Bool) => [imm (TR.sl (TR.sl TR.int)) v0 x0, own 34 (TR.arr 2 TR.int) v344 l343, imm (TR.sl TR.int) v342 y337]) (fun (p : Bool) => K621 (.nx p)) ?_ ?_
       ·skip
        refine GL.region ?_
        refine RL.mv rfl rfl rfl ?_
        refine RL.mv rfl rfl rfl ?_
        refine RL.split (t := 54) rfl (fun b627 => ?_) (fun b627 => ?_)
        ·replace h622 := ite_t b627 h622
         refine RL.mv rfl rfl rfl ?_
         refine RL.mv rfl rfl rfl ?_
         refine RL.mv rfl rfl rfl ?_
         obtain ⟨y628, e629, h622⟩ := bind_some h622
         refine RL.idxS (sz := 1) 3 Try.underlying32 Try_ln3 rfl rfl rfl rfl rfl SlOf.imm (idx_some e629).1 (idx_some e629).2.1 ?_
         refine RL.ldSx (i := i494) (e' := y628) 3 Ex.ik Try_ln3 rfl rfl rfl rfl SlOf.imm (idx_some e629).2.2 Part.self ?_
         refine RL.binI (v := .bool (decide (y504 ≥ y628))) rfl rfl rfl rfl rfl ?_
         refine RL.pickT rfl rfl rfl rfl ?_
         refine RL.asg rfl rfl rfl ?_
         refine RL.fin ?_
         cases h622
         exact fun a w st => mid_intro (decide (y504 ≥ y628)) h623 (St.cut [0, 1, 2] ⟨rfl, rfl, rfl, rfl, rfl, rfl, rfl, rfl, rfl, rfl, rfl, rfl, rfl, rfl, rfl, rfl, trivial⟩ (by decide) rfl st)
        replace h622 := ite_f b627 h622
        refine RL.skip rfl rfl ?_
        refine RL.skip rfl rfl ?_
        refine RL.skip rfl rfl ?_
        refine RL.skip rfl rfl ?_
        refine RL.skip rfl rfl ?_
        refine RL.skip rfl rfl ?_
        refine RL.pickF rfl rfl rfl rfl ?_
        refine RL.asg rfl rfl rfl ?_
        refine RL.fin ?_
        cases h622
        exact fun a w st => mid_intro false h623 (St.cut [0, 1, 2] ⟨rfl, rfl, rfl, rfl, rfl, rfl, rfl, rfl, rfl, rfl, rfl, rfl, rfl, rfl, rfl, rfl, trivial⟩ (by decide) rfl st)
       rintro x619 h630
       have h631 := h624 _ h630
       try dsimp only at h631
       refine GL.weak (env' := [(0, v0), (5, v344), (6, .int .i64 (i327 : Int)), (7, v342), (8, .int .i64 (i494 : Int)), (9, .int .i64 y504), (10, .bool x619), (20, v0), (21, .int .i64 ((x0).length : Int)), (22, .int .i64 (i327 : Int)), (27, v342), (28, .int .i64 ((y337).length : Int)), (29, .int .i64 (i494 : Int)), (47, v0), (48, .int .i64 ((x0).length : Int)), (49, .int .i64 (i597 : Int))]) (L' := [imm (TR.sl (TR.sl TR.int)) v0 x0, own 34 (TR.arr 2 TR.int) v344 l343, imm (TR.sl TR.int) v342 y337]) (fun _ _ st => st) ?_
       refine GL.nilB ?_
       refine GL.region ?_
       refine RL.binI (v := .int .i64 ((i597 + 1 : Nat) : Int)) rfl rfl rfl rfl (binI_succ i597 (by omega)) ?_
       refine RL.mv rfl rfl rfl ?_
       refine RL.fin ?_
       cases h631
       exact fun a w st => lop_intro (i597 + 1, r609, x619) ⟨by show i597 + 1 + r609.length = (x0).length; simp only [List.length_cons] at h603; omega, h610, h601⟩ (by simp) (St.cut [0, 1, 2] ⟨rfl, rfl, rfl, rfl, rfl, rfl, rfl, rfl, rfl, rfl, rfl, rfl, rfl, rfl, rfl, rfl, trivial⟩ (by decide) rfl st)
      have h606 : ¬ i597 < (x0).length := by have := of_decide_eq_false b605; omega
      obtain rfl : r598 = [] := by rw [← h604]; exact List.drop_of_length_le (by omega)
      replace h602 : some (Fl.nx _) = some y590 := h602
      cases h602
      exact GL.exit (fun a w st => mid_intro x563 h593 (St.cut [0, 1, 2] ⟨rfl, rfl, rfl, rfl, rfl, rfl, rfl, rfl, rfl, rfl, rfl, rfl, trivial⟩ (by decide) rfl st))
     rintro x563 h632
     have h633 := h594 _ h632
     try dsimp only at h633
     refine GL.weak (env' := [(0, v0), (5, v344), (6, .int .i64 (i327 : Int)), (7, v342), (8, .int .i64 (i494 : Int)), (10, .bool x563), (20, v0), (21, .int .i64 ((x0).length : Int)), (22, .int .i64 (i327 : Int)), (27, v342), (28, .int .i64 ((y337).length : Int)), (29, .int .i64 (i494 : Int))]) (L' := [imm (TR.sl (TR.sl TR.int)) v0 x0, own 34 (TR.arr 2 TR.int) v344 l343, imm (TR.sl TR.int) v342 y337]) (fun _ _ st => st) ?_
     refine GL.seq ?_
     refine GL.region ?_
     refine RL.mv rfl rfl rfl ?_
     refine RL.finG ?_
     refine GL.cond rfl (fun b634 => ?_) (fun b634 => ?_)
     ·replace h633 := ite_t b634 h633
      refine GL.region ?_
      refine RL.mv rfl rfl rfl ?_
      refine RL.mv rfl rfl rfl ?_
      refine RL.mv rfl rfl rfl ?_
      refine RL.bldA (t := (TR.arr 2 TR.int)) (d0 := ([(i327 : Int), (i494 : Int)] : (List Int))) (pv := [(0, .int .i64 (i327 : Int)), (1, .int .i64 (i494 : Int))]) rfl Try_bld34 (by decide) rfl rfl rfl ⟨⟨_, _, TR.int, (i327 : Int), rfl, rfl, VR.int⟩, ⟨⟨_, _, TR.int, (i494 : Int), rfl, rfl, VR.int⟩, trivial⟩⟩ (fun S f hi => by
        obtain ⟨c0, e0, r0⟩ := cells_vrep (t := TR.int) (u := .int .i64 (i327 : Int)) (e := (i327 : Int)) (VR.int S f hi)
        obtain ⟨c1, e1, r1⟩ := cells_vrep (t := TR.int) (u := .int .i64 (i494 : Int)) (e := (i494 : Int)) (VR.int S f hi)
        show TR.rep (TR.arr 2 TR.int) S (List.flatten [(.int .i64 (i327 : Int) : Value).cells.toList, (.int .i64 (i494 : Int) : Value).cells.toList]) _
        simp only [e0, e1,  List.flatten_cons, List.flatten_nil, List.append_nil]
        exact ⟨rfl, ⟨_, _, rfl, r0, ⟨_, [], (List.append_nil _).symm, r1, rfl⟩⟩⟩) ?_
      intro v640
      refine RL.bS (t := (TR.arr 2 TR.int)) (vs := [v640]) ([([(i327 : Int), (i494 : Int)] : (List Int))] : (List (List Int))) Try.underlying35 Try_lo34 rfl rfl rfl rfl ⟨(VR.item 3 rfl), trivial⟩ rfl (by decide) ?_
      intro v641
      refine RL.reL (L' := [imm (TR.sl (TR.sl TR.int)) v0 x0, own 34 (TR.arr 2 TR.int) v344 l343, imm (TR.sl TR.int) v342 y337, imm (TR.arr 2 TR.int) v640 ([(i327 : Int), (i494 : Int)] : (List Int)), own 34 (TR.arr 2 TR.int) v641 ([([(i327 : Int), (i494 : Int)] : (List Int))] : (List (List Int)))]) rfl ?_
      obtain ⟨y642, e643, h633⟩ := bind_some h633
      replace e643 := chk_some e643
      refine RL.app 1 4 Try.underlying35 Try_lo34 rfl rfl rfl rfl rfl rfl rfl SlOf.own e643 ?_
      intro v644
      refine RL.asg rfl rfl rfl ?_
      refine RL.finG ?_
      refine GL.nilB ?_
      refine GL.region ?_
      refine RL.binI (v := .int .i64 ((i494 + 1 : Nat) : Int)) rfl rfl rfl rfl (binI_succ i494 (by omega)) ?_
      refine RL.mv rfl rfl rfl ?_
      refine RL.fin ?_
      cases h633
      exact fun a w st => lop_intro (i494 + 1, r506, (l343 ++ ([([(i327 : Int), (i494 : Int)] : (List Int))] : (List (List Int)))), v644) ⟨by show i494 + 1 + r506.length = (y337).length; simp only [List.length_cons] at h500; omega, h507, h498⟩ (by simp) (St.cut [0, 1, 2] ⟨rfl, rfl, rfl, rfl, rfl, rfl, rfl, rfl, rfl, rfl, trivial⟩ (by decide) rfl st)
     replace h633 := ite_f b634 h633
     refine GL.skip ?_
     refine GL.nilB ?_
     refine GL.region ?_
     refine RL.binI (v := .int .i64 ((i494 + 1 : Nat) : Int)) rfl rfl rfl rfl (binI_succ i494 (by omega)) ?_
     refine RL.mv rfl rfl rfl ?_
     refine RL.fin ?_
     cases h633
     exact fun a w st => lop_intro (i494 + 1, r506, l343, v344) ⟨by show i494 + 1 + r506.length = (y337).length; simp only [List.length_cons] at h500; omega, h507, h498⟩ (by simp) (St.cut [0, 1, 2] ⟨rfl, rfl, rfl, rfl, rfl, rfl, rfl, rfl, rfl, rfl, trivial⟩ (by decide) rfl st)
    have h503 : ¬ i494 < (y337).length := by have := of_decide_eq_false b502; omega
    obtain rfl : r495 = [] := by rw [← h501]; exact List.drop_of_length_le (by omega)
    replace h499 : some (Fl.nx _) = some y487 := h499
    cases h499
    exact GL.exit (fun a w st => mid_intro (l343, v344) h490 (St.cut [0, 1] ⟨rfl, rfl, rfl, rfl, rfl, trivial⟩ (by decide) rfl st))
   rintro ⟨l343, v344⟩ h645
   have h646 := h491 _ h645
   try dsimp only at h646
   refine GL.weak (env' := [(0, v0), (5, v344), (20, v0), (21, .int .i64 ((x0).length : Int)), (22, .int .i64 (i327 : Int))]) (L' := [imm (TR.sl (TR.sl TR.int)) v0 x0, own 34 (TR.arr 2 TR.int) v344 l343]) (fun _ _ st => st) ?_
   refine GL.nilB ?_
   refine GL.region ?_
   refine RL.binI (v := .int .i64 ((i327 + 1 : Nat) : Int)) rfl rfl rfl rfl (binI_succ i327 (by omega)) ?_
   refine RL.mv rfl rfl rfl ?_
   refine RL.fin ?_
   cases h646
   exact fun a w st => lop_intro (i327 + 1, r339, l343, v344) ⟨by show i327 + 1 + r339.length = (x0).length; simp only [List.length_cons] at h333; omega, h340, h331⟩ (by simp) (St.cut [0, 1] ⟨rfl, rfl, rfl, rfl, rfl, trivial⟩ (by decide) rfl st)
  have h336 : ¬ i327 < (x0).length := by have := of_decide_eq_false b335; omega
  obtain rfl : r328 = [] := by rw [← h334]; exact List.drop_of_length_le (by omega)
  replace h332 : some (Fl.nx _) = some y320 := h332
  cases h332
  exact GL.exit (fun a w st => mid_intro (l7, v8) h323 (St.cut [1] ⟨rfl, trivial⟩ (by decide) rfl st))
 rintro ⟨l7, v8⟩ h647
 have h648 := h324 _ h647
 try dsimp only at h648
 refine GL.weak (env' := [(5, v8)]) (L' := [own 34 (TR.arr 2 TR.int) v8 l7]) (fun _ _ st => st) ?_
 refine GL.seq ?_
 refine GL.region ?_
 refine RL.mv rfl rfl rfl ?_
 refine RL.asg rfl rfl rfl ?_
 refine RL.asg rfl rfl rfl ?_
 refine RL.finG ?_
 have h648 := Option.some.inj h648
 subst h648
 exact GL.ret (Gx.ret (v := .tuple #[v8, .int .i64 (0 : Int)]) (res2 rfl rfl rfl) (fun a w st => (st.pick [0] (by decide) rfl).toPost v8))

set_option maxHeartbeats 4000000 in
theorem slices_IndexFunc_api_Errno_api_Errno_c (S : Hp) (w : World) (hS : S.sub w) (v0 : Value) (x0 : (List Int)) (k0 : ((TR.sl TR.int)).vrep S v0 x0) (f1 : FuncId) (c1 : Array Value) (t1 : Fit Try.prog f1) (g1 : Int → Option Bool) (k1 : ∀ (U : Hp) (w' : World), Hp.le S U → U.sub w' → ∀ (a0 : Int) (rr : Bool), g1 a0 = some rr → Calls Try.prog f1 (#[.int .i64 a0] ++ c1) w' (PostV w' (.bool rr))) (res : Int) (hm : slices_IndexFunc_api_Errno_api_Errno_m x0 g1 = some res) : Calls Try.prog 48 #[v0, .func (.func f1) #[] c1] w (PostV w (.int .i64 res)) := by
 refine calls_enter 19 Try.func48 Try.ntmps48 rfl S false [(0, v0), (1, .func (.func f1) #[] c1)] [imm (TR.sl TR.int) v0 x0] rfl ⟨rfl, ⟨rfl, trivial⟩⟩ hS ⟨k0, trivial⟩ ?_
 unfold slices_IndexFunc_api_Errno_api_Errno_m at hm
 refine GL.seq ?_
 refine GL.region ?_
 refine RL.asg rfl rfl rfl ?_
 refine RL.finG ?_
 refine GL.seq ?_
 refine GL.seq ?_
 refine GL.region ?_
 refine RL.mv rfl rfl rfl ?_
 refine RL.lenS 0 Try.underlying61 rfl rfl rfl rfl SlOf.imm ?_
 refine RL.mv rfl rfl rfl ?_
 refine RL.finG ?_
 refine GL.open_ 0 rfl (fun S h => len_imm S h) (fun n12 => ?_)
 obtain ⟨y13, K14, h15, h16, h17, h18, h19⟩ := bindR_K hm
 refine GL.join (ι := Unit) (fun (p : Unit) => []) (fun (p : Unit) => []) (fun (p : Unit) => K14 (.nx ())) ?_ ?_
 ·refine GL.block ?_
  refine GL.loop (ι := Nat × (List Int)) (fun (p : Nat × (List Int)) => [(0, v0), (1, .func (.func f1) #[] c1), (7, .int .i64 ((x0).length : Int)), (8, .int .i64 (p.1 : Int))]) (fun (p : Nat × (List Int)) => [imm (TR.sl TR.int) v0 x0]) (fun (p : Nat × (List Int)) => p.1 + p.2.length = (x0).length ∧ List.drop p.1 x0 = p.2 ∧ rangeL (slices_IndexFunc_api_Errno_api_Errno_b1 g1) p.2 p.1 () = some y13) (fun (p : Nat × (List Int)) => p.2.length) (0, x0) ⟨by simp, by simp, h15⟩ (fun a w st => St.cut [0] ⟨rfl, rfl, rfl, rfl, trivial⟩ (by decide) rfl st) ?_
  rintro ⟨i20, r21⟩ ⟨h26, h27, h25⟩
  try dsimp only at h26 h27 h25
  refine GL.weak (env' := [(0, v0), (1, .func (.func f1) #[] c1), (7, .int .i64 ((x0).length : Int)), (8, .int .i64 (i20 : Int))]) (L' := [imm (TR.sl TR.int) v0 x0]) (fun _ _ st => st) ?_
  refine GL.seq ?_
  refine GL.region ?_
  refine RL.binI (v := .bool (decide ((i20 : Int) < ((x0).length : Int)))) rfl rfl rfl rfl rfl ?_
  refine RL.finG ?_
  refine GL.seq ?_
  refine GL.cond rfl (fun b28 => ?_) (fun b28 => ?_)
  ·have h29 : i20 < (x0).length := by have := of_decide_eq_true b28; omega
   obtain ⟨y30, r32, hr, e31, h33⟩ := drop_cons h27 rfl h29
   subst hr
   obtain ⟨z22, h23, h24⟩ := rangeL_some h25
   unfold slices_IndexFunc_api_Errno_api_Errno_b1 at h23
   try dsimp only at h23
   refine GL.skip ?_
   refine GL.seq ?_
   refine GL.block ?_
   refine GL.seq ?_
   refine GL.region ?_
   refine RL.mv rfl rfl rfl ?_
   refine RL.asg rfl rfl rfl ?_
   refine RL.finG ?_
   refine GL.seq ?_
   refine GL.region ?_
   refine RL.mv rfl rfl rfl ?_
   refine RL.mv rfl rfl rfl ?_
   refine RL.mv rfl rfl rfl ?_
   refine RL.idxS (sz := 1) 0 Try.underlying61 Try_ln27 rfl rfl rfl rfl rfl SlOf.imm (by omega) (by omega) ?_
   refine RL.ldSx (i := i20) (e' := y30) 0 Ex.ik Try_ln27 rfl rfl rfl rfl SlOf.imm e31 Part.self ?_
   obtain ⟨y36, e37, h23⟩ := bind_some h23
   refine RL.callV (v := .bool y36) (vs := [.int .i64 y30]) t1 rfl (Or.inl rfl) rfl rfl rfl rfl (fun U w hU hW hL => k1 U w hW hU y30 _ e37) ?_
   refine RL.finG ?_
   refine GL.cond rfl (fun b38 => ?_) (fun b38 => ?_)
   ·replace h23 := ite_t b38 h23
    refine GL.seq ?_
    refine GL.region ?_
    refine RL.mv rfl rfl rfl ?_
    refine RL.asg rfl rfl rfl ?_
    refine RL.finG ?_
    cases h23
    replace h24 : some (Fl.rt _) = some y13 := h24
    cases h24
    have hh := h18 _ h16
    subst hh
    exact GL.ret (Gx.ret (v := .int .i64 (i20 : Int)) (res1 rfl rfl) (fun a w st => st.toPostV))
   replace h23 := ite_f b38 h23
   refine GL.skip ?_
   refine GL.nilB ?_
   refine GL.region ?_
   refine RL.binI (v := .int .i64 ((i20 + 1 : Nat) : Int)) rfl rfl rfl rfl (binI_succ i20 (by omega)) ?_
   refine RL.mv rfl rfl rfl ?_
   refine RL.fin ?_
   cases h23
   exact fun a w st => lop_intro (i20 + 1, r32) ⟨by show i20 + 1 + r32.length = (x0).length; simp only [List.length_cons] at h26; omega, h33, h24⟩ (by simp) (St.cut [0] ⟨rfl, rfl, rfl, rfl, trivial⟩ (by decide) rfl st)
  have h29 : ¬ i20 < (x0).length := by have := of_decide_eq_false b28; omega
  obtain rfl : r21 = [] := by rw [← h27]; exact List.drop_of_length_le (by omega)
  replace h25 : some (Fl.nx _) = some y13 := h25
  cases h25
  exact GL.exit (fun a w st => mid_intro () h16 (St.cut [] trivial (by decide) rfl st))
 rintro ⟨⟩ h39
 have h40 := h17 _ h39
 try dsimp only at h40
 refine GL.weak (env' := []) (L' := []) (fun _ _ st => st) ?_
 refine GL.seq ?_
 refine GL.region ?_
 refine RL.asg rfl rfl rfl ?_
 refine RL.finG ?_
 have h40 := Option.some.inj h40
 subst h40
 exact GL.ret (Gx.ret (v := .int .i64 (-1 : Int)) (res1 rfl rfl) (fun a w st => st.toPostV))

set_option maxHeartbeats 4000000 in
theorem slices_ContainsFunc_api_Errno_api_Errno_c (S : Hp) (w : World) (hS : S.sub w) (v0 : Value) (x0 : (List Int)) (k0 : ((TR.sl TR.int)).vrep S v0 x0) (f1 : FuncId) (c1 : Array Value) (t1 : Fit Try.prog f1) (g1 : Int → Option Bool) (k1 : ∀ (U : Hp) (w' : World), Hp.le S U → U.sub w' → ∀ (a0 : Int) (rr : Bool), g1 a0 = some rr → Calls Try.prog f1 (#[.int .i64 a0] ++ c1) w' (PostV w' (.bool rr))) (res : Bool) (hm : slices_ContainsFunc_api_Errno_api_Errno_m x0 g1 = some res) : Calls Try.prog 41 #[v0, .func (.func f1) #[] c1] w (PostV w (.bool res)) := by
 refine calls_enter 9 Try.func41 Try.ntmps41 rfl S false [(0, v0), (1, .func (.func f1) #[] c1)] [imm (TR.sl TR.int) v0 x0] rfl ⟨rfl, ⟨rfl, trivial⟩⟩ hS ⟨k0, trivial⟩ ?_
 unfold slices_ContainsFunc_api_Errno_api_Errno_m at hm
 refine GL.seq ?_
 refine GL.region ?_
 refine RL.asg rfl rfl rfl ?_
 refine RL.finG ?_
 refine GL.seq ?_
 refine GL.region ?_
 refine RL.mv rfl rfl rfl ?_
 refine RL.mv rfl rfl rfl ?_
 obtain ⟨y5, e6, hm⟩ := bind_some hm
 refine RL.callV (v := .int .i64 y5) (vs := [v0, .func (.func f1) #[] c1]) Try_fit48 rfl (Or.inl rfl) rfl rfl rfl rfl (fun U w hU hW hL => slices_IndexFunc_api_Errno_api_Errno_c U w hU _ _ (hL 0 _ _ rfl Seen.imm) f1 c1 t1 g1 (fun U' w' hle => k1 U' w' (Hp.le_trans hW hle)) _ e6) ?_
 refine RL.binI (v := .bool (decide (y5 ≥ (0 : Int)))) rfl rfl rfl rfl rfl ?_
 refine RL.asg rfl rfl rfl ?_
 refine RL.finG ?_
 have hm := Option.some.inj hm
 subst hm
 exact GL.ret (Gx.ret (v := .bool (decide (y5 ≥ (0 : Int)))) (res1 rfl rfl) (fun a w st => st.toPostV))

set_option maxHeartbeats 4000000 in
theorem pk_good_1_c (S : Hp) (w : World) (hS : S.sub w) (x0 : Int) (res : Bool) (hm : pk_good_1_m x0 = some res) : Calls Try.prog 42 #[.int .i64 x0] w (PostC w (.bool res)) := by
 refine calls_enter 5 Try.func42 Try.ntmps42 rfl S true [(0, .int .i64 x0)] [] rfl ⟨rfl, trivial⟩ hS trivial ?_
 unfold pk_good_1_m at hm
 refine GL.seq ?_
 refine GL.region ?_
 refine RL.asg rfl rfl rfl ?_
 refine RL.finG ?_
 refine GL.seq ?_
 refine GL.region ?_
 refine RL.mv rfl rfl rfl ?_
 refine RL.binI (v := .bool (x0 != (0 : Int))) rfl rfl rfl rfl rfl ?_
 refine RL.asg rfl rfl rfl ?_
 refine RL.finG ?_
 have hm := Option.some.inj hm
 subst hm
 exact GL.ret (Gx.ret (v := .bool (x0 != (0 : Int))) (res1 rfl rfl) (fun a w st => st.toPostC rfl))

set_option maxHeartbeats 4000000 in
theorem pk_good_c (S : Hp) (w : World) (hS : S.sub w) (v0 : Value) (x0 : (List Int)) (k0 : ((TR.sl TR.int)).vrep S v0 x0) (res : Bool) (hm : pk_good_m x0 = some res) : Calls Try.prog 26 #[v0] w (PostV w (.bool res)) := by
 refine calls_enter 6 Try.func26 Try.ntmps26 rfl S false [(0, v0)] [imm (TR.sl TR.int) v0 x0] rfl ⟨rfl, trivial⟩ hS ⟨k0, trivial⟩ ?_
 unfold pk_good_m at hm
 refine GL.seq ?_
 refine GL.region ?_
 refine RL.asg rfl rfl rfl ?_
 refine RL.finG ?_
 refine GL.seq ?_
 refine GL.region ?_
 refine RL.mv rfl rfl rfl ?_
 obtain ⟨y4, e5, hm⟩ := bind_some hm
 refine RL.callV (v := .bool y4) (vs := [v0, .func (.func 42) #[] #[]]) Try_fit41 rfl (Or.inl rfl) rfl rfl rfl rfl (fun U w hU hW hL => slices_ContainsFunc_api_Errno_api_Errno_c U w hU _ _ (hL 0 _ _ rfl Seen.imm) 42 #[] Try_fit42 (fun a0 => pk_good_1_m a0) (fun U' w' hle hU' a0 rr hr => (pk_good_1_c U' w' hU' a0 rr hr).mono (fun _ _ z => z.toV)) _ e5) ?_
 refine RL.notB rfl rfl rfl ?_
 refine RL.asg rfl rfl rfl ?_
 refine RL.finG ?_
 have hm := Option.some.inj hm
 subst hm
 exact GL.ret (Gx.ret (v := .bool (!y4)) (res1 rfl rfl) (fun a w st => st.toPostV))

set_option maxHeartbeats 4000000 in
theorem slices_Equal_pairs_c (S : Hp) (w : World) (hS : S.sub w) (v0 : Value) (x0 : (List (List Int))) (k0 : ((TR.sl (TR.arr 2 TR.int))).vrep S v0 x0) (v1 : Value) (x1 : (List (List Int))) (k1 : ((TR.sl (TR.arr 2 TR.int))).vrep S v1 x1) (res : Bool) (hm : slices_Equal_pairs_m x0 x1 = some res) : Calls Try.prog 34 #[v0, v1] w (PostV w (.bool res)) := by
 refine calls_enter 26 Try.func34 Try.ntmps34 rfl S false [(0, v0), (1, v1)] [imm (TR.sl (TR.arr 2 TR.int)) v0 x0, imm (TR.sl (TR.arr 2 TR.int)) v1 x1] rfl ⟨rfl, ⟨rfl, trivial⟩⟩ hS ⟨k0, ⟨k1, trivial⟩⟩ ?_
 unfold slices_Equal_pairs_m at hm
 refine GL.seq ?_
 refine GL.region ?_
 refine RL.asg rfl rfl rfl ?_
 refine RL.finG ?_
 refine GL.seq ?_
 refine GL.seq ?_
 refine GL.region ?_
 refine RL.mv rfl rfl rfl ?_
 refine RL.lenS 0 Try.underlying35 rfl rfl rfl rfl SlOf.imm ?_
 refine RL.mv rfl rfl rfl ?_
 refine RL.lenS 1 Try.underlying35 rfl rfl rfl rfl SlOf.imm ?_
 refine RL.binI (v := .bool (((x0).length : Int) != ((x1).length : Int))) rfl rfl rfl rfl rfl ?_
 refine RL.finG ?_
 refine GL.cond rfl (fun b3 => ?_) (fun b3 => ?_)
 ·replace hm := ite_t b3 hm
  refine GL.seq ?_
  refine GL.region ?_
  refine RL.asg rfl rfl rfl ?_
  refine RL.finG ?_
  have hm := Option.some.inj hm
  subst hm
  exact GL.ret (Gx.ret (v := .bool false) (res1 rfl rfl) (fun a w st => st.toPostV))
 replace hm := ite_f b3 hm
 refine GL.skip ?_
 refine GL.seq ?_
 refine GL.seq ?_
 refine GL.region ?_
 refine RL.mv rfl rfl rfl ?_
 refine RL.lenS 0 Try.underlying35 rfl rfl rfl rfl SlOf.imm ?_
 refine RL.mv rfl rfl rfl ?_
 refine RL.finG ?_
 refine GL.open_ 0 rfl (fun S h => len_imm S h) (fun n17 => ?_)
 obtain ⟨y18, K19, h20, h21, h22, h23, h24⟩ := bindR_K hm
 refine GL.join (ι := Unit) (fun (p : Unit) => []) (fun (p : Unit) => []) (fun (p : Unit) => K19 (.nx ())) ?_ ?_
 ·refine GL.block ?_
  refine GL.loop (ι := Nat × (List (List Int))) (fun (p : Nat × (List (List Int))) => [(0, v0), (1, v1), (12, .int .i64 ((x0).length : Int)), (13, .int .i64 (p.1 : Int))]) (fun (p : Nat × (List (List Int))) => [imm (TR.sl (TR.arr 2 TR.int)) v0 x0, imm (TR.sl (TR.arr 2 TR.int)) v1 x1]) (fun (p : Nat × (List (List Int))) => p.1 + p.2.length = (x0).length ∧ List.drop p.1 x0 = p.2 ∧ rangeL (slices_Equal_pairs_b1 x1) p.2 p.1 () = some y18) (fun (p : Nat × (List (List Int))) => p.2.length) (0, x0) ⟨by simp, by simp, h20⟩ (fun a w st => St.cut [0, 1] ⟨rfl, rfl, rfl, rfl, trivial⟩ (by decide) rfl st) ?_
  rintro ⟨i25, r26⟩ ⟨h31, h32, h30⟩
  try dsimp only at h31 h32 h30
  refine GL.weak (env' := [(0, v0), (1, v1), (12, .int .i64 ((x0).length : Int)), (13, .int .i64 (i25 : Int))]) (L' := [imm (TR.sl (TR.arr 2 TR.int)) v0 x0, imm (TR.sl (TR.arr 2 TR.int)) v1 x1]) (fun _ _ st => st) ?_
  refine GL.seq ?_
  refine GL.region ?_
  refine RL.binI (v := .bool (decide ((i25 : Int) < ((x0).length : Int)))) rfl rfl rfl rfl rfl ?_
  refine RL.finG ?_
  refine GL.seq ?_
  refine GL.cond rfl (fun b33 => ?_) (fun b33 => ?_)
  ·have h34 : i25 < (x0).length := by have := of_decide_eq_true b33; omega
   obtain ⟨y35, r37, hr, e36, h38⟩ := drop_cons h32 rfl h34
   subst hr
   obtain ⟨z27, h28, h29⟩ := rangeL_some h30
   unfold slices_Equal_pairs_b1 at h28
   try dsimp only at h28
   refine GL.skip ?_
   refine GL.seq ?_
   refine GL.block ?_
   refine GL.seq ?_
   refine GL.region ?_
   refine RL.mv rfl rfl rfl ?_
   refine RL.asg rfl rfl rfl ?_
   refine RL.finG ?_
   refine GL.seq ?_
   refine GL.regionQ rfl rfl (by kernel_rfl) ?_
   refine RL.mv rfl rfl rfl ?_
   refine RL.mv rfl rfl rfl ?_
   refine RL.idxS (sz := 2) 0 Try.underlying35 Try_ln34 rfl rfl rfl rfl rfl SlOf.imm (by omega) (by omega) ?_
   refine RL.ldS (i := i25) (r := (TR.arr 2 TR.int)) (e' := y35) 0 Try_ln34 rfl rfl rfl rfl SlOf.imm e36 Part.self ?_
   intro v43
   refine RL.mv rfl rfl rfl ?_
   refine RL.mv rfl rfl rfl ?_
   obtain ⟨y44, e45, h28⟩ := bind_some h28
   refine RL.idxS (sz := 2) 1 Try.underlying35 Try_ln34 rfl rfl rfl rfl rfl SlOf.imm (idx_some e45).1 (idx_some e45).2.1 ?_
   refine RL.ldS (i := i25) (r := (TR.arr 2 TR.int)) (e' := y44) 1 Try_ln34 rfl rfl rfl rfl SlOf.imm (idx_some e45).2.2 Part.self ?_
   intro v46
   refine RL.reL (L' := [imm (TR.sl (TR.arr 2 TR.int)) v0 x0, imm (TR.sl (TR.arr 2 TR.int)) v1 x1, imm (TR.arr 2 TR.int) v43 y35, imm (TR.arr 2 TR.int) v46 y44]) rfl ?_
   refine RL.neG (t := (TR.arr 2 TR.int)) (e := y35) (e' := y44) rfl Try_eq34 (by decide) Try.eqGuardType34 rfl rfl rfl rfl (VR.item 2 rfl) (VR.item 3 rfl) ?_
   refine RL.finQG ?_
   refine GL.cond rfl (fun b47 => ?_) (fun b47 => ?_)
   ·replace h28 := ite_t b47 h28
    refine GL.seq ?_
    refine GL.region ?_
    refine RL.asg rfl rfl rfl ?_
    refine RL.finG ?_
    cases h28
    replace h29 : some (Fl.rt _) = some y18 := h29
    cases h29
    have hh := h23 _ h21
    subst hh
    exact GL.ret (Gx.ret (v := .bool false) (res1 rfl rfl) (fun a w st => st.toPostV))
   replace h28 := ite_f b47 h28
   refine GL.skip ?_
   refine GL.nilB ?_
   refine GL.region ?_
   refine RL.binI (v := .int .i64 ((i25 + 1 : Nat) : Int)) rfl rfl rfl rfl (binI_succ i25 (by omega)) ?_
   refine RL.mv rfl rfl rfl ?_
   refine RL.fin ?_
   cases h28
   exact fun a w st => lop_intro (i25 + 1, r37) ⟨by show i25 + 1 + r37.length = (x0).length; simp only [List.length_cons] at h31; omega, h38, h29⟩ (by simp) (St.cut [0, 1] ⟨rfl, rfl, rfl, rfl, trivial⟩ (by decide) rfl st)
  have h34 : ¬ i25 < (x0).length := by have := of_decide_eq_false b33; omega
  obtain rfl : r26 = [] := by rw [← h32]; exact List.drop_of_length_le (by omega)
  replace h30 : some (Fl.nx _) = some y18 := h30
  cases h30
  exact GL.exit (fun a w st => mid_intro () h21 (St.cut [] trivial (by decide) rfl st))
 rintro ⟨⟩ h48
 have h49 := h22 _ h48
 try dsimp only at h49
 refine GL.weak (env' := []) (L' := []) (fun _ _ st => st) ?_
 refine GL.seq ?_
 refine GL.region ?_
 refine RL.asg rfl rfl rfl ?_
 refine RL.finG ?_
 have h49 := Option.some.inj h49
 subst h49
 exact GL.ret (Gx.ret (v := .bool true) (res1 rfl rfl) (fun a w st => st.toPostV))

set_option maxHeartbeats 4000000 in
theorem pk_saddles_c (S : Hp) (w : World) (hS : S.sub w)  (res : Bool) (hm : pk_saddles_m = some res) : Calls Try.prog 19 #[] w (PostV w (.bool res)) := by
 refine calls_enter 39 Try.func19 Try.ntmps19 rfl S false [] [] rfl trivial hS trivial ?_
 unfold pk_saddles_m at hm
 refine GL.seq ?_
 refine GL.region ?_
 refine RL.asg rfl rfl rfl ?_
 refine RL.finG ?_
 refine GL.seq ?_
 refine GL.region ?_
 refine RL.bS (t := TR.int) (vs := [.int .i64 (3 : Int), .int .i64 (1 : Int)]) ([(3 : Int), (1 : Int)] : (List Int)) Try.underlying32 Try_lo3 rfl rfl rfl rfl ⟨VR.int, ⟨VR.int, trivial⟩⟩ rfl (by decide) ?_
 intro v6
 refine RL.bS (t := TR.int) (vs := [.int .i64 (4 : Int), .int .i64 (2 : Int)]) ([(4 : Int), (2 : Int)] : (List Int)) Try.underlying32 Try_lo3 rfl rfl rfl rfl ⟨VR.int, ⟨VR.int, trivial⟩⟩ rfl (by decide) ?_
 intro v7
 refine RL.reL (L' := [own 3 TR.int v6 ([(3 : Int), (1 : Int)] : (List Int)), own 3 TR.int v7 ([(4 : Int), (2 : Int)] : (List Int))]) rfl ?_
 refine RL.weak (fun a w st => st.freeze 0 rfl) ?_
 refine RL.weak (fun a w st => st.freeze 1 rfl) ?_
 refine RL.bS (t := (TR.sl TR.int)) (vs := [v6, v7]) ([([(3 : Int), (1 : Int)] : (List Int)), ([(4 : Int), (2 : Int)] : (List Int))] : (List (List Int))) Try.underlying22 Try_lo32 rfl rfl rfl rfl ⟨(VR.item 0 rfl), ⟨(VR.item 1 rfl), trivial⟩⟩ rfl (by decide) ?_
 intro v8
 refine RL.reL (L' := [imm (TR.sl TR.int) v6 ([(3 : Int), (1 : Int)] : (List Int)), imm (TR.sl TR.int) v7 ([(4 : Int), (2 : Int)] : (List Int)), own 32 (TR.sl TR.int) v8 ([([(3 : Int), (1 : Int)] : (List Int)), ([(4 : Int), (2 : Int)] : (List Int))] : (List (List Int)))]) rfl ?_
 obtain ⟨y9, e10, hm⟩ := bind_some hm
 refine RL.callC (v := .tuple #[.int .i64 y9.1, .int .i64 y9.2.1, .int .i64 y9.2.2]) (vs := [v8]) Try_fit20 rfl rfl rfl rfl (fun U w hU hW hL => saddle_Bounds_c U w hU _ _ (hL 2 _ _ rfl Seen.own) _ e10) ?_
 refine RL.mv rfl rfl rfl ?_
 refine RL.ext rfl rfl rfl rfl ?_
 refine RL.ext rfl rfl rfl rfl ?_
 refine RL.ext rfl rfl rfl rfl ?_
 refine RL.asg rfl rfl rfl ?_
 refine RL.asg rfl rfl rfl ?_
 refine RL.asg rfl rfl rfl ?_
 refine RL.finG ?_
 refine GL.seq ?_
 refine GL.region ?_
 refine RL.bS (t := TR.int) (vs := [.int .i64 (3 : Int), .int .i64 (1 : Int)]) ([(3 : Int), (1 : Int)] : (List Int)) Try.underlying32 Try_lo3 rfl rfl rfl rfl ⟨VR.int, ⟨VR.int, trivial⟩⟩ rfl (by decide) ?_
 intro v17
 refine RL.bS (t := TR.int) (vs := [.int .i64 (4 : Int), .int .i64 (2 : Int)]) ([(4 : Int), (2 : Int)] : (List Int)) Try.underlying32 Try_lo3 rfl rfl rfl rfl ⟨VR.int, ⟨VR.int, trivial⟩⟩ rfl (by decide) ?_
 intro v18
 refine RL.reL (L' := [imm (TR.sl TR.int) v6 ([(3 : Int), (1 : Int)] : (List Int)), imm (TR.sl TR.int) v7 ([(4 : Int), (2 : Int)] : (List Int)), own 32 (TR.sl TR.int) v8 ([([(3 : Int), (1 : Int)] : (List Int)), ([(4 : Int), (2 : Int)] : (List Int))] : (List (List Int))), own 3 TR.int v17 ([(3 : Int), (1 : Int)] : (List Int)), own 3 TR.int v18 ([(4 : Int), (2 : Int)] : (List Int))]) rfl ?_
 refine RL.weak (fun a w st => st.freeze 3 rfl) ?_
 refine RL.weak (fun a w st => st.freeze 4 rfl) ?_
 refine RL.bS (t := (TR.sl TR.int)) (vs := [v17, v18]) ([([(3 : Int), (1 : Int)] : (List Int)), ([(4 : Int), (2 : Int)] : (List Int))] : (List (List Int))) Try.underlying22 Try_lo32 rfl rfl rfl rfl ⟨(VR.item 3 rfl), ⟨(VR.item 4 rfl), trivial⟩⟩ rfl (by decide) ?_
 intro v19
 refine RL.reL (L' := [imm (TR.sl TR.int) v6 ([(3 : Int), (1 : Int)] : (List Int)), imm (TR.sl TR.int) v7 ([(4 : Int), (2 : Int)] : (List Int)), own 32 (TR.sl TR.int) v8 ([([(3 : Int), (1 : Int)] : (List Int)), ([(4 : Int), (2 : Int)] : (List Int))] : (List (List Int))), imm (TR.sl TR.int) v17 ([(3 : Int), (1 : Int)] : (List Int)), imm (TR.sl TR.int) v18 ([(4 : Int), (2 : Int)] : (List Int)), own 32 (TR.sl TR.int) v19 ([([(3 : Int), (1 : Int)] : (List Int)), ([(4 : Int), (2 : Int)] : (List Int))] : (List (List Int)))]) rfl ?_
 obtain ⟨y20, e21, hm⟩ := bind_some hm
 refine RL.callU (vs := [v19]) (LR := fun (o : Value) => [own 34 (TR.arr 2 TR.int) o y20.1]) (fun o => ⟨Loc.own (TR.flatT_arr TR.flatT_ik), trivial⟩) Try_fit21 rfl rfl rfl rfl rfl (fun U w hU hW hL => saddle_Points_c U w hU _ _ (hL 5 _ _ rfl Seen.own) _ e21) ?_
 intro v22
 refine RL.mv rfl rfl rfl ?_
 refine RL.ext rfl rfl rfl rfl ?_
 refine RL.ext rfl rfl rfl rfl ?_
 refine RL.asg rfl rfl rfl ?_
 refine RL.asg rfl rfl rfl ?_
 refine RL.finG ?_
 refine GL.seq ?_
 obtain ⟨y44, K45, h46, h47, h48, h49, h50⟩ := bindR_K hm
 refine GL.join (ι := Bool) (fun (p : Bool) => [(0, .bool p)]) (fun (p : Bool) => []) (fun (p : Bool) => K45 (.nx p)) ?_ ?_
 ·skip
  refine GL.region ?_
  refine RL.mv rfl rfl rfl ?_
  refine RL.mv rfl rfl rfl ?_
  refine RL.bS (t := TR.int) (vs := [.int .i64 y9.2.2, .int .i64 y20.2]) ([y9.2.2, y20.2] : (List Int)) Try.underlying61 Try_lo27 rfl rfl rfl rfl ⟨VR.int, ⟨VR.int, trivial⟩⟩ rfl (by decide) ?_
  intro v51
  obtain ⟨y52, e53, h46⟩ := bind_some h46
  refine RL.callV (v := .bool y52) (vs := [v51]) Try_fit26 rfl (Or.inl rfl) rfl rfl rfl rfl (fun U w hU hW hL => pk_good_c U w hU _ _ (hL 7 _ _ rfl Seen.own) _ e53) ?_
  refine RL.mv rfl rfl rfl ?_
  refine RL.split (t := 25) rfl (fun b54 => ?_) (fun b54 => ?_)
  ·replace h46 := ite_t b54 h46
   refine RL.mv rfl rfl rfl ?_
   refine RL.binI (v := .bool (y9.1 == (2 : Int))) rfl rfl rfl rfl rfl ?_
   refine RL.pickT rfl rfl rfl rfl ?_
   refine RL.mv rfl rfl rfl ?_
   refine RL.split (t := 29) rfl (fun b55 => ?_) (fun b55 => ?_)
   ·replace h46 := ite_t b55 h46
    refine RL.mv rfl rfl rfl ?_
    refine RL.binI (v := .bool (y9.2.1 == (2 : Int))) rfl rfl rfl rfl rfl ?_
    refine RL.pickT rfl rfl rfl rfl ?_
    refine RL.mv rfl rfl rfl ?_
    refine RL.split (t := 33) rfl (fun b56 => ?_) (fun b56 => ?_)
    ·replace h46 := ite_t b56 h46
     refine RL.mv rfl rfl rfl ?_
     refine RL.bldA (t := (TR.arr 2 TR.int)) (d0 := ([(1 : Int), (1 : Int)] : (List Int))) (pv := [(0, .int .i64 (1 : Int)), (1, .int .i64 (1 : Int))]) rfl Try_bld34 (by decide) rfl rfl rfl ⟨⟨_, _, TR.int, (1 : Int), rfl, rfl, VR.int⟩, ⟨⟨_, _, TR.int, (1 : Int), rfl, rfl, VR.int⟩, trivial⟩⟩ (fun S f hi => by
       obtain ⟨c0, e0, r0⟩ := cells_vrep (t := TR.int) (u := .int .i64 (1 : Int)) (e := (1 : Int)) (VR.int S f hi)
       obtain ⟨c1, e1, r1⟩ := cells_vrep (t := TR.int) (u := .int .i64 (1 : Int)) (e := (1 : Int)) (VR.int S f hi)
       show TR.rep (TR.arr 2 TR.int) S (List.flatten [(.int .i64 (1 : Int) : Value).cells.toList, (.int .i64 (1 : Int) : Value).cells.toList]) _
       simp only [e0, e1,  List.flatten_cons, List.flatten_nil, List.append_nil]
       exact ⟨rfl, ⟨_, _, rfl, r0, ⟨_, [], (List.append_nil _).symm, r0, rfl⟩⟩⟩) ?_
     intro v57
     refine RL.reL (L' := [imm (TR.sl TR.int) v6 ([(3 : Int), (1 : Int)] : (List Int)), imm (TR.sl TR.int) v7 ([(4 : Int), (2 : Int)] : (List Int)), own 32 (TR.sl TR.int) v8 ([([(3 : Int), (1 : Int)] : (List Int)), ([(4 : Int), (2 : Int)] : (List Int))] : (List (List Int))), imm (TR.sl TR.int) v17 ([(3 : Int), (1 : Int)] : (List Int)), imm (TR.sl TR.int) v18 ([(4 : Int), (2 : Int)] : (List Int)), own 32 (TR.sl TR.int) v19 ([([(3 : Int), (1 : Int)] : (List Int)), ([(4 : Int), (2 : Int)] : (List Int))] : (List (List Int))), own 34 (TR.arr 2 TR.int) v22 y20.1, own 27 TR.int v51 ([y9.2.2, y20.2] : (List Int)), imm (TR.arr 2 TR.int) v57 ([(1 : Int), (1 : Int)] : (List Int))]) rfl ?_
     refine RL.bS (t := (TR.arr 2 TR.int)) (vs := [v57]) ([([(1 : Int), (1 : Int)] : (List Int))] : (List (List Int))) Try.underlying35 Try_lo34 rfl rfl rfl rfl ⟨(VR.item 8 rfl), trivial⟩ rfl (by decide) ?_
     intro v58
     obtain ⟨y59, e60, h46⟩ := bind_some h46
     refine RL.callV (v := .bool y59) (vs := [v22, v58]) Try_fit34 rfl (Or.inl rfl) rfl rfl rfl rfl (fun U w hU hW hL => slices_Equal_pairs_c U w hU _ _ (hL 6 _ _ rfl Seen.own) _ _ (hL 9 _ _ rfl Seen.own) _ e60) ?_
     refine RL.pickT rfl rfl rfl rfl ?_
     refine RL.asg rfl rfl rfl ?_
     refine RL.fin ?_
     cases h46
     exact fun a w st => mid_intro y59 h47 (St.cut [] ⟨rfl, trivial⟩ (by decide) rfl st)
    replace h46 := ite_f b56 h46
    refine RL.skip rfl rfl ?_
    refine RL.skip rfl rfl ?_
    refine RL.skip rfl rfl ?_
    refine RL.skip rfl rfl ?_
    refine RL.pickF rfl rfl rfl rfl ?_
    refine RL.asg rfl rfl rfl ?_
    refine RL.fin ?_
    cases h46
    exact fun a w st => mid_intro false h47 (St.cut [] ⟨rfl, trivial⟩ (by decide) rfl st)
   replace h46 := ite_f b55 h46
   refine RL.skip rfl rfl ?_
   refine RL.skip rfl rfl ?_
   refine RL.pickF rfl rfl rfl rfl ?_
   refine RL.mv rfl rfl rfl ?_
   refine RL.skip rfl rfl ?_
   refine RL.skip rfl rfl ?_
   refine RL.skip rfl rfl ?_
   refine RL.skip rfl rfl ?_
   refine RL.pickF rfl rfl rfl rfl ?_
   refine RL.asg rfl rfl rfl ?_
   refine RL.fin ?_
   cases h46
   exact fun a w st => mid_intro false h47 (St.cut [] ⟨rfl, trivial⟩ (by decide) rfl st)
  replace h46 := ite_f b54 h46
  refine RL.skip rfl rfl ?_
  refine RL.skip rfl rfl ?_
  refine RL.pickF rfl rfl rfl rfl ?_
  refine RL.mv rfl rfl rfl ?_
  refine RL.skip rfl rfl ?_
  refine RL.skip rfl rfl ?_
  refine RL.pickF rfl rfl rfl rfl ?_
  refine RL.mv rfl rfl rfl ?_
  refine RL.skip rfl rfl ?_
  refine RL.skip rfl rfl ?_
  refine RL.skip rfl rfl ?_
  refine RL.skip rfl rfl ?_
  refine RL.pickF rfl rfl rfl rfl ?_
  refine RL.asg rfl rfl rfl ?_
  refine RL.fin ?_
  cases h46
  exact fun a w st => mid_intro false h47 (St.cut [] ⟨rfl, trivial⟩ (by decide) rfl st)
 rintro x43 h61
 have h62 := h48 _ h61
 try dsimp only at h62
 refine GL.weak (env' := [(0, .bool x43)]) (L' := []) (fun _ _ st => st) ?_
 have h62 := Option.some.inj h62
 subst h62
 exact GL.ret (Gx.ret (v := .bool x43) (res1 rfl rfl) (fun a w st => st.toPostV))

set_option maxHeartbeats 4000000 in
theorem pk_two_c (S : Hp) (w : World) (hS : S.sub w) (v0 : Value) (x0 : (List (List Int))) (k0 : ((TR.sl (TR.sl TR.int))).vrep S v0 x0) (res : (List (List Int))) (hm : pk_two_m x0 = some res) : Calls Try.prog 15 #[v0] w (Post w S (fun (o : Value) => o) (fun (o : Value) => [imm (TR.sl (TR.sl TR.int)) o res])) := by
 refine calls_enter 9 Try.func15 Try.ntmps15 rfl S false [(0, v0)] [imm (TR.sl (TR.sl TR.int)) v0 x0] rfl ⟨rfl, trivial⟩ hS ⟨k0, trivial⟩ ?_
 unfold pk_two_m at hm
 refine GL.seq ?_
 refine GL.region ?_
 refine RL.asg rfl rfl rfl ?_
 refine RL.finG ?_
 refine GL.seq ?_
 refine GL.seq ?_
 refine GL.region ?_
 refine RL.mv rfl rfl rfl ?_
 refine RL.lenS 0 Try.underlying22 rfl rfl rfl rfl SlOf.imm ?_
 refine RL.binI (v := .bool (decide (((x0).length : Int) > (2 : Int)))) rfl rfl rfl rfl rfl ?_
 refine RL.finG ?_
 refine GL.cond rfl (fun b2 => ?_) (fun b2 => ?_)
 ·replace hm := ite_t b2 hm
  refine GL.seq ?_
  refine GL.region ?_
  refine RL.mv rfl rfl rfl ?_
  obtain ⟨y6, e7, hm⟩ := bind_some hm
  replace e7 := chk_some e7
  refine RL.slc (t := (TR.sl TR.int)) (i := 0) (j := ((2 : Int)).toNat) (sz := 1) 0 Try.underlying22 Try_ln32 rfl rfl rfl rfl (Or.inl ⟨rfl, rfl⟩) (Or.inr ⟨_, _, rfl, by rw [Int.toNat_of_nonneg (by omega)]; rfl⟩) rfl (by omega) (by omega) ?_
  intro v8
  refine RL.asg rfl rfl rfl ?_
  refine RL.finG ?_
  have hm := Option.some.inj hm
  subst hm
  exact GL.ret (Gx.ret (v := v8) (res1 rfl rfl) (fun a w st => (st.pick [1] (by decide) rfl).toPost v8))
 replace hm := ite_f b2 hm
 refine GL.skip ?_
 refine GL.seq ?_
 refine GL.region ?_
 refine RL.mv rfl rfl rfl ?_
 refine RL.asg rfl rfl rfl ?_
 refine RL.finG ?_
 have hm := Option.some.inj hm
 subst hm
 exact GL.ret (Gx.ret (v := v0) (res1 rfl rfl) (fun a w st => (st.pick [0] (by decide) rfl).toPost v0))

set_option maxHeartbeats 4000000 in
theorem pk_MixedBounds_c (S : Hp) (w : World) (hS : S.sub w) (v0 : Value) (x0 : (List (List Int))) (k0 : ((TR.sl (TR.sl TR.int))).vrep S v0 x0) (res : Bool) (hm : pk_MixedBounds_m x0 = some res) : Calls Try.prog 10 #[v0] w (PostV w (.bool res)) := by
 refine calls_enter 68 Try.func10 Try.ntmps10 rfl S false [(0, v0)] [imm (TR.sl (TR.sl TR.int)) v0 x0] rfl ⟨rfl, trivial⟩ hS ⟨k0, trivial⟩ ?_
 unfold pk_MixedBounds_m at hm
 refine GL.seq ?_
 refine GL.region ?_
 refine RL.asg rfl rfl rfl ?_
 refine RL.finG ?_
 refine GL.seq ?_
 refine GL.seq ?_
 obtain ⟨y13, K14, h15, h16, h17, h18, h19⟩ := bindR_K hm
 refine GL.join (ι := Bool) (fun (p : Bool) => [(0, v0), (14, .bool p)]) (fun (p : Bool) => [imm (TR.sl (TR.sl TR.int)) v0 x0]) (fun (p : Bool) => K14 (.nx p)) ?_ ?_
 ·skip
  refine GL.region ?_
  obtain ⟨y20, e21, h15⟩ := bind_some h15
  refine RL.callV (v := .bool y20) (vs := []) Try_fit14 rfl (Or.inl rfl) rfl rfl rfl rfl (fun U w hU hW hL => pk_mixes_c U w hU  _ e21) ?_
  refine RL.notB rfl rfl rfl ?_
  refine RL.mv rfl rfl rfl ?_
  refine RL.split (t := 11) rfl (fun b22 => ?_) (fun b22 => ?_)
  ·replace h15 := ite_t b22 h15
   refine RL.skip rfl rfl ?_
   refine RL.skip rfl rfl ?_
   refine RL.pickT rfl rfl rfl rfl ?_
   refine RL.fin ?_
   cases h15
   exact fun a w st => mid_intro true h16 (St.cut [0] ⟨rfl, rfl, trivial⟩ (by decide) rfl st)
  replace h15 := ite_f b22 h15
  obtain ⟨y23, e24, h15⟩ := bind_some h15
  refine RL.callV (v := .bool y23) (vs := []) Try_fit19 rfl (Or.inl rfl) rfl rfl rfl rfl (fun U w hU hW hL => pk_saddles_c U w hU  _ e24) ?_
  refine RL.notB rfl rfl rfl ?_
  refine RL.pickF rfl rfl rfl rfl ?_
  refine RL.fin ?_
  cases h15
  exact fun a w st => mid_intro (!y23) h16 (St.cut [0] ⟨rfl, rfl, trivial⟩ (by decide) rfl st)
 rintro x12 h25
 have h26 := h17 _ h25
 try dsimp only at h26
 refine GL.weak (env' := [(0, v0), (14, .bool x12)]) (L' := [imm (TR.sl (TR.sl TR.int)) v0 x0]) (fun _ _ st => st) ?_
 refine GL.cond rfl (fun b27 => ?_) (fun b27 => ?_)
 ·replace h26 := ite_t b27 h26
  refine GL.seq ?_
  refine GL.region ?_
  refine RL.asg rfl rfl rfl ?_
  refine RL.finG ?_
  have h26 := Option.some.inj h26
  subst h26
  exact GL.ret (Gx.ret (v := .bool false) (res1 rfl rfl) (fun a w st => st.toPostV))
 replace h26 := ite_f b27 h26
 refine GL.skip ?_
 refine GL.seq ?_
 refine GL.region ?_
 refine RL.mv rfl rfl rfl ?_
 obtain ⟨y31, e32, h26⟩ := bind_some h26
 refine RL.call (vs := [v0]) Try_fit15 rfl rfl rfl rfl rfl (fun S f w hS hW hi => pk_two_c S w hS _ _ (hi 0 _ rfl) _ e32) ?_
 intro v33
 refine RL.asg rfl rfl rfl ?_
 refine RL.finG ?_
 refine GL.seq ?_
 refine GL.region ?_
 refine RL.mv rfl rfl rfl ?_
 obtain ⟨y40, e41, h26⟩ := bind_some h26
 refine RL.call (vs := [v33]) Try_fit16 rfl rfl rfl rfl rfl (fun S f w hS hW hi => mixed_Solve_c S w hS _ _ (hi 1 _ rfl) _ e41) ?_
 intro ⟨v42, v43⟩
 refine RL.reL (L' := [imm (TR.sl (TR.sl TR.int)) v0 x0, imm (TR.sl (TR.sl TR.int)) v33 y31, imm (TR.pair TR.int TR.int) v42 y40.1, imm (TR.pair TR.int TR.int) v43 y40.2.1]) rfl ?_
 refine RL.mv rfl rfl rfl ?_
 refine RL.ext rfl rfl rfl rfl ?_
 refine RL.ext rfl rfl rfl rfl ?_
 refine RL.ext rfl rfl rfl rfl ?_
 refine RL.alloc (t := (TR.pair TR.int TR.int)) (z := ((0 : Int), (0 : Int))) Try_lo26 (fun S => ⟨[.int .i64 0], _, rfl, rfl, rfl⟩) rfl rfl rfl ?_
 intro v44
 refine RL.alloc (t := (TR.pair TR.int TR.int)) (z := ((0 : Int), (0 : Int))) Try_lo26 (fun S => ⟨[.int .i64 0], _, rfl, rfl, rfl⟩) rfl rfl rfl ?_
 intro v45
 refine RL.reL (L' := [imm (TR.sl (TR.sl TR.int)) v0 x0, imm (TR.sl (TR.sl TR.int)) v33 y31, imm (TR.pair TR.int TR.int) v42 y40.1, imm (TR.pair TR.int TR.int) v43 y40.2.1, obox 26 (TR.pair TR.int TR.int) v44 ((0 : Int), (0 : Int)), obox 26 (TR.pair TR.int TR.int) v45 ((0 : Int), (0 : Int))]) rfl ?_
 refine RL.stP (off := 0) (e' := y40.1) (d1 := y40.1) (r := (TR.pair TR.int TR.int)) 4 Try_ln26 rfl rfl (Or.inr ⟨rfl, rfl⟩) rfl (VR.item 2 rfl) rfl Upd.self ?_
 refine RL.stP (off := 0) (e' := y40.2.1) (d1 := y40.2.1) (r := (TR.pair TR.int TR.int)) 5 Try_ln26 rfl rfl (Or.inr ⟨rfl, rfl⟩) rfl (VR.item 3 rfl) rfl Upd.self ?_
 refine RL.reL (L' := [imm (TR.sl (TR.sl TR.int)) v0 x0, imm (TR.sl (TR.sl TR.int)) v33 y31, imm (TR.pair TR.int TR.int) v42 y40.1, imm (TR.pair TR.int TR.int) v43 y40.2.1, obox 26 (TR.pair TR.int TR.int) v44 y40.1, obox 26 (TR.pair TR.int TR.int) v45 y40.2.1]) rfl ?_
 refine RL.asg rfl rfl rfl ?_
 refine RL.finG ?_
 refine GL.seq ?_
 refine GL.region ?_
 refine RL.mv rfl rfl rfl ?_
 obtain ⟨y48, e49, h26⟩ := bind_some h26
 refine RL.callC (v := .tuple #[.int .i64 y48.1, .int .i64 y48.2.1, .int .i64 y48.2.2]) (vs := [v33]) Try_fit20 rfl rfl rfl rfl (fun U w hU hW hL => saddle_Bounds_c U w hU _ _ (hL 1 _ _ rfl Seen.imm) _ e49) ?_
 refine RL.mv rfl rfl rfl ?_
 refine RL.ext rfl rfl rfl rfl ?_
 refine RL.ext rfl rfl rfl rfl ?_
 refine RL.ext rfl rfl rfl rfl ?_
 refine RL.asg rfl rfl rfl ?_
 refine RL.asg rfl rfl rfl ?_
 refine RL.asg rfl rfl rfl ?_
 refine RL.finG ?_
 refine GL.seq ?_
 refine GL.seq ?_
 refine GL.region ?_
 refine RL.mv rfl rfl rfl ?_
 refine RL.binI (v := .bool (y40.2.2 != (0 : Int))) rfl rfl rfl rfl rfl ?_
 refine RL.finG ?_
 refine GL.cond rfl (fun b50 => ?_) (fun b50 => ?_)
 ·replace h26 := ite_t b50 h26
  refine GL.seq ?_
  refine GL.region ?_
  refine RL.ldP (off := 0) (r := (TR.pair TR.int TR.int)) (e' := y40.2.1) 5 Try_ln26 rfl rfl (Or.inr ⟨rfl, rfl⟩) rfl PtOf.obox Part.self ?_
  intro v53
  refine RL.bld (t := (TR.pair TR.int TR.int)) (d0 := (((0 : Int), (0 : Int)) : (Int × Int))) (pv := []) rfl Try_bld26 rfl rfl rfl trivial (fun S f hi => by
    show TR.rep (TR.pair TR.int TR.int) S (List.flatten [[.int .i64 0], [.int .i64 0]]) _
    simp only [ List.flatten_cons, List.flatten_nil, List.append_nil]
    exact ⟨_, _, rfl, rfl, rfl⟩) ?_
  intro v54
  refine RL.reL (L' := [imm (TR.sl (TR.sl TR.int)) v0 x0, imm (TR.sl (TR.sl TR.int)) v33 y31, imm (TR.pair TR.int TR.int) v42 y40.1, imm (TR.pair TR.int TR.int) v43 y40.2.1, obox 26 (TR.pair TR.int TR.int) v44 y40.1, obox 26 (TR.pair TR.int TR.int) v45 y40.2.1, imm (TR.pair TR.int TR.int) v53 y40.2.1, imm (TR.pair TR.int TR.int) v54 (((0 : Int), (0 : Int)) : (Int × Int))]) rfl ?_
  refine RL.eqG (t := (TR.pair TR.int TR.int)) (e := y40.2.1) (e' := (((0 : Int), (0 : Int)) : (Int × Int))) rfl Try_eq26 (by decide) Try.eqGuardType26 rfl rfl rfl rfl (VR.item 6 rfl) (VR.item 7 rfl) ?_
  refine RL.asg rfl rfl rfl ?_
  refine RL.finG ?_
  have h26 := Option.some.inj h26
  subst h26
  exact GL.ret (Gx.ret (v := .bool (decide (y40.2.1 = (((0 : Int), (0 : Int)) : (Int × Int))))) (res1 rfl rfl) (fun a w st => st.toPostV))
 replace h26 := ite_f b50 h26
 refine GL.skip ?_
 refine GL.seq ?_
 obtain ⟨y64, K65, h66, h67, h68, h69, h70⟩ := bindR_K h26
 refine GL.join (ι := Bool) (fun (p : Bool) => [(2, .bool p)]) (fun (p : Bool) => []) (fun (p : Bool) => K65 (.nx p)) ?_ ?_
 ·skip
  refine GL.region ?_
  refine RL.mv rfl rfl rfl ?_
  refine RL.binI (v := .bool (y48.2.2 == (0 : Int))) rfl rfl rfl rfl rfl ?_
  refine RL.mv rfl rfl rfl ?_
  refine RL.split (t := 36) rfl (fun b71 => ?_) (fun b71 => ?_)
  ·replace h66 := ite_t b71 h66
   refine RL.mv rfl rfl rfl ?_
   refine RL.fadr (off := 0) (fo := 1) 5 Try_fld26_1 rfl rfl rfl PtOf.obox (Or.inr ⟨rfl, rfl⟩) ?_
   refine RL.ldPx (off := (0 + 1)) (e' := y40.2.1.2) 5 Ex.ik Try_ln3 rfl rfl (Or.inl rfl) rfl PtOf.obox (Part.snd Part.self) ?_
   refine RL.binI (v := .int .i64 (wmul y48.1 y40.2.1.2)) rfl rfl rfl rfl rfl ?_
   refine RL.fadr (off := 0) (fo := 0) 5 Try_fld26_0 rfl rfl rfl PtOf.obox (Or.inr ⟨rfl, rfl⟩) ?_
   refine RL.ldPx (off := (0 + 0)) (e' := y40.2.1.1) 5 Ex.ik Try_ln3 rfl rfl (Or.inl rfl) rfl PtOf.obox (Part.fst Part.self) ?_
   refine RL.binI (v := .bool (decide ((wmul y48.1 y40.2.1.2) ≤ y40.2.1.1))) rfl rfl rfl rfl rfl ?_
   refine RL.pickT rfl rfl rfl rfl ?_
   refine RL.mv rfl rfl rfl ?_
   refine RL.split (t := 45) rfl (fun b72 => ?_) (fun b72 => ?_)
   ·replace h66 := ite_t b72 h66
    refine RL.fadr (off := 0) (fo := 0) 5 Try_fld26_0 rfl rfl rfl PtOf.obox (Or.inr ⟨rfl, rfl⟩) ?_
    refine RL.ldPx (off := (0 + 0)) (e' := y40.2.1.1) 5 Ex.ik Try_ln3 rfl rfl (Or.inl rfl) rfl PtOf.obox (Part.fst Part.self) ?_
    refine RL.mv rfl rfl rfl ?_
    refine RL.fadr (off := 0) (fo := 1) 5 Try_fld26_1 rfl rfl rfl PtOf.obox (Or.inr ⟨rfl, rfl⟩) ?_
    refine RL.ldPx (off := (0 + 1)) (e' := y40.2.1.2) 5 Ex.ik Try_ln3 rfl rfl (Or.inl rfl) rfl PtOf.obox (Part.snd Part.self) ?_
    refine RL.binI (v := .int .i64 (wmul y48.2.1 y40.2.1.2)) rfl rfl rfl rfl rfl ?_
    refine RL.binI (v := .bool (decide (y40.2.1.1 ≤ (wmul y48.2.1 y40.2.1.2)))) rfl rfl rfl rfl rfl ?_
    refine RL.pickT rfl rfl rfl rfl ?_
    refine RL.mv rfl rfl rfl ?_
    refine RL.split (t := 54) rfl (fun b73 => ?_) (fun b73 => ?_)
    ·replace h66 := ite_t b73 h66
     refine RL.mv rfl rfl rfl ?_
     refine RL.mv rfl rfl rfl ?_
     refine RL.binI (v := .bool (y48.1 != y48.2.1)) rfl rfl rfl rfl rfl ?_
     refine RL.mv rfl rfl rfl ?_
     refine RL.split (t := 58) rfl (fun b74 => ?_) (fun b74 => ?_)
     ·replace h66 := ite_t b74 h66
      refine RL.skip rfl rfl ?_
      refine RL.skip rfl rfl ?_
      refine RL.skip rfl rfl ?_
      refine RL.skip rfl rfl ?_
      refine RL.skip rfl rfl ?_
      refine RL.skip rfl rfl ?_
      refine RL.skip rfl rfl ?_
      refine RL.pickT rfl rfl rfl rfl ?_
      refine RL.pickT rfl rfl rfl rfl ?_
      refine RL.asg rfl rfl rfl ?_
      refine RL.fin ?_
      cases h66
      exact fun a w st => mid_intro true h67 (St.cut [] ⟨rfl, trivial⟩ (by decide) rfl st)
     replace h66 := ite_f b74 h66
     refine RL.fadr (off := 0) (fo := 0) 5 Try_fld26_0 rfl rfl rfl PtOf.obox (Or.inr ⟨rfl, rfl⟩) ?_
     refine RL.ldPx (off := (0 + 0)) (e' := y40.2.1.1) 5 Ex.ik Try_ln3 rfl rfl (Or.inl rfl) rfl PtOf.obox (Part.fst Part.self) ?_
     refine RL.mv rfl rfl rfl ?_
     refine RL.fadr (off := 0) (fo := 1) 5 Try_fld26_1 rfl rfl rfl PtOf.obox (Or.inr ⟨rfl, rfl⟩) ?_
     refine RL.ldPx (off := (0 + 1)) (e' := y40.2.1.2) 5 Ex.ik Try_ln3 rfl rfl (Or.inl rfl) rfl PtOf.obox (Part.snd Part.self) ?_
     refine RL.binI (v := .int .i64 (wmul y48.1 y40.2.1.2)) rfl rfl rfl rfl rfl ?_
     refine RL.binI (v := .bool (y40.2.1.1 == (wmul y48.1 y40.2.1.2))) rfl rfl rfl rfl rfl ?_
     refine RL.pickF rfl rfl rfl rfl ?_
     refine RL.pickT rfl rfl rfl rfl ?_
     refine RL.asg rfl rfl rfl ?_
     refine RL.fin ?_
     cases h66
     exact fun a w st => mid_intro (y40.2.1.1 == (wmul y48.1 y40.2.1.2)) h67 (St.cut [] ⟨rfl, trivial⟩ (by decide) rfl st)
    replace h66 := ite_f b73 h66
    refine RL.skip rfl rfl ?_
    refine RL.skip rfl rfl ?_
    refine RL.skip rfl rfl ?_
    refine RL.skip rfl rfl ?_
    refine RL.skip rfl rfl ?_
    refine RL.skip rfl rfl ?_
    refine RL.skip rfl rfl ?_
    refine RL.skip rfl rfl ?_
    refine RL.skip rfl rfl ?_
    refine RL.skip rfl rfl ?_
    refine RL.skip rfl rfl ?_
    refine RL.skip rfl rfl ?_
    refine RL.pickF rfl rfl rfl rfl ?_
    refine RL.asg rfl rfl rfl ?_
    refine RL.fin ?_
    cases h66
    exact fun a w st => mid_intro false h67 (St.cut [] ⟨rfl, trivial⟩ (by decide) rfl st)
   replace h66 := ite_f b72 h66
   refine RL.skip rfl rfl ?_
   refine RL.skip rfl rfl ?_
   refine RL.skip rfl rfl ?_
   refine RL.skip rfl rfl ?_
   refine RL.skip rfl rfl ?_
   refine RL.skip rfl rfl ?_
   refine RL.skip rfl rfl ?_
   refine RL.pickF rfl rfl rfl rfl ?_
   refine RL.mv rfl rfl rfl ?_
   refine RL.skip rfl rfl ?_
   refine RL.skip rfl rfl ?_
   refine RL.skip rfl rfl ?_
   refine RL.skip rfl rfl ?_
   refine RL.skip rfl rfl ?_
   refine RL.skip rfl rfl ?_
   refine RL.skip rfl rfl ?_
   refine RL.skip rfl rfl ?_
   refine RL.skip rfl rfl ?_
   refine RL.skip rfl rfl ?_
   refine RL.skip rfl rfl ?_
   refine RL.skip rfl rfl ?_
   refine RL.pickF rfl rfl rfl rfl ?_
   refine RL.asg rfl rfl rfl ?_
   refine RL.fin ?_
   cases h66
   exact fun a w st => mid_intro false h67 (St.cut [] ⟨rfl, trivial⟩ (by decide) rfl st)
  replace h66 := ite_f b71 h66
  refine RL.skip rfl rfl ?_
  refine RL.skip rfl rfl ?_
  refine RL.skip rfl rfl ?_
  refine RL.skip rfl rfl ?_
  refine RL.skip rfl rfl ?_
  refine RL.skip rfl rfl ?_
  refine RL.skip rfl rfl ?_
  refine RL.pickF rfl rfl rfl rfl ?_
  refine RL.mv rfl rfl rfl ?_
  refine RL.skip rfl rfl ?_
  refine RL.skip rfl rfl ?_
  refine RL.skip rfl rfl ?_
  refine RL.skip rfl rfl ?_
  refine RL.skip rfl rfl ?_
  refine RL.skip rfl rfl ?_
  refine RL.skip rfl rfl ?_
  refine RL.pickF rfl rfl rfl rfl ?_
  refine RL.mv rfl rfl rfl ?_
  refine RL.skip rfl rfl ?_
  refine RL.skip rfl rfl ?_
  refine RL.skip rfl rfl ?_
  refine RL.skip rfl rfl ?_
  refine RL.skip rfl rfl ?_
  refine RL.skip rfl rfl ?_
  refine RL.skip rfl rfl ?_
  refine RL.skip rfl rfl ?_
  refine RL.skip rfl rfl ?_
  refine RL.skip rfl rfl ?_
  refine RL.skip rfl rfl ?_
  refine RL.skip rfl rfl ?_
  refine RL.pickF rfl rfl rfl rfl ?_
  refine RL.asg rfl rfl rfl ?_
  refine RL.fin ?_
  cases h66
  exact fun a w st => mid_intro false h67 (St.cut [] ⟨rfl, trivial⟩ (by decide) rfl st)
 rintro x63 h75
 have h76 := h68 _ h75
 try dsimp only at h76
 refine GL.weak (env' := [(2, .bool x63)]) (L' := []) (fun _ _ st => st) ?_
 have h76 := Option.some.inj h76
 subst h76
 exact GL.ret (Gx.ret (v := .bool x63) (res1 rfl rfl) (fun a w st => st.toPostV))
end Go.Wk
