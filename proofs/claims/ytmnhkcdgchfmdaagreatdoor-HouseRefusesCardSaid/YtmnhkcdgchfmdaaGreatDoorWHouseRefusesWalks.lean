/- Each function comes to what its model says; printed by a program of this repository. -/
import Derived.Test.YtmnhkcdgchfmdaaGreatDoorProg
import Derived.Test.YtmnhkcdgchfmdaaGreatDoorWHouseRefusesModels
import Derived.Test.YtmnhkcdgchfmdaaGreatDoorWHouseRefusesWalks3
namespace Go.Wk
open Go.Fw Go.Mo Go.Proofs Go.RowKit
set_option linter.all false
set_option maxRecDepth 100000

set_option maxHeartbeats 4000000 in
theorem pk_HouseRefuses_c (S : Hp) (w : World) (hS : S.sub w) (hT : Tab Tryz.prog (Tryz.lays146_ren.g 1) S) (v0 : Value) (x0 : (List (Int × (Int × ((List UInt8) × ((List UInt8) × ((List UInt8) × (Int × (Int × (Int × Int)))))))))) (k0 : ((TR.sl TrE)).vrep S v0 x0) (v1 : Value) (x1 : (Int × (Int × ((List UInt8) × ((List UInt8) × ((List UInt8) × (Int × (Int × (Int × Int))))))))) (k1 : (TrE).vrep S v1 x1) (v2 : Value) (x2 : (List (Int × (Int × ((List UInt8) × ((List UInt8) × ((List UInt8) × (Int × (Int × (Int × Int)))))))))) (k2 : ((TR.sl TrE)).vrep S v2 x2) (res : Bool) (hm : pk_HouseRefuses_m x0 x1 x2 = some res) : Calls Tryz.prog 5 #[v0, v1, v2] w (PostV w (.bool res)) := by
 refine calls_enter 76 Tryz.func5 Tryz.ntmps5 rfl S false [(0, v0), (1, v1), (2, v2)] [imm (TR.sl TrE) v0 x0, imm TrE v1 x1, imm (TR.sl TrE) v2 x2] rfl ⟨rfl, ⟨rfl, ⟨rfl, trivial⟩⟩⟩ hS ⟨k0, ⟨k1, ⟨k2, trivial⟩⟩⟩ ?_
 unfold pk_HouseRefuses_m at hm
 refine GL.seq ?_
 refine GL.region ?_
 refine RL.box (t := TrE) (e := x1) rfl rfl rfl rfl (VR.item 1 rfl) ?_
 intro v5
 refine RL.asg rfl rfl rfl ?_
 refine RL.finG ?_
 refine GL.seq ?_
 refine GL.seq ?_
 refine GL.region ?_
 obtain ⟨y8, e9, hm⟩ := bind_some hm
 refine RL.callV (v := .bool y8) (vs := []) Tryz_fit8 rfl (Or.inl rfl) rfl rfl rfl rfl (fun U w hU hW hL => pk_houses_c U w hU (hT.mono hW)  _ e9) ?_
 refine RL.notB rfl rfl rfl ?_
 refine RL.finG ?_
 refine GL.cond rfl (fun b10 => ?_) (fun b10 => ?_)
 ·replace hm := ite_t b10 hm
  refine GL.seq ?_
  refine GL.region ?_
  refine RL.asg rfl rfl rfl ?_
  refine RL.finG ?_
  have hm := Option.some.inj hm
  subst hm
  exact GL.ret (Gx.ret (v := .bool false) (res1 rfl rfl) (fun a w st => st.toPostV))
 replace hm := ite_f b10 hm
 refine GL.skip ?_
 refine GL.seq ?_
 refine GL.region ?_
 refine RL.mv rfl rfl rfl ?_
 obtain ⟨y19, e20, hm⟩ := bind_some hm
 refine RL.call (vs := [v0]) Tryz_fit16 rfl rfl rfl rfl rfl (fun S f w hS hW hi => pk_worked_c S w hS (hT.mono hW) _ _ (hi 0 _ rfl) _ e20) ?_
 intro ⟨v21, u22⟩
 refine RL.reL (L' := [imm (TR.sl TrE) v0 x0, imm TrE v1 x1, imm (TR.sl TrE) v2 x2, obox 29 TrE v5 x1, obox 74 TrH v21 (y19.1, (y19.2.1, u22)), obox 95 (TR.pair TR.str TR.int) u22 y19.2.2]) rfl ?_
 refine RL.mv rfl rfl rfl ?_
 obtain ⟨y23, e24, hm⟩ := bind_some hm
 refine RL.call (vs := [v0]) Tryz_fit16 rfl rfl rfl rfl rfl (fun S f w hS hW hi => pk_worked_c S w hS (hT.mono hW) _ _ (hi 0 _ rfl) _ e24) ?_
 intro ⟨v25, u26⟩
 refine RL.reL (L' := [imm (TR.sl TrE) v0 x0, imm TrE v1 x1, imm (TR.sl TrE) v2 x2, obox 29 TrE v5 x1, obox 74 TrH v21 (y19.1, (y19.2.1, u22)), obox 95 (TR.pair TR.str TR.int) u22 y19.2.2, obox 74 TrH v25 (y23.1, (y23.2.1, u26)), obox 95 (TR.pair TR.str TR.int) u26 y23.2.2]) rfl ?_
 refine RL.asg rfl rfl rfl ?_
 refine RL.asg rfl rfl rfl ?_
 refine RL.finG ?_
 refine GL.seq ?_
 refine GL.seq ?_
 refine GL.region ?_
 refine RL.mv rfl rfl rfl ?_
 refine RL.eqP 4 Tryz.underlying24 rfl rfl rfl rfl rfl PtOf.obox ?_
 refine RL.mv rfl rfl rfl ?_
 refine RL.mv rfl rfl rfl ?_
 refine RL.eqP 6 Tryz.underlying24 rfl rfl rfl rfl rfl PtOf.obox ?_
 refine RL.pickF rfl rfl rfl rfl ?_
 refine RL.finG ?_
 refine GL.cond rfl (fun b27 => ?_) (fun b27 => ?_)
 ·exact absurd b27 (by decide)
 refine GL.skip ?_
 refine GL.seq ?_
 refine GL.seq ?_
 refine GL.region ?_
 refine RL.mv rfl rfl rfl ?_
 refine RL.ldP (off := 0) (r := TrE) (e' := x1) 3 Tryz_ln29 rfl rfl (Or.inr ⟨rfl, rfl⟩) rfl PtOf.obox Part.self ?_
 intro v33
 obtain ⟨y34, e35, hm⟩ := bind_some hm
 refine RL.callK (vs := [v21, v33]) (V := fun (o : Value) => .tuple #[o, .int .i64 y34.2.1]) (LR := fun (o : Value) => [obox 74 TrH v21 (y34.2.2.1, (y34.2.2.2.1, u22)), obox 95 (TR.pair TR.str TR.int) u22 y34.2.2.2.2, imm (TR.pair TR.int TR.int) o y34.1]) (Ls := [obox 74 TrH v21 (y19.1, (y19.2.1, u22)), obox 95 (TR.pair TR.str TR.int) u22 y19.2.2]) [4, 5] (by decide) Tryz_fit10 rfl rfl rfl rfl rfl rfl (fun S f X w hO hB hW hI hL => house_House_Do_c _ S X f w _ _ y19  hO hB hI (hT.mono hW) _ _ (hL 8 _ _ rfl Sure.imm) _ e35) ?_
 intro v36
 refine RL.reL (L' := [imm (TR.sl TrE) v0 x0, imm TrE v1 x1, imm (TR.sl TrE) v2 x2, obox 29 TrE v5 x1, gone, gone, obox 74 TrH v25 (y23.1, (y23.2.1, u26)), obox 95 (TR.pair TR.str TR.int) u26 y23.2.2, imm TrE v33 x1, obox 74 TrH v21 (y34.2.2.1, (y34.2.2.2.1, u22)), obox 95 (TR.pair TR.str TR.int) u22 y34.2.2.2.2, imm (TR.pair TR.int TR.int) v36 y34.1]) rfl ?_
 refine RL.mv rfl rfl rfl ?_
 refine RL.ext rfl rfl rfl rfl ?_
 refine RL.ext rfl rfl rfl rfl ?_
 refine RL.alloc (t := (TR.pair TR.int TR.int)) (z := ((0 : Int), (0 : Int))) Tryz_lo31 (fun S => ⟨[.int .i64 0], _, rfl, rfl, rfl⟩) rfl rfl rfl ?_
 intro v37
 refine RL.stP (off := 0) (e' := y34.1) (d1 := y34.1) (r := (TR.pair TR.int TR.int)) 12 Tryz_ln31 rfl rfl (Or.inr ⟨rfl, rfl⟩) rfl (VR.item 11 rfl) rfl Upd.self ?_
 refine RL.reL (L' := [imm (TR.sl TrE) v0 x0, imm TrE v1 x1, imm (TR.sl TrE) v2 x2, obox 29 TrE v5 x1, gone, gone, obox 74 TrH v25 (y23.1, (y23.2.1, u26)), obox 95 (TR.pair TR.str TR.int) u26 y23.2.2, imm TrE v33 x1, obox 74 TrH v21 (y34.2.2.1, (y34.2.2.2.1, u22)), obox 95 (TR.pair TR.str TR.int) u22 y34.2.2.2.2, imm (TR.pair TR.int TR.int) v36 y34.1, obox 31 (TR.pair TR.int TR.int) v37 y34.1]) rfl ?_
 refine RL.asg rfl rfl rfl ?_
 refine RL.finG ?_
 refine GL.seq ?_
 refine GL.region ?_
 refine RL.mv rfl rfl rfl ?_
 refine RL.binI (v := .bool (y34.2.1 == (0 : Int))) rfl rfl rfl rfl rfl ?_
 refine RL.finG ?_
 refine GL.cond rfl (fun b38 => ?_) (fun b38 => ?_)
 ·replace hm := ite_t b38 hm
  refine GL.seq ?_
  refine GL.region ?_
  refine RL.asg rfl rfl rfl ?_
  refine RL.finG ?_
  have hm := Option.some.inj hm
  subst hm
  exact GL.ret (Gx.ret (v := .bool true) (res1 rfl rfl) (fun a w st => st.toPostV))
 replace hm := ite_f b38 hm
 refine GL.skip ?_
 refine GL.seq ?_
 refine GL.seq ?_
 refine GL.region ?_
 refine RL.mv rfl rfl rfl ?_
 refine RL.lenS 2 Tryz.underlying22 rfl rfl rfl rfl SlOf.imm ?_
 refine RL.mv rfl rfl rfl ?_
 refine RL.finG ?_
 refine GL.open_ 2 rfl (fun S h => len_imm S h) (fun n137 => ?_)
 obtain ⟨y138, K139, h140, h141, h142, h143, h144⟩ := bindR_K hm
 refine GL.join (ι := ((List ((List UInt8) × (Int × Int))) × ((List ((List UInt8) × ((List UInt8) × (Int × (Int × (Int × Int)))))) × ((List UInt8) × Int))) × ((List ((List UInt8) × (Int × Int))) × ((List ((List UInt8) × ((List UInt8) × (Int × (Int × (Int × Int)))))) × ((List UInt8) × Int)))) (fun (p : ((List ((List UInt8) × (Int × Int))) × ((List ((List UInt8) × ((List UInt8) × (Int × (Int × (Int × Int)))))) × ((List UInt8) × Int))) × ((List ((List UInt8) × (Int × Int))) × ((List ((List UInt8) × ((List UInt8) × (Int × (Int × (Int × Int)))))) × ((List UInt8) × Int)))) => [(7, v21), (8, v25)]) (fun (p : ((List ((List UInt8) × (Int × Int))) × ((List ((List UInt8) × ((List UInt8) × (Int × (Int × (Int × Int)))))) × ((List UInt8) × Int))) × ((List ((List UInt8) × (Int × Int))) × ((List ((List UInt8) × ((List UInt8) × (Int × (Int × (Int × Int)))))) × ((List UInt8) × Int)))) => [obox 74 TrH v21 (p.1.1, (p.1.2.1, u22)), obox 95 (TR.pair TR.str TR.int) u22 p.1.2.2, obox 74 TrH v25 (p.2.1, (p.2.2.1, u26)), obox 95 (TR.pair TR.str TR.int) u26 p.2.2.2]) (fun (p : ((List ((List UInt8) × (Int × Int))) × ((List ((List UInt8) × ((List UInt8) × (Int × (Int × (Int × Int)))))) × ((List UInt8) × Int))) × ((List ((List UInt8) × (Int × Int))) × ((List ((List UInt8) × ((List UInt8) × (Int × (Int × (Int × Int)))))) × ((List UInt8) × Int)))) => K139 (.nx (p.1, p.2))) ?_ ?_
 ·refine GL.block ?_
  refine GL.loop (ι := Nat × (List (Int × (Int × ((List UInt8) × ((List UInt8) × ((List UInt8) × (Int × (Int × (Int × Int))))))))) × ((List ((List UInt8) × (Int × Int))) × ((List ((List UInt8) × ((List UInt8) × (Int × (Int × (Int × Int)))))) × ((List UInt8) × Int))) × ((List ((List UInt8) × (Int × Int))) × ((List ((List UInt8) × ((List UInt8) × (Int × (Int × (Int × Int)))))) × ((List UInt8) × Int)))) (fun (p : Nat × (List (Int × (Int × ((List UInt8) × ((List UInt8) × ((List UInt8) × (Int × (Int × (Int × Int))))))))) × ((List ((List UInt8) × (Int × Int))) × ((List ((List UInt8) × ((List UInt8) × (Int × (Int × (Int × Int)))))) × ((List UInt8) × Int))) × ((List ((List UInt8) × (Int × Int))) × ((List ((List UInt8) × ((List UInt8) × (Int × (Int × (Int × Int)))))) × ((List UInt8) × Int)))) => [(7, v21), (8, v25), (37, v2), (38, .int .i64 ((x2).length : Int)), (39, .int .i64 (p.1 : Int))]) (fun (p : Nat × (List (Int × (Int × ((List UInt8) × ((List UInt8) × ((List UInt8) × (Int × (Int × (Int × Int))))))))) × ((List ((List UInt8) × (Int × Int))) × ((List ((List UInt8) × ((List UInt8) × (Int × (Int × (Int × Int)))))) × ((List UInt8) × Int))) × ((List ((List UInt8) × (Int × Int))) × ((List ((List UInt8) × ((List UInt8) × (Int × (Int × (Int × Int)))))) × ((List UInt8) × Int)))) => [obox 74 TrH v21 (p.2.2.1.1, (p.2.2.1.2.1, u22)), obox 95 (TR.pair TR.str TR.int) u22 p.2.2.1.2.2, obox 74 TrH v25 (p.2.2.2.1, (p.2.2.2.2.1, u26)), obox 95 (TR.pair TR.str TR.int) u26 p.2.2.2.2.2, imm (TR.sl TrE) v2 x2]) (fun (p : Nat × (List (Int × (Int × ((List UInt8) × ((List UInt8) × ((List UInt8) × (Int × (Int × (Int × Int))))))))) × ((List ((List UInt8) × (Int × Int))) × ((List ((List UInt8) × ((List UInt8) × (Int × (Int × (Int × Int)))))) × ((List UInt8) × Int))) × ((List ((List UInt8) × (Int × Int))) × ((List ((List UInt8) × ((List UInt8) × (Int × (Int × (Int × Int)))))) × ((List UInt8) × Int)))) => p.1 + p.2.1.length = (x2).length ∧ List.drop p.1 x2 = p.2.1 ∧ rangeL pk_HouseRefuses_b1 p.2.1 p.1 (p.2.2.1, p.2.2.2) = some y138) (fun (p : Nat × (List (Int × (Int × ((List UInt8) × ((List UInt8) × ((List UInt8) × (Int × (Int × (Int × Int))))))))) × ((List ((List UInt8) × (Int × Int))) × ((List ((List UInt8) × ((List UInt8) × (Int × (Int × (Int × Int)))))) × ((List UInt8) × Int))) × ((List ((List UInt8) × (Int × Int))) × ((List ((List UInt8) × ((List UInt8) × (Int × (Int × (Int × Int)))))) × ((List UInt8) × Int)))) => p.2.1.length) (0, x2, y34.2.2, y23) ⟨by simp, by simp, h140⟩ (fun a w st => St.cut [9, 10, 6, 7, 2] ⟨rfl, rfl, rfl, rfl, rfl, trivial⟩ (by decide) rfl st) ?_
  rintro ⟨i145, r146, l87, l88⟩ ⟨h151, h152, h150⟩
  try dsimp only at h151 h152 h150
  refine GL.weak (env' := [(7, v21), (8, v25), (37, v2), (38, .int .i64 ((x2).length : Int)), (39, .int .i64 (i145 : Int))]) (L' := [obox 74 TrH v21 (l87.1, (l87.2.1, u22)), obox 95 (TR.pair TR.str TR.int) u22 l87.2.2, obox 74 TrH v25 (l88.1, (l88.2.1, u26)), obox 95 (TR.pair TR.str TR.int) u26 l88.2.2, imm (TR.sl TrE) v2 x2]) (fun _ _ st => st) ?_
  refine GL.seq ?_
  refine GL.region ?_
  refine RL.binI (v := .bool (decide ((i145 : Int) < ((x2).length : Int)))) rfl rfl rfl rfl rfl ?_
  refine RL.finG ?_
  refine GL.seq ?_
  refine GL.cond rfl (fun b153 => ?_) (fun b153 => ?_)
  ·have h154 : i145 < (x2).length := by have := of_decide_eq_true b153; omega
   obtain ⟨y155, r157, hr, e156, h158⟩ := drop_cons h152 rfl h154
   subst hr
   obtain ⟨z147, h148, h149⟩ := rangeL_some h150
   unfold pk_HouseRefuses_b1 at h148
   try dsimp only at h148
   refine GL.skip ?_
   refine GL.seq ?_
   refine GL.block ?_
   refine GL.seq ?_
   refine GL.region ?_
   refine RL.idxS (sz := 9) 4 Tryz.underlying22 Tryz_ln29 rfl rfl rfl rfl rfl SlOf.imm (by omega) (by omega) ?_
   refine RL.ldS (i := i145) (r := TrE) (e' := y155) 4 Tryz_ln29 rfl rfl rfl rfl SlOf.imm e156 Part.self ?_
   intro v161
   refine RL.alloc (t := TrE) (z := ((0 : Int), (0 : Int), ([] : List UInt8), (([] : List UInt8), ([] : List UInt8), (0 : Int), (0 : Int), (0 : Int), (0 : Int)))) Tryz_lo29 (fun S => ⟨[.int .i64 0], _, rfl, rfl, ⟨[.int .i64 0], _, rfl, rfl, ⟨[.string ⟨#[]⟩], _, rfl, rfl, ⟨[.string ⟨#[]⟩], _, rfl, rfl, ⟨[.string ⟨#[]⟩], _, rfl, rfl, ⟨[.int .i64 0], _, rfl, rfl, ⟨[.int .i64 0], _, rfl, rfl, ⟨[.int .i64 0], _, rfl, rfl, rfl⟩⟩⟩⟩⟩⟩⟩⟩) rfl rfl rfl ?_
   intro v162
   refine RL.reL (L' := [obox 74 TrH v21 (l87.1, (l87.2.1, u22)), obox 95 (TR.pair TR.str TR.int) u22 l87.2.2, obox 74 TrH v25 (l88.1, (l88.2.1, u26)), obox 95 (TR.pair TR.str TR.int) u26 l88.2.2, imm (TR.sl TrE) v2 x2, imm TrE v161 y155, obox 29 TrE v162 ((0 : Int), (0 : Int), ([] : List UInt8), (([] : List UInt8), ([] : List UInt8), (0 : Int), (0 : Int), (0 : Int), (0 : Int)))]) rfl ?_
   refine RL.stP (off := 0) (e' := y155) (d1 := y155) (r := TrE) 6 Tryz_ln29 rfl rfl (Or.inr ⟨rfl, rfl⟩) rfl (VR.item 5 rfl) rfl Upd.self ?_
   refine RL.finG ?_
   refine GL.seq ?_
   refine GL.region ?_
   refine RL.mv rfl rfl rfl ?_
   refine RL.ldP (off := 0) (r := TrE) (e' := y155) 6 Tryz_ln29 rfl rfl (Or.inr ⟨rfl, rfl⟩) rfl PtOf.obox Part.self ?_
   intro v168
   refine RL.reL (L' := [obox 74 TrH v21 (l87.1, (l87.2.1, u22)), obox 95 (TR.pair TR.str TR.int) u22 l87.2.2, obox 74 TrH v25 (l88.1, (l88.2.1, u26)), obox 95 (TR.pair TR.str TR.int) u26 l88.2.2, imm (TR.sl TrE) v2 x2, imm TrE v161 y155, obox 29 TrE v162 y155, imm TrE v168 y155]) rfl ?_
   obtain ⟨y169, e170, h148⟩ := bind_some h148
   refine RL.callK (vs := [v21, v168]) (V := fun (o : Value) => .tuple #[o, .int .i64 y169.2.1]) (LR := fun (o : Value) => [obox 74 TrH v21 (y169.2.2.1, (y169.2.2.2.1, u22)), obox 95 (TR.pair TR.str TR.int) u22 y169.2.2.2.2, imm (TR.pair TR.int TR.int) o y169.1]) (Ls := [obox 74 TrH v21 (l87.1, (l87.2.1, u22)), obox 95 (TR.pair TR.str TR.int) u22 l87.2.2]) [0, 1] (by decide) Tryz_fit10 rfl rfl rfl rfl rfl rfl (fun S f X w hO hB hW hI hL => house_House_Do_c _ S X f w _ _ l87  hO hB hI (hT.mono hW) _ _ (hL 7 _ _ rfl Sure.imm) _ e170) ?_
   intro v171
   refine RL.reL (L' := [gone, gone, obox 74 TrH v25 (l88.1, (l88.2.1, u26)), obox 95 (TR.pair TR.str TR.int) u26 l88.2.2, imm (TR.sl TrE) v2 x2, imm TrE v161 y155, obox 29 TrE v162 y155, imm TrE v168 y155, obox 74 TrH v21 (y169.2.2.1, (y169.2.2.2.1, u22)), obox 95 (TR.pair TR.str TR.int) u22 y169.2.2.2.2, imm (TR.pair TR.int TR.int) v171 y169.1]) rfl ?_
   refine RL.mv rfl rfl rfl ?_
   refine RL.ext rfl rfl rfl rfl ?_
   refine RL.ext rfl rfl rfl rfl ?_
   refine RL.alloc (t := (TR.pair TR.int TR.int)) (z := ((0 : Int), (0 : Int))) Tryz_lo31 (fun S => ⟨[.int .i64 0], _, rfl, rfl, rfl⟩) rfl rfl rfl ?_
   intro v172
   refine RL.stP (off := 0) (e' := y169.1) (d1 := y169.1) (r := (TR.pair TR.int TR.int)) 11 Tryz_ln31 rfl rfl (Or.inr ⟨rfl, rfl⟩) rfl (VR.item 10 rfl) rfl Upd.self ?_
   refine RL.reL (L' := [gone, gone, obox 74 TrH v25 (l88.1, (l88.2.1, u26)), obox 95 (TR.pair TR.str TR.int) u26 l88.2.2, imm (TR.sl TrE) v2 x2, imm TrE v161 y155, obox 29 TrE v162 y155, imm TrE v168 y155, obox 74 TrH v21 (y169.2.2.1, (y169.2.2.2.1, u22)), obox 95 (TR.pair TR.str TR.int) u22 y169.2.2.2.2, imm (TR.pair TR.int TR.int) v171 y169.1, obox 31 (TR.pair TR.int TR.int) v172 y169.1]) rfl ?_
   refine RL.asg rfl rfl rfl ?_
   refine RL.finG ?_
   refine GL.seq ?_
   refine GL.region ?_
   refine RL.mv rfl rfl rfl ?_
   refine RL.ldP (off := 0) (r := TrE) (e' := y155) 6 Tryz_ln29 rfl rfl (Or.inr ⟨rfl, rfl⟩) rfl PtOf.obox Part.self ?_
   intro v178
   obtain ⟨y179, e180, h148⟩ := bind_some h148
   refine RL.callK (vs := [v25, v178]) (V := fun (o : Value) => .tuple #[o, .int .i64 y179.2.1]) (LR := fun (o : Value) => [obox 74 TrH v25 (y179.2.2.1, (y179.2.2.2.1, u26)), obox 95 (TR.pair TR.str TR.int) u26 y179.2.2.2.2, imm (TR.pair TR.int TR.int) o y179.1]) (Ls := [obox 74 TrH v25 (l88.1, (l88.2.1, u26)), obox 95 (TR.pair TR.str TR.int) u26 l88.2.2]) [2, 3] (by decide) Tryz_fit10 rfl rfl rfl rfl rfl rfl (fun S f X w hO hB hW hI hL => house_House_Do_c _ S X f w _ _ l88  hO hB hI (hT.mono hW) _ _ (hL 12 _ _ rfl Sure.imm) _ e180) ?_
   intro v181
   refine RL.reL (L' := [gone, gone, gone, gone, imm (TR.sl TrE) v2 x2, imm TrE v161 y155, obox 29 TrE v162 y155, imm TrE v168 y155, obox 74 TrH v21 (y169.2.2.1, (y169.2.2.2.1, u22)), obox 95 (TR.pair TR.str TR.int) u22 y169.2.2.2.2, imm (TR.pair TR.int TR.int) v171 y169.1, obox 31 (TR.pair TR.int TR.int) v172 y169.1, imm TrE v178 y155, obox 74 TrH v25 (y179.2.2.1, (y179.2.2.2.1, u26)), obox 95 (TR.pair TR.str TR.int) u26 y179.2.2.2.2, imm (TR.pair TR.int TR.int) v181 y179.1]) rfl ?_
   refine RL.mv rfl rfl rfl ?_
   refine RL.ext rfl rfl rfl rfl ?_
   refine RL.ext rfl rfl rfl rfl ?_
   refine RL.alloc (t := (TR.pair TR.int TR.int)) (z := ((0 : Int), (0 : Int))) Tryz_lo31 (fun S => ⟨[.int .i64 0], _, rfl, rfl, rfl⟩) rfl rfl rfl ?_
   intro v182
   refine RL.stP (off := 0) (e' := y179.1) (d1 := y179.1) (r := (TR.pair TR.int TR.int)) 16 Tryz_ln31 rfl rfl (Or.inr ⟨rfl, rfl⟩) rfl (VR.item 15 rfl) rfl Upd.self ?_
   refine RL.reL (L' := [gone, gone, gone, gone, imm (TR.sl TrE) v2 x2, imm TrE v161 y155, obox 29 TrE v162 y155, imm TrE v168 y155, obox 74 TrH v21 (y169.2.2.1, (y169.2.2.2.1, u22)), obox 95 (TR.pair TR.str TR.int) u22 y169.2.2.2.2, imm (TR.pair TR.int TR.int) v171 y169.1, obox 31 (TR.pair TR.int TR.int) v172 y169.1, imm TrE v178 y155, obox 74 TrH v25 (y179.2.2.1, (y179.2.2.2.1, u26)), obox 95 (TR.pair TR.str TR.int) u26 y179.2.2.2.2, imm (TR.pair TR.int TR.int) v181 y179.1, obox 31 (TR.pair TR.int TR.int) v182 y179.1]) rfl ?_
   refine RL.asg rfl rfl rfl ?_
   refine RL.finG ?_
   refine GL.seq ?_
   obtain ⟨y190, K191, h192, h193, h194, h195, h196⟩ := bindF_K h148
   refine GL.join (ι := Bool) (fun (p : Bool) => [(7, v21), (8, v25), (37, v2), (38, .int .i64 ((x2).length : Int)), (39, .int .i64 (i145 : Int)), (62, .bool p)]) (fun (p : Bool) => [obox 74 TrH v21 (y169.2.2.1, (y169.2.2.2.1, u22)), obox 95 (TR.pair TR.str TR.int) u22 y169.2.2.2.2, obox 74 TrH v25 (y179.2.2.1, (y179.2.2.2.1, u26)), obox 95 (TR.pair TR.str TR.int) u26 y179.2.2.2.2, imm (TR.sl TrE) v2 x2]) (fun (p : Bool) => K191 (.nx p)) ?_ ?_
   ·skip
    refine GL.region ?_
    refine RL.ldP (off := 0) (r := (TR.pair TR.int TR.int)) (e' := y169.1) 11 Tryz_ln31 rfl rfl (Or.inr ⟨rfl, rfl⟩) rfl PtOf.obox Part.self ?_
    intro v197
    refine RL.ldP (off := 0) (r := (TR.pair TR.int TR.int)) (e' := y179.1) 16 Tryz_ln31 rfl rfl (Or.inr ⟨rfl, rfl⟩) rfl PtOf.obox Part.self ?_
    intro v198
    refine RL.reL (L' := [gone, gone, gone, gone, imm (TR.sl TrE) v2 x2, imm TrE v161 y155, obox 29 TrE v162 y155, imm TrE v168 y155, obox 74 TrH v21 (y169.2.2.1, (y169.2.2.2.1, u22)), obox 95 (TR.pair TR.str TR.int) u22 y169.2.2.2.2, imm (TR.pair TR.int TR.int) v171 y169.1, obox 31 (TR.pair TR.int TR.int) v172 y169.1, imm TrE v178 y155, obox 74 TrH v25 (y179.2.2.1, (y179.2.2.2.1, u26)), obox 95 (TR.pair TR.str TR.int) u26 y179.2.2.2.2, imm (TR.pair TR.int TR.int) v181 y179.1, obox 31 (TR.pair TR.int TR.int) v182 y179.1, imm (TR.pair TR.int TR.int) v197 y169.1, imm (TR.pair TR.int TR.int) v198 y179.1]) rfl ?_
    refine RL.neG (t := (TR.pair TR.int TR.int)) (e := y169.1) (e' := y179.1) rfl Tryz_eq31 (by decide) Tryz.eqGuardType31 rfl rfl rfl rfl (VR.item 17 rfl) (VR.item 18 rfl) ?_
    refine RL.mv rfl rfl rfl ?_
    refine RL.split (t := 58) rfl (fun b199 => ?_) (fun b199 => ?_)
    ·replace h192 := ite_t b199 h192
     refine RL.skip rfl rfl ?_
     refine RL.skip rfl rfl ?_
     refine RL.skip rfl rfl ?_
     refine RL.pickT rfl rfl rfl rfl ?_
     refine RL.fin ?_
     cases h192
     exact fun a w st => mid_intro true h193 (St.cut [8, 9, 13, 14, 4] ⟨rfl, rfl, rfl, rfl, rfl, rfl, trivial⟩ (by decide) rfl st)
    replace h192 := ite_f b199 h192
    refine RL.mv rfl rfl rfl ?_
    refine RL.mv rfl rfl rfl ?_
    refine RL.binI (v := .bool (y169.2.1 != y179.2.1)) rfl rfl rfl rfl rfl ?_
    refine RL.pickF rfl rfl rfl rfl ?_
    refine RL.fin ?_
    cases h192
    exact fun a w st => mid_intro (y169.2.1 != y179.2.1) h193 (St.cut [8, 9, 13, 14, 4] ⟨rfl, rfl, rfl, rfl, rfl, rfl, trivial⟩ (by decide) rfl st)
   rintro x189 h200
   have h201 := h194 _ h200
   try dsimp only at h201
   refine GL.weak (env' := [(7, v21), (8, v25), (37, v2), (38, .int .i64 ((x2).length : Int)), (39, .int .i64 (i145 : Int)), (62, .bool x189)]) (L' := [obox 74 TrH v21 (y169.2.2.1, (y169.2.2.2.1, u22)), obox 95 (TR.pair TR.str TR.int) u22 y169.2.2.2.2, obox 74 TrH v25 (y179.2.2.1, (y179.2.2.2.1, u26)), obox 95 (TR.pair TR.str TR.int) u26 y179.2.2.2.2, imm (TR.sl TrE) v2 x2]) (fun _ _ st => st) ?_
   refine GL.cond rfl (fun b202 => ?_) (fun b202 => ?_)
   ·replace h201 := ite_t b202 h201
    refine GL.seq ?_
    refine GL.region ?_
    refine RL.asg rfl rfl rfl ?_
    refine RL.finG ?_
    cases h201
    replace h149 : some (Fl.rt _) = some y138 := h149
    cases h149
    have hh := h143 _ h141
    subst hh
    exact GL.ret (Gx.ret (v := .bool false) (res1 rfl rfl) (fun a w st => st.toPostV))
   replace h201 := ite_f b202 h201
   refine GL.skip ?_
   refine GL.nilB ?_
   refine GL.region ?_
   refine RL.binI (v := .int .i64 ((i145 + 1 : Nat) : Int)) rfl rfl rfl rfl (binI_succ i145 (by omega)) ?_
   refine RL.mv rfl rfl rfl ?_
   refine RL.fin ?_
   cases h201
   exact fun a w st => lop_intro (i145 + 1, r157, y169.2.2, y179.2.2) ⟨by show i145 + 1 + r157.length = (x2).length; simp only [List.length_cons] at h151; omega, h158, h149⟩ (by simp) (St.cut [0, 1, 2, 3, 4] ⟨rfl, rfl, rfl, rfl, rfl, trivial⟩ (by decide) rfl st)
  have h154 : ¬ i145 < (x2).length := by have := of_decide_eq_false b153; omega
  obtain rfl : r146 = [] := by rw [← h152]; exact List.drop_of_length_le (by omega)
  replace h150 : some (Fl.nx _) = some y138 := h150
  cases h150
  exact GL.exit (fun a w st => mid_intro (l87, l88) h141 (St.cut [0, 1, 2, 3] ⟨rfl, rfl, trivial⟩ (by decide) rfl st))
 rintro ⟨l87, l88⟩ h203
 have h204 := h142 _ h203
 try dsimp only at h204
 refine GL.weak (env' := [(7, v21), (8, v25)]) (L' := [obox 74 TrH v21 (l87.1, (l87.2.1, u22)), obox 95 (TR.pair TR.str TR.int) u22 l87.2.2, obox 74 TrH v25 (l88.1, (l88.2.1, u26)), obox 95 (TR.pair TR.str TR.int) u26 l88.2.2]) (fun _ _ st => st) ?_
 refine GL.seq ?_
 obtain ⟨y240, K241, h242, h243, h244, h245, h246⟩ := bindR_K h204
 refine GL.join (ι := Bool) (fun (p : Bool) => [(6, .bool p)]) (fun (p : Bool) => []) (fun (p : Bool) => K241 (.nx p)) ?_ ?_
 ·skip
  refine GL.region ?_
  refine RL.mv rfl rfl rfl ?_
  obtain ⟨y247, e248, h242⟩ := bind_some h242
  refine RL.callU (vs := [v21]) (LR := fun (o : Value) => [own 46 TrA o y247]) (fun o => ⟨Loc.own (TR.flatT_pair TR.flatT_str (TR.flatT_pair TR.flatT_ik TR.flatT_ik)), trivial⟩) Tryz_fit12 rfl rfl rfl rfl rfl (fun U w hU hW hL => house_House_Accounts_c U w hU _ _ (ptr_held (Helded.snd (Helded.snd (Helded.raw rfl))) (hL 0 _ _ rfl Seen.obox) (hL 1 _ _ rfl Seen.obox)) _ e248) ?_
  intro v249
  refine RL.mv rfl rfl rfl ?_
  obtain ⟨y250, e251, h242⟩ := bind_some h242
  refine RL.callU (vs := [v25]) (LR := fun (o : Value) => [own 46 TrA o y250]) (fun o => ⟨Loc.own (TR.flatT_pair TR.flatT_str (TR.flatT_pair TR.flatT_ik TR.flatT_ik)), trivial⟩) Tryz_fit12 rfl rfl rfl rfl rfl (fun U w hU hW hL => house_House_Accounts_c U w hU _ _ (ptr_held (Helded.snd (Helded.snd (Helded.raw rfl))) (hL 2 _ _ rfl Seen.obox) (hL 3 _ _ rfl Seen.obox)) _ e251) ?_
  intro v252
  obtain ⟨y253, e254, h242⟩ := bind_some h242
  refine RL.callV (v := .bool y253) (vs := [v249, v252]) Tryz_fit17 rfl (Or.inl rfl) rfl rfl rfl rfl (fun U w hU hW hL => slices_Equal_api_Account_api_Account_c U w hU _ _ (hL 4 _ _ rfl Seen.own) _ _ (hL 5 _ _ rfl Seen.own) _ e254) ?_
  refine RL.mv rfl rfl rfl ?_
  refine RL.split (t := 69) rfl (fun b255 => ?_) (fun b255 => ?_)
  ·replace h242 := ite_t b255 h242
   refine RL.mv rfl rfl rfl ?_
   obtain ⟨y256, e257, h242⟩ := bind_some h242
   refine RL.callU (vs := [v21]) (LR := fun (o : Value) => [own 27 TrD o y256]) (fun o => ⟨Loc.own (TR.flatT_pair TR.flatT_str (TR.flatT_pair TR.flatT_str (TR.flatT_pair TR.flatT_ik (TR.flatT_pair TR.flatT_ik (TR.flatT_pair TR.flatT_ik TR.flatT_ik))))), trivial⟩) Tryz_fit15 rfl rfl rfl rfl rfl (fun U w hU hW hL => house_House_Offers_c U w hU _ _ (ptr_held (Helded.snd (Helded.snd (Helded.raw rfl))) (hL 0 _ _ rfl Seen.obox) (hL 1 _ _ rfl Seen.obox)) _ e257) ?_
   intro v258
   refine RL.mv rfl rfl rfl ?_
   obtain ⟨y259, e260, h242⟩ := bind_some h242
   refine RL.callU (vs := [v25]) (LR := fun (o : Value) => [own 27 TrD o y259]) (fun o => ⟨Loc.own (TR.flatT_pair TR.flatT_str (TR.flatT_pair TR.flatT_str (TR.flatT_pair TR.flatT_ik (TR.flatT_pair TR.flatT_ik (TR.flatT_pair TR.flatT_ik TR.flatT_ik))))), trivial⟩) Tryz_fit15 rfl rfl rfl rfl rfl (fun U w hU hW hL => house_House_Offers_c U w hU _ _ (ptr_held (Helded.snd (Helded.snd (Helded.raw rfl))) (hL 2 _ _ rfl Seen.obox) (hL 3 _ _ rfl Seen.obox)) _ e260) ?_
   intro v261
   obtain ⟨y262, e263, h242⟩ := bind_some h242
   refine RL.callV (v := .bool y262) (vs := [v258, v261]) Tryz_fit21 rfl (Or.inl rfl) rfl rfl rfl rfl (fun U w hU hW hL => slices_Equal_api_Deal_api_Deal_c U w hU _ _ (hL 6 _ _ rfl Seen.own) _ _ (hL 7 _ _ rfl Seen.own) _ e263) ?_
   refine RL.pickT rfl rfl rfl rfl ?_
   refine RL.asg rfl rfl rfl ?_
   refine RL.fin ?_
   cases h242
   exact fun a w st => mid_intro y262 h243 (St.cut [] ⟨rfl, trivial⟩ (by decide) rfl st)
  replace h242 := ite_f b255 h242
  refine RL.skip rfl rfl ?_
  refine RL.skip rfl rfl ?_
  refine RL.skip rfl rfl ?_
  refine RL.skip rfl rfl ?_
  refine RL.skip rfl rfl ?_
  refine RL.pickF rfl rfl rfl rfl ?_
  refine RL.asg rfl rfl rfl ?_
  refine RL.fin ?_
  cases h242
  exact fun a w st => mid_intro false h243 (St.cut [] ⟨rfl, trivial⟩ (by decide) rfl st)
 rintro x239 h264
 have h265 := h244 _ h264
 try dsimp only at h265
 refine GL.weak (env' := [(6, .bool x239)]) (L' := []) (fun _ _ st => st) ?_
 have h265 := Option.some.inj h265
 subst h265
 exact GL.ret (Gx.ret (v := .bool x239) (res1 rfl rfl) (fun a w st => st.toPostV))
end Go.Wk
