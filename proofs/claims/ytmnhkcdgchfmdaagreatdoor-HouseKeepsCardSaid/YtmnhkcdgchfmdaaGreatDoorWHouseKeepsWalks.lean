/- Each function comes to what its model says; printed by a program of this repository. -/
import Derived.Test.YtmnhkcdgchfmdaaGreatDoorProg
import Derived.Test.YtmnhkcdgchfmdaaGreatDoorWHouseKeepsModels
import Derived.Test.YtmnhkcdgchfmdaaGreatDoorWHouseKeepsWalks3
namespace Go.Wk
open Go.Fw Go.Mo Go.Proofs Go.RowKit
set_option linter.all false
set_option maxRecDepth 100000

set_option maxHeartbeats 4000000 in
theorem pk_HouseKeeps_c (S : Hp) (w : World) (hS : S.sub w) (hT : Tab Tryz.prog (Tryz.lays146_ren.g 1) S) (v0 : Value) (x0 : (List (Int × (Int × ((List UInt8) × ((List UInt8) × ((List UInt8) × (Int × (Int × (Int × Int)))))))))) (k0 : ((TR.sl TrE)).vrep S v0 x0) (v1 : Value) (x1 : (List (Int × (Int × ((List UInt8) × ((List UInt8) × ((List UInt8) × (Int × (Int × (Int × Int)))))))))) (k1 : ((TR.sl TrE)).vrep S v1 x1) (x2 : Int) (res : Bool) (hm : pk_HouseKeeps_m x0 x1 x2 = some res) : Calls Tryz.prog 4 #[v0, v1, .int .i64 x2] w (PostV w (.bool res)) := by
 refine calls_enter 127 Tryz.func4 Tryz.ntmps4 rfl S false [(0, v0), (1, v1), (2, .int .i64 x2)] [imm (TR.sl TrE) v0 x0, imm (TR.sl TrE) v1 x1] rfl ⟨rfl, ⟨rfl, ⟨rfl, trivial⟩⟩⟩ hS ⟨k0, ⟨k1, trivial⟩⟩ ?_
 unfold pk_HouseKeeps_m at hm
 refine GL.seq ?_
 refine GL.region ?_
 refine RL.asg rfl rfl rfl ?_
 refine RL.finG ?_
 refine GL.seq ?_
 refine GL.seq ?_
 refine GL.region ?_
 obtain ⟨y6, e7, hm⟩ := bind_some hm
 refine RL.callV (v := .bool y6) (vs := []) Tryz_fit8 rfl (Or.inl rfl) rfl rfl rfl rfl (fun U w hU hW hL => pk_houses_c U w hU (hT.mono hW)  _ e7) ?_
 refine RL.notB rfl rfl rfl ?_
 refine RL.finG ?_
 refine GL.cond rfl (fun b8 => ?_) (fun b8 => ?_)
 ·replace hm := ite_t b8 hm
  refine GL.seq ?_
  refine GL.region ?_
  refine RL.asg rfl rfl rfl ?_
  refine RL.finG ?_
  have hm := Option.some.inj hm
  subst hm
  exact GL.ret (Gx.ret (v := .bool false) (res1 rfl rfl) (fun a w st => st.toPostV))
 replace hm := ite_f b8 hm
 refine GL.skip ?_
 refine GL.seq ?_
 refine GL.region ?_
 refine RL.mv rfl rfl rfl ?_
 obtain ⟨y13, e14, hm⟩ := bind_some hm
 refine RL.call (vs := [v0]) Tryz_fit16 rfl rfl rfl rfl rfl (fun S f w hS hW hi => pk_worked_c S w hS (hT.mono hW) _ _ (hi 0 _ rfl) _ e14) ?_
 intro ⟨v15, u17⟩
 refine RL.reL (L' := [imm (TR.sl TrE) v0 x0, imm (TR.sl TrE) v1 x1, obox 74 TrH v15 (y13.1, (y13.2.1, u17)), obox 95 (TR.pair TR.str TR.int) u17 y13.2.2]) rfl ?_
 refine RL.asg rfl rfl rfl ?_
 refine RL.finG ?_
 refine GL.seq ?_
 refine GL.seq ?_
 refine GL.region ?_
 refine RL.mv rfl rfl rfl ?_
 refine RL.eqP 2 Tryz.underlying24 rfl rfl rfl rfl rfl PtOf.obox ?_
 refine RL.finG ?_
 refine GL.cond rfl (fun b18 => ?_) (fun b18 => ?_)
 ·exact absurd b18 (by decide)
 refine GL.skip ?_
 refine GL.seq ?_
 refine GL.seq ?_
 refine GL.region ?_
 refine RL.mv rfl rfl rfl ?_
 refine RL.bld (t := TrE) (d0 := (((4 : Int), (0 : Int), ([] : List UInt8), (([] : List UInt8), ([] : List UInt8), (0 : Int), (0 : Int), (0 : Int), (0 : Int))) : (Int × (Int × ((List UInt8) × ((List UInt8) × ((List UInt8) × (Int × (Int × (Int × Int)))))))))) (pv := [(0, .int .i64 (4 : Int))]) rfl Tryz_bld29 rfl rfl rfl ⟨⟨_, _, TR.int, (4 : Int), rfl, rfl, VR.int⟩, trivial⟩ (fun S f hi => by
   obtain ⟨c0, e0, r0⟩ := cells_vrep (t := TR.int) (u := .int .i64 (4 : Int)) (e := (4 : Int)) (VR.int S f hi)
   show TR.rep TrE S (List.flatten [(.int .i64 (4 : Int) : Value).cells.toList, [.int .i64 0], [.string ⟨#[]⟩], [.string ⟨#[]⟩, .string ⟨#[]⟩, .int .i64 0, .int .i64 0, .int .i64 0, .int .i64 0]]) _
   simp only [e0,  List.flatten_cons, List.flatten_nil, List.append_nil]
   exact ⟨_, _, rfl, r0, ⟨_, _, rfl, rfl, ⟨_, _, rfl, rfl, ⟨[.string ⟨#[]⟩], _, rfl, rfl, ⟨[.string ⟨#[]⟩], _, rfl, rfl, ⟨[.int .i64 0], _, rfl, rfl, ⟨[.int .i64 0], _, rfl, rfl, ⟨[.int .i64 0], _, rfl, rfl, rfl⟩⟩⟩⟩⟩⟩⟩⟩) ?_
 intro v24
 obtain ⟨y25, e26, hm⟩ := bind_some hm
 refine RL.callK (vs := [v15, v24]) (V := fun (o : Value) => .tuple #[o, .int .i64 y25.2.1]) (LR := fun (o : Value) => [obox 74 TrH v15 (y25.2.2.1, (y25.2.2.2.1, u17)), obox 95 (TR.pair TR.str TR.int) u17 y25.2.2.2.2, imm (TR.pair TR.int TR.int) o y25.1]) (Ls := [obox 74 TrH v15 (y13.1, (y13.2.1, u17)), obox 95 (TR.pair TR.str TR.int) u17 y13.2.2]) [2, 3] (by decide) Tryz_fit10 rfl rfl rfl rfl rfl rfl (fun S f X w hO hB hW hI hL => house_House_Do_c _ S X f w _ _ y13  hO hB hI (hT.mono hW) _ _ (hL 4 _ _ rfl Sure.imm) _ e26) ?_
 intro v27
 refine RL.reL (L' := [imm (TR.sl TrE) v0 x0, imm (TR.sl TrE) v1 x1, gone, gone, imm TrE v24 (((4 : Int), (0 : Int), ([] : List UInt8), (([] : List UInt8), ([] : List UInt8), (0 : Int), (0 : Int), (0 : Int), (0 : Int))) : (Int × (Int × ((List UInt8) × ((List UInt8) × ((List UInt8) × (Int × (Int × (Int × Int))))))))), obox 74 TrH v15 (y25.2.2.1, (y25.2.2.2.1, u17)), obox 95 (TR.pair TR.str TR.int) u17 y25.2.2.2.2, imm (TR.pair TR.int TR.int) v27 y25.1]) rfl ?_
 refine RL.mv rfl rfl rfl ?_
 refine RL.ext rfl rfl rfl rfl ?_
 refine RL.ext rfl rfl rfl rfl ?_
 refine RL.alloc (t := (TR.pair TR.int TR.int)) (z := ((0 : Int), (0 : Int))) Tryz_lo31 (fun S => ⟨[.int .i64 0], _, rfl, rfl, rfl⟩) rfl rfl rfl ?_
 intro v28
 refine RL.stP (off := 0) (e' := y25.1) (d1 := y25.1) (r := (TR.pair TR.int TR.int)) 8 Tryz_ln31 rfl rfl (Or.inr ⟨rfl, rfl⟩) rfl (VR.item 7 rfl) rfl Upd.self ?_
 refine RL.reL (L' := [imm (TR.sl TrE) v0 x0, imm (TR.sl TrE) v1 x1, gone, gone, imm TrE v24 (((4 : Int), (0 : Int), ([] : List UInt8), (([] : List UInt8), ([] : List UInt8), (0 : Int), (0 : Int), (0 : Int), (0 : Int))) : (Int × (Int × ((List UInt8) × ((List UInt8) × ((List UInt8) × (Int × (Int × (Int × Int))))))))), obox 74 TrH v15 (y25.2.2.1, (y25.2.2.2.1, u17)), obox 95 (TR.pair TR.str TR.int) u17 y25.2.2.2.2, imm (TR.pair TR.int TR.int) v27 y25.1, obox 31 (TR.pair TR.int TR.int) v28 y25.1]) rfl ?_
 refine RL.asg rfl rfl rfl ?_
 refine RL.finG ?_
 refine GL.seq ?_
 refine GL.region ?_
 refine RL.mv rfl rfl rfl ?_
 refine RL.binI (v := .bool (y25.2.1 != (0 : Int))) rfl rfl rfl rfl rfl ?_
 refine RL.finG ?_
 refine GL.cond rfl (fun b29 => ?_) (fun b29 => ?_)
 ·replace hm := ite_t b29 hm
  refine GL.seq ?_
  refine GL.region ?_
  refine RL.asg rfl rfl rfl ?_
  refine RL.finG ?_
  have hm := Option.some.inj hm
  subst hm
  exact GL.ret (Gx.ret (v := .bool false) (res1 rfl rfl) (fun a w st => st.toPostV))
 replace hm := ite_f b29 hm
 refine GL.skip ?_
 refine GL.seq ?_
 refine GL.region ?_
 refine RL.mv rfl rfl rfl ?_
 obtain ⟨y33, e34, hm⟩ := bind_some hm
 refine RL.callU (vs := [v15]) (LR := fun (o : Value) => [own 46 TrA o y33]) (fun o => ⟨Loc.own (TR.flatT_pair TR.flatT_str (TR.flatT_pair TR.flatT_ik TR.flatT_ik)), trivial⟩) Tryz_fit12 rfl rfl rfl rfl rfl (fun U w hU hW hL => house_House_Accounts_c U w hU _ _ (ptr_held (Helded.snd (Helded.snd (Helded.raw rfl))) (hL 5 _ _ rfl Seen.obox) (hL 6 _ _ rfl Seen.obox)) _ e34) ?_
 intro v35
 refine RL.asg rfl rfl rfl ?_
 refine RL.finG ?_
 refine GL.seq ?_
 refine GL.seq ?_
 refine GL.region ?_
 refine RL.mv rfl rfl rfl ?_
 refine RL.lenS 1 Tryz.underlying22 rfl rfl rfl rfl SlOf.imm ?_
 refine RL.mv rfl rfl rfl ?_
 refine RL.finG ?_
 refine GL.open_ 1 rfl (fun S h => len_imm S h) (fun n71 => ?_)
 obtain ⟨y72, K73, h74, h75, h76, h77, h78⟩ := bindR_K hm
 refine GL.join (ι := ((List ((List UInt8) × (Int × Int))) × ((List ((List UInt8) × ((List UInt8) × (Int × (Int × (Int × Int)))))) × ((List UInt8) × Int)))) (fun (p : ((List ((List UInt8) × (Int × Int))) × ((List ((List UInt8) × ((List UInt8) × (Int × (Int × (Int × Int)))))) × ((List UInt8) × Int)))) => [(2, .int .i64 x2), (7, v15), (10, v35)]) (fun (p : ((List ((List UInt8) × (Int × Int))) × ((List ((List UInt8) × ((List UInt8) × (Int × (Int × (Int × Int)))))) × ((List UInt8) × Int)))) => [obox 74 TrH v15 (p.1, (p.2.1, u17)), obox 95 (TR.pair TR.str TR.int) u17 p.2.2, own 46 TrA v35 y33]) (fun (p : ((List ((List UInt8) × (Int × Int))) × ((List ((List UInt8) × ((List UInt8) × (Int × (Int × (Int × Int)))))) × ((List UInt8) × Int)))) => K73 (.nx p)) ?_ ?_
 ·refine GL.block ?_
  refine GL.loop (ι := Nat × (List (Int × (Int × ((List UInt8) × ((List UInt8) × ((List UInt8) × (Int × (Int × (Int × Int))))))))) × ((List ((List UInt8) × (Int × Int))) × ((List ((List UInt8) × ((List UInt8) × (Int × (Int × (Int × Int)))))) × ((List UInt8) × Int)))) (fun (p : Nat × (List (Int × (Int × ((List UInt8) × ((List UInt8) × ((List UInt8) × (Int × (Int × (Int × Int))))))))) × ((List ((List UInt8) × (Int × Int))) × ((List ((List UInt8) × ((List UInt8) × (Int × (Int × (Int × Int)))))) × ((List UInt8) × Int)))) => [(2, .int .i64 x2), (7, v15), (10, v35), (37, v1), (38, .int .i64 ((x1).length : Int)), (39, .int .i64 (p.1 : Int))]) (fun (p : Nat × (List (Int × (Int × ((List UInt8) × ((List UInt8) × ((List UInt8) × (Int × (Int × (Int × Int))))))))) × ((List ((List UInt8) × (Int × Int))) × ((List ((List UInt8) × ((List UInt8) × (Int × (Int × (Int × Int)))))) × ((List UInt8) × Int)))) => [obox 74 TrH v15 (p.2.2.1, (p.2.2.2.1, u17)), obox 95 (TR.pair TR.str TR.int) u17 p.2.2.2.2, own 46 TrA v35 y33, imm (TR.sl TrE) v1 x1]) (fun (p : Nat × (List (Int × (Int × ((List UInt8) × ((List UInt8) × ((List UInt8) × (Int × (Int × (Int × Int))))))))) × ((List ((List UInt8) × (Int × Int))) × ((List ((List UInt8) × ((List UInt8) × (Int × (Int × (Int × Int)))))) × ((List UInt8) × Int)))) => p.1 + p.2.1.length = (x1).length ∧ List.drop p.1 x1 = p.2.1 ∧ rangeL pk_HouseKeeps_b1 p.2.1 p.1 p.2.2 = some y72) (fun (p : Nat × (List (Int × (Int × ((List UInt8) × ((List UInt8) × ((List UInt8) × (Int × (Int × (Int × Int))))))))) × ((List ((List UInt8) × (Int × Int))) × ((List ((List UInt8) × ((List UInt8) × (Int × (Int × (Int × Int)))))) × ((List UInt8) × Int)))) => p.2.1.length) (0, x1, y25.2.2) ⟨by simp, by simp, h74⟩ (fun a w st => St.cut [5, 6, 9, 1] ⟨rfl, rfl, rfl, rfl, rfl, rfl, trivial⟩ (by decide) rfl st) ?_
  rintro ⟨i79, r80, l53⟩ ⟨h85, h86, h84⟩
  try dsimp only at h85 h86 h84
  refine GL.weak (env' := [(2, .int .i64 x2), (7, v15), (10, v35), (37, v1), (38, .int .i64 ((x1).length : Int)), (39, .int .i64 (i79 : Int))]) (L' := [obox 74 TrH v15 (l53.1, (l53.2.1, u17)), obox 95 (TR.pair TR.str TR.int) u17 l53.2.2, own 46 TrA v35 y33, imm (TR.sl TrE) v1 x1]) (fun _ _ st => st) ?_
  refine GL.seq ?_
  refine GL.region ?_
  refine RL.binI (v := .bool (decide ((i79 : Int) < ((x1).length : Int)))) rfl rfl rfl rfl rfl ?_
  refine RL.finG ?_
  refine GL.seq ?_
  refine GL.cond rfl (fun b87 => ?_) (fun b87 => ?_)
  ·have h88 : i79 < (x1).length := by have := of_decide_eq_true b87; omega
   obtain ⟨y89, r91, hr, e90, h92⟩ := drop_cons h86 rfl h88
   subst hr
   obtain ⟨z81, h82, h83⟩ := rangeL_some h84
   unfold pk_HouseKeeps_b1 at h82
   try dsimp only at h82
   refine GL.skip ?_
   refine GL.seq ?_
   refine GL.block ?_
   refine GL.seq ?_
   refine GL.region ?_
   refine RL.idxS (sz := 9) 3 Tryz.underlying22 Tryz_ln29 rfl rfl rfl rfl rfl SlOf.imm (by omega) (by omega) ?_
   refine RL.ldS (i := i79) (r := TrE) (e' := y89) 3 Tryz_ln29 rfl rfl rfl rfl SlOf.imm e90 Part.self ?_
   intro v95
   refine RL.alloc (t := TrE) (z := ((0 : Int), (0 : Int), ([] : List UInt8), (([] : List UInt8), ([] : List UInt8), (0 : Int), (0 : Int), (0 : Int), (0 : Int)))) Tryz_lo29 (fun S => ⟨[.int .i64 0], _, rfl, rfl, ⟨[.int .i64 0], _, rfl, rfl, ⟨[.string ⟨#[]⟩], _, rfl, rfl, ⟨[.string ⟨#[]⟩], _, rfl, rfl, ⟨[.string ⟨#[]⟩], _, rfl, rfl, ⟨[.int .i64 0], _, rfl, rfl, ⟨[.int .i64 0], _, rfl, rfl, ⟨[.int .i64 0], _, rfl, rfl, rfl⟩⟩⟩⟩⟩⟩⟩⟩) rfl rfl rfl ?_
   intro v96
   refine RL.reL (L' := [obox 74 TrH v15 (l53.1, (l53.2.1, u17)), obox 95 (TR.pair TR.str TR.int) u17 l53.2.2, own 46 TrA v35 y33, imm (TR.sl TrE) v1 x1, imm TrE v95 y89, obox 29 TrE v96 ((0 : Int), (0 : Int), ([] : List UInt8), (([] : List UInt8), ([] : List UInt8), (0 : Int), (0 : Int), (0 : Int), (0 : Int)))]) rfl ?_
   refine RL.stP (off := 0) (e' := y89) (d1 := y89) (r := TrE) 5 Tryz_ln29 rfl rfl (Or.inr ⟨rfl, rfl⟩) rfl (VR.item 4 rfl) rfl Upd.self ?_
   refine RL.finG ?_
   refine GL.seq ?_
   refine GL.region ?_
   refine RL.fadr (off := 0) (fo := 0) 5 Tryz_fld29_0 rfl rfl rfl PtOf.obox (Or.inr ⟨rfl, rfl⟩) ?_
   refine RL.ldPx (off := (0 + 0)) (e' := y89.1) 5 Ex.ik Tryz_ln3 rfl rfl (Or.inl rfl) rfl PtOf.obox (Part.fst Part.self) ?_
   refine RL.binI (v := .bool (y89.1 != (5 : Int))) rfl rfl rfl rfl rfl ?_
   refine RL.finG ?_
   refine GL.cond rfl (fun b97 => ?_) (fun b97 => ?_)
   ·replace h82 := ite_t b97 h82
    refine GL.region ?_
    refine RL.mv rfl rfl rfl ?_
    refine RL.ldP (off := 0) (r := TrE) (e' := y89) 5 Tryz_ln29 rfl rfl (Or.inr ⟨rfl, rfl⟩) rfl PtOf.obox Part.self ?_
    intro v102
    refine RL.reL (L' := [obox 74 TrH v15 (l53.1, (l53.2.1, u17)), obox 95 (TR.pair TR.str TR.int) u17 l53.2.2, own 46 TrA v35 y33, imm (TR.sl TrE) v1 x1, imm TrE v95 y89, obox 29 TrE v96 y89, imm TrE v102 y89]) rfl ?_
    obtain ⟨y103, e104, h82⟩ := bind_some h82
    refine RL.callK (vs := [v15, v102]) (V := fun (o : Value) => .tuple #[o, .int .i64 y103.2.1]) (LR := fun (o : Value) => [obox 74 TrH v15 (y103.2.2.1, (y103.2.2.2.1, u17)), obox 95 (TR.pair TR.str TR.int) u17 y103.2.2.2.2, imm (TR.pair TR.int TR.int) o y103.1]) (Ls := [obox 74 TrH v15 (l53.1, (l53.2.1, u17)), obox 95 (TR.pair TR.str TR.int) u17 l53.2.2]) [0, 1] (by decide) Tryz_fit10 rfl rfl rfl rfl rfl rfl (fun S f X w hO hB hW hI hL => house_House_Do_c _ S X f w _ _ l53  hO hB hI (hT.mono hW) _ _ (hL 6 _ _ rfl Sure.imm) _ e104) ?_
    intro v105
    refine RL.reL (L' := [gone, gone, own 46 TrA v35 y33, imm (TR.sl TrE) v1 x1, imm TrE v95 y89, obox 29 TrE v96 y89, imm TrE v102 y89, obox 74 TrH v15 (y103.2.2.1, (y103.2.2.2.1, u17)), obox 95 (TR.pair TR.str TR.int) u17 y103.2.2.2.2, imm (TR.pair TR.int TR.int) v105 y103.1]) rfl ?_
    refine RL.finG ?_
    refine GL.nilB ?_
    refine GL.region ?_
    refine RL.binI (v := .int .i64 ((i79 + 1 : Nat) : Int)) rfl rfl rfl rfl (binI_succ i79 (by omega)) ?_
    refine RL.mv rfl rfl rfl ?_
    refine RL.fin ?_
    cases h82
    exact fun a w st => lop_intro (i79 + 1, r91, y103.2.2) ⟨by show i79 + 1 + r91.length = (x1).length; simp only [List.length_cons] at h85; omega, h92, h83⟩ (by simp) (St.cut [7, 8, 2, 3] ⟨rfl, rfl, rfl, rfl, rfl, rfl, trivial⟩ (by decide) rfl st)
   replace h82 := ite_f b97 h82
   refine GL.skip ?_
   refine GL.nilB ?_
   refine GL.region ?_
   refine RL.binI (v := .int .i64 ((i79 + 1 : Nat) : Int)) rfl rfl rfl rfl (binI_succ i79 (by omega)) ?_
   refine RL.mv rfl rfl rfl ?_
   refine RL.fin ?_
   cases h82
   exact fun a w st => lop_intro (i79 + 1, r91, l53) ⟨by show i79 + 1 + r91.length = (x1).length; simp only [List.length_cons] at h85; omega, h92, h83⟩ (by simp) (St.cut [0, 1, 2, 3] ⟨rfl, rfl, rfl, rfl, rfl, rfl, trivial⟩ (by decide) rfl st)
  have h88 : ¬ i79 < (x1).length := by have := of_decide_eq_false b87; omega
  obtain rfl : r80 = [] := by rw [← h86]; exact List.drop_of_length_le (by omega)
  replace h84 : some (Fl.nx _) = some y72 := h84
  cases h84
  exact GL.exit (fun a w st => mid_intro l53 h75 (St.cut [0, 1, 2] ⟨rfl, rfl, rfl, trivial⟩ (by decide) rfl st))
 rintro l53 h106
 have h107 := h76 _ h106
 try dsimp only at h107
 refine GL.weak (env' := [(2, .int .i64 x2), (7, v15), (10, v35)]) (L' := [obox 74 TrH v15 (l53.1, (l53.2.1, u17)), obox 95 (TR.pair TR.str TR.int) u17 l53.2.2, own 46 TrA v35 y33]) (fun _ _ st => st) ?_
 refine GL.seq ?_
 refine GL.region ?_
 refine RL.mv rfl rfl rfl ?_
 obtain ⟨y111, e112, h107⟩ := bind_some h107
 refine RL.callU (vs := [v15]) (LR := fun (o : Value) => [own 46 TrA o y111]) (fun o => ⟨Loc.own (TR.flatT_pair TR.flatT_str (TR.flatT_pair TR.flatT_ik TR.flatT_ik)), trivial⟩) Tryz_fit12 rfl rfl rfl rfl rfl (fun U w hU hW hL => house_House_Accounts_c U w hU _ _ (ptr_held (Helded.snd (Helded.snd (Helded.raw rfl))) (hL 0 _ _ rfl Seen.obox) (hL 1 _ _ rfl Seen.obox)) _ e112) ?_
 intro v113
 refine RL.asg rfl rfl rfl ?_
 refine RL.finG ?_
 refine GL.seq ?_
 refine GL.seq ?_
 refine GL.region ?_
 refine RL.mv rfl rfl rfl ?_
 refine RL.mv rfl rfl rfl ?_
 refine RL.bld (t := TrE) (d0 := (((5 : Int), x2, ([] : List UInt8), (([] : List UInt8), ([] : List UInt8), (0 : Int), (0 : Int), (0 : Int), (0 : Int))) : (Int × (Int × ((List UInt8) × ((List UInt8) × ((List UInt8) × (Int × (Int × (Int × Int)))))))))) (pv := [(0, .int .i64 (5 : Int)), (1, .int .i64 x2)]) rfl Tryz_bld29 rfl rfl rfl ⟨⟨_, _, TR.int, (5 : Int), rfl, rfl, VR.int⟩, ⟨⟨_, _, TR.int, x2, rfl, rfl, VR.int⟩, trivial⟩⟩ (fun S f hi => by
   obtain ⟨c0, e0, r0⟩ := cells_vrep (t := TR.int) (u := .int .i64 (5 : Int)) (e := (5 : Int)) (VR.int S f hi)
   obtain ⟨c1, e1, r1⟩ := cells_vrep (t := TR.int) (u := .int .i64 x2) (e := x2) (VR.int S f hi)
   show TR.rep TrE S (List.flatten [(.int .i64 (5 : Int) : Value).cells.toList, (.int .i64 x2 : Value).cells.toList, [.string ⟨#[]⟩], [.string ⟨#[]⟩, .string ⟨#[]⟩, .int .i64 0, .int .i64 0, .int .i64 0, .int .i64 0]]) _
   simp only [e0, e1,  List.flatten_cons, List.flatten_nil, List.append_nil]
   exact ⟨_, _, rfl, r0, ⟨_, _, rfl, r1, ⟨_, _, rfl, rfl, ⟨[.string ⟨#[]⟩], _, rfl, rfl, ⟨[.string ⟨#[]⟩], _, rfl, rfl, ⟨[.int .i64 0], _, rfl, rfl, ⟨[.int .i64 0], _, rfl, rfl, ⟨[.int .i64 0], _, rfl, rfl, rfl⟩⟩⟩⟩⟩⟩⟩⟩) ?_
 intro v119
 obtain ⟨y120, e121, h107⟩ := bind_some h107
 refine RL.callK (vs := [v15, v119]) (V := fun (o : Value) => .tuple #[o, .int .i64 y120.2.1]) (LR := fun (o : Value) => [obox 74 TrH v15 (y120.2.2.1, (y120.2.2.2.1, u17)), obox 95 (TR.pair TR.str TR.int) u17 y120.2.2.2.2, imm (TR.pair TR.int TR.int) o y120.1]) (Ls := [obox 74 TrH v15 (l53.1, (l53.2.1, u17)), obox 95 (TR.pair TR.str TR.int) u17 l53.2.2]) [0, 1] (by decide) Tryz_fit10 rfl rfl rfl rfl rfl rfl (fun S f X w hO hB hW hI hL => house_House_Do_c _ S X f w _ _ l53  hO hB hI (hT.mono hW) _ _ (hL 4 _ _ rfl Sure.imm) _ e121) ?_
 intro v122
 refine RL.reL (L' := [gone, gone, own 46 TrA v35 y33, own 46 TrA v113 y111, imm TrE v119 (((5 : Int), x2, ([] : List UInt8), (([] : List UInt8), ([] : List UInt8), (0 : Int), (0 : Int), (0 : Int), (0 : Int))) : (Int × (Int × ((List UInt8) × ((List UInt8) × ((List UInt8) × (Int × (Int × (Int × Int))))))))), obox 74 TrH v15 (y120.2.2.1, (y120.2.2.2.1, u17)), obox 95 (TR.pair TR.str TR.int) u17 y120.2.2.2.2, imm (TR.pair TR.int TR.int) v122 y120.1]) rfl ?_
 refine RL.mv rfl rfl rfl ?_
 refine RL.ext rfl rfl rfl rfl ?_
 refine RL.ext rfl rfl rfl rfl ?_
 refine RL.alloc (t := (TR.pair TR.int TR.int)) (z := ((0 : Int), (0 : Int))) Tryz_lo31 (fun S => ⟨[.int .i64 0], _, rfl, rfl, rfl⟩) rfl rfl rfl ?_
 intro v123
 refine RL.stP (off := 0) (e' := y120.1) (d1 := y120.1) (r := (TR.pair TR.int TR.int)) 8 Tryz_ln31 rfl rfl (Or.inr ⟨rfl, rfl⟩) rfl (VR.item 7 rfl) rfl Upd.self ?_
 refine RL.reL (L' := [gone, gone, own 46 TrA v35 y33, own 46 TrA v113 y111, imm TrE v119 (((5 : Int), x2, ([] : List UInt8), (([] : List UInt8), ([] : List UInt8), (0 : Int), (0 : Int), (0 : Int), (0 : Int))) : (Int × (Int × ((List UInt8) × ((List UInt8) × ((List UInt8) × (Int × (Int × (Int × Int))))))))), obox 74 TrH v15 (y120.2.2.1, (y120.2.2.2.1, u17)), obox 95 (TR.pair TR.str TR.int) u17 y120.2.2.2.2, imm (TR.pair TR.int TR.int) v122 y120.1, obox 31 (TR.pair TR.int TR.int) v123 y120.1]) rfl ?_
 refine RL.asg rfl rfl rfl ?_
 refine RL.finG ?_
 refine GL.seq ?_
 refine GL.region ?_
 refine RL.mv rfl rfl rfl ?_
 refine RL.binI (v := .bool (y120.2.1 != (0 : Int))) rfl rfl rfl rfl rfl ?_
 refine RL.finG ?_
 refine GL.cond rfl (fun b124 => ?_) (fun b124 => ?_)
 ·replace h107 := ite_t b124 h107
  refine GL.seq ?_
  refine GL.region ?_
  refine RL.mv rfl rfl rfl ?_
  obtain ⟨y130, e131, h107⟩ := bind_some h107
  refine RL.callU (vs := [v15]) (LR := fun (o : Value) => [own 46 TrA o y130]) (fun o => ⟨Loc.own (TR.flatT_pair TR.flatT_str (TR.flatT_pair TR.flatT_ik TR.flatT_ik)), trivial⟩) Tryz_fit12 rfl rfl rfl rfl rfl (fun U w hU hW hL => house_House_Accounts_c U w hU _ _ (ptr_held (Helded.snd (Helded.snd (Helded.raw rfl))) (hL 5 _ _ rfl Seen.obox) (hL 6 _ _ rfl Seen.obox)) _ e131) ?_
  intro v132
  refine RL.mv rfl rfl rfl ?_
  obtain ⟨y133, e134, h107⟩ := bind_some h107
  refine RL.callV (v := .bool y133) (vs := [v132, v113]) Tryz_fit17 rfl (Or.inl rfl) rfl rfl rfl rfl (fun U w hU hW hL => slices_Equal_api_Account_api_Account_c U w hU _ _ (hL 9 _ _ rfl Seen.own) _ _ (hL 3 _ _ rfl Seen.own) _ e134) ?_
  refine RL.asg rfl rfl rfl ?_
  refine RL.finG ?_
  have h107 := Option.some.inj h107
  subst h107
  exact GL.ret (Gx.ret (v := .bool y133) (res1 rfl rfl) (fun a w st => st.toPostV))
 replace h107 := ite_f b124 h107
 refine GL.skip ?_
 refine GL.seq ?_
 refine GL.region ?_
 refine RL.mv rfl rfl rfl ?_
 obtain ⟨y138, e139, h107⟩ := bind_some h107
 refine RL.callU (vs := [v15]) (LR := fun (o : Value) => [own 46 TrA o y138]) (fun o => ⟨Loc.own (TR.flatT_pair TR.flatT_str (TR.flatT_pair TR.flatT_ik TR.flatT_ik)), trivial⟩) Tryz_fit12 rfl rfl rfl rfl rfl (fun U w hU hW hL => house_House_Accounts_c U w hU _ _ (ptr_held (Helded.snd (Helded.snd (Helded.raw rfl))) (hL 5 _ _ rfl Seen.obox) (hL 6 _ _ rfl Seen.obox)) _ e139) ?_
 intro v140
 refine RL.asg rfl rfl rfl ?_
 refine RL.finG ?_
 refine GL.seq ?_
 refine GL.seq ?_
 refine GL.region ?_
 refine RL.mv rfl rfl rfl ?_
 refine RL.lenS 2 Tryz.underlying36 rfl rfl rfl rfl SlOf.own ?_
 refine RL.mv rfl rfl rfl ?_
 refine RL.finG ?_
 refine GL.lenOwn 2 rfl (fun n195 => ?_)
 obtain ⟨y196, K197, h198, h199, h200, h201, h202⟩ := bindR_K h107
 refine GL.join (ι := Unit) (fun (p : Unit) => [(7, v15), (10, v35), (13, v113), (16, v140)]) (fun (p : Unit) => [obox 74 TrH v15 (y120.2.2.1, (y120.2.2.2.1, u17)), obox 95 (TR.pair TR.str TR.int) u17 y120.2.2.2.2, own 46 TrA v35 y33, own 46 TrA v113 y111, own 46 TrA v140 y138]) (fun (p : Unit) => K197 (.nx ())) ?_ ?_
 ·refine GL.block ?_
  refine GL.loop (ι := Nat × Nat) (fun (p : Nat × Nat) => [(7, v15), (10, v35), (13, v113), (16, v140), (67, v35), (68, .int .i64 ((y33).length : Int)), (69, .int .i64 (p.1 : Int))]) (fun (p : Nat × Nat) => [obox 74 TrH v15 (y120.2.2.1, (y120.2.2.2.1, u17)), obox 95 (TR.pair TR.str TR.int) u17 y120.2.2.2.2, own 46 TrA v35 y33, own 46 TrA v113 y111, own 46 TrA v140 y138]) (fun (p : Nat × Nat) => p.1 + p.2 = (y33).length ∧ rangeN (pk_HouseKeeps_b2 y33 y138 y111) p.2 p.1 () = some y196) (fun (p : Nat × Nat) => p.2) (0, (y33).length) ⟨by simp, h198⟩ (fun a w st => St.cut [5, 6, 2, 3, 9] ⟨rfl, rfl, rfl, rfl, rfl, rfl, rfl, trivial⟩ (by decide) rfl st) ?_
  rintro ⟨i203, r204⟩ ⟨h209, h208⟩
  try dsimp only at h209 h208
  refine GL.weak (env' := [(7, v15), (10, v35), (13, v113), (16, v140), (67, v35), (68, .int .i64 ((y33).length : Int)), (69, .int .i64 (i203 : Int))]) (L' := [obox 74 TrH v15 (y120.2.2.1, (y120.2.2.2.1, u17)), obox 95 (TR.pair TR.str TR.int) u17 y120.2.2.2.2, own 46 TrA v35 y33, own 46 TrA v113 y111, own 46 TrA v140 y138]) (fun _ _ st => st) ?_
  refine GL.seq ?_
  refine GL.region ?_
  refine RL.binI (v := .bool (decide ((i203 : Int) < ((y33).length : Int)))) rfl rfl rfl rfl rfl ?_
  refine RL.finG ?_
  refine GL.seq ?_
  refine GL.cond rfl (fun b211 => ?_) (fun b211 => ?_)
  ·have h212 : i203 < (y33).length := by have := of_decide_eq_true b211; omega
   obtain ⟨r213, hr⟩ : ∃ m, r204 = m + 1 := ⟨r204 - 1, by omega⟩
   subst hr
   obtain ⟨z205, h206, h207⟩ := rangeN_some h208
   unfold pk_HouseKeeps_b2 at h206
   try dsimp only at h206
   refine GL.skip ?_
   refine GL.seq ?_
   refine GL.block ?_
   refine GL.seq ?_
   refine GL.region ?_
   obtain ⟨y218, e219, h206⟩ := bind_some h206
   refine RL.idxS (sz := 3) 2 Tryz.underlying36 Tryz_ln46 rfl rfl rfl rfl rfl SlOf.own (idx_some e219).1 (idx_some e219).2.1 ?_
   refine RL.ldS (i := i203) (r := TrA) (e' := y218) 2 Tryz_ln46 rfl rfl rfl rfl SlOf.own (idx_some e219).2.2 Part.self ?_
   intro v220
   refine RL.alloc (t := TrA) (z := (([] : List UInt8), (0 : Int), (0 : Int))) Tryz_lo46 (fun S => ⟨[.string ⟨#[]⟩], _, rfl, rfl, ⟨[.int .i64 0], _, rfl, rfl, rfl⟩⟩) rfl rfl rfl ?_
   intro v221
   refine RL.reL (L' := [obox 74 TrH v15 (y120.2.2.1, (y120.2.2.2.1, u17)), obox 95 (TR.pair TR.str TR.int) u17 y120.2.2.2.2, own 46 TrA v35 y33, own 46 TrA v113 y111, own 46 TrA v140 y138, imm TrA v220 y218, obox 46 TrA v221 (([] : List UInt8), (0 : Int), (0 : Int))]) rfl ?_
   refine RL.stP (off := 0) (e' := y218) (d1 := y218) (r := TrA) 6 Tryz_ln46 rfl rfl (Or.inr ⟨rfl, rfl⟩) rfl (VR.item 5 rfl) rfl Upd.self ?_
   refine RL.finG ?_
   refine GL.seq ?_
   refine GL.region ?_
   refine RL.mv rfl rfl rfl ?_
   refine RL.mkF (vs := [v221]) rfl rfl rfl ?_
   obtain ⟨y224, e225, h206⟩ := bind_some h206
   refine RL.callV (v := .int .i64 y224) (vs := [v140, .func (.func 19) #[] #[v221]]) Tryz_fit18 rfl (Or.inl rfl) rfl rfl rfl rfl (fun U w hU hW hL => slices_IndexFunc_api_Account_api_Account_c U w hU _ _ (hL 4 _ _ rfl Seen.own) 19 #[v221] Tryz_fit19 (fun a0 => pk_HouseKeeps_1_m a0 y218) (fun U' w' hle hU' u0 a0 q0 rr hr => (pk_HouseKeeps_1_c U' w' hU' u0 a0 q0 _ _ (TR.vrep_mono hle (hL 6 _ _ rfl Seen.obox)) rr hr).mono (fun _ _ z => z)) _ e225) ?_
   refine RL.asg rfl rfl rfl ?_
   refine RL.finG ?_
   refine GL.seq ?_
   refine GL.region ?_
   refine RL.mv rfl rfl rfl ?_
   refine RL.mkF (vs := [v221]) rfl rfl rfl ?_
   obtain ⟨y228, e229, h206⟩ := bind_some h206
   refine RL.callV (v := .int .i64 y228) (vs := [v113, .func (.func 20) #[] #[v221]]) Tryz_fit18 rfl (Or.inl rfl) rfl rfl rfl rfl (fun U w hU hW hL => slices_IndexFunc_api_Account_api_Account_c U w hU _ _ (hL 3 _ _ rfl Seen.own) 20 #[v221] Tryz_fit20 (fun a0 => pk_HouseKeeps_2_m a0 y218) (fun U' w' hle hU' u0 a0 q0 rr hr => (pk_HouseKeeps_2_c U' w' hU' u0 a0 q0 _ _ (TR.vrep_mono hle (hL 6 _ _ rfl Seen.obox)) rr hr).mono (fun _ _ z => z)) _ e229) ?_
   refine RL.asg rfl rfl rfl ?_
   refine RL.finG ?_
   refine GL.seq ?_
   obtain ⟨y249, K250, h251, h252, h253, h254, h255⟩ := bindF_K h206
   refine GL.join (ι := Bool) (fun (p : Bool) => [(7, v15), (10, v35), (13, v113), (16, v140), (67, v35), (68, .int .i64 ((y33).length : Int)), (69, .int .i64 (i203 : Int)), (107, .bool p)]) (fun (p : Bool) => [obox 74 TrH v15 (y120.2.2.1, (y120.2.2.2.1, u17)), obox 95 (TR.pair TR.str TR.int) u17 y120.2.2.2.2, own 46 TrA v35 y33, own 46 TrA v113 y111, own 46 TrA v140 y138]) (fun (p : Bool) => K250 (.nx p)) ?_ ?_
   ·skip
    refine GL.regionQ rfl rfl (by kernel_rfl) ?_
    refine RL.mv rfl rfl rfl ?_
    refine RL.binI (v := .bool (decide (y224 < (0 : Int)))) rfl rfl rfl rfl rfl ?_
    refine RL.mv rfl rfl rfl ?_
    refine RL.split (t := 81) rfl (fun b256 => ?_) (fun b256 => ?_)
    ·replace h251 := ite_t b256 h251
     refine RL.skip rfl rfl ?_
     refine RL.skip rfl rfl ?_
     refine RL.pickT rfl rfl rfl rfl ?_
     refine RL.mv rfl rfl rfl ?_
     refine RL.skip rfl rfl ?_
     refine RL.skip rfl rfl ?_
     refine RL.skip rfl rfl ?_
     refine RL.skip rfl rfl ?_
     refine RL.skip rfl rfl ?_
     refine RL.skip rfl rfl ?_
     refine RL.skip rfl rfl ?_
     refine RL.skip rfl rfl ?_
     refine RL.pickT rfl rfl rfl rfl ?_
     refine RL.mv rfl rfl rfl ?_
     refine RL.skip rfl rfl ?_
     refine RL.skip rfl rfl ?_
     refine RL.skip rfl rfl ?_
     refine RL.skip rfl rfl ?_
     refine RL.skip rfl rfl ?_
     refine RL.skip rfl rfl ?_
     refine RL.skip rfl rfl ?_
     refine RL.skip rfl rfl ?_
     refine RL.skip rfl rfl ?_
     refine RL.skip rfl rfl ?_
     refine RL.skip rfl rfl ?_
     refine RL.pickT rfl rfl rfl rfl ?_
     refine RL.finQ ?_
     cases h251
     exact fun a w st => mid_intro true h252 (St.cut [0, 1, 2, 3, 4] ⟨rfl, rfl, rfl, rfl, rfl, rfl, rfl, rfl, trivial⟩ (by decide) rfl st)
    replace h251 := ite_f b256 h251
    refine RL.mv rfl rfl rfl ?_
    refine RL.binI (v := .bool (decide (y228 < (0 : Int)))) rfl rfl rfl rfl rfl ?_
    refine RL.pickF rfl rfl rfl rfl ?_
    refine RL.mv rfl rfl rfl ?_
    refine RL.split (t := 85) rfl (fun b257 => ?_) (fun b257 => ?_)
    ·replace h251 := ite_t b257 h251
     refine RL.skip rfl rfl ?_
     refine RL.skip rfl rfl ?_
     refine RL.skip rfl rfl ?_
     refine RL.skip rfl rfl ?_
     refine RL.skip rfl rfl ?_
     refine RL.skip rfl rfl ?_
     refine RL.skip rfl rfl ?_
     refine RL.skip rfl rfl ?_
     refine RL.pickT rfl rfl rfl rfl ?_
     refine RL.mv rfl rfl rfl ?_
     refine RL.skip rfl rfl ?_
     refine RL.skip rfl rfl ?_
     refine RL.skip rfl rfl ?_
     refine RL.skip rfl rfl ?_
     refine RL.skip rfl rfl ?_
     refine RL.skip rfl rfl ?_
     refine RL.skip rfl rfl ?_
     refine RL.skip rfl rfl ?_
     refine RL.skip rfl rfl ?_
     refine RL.skip rfl rfl ?_
     refine RL.skip rfl rfl ?_
     refine RL.pickT rfl rfl rfl rfl ?_
     refine RL.finQ ?_
     cases h251
     exact fun a w st => mid_intro true h252 (St.cut [0, 1, 2, 3, 4] ⟨rfl, rfl, rfl, rfl, rfl, rfl, rfl, rfl, trivial⟩ (by decide) rfl st)
    replace h251 := ite_f b257 h251
    refine RL.mv rfl rfl rfl ?_
    refine RL.mv rfl rfl rfl ?_
    obtain ⟨y258, e259, h251⟩ := bind_some h251
    refine RL.idxS (sz := 3) 4 Tryz.underlying36 Tryz_ln46 rfl rfl rfl rfl rfl SlOf.own (idx_some e259).1 (idx_some e259).2.1 ?_
    refine RL.fadrS (off := ((y224).toNat * 3)) (fo := 2) 4 Tryz_fld46_2 rfl rfl rfl SlOf.own (by have := (List.getElem?_eq_some_iff.1 (idx_some e259).2.2).1; (try dsimp only at this ⊢); omega) rfl ?_
    refine RL.ldSx (i := (y224).toNat) (e' := y258.2.2) 4 Ex.ik Tryz_ln3 rfl rfl rfl rfl SlOf.own (idx_some e259).2.2 (Part.snd (Part.snd Part.self)) ?_
    refine RL.fadr (off := 0) (fo := 2) 6 Tryz_fld46_2 rfl rfl rfl PtOf.obox (Or.inr ⟨rfl, rfl⟩) ?_
    refine RL.ldPx (off := (0 + 2)) (e' := y218.2.2) 6 Ex.ik Tryz_ln3 rfl rfl (Or.inl rfl) rfl PtOf.obox (Part.snd (Part.snd Part.self)) ?_
    refine RL.binI (v := .bool (decide (y258.2.2 < y218.2.2))) rfl rfl rfl rfl rfl ?_
    refine RL.pickF rfl rfl rfl rfl ?_
    refine RL.mv rfl rfl rfl ?_
    refine RL.split (t := 95) rfl (fun b260 => ?_) (fun b260 => ?_)
    ·replace h251 := ite_t b260 h251
     refine RL.skip rfl rfl ?_
     refine RL.skip rfl rfl ?_
     refine RL.skip rfl rfl ?_
     refine RL.skip rfl rfl ?_
     refine RL.skip rfl rfl ?_
     refine RL.skip rfl rfl ?_
     refine RL.skip rfl rfl ?_
     refine RL.skip rfl rfl ?_
     refine RL.skip rfl rfl ?_
     refine RL.skip rfl rfl ?_
     refine RL.skip rfl rfl ?_
     refine RL.pickT rfl rfl rfl rfl ?_
     refine RL.finQ ?_
     cases h251
     exact fun a w st => mid_intro true h252 (St.cut [0, 1, 2, 3, 4] ⟨rfl, rfl, rfl, rfl, rfl, rfl, rfl, rfl, trivial⟩ (by decide) rfl st)
    replace h251 := ite_f b260 h251
    refine RL.mv rfl rfl rfl ?_
    refine RL.mv rfl rfl rfl ?_
    obtain ⟨y261, e262, h251⟩ := bind_some h251
    refine RL.idxS (sz := 3) 4 Tryz.underlying36 Tryz_ln46 rfl rfl rfl rfl rfl SlOf.own (idx_some e262).1 (idx_some e262).2.1 ?_
    refine RL.fadrS (off := ((y224).toNat * 3)) (fo := 2) 4 Tryz_fld46_2 rfl rfl rfl SlOf.own (by have := (List.getElem?_eq_some_iff.1 (idx_some e262).2.2).1; (try dsimp only at this ⊢); omega) rfl ?_
    refine RL.ldSx (i := (y224).toNat) (e' := y261.2.2) 4 Ex.ik Tryz_ln3 rfl rfl rfl rfl SlOf.own (idx_some e262).2.2 (Part.snd (Part.snd Part.self)) ?_
    refine RL.mv rfl rfl rfl ?_
    refine RL.mv rfl rfl rfl ?_
    obtain ⟨y263, e264, h251⟩ := bind_some h251
    refine RL.idxS (sz := 3) 3 Tryz.underlying36 Tryz_ln46 rfl rfl rfl rfl rfl SlOf.own (idx_some e264).1 (idx_some e264).2.1 ?_
    refine RL.fadrS (off := ((y228).toNat * 3)) (fo := 2) 3 Tryz_fld46_2 rfl rfl rfl SlOf.own (by have := (List.getElem?_eq_some_iff.1 (idx_some e264).2.2).1; (try dsimp only at this ⊢); omega) rfl ?_
    refine RL.ldSx (i := (y228).toNat) (e' := y263.2.2) 3 Ex.ik Tryz_ln3 rfl rfl rfl rfl SlOf.own (idx_some e264).2.2 (Part.snd (Part.snd Part.self)) ?_
    refine RL.binI (v := .bool (decide (y261.2.2 > y263.2.2))) rfl rfl rfl rfl rfl ?_
    refine RL.pickF rfl rfl rfl rfl ?_
    refine RL.finQ ?_
    cases h251
    exact fun a w st => mid_intro (decide (y261.2.2 > y263.2.2)) h252 (St.cut [0, 1, 2, 3, 4] ⟨rfl, rfl, rfl, rfl, rfl, rfl, rfl, rfl, trivial⟩ (by decide) rfl st)
   rintro x248 h265
   have h266 := h253 _ h265
   try dsimp only at h266
   refine GL.weak (env' := [(7, v15), (10, v35), (13, v113), (16, v140), (67, v35), (68, .int .i64 ((y33).length : Int)), (69, .int .i64 (i203 : Int)), (107, .bool x248)]) (L' := [obox 74 TrH v15 (y120.2.2.1, (y120.2.2.2.1, u17)), obox 95 (TR.pair TR.str TR.int) u17 y120.2.2.2.2, own 46 TrA v35 y33, own 46 TrA v113 y111, own 46 TrA v140 y138]) (fun _ _ st => st) ?_
   refine GL.cond rfl (fun b267 => ?_) (fun b267 => ?_)
   ·replace h266 := ite_t b267 h266
    refine GL.seq ?_
    refine GL.region ?_
    refine RL.asg rfl rfl rfl ?_
    refine RL.finG ?_
    cases h266
    replace h207 : some (Fl.rt _) = some y196 := h207
    cases h207
    have hh := h201 _ h199
    subst hh
    exact GL.ret (Gx.ret (v := .bool false) (res1 rfl rfl) (fun a w st => st.toPostV))
   replace h266 := ite_f b267 h266
   refine GL.skip ?_
   refine GL.nilB ?_
   refine GL.region ?_
   refine RL.binI (v := .int .i64 ((i203 + 1 : Nat) : Int)) rfl rfl rfl rfl (binI_succ i203 (by omega)) ?_
   refine RL.mv rfl rfl rfl ?_
   refine RL.fin ?_
   cases h266
   exact fun a w st => lop_intro (i203 + 1, r213) ⟨by show i203 + 1 + r213 = (y33).length; omega, h207⟩ (by simp) (St.cut [0, 1, 2, 3, 4] ⟨rfl, rfl, rfl, rfl, rfl, rfl, rfl, trivial⟩ (by decide) rfl st)
  have h212 : ¬ i203 < (y33).length := by have := of_decide_eq_false b211; omega
  obtain rfl : r204 = 0 := by omega
  replace h208 : some (Fl.nx _) = some y196 := h208
  cases h208
  exact GL.exit (fun a w st => mid_intro () h199 (St.cut [0, 1, 2, 3, 4] ⟨rfl, rfl, rfl, rfl, trivial⟩ (by decide) rfl st))
 rintro ⟨⟩ h268
 have h269 := h200 _ h268
 try dsimp only at h269
 refine GL.weak (env' := [(7, v15), (10, v35), (13, v113), (16, v140)]) (L' := [obox 74 TrH v15 (y120.2.2.1, (y120.2.2.2.1, u17)), obox 95 (TR.pair TR.str TR.int) u17 y120.2.2.2.2, own 46 TrA v35 y33, own 46 TrA v113 y111, own 46 TrA v140 y138]) (fun _ _ st => st) ?_
 refine GL.seq ?_
 obtain ⟨y281, K282, h283, h284, h285, h286, h287⟩ := bindR_K h269
 refine GL.join (ι := Bool) (fun (p : Bool) => [(6, .bool p)]) (fun (p : Bool) => []) (fun (p : Bool) => K282 (.nx p)) ?_ ?_
 ·skip
  refine GL.region ?_
  refine RL.mv rfl rfl rfl ?_
  obtain ⟨y288, e289, h283⟩ := bind_some h283
  refine RL.callU (vs := [v15]) (LR := fun (o : Value) => [own 27 TrD o y288]) (fun o => ⟨Loc.own (TR.flatT_pair TR.flatT_str (TR.flatT_pair TR.flatT_str (TR.flatT_pair TR.flatT_ik (TR.flatT_pair TR.flatT_ik (TR.flatT_pair TR.flatT_ik TR.flatT_ik))))), trivial⟩) Tryz_fit15 rfl rfl rfl rfl rfl (fun U w hU hW hL => house_House_Offers_c U w hU _ _ (ptr_held (Helded.snd (Helded.snd (Helded.raw rfl))) (hL 0 _ _ rfl Seen.obox) (hL 1 _ _ rfl Seen.obox)) _ e289) ?_
  intro v290
  refine RL.lenS 5 Tryz.underlying40 rfl rfl rfl rfl SlOf.own ?_
  refine RL.binI (v := .bool (((y288).length : Int) == (0 : Int))) rfl rfl rfl rfl rfl ?_
  refine RL.mv rfl rfl rfl ?_
  refine RL.split (t := 113) rfl (fun b291 => ?_) (fun b291 => ?_)
  ·replace h283 := ite_t b291 h283
   refine RL.mv rfl rfl rfl ?_
   refine RL.lenS 4 Tryz.underlying36 rfl rfl rfl rfl SlOf.own ?_
   refine RL.mv rfl rfl rfl ?_
   refine RL.lenS 2 Tryz.underlying36 rfl rfl rfl rfl SlOf.own ?_
   refine RL.binI (v := .bool (decide (((y138).length : Int) ≥ ((y33).length : Int)))) rfl rfl rfl rfl rfl ?_
   refine RL.pickT rfl rfl rfl rfl ?_
   refine RL.mv rfl rfl rfl ?_
   refine RL.split (t := 120) rfl (fun b292 => ?_) (fun b292 => ?_)
   ·replace h283 := ite_t b292 h283
    refine RL.mv rfl rfl rfl ?_
    refine RL.lenS 4 Tryz.underlying36 rfl rfl rfl rfl SlOf.own ?_
    refine RL.mv rfl rfl rfl ?_
    refine RL.lenS 3 Tryz.underlying36 rfl rfl rfl rfl SlOf.own ?_
    refine RL.binI (v := .bool (decide (((y138).length : Int) ≤ ((y111).length : Int)))) rfl rfl rfl rfl rfl ?_
    refine RL.pickT rfl rfl rfl rfl ?_
    refine RL.asg rfl rfl rfl ?_
    refine RL.fin ?_
    cases h283
    exact fun a w st => mid_intro (decide (((y138).length : Int) ≤ ((y111).length : Int))) h284 (St.cut [] ⟨rfl, trivial⟩ (by decide) rfl st)
   replace h283 := ite_f b292 h283
   refine RL.skip rfl rfl ?_
   refine RL.skip rfl rfl ?_
   refine RL.skip rfl rfl ?_
   refine RL.skip rfl rfl ?_
   refine RL.skip rfl rfl ?_
   refine RL.pickF rfl rfl rfl rfl ?_
   refine RL.asg rfl rfl rfl ?_
   refine RL.fin ?_
   cases h283
   exact fun a w st => mid_intro false h284 (St.cut [] ⟨rfl, trivial⟩ (by decide) rfl st)
  replace h283 := ite_f b291 h283
  refine RL.skip rfl rfl ?_
  refine RL.skip rfl rfl ?_
  refine RL.skip rfl rfl ?_
  refine RL.skip rfl rfl ?_
  refine RL.skip rfl rfl ?_
  refine RL.pickF rfl rfl rfl rfl ?_
  refine RL.mv rfl rfl rfl ?_
  refine RL.skip rfl rfl ?_
  refine RL.skip rfl rfl ?_
  refine RL.skip rfl rfl ?_
  refine RL.skip rfl rfl ?_
  refine RL.skip rfl rfl ?_
  refine RL.pickF rfl rfl rfl rfl ?_
  refine RL.asg rfl rfl rfl ?_
  refine RL.fin ?_
  cases h283
  exact fun a w st => mid_intro false h284 (St.cut [] ⟨rfl, trivial⟩ (by decide) rfl st)
 rintro x280 h293
 have h294 := h285 _ h293
 try dsimp only at h294
 refine GL.weak (env' := [(6, .bool x280)]) (L' := []) (fun _ _ st => st) ?_
 have h294 := Option.some.inj h294
 subst h294
 exact GL.ret (Gx.ret (v := .bool x280) (res1 rfl rfl) (fun a w st => st.toPostV))
end Go.Wk
