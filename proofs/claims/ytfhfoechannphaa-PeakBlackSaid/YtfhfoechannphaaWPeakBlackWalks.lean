/- Each function comes to what its model says; printed by a program of this repository. -/
import Derived.Test.YtfhfoechannphaaProg
import Derived.Test.YtfhfoechannphaaWPeakBlackModels
import Derived.Test.YtfhfoechannphaaFwT
namespace Go.Proofs
def Try.lays189_ren : Shelf.Ren :=
{
  f := fun x =>
    match x with
    | 189 => 46
    | 125 => 49
    | 257 => 48
    | 128 => 59
    | 129 => 60
    | 294 => 50
    | 295 => 51
    | 296 => 52
    | 297 => 53
    | 298 => 54
    | 299 => 55
    | 216 => 56
    | 300 => 57
    | 301 => 58
    | 328 => 61
    | 329 => 62
    | 330 => 63
    | 331 => 64
    | 332 => 65
    | 215 => 66
    | 343 => 67
    | n => n,
  t := fun x =>
    match x with
    | 28 => 27
    | 3 => 3
    | 46 => 82
    | 0 => 0
    | 51 => 92
    | 53 => 94
    | 4 => 4
    | 183 => 85
    | 182 => 84
    | 131 => 89
    | 5 => 5
    | 9 => 9
    | 218 => 95
    | 222 => 99
    | 228 => 102
    | 229 => 103
    | n => n,
  g := fun x =>
    have n := x;
    n }
theorem Try.lays189 : Lays.n189 Try.prog Try.lays189_ren :=
{ mixed := Eq.refl true, f125 := Eq.trans Try.func49 (congrArg some (Eq.refl (Body.n125 Try.lays189_ren))),
  f128 := Eq.trans Try.func59 (congrArg some (Eq.refl (Body.n128 Try.lays189_ren))),
  f129 := Eq.trans Try.func60 (congrArg some (Eq.refl (Body.n129 Try.lays189_ren))),
  f189 := Eq.trans Try.func46 (congrArg some (Eq.refl (Body.n189 Try.lays189_ren))),
  f215 := Eq.trans Try.func66 (congrArg some (Eq.refl (Body.n215 Try.lays189_ren))),
  f216 := Eq.trans Try.func56 (congrArg some (Eq.refl (Body.n216 Try.lays189_ren))),
  f257 := Eq.trans Try.func48 (congrArg some (Eq.refl (Body.n257 Try.lays189_ren))),
  f294 := Eq.trans Try.func50 (congrArg some (Eq.refl (Body.n294 Try.lays189_ren))),
  f295 := Eq.trans Try.func51 (congrArg some (Eq.refl (Body.n295 Try.lays189_ren))),
  f296 := Eq.trans Try.func52 (congrArg some (Eq.refl (Body.n296 Try.lays189_ren))),
  f297 := Eq.trans Try.func53 (congrArg some (Eq.refl (Body.n297 Try.lays189_ren))),
  f298 := Eq.trans Try.func54 (congrArg some (Eq.refl (Body.n298 Try.lays189_ren))),
  f299 := Eq.trans Try.func55 (congrArg some (Eq.refl (Body.n299 Try.lays189_ren))),
  f300 := Eq.trans Try.func57 (congrArg some (Eq.refl (Body.n300 Try.lays189_ren))),
  f301 := Eq.trans Try.func58 (congrArg some (Eq.refl (Body.n301 Try.lays189_ren))),
  f328 := Eq.trans Try.func61 (congrArg some (Eq.refl (Body.n328 Try.lays189_ren))),
  f329 := Eq.trans Try.func62 (congrArg some (Eq.refl (Body.n329 Try.lays189_ren))),
  f330 := Eq.trans Try.func63 (congrArg some (Eq.refl (Body.n330 Try.lays189_ren))),
  f331 := Eq.trans Try.func64 (congrArg some (Eq.refl (Body.n331 Try.lays189_ren))),
  f332 := Eq.trans Try.func65 (congrArg some (Eq.refl (Body.n332 Try.lays189_ren))),
  f343 := Eq.trans Try.func67 (congrArg some (Eq.refl (Body.n343 Try.lays189_ren))), t0 := Try.underlying0,
  a0 := Try.isAgg0, z0 := Try.sizeOf0, v0 := Try.zeroValue0, t3 := Try.underlying3, a3 := Try.isAgg3, z3 := Try.sizeOf3,
  v3 := Try.zeroValue3, t4 := Try.underlying4, a4 := Try.isAgg4, z4 := Try.sizeOf4, v4 := Try.zeroValue4,
  t5 := Try.underlying5, a5 := Try.isAgg5, z5 := Try.sizeOf5, v5 := Try.zeroValue5, t9 := Try.underlying9,
  a9 := Try.isAgg9, z9 := Try.sizeOf9, v9 := Try.zeroValue9, t28 := Try.underlying27, a28 := Try.isAgg27,
  z28 := Try.sizeOf27, v28 := Try.zeroValue27, t46 := Try.underlying82, a46 := Try.isAgg82, z46 := Try.sizeOf82,
  v46 := Try.zeroValue82, t51 := Try.underlying92, a51 := Try.isAgg92, z51 := Try.sizeOf92, v51 := Try.zeroValue92,
  t53 := Try.underlying94, a53 := Try.isAgg94, z53 := Try.sizeOf94, v53 := Try.zeroValue94, t131 := Try.underlying89,
  a131 := Try.isAgg89, z131 := Try.sizeOf89, v131 := Try.zeroValue89, t182 := Try.underlying84, a182 := Try.isAgg84,
  z182 := Try.sizeOf84, v182 := Try.zeroValue84, t183 := Try.underlying85, a183 := Try.isAgg85, z183 := Try.sizeOf85,
  v183 := Try.zeroValue85, t218 := Try.underlying95, a218 := Try.isAgg95, z218 := Try.sizeOf95, v218 := Try.zeroValue95,
  t222 := Try.underlying99, a222 := Try.isAgg99, z222 := Try.sizeOf99, v222 := Try.zeroValue99,
  t228 := Try.underlying102, a228 := Try.isAgg102, z228 := Try.sizeOf102, v228 := Try.zeroValue102,
  t229 := Try.underlying103, a229 := Try.isAgg103, z229 := Try.sizeOf103, v229 := Try.zeroValue103 }
end Go.Proofs
namespace Go.Wk
open Go.Fw Go.Mo Go.Proofs Go.RowKit
set_option linter.all false
set_option maxRecDepth 100000
theorem loopNx {ρ σ β γ : Type} {body : σ → Option (Fl ρ β σ)} {n : Nat} {s : σ} {y : Fl ρ γ β} (h : stepM body n (.nx s) = some y) : loopM body n s = some y := h
theorem Try_info3 : (Try.prog.info? 3).map (fun i => (i.zero, i.size, i.bytes)) = some (some (.int .i64 0), 1, 8) := by kernel_rfl
theorem Try_ln3 : Ln Try.prog 3 1 false := Ln.of Try_info3 Try.underlying3 rfl
theorem Try_lo3 : LnO Try.prog 3 1 [.int .i64 0] := LnO.of Try_info3 rfl rfl (by decide) (by decide)
theorem Try_info4 : (Try.prog.info? 4).map (fun i => (i.zero, i.size, i.bytes)) = some (some (.bool false), 1, 1) := by kernel_rfl
theorem Try_ln4 : Ln Try.prog 4 1 false := Ln.of Try_info4 Try.underlying4 rfl
theorem Try_lo4 : LnO Try.prog 4 1 [.bool false] := LnO.of Try_info4 rfl rfl (by decide) (by decide)
theorem Try_info27 : (Try.prog.info? 27).map (fun i => (i.zero, i.size, i.bytes)) = some (some (.slice none 0 0), 1, 24) := by kernel_rfl
theorem Try_ln27 : Ln Try.prog 27 1 false := Ln.of Try_info27 Try.underlying27 rfl
theorem Try_lo27 : LnO Try.prog 27 1 [.slice none 0 0] := LnO.of Try_info27 rfl rfl (by decide) (by decide)
theorem Try_info28 : (Try.prog.info? 28).map (fun i => (i.zero, i.size, i.bytes)) = some (some (.int .i64 0), 1, 8) := by kernel_rfl
theorem Try_ln28 : Ln Try.prog 28 1 false := Ln.of Try_info28 Try.underlying28 rfl
theorem Try_lo28 : LnO Try.prog 28 1 [.int .i64 0] := LnO.of Try_info28 rfl rfl (by decide) (by decide)
theorem Try_info79 : (Try.prog.info? 79).map (fun i => (i.zero, i.size, i.bytes)) = some (some (.agg #[.bool false, .bool false, .bool false, .bool false, .bool false, .bool false]), 6, 6) := by kernel_rfl
theorem Try_ln79 : Ln Try.prog 79 6 true := Ln.of Try_info79 Try.underlying79 rfl
theorem Try_lo79 : LnO Try.prog 79 6 [.bool false, .bool false, .bool false, .bool false, .bool false, .bool false] := LnO.of Try_info79 rfl rfl (by decide) (by decide)
theorem Try_fit10 : Fit Try.prog 10 := Fit.of Try.func10 (by kernel_rfl) rfl
theorem Try_fit13 : Fit Try.prog 13 := Fit.of Try.func13 (by kernel_rfl) rfl
theorem Try_fit17 : Fit Try.prog 17 := Fit.of Try.func17 (by kernel_rfl) rfl
theorem Try_fit21 : Fit Try.prog 21 := Fit.of Try.func21 (by kernel_rfl) rfl
theorem Try_fit23 : Fit Try.prog 23 := Fit.of Try.func23 (by kernel_rfl) rfl
theorem Try_fit24 : Fit Try.prog 24 := Fit.of Try.func24 (by kernel_rfl) rfl
theorem Try_fit25 : Fit Try.prog 25 := Fit.of Try.func25 (by kernel_rfl) rfl
theorem Try_fit26 : Fit Try.prog 26 := Fit.of Try.func26 (by kernel_rfl) rfl
theorem Try_fit27 : Fit Try.prog 27 := Fit.of Try.func27 (by kernel_rfl) rfl
theorem Try_fit28 : Fit Try.prog 28 := Fit.of Try.func28 (by kernel_rfl) rfl
theorem Try_fit29 : Fit Try.prog 29 := Fit.of Try.func29 (by kernel_rfl) rfl
theorem Try_fit30 : Fit Try.prog 30 := Fit.of Try.func30 (by kernel_rfl) rfl
theorem Try_fit31 : Fit Try.prog 31 := Fit.of Try.func31 (by kernel_rfl) rfl
theorem Try_fit32 : Fit Try.prog 32 := Fit.of Try.func32 (by kernel_rfl) rfl
theorem Try_fit34 : Fit Try.prog 34 := Fit.of Try.func34 (by kernel_rfl) rfl
theorem Try_fit35 : Fit Try.prog 35 := Fit.of Try.func35 (by kernel_rfl) rfl
theorem Try_fit37 : Fit Try.prog 37 := Fit.of Try.func37 (by kernel_rfl) rfl
theorem Try_fit38 : Fit Try.prog 38 := Fit.of Try.func38 (by kernel_rfl) rfl
theorem Try_fit39 : Fit Try.prog 39 := Fit.of Try.func39 (by kernel_rfl) rfl
theorem Try_fit40 : Fit Try.prog 40 := Fit.of Try.func40 (by kernel_rfl) rfl
theorem Try_fit41 : Fit Try.prog 41 := Fit.of Try.func41 (by kernel_rfl) rfl
theorem Try_fit42 : Fit Try.prog 42 := Fit.of Try.func42 (by kernel_rfl) rfl
theorem Try_fit43 : Fit Try.prog 43 := Fit.of Try.func43 (by kernel_rfl) rfl
theorem Try_fit44 : Fit Try.prog 44 := Fit.of Try.func44 (by kernel_rfl) rfl
theorem Try_fit45 : Fit Try.prog 45 := Fit.of Try.func45 (by kernel_rfl) rfl
theorem Try_fit46 : Fit Try.prog 46 := Fit.of Try.func46 (by kernel_rfl) rfl
theorem Try_fit47 : Fit Try.prog 47 := Fit.of Try.func47 (by kernel_rfl) rfl
theorem Try_fit48 : Fit Try.prog 48 := Fit.of Try.func48 (by kernel_rfl) rfl
theorem Try_fit49 : Fit Try.prog 49 := Fit.of Try.func49 (by kernel_rfl) rfl
theorem Try_fit50 : Fit Try.prog 50 := Fit.of Try.func50 (by kernel_rfl) rfl
theorem Try_fit56 : Fit Try.prog 56 := Fit.of Try.func56 (by kernel_rfl) rfl
theorem Try_fit59 : Fit Try.prog 59 := Fit.of Try.func59 (by kernel_rfl) rfl
theorem Try_fit60 : Fit Try.prog 60 := Fit.of Try.func60 (by kernel_rfl) rfl
theorem Try_fit66 : Fit Try.prog 66 := Fit.of Try.func66 (by kernel_rfl) rfl

set_option maxHeartbeats 4000000 in
theorem order_Check_c (S : Hp) (w : World) (hS : S.sub w) (x0 : Int) (v1 : Value) (x1 : (List Int)) (k1 : ((TR.sl TR.int)).vrep S v1 x1) (res : Int) (hm : order_Check_m x0 x1 = some res) : Calls Try.prog 43 #[.int .i64 x0, v1] w (PostV w (.int .i64 res)) := by
 refine calls_enter 39 Try.func43 Try.ntmps43 rfl S false [(0, .int .i64 x0), (1, v1)] [imm (TR.sl TR.int) v1 x1] rfl ⟨rfl, ⟨rfl, trivial⟩⟩ hS ⟨k1, trivial⟩ ?_
 unfold order_Check_m at hm
 refine GL.seq ?_
 refine GL.region ?_
 refine RL.asg rfl rfl rfl ?_
 refine RL.finG ?_
 refine GL.seq ?_
 refine GL.seq ?_
 obtain ⟨y6, K7, h8, h9, h10, h11, h12⟩ := bindR_K hm
 refine GL.join (ι := Bool) (fun (p : Bool) => [(0, .int .i64 x0), (1, v1), (13, .bool p)]) (fun (p : Bool) => [imm (TR.sl TR.int) v1 x1]) (fun (p : Bool) => K7 (.nx p)) ?_ ?_
 ·skip
  refine GL.region ?_
  refine RL.mv rfl rfl rfl ?_
  refine RL.binI (v := .bool (decide (x0 < (1 : Int)))) rfl rfl rfl rfl rfl ?_
  refine RL.mv rfl rfl rfl ?_
  refine RL.split (t := 10) rfl (fun b13 => ?_) (fun b13 => ?_)
  ·replace h8 := ite_t b13 h8
   refine RL.skip rfl rfl ?_
   refine RL.skip rfl rfl ?_
   refine RL.pickT rfl rfl rfl rfl ?_
   refine RL.fin ?_
   cases h8
   exact fun a w st => mid_intro true h9 (St.cut [0] ⟨rfl, rfl, rfl, trivial⟩ (by decide) rfl st)
  replace h8 := ite_f b13 h8
  refine RL.mv rfl rfl rfl ?_
  refine RL.binI (v := .bool (decide (x0 > (6 : Int)))) rfl rfl rfl rfl rfl ?_
  refine RL.pickF rfl rfl rfl rfl ?_
  refine RL.fin ?_
  cases h8
  exact fun a w st => mid_intro (decide (x0 > (6 : Int))) h9 (St.cut [0] ⟨rfl, rfl, rfl, trivial⟩ (by decide) rfl st)
 rintro x5 h14
 have h15 := h10 _ h14
 try dsimp only at h15
 refine GL.weak (env' := [(0, .int .i64 x0), (1, v1), (13, .bool x5)]) (L' := [imm (TR.sl TR.int) v1 x1]) (fun _ _ st => st) ?_
 refine GL.cond rfl (fun b16 => ?_) (fun b16 => ?_)
 ·replace h15 := ite_t b16 h15
  refine GL.seq ?_
  refine GL.region ?_
  refine RL.asg rfl rfl rfl ?_
  refine RL.finG ?_
  have h15 := Option.some.inj h15
  subst h15
  exact GL.ret (Gx.ret (v := .int .i64 (1 : Int)) (res1 rfl rfl) (fun a w st => st.toPostV))
 replace h15 := ite_f b16 h15
 refine GL.skip ?_
 refine GL.seq ?_
 refine GL.region ?_
 refine RL.alloc (t := (TR.arr 6 TR.bool)) (z := (List.replicate 6 false)) Try_lo79 (fun S => ⟨rfl, ⟨_, _, rfl, rfl, ⟨_, _, rfl, rfl, ⟨_, _, rfl, rfl, ⟨_, _, rfl, rfl, ⟨_, _, rfl, rfl, ⟨_, _, rfl, rfl, rfl⟩⟩⟩⟩⟩⟩⟩) rfl rfl rfl ?_
 intro v18
 refine RL.finG ?_
 refine GL.seq ?_
 refine GL.seq ?_
 refine GL.region ?_
 refine RL.mv rfl rfl rfl ?_
 refine RL.lenS 0 Try.underlying27 rfl rfl rfl rfl SlOf.imm ?_
 refine RL.mv rfl rfl rfl ?_
 refine RL.finG ?_
 refine GL.open_ 0 rfl (fun S h => len_imm S h) (fun n82 => ?_)
 obtain ⟨y83, K84, h85, h86, h87, h88, h89⟩ := bindR_K h15
 refine GL.join (ι := (List Bool)) (fun (p : (List Bool)) => [(0, .int .i64 x0), (1, v1)]) (fun (p : (List Bool)) => [imm (TR.sl TR.int) v1 x1]) (fun (p : (List Bool)) => K84 (.nx p)) ?_ ?_
 ·refine GL.block ?_
  refine GL.loop (ι := Nat × (List Int) × (List Bool)) (fun (p : Nat × (List Int) × (List Bool)) => [(0, .int .i64 x0), (1, v1), (5, v18), (14, v1), (15, .int .i64 ((x1).length : Int)), (16, .int .i64 (p.1 : Int))]) (fun (p : Nat × (List Int) × (List Bool)) => [imm (TR.sl TR.int) v1 x1, obox 79 (TR.arr 6 TR.bool) v18 p.2.2]) (fun (p : Nat × (List Int) × (List Bool)) => p.1 + p.2.1.length = (x1).length ∧ List.drop p.1 x1 = p.2.1 ∧ rangeL (order_Check_b1 x0) p.2.1 p.1 p.2.2 = some y83) (fun (p : Nat × (List Int) × (List Bool)) => p.2.1.length) (0, x1, (List.replicate 6 false)) ⟨by simp, by simp, h85⟩ (fun a w st => St.cut [0, 1] ⟨rfl, rfl, rfl, rfl, rfl, rfl, trivial⟩ (by decide) rfl st) ?_
  rintro ⟨i90, r91, l50⟩ ⟨h96, h97, h95⟩
  try dsimp only at h96 h97 h95
  refine GL.weak (env' := [(0, .int .i64 x0), (1, v1), (5, v18), (14, v1), (15, .int .i64 ((x1).length : Int)), (16, .int .i64 (i90 : Int))]) (L' := [imm (TR.sl TR.int) v1 x1, obox 79 (TR.arr 6 TR.bool) v18 l50]) (fun _ _ st => st) ?_
  refine GL.seq ?_
  refine GL.region ?_
  refine RL.binI (v := .bool (decide ((i90 : Int) < ((x1).length : Int)))) rfl rfl rfl rfl rfl ?_
  refine RL.finG ?_
  refine GL.seq ?_
  refine GL.cond rfl (fun b98 => ?_) (fun b98 => ?_)
  ·have h99 : i90 < (x1).length := by have := of_decide_eq_true b98; omega
   obtain ⟨y100, r102, hr, e101, h103⟩ := drop_cons h97 rfl h99
   subst hr
   obtain ⟨z92, h93, h94⟩ := rangeL_some h95
   unfold order_Check_b1 at h93
   try dsimp only at h93
   refine GL.skip ?_
   refine GL.seq ?_
   refine GL.block ?_
   refine GL.seq ?_
   refine GL.region ?_
   refine RL.idxS (sz := 1) 0 Try.underlying27 Try_ln3 rfl rfl rfl rfl rfl SlOf.imm (by omega) (by omega) ?_
   refine RL.ldSx (i := i90) (e' := y100) 0 Ex.ik Try_ln3 rfl rfl rfl rfl SlOf.imm e101 Part.self ?_
   refine RL.asg rfl rfl rfl ?_
   refine RL.finG ?_
   refine GL.seq ?_
   refine GL.seq ?_
   obtain ⟨y113, K114, h115, h116, h117, h118, h119⟩ := bindF_K h93
   refine GL.join (ι := Bool) (fun (p : Bool) => [(0, .int .i64 x0), (1, v1), (5, v18), (7, .int .i64 y100), (14, v1), (15, .int .i64 ((x1).length : Int)), (16, .int .i64 (i90 : Int)), (31, .bool p)]) (fun (p : Bool) => [imm (TR.sl TR.int) v1 x1, obox 79 (TR.arr 6 TR.bool) v18 l50]) (fun (p : Bool) => K114 (.nx p)) ?_ ?_
   ·skip
    refine GL.region ?_
    refine RL.mv rfl rfl rfl ?_
    refine RL.binI (v := .bool (decide (y100 < (0 : Int)))) rfl rfl rfl rfl rfl ?_
    refine RL.mv rfl rfl rfl ?_
    refine RL.split (t := 22) rfl (fun b120 => ?_) (fun b120 => ?_)
    ·replace h115 := ite_t b120 h115
     refine RL.skip rfl rfl ?_
     refine RL.skip rfl rfl ?_
     refine RL.skip rfl rfl ?_
     refine RL.pickT rfl rfl rfl rfl ?_
     refine RL.mv rfl rfl rfl ?_
     refine RL.skip rfl rfl ?_
     refine RL.skip rfl rfl ?_
     refine RL.skip rfl rfl ?_
     refine RL.pickT rfl rfl rfl rfl ?_
     refine RL.fin ?_
     cases h115
     exact fun a w st => mid_intro true h116 (St.cut [0, 1] ⟨rfl, rfl, rfl, rfl, rfl, rfl, rfl, rfl, trivial⟩ (by decide) rfl st)
    replace h115 := ite_f b120 h115
    refine RL.mv rfl rfl rfl ?_
    refine RL.mv rfl rfl rfl ?_
    refine RL.binI (v := .bool (decide (y100 ≥ x0))) rfl rfl rfl rfl rfl ?_
    refine RL.pickF rfl rfl rfl rfl ?_
    refine RL.mv rfl rfl rfl ?_
    refine RL.split (t := 27) rfl (fun b121 => ?_) (fun b121 => ?_)
    ·replace h115 := ite_t b121 h115
     refine RL.skip rfl rfl ?_
     refine RL.skip rfl rfl ?_
     refine RL.skip rfl rfl ?_
     refine RL.pickT rfl rfl rfl rfl ?_
     refine RL.fin ?_
     cases h115
     exact fun a w st => mid_intro true h116 (St.cut [0, 1] ⟨rfl, rfl, rfl, rfl, rfl, rfl, rfl, rfl, trivial⟩ (by decide) rfl st)
    replace h115 := ite_f b121 h115
    refine RL.mv rfl rfl rfl ?_
    obtain ⟨y122, e123, h115⟩ := bind_some h115
    refine RL.idxA0 (sz := 1) (t' := TR.bool) 1 Try.underlying79 Try_ln4 rfl rfl rfl PtOf.obox rfl rfl Part.self (idx_some e123).1 (idx_some e123).2.1 ?_
    refine RL.ldPx (off := ((y100).toNat * 1)) (e' := y122) 1 Ex.bool Try_ln4 rfl rfl (Or.inl rfl) rfl PtOf.obox (Part.arr (idx_some e123).2.2 Part.self) ?_
    refine RL.pickF rfl rfl rfl rfl ?_
    refine RL.fin ?_
    cases h115
    exact fun a w st => mid_intro y122 h116 (St.cut [0, 1] ⟨rfl, rfl, rfl, rfl, rfl, rfl, rfl, rfl, trivial⟩ (by decide) rfl st)
   rintro x112 h124
   have h125 := h117 _ h124
   try dsimp only at h125
   refine GL.weak (env' := [(0, .int .i64 x0), (1, v1), (5, v18), (7, .int .i64 y100), (14, v1), (15, .int .i64 ((x1).length : Int)), (16, .int .i64 (i90 : Int)), (31, .bool x112)]) (L' := [imm (TR.sl TR.int) v1 x1, obox 79 (TR.arr 6 TR.bool) v18 l50]) (fun _ _ st => st) ?_
   refine GL.cond rfl (fun b126 => ?_) (fun b126 => ?_)
   ·replace h125 := ite_t b126 h125
    refine GL.seq ?_
    refine GL.region ?_
    refine RL.asg rfl rfl rfl ?_
    refine RL.finG ?_
    cases h125
    replace h94 : some (Fl.rt _) = some y83 := h94
    cases h94
    have hh := h88 _ h86
    subst hh
    exact GL.ret (Gx.ret (v := .int .i64 (3 : Int)) (res1 rfl rfl) (fun a w st => st.toPostV))
   replace h125 := ite_f b126 h125
   refine GL.skip ?_
   refine GL.region ?_
   refine RL.mv rfl rfl rfl ?_
   obtain ⟨y129, e130, h125⟩ := bind_some h125
   refine RL.idxA0 (sz := 1) (t' := TR.bool) 1 Try.underlying79 Try_ln4 rfl rfl rfl PtOf.obox rfl rfl Part.self (idx_some e130).1 (idx_some e130).2.1 ?_
   refine RL.stP (off := ((y100).toNat * 1)) (e' := true) (d1 := (List.set l50 ((y100).toNat) true)) (r := TR.bool) 1 Try_ln4 rfl rfl (Or.inl rfl) rfl VR.bool rfl (Upd.arr (idx_some e130).2.2 Upd.self) ?_
   refine RL.finG ?_
   refine GL.nilB ?_
   refine GL.region ?_
   refine RL.binI (v := .int .i64 ((i90 + 1 : Nat) : Int)) rfl rfl rfl rfl (binI_succ i90 (by omega)) ?_
   refine RL.mv rfl rfl rfl ?_
   refine RL.fin ?_
   cases h125
   exact fun a w st => lop_intro (i90 + 1, r102, (List.set l50 ((y100).toNat) true)) ⟨by show i90 + 1 + r102.length = (x1).length; simp only [List.length_cons] at h96; omega, h103, h94⟩ (by simp) (St.cut [0, 1] ⟨rfl, rfl, rfl, rfl, rfl, rfl, trivial⟩ (by decide) rfl st)
  have h99 : ¬ i90 < (x1).length := by have := of_decide_eq_false b98; omega
  obtain rfl : r91 = [] := by rw [← h97]; exact List.drop_of_length_le (by omega)
  replace h95 : some (Fl.nx _) = some y83 := h95
  cases h95
  exact GL.exit (fun a w st => mid_intro l50 h86 (St.cut [0] ⟨rfl, rfl, trivial⟩ (by decide) rfl st))
 rintro l50 h131
 have h132 := h87 _ h131
 try dsimp only at h132
 refine GL.weak (env' := [(0, .int .i64 x0), (1, v1)]) (L' := [imm (TR.sl TR.int) v1 x1]) (fun _ _ st => st) ?_
 refine GL.seq ?_
 refine GL.seq ?_
 refine GL.region ?_
 refine RL.mv rfl rfl rfl ?_
 refine RL.lenS 0 Try.underlying27 rfl rfl rfl rfl SlOf.imm ?_
 refine RL.mv rfl rfl rfl ?_
 refine RL.binI (v := .bool (((x1).length : Int) != x0)) rfl rfl rfl rfl rfl ?_
 refine RL.finG ?_
 refine GL.cond rfl (fun b133 => ?_) (fun b133 => ?_)
 ·replace h132 := ite_t b133 h132
  refine GL.seq ?_
  refine GL.region ?_
  refine RL.asg rfl rfl rfl ?_
  refine RL.finG ?_
  have h132 := Option.some.inj h132
  subst h132
  exact GL.ret (Gx.ret (v := .int .i64 (3 : Int)) (res1 rfl rfl) (fun a w st => st.toPostV))
 replace h132 := ite_f b133 h132
 refine GL.skip ?_
 refine GL.seq ?_
 refine GL.region ?_
 refine RL.asg rfl rfl rfl ?_
 refine RL.finG ?_
 have h132 := Option.some.inj h132
 subst h132
 exact GL.ret (Gx.ret (v := .int .i64 (0 : Int)) (res1 rfl rfl) (fun a w st => st.toPostV))

set_option maxHeartbeats 4000000 in
theorem peak_Along_c (S : Hp) (w : World) (hS : S.sub w) (v0 : Value) (x0 : (List Int)) (k0 : ((TR.sl TR.int)).vrep S v0 x0) (v1 : Value) (x1 : (List Int)) (k1 : ((TR.sl TR.int)).vrep S v1 x1) (res : Bool × Int) (hm : peak_Along_m x0 x1 = some res) : Calls Try.prog 39 #[v0, v1] w (PostV w (.tuple #[.bool res.1, .int .i64 res.2])) := by
 refine calls_enter 55 Try.func39 Try.ntmps39 rfl S false [(0, v0), (1, v1)] [imm (TR.sl TR.int) v0 x0, imm (TR.sl TR.int) v1 x1] rfl ⟨rfl, ⟨rfl, trivial⟩⟩ hS ⟨k0, ⟨k1, trivial⟩⟩ ?_
 unfold peak_Along_m at hm
 refine GL.seq ?_
 refine GL.region ?_
 refine RL.asg rfl rfl rfl ?_
 refine RL.asg rfl rfl rfl ?_
 refine RL.finG ?_
 refine GL.seq ?_
 refine GL.seq ?_
 refine GL.region ?_
 refine RL.mv rfl rfl rfl ?_
 refine RL.lenS 0 Try.underlying27 rfl rfl rfl rfl SlOf.imm ?_
 refine RL.mv rfl rfl rfl ?_
 obtain ⟨y5, e6, hm⟩ := bind_some hm
 refine RL.callV (v := .int .i64 y5) (vs := [.int .i64 ((x0).length : Int), v0]) Try_fit43 rfl (Or.inl rfl) rfl rfl rfl rfl (fun U w hU hW hL => order_Check_c U w hU ((x0).length : Int) _ _ (hL 0 _ _ rfl Seen.imm) _ e6) ?_
 refine RL.asg rfl rfl rfl ?_
 refine RL.finG ?_
 refine GL.seq ?_
 refine GL.region ?_
 refine RL.mv rfl rfl rfl ?_
 refine RL.binI (v := .bool (y5 != (0 : Int))) rfl rfl rfl rfl rfl ?_
 refine RL.finG ?_
 refine GL.cond rfl (fun b7 => ?_) (fun b7 => ?_)
 ·replace hm := ite_t b7 hm
  refine GL.seq ?_
  refine GL.region ?_
  refine RL.mv rfl rfl rfl ?_
  refine RL.asg rfl rfl rfl ?_
  refine RL.asg rfl rfl rfl ?_
  refine RL.finG ?_
  have hm := Option.some.inj hm
  subst hm
  exact GL.ret (Gx.ret (v := .tuple #[.bool false, .int .i64 y5]) (res2 rfl rfl rfl) (fun a w st => st.toPostV))
 replace hm := ite_f b7 hm
 refine GL.skip ?_
 refine GL.seq ?_
 refine GL.seq ?_
 refine GL.region ?_
 refine RL.mv rfl rfl rfl ?_
 refine RL.lenS 0 Try.underlying27 rfl rfl rfl rfl SlOf.imm ?_
 refine RL.mv rfl rfl rfl ?_
 obtain ⟨y10, e11, hm⟩ := bind_some hm
 refine RL.callV (v := .int .i64 y10) (vs := [.int .i64 ((x0).length : Int), v1]) Try_fit43 rfl (Or.inl rfl) rfl rfl rfl rfl (fun U w hU hW hL => order_Check_c U w hU ((x0).length : Int) _ _ (hL 1 _ _ rfl Seen.imm) _ e11) ?_
 refine RL.asg rfl rfl rfl ?_
 refine RL.finG ?_
 refine GL.seq ?_
 refine GL.region ?_
 refine RL.mv rfl rfl rfl ?_
 refine RL.binI (v := .bool (y10 != (0 : Int))) rfl rfl rfl rfl rfl ?_
 refine RL.finG ?_
 refine GL.cond rfl (fun b12 => ?_) (fun b12 => ?_)
 ·replace hm := ite_t b12 hm
  refine GL.seq ?_
  refine GL.region ?_
  refine RL.mv rfl rfl rfl ?_
  refine RL.asg rfl rfl rfl ?_
  refine RL.asg rfl rfl rfl ?_
  refine RL.finG ?_
  have hm := Option.some.inj hm
  subst hm
  exact GL.ret (Gx.ret (v := .tuple #[.bool false, .int .i64 y10]) (res2 rfl rfl rfl) (fun a w st => st.toPostV))
 replace hm := ite_f b12 hm
 refine GL.skip ?_
 refine GL.seq ?_
 refine GL.region ?_
 refine RL.mv rfl rfl rfl ?_
 refine RL.lenS 0 Try.underlying27 rfl rfl rfl rfl SlOf.imm ?_
 refine RL.binI (v := .int .i64 (wsub ((x0).length : Int) (1 : Int))) rfl rfl rfl rfl rfl ?_
 refine RL.asg rfl rfl rfl ?_
 refine RL.asg rfl rfl rfl ?_
 refine RL.finG ?_
 refine GL.seq ?_
 refine GL.seq ?_
 refine GL.region ?_
 refine RL.mv rfl rfl rfl ?_
 refine RL.lenS 1 Try.underlying27 rfl rfl rfl rfl SlOf.imm ?_
 refine RL.binI (v := .int .i64 (wsub ((x1).length : Int) (1 : Int))) rfl rfl rfl rfl rfl ?_
 refine RL.asg rfl rfl rfl ?_
 refine RL.finG ?_
 obtain ⟨y31, K32, h33, h34, h35, h36, h37⟩ := bindR_K hm
 refine GL.join (ι := Int × Int × Int) (fun (p : Int × Int × Int) => []) (fun (p : Int × Int × Int) => []) (fun (p : Int × Int × Int) => K32 (.nx (p.1, p.2.1, p.2.2))) ?_ ?_
 ·refine GL.block ?_
  refine GL.loop (ι := Nat × Int × Int × Int) (fun (p : Nat × Int × Int × Int) => [(0, v0), (1, v1), (8, .int .i64 p.2.1), (9, .int .i64 p.2.2.1), (10, .int .i64 p.2.2.2)]) (fun (p : Nat × Int × Int × Int) => [imm (TR.sl TR.int) v0 x0, imm (TR.sl TR.int) v1 x1]) (fun (p : Nat × Int × Int × Int) => loopM (peak_Along_b1 x1 x0) p.1 (p.2.1, p.2.2.1, p.2.2.2) = some y31) (fun (p : Nat × Int × Int × Int) => p.1) (1048576, (0 : Int), wsub ((x0).length : Int) (1 : Int), wsub ((x1).length : Int) (1 : Int)) h33 (fun a w st => St.cut [0, 1] ⟨rfl, rfl, rfl, rfl, rfl, trivial⟩ (by decide) rfl st) ?_
  rintro ⟨r39, x13, x14, x15⟩ h43
  try dsimp only at h43
  refine GL.weak (env' := [(0, v0), (1, v1), (8, .int .i64 x13), (9, .int .i64 x14), (10, .int .i64 x15)]) (L' := [imm (TR.sl TR.int) v0 x0, imm (TR.sl TR.int) v1 x1]) (fun _ _ st => st) ?_
  obtain ⟨r46, z40, hr, h41, h42⟩ := loopM_some h43
  subst hr
  unfold peak_Along_b1 at h41
  try dsimp only at h41
  refine GL.seq ?_
  refine GL.seq ?_
  refine GL.region ?_
  refine RL.mv rfl rfl rfl ?_
  refine RL.binI (v := .bool (decide (x15 > (0 : Int)))) rfl rfl rfl rfl rfl ?_
  refine RL.finG ?_
  refine GL.cond rfl (fun b47 => ?_) (fun b47 => ?_)
  ·replace h41 := ite_t b47 h41
   refine GL.skip ?_
   refine GL.seq ?_
   refine GL.block ?_
   refine GL.seq ?_
   refine GL.region ?_
   refine RL.mv rfl rfl rfl ?_
   refine RL.mv rfl rfl rfl ?_
   obtain ⟨y50, e51, h41⟩ := bind_some h41
   refine RL.idxS (sz := 1) 1 Try.underlying27 Try_ln3 rfl rfl rfl rfl rfl SlOf.imm (idx_some e51).1 (idx_some e51).2.1 ?_
   refine RL.ldSx (i := (x15).toNat) (e' := y50) 1 Ex.ik Try_ln3 rfl rfl rfl rfl SlOf.imm (idx_some e51).2.2 Part.self ?_
   refine RL.finG ?_
   refine GL.block ?_
   refine GL.seq ?_
   refine GL.region ?_
   refine RL.mv rfl rfl rfl ?_
   refine RL.mv rfl rfl rfl ?_
   obtain ⟨y54, e55, h41⟩ := bind_some h41
   refine RL.idxS (sz := 1) 0 Try.underlying27 Try_ln3 rfl rfl rfl rfl rfl SlOf.imm (idx_some e55).1 (idx_some e55).2.1 ?_
   refine RL.ldSx (i := (x13).toNat) (e' := y54) 0 Ex.ik Try_ln3 rfl rfl rfl rfl SlOf.imm (idx_some e55).2.2 Part.self ?_
   refine RL.binI (v := .bool (y50 == y54)) rfl rfl rfl rfl rfl ?_
   refine RL.asg rfl rfl rfl ?_
   refine RL.finG ?_
   refine GL.cond rfl (fun b56 => ?_) (fun b56 => ?_)
   ·replace h41 := ite_t b56 h41
    refine GL.region ?_
    refine RL.mv rfl rfl rfl ?_
    refine RL.binI (v := .int .i64 (wadd x13 (1 : Int))) rfl rfl rfl rfl rfl ?_
    refine RL.asg rfl rfl rfl ?_
    refine RL.finG ?_
    refine GL.nilB ?_
    refine GL.nilB ?_
    refine GL.region ?_
    refine RL.mv rfl rfl rfl ?_
    refine RL.binI (v := .int .i64 (wsub x15 (1 : Int))) rfl rfl rfl rfl rfl ?_
    refine RL.asg rfl rfl rfl ?_
    refine RL.finG ?_
    cases h41
    exact fun a w st => lop_intro (r46, wadd x13 (1 : Int), x14, wsub x15 (1 : Int)) (by exact h42) (by simp) (St.cut [0, 1] ⟨rfl, rfl, rfl, rfl, rfl, trivial⟩ (by decide) rfl st)
   replace h41 := ite_f b56 h41
   refine GL.seq ?_
   refine GL.region ?_
   refine RL.mv rfl rfl rfl ?_
   refine RL.mv rfl rfl rfl ?_
   obtain ⟨y59, e60, h41⟩ := bind_some h41
   refine RL.idxS (sz := 1) 0 Try.underlying27 Try_ln3 rfl rfl rfl rfl rfl SlOf.imm (idx_some e60).1 (idx_some e60).2.1 ?_
   refine RL.ldSx (i := (x14).toNat) (e' := y59) 0 Ex.ik Try_ln3 rfl rfl rfl rfl SlOf.imm (idx_some e60).2.2 Part.self ?_
   refine RL.binI (v := .bool (y50 == y59)) rfl rfl rfl rfl rfl ?_
   refine RL.asg rfl rfl rfl ?_
   refine RL.finG ?_
   refine GL.cond rfl (fun b61 => ?_) (fun b61 => ?_)
   ·replace h41 := ite_t b61 h41
    refine GL.region ?_
    refine RL.mv rfl rfl rfl ?_
    refine RL.binI (v := .int .i64 (wsub x14 (1 : Int))) rfl rfl rfl rfl rfl ?_
    refine RL.asg rfl rfl rfl ?_
    refine RL.finG ?_
    refine GL.nilB ?_
    refine GL.nilB ?_
    refine GL.region ?_
    refine RL.mv rfl rfl rfl ?_
    refine RL.binI (v := .int .i64 (wsub x15 (1 : Int))) rfl rfl rfl rfl rfl ?_
    refine RL.asg rfl rfl rfl ?_
    refine RL.finG ?_
    cases h41
    exact fun a w st => lop_intro (r46, x13, wsub x14 (1 : Int), wsub x15 (1 : Int)) (by exact h42) (by simp) (St.cut [0, 1] ⟨rfl, rfl, rfl, rfl, rfl, trivial⟩ (by decide) rfl st)
   replace h41 := ite_f b61 h41
   refine GL.seq ?_
   refine GL.region ?_
   refine RL.asg rfl rfl rfl ?_
   refine RL.asg rfl rfl rfl ?_
   refine RL.finG ?_
   cases h41
   replace h42 : some (Fl.rt _) = some y31 := h42
   cases h42
   have hh := h36 _ h34
   subst hh
   exact GL.ret (Gx.ret (v := .tuple #[.bool false, .int .i64 (0 : Int)]) (res2 rfl rfl rfl) (fun a w st => st.toPostV))
  replace h41 := ite_f b47 h41
  cases h41
  replace h42 : some (Fl.nx _) = some y31 := h42
  cases h42
  exact GL.exit (fun a w st => mid_intro (x13, x14, x15) h34 (St.cut [] trivial (by decide) rfl st))
 rintro ⟨x13, x14, x15⟩ h62
 have h63 := h35 _ h62
 try dsimp only at h63
 refine GL.weak (env' := []) (L' := []) (fun _ _ st => st) ?_
 refine GL.seq ?_
 refine GL.region ?_
 refine RL.asg rfl rfl rfl ?_
 refine RL.asg rfl rfl rfl ?_
 refine RL.finG ?_
 have h63 := Option.some.inj h63
 subst h63
 exact GL.ret (Gx.ret (v := .tuple #[.bool true, .int .i64 (0 : Int)]) (res2 rfl rfl rfl) (fun a w st => st.toPostV))

set_option maxHeartbeats 4000000 in
theorem slices_IndexFunc_api_Errno_api_Errno_c (S : Hp) (w : World) (hS : S.sub w) (v0 : Value) (x0 : (List Int)) (k0 : ((TR.sl TR.int)).vrep S v0 x0) (f1 : FuncId) (c1 : Array Value) (t1 : Fit Try.prog f1) (g1 : Int → Option Bool) (k1 : ∀ (U : Hp) (w' : World), Hp.le S U → U.sub w' → ∀ (a0 : Int) (rr : Bool), g1 a0 = some rr → Calls Try.prog f1 (#[.int .i64 a0] ++ c1) w' (PostV w' (.bool rr))) (res : Int) (hm : slices_IndexFunc_api_Errno_api_Errno_m x0 g1 = some res) : Calls Try.prog 47 #[v0, .func (.func f1) #[] c1] w (PostV w (.int .i64 res)) := by
 refine calls_enter 19 Try.func47 Try.ntmps47 rfl S false [(0, v0), (1, .func (.func f1) #[] c1)] [imm (TR.sl TR.int) v0 x0] rfl ⟨rfl, ⟨rfl, trivial⟩⟩ hS ⟨k0, trivial⟩ ?_
 unfold slices_IndexFunc_api_Errno_api_Errno_m at hm
 refine GL.seq ?_
 refine GL.region ?_
 refine RL.asg rfl rfl rfl ?_
 refine RL.finG ?_
 refine GL.seq ?_
 refine GL.seq ?_
 refine GL.region ?_
 refine RL.mv rfl rfl rfl ?_
 refine RL.lenS 0 Try.underlying64 rfl rfl rfl rfl SlOf.imm ?_
 refine RL.mv rfl rfl rfl ?_
 refine RL.finG ?_
 refine GL.open_ 0 rfl (fun S h => len_imm S h) (fun n12 => ?_)
 obtain ⟨y13, K14, h15, h16, h17, h18, h19⟩ := bindR_K hm
 refine GL.join (ι := Unit) (fun (p : Unit) => []) (fun (p : Unit) => []) (fun (p : Unit) => K14 (.nx ())) ?_ ?_
 ·refine GL.block ?_
  refine GL.loop (ι := Nat × (List Int)) (fun (p : Nat × (List Int)) => [(0, v0), (1, .func (.func f1) #[] c1), (7, .int .i64 ((x0).length : Int)), (8, .int .i64 (p.1 : Int))]) (fun (p : Nat × (List Int)) => [imm (TR.sl TR.int) v0 x0]) (fun (p : Nat × (List Int)) => p.1 + p.2.length = (x0).length ∧ List.drop p.1 x0 = p.2 ∧ rangeL (slices_IndexFunc_api_Errno_api_Errno_b1 g1) p.2 p.1 () = some y13) (fun (p : Nat × (List Int)) => p.2.length) (0, x0) ⟨by simp, by simp, h15⟩ (fun a w st => St.cut [0] ⟨rfl, rfl, rfl, rfl, trivial⟩ (by decide) rfl st) ?_
  rintro ⟨i20, r21⟩ ⟨h26, h27, h25⟩
  try dsimp only at h26 h27 h25
  refine GL.weak (env' := [(0, v0), (1, .func (.func f1) #[] c1), (7, .int .i64 ((x0).length : Int)), (8, .int .i64 (i20 : Int))]) (L' := [imm (TR.sl TR.int) v0 x0]) (fun _ _ st => st) ?_
  refine GL.seq ?_
  refine GL.region ?_
  refine RL.binI (v := .bool (decide ((i20 : Int) < ((x0).length : Int)))) rfl rfl rfl rfl rfl ?_
  refine RL.finG ?_
  refine GL.seq ?_
  refine GL.cond rfl (fun b28 => ?_) (fun b28 => ?_)
  ·have h29 : i20 < (x0).length := by have := of_decide_eq_true b28; omega
   obtain ⟨y30, r32, hr, e31, h33⟩ := drop_cons h27 rfl h29
   subst hr
   obtain ⟨z22, h23, h24⟩ := rangeL_some h25
   unfold slices_IndexFunc_api_Errno_api_Errno_b1 at h23
   try dsimp only at h23
   refine GL.skip ?_
   refine GL.seq ?_
   refine GL.block ?_
   refine GL.seq ?_
   refine GL.region ?_
   refine RL.mv rfl rfl rfl ?_
   refine RL.asg rfl rfl rfl ?_
   refine RL.finG ?_
   refine GL.seq ?_
   refine GL.region ?_
   refine RL.mv rfl rfl rfl ?_
   refine RL.mv rfl rfl rfl ?_
   refine RL.mv rfl rfl rfl ?_
   refine RL.idxS (sz := 1) 0 Try.underlying64 Try_ln28 rfl rfl rfl rfl rfl SlOf.imm (by omega) (by omega) ?_
   refine RL.ldSx (i := i20) (e' := y30) 0 Ex.ik Try_ln28 rfl rfl rfl rfl SlOf.imm e31 Part.self ?_
   obtain ⟨y36, e37, h23⟩ := bind_some h23
   refine RL.callV (v := .bool y36) (vs := [.int .i64 y30]) t1 rfl (Or.inl rfl) rfl rfl rfl rfl (fun U w hU hW hL => k1 U w hW hU y30 _ e37) ?_
   refine RL.finG ?_
   refine GL.cond rfl (fun b38 => ?_) (fun b38 => ?_)
   ·replace h23 := ite_t b38 h23
    refine GL.seq ?_
    refine GL.region ?_
    refine RL.mv rfl rfl rfl ?_
    refine RL.asg rfl rfl rfl ?_
    refine RL.finG ?_
    cases h23
    replace h24 : some (Fl.rt _) = some y13 := h24
    cases h24
    have hh := h18 _ h16
    subst hh
    exact GL.ret (Gx.ret (v := .int .i64 (i20 : Int)) (res1 rfl rfl) (fun a w st => st.toPostV))
   replace h23 := ite_f b38 h23
   refine GL.skip ?_
   refine GL.nilB ?_
   refine GL.region ?_
   refine RL.binI (v := .int .i64 ((i20 + 1 : Nat) : Int)) rfl rfl rfl rfl (binI_succ i20 (by omega)) ?_
   refine RL.mv rfl rfl rfl ?_
   refine RL.fin ?_
   cases h23
   exact fun a w st => lop_intro (i20 + 1, r32) ⟨by show i20 + 1 + r32.length = (x0).length; simp only [List.length_cons] at h26; omega, h33, h24⟩ (by simp) (St.cut [0] ⟨rfl, rfl, rfl, rfl, trivial⟩ (by decide) rfl st)
  have h29 : ¬ i20 < (x0).length := by have := of_decide_eq_false b28; omega
  obtain rfl : r21 = [] := by rw [← h27]; exact List.drop_of_length_le (by omega)
  replace h25 : some (Fl.nx _) = some y13 := h25
  cases h25
  exact GL.exit (fun a w st => mid_intro () h16 (St.cut [] trivial (by decide) rfl st))
 rintro ⟨⟩ h39
 have h40 := h17 _ h39
 try dsimp only at h40
 refine GL.weak (env' := []) (L' := []) (fun _ _ st => st) ?_
 refine GL.seq ?_
 refine GL.region ?_
 refine RL.asg rfl rfl rfl ?_
 refine RL.finG ?_
 have h40 := Option.some.inj h40
 subst h40
 exact GL.ret (Gx.ret (v := .int .i64 (-1 : Int)) (res1 rfl rfl) (fun a w st => st.toPostV))

set_option maxHeartbeats 4000000 in
theorem slices_ContainsFunc_api_Errno_api_Errno_c (S : Hp) (w : World) (hS : S.sub w) (v0 : Value) (x0 : (List Int)) (k0 : ((TR.sl TR.int)).vrep S v0 x0) (f1 : FuncId) (c1 : Array Value) (t1 : Fit Try.prog f1) (g1 : Int → Option Bool) (k1 : ∀ (U : Hp) (w' : World), Hp.le S U → U.sub w' → ∀ (a0 : Int) (rr : Bool), g1 a0 = some rr → Calls Try.prog f1 (#[.int .i64 a0] ++ c1) w' (PostV w' (.bool rr))) (res : Bool) (hm : slices_ContainsFunc_api_Errno_api_Errno_m x0 g1 = some res) : Calls Try.prog 34 #[v0, .func (.func f1) #[] c1] w (PostV w (.bool res)) := by
 refine calls_enter 9 Try.func34 Try.ntmps34 rfl S false [(0, v0), (1, .func (.func f1) #[] c1)] [imm (TR.sl TR.int) v0 x0] rfl ⟨rfl, ⟨rfl, trivial⟩⟩ hS ⟨k0, trivial⟩ ?_
 unfold slices_ContainsFunc_api_Errno_api_Errno_m at hm
 refine GL.seq ?_
 refine GL.region ?_
 refine RL.asg rfl rfl rfl ?_
 refine RL.finG ?_
 refine GL.seq ?_
 refine GL.region ?_
 refine RL.mv rfl rfl rfl ?_
 refine RL.mv rfl rfl rfl ?_
 obtain ⟨y5, e6, hm⟩ := bind_some hm
 refine RL.callV (v := .int .i64 y5) (vs := [v0, .func (.func f1) #[] c1]) Try_fit47 rfl (Or.inl rfl) rfl rfl rfl rfl (fun U w hU hW hL => slices_IndexFunc_api_Errno_api_Errno_c U w hU _ _ (hL 0 _ _ rfl Seen.imm) f1 c1 t1 g1 (fun U' w' hle => k1 U' w' (Hp.le_trans hW hle)) _ e6) ?_
 refine RL.binI (v := .bool (decide (y5 ≥ (0 : Int)))) rfl rfl rfl rfl rfl ?_
 refine RL.asg rfl rfl rfl ?_
 refine RL.finG ?_
 have hm := Option.some.inj hm
 subst hm
 exact GL.ret (Gx.ret (v := .bool (decide (y5 ≥ (0 : Int)))) (res1 rfl rfl) (fun a w st => st.toPostV))

set_option maxHeartbeats 4000000 in
theorem pk_good_1_c (S : Hp) (w : World) (hS : S.sub w) (x0 : Int) (res : Bool) (hm : pk_good_1_m x0 = some res) : Calls Try.prog 35 #[.int .i64 x0] w (PostC w (.bool res)) := by
 refine calls_enter 5 Try.func35 Try.ntmps35 rfl S true [(0, .int .i64 x0)] [] rfl ⟨rfl, trivial⟩ hS trivial ?_
 unfold pk_good_1_m at hm
 refine GL.seq ?_
 refine GL.region ?_
 refine RL.asg rfl rfl rfl ?_
 refine RL.finG ?_
 refine GL.seq ?_
 refine GL.region ?_
 refine RL.mv rfl rfl rfl ?_
 refine RL.binI (v := .bool (x0 != (0 : Int))) rfl rfl rfl rfl rfl ?_
 refine RL.asg rfl rfl rfl ?_
 refine RL.finG ?_
 have hm := Option.some.inj hm
 subst hm
 exact GL.ret (Gx.ret (v := .bool (x0 != (0 : Int))) (res1 rfl rfl) (fun a w st => st.toPostC rfl))

set_option maxHeartbeats 4000000 in
theorem pk_good_c (S : Hp) (w : World) (hS : S.sub w) (v0 : Value) (x0 : (List Int)) (k0 : ((TR.sl TR.int)).vrep S v0 x0) (res : Bool) (hm : pk_good_m x0 = some res) : Calls Try.prog 13 #[v0] w (PostV w (.bool res)) := by
 refine calls_enter 6 Try.func13 Try.ntmps13 rfl S false [(0, v0)] [imm (TR.sl TR.int) v0 x0] rfl ⟨rfl, trivial⟩ hS ⟨k0, trivial⟩ ?_
 unfold pk_good_m at hm
 refine GL.seq ?_
 refine GL.region ?_
 refine RL.asg rfl rfl rfl ?_
 refine RL.finG ?_
 refine GL.seq ?_
 refine GL.region ?_
 refine RL.mv rfl rfl rfl ?_
 obtain ⟨y4, e5, hm⟩ := bind_some hm
 refine RL.callV (v := .bool y4) (vs := [v0, .func (.func 35) #[] #[]]) Try_fit34 rfl (Or.inl rfl) rfl rfl rfl rfl (fun U w hU hW hL => slices_ContainsFunc_api_Errno_api_Errno_c U w hU _ _ (hL 0 _ _ rfl Seen.imm) 35 #[] Try_fit35 (fun a0 => pk_good_1_m a0) (fun U' w' hle hU' a0 rr hr => (pk_good_1_c U' w' hU' a0 rr hr).mono (fun _ _ z => z.toV)) _ e5) ?_
 refine RL.notB rfl rfl rfl ?_
 refine RL.asg rfl rfl rfl ?_
 refine RL.finG ?_
 have hm := Option.some.inj hm
 subst hm
 exact GL.ret (Gx.ret (v := .bool (!y4)) (res1 rfl rfl) (fun a w st => st.toPostV))

set_option maxHeartbeats 4000000 in
theorem pk_peaks_c (S : Hp) (w : World) (hS : S.sub w)  (res : Bool) (hm : pk_peaks_m = some res) : Calls Try.prog 24 #[] w (PostV w (.bool res)) := by
 refine calls_enter 28 Try.func24 Try.ntmps24 rfl S false [] [] rfl trivial hS trivial ?_
 unfold pk_peaks_m at hm
 refine GL.seq ?_
 refine GL.region ?_
 refine RL.asg rfl rfl rfl ?_
 refine RL.finG ?_
 refine GL.seq ?_
 refine GL.region ?_
 refine RL.bS (t := TR.int) (vs := [.int .i64 (0 : Int), .int .i64 (1 : Int), .int .i64 (2 : Int)]) ([(0 : Int), (1 : Int), (2 : Int)] : (List Int)) Try.underlying27 Try_lo3 rfl rfl rfl rfl ⟨VR.int, ⟨VR.int, ⟨VR.int, trivial⟩⟩⟩ rfl (by decide) ?_
 intro v5
 refine RL.bS (t := TR.int) (vs := [.int .i64 (1 : Int), .int .i64 (2 : Int), .int .i64 (0 : Int)]) ([(1 : Int), (2 : Int), (0 : Int)] : (List Int)) Try.underlying27 Try_lo3 rfl rfl rfl rfl ⟨VR.int, ⟨VR.int, ⟨VR.int, trivial⟩⟩⟩ rfl (by decide) ?_
 intro v6
 refine RL.reL (L' := [own 3 TR.int v5 ([(0 : Int), (1 : Int), (2 : Int)] : (List Int)), own 3 TR.int v6 ([(1 : Int), (2 : Int), (0 : Int)] : (List Int))]) rfl ?_
 obtain ⟨y7, e8, hm⟩ := bind_some hm
 refine RL.callV (v := .tuple #[.bool y7.1, .int .i64 y7.2]) (vs := [v5, v6]) Try_fit39 rfl (Or.inl rfl) rfl rfl rfl rfl (fun U w hU hW hL => peak_Along_c U w hU _ _ (hL 0 _ _ rfl Seen.own) _ _ (hL 1 _ _ rfl Seen.own) _ e8) ?_
 refine RL.mv rfl rfl rfl ?_
 refine RL.ext rfl rfl rfl rfl ?_
 refine RL.ext rfl rfl rfl rfl ?_
 refine RL.asg rfl rfl rfl ?_
 refine RL.asg rfl rfl rfl ?_
 refine RL.finG ?_
 refine GL.seq ?_
 refine GL.region ?_
 refine RL.bS (t := TR.int) (vs := [.int .i64 (0 : Int), .int .i64 (1 : Int), .int .i64 (2 : Int)]) ([(0 : Int), (1 : Int), (2 : Int)] : (List Int)) Try.underlying27 Try_lo3 rfl rfl rfl rfl ⟨VR.int, ⟨VR.int, ⟨VR.int, trivial⟩⟩⟩ rfl (by decide) ?_
 intro v13
 refine RL.bS (t := TR.int) (vs := [.int .i64 (0 : Int), .int .i64 (2 : Int), .int .i64 (1 : Int)]) ([(0 : Int), (2 : Int), (1 : Int)] : (List Int)) Try.underlying27 Try_lo3 rfl rfl rfl rfl ⟨VR.int, ⟨VR.int, ⟨VR.int, trivial⟩⟩⟩ rfl (by decide) ?_
 intro v14
 refine RL.reL (L' := [own 3 TR.int v5 ([(0 : Int), (1 : Int), (2 : Int)] : (List Int)), own 3 TR.int v6 ([(1 : Int), (2 : Int), (0 : Int)] : (List Int)), own 3 TR.int v13 ([(0 : Int), (1 : Int), (2 : Int)] : (List Int)), own 3 TR.int v14 ([(0 : Int), (2 : Int), (1 : Int)] : (List Int))]) rfl ?_
 obtain ⟨y15, e16, hm⟩ := bind_some hm
 refine RL.callV (v := .tuple #[.bool y15.1, .int .i64 y15.2]) (vs := [v13, v14]) Try_fit39 rfl (Or.inl rfl) rfl rfl rfl rfl (fun U w hU hW hL => peak_Along_c U w hU _ _ (hL 2 _ _ rfl Seen.own) _ _ (hL 3 _ _ rfl Seen.own) _ e16) ?_
 refine RL.mv rfl rfl rfl ?_
 refine RL.ext rfl rfl rfl rfl ?_
 refine RL.ext rfl rfl rfl rfl ?_
 refine RL.asg rfl rfl rfl ?_
 refine RL.asg rfl rfl rfl ?_
 refine RL.finG ?_
 refine GL.seq ?_
 obtain ⟨y28, K29, h30, h31, h32, h33, h34⟩ := bindR_K hm
 refine GL.join (ι := Bool) (fun (p : Bool) => [(0, .bool p)]) (fun (p : Bool) => []) (fun (p : Bool) => K29 (.nx p)) ?_ ?_
 ·skip
  refine GL.region ?_
  refine RL.mv rfl rfl rfl ?_
  refine RL.mv rfl rfl rfl ?_
  refine RL.bS (t := TR.int) (vs := [.int .i64 y7.2, .int .i64 y15.2]) ([y7.2, y15.2] : (List Int)) Try.underlying64 Try_lo28 rfl rfl rfl rfl ⟨VR.int, ⟨VR.int, trivial⟩⟩ rfl (by decide) ?_
  intro v35
  obtain ⟨y36, e37, h30⟩ := bind_some h30
  refine RL.callV (v := .bool y36) (vs := [v35]) Try_fit13 rfl (Or.inl rfl) rfl rfl rfl rfl (fun U w hU hW hL => pk_good_c U w hU _ _ (hL 4 _ _ rfl Seen.own) _ e37) ?_
  refine RL.mv rfl rfl rfl ?_
  refine RL.split (t := 21) rfl (fun b38 => ?_) (fun b38 => ?_)
  ·replace h30 := ite_t b38 h30
   refine RL.mv rfl rfl rfl ?_
   refine RL.pickT rfl rfl rfl rfl ?_
   refine RL.mv rfl rfl rfl ?_
   refine RL.split (t := 24) rfl (fun b39 => ?_) (fun b39 => ?_)
   ·replace h30 := ite_t b39 h30
    refine RL.mv rfl rfl rfl ?_
    refine RL.notB rfl rfl rfl ?_
    refine RL.pickT rfl rfl rfl rfl ?_
    refine RL.asg rfl rfl rfl ?_
    refine RL.fin ?_
    cases h30
    exact fun a w st => mid_intro (!y15.1) h31 (St.cut [] ⟨rfl, trivial⟩ (by decide) rfl st)
   replace h30 := ite_f b39 h30
   refine RL.skip rfl rfl ?_
   refine RL.skip rfl rfl ?_
   refine RL.pickF rfl rfl rfl rfl ?_
   refine RL.asg rfl rfl rfl ?_
   refine RL.fin ?_
   cases h30
   exact fun a w st => mid_intro false h31 (St.cut [] ⟨rfl, trivial⟩ (by decide) rfl st)
  replace h30 := ite_f b38 h30
  refine RL.skip rfl rfl ?_
  refine RL.pickF rfl rfl rfl rfl ?_
  refine RL.mv rfl rfl rfl ?_
  refine RL.skip rfl rfl ?_
  refine RL.skip rfl rfl ?_
  refine RL.pickF rfl rfl rfl rfl ?_
  refine RL.asg rfl rfl rfl ?_
  refine RL.fin ?_
  cases h30
  exact fun a w st => mid_intro false h31 (St.cut [] ⟨rfl, trivial⟩ (by decide) rfl st)
 rintro x27 h40
 have h41 := h32 _ h40
 try dsimp only at h41
 refine GL.weak (env' := [(0, .bool x27)]) (L' := []) (fun _ _ st => st) ?_
 have h41 := Option.some.inj h41
 subst h41
 exact GL.ret (Gx.ret (v := .bool x27) (res1 rfl rfl) (fun a w st => st.toPostV))

set_option maxHeartbeats 4000000 in
theorem tally_Check_c (S : Hp) (w : World) (hS : S.sub w) (x0 : Int) (v1 : Value) (x1 : (List (List Int))) (k1 : ((TR.sl (TR.sl TR.int))).vrep S v1 x1) (res : Int) (hm : tally_Check_m x0 x1 = some res) : Calls Try.prog 38 #[.int .i64 x0, v1] w (PostV w (.int .i64 res)) := by
 refine calls_enter 27 Try.func38 Try.ntmps38 rfl S false [(0, .int .i64 x0), (1, v1)] [imm (TR.sl (TR.sl TR.int)) v1 x1] rfl ⟨rfl, ⟨rfl, trivial⟩⟩ hS ⟨k1, trivial⟩ ?_
 unfold tally_Check_m at hm
 refine GL.seq ?_
 refine GL.region ?_
 refine RL.asg rfl rfl rfl ?_
 refine RL.finG ?_
 refine GL.seq ?_
 refine GL.seq ?_
 obtain ⟨y6, K7, h8, h9, h10, h11, h12⟩ := bindR_K hm
 refine GL.join (ι := Bool) (fun (p : Bool) => [(0, .int .i64 x0), (1, v1), (12, .bool p)]) (fun (p : Bool) => [imm (TR.sl (TR.sl TR.int)) v1 x1]) (fun (p : Bool) => K7 (.nx p)) ?_ ?_
 ·skip
  refine GL.region ?_
  refine RL.mv rfl rfl rfl ?_
  refine RL.binI (v := .bool (decide (x0 < (1 : Int)))) rfl rfl rfl rfl rfl ?_
  refine RL.mv rfl rfl rfl ?_
  refine RL.split (t := 9) rfl (fun b13 => ?_) (fun b13 => ?_)
  ·replace h8 := ite_t b13 h8
   refine RL.skip rfl rfl ?_
   refine RL.skip rfl rfl ?_
   refine RL.pickT rfl rfl rfl rfl ?_
   refine RL.fin ?_
   cases h8
   exact fun a w st => mid_intro true h9 (St.cut [0] ⟨rfl, rfl, rfl, trivial⟩ (by decide) rfl st)
  replace h8 := ite_f b13 h8
  refine RL.mv rfl rfl rfl ?_
  refine RL.binI (v := .bool (decide (x0 > (6 : Int)))) rfl rfl rfl rfl rfl ?_
  refine RL.pickF rfl rfl rfl rfl ?_
  refine RL.fin ?_
  cases h8
  exact fun a w st => mid_intro (decide (x0 > (6 : Int))) h9 (St.cut [0] ⟨rfl, rfl, rfl, trivial⟩ (by decide) rfl st)
 rintro x5 h14
 have h15 := h10 _ h14
 try dsimp only at h15
 refine GL.weak (env' := [(0, .int .i64 x0), (1, v1), (12, .bool x5)]) (L' := [imm (TR.sl (TR.sl TR.int)) v1 x1]) (fun _ _ st => st) ?_
 refine GL.cond rfl (fun b16 => ?_) (fun b16 => ?_)
 ·replace h15 := ite_t b16 h15
  refine GL.seq ?_
  refine GL.region ?_
  refine RL.asg rfl rfl rfl ?_
  refine RL.finG ?_
  have h15 := Option.some.inj h15
  subst h15
  exact GL.ret (Gx.ret (v := .int .i64 (1 : Int)) (res1 rfl rfl) (fun a w st => st.toPostV))
 replace h15 := ite_f b16 h15
 refine GL.skip ?_
 refine GL.seq ?_
 refine GL.seq ?_
 refine GL.region ?_
 refine RL.mv rfl rfl rfl ?_
 refine RL.lenS 0 Try.underlying37 rfl rfl rfl rfl SlOf.imm ?_
 refine RL.binI (v := .bool (decide (((x1).length : Int) > (30 : Int)))) rfl rfl rfl rfl rfl ?_
 refine RL.finG ?_
 refine GL.cond rfl (fun b17 => ?_) (fun b17 => ?_)
 ·replace h15 := ite_t b17 h15
  refine GL.seq ?_
  refine GL.region ?_
  refine RL.asg rfl rfl rfl ?_
  refine RL.finG ?_
  have h15 := Option.some.inj h15
  subst h15
  exact GL.ret (Gx.ret (v := .int .i64 (2 : Int)) (res1 rfl rfl) (fun a w st => st.toPostV))
 replace h15 := ite_f b17 h15
 refine GL.skip ?_
 refine GL.seq ?_
 refine GL.seq ?_
 refine GL.region ?_
 refine RL.mv rfl rfl rfl ?_
 refine RL.lenS 0 Try.underlying37 rfl rfl rfl rfl SlOf.imm ?_
 refine RL.mv rfl rfl rfl ?_
 refine RL.finG ?_
 refine GL.open_ 0 rfl (fun S h => len_imm S h) (fun n29 => ?_)
 obtain ⟨y30, K31, h32, h33, h34, h35, h36⟩ := bindR_K h15
 refine GL.join (ι := Unit) (fun (p : Unit) => []) (fun (p : Unit) => []) (fun (p : Unit) => K31 (.nx ())) ?_ ?_
 ·refine GL.block ?_
  refine GL.loop (ι := Nat × (List (List Int))) (fun (p : Nat × (List (List Int))) => [(0, .int .i64 x0), (16, v1), (17, .int .i64 ((x1).length : Int)), (18, .int .i64 (p.1 : Int))]) (fun (p : Nat × (List (List Int))) => [imm (TR.sl (TR.sl TR.int)) v1 x1]) (fun (p : Nat × (List (List Int))) => p.1 + p.2.length = (x1).length ∧ List.drop p.1 x1 = p.2 ∧ rangeL (tally_Check_b1 x0) p.2 p.1 () = some y30) (fun (p : Nat × (List (List Int))) => p.2.length) (0, x1) ⟨by simp, by simp, h32⟩ (fun a w st => St.cut [0] ⟨rfl, rfl, rfl, rfl, trivial⟩ (by decide) rfl st) ?_
  rintro ⟨i37, r38⟩ ⟨h43, h44, h42⟩
  try dsimp only at h43 h44 h42
  refine GL.weak (env' := [(0, .int .i64 x0), (16, v1), (17, .int .i64 ((x1).length : Int)), (18, .int .i64 (i37 : Int))]) (L' := [imm (TR.sl (TR.sl TR.int)) v1 x1]) (fun _ _ st => st) ?_
  refine GL.seq ?_
  refine GL.region ?_
  refine RL.binI (v := .bool (decide ((i37 : Int) < ((x1).length : Int)))) rfl rfl rfl rfl rfl ?_
  refine RL.finG ?_
  refine GL.seq ?_
  refine GL.cond rfl (fun b45 => ?_) (fun b45 => ?_)
  ·have h46 : i37 < (x1).length := by have := of_decide_eq_true b45; omega
   obtain ⟨y47, r49, hr, e48, h50⟩ := drop_cons h44 rfl h46
   subst hr
   obtain ⟨z39, h40, h41⟩ := rangeL_some h42
   unfold tally_Check_b1 at h40
   try dsimp only at h40
   refine GL.skip ?_
   refine GL.seq ?_
   refine GL.block ?_
   refine GL.seq ?_
   refine GL.region ?_
   refine RL.idxS (sz := 1) 0 Try.underlying37 Try_ln27 rfl rfl rfl rfl rfl SlOf.imm (by omega) (by omega) ?_
   refine RL.ldS (i := i37) (r := (TR.sl TR.int)) (e' := y47) 0 Try_ln27 rfl rfl rfl rfl SlOf.imm e48 Part.self ?_
   intro v52
   refine RL.asg rfl rfl rfl ?_
   refine RL.finG ?_
   refine GL.seq ?_
   refine GL.region ?_
   refine RL.mv rfl rfl rfl ?_
   refine RL.mv rfl rfl rfl ?_
   obtain ⟨y55, e56, h40⟩ := bind_some h40
   refine RL.callV (v := .int .i64 y55) (vs := [.int .i64 x0, v52]) Try_fit43 rfl (Or.inl rfl) rfl rfl rfl rfl (fun U w hU hW hL => order_Check_c U w hU x0 _ _ (hL 1 _ _ rfl Seen.imm) _ e56) ?_
   refine RL.binI (v := .bool (y55 != (0 : Int))) rfl rfl rfl rfl rfl ?_
   refine RL.finG ?_
   refine GL.cond rfl (fun b57 => ?_) (fun b57 => ?_)
   ·replace h40 := ite_t b57 h40
    refine GL.seq ?_
    refine GL.region ?_
    refine RL.asg rfl rfl rfl ?_
    refine RL.finG ?_
    cases h40
    replace h41 : some (Fl.rt _) = some y30 := h41
    cases h41
    have hh := h35 _ h33
    subst hh
    exact GL.ret (Gx.ret (v := .int .i64 (3 : Int)) (res1 rfl rfl) (fun a w st => st.toPostV))
   replace h40 := ite_f b57 h40
   refine GL.skip ?_
   refine GL.nilB ?_
   refine GL.region ?_
   refine RL.binI (v := .int .i64 ((i37 + 1 : Nat) : Int)) rfl rfl rfl rfl (binI_succ i37 (by omega)) ?_
   refine RL.mv rfl rfl rfl ?_
   refine RL.fin ?_
   cases h40
   exact fun a w st => lop_intro (i37 + 1, r49) ⟨by show i37 + 1 + r49.length = (x1).length; simp only [List.length_cons] at h43; omega, h50, h41⟩ (by simp) (St.cut [0] ⟨rfl, rfl, rfl, rfl, trivial⟩ (by decide) rfl st)
  have h46 : ¬ i37 < (x1).length := by have := of_decide_eq_false b45; omega
  obtain rfl : r38 = [] := by rw [← h44]; exact List.drop_of_length_le (by omega)
  replace h42 : some (Fl.nx _) = some y30 := h42
  cases h42
  exact GL.exit (fun a w st => mid_intro () h33 (St.cut [] trivial (by decide) rfl st))
 rintro ⟨⟩ h58
 have h59 := h34 _ h58
 try dsimp only at h59
 refine GL.weak (env' := []) (L' := []) (fun _ _ st => st) ?_
 refine GL.seq ?_
 refine GL.region ?_
 refine RL.asg rfl rfl rfl ?_
 refine RL.finG ?_
 have h59 := Option.some.inj h59
 subst h59
 exact GL.ret (Gx.ret (v := .int .i64 (0 : Int)) (res1 rfl rfl) (fun a w st => st.toPostV))

set_option maxHeartbeats 4000000 in
theorem tally_Duels_c (S : Hp) (w : World) (hS : S.sub w) (x0 : Int) (v1 : Value) (x1 : (List (List Int))) (k1 : ((TR.sl (TR.sl TR.int))).vrep S v1 x1) (res : (List (List Int)) × Int) (hm : tally_Duels_m x0 x1 = some res) : Calls Try.prog 23 #[.int .i64 x0, v1] w (Post w S (fun (o : Value) => .tuple #[o, .int .i64 res.2]) (fun (o : Value) => [imm (TR.sl (TR.sl TR.int)) o res.1])) := by
 refine calls_enter 69 Try.func23 Try.ntmps23 rfl S false [(0, .int .i64 x0), (1, v1)] [imm (TR.sl (TR.sl TR.int)) v1 x1] rfl ⟨rfl, ⟨rfl, trivial⟩⟩ hS ⟨k1, trivial⟩ ?_
 unfold tally_Duels_m at hm
 refine GL.seq ?_
 refine GL.region ?_
 refine RL.asg rfl rfl rfl ?_
 refine RL.asg rfl rfl rfl ?_
 refine RL.finG ?_
 refine GL.seq ?_
 refine GL.seq ?_
 refine GL.region ?_
 refine RL.mv rfl rfl rfl ?_
 refine RL.mv rfl rfl rfl ?_
 obtain ⟨y5, e6, hm⟩ := bind_some hm
 refine RL.callV (v := .int .i64 y5) (vs := [.int .i64 x0, v1]) Try_fit38 rfl (Or.inl rfl) rfl rfl rfl rfl (fun U w hU hW hL => tally_Check_c U w hU x0 _ _ (hL 0 _ _ rfl Seen.imm) _ e6) ?_
 refine RL.asg rfl rfl rfl ?_
 refine RL.finG ?_
 refine GL.seq ?_
 refine GL.region ?_
 refine RL.mv rfl rfl rfl ?_
 refine RL.binI (v := .bool (y5 != (0 : Int))) rfl rfl rfl rfl rfl ?_
 refine RL.finG ?_
 refine GL.cond rfl (fun b7 => ?_) (fun b7 => ?_)
 ·replace hm := ite_t b7 hm
  refine GL.seq ?_
  refine GL.region ?_
  refine RL.mv rfl rfl rfl ?_
  refine RL.asg rfl rfl rfl ?_
  refine RL.asg rfl rfl rfl ?_
  refine RL.finG ?_
  refine GL.weak (fun a w st => st.nilImm (TR.sl TR.int)) ?_
  have hm := Option.some.inj hm
  subst hm
  exact GL.ret (Gx.ret (v := .tuple #[Value.slice none 0 0, .int .i64 y5]) (res2 rfl rfl rfl) (fun a w st => (st.pick [1] (by decide) rfl).toPost (Value.slice none 0 0)))
 replace hm := ite_f b7 hm
 refine GL.skip ?_
 refine GL.seq ?_
 refine GL.region ?_
 refine RL.mv rfl rfl rfl ?_
 obtain ⟨y11, e12, hm⟩ := bind_some hm
 replace e12 := chk_some e12
 refine RL.mkS (t := TR.raw) (z := .slice none 0 0) Try.underlying37 Try_lo27 (fun S => ⟨rfl, rfl⟩) rfl rfl rfl rfl e12.1 e12.2 ?_
 intro v13
 refine RL.weak (fun a w st => st.toRows 3 TR.int 1 rfl) ?_
 refine RL.reL (L' := [imm (TR.sl (TR.sl TR.int)) v1 x1, own2 27 3 TR.int v13 (List.replicate (x0).toNat (Value.slice none 0 0)) (List.replicate (x0).toNat ([] : (List Int)))]) rfl ?_
 refine RL.asg rfl rfl rfl ?_
 refine RL.finG ?_
 refine GL.seq ?_
 refine GL.seq ?_
 refine GL.region ?_
 refine RL.mv rfl rfl rfl ?_
 refine RL.lenR 1 Try.underlying37 rfl rfl rfl rfl ?_
 refine RL.mv rfl rfl rfl ?_
 refine RL.finG ?_
 refine GL.lenR 1 rfl (fun n36 => ?_)
 obtain ⟨y37, K38, h39, h40, h41, h42, h43⟩ := bindR_K hm
 refine GL.join (ι := (List (List Int)) × (List Value)) (fun (p : (List (List Int)) × (List Value)) => [(1, v1), (7, v13)]) (fun (p : (List (List Int)) × (List Value)) => [imm (TR.sl (TR.sl TR.int)) v1 x1, own2 27 3 TR.int v13 p.2 p.1]) (fun (p : (List (List Int)) × (List Value)) => K38 (.nx p.1)) ?_ ?_
 ·refine GL.block ?_
  refine GL.loop (ι := Nat × Nat × (List (List Int)) × (List Value)) (fun (p : Nat × Nat × (List (List Int)) × (List Value)) => [(0, .int .i64 x0), (1, v1), (7, v13), (24, .int .i64 (((List.replicate (x0).toNat ([] : (List Int)))).length : Int)), (25, .int .i64 (p.1 : Int))]) (fun (p : Nat × Nat × (List (List Int)) × (List Value)) => [imm (TR.sl (TR.sl TR.int)) v1 x1, own2 27 3 TR.int v13 p.2.2.2 p.2.2.1]) (fun (p : Nat × Nat × (List (List Int)) × (List Value)) => p.1 + p.2.1 = ((List.replicate (x0).toNat ([] : (List Int)))).length ∧ rangeN (tally_Duels_b1 x0) p.2.1 p.1 p.2.2.1 = some y37) (fun (p : Nat × Nat × (List (List Int)) × (List Value)) => p.2.1) (0, ((List.replicate (x0).toNat ([] : (List Int)))).length, (List.replicate (x0).toNat ([] : (List Int))), (List.replicate (x0).toNat (Value.slice none 0 0))) ⟨by simp, h39⟩ (fun a w st => St.cut [0, 1] ⟨rfl, rfl, rfl, rfl, rfl, trivial⟩ (by decide) rfl st) ?_
  rintro ⟨i44, r45, l24, V25⟩ ⟨h50, h49⟩
  try dsimp only at h50 h49
  refine GL.weak (env' := [(0, .int .i64 x0), (1, v1), (7, v13), (24, .int .i64 (((List.replicate (x0).toNat ([] : (List Int)))).length : Int)), (25, .int .i64 (i44 : Int))]) (L' := [imm (TR.sl (TR.sl TR.int)) v1 x1, own2 27 3 TR.int v13 V25 l24]) (fun _ _ st => st) ?_
  refine GL.seq ?_
  refine GL.region ?_
  refine RL.binI (v := .bool (decide ((i44 : Int) < (((List.replicate (x0).toNat ([] : (List Int)))).length : Int)))) rfl rfl rfl rfl rfl ?_
  refine RL.finG ?_
  refine GL.seq ?_
  refine GL.cond rfl (fun b52 => ?_) (fun b52 => ?_)
  ·have h53 : i44 < ((List.replicate (x0).toNat ([] : (List Int)))).length := by have := of_decide_eq_true b52; omega
   obtain ⟨r54, hr⟩ : ∃ m, r45 = m + 1 := ⟨r45 - 1, by omega⟩
   subst hr
   obtain ⟨z46, h47, h48⟩ := rangeN_some h49
   unfold tally_Duels_b1 at h47
   try dsimp only at h47
   refine GL.skip ?_
   refine GL.seq ?_
   refine GL.block ?_
   refine GL.seq ?_
   refine GL.region ?_
   refine RL.mv rfl rfl rfl ?_
   refine RL.asg rfl rfl rfl ?_
   refine RL.finG ?_
   refine GL.region ?_
   refine RL.mv rfl rfl rfl ?_
   refine RL.mv rfl rfl rfl ?_
   refine RL.mv rfl rfl rfl ?_
   obtain ⟨y60, e61, h47⟩ := bind_some h47
   replace e61 := chk_some e61
   refine RL.mkS (t := TR.int) (z := (0 : Int)) Try.underlying27 Try_lo3 (fun S => rfl) rfl rfl rfl rfl e61.1 e61.2 ?_
   intro v62
   obtain ⟨y63, e64, h47⟩ := bind_some h47
   refine RL.idxR 1 Try.underlying37 Try_ln27 rfl rfl rfl rfl rfl (idx_some e64).1 (idx_some e64).2.1 ?_
   refine RL.stSp (i := i44) (r0 := y63) 1 2 (by decide) Try_ln27 rfl rfl rfl rfl rfl rfl (idx_some e64).2.2 ?_
   refine RL.reL (L' := [imm (TR.sl (TR.sl TR.int)) v1 x1, own2 27 3 TR.int v13 (List.set V25 i44 v62) (List.set l24 i44 (List.replicate (x0).toNat (0 : Int))), gone]) rfl ?_
   refine RL.finG ?_
   refine GL.nilB ?_
   refine GL.region ?_
   refine RL.binI (v := .int .i64 ((i44 + 1 : Nat) : Int)) rfl rfl rfl rfl (binI_succ i44 (by omega)) ?_
   refine RL.mv rfl rfl rfl ?_
   refine RL.fin ?_
   cases h47
   exact fun a w st => lop_intro (i44 + 1, r54, (List.set l24 i44 (List.replicate (x0).toNat (0 : Int))), (List.set V25 i44 v62)) ⟨by show i44 + 1 + r54 = ((List.replicate (x0).toNat ([] : (List Int)))).length; omega, h48⟩ (by simp) (St.cut [0, 1] ⟨rfl, rfl, rfl, rfl, rfl, trivial⟩ (by decide) rfl st)
  have h53 : ¬ i44 < ((List.replicate (x0).toNat ([] : (List Int)))).length := by have := of_decide_eq_false b52; omega
  obtain rfl : r45 = 0 := by omega
  replace h49 : some (Fl.nx _) = some y37 := h49
  cases h49
  exact GL.exit (fun a w st => mid_intro (l24, V25) h40 (St.cut [0, 1] ⟨rfl, rfl, trivial⟩ (by decide) rfl st))
 rintro ⟨l24, V25⟩ h65
 have h66 := h41 _ h65
 try dsimp only at h66
 refine GL.weak (env' := [(1, v1), (7, v13)]) (L' := [imm (TR.sl (TR.sl TR.int)) v1 x1, own2 27 3 TR.int v13 V25 l24]) (fun _ _ st => st) ?_
 refine GL.seq ?_
 refine GL.seq ?_
 refine GL.region ?_
 refine RL.mv rfl rfl rfl ?_
 refine RL.lenS 0 Try.underlying37 rfl rfl rfl rfl SlOf.imm ?_
 refine RL.mv rfl rfl rfl ?_
 refine RL.finG ?_
 refine GL.open_ 0 rfl (fun S h => len_imm S h) (fun n605 => ?_)
 obtain ⟨y606, K607, h608, h609, h610, h611, h612⟩ := bindR_K h66
 refine GL.join (ι := (List (List Int)) × (List Value)) (fun (p : (List (List Int)) × (List Value)) => [(7, v13)]) (fun (p : (List (List Int)) × (List Value)) => [own2 27 3 TR.int v13 p.2 p.1]) (fun (p : (List (List Int)) × (List Value)) => K607 (.nx p.1)) ?_ ?_
 ·refine GL.block ?_
  refine GL.loop (ι := Nat × (List (List Int)) × (List (List Int)) × (List Value)) (fun (p : Nat × (List (List Int)) × (List (List Int)) × (List Value)) => [(7, v13), (34, v1), (35, .int .i64 ((x1).length : Int)), (36, .int .i64 (p.1 : Int))]) (fun (p : Nat × (List (List Int)) × (List (List Int)) × (List Value)) => [own2 27 3 TR.int v13 p.2.2.2 p.2.2.1, imm (TR.sl (TR.sl TR.int)) v1 x1]) (fun (p : Nat × (List (List Int)) × (List (List Int)) × (List Value)) => p.1 + p.2.1.length = (x1).length ∧ List.drop p.1 x1 = p.2.1 ∧ rangeL tally_Duels_b2 p.2.1 p.1 p.2.2.1 = some y606) (fun (p : Nat × (List (List Int)) × (List (List Int)) × (List Value)) => p.2.1.length) (0, x1, l24, V25) ⟨by simp, by simp, h608⟩ (fun a w st => St.cut [1, 0] ⟨rfl, rfl, rfl, rfl, trivial⟩ (by decide) rfl st) ?_
  rintro ⟨i613, r614, l335, V336⟩ ⟨h619, h620, h618⟩
  try dsimp only at h619 h620 h618
  refine GL.weak (env' := [(7, v13), (34, v1), (35, .int .i64 ((x1).length : Int)), (36, .int .i64 (i613 : Int))]) (L' := [own2 27 3 TR.int v13 V336 l335, imm (TR.sl (TR.sl TR.int)) v1 x1]) (fun _ _ st => st) ?_
  refine GL.seq ?_
  refine GL.region ?_
  refine RL.binI (v := .bool (decide ((i613 : Int) < ((x1).length : Int)))) rfl rfl rfl rfl rfl ?_
  refine RL.finG ?_
  refine GL.seq ?_
  refine GL.cond rfl (fun b621 => ?_) (fun b621 => ?_)
  ·have h622 : i613 < (x1).length := by have := of_decide_eq_true b621; omega
   obtain ⟨y623, r625, hr, e624, h626⟩ := drop_cons h620 rfl h622
   subst hr
   obtain ⟨z615, h616, h617⟩ := rangeL_some h618
   unfold tally_Duels_b2 at h616
   try dsimp only at h616
   refine GL.skip ?_
   refine GL.seq ?_
   refine GL.block ?_
   refine GL.seq ?_
   refine GL.region ?_
   refine RL.idxS (sz := 1) 1 Try.underlying37 Try_ln27 rfl rfl rfl rfl rfl SlOf.imm (by omega) (by omega) ?_
   refine RL.ldS (i := i613) (r := (TR.sl TR.int)) (e' := y623) 1 Try_ln27 rfl rfl rfl rfl SlOf.imm e624 Part.self ?_
   intro v628
   refine RL.asg rfl rfl rfl ?_
   refine RL.finG ?_
   refine GL.seq ?_
   refine GL.region ?_
   refine RL.mv rfl rfl rfl ?_
   refine RL.lenS 2 Try.underlying27 rfl rfl rfl rfl SlOf.imm ?_
   refine RL.mv rfl rfl rfl ?_
   refine RL.finG ?_
   refine GL.open_ 2 rfl (fun S h => len_imm S h) (fun n791 => ?_)
   obtain ⟨y792, K793, h794, h795, h796, h797, h798⟩ := bindF_K h616
   refine GL.join (ι := (List (List Int)) × (List Value)) (fun (p : (List (List Int)) × (List Value)) => [(7, v13), (34, v1), (35, .int .i64 ((x1).length : Int)), (36, .int .i64 (i613 : Int))]) (fun (p : (List (List Int)) × (List Value)) => [own2 27 3 TR.int v13 p.2 p.1, imm (TR.sl (TR.sl TR.int)) v1 x1]) (fun (p : (List (List Int)) × (List Value)) => K793 (.nx p.1)) ?_ ?_
   ·refine GL.block ?_
    refine GL.loop (ι := Nat × (List Int) × (List (List Int)) × (List Value)) (fun (p : Nat × (List Int) × (List (List Int)) × (List Value)) => [(7, v13), (10, v628), (34, v1), (35, .int .i64 ((x1).length : Int)), (36, .int .i64 (i613 : Int)), (40, v628), (41, .int .i64 ((y623).length : Int)), (42, .int .i64 (p.1 : Int))]) (fun (p : Nat × (List Int) × (List (List Int)) × (List Value)) => [own2 27 3 TR.int v13 p.2.2.2 p.2.2.1, imm (TR.sl TR.int) v628 y623, imm (TR.sl (TR.sl TR.int)) v1 x1]) (fun (p : Nat × (List Int) × (List (List Int)) × (List Value)) => p.1 + p.2.1.length = (y623).length ∧ List.drop p.1 y623 = p.2.1 ∧ rangeL (tally_Duels_b3 y623) p.2.1 p.1 p.2.2.1 = some y792) (fun (p : Nat × (List Int) × (List (List Int)) × (List Value)) => p.2.1.length) (0, y623, l335, V336) ⟨by simp, by simp, h794⟩ (fun a w st => St.cut [0, 2, 1] ⟨rfl, rfl, rfl, rfl, rfl, rfl, rfl, rfl, trivial⟩ (by decide) rfl st) ?_
    rintro ⟨i799, r800, l709, V710⟩ ⟨h805, h806, h804⟩
    try dsimp only at h805 h806 h804
    refine GL.weak (env' := [(7, v13), (10, v628), (34, v1), (35, .int .i64 ((x1).length : Int)), (36, .int .i64 (i613 : Int)), (40, v628), (41, .int .i64 ((y623).length : Int)), (42, .int .i64 (i799 : Int))]) (L' := [own2 27 3 TR.int v13 V710 l709, imm (TR.sl TR.int) v628 y623, imm (TR.sl (TR.sl TR.int)) v1 x1]) (fun _ _ st => st) ?_
    refine GL.seq ?_
    refine GL.region ?_
    refine RL.binI (v := .bool (decide ((i799 : Int) < ((y623).length : Int)))) rfl rfl rfl rfl rfl ?_
    refine RL.finG ?_
    refine GL.seq ?_
    refine GL.cond rfl (fun b807 => ?_) (fun b807 => ?_)
    ·have h808 : i799 < (y623).length := by have := of_decide_eq_true b807; omega
     obtain ⟨y809, r811, hr, e810, h812⟩ := drop_cons h806 rfl h808
     subst hr
     obtain ⟨z801, h802, h803⟩ := rangeL_some h804
     unfold tally_Duels_b3 at h802
     try dsimp only at h802
     refine GL.skip ?_
     refine GL.seq ?_
     refine GL.block ?_
     refine GL.seq ?_
     refine GL.region ?_
     refine RL.mv rfl rfl rfl ?_
     refine RL.idxS (sz := 1) 1 Try.underlying27 Try_ln3 rfl rfl rfl rfl rfl SlOf.imm (by omega) (by omega) ?_
     refine RL.ldSx (i := i799) (e' := y809) 1 Ex.ik Try_ln3 rfl rfl rfl rfl SlOf.imm e810 Part.self ?_
     refine RL.asg rfl rfl rfl ?_
     refine RL.asg rfl rfl rfl ?_
     refine RL.finG ?_
     refine GL.seq ?_
     refine GL.region ?_
     refine RL.mv rfl rfl rfl ?_
     refine RL.mv rfl rfl rfl ?_
     refine RL.binI (v := .int .i64 (wadd (i799 : Int) (1 : Int))) rfl rfl rfl rfl rfl ?_
     obtain ⟨y816, e817, h802⟩ := bind_some h802
     replace e817 := chk_some e817
     refine RL.slc (t := TR.int) (i := (wadd (i799 : Int) (1 : Int)).toNat) (j := (y623).length) (sz := 1) 1 Try.underlying27 Try_ln3 rfl rfl rfl rfl (Or.inr ⟨_, _, rfl, by rw [Int.toNat_of_nonneg (by omega)]; rfl⟩) (Or.inl ⟨rfl, rfl⟩) rfl (by omega) (by omega) ?_
     intro v818
     refine RL.lenS 3 Try.underlying27 rfl rfl rfl rfl SlOf.imm ?_
     refine RL.mv rfl rfl rfl ?_
     refine RL.finG ?_
     refine GL.open_ 3 rfl (fun S h => len_imm S h) (fun n853 => ?_)
     obtain ⟨y854, K855, h856, h857, h858, h859, h860⟩ := bindF_K h802
     refine GL.join (ι := (List (List Int)) × (List Value)) (fun (p : (List (List Int)) × (List Value)) => [(7, v13), (10, v628), (34, v1), (35, .int .i64 ((x1).length : Int)), (36, .int .i64 (i613 : Int)), (40, v628), (41, .int .i64 ((y623).length : Int)), (42, .int .i64 (i799 : Int))]) (fun (p : (List (List Int)) × (List Value)) => [own2 27 3 TR.int v13 p.2 p.1, imm (TR.sl TR.int) v628 y623, imm (TR.sl (TR.sl TR.int)) v1 x1]) (fun (p : (List (List Int)) × (List Value)) => K855 (.nx p.1)) ?_ ?_
     ·refine GL.block ?_
      refine GL.loop (ι := Nat × (List Int) × (List (List Int)) × (List Value)) (fun (p : Nat × (List Int) × (List (List Int)) × (List Value)) => [(7, v13), (10, v628), (12, .int .i64 y809), (34, v1), (35, .int .i64 ((x1).length : Int)), (36, .int .i64 (i613 : Int)), (40, v628), (41, .int .i64 ((y623).length : Int)), (42, .int .i64 (i799 : Int)), (50, v818), (51, .int .i64 ((((List.take ((y623).length) y623).drop ((wadd (i799 : Int) (1 : Int)).toNat))).length : Int)), (52, .int .i64 (p.1 : Int))]) (fun (p : Nat × (List Int) × (List (List Int)) × (List Value)) => [own2 27 3 TR.int v13 p.2.2.2 p.2.2.1, imm (TR.sl TR.int) v628 y623, imm (TR.sl (TR.sl TR.int)) v1 x1, imm (TR.sl TR.int) v818 ((List.take ((y623).length) y623).drop ((wadd (i799 : Int) (1 : Int)).toNat))]) (fun (p : Nat × (List Int) × (List (List Int)) × (List Value)) => p.1 + p.2.1.length = (((List.take ((y623).length) y623).drop ((wadd (i799 : Int) (1 : Int)).toNat))).length ∧ List.drop p.1 ((List.take ((y623).length) y623).drop ((wadd (i799 : Int) (1 : Int)).toNat)) = p.2.1 ∧ rangeL (tally_Duels_b4 y809) p.2.1 p.1 p.2.2.1 = some y854) (fun (p : Nat × (List Int) × (List (List Int)) × (List Value)) => p.2.1.length) (0, ((List.take ((y623).length) y623).drop ((wadd (i799 : Int) (1 : Int)).toNat)), l709, V710) ⟨by simp, by simp, h856⟩ (fun a w st => St.cut [0, 1, 2, 3] ⟨rfl, rfl, rfl, rfl, rfl, rfl, rfl, rfl, rfl, rfl, rfl, rfl, trivial⟩ (by decide) rfl st) ?_
      rintro ⟨i861, r862, l835, V836⟩ ⟨h867, h868, h866⟩
      try dsimp only at h867 h868 h866
      refine GL.weak (env' := [(7, v13), (10, v628), (12, .int .i64 y809), (34, v1), (35, .int .i64 ((x1).length : Int)), (36, .int .i64 (i613 : Int)), (40, v628), (41, .int .i64 ((y623).length : Int)), (42, .int .i64 (i799 : Int)), (50, v818), (51, .int .i64 ((((List.take ((y623).length) y623).drop ((wadd (i799 : Int) (1 : Int)).toNat))).length : Int)), (52, .int .i64 (i861 : Int))]) (L' := [own2 27 3 TR.int v13 V836 l835, imm (TR.sl TR.int) v628 y623, imm (TR.sl (TR.sl TR.int)) v1 x1, imm (TR.sl TR.int) v818 ((List.take ((y623).length) y623).drop ((wadd (i799 : Int) (1 : Int)).toNat))]) (fun _ _ st => st) ?_
      refine GL.seq ?_
      refine GL.region ?_
      refine RL.binI (v := .bool (decide ((i861 : Int) < ((((List.take ((y623).length) y623).drop ((wadd (i799 : Int) (1 : Int)).toNat))).length : Int)))) rfl rfl rfl rfl rfl ?_
      refine RL.finG ?_
      refine GL.seq ?_
      refine GL.cond rfl (fun b869 => ?_) (fun b869 => ?_)
      ·have h870 : i861 < (((List.take ((y623).length) y623).drop ((wadd (i799 : Int) (1 : Int)).toNat))).length := by have := of_decide_eq_true b869; omega
       obtain ⟨y871, r873, hr, e872, h874⟩ := drop_cons h868 rfl h870
       subst hr
       obtain ⟨z863, h864, h865⟩ := rangeL_some h866
       unfold tally_Duels_b4 at h864
       try dsimp only at h864
       refine GL.skip ?_
       refine GL.seq ?_
       refine GL.block ?_
       refine GL.seq ?_
       refine GL.region ?_
       refine RL.idxS (sz := 1) 3 Try.underlying27 Try_ln3 rfl rfl rfl rfl rfl SlOf.imm (by omega) (by omega) ?_
       refine RL.ldSx (i := i861) (e' := y871) 3 Ex.ik Try_ln3 rfl rfl rfl rfl SlOf.imm e872 Part.self ?_
       refine RL.asg rfl rfl rfl ?_
       refine RL.finG ?_
       refine GL.region ?_
       refine RL.mv rfl rfl rfl ?_
       refine RL.mv rfl rfl rfl ?_
       obtain ⟨y881, e882, h864⟩ := bind_some h864
       refine RL.idxR 0 Try.underlying37 Try_ln27 rfl rfl rfl rfl rfl (idx_some e882).1 (idx_some e882).2.1 ?_
       refine RL.ldR (i := (y809).toNat) (r := y881) 0 Try_ln27 rfl rfl rfl rfl (idx_some e882).2.2 ?_
       refine RL.mv rfl rfl rfl ?_
       obtain ⟨y883, e884, h864⟩ := bind_some h864
       refine RL.idxS (sz := 1) 0 Try.underlying27 Try_ln3 rfl rfl rfl rfl rfl (SlOf.row (idx_some e882).2.2) (idx_some e884).1 (idx_some e884).2.1 ?_
       refine RL.ldSx (i := (y871).toNat) (e' := y883) 0 Ex.ik Try_ln3 rfl rfl rfl rfl (SlOf.row (idx_some e882).2.2) (idx_some e884).2.2 Part.self ?_
       refine RL.binI (v := .int .i64 (wadd y883 (1 : Int))) rfl rfl rfl rfl rfl ?_
       obtain ⟨y885, e886, h864⟩ := bind_some h864
       refine RL.idxS (sz := 1) 0 Try.underlying27 Try_ln3 rfl rfl rfl rfl rfl (SlOf.row (idx_some e882).2.2) (idx_some e886).1 (idx_some e886).2.1 ?_
       refine RL.stR (i := (y809).toNat) (j := (y871).toNat) (row := y881) (e' := wadd y883 (1 : Int)) (e1 := wadd y883 (1 : Int)) (r := TR.int) 0 Try_ln3 rfl rfl rfl rfl VR.int rfl (idx_some e882).2.2 (idx_some e886).2.2 Upd.self ?_
       refine RL.finG ?_
       refine GL.nilB ?_
       refine GL.region ?_
       refine RL.binI (v := .int .i64 ((i861 + 1 : Nat) : Int)) rfl rfl rfl rfl (binI_succ i861 (by omega)) ?_
       refine RL.mv rfl rfl rfl ?_
       refine RL.fin ?_
       cases h864
       exact fun a w st => lop_intro (i861 + 1, r873, (List.set l835 ((y809).toNat) (List.set y881 ((y871).toNat) (wadd y883 (1 : Int)))), V836) ⟨by show i861 + 1 + r873.length = (((List.take ((y623).length) y623).drop ((wadd (i799 : Int) (1 : Int)).toNat))).length; simp only [List.length_cons] at h867; omega, h874, h865⟩ (by simp) (St.cut [0, 1, 2, 3] ⟨rfl, rfl, rfl, rfl, rfl, rfl, rfl, rfl, rfl, rfl, rfl, rfl, trivial⟩ (by decide) rfl st)
      have h870 : ¬ i861 < (((List.take ((y623).length) y623).drop ((wadd (i799 : Int) (1 : Int)).toNat))).length := by have := of_decide_eq_false b869; omega
      obtain rfl : r862 = [] := by rw [← h868]; exact List.drop_of_length_le (by omega)
      replace h866 : some (Fl.nx _) = some y854 := h866
      cases h866
      exact GL.exit (fun a w st => mid_intro (l835, V836) h857 (St.cut [0, 1, 2] ⟨rfl, rfl, rfl, rfl, rfl, rfl, rfl, rfl, trivial⟩ (by decide) rfl st))
     rintro ⟨l835, V836⟩ h887
     have h888 := h858 _ h887
     try dsimp only at h888
     refine GL.weak (env' := [(7, v13), (10, v628), (34, v1), (35, .int .i64 ((x1).length : Int)), (36, .int .i64 (i613 : Int)), (40, v628), (41, .int .i64 ((y623).length : Int)), (42, .int .i64 (i799 : Int))]) (L' := [own2 27 3 TR.int v13 V836 l835, imm (TR.sl TR.int) v628 y623, imm (TR.sl (TR.sl TR.int)) v1 x1]) (fun _ _ st => st) ?_
     refine GL.nilB ?_
     refine GL.region ?_
     refine RL.binI (v := .int .i64 ((i799 + 1 : Nat) : Int)) rfl rfl rfl rfl (binI_succ i799 (by omega)) ?_
     refine RL.mv rfl rfl rfl ?_
     refine RL.fin ?_
     cases h888
     exact fun a w st => lop_intro (i799 + 1, r811, l835, V836) ⟨by show i799 + 1 + r811.length = (y623).length; simp only [List.length_cons] at h805; omega, h812, h803⟩ (by simp) (St.cut [0, 1, 2] ⟨rfl, rfl, rfl, rfl, rfl, rfl, rfl, rfl, trivial⟩ (by decide) rfl st)
    have h808 : ¬ i799 < (y623).length := by have := of_decide_eq_false b807; omega
    obtain rfl : r800 = [] := by rw [← h806]; exact List.drop_of_length_le (by omega)
    replace h804 : some (Fl.nx _) = some y792 := h804
    cases h804
    exact GL.exit (fun a w st => mid_intro (l709, V710) h795 (St.cut [0, 2] ⟨rfl, rfl, rfl, rfl, trivial⟩ (by decide) rfl st))
   rintro ⟨l709, V710⟩ h889
   have h890 := h796 _ h889
   try dsimp only at h890
   refine GL.weak (env' := [(7, v13), (34, v1), (35, .int .i64 ((x1).length : Int)), (36, .int .i64 (i613 : Int))]) (L' := [own2 27 3 TR.int v13 V710 l709, imm (TR.sl (TR.sl TR.int)) v1 x1]) (fun _ _ st => st) ?_
   refine GL.nilB ?_
   refine GL.region ?_
   refine RL.binI (v := .int .i64 ((i613 + 1 : Nat) : Int)) rfl rfl rfl rfl (binI_succ i613 (by omega)) ?_
   refine RL.mv rfl rfl rfl ?_
   refine RL.fin ?_
   cases h890
   exact fun a w st => lop_intro (i613 + 1, r625, l709, V710) ⟨by show i613 + 1 + r625.length = (x1).length; simp only [List.length_cons] at h619; omega, h626, h617⟩ (by simp) (St.cut [0, 1] ⟨rfl, rfl, rfl, rfl, trivial⟩ (by decide) rfl st)
  have h622 : ¬ i613 < (x1).length := by have := of_decide_eq_false b621; omega
  obtain rfl : r614 = [] := by rw [← h620]; exact List.drop_of_length_le (by omega)
  replace h618 : some (Fl.nx _) = some y606 := h618
  cases h618
  exact GL.exit (fun a w st => mid_intro (l335, V336) h609 (St.cut [0] ⟨rfl, trivial⟩ (by decide) rfl st))
 rintro ⟨l335, V336⟩ h891
 have h892 := h610 _ h891
 try dsimp only at h892
 refine GL.weak (env' := [(7, v13)]) (L' := [own2 27 3 TR.int v13 V336 l335]) (fun _ _ st => st) ?_
 refine GL.seq ?_
 refine GL.region ?_
 refine RL.mv rfl rfl rfl ?_
 refine RL.asg rfl rfl rfl ?_
 refine RL.asg rfl rfl rfl ?_
 refine RL.finG ?_
 refine GL.weak (fun a w st => st.freeze2 0 rfl) ?_
 have h892 := Option.some.inj h892
 subst h892
 exact GL.ret (Gx.ret (v := .tuple #[v13, .int .i64 (0 : Int)]) (res2 rfl rfl rfl) (fun a w st => (st.pick [0] (by decide) rfl).toPost v13))

set_option maxHeartbeats 4000000 in
theorem tally_Beater_c (S : Hp) (w : World) (hS : S.sub w) (x0 : Int) (v1 : Value) (x1 : (List (List Int))) (k1 : ((TR.sl (TR.sl TR.int))).vrep S v1 x1) (res : Int × Int) (hm : tally_Beater_m x0 x1 = some res) : Calls Try.prog 31 #[.int .i64 x0, v1] w (PostV w (.tuple #[.int .i64 res.1, .int .i64 res.2])) := by
 refine calls_enter 55 Try.func31 Try.ntmps31 rfl S false [(0, .int .i64 x0), (1, v1)] [imm (TR.sl (TR.sl TR.int)) v1 x1] rfl ⟨rfl, ⟨rfl, trivial⟩⟩ hS ⟨k1, trivial⟩ ?_
 unfold tally_Beater_m at hm
 refine GL.seq ?_
 refine GL.region ?_
 refine RL.asg rfl rfl rfl ?_
 refine RL.asg rfl rfl rfl ?_
 refine RL.finG ?_
 refine GL.seq ?_
 refine GL.region ?_
 refine RL.mv rfl rfl rfl ?_
 refine RL.mv rfl rfl rfl ?_
 obtain ⟨y6, e7, hm⟩ := bind_some hm
 refine RL.call (vs := [.int .i64 x0, v1]) Try_fit23 rfl rfl rfl rfl rfl (fun S f w hS hW hi => tally_Duels_c S w hS x0 _ _ (hi 0 _ rfl) _ e7) ?_
 intro v8
 refine RL.mv rfl rfl rfl ?_
 refine RL.ext rfl rfl rfl rfl ?_
 refine RL.ext rfl rfl rfl rfl ?_
 refine RL.asg rfl rfl rfl ?_
 refine RL.asg rfl rfl rfl ?_
 refine RL.finG ?_
 refine GL.seq ?_
 refine GL.seq ?_
 refine GL.region ?_
 refine RL.mv rfl rfl rfl ?_
 refine RL.binI (v := .bool (y6.2 != (0 : Int))) rfl rfl rfl rfl rfl ?_
 refine RL.finG ?_
 refine GL.cond rfl (fun b9 => ?_) (fun b9 => ?_)
 ·replace hm := ite_t b9 hm
  refine GL.seq ?_
  refine GL.region ?_
  refine RL.mv rfl rfl rfl ?_
  refine RL.asg rfl rfl rfl ?_
  refine RL.asg rfl rfl rfl ?_
  refine RL.finG ?_
  have hm := Option.some.inj hm
  subst hm
  exact GL.ret (Gx.ret (v := .tuple #[.int .i64 (0 : Int), .int .i64 y6.2]) (res2 rfl rfl rfl) (fun a w st => st.toPostV))
 replace hm := ite_f b9 hm
 refine GL.skip ?_
 refine GL.seq ?_
 refine GL.seq ?_
 refine GL.region ?_
 refine RL.mv rfl rfl rfl ?_
 refine RL.mv rfl rfl rfl ?_
 refine RL.finG ?_
 obtain ⟨y128, e129, hm⟩ := bind_some hm
 replace e129 := chk_some e129
 obtain ⟨y130, K131, h132, h133, h134, h135, h136⟩ := bindR_K hm
 refine GL.join (ι := Unit) (fun (p : Unit) => []) (fun (p : Unit) => []) (fun (p : Unit) => K131 (.nx ())) ?_ ?_
 ·refine GL.block ?_
  refine GL.loop (ι := Nat × Nat) (fun (p : Nat × Nat) => [(0, .int .i64 x0), (6, v8), (20, .int .i64 x0), (21, .int .i64 (p.1 : Int))]) (fun (p : Nat × Nat) => [imm (TR.sl (TR.sl TR.int)) v8 y6.1]) (fun (p : Nat × Nat) => p.1 + p.2 = (x0).toNat ∧ rangeN (tally_Beater_b1 x0 y6) p.2 p.1 () = some y130) (fun (p : Nat × Nat) => p.2) (0, (x0).toNat) ⟨by simp, h132⟩ (fun a w st => St.cut [1] ⟨rfl, rfl, rfl, rfl, trivial⟩ (by decide) rfl st) ?_
  rintro ⟨i137, r138⟩ ⟨h143, h142⟩
  try dsimp only at h143 h142
  refine GL.weak (env' := [(0, .int .i64 x0), (6, v8), (20, .int .i64 x0), (21, .int .i64 (i137 : Int))]) (L' := [imm (TR.sl (TR.sl TR.int)) v8 y6.1]) (fun _ _ st => st) ?_
  refine GL.seq ?_
  refine GL.region ?_
  refine RL.binI (v := .bool (decide ((i137 : Int) < x0))) rfl rfl rfl rfl rfl ?_
  refine RL.finG ?_
  refine GL.seq ?_
  refine GL.cond rfl (fun b145 => ?_) (fun b145 => ?_)
  ·have h146 : i137 < (x0).toNat := by have := of_decide_eq_true b145; omega
   obtain ⟨r147, hr⟩ : ∃ m, r138 = m + 1 := ⟨r138 - 1, by omega⟩
   subst hr
   obtain ⟨z139, h140, h141⟩ := rangeN_some h142
   unfold tally_Beater_b1 at h140
   try dsimp only at h140
   refine GL.skip ?_
   refine GL.seq ?_
   refine GL.block ?_
   refine GL.seq ?_
   refine GL.region ?_
   refine RL.mv rfl rfl rfl ?_
   refine RL.asg rfl rfl rfl ?_
   refine RL.finG ?_
   refine GL.seq ?_
   refine GL.region ?_
   refine RL.asg rfl rfl rfl ?_
   refine RL.finG ?_
   refine GL.seq ?_
   refine GL.seq ?_
   refine GL.region ?_
   refine RL.mv rfl rfl rfl ?_
   refine RL.mv rfl rfl rfl ?_
   refine RL.finG ?_
   obtain ⟨y196, e197, h140⟩ := bind_some h140
   replace e197 := chk_some e197
   obtain ⟨y198, K199, h200, h201, h202, h203, h204⟩ := bindF_K h140
   refine GL.join (ι := Bool) (fun (p : Bool) => [(0, .int .i64 x0), (6, v8), (8, .int .i64 (i137 : Int)), (9, .bool p), (20, .int .i64 x0), (21, .int .i64 (i137 : Int))]) (fun (p : Bool) => [imm (TR.sl (TR.sl TR.int)) v8 y6.1]) (fun (p : Bool) => K199 (.nx p)) ?_ ?_
   ·refine GL.block ?_
    refine GL.loop (ι := Nat × Nat × Bool) (fun (p : Nat × Nat × Bool) => [(0, .int .i64 x0), (6, v8), (8, .int .i64 (i137 : Int)), (9, .bool p.2.2), (20, .int .i64 x0), (21, .int .i64 (i137 : Int)), (24, .int .i64 x0), (25, .int .i64 (p.1 : Int))]) (fun (p : Nat × Nat × Bool) => [imm (TR.sl (TR.sl TR.int)) v8 y6.1]) (fun (p : Nat × Nat × Bool) => p.1 + p.2.1 = (x0).toNat ∧ rangeN (tally_Beater_b2 i137 y6) p.2.1 p.1 p.2.2 = some y198) (fun (p : Nat × Nat × Bool) => p.2.1) (0, (x0).toNat, true) ⟨by simp, h200⟩ (fun a w st => St.cut [0] ⟨rfl, rfl, rfl, rfl, rfl, rfl, rfl, rfl, trivial⟩ (by decide) rfl st) ?_
    rintro ⟨i205, r206, x148⟩ ⟨h211, h210⟩
    try dsimp only at h211 h210
    refine GL.weak (env' := [(0, .int .i64 x0), (6, v8), (8, .int .i64 (i137 : Int)), (9, .bool x148), (20, .int .i64 x0), (21, .int .i64 (i137 : Int)), (24, .int .i64 x0), (25, .int .i64 (i205 : Int))]) (L' := [imm (TR.sl (TR.sl TR.int)) v8 y6.1]) (fun _ _ st => st) ?_
    refine GL.seq ?_
    refine GL.region ?_
    refine RL.binI (v := .bool (decide ((i205 : Int) < x0))) rfl rfl rfl rfl rfl ?_
    refine RL.finG ?_
    refine GL.seq ?_
    refine GL.cond rfl (fun b213 => ?_) (fun b213 => ?_)
    ·have h214 : i205 < (x0).toNat := by have := of_decide_eq_true b213; omega
     obtain ⟨r215, hr⟩ : ∃ m, r206 = m + 1 := ⟨r206 - 1, by omega⟩
     subst hr
     obtain ⟨z207, h208, h209⟩ := rangeN_some h210
     unfold tally_Beater_b2 at h208
     try dsimp only at h208
     refine GL.skip ?_
     refine GL.seq ?_
     refine GL.block ?_
     refine GL.seq ?_
     refine GL.region ?_
     refine RL.mv rfl rfl rfl ?_
     refine RL.asg rfl rfl rfl ?_
     refine RL.finG ?_
     obtain ⟨y241, K242, h243, h244, h245, h246, h247⟩ := bindF_K h208
     refine GL.join (ι := Bool) (fun (p : Bool) => [(0, .int .i64 x0), (6, v8), (8, .int .i64 (i137 : Int)), (9, .bool p), (20, .int .i64 x0), (21, .int .i64 (i137 : Int)), (24, .int .i64 x0), (25, .int .i64 (i205 : Int))]) (fun (p : Bool) => [imm (TR.sl (TR.sl TR.int)) v8 y6.1]) (fun (p : Bool) => K242 (.nx p)) ?_ ?_
     ·skip
      refine GL.regionQ rfl rfl (by kernel_rfl) ?_
      refine RL.mv rfl rfl rfl ?_
      refine RL.mv rfl rfl rfl ?_
      refine RL.split (t := 29) rfl (fun b248 => ?_) (fun b248 => ?_)
      ·replace h243 := ite_t b248 h243
       refine RL.mv rfl rfl rfl ?_
       refine RL.mv rfl rfl rfl ?_
       refine RL.binI (v := .bool ((i137 : Int) == (i205 : Int))) rfl rfl rfl rfl rfl ?_
       refine RL.mv rfl rfl rfl ?_
       refine RL.split (t := 33) rfl (fun b249 => ?_) (fun b249 => ?_)
       ·replace h243 := ite_t b249 h243
        refine RL.skip rfl rfl ?_
        refine RL.skip rfl rfl ?_
        refine RL.skip rfl rfl ?_
        refine RL.skip rfl rfl ?_
        refine RL.skip rfl rfl ?_
        refine RL.skip rfl rfl ?_
        refine RL.skip rfl rfl ?_
        refine RL.skip rfl rfl ?_
        refine RL.skip rfl rfl ?_
        refine RL.skip rfl rfl ?_
        refine RL.skip rfl rfl ?_
        refine RL.skip rfl rfl ?_
        refine RL.skip rfl rfl ?_
        refine RL.skip rfl rfl ?_
        refine RL.skip rfl rfl ?_
        refine RL.pickT rfl rfl rfl rfl ?_
        refine RL.pickT rfl rfl rfl rfl ?_
        refine RL.asg rfl rfl rfl ?_
        refine RL.finQ ?_
        cases h243
        exact fun a w st => mid_intro true h244 (St.cut [0] ⟨rfl, rfl, rfl, rfl, rfl, rfl, rfl, rfl, trivial⟩ (by decide) rfl st)
       replace h243 := ite_f b249 h243
       refine RL.mv rfl rfl rfl ?_
       refine RL.mv rfl rfl rfl ?_
       obtain ⟨y250, e251, h243⟩ := bind_some h243
       refine RL.idxS (sz := 1) 0 Try.underlying37 Try_ln27 rfl rfl rfl rfl rfl SlOf.imm (idx_some e251).1 (idx_some e251).2.1 ?_
       refine RL.ldS (i := i137) (r := (TR.sl TR.int)) (e' := y250) 0 Try_ln27 rfl rfl rfl rfl SlOf.imm (idx_some e251).2.2 Part.self ?_
       intro v252
       refine RL.mv rfl rfl rfl ?_
       obtain ⟨y253, e254, h243⟩ := bind_some h243
       refine RL.idxS (sz := 1) 1 Try.underlying27 Try_ln3 rfl rfl rfl rfl rfl SlOf.imm (idx_some e254).1 (idx_some e254).2.1 ?_
       refine RL.ldSx (i := i205) (e' := y253) 1 Ex.ik Try_ln3 rfl rfl rfl rfl SlOf.imm (idx_some e254).2.2 Part.self ?_
       refine RL.mv rfl rfl rfl ?_
       refine RL.mv rfl rfl rfl ?_
       obtain ⟨y255, e256, h243⟩ := bind_some h243
       refine RL.idxS (sz := 1) 0 Try.underlying37 Try_ln27 rfl rfl rfl rfl rfl SlOf.imm (idx_some e256).1 (idx_some e256).2.1 ?_
       refine RL.ldS (i := i205) (r := (TR.sl TR.int)) (e' := y255) 0 Try_ln27 rfl rfl rfl rfl SlOf.imm (idx_some e256).2.2 Part.self ?_
       intro v257
       refine RL.reL (L' := [imm (TR.sl (TR.sl TR.int)) v8 y6.1, imm (TR.sl TR.int) v252 y250, imm (TR.sl TR.int) v257 y255]) rfl ?_
       refine RL.mv rfl rfl rfl ?_
       obtain ⟨y258, e259, h243⟩ := bind_some h243
       refine RL.idxS (sz := 1) 2 Try.underlying27 Try_ln3 rfl rfl rfl rfl rfl SlOf.imm (idx_some e259).1 (idx_some e259).2.1 ?_
       refine RL.ldSx (i := i137) (e' := y258) 2 Ex.ik Try_ln3 rfl rfl rfl rfl SlOf.imm (idx_some e259).2.2 Part.self ?_
       refine RL.binI (v := .bool (decide (y253 > y258))) rfl rfl rfl rfl rfl ?_
       refine RL.pickF rfl rfl rfl rfl ?_
       refine RL.pickT rfl rfl rfl rfl ?_
       refine RL.asg rfl rfl rfl ?_
       refine RL.finQ ?_
       cases h243
       exact fun a w st => mid_intro (decide (y253 > y258)) h244 (St.cut [0] ⟨rfl, rfl, rfl, rfl, rfl, rfl, rfl, rfl, trivial⟩ (by decide) rfl st)
      replace h243 := ite_f b248 h243
      refine RL.skip rfl rfl ?_
      refine RL.skip rfl rfl ?_
      refine RL.skip rfl rfl ?_
      refine RL.skip rfl rfl ?_
      refine RL.skip rfl rfl ?_
      refine RL.skip rfl rfl ?_
      refine RL.skip rfl rfl ?_
      refine RL.skip rfl rfl ?_
      refine RL.skip rfl rfl ?_
      refine RL.skip rfl rfl ?_
      refine RL.skip rfl rfl ?_
      refine RL.skip rfl rfl ?_
      refine RL.skip rfl rfl ?_
      refine RL.skip rfl rfl ?_
      refine RL.skip rfl rfl ?_
      refine RL.skip rfl rfl ?_
      refine RL.skip rfl rfl ?_
      refine RL.skip rfl rfl ?_
      refine RL.skip rfl rfl ?_
      refine RL.skip rfl rfl ?_
      refine RL.pickF rfl rfl rfl rfl ?_
      refine RL.asg rfl rfl rfl ?_
      refine RL.finQ ?_
      cases h243
      exact fun a w st => mid_intro false h244 (St.cut [0] ⟨rfl, rfl, rfl, rfl, rfl, rfl, rfl, rfl, trivial⟩ (by decide) rfl st)
     rintro x240 h260
     have h261 := h245 _ h260
     try dsimp only at h261
     refine GL.weak (env' := [(0, .int .i64 x0), (6, v8), (8, .int .i64 (i137 : Int)), (9, .bool x240), (20, .int .i64 x0), (21, .int .i64 (i137 : Int)), (24, .int .i64 x0), (25, .int .i64 (i205 : Int))]) (L' := [imm (TR.sl (TR.sl TR.int)) v8 y6.1]) (fun _ _ st => st) ?_
     refine GL.nilB ?_
     refine GL.region ?_
     refine RL.binI (v := .int .i64 ((i205 + 1 : Nat) : Int)) rfl rfl rfl rfl (binI_succ i205 (by omega)) ?_
     refine RL.mv rfl rfl rfl ?_
     refine RL.fin ?_
     cases h261
     exact fun a w st => lop_intro (i205 + 1, r215, x240) ⟨by show i205 + 1 + r215 = (x0).toNat; omega, h209⟩ (by simp) (St.cut [0] ⟨rfl, rfl, rfl, rfl, rfl, rfl, rfl, rfl, trivial⟩ (by decide) rfl st)
    have h214 : ¬ i205 < (x0).toNat := by have := of_decide_eq_false b213; omega
    obtain rfl : r206 = 0 := by omega
    replace h210 : some (Fl.nx _) = some y198 := h210
    cases h210
    exact GL.exit (fun a w st => mid_intro x148 h201 (St.cut [0] ⟨rfl, rfl, rfl, rfl, rfl, rfl, trivial⟩ (by decide) rfl st))
   rintro x148 h262
   have h263 := h202 _ h262
   try dsimp only at h263
   refine GL.weak (env' := [(0, .int .i64 x0), (6, v8), (8, .int .i64 (i137 : Int)), (9, .bool x148), (20, .int .i64 x0), (21, .int .i64 (i137 : Int))]) (L' := [imm (TR.sl (TR.sl TR.int)) v8 y6.1]) (fun _ _ st => st) ?_
   refine GL.seq ?_
   refine GL.region ?_
   refine RL.mv rfl rfl rfl ?_
   refine RL.finG ?_
   refine GL.cond rfl (fun b264 => ?_) (fun b264 => ?_)
   ·replace h263 := ite_t b264 h263
    refine GL.seq ?_
    refine GL.region ?_
    refine RL.mv rfl rfl rfl ?_
    refine RL.asg rfl rfl rfl ?_
    refine RL.asg rfl rfl rfl ?_
    refine RL.finG ?_
    cases h263
    replace h141 : some (Fl.rt _) = some y130 := h141
    cases h141
    have hh := h135 _ h133
    subst hh
    exact GL.ret (Gx.ret (v := .tuple #[.int .i64 (i137 : Int), .int .i64 (0 : Int)]) (res2 rfl rfl rfl) (fun a w st => st.toPostV))
   replace h263 := ite_f b264 h263
   refine GL.skip ?_
   refine GL.nilB ?_
   refine GL.region ?_
   refine RL.binI (v := .int .i64 ((i137 + 1 : Nat) : Int)) rfl rfl rfl rfl (binI_succ i137 (by omega)) ?_
   refine RL.mv rfl rfl rfl ?_
   refine RL.fin ?_
   cases h263
   exact fun a w st => lop_intro (i137 + 1, r147) ⟨by show i137 + 1 + r147 = (x0).toNat; omega, h141⟩ (by simp) (St.cut [0] ⟨rfl, rfl, rfl, rfl, trivial⟩ (by decide) rfl st)
  have h146 : ¬ i137 < (x0).toNat := by have := of_decide_eq_false b145; omega
  obtain rfl : r138 = 0 := by omega
  replace h142 : some (Fl.nx _) = some y130 := h142
  cases h142
  exact GL.exit (fun a w st => mid_intro () h133 (St.cut [] trivial (by decide) rfl st))
 rintro ⟨⟩ h265
 have h266 := h134 _ h265
 try dsimp only at h266
 refine GL.weak (env' := []) (L' := []) (fun _ _ st => st) ?_
 refine GL.seq ?_
 refine GL.region ?_
 refine RL.asg rfl rfl rfl ?_
 refine RL.asg rfl rfl rfl ?_
 refine RL.finG ?_
 have h266 := Option.some.inj h266
 subst h266
 exact GL.ret (Gx.ret (v := .tuple #[.int .i64 (0 : Int), .int .i64 (4 : Int)]) (res2 rfl rfl rfl) (fun a w st => st.toPostV))

set_option maxHeartbeats 4000000 in
theorem tally_Points_c (S : Hp) (w : World) (hS : S.sub w) (x0 : Int) (v1 : Value) (x1 : (List (List Int))) (k1 : ((TR.sl (TR.sl TR.int))).vrep S v1 x1) (res : (List Int) × Int) (hm : tally_Points_m x0 x1 = some res) : Calls Try.prog 40 #[.int .i64 x0, v1] w (Post w S (fun (o : Value) => .tuple #[o, .int .i64 res.2]) (fun (o : Value) => [own 3 TR.int o res.1])) := by
 refine calls_enter 46 Try.func40 Try.ntmps40 rfl S false [(0, .int .i64 x0), (1, v1)] [imm (TR.sl (TR.sl TR.int)) v1 x1] rfl ⟨rfl, ⟨rfl, trivial⟩⟩ hS ⟨k1, trivial⟩ ?_
 unfold tally_Points_m at hm
 refine GL.seq ?_
 refine GL.region ?_
 refine RL.asg rfl rfl rfl ?_
 refine RL.asg rfl rfl rfl ?_
 refine RL.finG ?_
 refine GL.seq ?_
 refine GL.seq ?_
 refine GL.region ?_
 refine RL.mv rfl rfl rfl ?_
 refine RL.mv rfl rfl rfl ?_
 obtain ⟨y5, e6, hm⟩ := bind_some hm
 refine RL.callV (v := .int .i64 y5) (vs := [.int .i64 x0, v1]) Try_fit38 rfl (Or.inl rfl) rfl rfl rfl rfl (fun U w hU hW hL => tally_Check_c U w hU x0 _ _ (hL 0 _ _ rfl Seen.imm) _ e6) ?_
 refine RL.asg rfl rfl rfl ?_
 refine RL.finG ?_
 refine GL.seq ?_
 refine GL.region ?_
 refine RL.mv rfl rfl rfl ?_
 refine RL.binI (v := .bool (y5 != (0 : Int))) rfl rfl rfl rfl rfl ?_
 refine RL.finG ?_
 refine GL.cond rfl (fun b7 => ?_) (fun b7 => ?_)
 ·replace hm := ite_t b7 hm
  refine GL.seq ?_
  refine GL.region ?_
  refine RL.mv rfl rfl rfl ?_
  refine RL.asg rfl rfl rfl ?_
  refine RL.asg rfl rfl rfl ?_
  refine RL.finG ?_
  refine GL.weak (fun a w st => st.nilOwn 3 TR.int) ?_
  have hm := Option.some.inj hm
  subst hm
  exact GL.ret (Gx.ret (v := .tuple #[Value.slice none 0 0, .int .i64 y5]) (res2 rfl rfl rfl) (fun a w st => (st.pick [1] (by decide) rfl).toPost (Value.slice none 0 0)))
 replace hm := ite_f b7 hm
 refine GL.skip ?_
 refine GL.seq ?_
 refine GL.region ?_
 refine RL.mv rfl rfl rfl ?_
 obtain ⟨y11, e12, hm⟩ := bind_some hm
 replace e12 := chk_some e12
 refine RL.mkS (t := TR.int) (z := (0 : Int)) Try.underlying27 Try_lo3 (fun S => rfl) rfl rfl rfl rfl e12.1 e12.2 ?_
 intro v13
 refine RL.asg rfl rfl rfl ?_
 refine RL.finG ?_
 refine GL.seq ?_
 refine GL.seq ?_
 refine GL.region ?_
 refine RL.mv rfl rfl rfl ?_
 refine RL.lenS 0 Try.underlying37 rfl rfl rfl rfl SlOf.imm ?_
 refine RL.mv rfl rfl rfl ?_
 refine RL.finG ?_
 refine GL.open_ 0 rfl (fun S h => len_imm S h) (fun n141 => ?_)
 obtain ⟨y142, K143, h144, h145, h146, h147, h148⟩ := bindR_K hm
 refine GL.join (ι := (List Int)) (fun (p : (List Int)) => [(7, v13)]) (fun (p : (List Int)) => [own 3 TR.int v13 p]) (fun (p : (List Int)) => K143 (.nx p)) ?_ ?_
 ·refine GL.block ?_
  refine GL.loop (ι := Nat × (List (List Int)) × (List Int)) (fun (p : Nat × (List (List Int)) × (List Int)) => [(0, .int .i64 x0), (7, v13), (20, v1), (21, .int .i64 ((x1).length : Int)), (22, .int .i64 (p.1 : Int))]) (fun (p : Nat × (List (List Int)) × (List Int)) => [own 3 TR.int v13 p.2.2, imm (TR.sl (TR.sl TR.int)) v1 x1]) (fun (p : Nat × (List (List Int)) × (List Int)) => p.1 + p.2.1.length = (x1).length ∧ List.drop p.1 x1 = p.2.1 ∧ rangeL (tally_Points_b1 x0) p.2.1 p.1 p.2.2 = some y142) (fun (p : Nat × (List (List Int)) × (List Int)) => p.2.1.length) (0, x1, (List.replicate (x0).toNat (0 : Int))) ⟨by simp, by simp, h144⟩ (fun a w st => St.cut [1, 0] ⟨rfl, rfl, rfl, rfl, rfl, trivial⟩ (by decide) rfl st) ?_
  rintro ⟨i149, r150, l77⟩ ⟨h155, h156, h154⟩
  try dsimp only at h155 h156 h154
  refine GL.weak (env' := [(0, .int .i64 x0), (7, v13), (20, v1), (21, .int .i64 ((x1).length : Int)), (22, .int .i64 (i149 : Int))]) (L' := [own 3 TR.int v13 l77, imm (TR.sl (TR.sl TR.int)) v1 x1]) (fun _ _ st => st) ?_
  refine GL.seq ?_
  refine GL.region ?_
  refine RL.binI (v := .bool (decide ((i149 : Int) < ((x1).length : Int)))) rfl rfl rfl rfl rfl ?_
  refine RL.finG ?_
  refine GL.seq ?_
  refine GL.cond rfl (fun b157 => ?_) (fun b157 => ?_)
  ·have h158 : i149 < (x1).length := by have := of_decide_eq_true b157; omega
   obtain ⟨y159, r161, hr, e160, h162⟩ := drop_cons h156 rfl h158
   subst hr
   obtain ⟨z151, h152, h153⟩ := rangeL_some h154
   unfold tally_Points_b1 at h152
   try dsimp only at h152
   refine GL.skip ?_
   refine GL.seq ?_
   refine GL.block ?_
   refine GL.seq ?_
   refine GL.region ?_
   refine RL.idxS (sz := 1) 1 Try.underlying37 Try_ln27 rfl rfl rfl rfl rfl SlOf.imm (by omega) (by omega) ?_
   refine RL.ldS (i := i149) (r := (TR.sl TR.int)) (e' := y159) 1 Try_ln27 rfl rfl rfl rfl SlOf.imm e160 Part.self ?_
   intro v164
   refine RL.asg rfl rfl rfl ?_
   refine RL.finG ?_
   refine GL.seq ?_
   refine GL.region ?_
   refine RL.mv rfl rfl rfl ?_
   refine RL.lenS 2 Try.underlying27 rfl rfl rfl rfl SlOf.imm ?_
   refine RL.mv rfl rfl rfl ?_
   refine RL.finG ?_
   refine GL.open_ 2 rfl (fun S h => len_imm S h) (fun n190 => ?_)
   obtain ⟨y191, K192, h193, h194, h195, h196, h197⟩ := bindF_K h152
   refine GL.join (ι := (List Int)) (fun (p : (List Int)) => [(0, .int .i64 x0), (7, v13), (20, v1), (21, .int .i64 ((x1).length : Int)), (22, .int .i64 (i149 : Int))]) (fun (p : (List Int)) => [own 3 TR.int v13 p, imm (TR.sl (TR.sl TR.int)) v1 x1]) (fun (p : (List Int)) => K192 (.nx p)) ?_ ?_
   ·refine GL.block ?_
    refine GL.loop (ι := Nat × (List Int) × (List Int)) (fun (p : Nat × (List Int) × (List Int)) => [(0, .int .i64 x0), (7, v13), (20, v1), (21, .int .i64 ((x1).length : Int)), (22, .int .i64 (i149 : Int)), (26, v164), (27, .int .i64 ((y159).length : Int)), (28, .int .i64 (p.1 : Int))]) (fun (p : Nat × (List Int) × (List Int)) => [own 3 TR.int v13 p.2.2, imm (TR.sl (TR.sl TR.int)) v1 x1, imm (TR.sl TR.int) v164 y159]) (fun (p : Nat × (List Int) × (List Int)) => p.1 + p.2.1.length = (y159).length ∧ List.drop p.1 y159 = p.2.1 ∧ rangeL (tally_Points_b2 x0) p.2.1 p.1 p.2.2 = some y191) (fun (p : Nat × (List Int) × (List Int)) => p.2.1.length) (0, y159, l77) ⟨by simp, by simp, h193⟩ (fun a w st => St.cut [0, 1, 2] ⟨rfl, rfl, rfl, rfl, rfl, rfl, rfl, rfl, trivial⟩ (by decide) rfl st) ?_
    rintro ⟨i198, r199, l177⟩ ⟨h204, h205, h203⟩
    try dsimp only at h204 h205 h203
    refine GL.weak (env' := [(0, .int .i64 x0), (7, v13), (20, v1), (21, .int .i64 ((x1).length : Int)), (22, .int .i64 (i149 : Int)), (26, v164), (27, .int .i64 ((y159).length : Int)), (28, .int .i64 (i198 : Int))]) (L' := [own 3 TR.int v13 l177, imm (TR.sl (TR.sl TR.int)) v1 x1, imm (TR.sl TR.int) v164 y159]) (fun _ _ st => st) ?_
    refine GL.seq ?_
    refine GL.region ?_
    refine RL.binI (v := .bool (decide ((i198 : Int) < ((y159).length : Int)))) rfl rfl rfl rfl rfl ?_
    refine RL.finG ?_
    refine GL.seq ?_
    refine GL.cond rfl (fun b206 => ?_) (fun b206 => ?_)
    ·have h207 : i198 < (y159).length := by have := of_decide_eq_true b206; omega
     obtain ⟨y208, r210, hr, e209, h211⟩ := drop_cons h205 rfl h207
     subst hr
     obtain ⟨z200, h201, h202⟩ := rangeL_some h203
     unfold tally_Points_b2 at h201
     try dsimp only at h201
     refine GL.skip ?_
     refine GL.seq ?_
     refine GL.block ?_
     refine GL.seq ?_
     refine GL.region ?_
     refine RL.mv rfl rfl rfl ?_
     refine RL.idxS (sz := 1) 2 Try.underlying27 Try_ln3 rfl rfl rfl rfl rfl SlOf.imm (by omega) (by omega) ?_
     refine RL.ldSx (i := i198) (e' := y208) 2 Ex.ik Try_ln3 rfl rfl rfl rfl SlOf.imm e209 Part.self ?_
     refine RL.asg rfl rfl rfl ?_
     refine RL.asg rfl rfl rfl ?_
     refine RL.finG ?_
     refine GL.region ?_
     refine RL.mv rfl rfl rfl ?_
     refine RL.mv rfl rfl rfl ?_
     obtain ⟨y216, e217, h201⟩ := bind_some h201
     refine RL.idxS (sz := 1) 0 Try.underlying27 Try_ln3 rfl rfl rfl rfl rfl SlOf.own (idx_some e217).1 (idx_some e217).2.1 ?_
     refine RL.ldSx (i := (y208).toNat) (e' := y216) 0 Ex.ik Try_ln3 rfl rfl rfl rfl SlOf.own (idx_some e217).2.2 Part.self ?_
     refine RL.mv rfl rfl rfl ?_
     refine RL.binI (v := .int .i64 (wsub x0 (1 : Int))) rfl rfl rfl rfl rfl ?_
     refine RL.mv rfl rfl rfl ?_
     refine RL.binI (v := .int .i64 (wsub (wsub x0 (1 : Int)) (i198 : Int))) rfl rfl rfl rfl rfl ?_
     refine RL.binI (v := .int .i64 (wadd y216 (wsub (wsub x0 (1 : Int)) (i198 : Int)))) rfl rfl rfl rfl rfl ?_
     obtain ⟨y218, e219, h201⟩ := bind_some h201
     refine RL.idxS (sz := 1) 0 Try.underlying27 Try_ln3 rfl rfl rfl rfl rfl SlOf.own (idx_some e219).1 (idx_some e219).2.1 ?_
     refine RL.stS (i := (y208).toNat) (e' := wadd y216 (wsub (wsub x0 (1 : Int)) (i198 : Int))) (e1 := wadd y216 (wsub (wsub x0 (1 : Int)) (i198 : Int))) (r := TR.int) 0 Try_ln3 rfl rfl rfl rfl VR.int rfl (idx_some e219).2.2 Upd.self ?_
     refine RL.finG ?_
     refine GL.nilB ?_
     refine GL.region ?_
     refine RL.binI (v := .int .i64 ((i198 + 1 : Nat) : Int)) rfl rfl rfl rfl (binI_succ i198 (by omega)) ?_
     refine RL.mv rfl rfl rfl ?_
     refine RL.fin ?_
     cases h201
     exact fun a w st => lop_intro (i198 + 1, r210, (List.set l177 ((y208).toNat) (wadd y216 (wsub (wsub x0 (1 : Int)) (i198 : Int))))) ⟨by show i198 + 1 + r210.length = (y159).length; simp only [List.length_cons] at h204; omega, h211, h202⟩ (by simp) (St.cut [0, 1, 2] ⟨rfl, rfl, rfl, rfl, rfl, rfl, rfl, rfl, trivial⟩ (by decide) rfl st)
    have h207 : ¬ i198 < (y159).length := by have := of_decide_eq_false b206; omega
    obtain rfl : r199 = [] := by rw [← h205]; exact List.drop_of_length_le (by omega)
    replace h203 : some (Fl.nx _) = some y191 := h203
    cases h203
    exact GL.exit (fun a w st => mid_intro l177 h194 (St.cut [0, 1] ⟨rfl, rfl, rfl, rfl, rfl, trivial⟩ (by decide) rfl st))
   rintro l177 h220
   have h221 := h195 _ h220
   try dsimp only at h221
   refine GL.weak (env' := [(0, .int .i64 x0), (7, v13), (20, v1), (21, .int .i64 ((x1).length : Int)), (22, .int .i64 (i149 : Int))]) (L' := [own 3 TR.int v13 l177, imm (TR.sl (TR.sl TR.int)) v1 x1]) (fun _ _ st => st) ?_
   refine GL.nilB ?_
   refine GL.region ?_
   refine RL.binI (v := .int .i64 ((i149 + 1 : Nat) : Int)) rfl rfl rfl rfl (binI_succ i149 (by omega)) ?_
   refine RL.mv rfl rfl rfl ?_
   refine RL.fin ?_
   cases h221
   exact fun a w st => lop_intro (i149 + 1, r161, l177) ⟨by show i149 + 1 + r161.length = (x1).length; simp only [List.length_cons] at h155; omega, h162, h153⟩ (by simp) (St.cut [0, 1] ⟨rfl, rfl, rfl, rfl, rfl, trivial⟩ (by decide) rfl st)
  have h158 : ¬ i149 < (x1).length := by have := of_decide_eq_false b157; omega
  obtain rfl : r150 = [] := by rw [← h156]; exact List.drop_of_length_le (by omega)
  replace h154 : some (Fl.nx _) = some y142 := h154
  cases h154
  exact GL.exit (fun a w st => mid_intro l77 h145 (St.cut [0] ⟨rfl, trivial⟩ (by decide) rfl st))
 rintro l77 h222
 have h223 := h146 _ h222
 try dsimp only at h223
 refine GL.weak (env' := [(7, v13)]) (L' := [own 3 TR.int v13 l77]) (fun _ _ st => st) ?_
 refine GL.seq ?_
 refine GL.region ?_
 refine RL.mv rfl rfl rfl ?_
 refine RL.asg rfl rfl rfl ?_
 refine RL.asg rfl rfl rfl ?_
 refine RL.finG ?_
 have h223 := Option.some.inj h223
 subst h223
 exact GL.ret (Gx.ret (v := .tuple #[v13, .int .i64 (0 : Int)]) (res2 rfl rfl rfl) (fun a w st => (st.pick [0] (by decide) rfl).toPost v13))

set_option maxHeartbeats 4000000 in
theorem slices_Equal_int_int_c (S : Hp) (w : World) (hS : S.sub w) (v0 : Value) (x0 : (List Int)) (k0 : ((TR.sl TR.int)).vrep S v0 x0) (v1 : Value) (x1 : (List Int)) (k1 : ((TR.sl TR.int)).vrep S v1 x1) (res : Bool) (hm : slices_Equal_int_int_m x0 x1 = some res) : Calls Try.prog 17 #[v0, v1] w (PostV w (.bool res)) := by
 refine calls_enter 26 Try.func17 Try.ntmps17 rfl S false [(0, v0), (1, v1)] [imm (TR.sl TR.int) v0 x0, imm (TR.sl TR.int) v1 x1] rfl ⟨rfl, ⟨rfl, trivial⟩⟩ hS ⟨k0, ⟨k1, trivial⟩⟩ ?_
 unfold slices_Equal_int_int_m at hm
 refine GL.seq ?_
 refine GL.region ?_
 refine RL.asg rfl rfl rfl ?_
 refine RL.finG ?_
 refine GL.seq ?_
 refine GL.seq ?_
 refine GL.region ?_
 refine RL.mv rfl rfl rfl ?_
 refine RL.lenS 0 Try.underlying27 rfl rfl rfl rfl SlOf.imm ?_
 refine RL.mv rfl rfl rfl ?_
 refine RL.lenS 1 Try.underlying27 rfl rfl rfl rfl SlOf.imm ?_
 refine RL.binI (v := .bool (((x0).length : Int) != ((x1).length : Int))) rfl rfl rfl rfl rfl ?_
 refine RL.finG ?_
 refine GL.cond rfl (fun b3 => ?_) (fun b3 => ?_)
 ·replace hm := ite_t b3 hm
  refine GL.seq ?_
  refine GL.region ?_
  refine RL.asg rfl rfl rfl ?_
  refine RL.finG ?_
  have hm := Option.some.inj hm
  subst hm
  exact GL.ret (Gx.ret (v := .bool false) (res1 rfl rfl) (fun a w st => st.toPostV))
 replace hm := ite_f b3 hm
 refine GL.skip ?_
 refine GL.seq ?_
 refine GL.seq ?_
 refine GL.region ?_
 refine RL.mv rfl rfl rfl ?_
 refine RL.lenS 0 Try.underlying27 rfl rfl rfl rfl SlOf.imm ?_
 refine RL.mv rfl rfl rfl ?_
 refine RL.finG ?_
 refine GL.open_ 0 rfl (fun S h => len_imm S h) (fun n13 => ?_)
 obtain ⟨y14, K15, h16, h17, h18, h19, h20⟩ := bindR_K hm
 refine GL.join (ι := Unit) (fun (p : Unit) => []) (fun (p : Unit) => []) (fun (p : Unit) => K15 (.nx ())) ?_ ?_
 ·refine GL.block ?_
  refine GL.loop (ι := Nat × (List Int)) (fun (p : Nat × (List Int)) => [(0, v0), (1, v1), (12, .int .i64 ((x0).length : Int)), (13, .int .i64 (p.1 : Int))]) (fun (p : Nat × (List Int)) => [imm (TR.sl TR.int) v0 x0, imm (TR.sl TR.int) v1 x1]) (fun (p : Nat × (List Int)) => p.1 + p.2.length = (x0).length ∧ List.drop p.1 x0 = p.2 ∧ rangeL (slices_Equal_int_int_b1 x1) p.2 p.1 () = some y14) (fun (p : Nat × (List Int)) => p.2.length) (0, x0) ⟨by simp, by simp, h16⟩ (fun a w st => St.cut [0, 1] ⟨rfl, rfl, rfl, rfl, trivial⟩ (by decide) rfl st) ?_
  rintro ⟨i21, r22⟩ ⟨h27, h28, h26⟩
  try dsimp only at h27 h28 h26
  refine GL.weak (env' := [(0, v0), (1, v1), (12, .int .i64 ((x0).length : Int)), (13, .int .i64 (i21 : Int))]) (L' := [imm (TR.sl TR.int) v0 x0, imm (TR.sl TR.int) v1 x1]) (fun _ _ st => st) ?_
  refine GL.seq ?_
  refine GL.region ?_
  refine RL.binI (v := .bool (decide ((i21 : Int) < ((x0).length : Int)))) rfl rfl rfl rfl rfl ?_
  refine RL.finG ?_
  refine GL.seq ?_
  refine GL.cond rfl (fun b29 => ?_) (fun b29 => ?_)
  ·have h30 : i21 < (x0).length := by have := of_decide_eq_true b29; omega
   obtain ⟨y31, r33, hr, e32, h34⟩ := drop_cons h28 rfl h30
   subst hr
   obtain ⟨z23, h24, h25⟩ := rangeL_some h26
   unfold slices_Equal_int_int_b1 at h24
   try dsimp only at h24
   refine GL.skip ?_
   refine GL.seq ?_
   refine GL.block ?_
   refine GL.seq ?_
   refine GL.region ?_
   refine RL.mv rfl rfl rfl ?_
   refine RL.asg rfl rfl rfl ?_
   refine RL.finG ?_
   refine GL.seq ?_
   refine GL.regionQ rfl rfl (by kernel_rfl) ?_
   refine RL.mv rfl rfl rfl ?_
   refine RL.mv rfl rfl rfl ?_
   refine RL.idxS (sz := 1) 0 Try.underlying27 Try_ln3 rfl rfl rfl rfl rfl SlOf.imm (by omega) (by omega) ?_
   refine RL.ldSx (i := i21) (e' := y31) 0 Ex.ik Try_ln3 rfl rfl rfl rfl SlOf.imm e32 Part.self ?_
   refine RL.mv rfl rfl rfl ?_
   refine RL.mv rfl rfl rfl ?_
   obtain ⟨y37, e38, h24⟩ := bind_some h24
   refine RL.idxS (sz := 1) 1 Try.underlying27 Try_ln3 rfl rfl rfl rfl rfl SlOf.imm (idx_some e38).1 (idx_some e38).2.1 ?_
   refine RL.ldSx (i := i21) (e' := y37) 1 Ex.ik Try_ln3 rfl rfl rfl rfl SlOf.imm (idx_some e38).2.2 Part.self ?_
   refine RL.binI (v := .bool (y31 != y37)) rfl rfl rfl rfl rfl ?_
   refine RL.finQG ?_
   refine GL.cond rfl (fun b39 => ?_) (fun b39 => ?_)
   ·replace h24 := ite_t b39 h24
    refine GL.seq ?_
    refine GL.region ?_
    refine RL.asg rfl rfl rfl ?_
    refine RL.finG ?_
    cases h24
    replace h25 : some (Fl.rt _) = some y14 := h25
    cases h25
    have hh := h19 _ h17
    subst hh
    exact GL.ret (Gx.ret (v := .bool false) (res1 rfl rfl) (fun a w st => st.toPostV))
   replace h24 := ite_f b39 h24
   refine GL.skip ?_
   refine GL.nilB ?_
   refine GL.region ?_
   refine RL.binI (v := .int .i64 ((i21 + 1 : Nat) : Int)) rfl rfl rfl rfl (binI_succ i21 (by omega)) ?_
   refine RL.mv rfl rfl rfl ?_
   refine RL.fin ?_
   cases h24
   exact fun a w st => lop_intro (i21 + 1, r33) ⟨by show i21 + 1 + r33.length = (x0).length; simp only [List.length_cons] at h27; omega, h34, h25⟩ (by simp) (St.cut [0, 1] ⟨rfl, rfl, rfl, rfl, trivial⟩ (by decide) rfl st)
  have h30 : ¬ i21 < (x0).length := by have := of_decide_eq_false b29; omega
  obtain rfl : r22 = [] := by rw [← h28]; exact List.drop_of_length_le (by omega)
  replace h26 : some (Fl.nx _) = some y14 := h26
  cases h26
  exact GL.exit (fun a w st => mid_intro () h17 (St.cut [] trivial (by decide) rfl st))
 rintro ⟨⟩ h40
 have h41 := h18 _ h40
 try dsimp only at h41
 refine GL.weak (env' := []) (L' := []) (fun _ _ st => st) ?_
 refine GL.seq ?_
 refine GL.region ?_
 refine RL.asg rfl rfl rfl ?_
 refine RL.finG ?_
 have h41 := Option.some.inj h41
 subst h41
 exact GL.ret (Gx.ret (v := .bool true) (res1 rfl rfl) (fun a w st => st.toPostV))

set_option maxHeartbeats 4000000 in
theorem pk_tallies_c (S : Hp) (w : World) (hS : S.sub w)  (res : Bool) (hm : pk_tallies_m = some res) : Calls Try.prog 25 #[] w (PostV w (.bool res)) := by
 refine calls_enter 33 Try.func25 Try.ntmps25 rfl S false [] [] rfl trivial hS trivial ?_
 unfold pk_tallies_m at hm
 refine GL.seq ?_
 refine GL.region ?_
 refine RL.asg rfl rfl rfl ?_
 refine RL.finG ?_
 refine GL.seq ?_
 refine GL.region ?_
 refine RL.bS (t := TR.int) (vs := [.int .i64 (0 : Int), .int .i64 (1 : Int), .int .i64 (2 : Int)]) ([(0 : Int), (1 : Int), (2 : Int)] : (List Int)) Try.underlying27 Try_lo3 rfl rfl rfl rfl ⟨VR.int, ⟨VR.int, ⟨VR.int, trivial⟩⟩⟩ rfl (by decide) ?_
 intro v5
 refine RL.bS (t := TR.int) (vs := [.int .i64 (1 : Int), .int .i64 (2 : Int), .int .i64 (0 : Int)]) ([(1 : Int), (2 : Int), (0 : Int)] : (List Int)) Try.underlying27 Try_lo3 rfl rfl rfl rfl ⟨VR.int, ⟨VR.int, ⟨VR.int, trivial⟩⟩⟩ rfl (by decide) ?_
 intro v6
 refine RL.reL (L' := [own 3 TR.int v5 ([(0 : Int), (1 : Int), (2 : Int)] : (List Int)), own 3 TR.int v6 ([(1 : Int), (2 : Int), (0 : Int)] : (List Int))]) rfl ?_
 refine RL.bS (t := TR.int) (vs := [.int .i64 (1 : Int), .int .i64 (0 : Int), .int .i64 (2 : Int)]) ([(1 : Int), (0 : Int), (2 : Int)] : (List Int)) Try.underlying27 Try_lo3 rfl rfl rfl rfl ⟨VR.int, ⟨VR.int, ⟨VR.int, trivial⟩⟩⟩ rfl (by decide) ?_
 intro v7
 refine RL.weak (fun a w st => st.freeze 0 rfl) ?_
 refine RL.weak (fun a w st => st.freeze 1 rfl) ?_
 refine RL.weak (fun a w st => st.freeze 2 rfl) ?_
 refine RL.bS (t := (TR.sl TR.int)) (vs := [v5, v6, v7]) ([([(0 : Int), (1 : Int), (2 : Int)] : (List Int)), ([(1 : Int), (2 : Int), (0 : Int)] : (List Int)), ([(1 : Int), (0 : Int), (2 : Int)] : (List Int))] : (List (List Int))) Try.underlying37 Try_lo27 rfl rfl rfl rfl ⟨(VR.item 0 rfl), ⟨(VR.item 1 rfl), ⟨(VR.item 2 rfl), trivial⟩⟩⟩ rfl (by decide) ?_
 intro v8
 refine RL.reL (L' := [imm (TR.sl TR.int) v5 ([(0 : Int), (1 : Int), (2 : Int)] : (List Int)), imm (TR.sl TR.int) v6 ([(1 : Int), (2 : Int), (0 : Int)] : (List Int)), imm (TR.sl TR.int) v7 ([(1 : Int), (0 : Int), (2 : Int)] : (List Int)), own 27 (TR.sl TR.int) v8 ([([(0 : Int), (1 : Int), (2 : Int)] : (List Int)), ([(1 : Int), (2 : Int), (0 : Int)] : (List Int)), ([(1 : Int), (0 : Int), (2 : Int)] : (List Int))] : (List (List Int)))]) rfl ?_
 refine RL.asg rfl rfl rfl ?_
 refine RL.finG ?_
 refine GL.seq ?_
 refine GL.region ?_
 refine RL.mv rfl rfl rfl ?_
 obtain ⟨y11, e12, hm⟩ := bind_some hm
 refine RL.callV (v := .tuple #[.int .i64 y11.1, .int .i64 y11.2]) (vs := [.int .i64 (3 : Int), v8]) Try_fit31 rfl (Or.inl rfl) rfl rfl rfl rfl (fun U w hU hW hL => tally_Beater_c U w hU (3 : Int) _ _ (hL 3 _ _ rfl Seen.own) _ e12) ?_
 refine RL.mv rfl rfl rfl ?_
 refine RL.ext rfl rfl rfl rfl ?_
 refine RL.ext rfl rfl rfl rfl ?_
 refine RL.asg rfl rfl rfl ?_
 refine RL.asg rfl rfl rfl ?_
 refine RL.finG ?_
 refine GL.seq ?_
 refine GL.region ?_
 refine RL.mv rfl rfl rfl ?_
 obtain ⟨y16, e17, hm⟩ := bind_some hm
 refine RL.callU (vs := [.int .i64 (3 : Int), v8]) (LR := fun (o : Value) => [own 3 TR.int o y16.1]) (fun o => ⟨Loc.own TR.flatT_ik, trivial⟩) Try_fit40 rfl rfl rfl rfl rfl (fun U w hU hW hL => tally_Points_c U w hU (3 : Int) _ _ (hL 3 _ _ rfl Seen.own) _ e17) ?_
 intro v18
 refine RL.mv rfl rfl rfl ?_
 refine RL.ext rfl rfl rfl rfl ?_
 refine RL.ext rfl rfl rfl rfl ?_
 refine RL.asg rfl rfl rfl ?_
 refine RL.asg rfl rfl rfl ?_
 refine RL.finG ?_
 refine GL.seq ?_
 obtain ⟨y36, K37, h38, h39, h40, h41, h42⟩ := bindR_K hm
 refine GL.join (ι := Bool) (fun (p : Bool) => [(0, .bool p)]) (fun (p : Bool) => []) (fun (p : Bool) => K37 (.nx p)) ?_ ?_
 ·skip
  refine GL.region ?_
  refine RL.mv rfl rfl rfl ?_
  refine RL.mv rfl rfl rfl ?_
  refine RL.bS (t := TR.int) (vs := [.int .i64 y11.2, .int .i64 y16.2]) ([y11.2, y16.2] : (List Int)) Try.underlying64 Try_lo28 rfl rfl rfl rfl ⟨VR.int, ⟨VR.int, trivial⟩⟩ rfl (by decide) ?_
  intro v43
  obtain ⟨y44, e45, h38⟩ := bind_some h38
  refine RL.callV (v := .bool y44) (vs := [v43]) Try_fit13 rfl (Or.inl rfl) rfl rfl rfl rfl (fun U w hU hW hL => pk_good_c U w hU _ _ (hL 5 _ _ rfl Seen.own) _ e45) ?_
  refine RL.mv rfl rfl rfl ?_
  refine RL.split (t := 24) rfl (fun b46 => ?_) (fun b46 => ?_)
  ·replace h38 := ite_t b46 h38
   refine RL.mv rfl rfl rfl ?_
   refine RL.binI (v := .bool (y11.1 == (1 : Int))) rfl rfl rfl rfl rfl ?_
   refine RL.pickT rfl rfl rfl rfl ?_
   refine RL.mv rfl rfl rfl ?_
   refine RL.split (t := 28) rfl (fun b47 => ?_) (fun b47 => ?_)
   ·replace h38 := ite_t b47 h38
    refine RL.mv rfl rfl rfl ?_
    refine RL.bS (t := TR.int) (vs := [.int .i64 (3 : Int), .int .i64 (5 : Int), .int .i64 (1 : Int)]) ([(3 : Int), (5 : Int), (1 : Int)] : (List Int)) Try.underlying27 Try_lo3 rfl rfl rfl rfl ⟨VR.int, ⟨VR.int, ⟨VR.int, trivial⟩⟩⟩ rfl (by decide) ?_
    intro v48
    refine RL.reL (L' := [imm (TR.sl TR.int) v5 ([(0 : Int), (1 : Int), (2 : Int)] : (List Int)), imm (TR.sl TR.int) v6 ([(1 : Int), (2 : Int), (0 : Int)] : (List Int)), imm (TR.sl TR.int) v7 ([(1 : Int), (0 : Int), (2 : Int)] : (List Int)), own 27 (TR.sl TR.int) v8 ([([(0 : Int), (1 : Int), (2 : Int)] : (List Int)), ([(1 : Int), (2 : Int), (0 : Int)] : (List Int)), ([(1 : Int), (0 : Int), (2 : Int)] : (List Int))] : (List (List Int))), own 3 TR.int v18 y16.1, own 28 TR.int v43 ([y11.2, y16.2] : (List Int)), own 3 TR.int v48 ([(3 : Int), (5 : Int), (1 : Int)] : (List Int))]) rfl ?_
    obtain ⟨y49, e50, h38⟩ := bind_some h38
    refine RL.callV (v := .bool y49) (vs := [v18, v48]) Try_fit17 rfl (Or.inl rfl) rfl rfl rfl rfl (fun U w hU hW hL => slices_Equal_int_int_c U w hU _ _ (hL 4 _ _ rfl Seen.own) _ _ (hL 6 _ _ rfl Seen.own) _ e50) ?_
    refine RL.pickT rfl rfl rfl rfl ?_
    refine RL.asg rfl rfl rfl ?_
    refine RL.fin ?_
    cases h38
    exact fun a w st => mid_intro y49 h39 (St.cut [] ⟨rfl, trivial⟩ (by decide) rfl st)
   replace h38 := ite_f b47 h38
   refine RL.skip rfl rfl ?_
   refine RL.skip rfl rfl ?_
   refine RL.skip rfl rfl ?_
   refine RL.pickF rfl rfl rfl rfl ?_
   refine RL.asg rfl rfl rfl ?_
   refine RL.fin ?_
   cases h38
   exact fun a w st => mid_intro false h39 (St.cut [] ⟨rfl, trivial⟩ (by decide) rfl st)
  replace h38 := ite_f b46 h38
  refine RL.skip rfl rfl ?_
  refine RL.skip rfl rfl ?_
  refine RL.pickF rfl rfl rfl rfl ?_
  refine RL.mv rfl rfl rfl ?_
  refine RL.skip rfl rfl ?_
  refine RL.skip rfl rfl ?_
  refine RL.skip rfl rfl ?_
  refine RL.pickF rfl rfl rfl rfl ?_
  refine RL.asg rfl rfl rfl ?_
  refine RL.fin ?_
  cases h38
  exact fun a w st => mid_intro false h39 (St.cut [] ⟨rfl, trivial⟩ (by decide) rfl st)
 rintro x35 h51
 have h52 := h40 _ h51
 try dsimp only at h52
 refine GL.weak (env' := [(0, .bool x35)]) (L' := []) (fun _ _ st => st) ?_
 have h52 := Option.some.inj h52
 subst h52
 exact GL.ret (Gx.ret (v := .bool x35) (res1 rfl rfl) (fun a w st => st.toPostV))

set_option maxHeartbeats 4000000 in
theorem ref_Rest_c (S : Hp) (w : World) (hS : S.sub w) (x0 : Int) (x1 : Int) (res : Int) (hm : ref_Rest_m x0 x1 = some res) : Calls Try.prog 32 #[.int .i64 x0, .int .i64 x1] w (PostC w (.int .i64 res)) := by
 refine calls_enter 14 Try.func32 Try.ntmps32 rfl S true [(0, .int .i64 x0), (1, .int .i64 x1)] [] rfl ⟨rfl, ⟨rfl, trivial⟩⟩ hS trivial ?_
 unfold ref_Rest_m at hm
 refine GL.seq ?_
 refine GL.region ?_
 refine RL.asg rfl rfl rfl ?_
 refine RL.finG ?_
 refine GL.seq ?_
 refine GL.region ?_
 refine RL.mv rfl rfl rfl ?_
 refine RL.mv rfl rfl rfl ?_
 obtain ⟨y5, e6, hm⟩ := bind_some hm
 replace e6 := chk_some e6
 refine RL.rem rfl rfl rfl rfl e6 ?_
 refine RL.asg rfl rfl rfl ?_
 refine RL.finG ?_
 refine GL.seq ?_
 refine GL.seq ?_
 refine GL.region ?_
 refine RL.mv rfl rfl rfl ?_
 refine RL.binI (v := .bool (decide ((Int.tmod x0 x1) < (0 : Int)))) rfl rfl rfl rfl rfl ?_
 refine RL.finG ?_
 obtain ⟨y9, K10, h11, h12, h13, h14, h15⟩ := bindR_K hm
 refine GL.join (ι := Int) (fun (p : Int) => [(0, .int .i64 p)]) (fun (p : Int) => []) (fun (p : Int) => K10 (.nx p)) ?_ ?_
 ·skip
  refine GL.cond rfl (fun b16 => ?_) (fun b16 => ?_)
  ·replace h11 := ite_t b16 h11
   refine GL.region ?_
   refine RL.mv rfl rfl rfl ?_
   refine RL.mv rfl rfl rfl ?_
   refine RL.binI (v := .int .i64 (wadd (Int.tmod x0 x1) x1)) rfl rfl rfl rfl rfl ?_
   refine RL.asg rfl rfl rfl ?_
   refine RL.finG ?_
   cases h11
   exact fun a w st => mid_intro (wadd (Int.tmod x0 x1) x1) h12 (St.cut [] ⟨rfl, trivial⟩ (by decide) rfl st)
  replace h11 := ite_f b16 h11
  refine GL.skip ?_
  cases h11
  exact fun a w st => mid_intro (Int.tmod x0 x1) h12 (St.cut [] ⟨rfl, trivial⟩ (by decide) rfl st)
 rintro x8 h17
 have h18 := h13 _ h17
 try dsimp only at h18
 refine GL.weak (env' := [(0, .int .i64 x8)]) (L' := []) (fun _ _ st => st) ?_
 refine GL.seq ?_
 refine GL.region ?_
 refine RL.mv rfl rfl rfl ?_
 refine RL.asg rfl rfl rfl ?_
 refine RL.finG ?_
 have h18 := Option.some.inj h18
 subst h18
 exact GL.ret (Gx.ret (v := .int .i64 x8) (res1 rfl rfl) (fun a w st => st.toPostC rfl))

set_option maxHeartbeats 4000000 in
theorem pk_Within_c (S : Hp) (w : World) (hS : S.sub w) (x0 : Int) (x1 : Int) (res : Int) (hm : pk_Within_m x0 x1 = some res) : Calls Try.prog 10 #[.int .i64 x0, .int .i64 x1] w (PostC w (.int .i64 res)) := by
 refine calls_enter 8 Try.func10 Try.ntmps10 rfl S true [(0, .int .i64 x0), (1, .int .i64 x1)] [] rfl ⟨rfl, ⟨rfl, trivial⟩⟩ hS trivial ?_
 unfold pk_Within_m at hm
 refine GL.seq ?_
 refine GL.region ?_
 refine RL.asg rfl rfl rfl ?_
 refine RL.finG ?_
 refine GL.seq ?_
 refine GL.region ?_
 refine RL.mv rfl rfl rfl ?_
 refine RL.mv rfl rfl rfl ?_
 obtain ⟨y5, e6, hm⟩ := bind_some hm
 refine RL.callC (v := .int .i64 y5) (vs := [.int .i64 x0, .int .i64 x1]) Try_fit32 rfl rfl rfl rfl (fun U w hU hW hL => ref_Rest_c U w hU x0 x1 _ e6) ?_
 refine RL.asg rfl rfl rfl ?_
 refine RL.finG ?_
 have hm := Option.some.inj hm
 subst hm
 exact GL.ret (Gx.ret (v := .int .i64 y5) (res1 rfl rfl) (fun a w st => st.toPostC rfl))

set_option maxHeartbeats 4000000 in
theorem ref_Sides_c (S : Hp) (w : World) (hS : S.sub w) (x0 : Int) (res : (List Int)) (hm : ref_Sides_m x0 = some res) : Calls Try.prog 41 #[.int .i64 x0] w (Post w S (fun (o : Value) => o) (fun (o : Value) => [own 3 TR.int o res])) := by
 refine calls_enter 15 Try.func41 Try.ntmps41 rfl S false [(0, .int .i64 x0)] [] rfl ⟨rfl, trivial⟩ hS trivial ?_
 unfold ref_Sides_m at hm
 refine GL.seq ?_
 refine GL.region ?_
 refine RL.asg rfl rfl rfl ?_
 refine RL.finG ?_
 refine GL.seq ?_
 refine GL.region ?_
 refine RL.asg rfl rfl rfl ?_
 refine RL.finG ?_
 refine GL.seq ?_
 refine GL.seq ?_
 refine GL.region ?_
 refine RL.mv rfl rfl rfl ?_
 refine RL.mv rfl rfl rfl ?_
 refine RL.finG ?_
 refine GL.weak (fun a w st => st.nilOwn 3 TR.int) ?_
 obtain ⟨y13, e14, hm⟩ := bind_some hm
 replace e14 := chk_some e14
 obtain ⟨y15, K16, h17, h18, h19, h20, h21⟩ := bindR_K hm
 refine GL.join (ι := (List Int) × Value) (fun (p : (List Int) × Value) => [(3, p.2)]) (fun (p : (List Int) × Value) => [own 3 TR.int p.2 p.1]) (fun (p : (List Int) × Value) => K16 (.nx p.1)) ?_ ?_
 ·refine GL.block ?_
  refine GL.loop (ι := Nat × Nat × (List Int) × Value) (fun (p : Nat × Nat × (List Int) × Value) => [(3, p.2.2.2), (5, .int .i64 x0), (6, .int .i64 (p.1 : Int))]) (fun (p : Nat × Nat × (List Int) × Value) => [own 3 TR.int p.2.2.2 p.2.2.1]) (fun (p : Nat × Nat × (List Int) × Value) => p.1 + p.2.1 = (x0).toNat ∧ rangeN ref_Sides_b1 p.2.1 p.1 p.2.2.1 = some y15) (fun (p : Nat × Nat × (List Int) × Value) => p.2.1) (0, (x0).toNat, [], Value.slice none 0 0) ⟨by simp, h17⟩ (fun a w st => St.cut [0] ⟨rfl, rfl, rfl, trivial⟩ (by decide) rfl st) ?_
  rintro ⟨i22, r23, l2, v3⟩ ⟨h28, h27⟩
  try dsimp only at h28 h27
  refine GL.weak (env' := [(3, v3), (5, .int .i64 x0), (6, .int .i64 (i22 : Int))]) (L' := [own 3 TR.int v3 l2]) (fun _ _ st => st) ?_
  refine GL.seq ?_
  refine GL.region ?_
  refine RL.binI (v := .bool (decide ((i22 : Int) < x0))) rfl rfl rfl rfl rfl ?_
  refine RL.finG ?_
  refine GL.seq ?_
  refine GL.cond rfl (fun b30 => ?_) (fun b30 => ?_)
  ·have h31 : i22 < (x0).toNat := by have := of_decide_eq_true b30; omega
   obtain ⟨r32, hr⟩ : ∃ m, r23 = m + 1 := ⟨r23 - 1, by omega⟩
   subst hr
   obtain ⟨z24, h25, h26⟩ := rangeN_some h27
   unfold ref_Sides_b1 at h25
   try dsimp only at h25
   refine GL.skip ?_
   refine GL.seq ?_
   refine GL.block ?_
   refine GL.seq ?_
   refine GL.region ?_
   refine RL.mv rfl rfl rfl ?_
   refine RL.asg rfl rfl rfl ?_
   refine RL.finG ?_
   refine GL.region ?_
   refine RL.mv rfl rfl rfl ?_
   refine RL.mv rfl rfl rfl ?_
   refine RL.bS (t := TR.int) (vs := [.int .i64 (i22 : Int)]) ([(i22 : Int)] : (List Int)) Try.underlying27 Try_lo3 rfl rfl rfl rfl ⟨VR.int, trivial⟩ rfl (by decide) ?_
   intro v37
   obtain ⟨y38, e39, h25⟩ := bind_some h25
   replace e39 := chk_some e39
   refine RL.app 0 1 Try.underlying27 Try_lo3 rfl rfl rfl rfl rfl rfl rfl SlOf.own e39 ?_
   intro v40
   refine RL.reL (L' := [own 3 TR.int v40 (l2 ++ ([(i22 : Int)] : (List Int))), own 3 TR.int v37 ([(i22 : Int)] : (List Int))]) rfl ?_
   refine RL.asg rfl rfl rfl ?_
   refine RL.finG ?_
   refine GL.nilB ?_
   refine GL.region ?_
   refine RL.binI (v := .int .i64 ((i22 + 1 : Nat) : Int)) rfl rfl rfl rfl (binI_succ i22 (by omega)) ?_
   refine RL.mv rfl rfl rfl ?_
   refine RL.fin ?_
   cases h25
   exact fun a w st => lop_intro (i22 + 1, r32, (l2 ++ ([(i22 : Int)] : (List Int))), v40) ⟨by show i22 + 1 + r32 = (x0).toNat; omega, h26⟩ (by simp) (St.cut [0] ⟨rfl, rfl, rfl, trivial⟩ (by decide) rfl st)
  have h31 : ¬ i22 < (x0).toNat := by have := of_decide_eq_false b30; omega
  obtain rfl : r23 = 0 := by omega
  replace h27 : some (Fl.nx _) = some y15 := h27
  cases h27
  exact GL.exit (fun a w st => mid_intro (l2, v3) h18 (St.cut [0] ⟨rfl, trivial⟩ (by decide) rfl st))
 rintro ⟨l2, v3⟩ h41
 have h42 := h19 _ h41
 try dsimp only at h42
 refine GL.weak (env' := [(3, v3)]) (L' := [own 3 TR.int v3 l2]) (fun _ _ st => st) ?_
 refine GL.seq ?_
 refine GL.region ?_
 refine RL.mv rfl rfl rfl ?_
 refine RL.asg rfl rfl rfl ?_
 refine RL.finG ?_
 have h42 := Option.some.inj h42
 subst h42
 exact GL.ret (Gx.ret (v := v3) (res1 rfl rfl) (fun a w st => (st.pick [0] (by decide) rfl).toPost v3))

set_option maxHeartbeats 4000000 in
theorem slices_Delete_int_int_c (B : World) (S X : Hp) (f : Nat → Hp) (w : World) (v0 : Value) (x0 : List Int) (hO : HeapOk B.heap.size S f [own 3 TR.int v0 x0, keep X].length w) (hB : Below B.heap.size B w) (hI : Its [own 3 TR.int v0 x0, keep X] S f) (x1 x2 : Int) (res : List Int) (hm : slices_Delete_int_int_m x0 x1 x2 = some res) : Calls Try.prog 42 #[v0, .int .i64 x1, .int .i64 x2] w (PostM B S (fun (o : Value) => o) (fun (o : Value) => [own 3 TR.int o res, keep X])) := by
  refine calls_enterM 33 Try.func42 Try.ntmps42 rfl B S f [(0, v0), (1, .int .i64 x1), (2, .int .i64 x2)] [own 3 TR.int v0 x0, keep X] [] rfl ⟨rfl, rfl, rfl, trivial⟩ hB hO hI trivial ?_
  unfold slices_Delete_int_int_m at hm
  obtain ⟨_, hc, hm⟩ := bind_some hm
  replace hc := chk_some hc
  have hm := Option.some.inj hm
  subst hm
  obtain ⟨i, rfl⟩ : ∃ i : Nat, x1 = (i : Int) := ⟨x1.toNat, by omega⟩
  obtain ⟨j, rfl⟩ : ∃ j : Nat, x2 = (j : Int) := ⟨x2.toNat, by omega⟩
  simp only [Int.toNat_natCast]
  refine GL.capO 0 rfl (fun hcap hmax hrl hcr => ?_)
  repeat refine GL.seq ?_
  refine GL.region ?_
  refine RL.asg rfl rfl rfl ?_
  refine RL.finG ?_
  repeat refine GL.seq ?_
  refine GL.region ?_
  refine RL.mv rfl rfl rfl ?_
  refine RL.mv rfl rfl rfl ?_
  refine RL.mv rfl rfl rfl ?_
  refine RL.mv rfl rfl rfl ?_
  refine RL.lenS 0 Try.underlying27 rfl rfl rfl rfl SlOf.own ?_
  refine RL.cut3 (i := i) (j := j) (m := x0.length) 0 Try.underlying27 Try_ln3 rfl rfl rfl rfl rfl rfl rfl (by omega) (by omega) (by omega) ?_
  intro u
  refine RL.finG ?_
  repeat refine GL.seq ?_
  refine GL.region ?_
  refine RL.mv rfl rfl rfl ?_
  refine RL.mv rfl rfl rfl ?_
  refine RL.binI (v := .bool ((i : Int) == (j : Int))) rfl rfl rfl rfl rfl ?_
  refine RL.finG ?_
  repeat refine GL.seq ?_
  refine GL.cond rfl (fun h => ?_) (fun h => ?_)
  · have hij : i = j := by have := of_decide_eq_true (p := (i : Int) = (j : Int)) (by simpa using h); omega
    subst hij
    repeat refine GL.seq ?_
    refine GL.region ?_
    refine RL.mv rfl rfl rfl ?_
    refine RL.asg rfl rfl rfl ?_
    refine RL.finG ?_
    have hx : x0.take i ++ x0.drop i = x0 := List.take_append_drop _ _
    rw [hx]
    exact GL.ret (Gx.ret (v := v0) (res1 rfl rfl) (fun a w st => (st.pick [0, 1] (by decide) rfl).toPostM (LR := fun (o : Value) => [own 3 TR.int o x0, keep X]) v0))
  · have hij : i ≠ j := fun e => by subst e; simp at h
    have hll : (x0.take i ++ x0.drop j).length = i + (x0.length - j) := by rw [List.length_append, List.length_take, List.length_drop]; omega
    refine GL.skip ?_
    repeat refine GL.seq ?_
    refine GL.region ?_
    refine RL.mv rfl rfl rfl ?_
    refine RL.lenS 0 Try.underlying27 rfl rfl rfl rfl SlOf.own ?_
    refine RL.asg rfl rfl rfl ?_
    refine RL.finG ?_
    repeat refine GL.seq ?_
    refine GL.regionH 6 rfl rfl (by kernel_rfl) ?_
    simp only [List.take_succ_cons, List.take_zero, List.drop_succ_cons, List.drop_zero]
    refine RL.mv rfl rfl rfl ?_
    refine RL.mv rfl rfl rfl ?_
    refine RL.cutO (i := 0) (j := i) 0 Try.underlying27 Try_ln3 rfl rfl rfl (Or.inl ⟨rfl, rfl⟩) (Or.inr ⟨_, _, rfl, rfl⟩) rfl (by omega) (by show i ≤ capv v0; omega) ?_
    refine RL.mv rfl rfl rfl ?_
    refine RL.mv rfl rfl rfl ?_
    refine RL.cutO (i := j) (j := x0.length) 0 Try.underlying27 Try_ln3 rfl rfl rfl (Or.inr ⟨_, _, rfl, rfl⟩) (Or.inl ⟨rfl, rfl⟩) rfl (by omega) hcap ?_
    refine RL.finH ?_
    refine RL.del (i := i) (j := j) 0 Try.underlying27 Try_lo3 rfl rfl rfl rfl rfl rfl (by omega) (by omega) ?_
    refine RL.asg rfl rfl rfl ?_
    refine RL.finG ?_
    repeat refine GL.seq ?_
    refine GL.region ?_
    refine RL.mv rfl rfl rfl ?_
    refine RL.mv rfl rfl rfl ?_
    refine RL.lenS 0 Try.underlying27 rfl rfl rfl rfl SlOf.own ?_
    refine RL.mv rfl rfl rfl ?_
    refine RL.cutO (i := (x0.take i ++ x0.drop j).length) (j := x0.length) 0 Try.underlying27 Try_ln3 rfl rfl rfl (Or.inr ⟨_, _, rfl, rfl⟩) (Or.inr ⟨_, _, rfl, rfl⟩) rfl (by omega) (by rw [hcr]; exact hcap) ?_
    refine RL.clr (j := x0.length) 0 Try.underlying27 Try_lo3 (by decide) rfl rfl rfl rfl (by omega) (by rw [hcr]; exact hcap) ?_
    refine RL.finG ?_
    repeat refine GL.seq ?_
    refine GL.region ?_
    refine RL.mv rfl rfl rfl ?_
    refine RL.asg rfl rfl rfl ?_
    refine RL.finG ?_
    exact GL.ret (Gx.ret (v := relen v0 (i + (x0.length - j))) (res1 rfl rfl) (fun a w st => (st.pick [0, 1] (by decide) rfl).toPostM (LR := fun (o : Value) => [own 3 TR.int o (x0.take i ++ x0.drop j), keep X]) (relen v0 (i + (x0.length - j)))))

set_option maxHeartbeats 4000000 in
theorem pk_OrderOf_c (S : Hp) (w : World) (hS : S.sub w) (x0 : Int) (v1 : Value) (x1 : (List Int)) (k1 : ((TR.sl TR.int)).vrep S v1 x1) (res : (List Int)) (hm : pk_OrderOf_m x0 x1 = some res) : Calls Try.prog 26 #[.int .i64 x0, v1] w (Post w S (fun (o : Value) => o) (fun (o : Value) => [own 3 TR.int o res])) := by
 refine calls_enter 40 Try.func26 Try.ntmps26 rfl S false [(0, .int .i64 x0), (1, v1)] [imm (TR.sl TR.int) v1 x1] rfl ⟨rfl, ⟨rfl, trivial⟩⟩ hS ⟨k1, trivial⟩ ?_
 unfold pk_OrderOf_m at hm
 refine GL.seq ?_
 refine GL.region ?_
 refine RL.asg rfl rfl rfl ?_
 refine RL.finG ?_
 refine GL.seq ?_
 refine GL.region ?_
 refine RL.mv rfl rfl rfl ?_
 obtain ⟨y6, e7, hm⟩ := bind_some hm
 refine RL.call (vs := [.int .i64 x0]) Try_fit41 rfl rfl rfl rfl rfl (fun S f w hS hW hi => ref_Sides_c S w hS x0 _ e7) ?_
 intro v8
 refine RL.asg rfl rfl rfl ?_
 refine RL.finG ?_
 refine GL.seq ?_
 refine GL.region ?_
 refine RL.asg rfl rfl rfl ?_
 refine RL.finG ?_
 refine GL.seq ?_
 refine GL.seq ?_
 refine GL.region ?_
 refine RL.mv rfl rfl rfl ?_
 refine RL.mv rfl rfl rfl ?_
 refine RL.finG ?_
 refine GL.weak (fun a w st => st.nilOwn 3 TR.int) ?_
 obtain ⟨y60, e61, hm⟩ := bind_some hm
 replace e61 := chk_some e61
 obtain ⟨y62, K63, h64, h65, h66, h67, h68⟩ := bindR_K hm
 refine GL.join (ι := (List Int) × (List Int) × Value) (fun (p : (List Int) × (List Int) × Value) => [(6, p.2.2)]) (fun (p : (List Int) × (List Int) × Value) => [own 3 TR.int p.2.2 p.2.1]) (fun (p : (List Int) × (List Int) × Value) => K63 (.nx (p.1, p.2.1))) ?_ ?_
 ·refine GL.block ?_
  refine GL.loop (ι := Nat × Nat × (List Int) × (List Int) × Value × Value) (fun (p : Nat × Nat × (List Int) × (List Int) × Value × Value) => [(1, v1), (5, p.2.2.2.2.1), (6, p.2.2.2.2.2), (11, .int .i64 x0), (12, .int .i64 (p.1 : Int))]) (fun (p : Nat × Nat × (List Int) × (List Int) × Value × Value) => [imm (TR.sl TR.int) v1 x1, own 3 TR.int p.2.2.2.2.1 p.2.2.1, own 3 TR.int p.2.2.2.2.2 p.2.2.2.1]) (fun (p : Nat × Nat × (List Int) × (List Int) × Value × Value) => p.1 + p.2.1 = (x0).toNat ∧ rangeN (pk_OrderOf_b1 x1) p.2.1 p.1 (p.2.2.1, p.2.2.2.1) = some y62) (fun (p : Nat × Nat × (List Int) × (List Int) × Value × Value) => p.2.1) (0, (x0).toNat, y6, [], v8, Value.slice none 0 0) ⟨by simp, h64⟩ (fun a w st => St.cut [0, 1, 2] ⟨rfl, rfl, rfl, rfl, rfl, trivial⟩ (by decide) rfl st) ?_
  rintro ⟨i69, r70, l9, l11, v10, v12⟩ ⟨h75, h74⟩
  try dsimp only at h75 h74
  refine GL.weak (env' := [(1, v1), (5, v10), (6, v12), (11, .int .i64 x0), (12, .int .i64 (i69 : Int))]) (L' := [imm (TR.sl TR.int) v1 x1, own 3 TR.int v10 l9, own 3 TR.int v12 l11]) (fun _ _ st => st) ?_
  refine GL.seq ?_
  refine GL.region ?_
  refine RL.binI (v := .bool (decide ((i69 : Int) < x0))) rfl rfl rfl rfl rfl ?_
  refine RL.finG ?_
  refine GL.seq ?_
  refine GL.cond rfl (fun b77 => ?_) (fun b77 => ?_)
  ·have h78 : i69 < (x0).toNat := by have := of_decide_eq_true b77; omega
   obtain ⟨r79, hr⟩ : ∃ m, r70 = m + 1 := ⟨r70 - 1, by omega⟩
   subst hr
   obtain ⟨z71, h72, h73⟩ := rangeN_some h74
   unfold pk_OrderOf_b1 at h72
   try dsimp only at h72
   refine GL.skip ?_
   refine GL.seq ?_
   refine GL.block ?_
   refine GL.seq ?_
   refine GL.region ?_
   refine RL.mv rfl rfl rfl ?_
   refine RL.asg rfl rfl rfl ?_
   refine RL.finG ?_
   refine GL.seq ?_
   refine GL.region ?_
   refine RL.asg rfl rfl rfl ?_
   refine RL.finG ?_
   refine GL.seq ?_
   refine GL.seq ?_
   refine GL.region ?_
   refine RL.mv rfl rfl rfl ?_
   refine RL.mv rfl rfl rfl ?_
   refine RL.lenS 0 Try.underlying27 rfl rfl rfl rfl SlOf.imm ?_
   refine RL.binI (v := .bool (decide ((i69 : Int) < ((x1).length : Int)))) rfl rfl rfl rfl rfl ?_
   refine RL.finG ?_
   obtain ⟨y90, K91, h92, h93, h94, h95, h96⟩ := bindF_K h72
   refine GL.join (ι := Int) (fun (p : Int) => [(1, v1), (5, v10), (6, v12), (8, .int .i64 p), (11, .int .i64 x0), (12, .int .i64 (i69 : Int))]) (fun (p : Int) => [imm (TR.sl TR.int) v1 x1, own 3 TR.int v10 l9, own 3 TR.int v12 l11]) (fun (p : Int) => K91 (.nx p)) ?_ ?_
   ·skip
    refine GL.cond rfl (fun b97 => ?_) (fun b97 => ?_)
    ·replace h92 := ite_t b97 h92
     refine GL.region ?_
     refine RL.mv rfl rfl rfl ?_
     refine RL.mv rfl rfl rfl ?_
     obtain ⟨y102, e103, h92⟩ := bind_some h92
     refine RL.idxS (sz := 1) 0 Try.underlying27 Try_ln3 rfl rfl rfl rfl rfl SlOf.imm (idx_some e103).1 (idx_some e103).2.1 ?_
     refine RL.ldSx (i := i69) (e' := y102) 0 Ex.ik Try_ln3 rfl rfl rfl rfl SlOf.imm (idx_some e103).2.2 Part.self ?_
     refine RL.mv rfl rfl rfl ?_
     refine RL.lenS 1 Try.underlying27 rfl rfl rfl rfl SlOf.own ?_
     obtain ⟨y104, e105, h92⟩ := bind_some h92
     refine RL.callC (v := .int .i64 y104) (vs := [.int .i64 y102, .int .i64 ((l9).length : Int)]) Try_fit10 rfl rfl rfl rfl (fun U w hU hW hL => pk_Within_c U w hU y102 ((l9).length : Int) _ e105) ?_
     refine RL.asg rfl rfl rfl ?_
     refine RL.finG ?_
     cases h92
     exact fun a w st => mid_intro y104 h93 (St.cut [0, 1, 2] ⟨rfl, rfl, rfl, rfl, rfl, rfl, trivial⟩ (by decide) rfl st)
    replace h92 := ite_f b97 h92
    refine GL.skip ?_
    cases h92
    exact fun a w st => mid_intro (0 : Int) h93 (St.cut [0, 1, 2] ⟨rfl, rfl, rfl, rfl, rfl, rfl, trivial⟩ (by decide) rfl st)
   rintro x89 h106
   have h107 := h94 _ h106
   try dsimp only at h107
   refine GL.weak (env' := [(1, v1), (5, v10), (6, v12), (8, .int .i64 x89), (11, .int .i64 x0), (12, .int .i64 (i69 : Int))]) (L' := [imm (TR.sl TR.int) v1 x1, own 3 TR.int v10 l9, own 3 TR.int v12 l11]) (fun _ _ st => st) ?_
   refine GL.seq ?_
   refine GL.region ?_
   refine RL.mv rfl rfl rfl ?_
   refine RL.mv rfl rfl rfl ?_
   refine RL.mv rfl rfl rfl ?_
   obtain ⟨y114, e115, h107⟩ := bind_some h107
   refine RL.idxS (sz := 1) 1 Try.underlying27 Try_ln3 rfl rfl rfl rfl rfl SlOf.own (idx_some e115).1 (idx_some e115).2.1 ?_
   refine RL.ldSx (i := (x89).toNat) (e' := y114) 1 Ex.ik Try_ln3 rfl rfl rfl rfl SlOf.own (idx_some e115).2.2 Part.self ?_
   refine RL.bS (t := TR.int) (vs := [.int .i64 y114]) ([y114] : (List Int)) Try.underlying27 Try_lo3 rfl rfl rfl rfl ⟨VR.int, trivial⟩ rfl (by decide) ?_
   intro v116
   obtain ⟨y117, e118, h107⟩ := bind_some h107
   replace e118 := chk_some e118
   refine RL.app 2 3 Try.underlying27 Try_lo3 rfl rfl rfl rfl rfl rfl rfl SlOf.own e118 ?_
   intro v119
   refine RL.reL (L' := [imm (TR.sl TR.int) v1 x1, own 3 TR.int v10 l9, own 3 TR.int v119 (l11 ++ ([y114] : (List Int))), own 3 TR.int v116 ([y114] : (List Int))]) rfl ?_
   refine RL.asg rfl rfl rfl ?_
   refine RL.finG ?_
   refine GL.region ?_
   refine RL.mv rfl rfl rfl ?_
   refine RL.mv rfl rfl rfl ?_
   refine RL.mv rfl rfl rfl ?_
   refine RL.binI (v := .int .i64 (wadd x89 (1 : Int))) rfl rfl rfl rfl rfl ?_
   obtain ⟨y123, e124, h107⟩ := bind_some h107
   refine RL.callK (vs := [v10, .int .i64 x89, .int .i64 (wadd x89 (1 : Int))]) (V := fun (o : Value) => o) (LR := fun (o : Value) => [own 3 TR.int o y123]) (Ls := [own 3 TR.int v10 l9]) [1] (by decide) Try_fit42 rfl rfl rfl rfl rfl rfl (fun S f X w hO hB hW hI hL => slices_Delete_int_int_c _ S X f w _ _ hO hB hI x89 (wadd x89 (1 : Int)) _ e124) ?_
   intro v125
   refine RL.reL (L' := [imm (TR.sl TR.int) v1 x1, gone, own 3 TR.int v119 (l11 ++ ([y114] : (List Int))), own 3 TR.int v116 ([y114] : (List Int)), own 3 TR.int v125 y123]) rfl ?_
   refine RL.asg rfl rfl rfl ?_
   refine RL.finG ?_
   refine GL.nilB ?_
   refine GL.region ?_
   refine RL.binI (v := .int .i64 ((i69 + 1 : Nat) : Int)) rfl rfl rfl rfl (binI_succ i69 (by omega)) ?_
   refine RL.mv rfl rfl rfl ?_
   refine RL.fin ?_
   cases h107
   exact fun a w st => lop_intro (i69 + 1, r79, y123, (l11 ++ ([y114] : (List Int))), v125, v119) ⟨by show i69 + 1 + r79 = (x0).toNat; omega, h73⟩ (by simp) (St.cut [0, 4, 2] ⟨rfl, rfl, rfl, rfl, rfl, trivial⟩ (by decide) rfl st)
  have h78 : ¬ i69 < (x0).toNat := by have := of_decide_eq_false b77; omega
  obtain rfl : r70 = 0 := by omega
  replace h74 : some (Fl.nx _) = some y62 := h74
  cases h74
  exact GL.exit (fun a w st => mid_intro (l9, l11, v12) h65 (St.cut [2] ⟨rfl, trivial⟩ (by decide) rfl st))
 rintro ⟨l9, l11, v12⟩ h126
 have h127 := h66 _ h126
 try dsimp only at h127
 refine GL.weak (env' := [(6, v12)]) (L' := [own 3 TR.int v12 l11]) (fun _ _ st => st) ?_
 refine GL.seq ?_
 refine GL.region ?_
 refine RL.mv rfl rfl rfl ?_
 refine RL.asg rfl rfl rfl ?_
 refine RL.finG ?_
 have h127 := Option.some.inj h127
 subst h127
 exact GL.ret (Gx.ret (v := v12) (res1 rfl rfl) (fun a w st => (st.pick [0] (by decide) rfl).toPost v12))

set_option maxHeartbeats 4000000 in
theorem pk_along_c (S : Hp) (w : World) (hS : S.sub w) (v0 : Value) (x0 : (List Int)) (k0 : ((TR.sl TR.int)).vrep S v0 x0) (v1 : Value) (x1 : (List Int)) (k1 : ((TR.sl TR.int)).vrep S v1 x1) (res : (List Int)) (hm : pk_along_m x0 x1 = some res) : Calls Try.prog 27 #[v0, v1] w (Post w S (fun (o : Value) => o) (fun (o : Value) => [own 3 TR.int o res])) := by
 refine calls_enter 77 Try.func27 Try.ntmps27 rfl S false [(0, v0), (1, v1)] [imm (TR.sl TR.int) v0 x0, imm (TR.sl TR.int) v1 x1] rfl ⟨rfl, ⟨rfl, trivial⟩⟩ hS ⟨k0, ⟨k1, trivial⟩⟩ ?_
 unfold pk_along_m at hm
 refine GL.seq ?_
 refine GL.region ?_
 refine RL.asg rfl rfl rfl ?_
 refine RL.finG ?_
 refine GL.seq ?_
 refine GL.region ?_
 refine RL.mv rfl rfl rfl ?_
 refine RL.lenS 0 Try.underlying27 rfl rfl rfl rfl SlOf.imm ?_
 refine RL.asg rfl rfl rfl ?_
 refine RL.finG ?_
 refine GL.seq ?_
 refine GL.seq ?_
 refine GL.region ?_
 refine RL.mv rfl rfl rfl ?_
 refine RL.binI (v := .bool (((x0).length : Int) == (0 : Int))) rfl rfl rfl rfl rfl ?_
 refine RL.finG ?_
 refine GL.cond rfl (fun b3 => ?_) (fun b3 => ?_)
 ·replace hm := ite_t b3 hm
  refine GL.seq ?_
  refine GL.region ?_
  refine RL.asg rfl rfl rfl ?_
  refine RL.finG ?_
  refine GL.weak (fun a w st => st.nilOwn 3 TR.int) ?_
  have hm := Option.some.inj hm
  subst hm
  exact GL.ret (Gx.ret (v := Value.slice none 0 0) (res1 rfl rfl) (fun a w st => (st.pick [2] (by decide) rfl).toPost (Value.slice none 0 0)))
 replace hm := ite_f b3 hm
 refine GL.skip ?_
 refine GL.seq ?_
 refine GL.region ?_
 refine RL.asg rfl rfl rfl ?_
 refine RL.finG ?_
 refine GL.seq ?_
 refine GL.seq ?_
 refine GL.region ?_
 refine RL.mv rfl rfl rfl ?_
 refine RL.lenS 1 Try.underlying27 rfl rfl rfl rfl SlOf.imm ?_
 refine RL.binI (v := .bool (decide (((x1).length : Int) > (0 : Int)))) rfl rfl rfl rfl rfl ?_
 refine RL.finG ?_
 obtain ⟨y14, K15, h16, h17, h18, h19, h20⟩ := bindR_K hm
 refine GL.join (ι := Int) (fun (p : Int) => [(0, v0), (1, v1), (5, .int .i64 ((x0).length : Int)), (6, .int .i64 p)]) (fun (p : Int) => [imm (TR.sl TR.int) v0 x0, imm (TR.sl TR.int) v1 x1]) (fun (p : Int) => K15 (.nx p)) ?_ ?_
 ·skip
  refine GL.cond rfl (fun b21 => ?_) (fun b21 => ?_)
  ·replace h16 := ite_t b21 h16
   refine GL.region ?_
   refine RL.mv rfl rfl rfl ?_
   obtain ⟨y26, e27, h16⟩ := bind_some h16
   refine RL.idxS (sz := 1) 1 Try.underlying27 Try_ln3 rfl rfl rfl rfl rfl SlOf.imm (idx_some e27).1 (idx_some e27).2.1 ?_
   refine RL.ldSx (i := ((0 : Int)).toNat) (e' := y26) 1 Ex.ik Try_ln3 rfl rfl rfl rfl SlOf.imm (idx_some e27).2.2 Part.self ?_
   refine RL.mv rfl rfl rfl ?_
   obtain ⟨y28, e29, h16⟩ := bind_some h16
   refine RL.callC (v := .int .i64 y28) (vs := [.int .i64 y26, .int .i64 ((x0).length : Int)]) Try_fit10 rfl rfl rfl rfl (fun U w hU hW hL => pk_Within_c U w hU y26 ((x0).length : Int) _ e29) ?_
   refine RL.asg rfl rfl rfl ?_
   refine RL.finG ?_
   cases h16
   exact fun a w st => mid_intro y28 h17 (St.cut [0, 1] ⟨rfl, rfl, rfl, rfl, trivial⟩ (by decide) rfl st)
  replace h16 := ite_f b21 h16
  refine GL.skip ?_
  cases h16
  exact fun a w st => mid_intro (0 : Int) h17 (St.cut [0, 1] ⟨rfl, rfl, rfl, rfl, trivial⟩ (by decide) rfl st)
 rintro x13 h30
 have h31 := h18 _ h30
 try dsimp only at h31
 refine GL.weak (env' := [(0, v0), (1, v1), (5, .int .i64 ((x0).length : Int)), (6, .int .i64 x13)]) (L' := [imm (TR.sl TR.int) v0 x0, imm (TR.sl TR.int) v1 x1]) (fun _ _ st => st) ?_
 refine GL.seq ?_
 refine GL.region ?_
 refine RL.mv rfl rfl rfl ?_
 refine RL.mv rfl rfl rfl ?_
 obtain ⟨y35, e36, h31⟩ := bind_some h31
 refine RL.idxS (sz := 1) 0 Try.underlying27 Try_ln3 rfl rfl rfl rfl rfl SlOf.imm (idx_some e36).1 (idx_some e36).2.1 ?_
 refine RL.ldSx (i := (x13).toNat) (e' := y35) 0 Ex.ik Try_ln3 rfl rfl rfl rfl SlOf.imm (idx_some e36).2.2 Part.self ?_
 refine RL.bS (t := TR.int) (vs := [.int .i64 y35]) ([y35] : (List Int)) Try.underlying27 Try_lo3 rfl rfl rfl rfl ⟨VR.int, trivial⟩ rfl (by decide) ?_
 intro v37
 refine RL.asg rfl rfl rfl ?_
 refine RL.finG ?_
 refine GL.seq ?_
 refine GL.region ?_
 refine RL.mv rfl rfl rfl ?_
 refine RL.binI (v := .int .i64 (wsub x13 (1 : Int))) rfl rfl rfl rfl rfl ?_
 refine RL.mv rfl rfl rfl ?_
 refine RL.binI (v := .int .i64 (wadd x13 (1 : Int))) rfl rfl rfl rfl rfl ?_
 refine RL.asg rfl rfl rfl ?_
 refine RL.asg rfl rfl rfl ?_
 refine RL.finG ?_
 refine GL.seq ?_
 refine GL.seq ?_
 refine GL.region ?_
 refine RL.asg rfl rfl rfl ?_
 refine RL.finG ?_
 obtain ⟨y100, K101, h102, h103, h104, h105, h106⟩ := bindR_K h31
 refine GL.join (ι := (List Int) × Int × Int × Int × Value) (fun (p : (List Int) × Int × Int × Int × Value) => [(7, p.2.2.2.2)]) (fun (p : (List Int) × Int × Int × Int × Value) => [own 3 TR.int p.2.2.2.2 p.1]) (fun (p : (List Int) × Int × Int × Int × Value) => K101 (.nx (p.1, p.2.1, p.2.2.1, p.2.2.2.1))) ?_ ?_
 ·refine GL.block ?_
  refine GL.loop (ι := Nat × (List Int) × Int × Int × Int × Value) (fun (p : Nat × (List Int) × Int × Int × Int × Value) => [(0, v0), (1, v1), (5, .int .i64 ((x0).length : Int)), (7, p.2.2.2.2.2), (8, .int .i64 p.2.2.1), (9, .int .i64 p.2.2.2.1), (10, .int .i64 p.2.2.2.2.1)]) (fun (p : Nat × (List Int) × Int × Int × Int × Value) => [imm (TR.sl TR.int) v0 x0, imm (TR.sl TR.int) v1 x1, own 3 TR.int p.2.2.2.2.2 p.2.1]) (fun (p : Nat × (List Int) × Int × Int × Int × Value) => loopM (pk_along_b1 x0 x1) p.1 (p.2.1, p.2.2.1, p.2.2.2.1, p.2.2.2.2.1) = some y100) (fun (p : Nat × (List Int) × Int × Int × Int × Value) => p.1) (1048576, ([y35] : (List Int)), wsub x13 (1 : Int), wadd x13 (1 : Int), (1 : Int), v37) h102 (fun a w st => St.cut [0, 1, 2] ⟨rfl, rfl, rfl, rfl, rfl, rfl, rfl, trivial⟩ (by decide) rfl st) ?_
  rintro ⟨r108, l38, x40, x41, x42, v39⟩ h112
  try dsimp only at h112
  refine GL.weak (env' := [(0, v0), (1, v1), (5, .int .i64 ((x0).length : Int)), (7, v39), (8, .int .i64 x40), (9, .int .i64 x41), (10, .int .i64 x42)]) (L' := [imm (TR.sl TR.int) v0 x0, imm (TR.sl TR.int) v1 x1, own 3 TR.int v39 l38]) (fun _ _ st => st) ?_
  obtain ⟨r115, z109, hr, h110, h111⟩ := loopM_some h112
  subst hr
  unfold pk_along_b1 at h110
  try dsimp only at h110
  refine GL.seq ?_
  refine GL.seq ?_
  refine GL.region ?_
  refine RL.mv rfl rfl rfl ?_
  refine RL.mv rfl rfl rfl ?_
  refine RL.binI (v := .bool (decide (x42 < ((x0).length : Int)))) rfl rfl rfl rfl rfl ?_
  refine RL.finG ?_
  refine GL.cond rfl (fun b116 => ?_) (fun b116 => ?_)
  ·replace h110 := ite_t b116 h110
   refine GL.skip ?_
   refine GL.seq ?_
   refine GL.block ?_
   refine GL.seq ?_
   obtain ⟨y132, K133, h134, h135, h136, h137, h138⟩ := bindF_K h110
   refine GL.join (ι := Bool) (fun (p : Bool) => [(0, v0), (1, v1), (5, .int .i64 ((x0).length : Int)), (7, v39), (8, .int .i64 x40), (9, .int .i64 x41), (10, .int .i64 x42), (57, .bool p)]) (fun (p : Bool) => [imm (TR.sl TR.int) v0 x0, imm (TR.sl TR.int) v1 x1, own 3 TR.int v39 l38]) (fun (p : Bool) => K133 (.nx p)) ?_ ?_
   ·skip
    refine GL.region ?_
    refine RL.mv rfl rfl rfl ?_
    refine RL.mv rfl rfl rfl ?_
    refine RL.binI (v := .bool (decide (x41 ≥ ((x0).length : Int)))) rfl rfl rfl rfl rfl ?_
    refine RL.mv rfl rfl rfl ?_
    refine RL.split (t := 40) rfl (fun b139 => ?_) (fun b139 => ?_)
    ·replace h134 := ite_t b139 h134
     refine RL.skip rfl rfl ?_
     refine RL.skip rfl rfl ?_
     refine RL.skip rfl rfl ?_
     refine RL.skip rfl rfl ?_
     refine RL.skip rfl rfl ?_
     refine RL.skip rfl rfl ?_
     refine RL.skip rfl rfl ?_
     refine RL.skip rfl rfl ?_
     refine RL.skip rfl rfl ?_
     refine RL.skip rfl rfl ?_
     refine RL.skip rfl rfl ?_
     refine RL.skip rfl rfl ?_
     refine RL.skip rfl rfl ?_
     refine RL.skip rfl rfl ?_
     refine RL.skip rfl rfl ?_
     refine RL.skip rfl rfl ?_
     refine RL.pickT rfl rfl rfl rfl ?_
     refine RL.fin ?_
     cases h134
     exact fun a w st => mid_intro true h135 (St.cut [0, 1, 2] ⟨rfl, rfl, rfl, rfl, rfl, rfl, rfl, rfl, trivial⟩ (by decide) rfl st)
    replace h134 := ite_f b139 h134
    refine RL.mv rfl rfl rfl ?_
    refine RL.binI (v := .bool (decide (x40 ≥ (0 : Int)))) rfl rfl rfl rfl rfl ?_
    refine RL.mv rfl rfl rfl ?_
    refine RL.split (t := 43) rfl (fun b140 => ?_) (fun b140 => ?_)
    ·replace h134 := ite_t b140 h134
     refine RL.mv rfl rfl rfl ?_
     refine RL.mv rfl rfl rfl ?_
     refine RL.lenS 1 Try.underlying27 rfl rfl rfl rfl SlOf.imm ?_
     refine RL.binI (v := .bool (decide (x42 < ((x1).length : Int)))) rfl rfl rfl rfl rfl ?_
     refine RL.pickT rfl rfl rfl rfl ?_
     refine RL.mv rfl rfl rfl ?_
     refine RL.split (t := 49) rfl (fun b141 => ?_) (fun b141 => ?_)
     ·replace h134 := ite_t b141 h134
      refine RL.mv rfl rfl rfl ?_
      refine RL.mv rfl rfl rfl ?_
      obtain ⟨y142, e143, h134⟩ := bind_some h134
      refine RL.idxS (sz := 1) 1 Try.underlying27 Try_ln3 rfl rfl rfl rfl rfl SlOf.imm (idx_some e143).1 (idx_some e143).2.1 ?_
      refine RL.ldSx (i := (x42).toNat) (e' := y142) 1 Ex.ik Try_ln3 rfl rfl rfl rfl SlOf.imm (idx_some e143).2.2 Part.self ?_
      obtain ⟨y144, e145, h134⟩ := bind_some h134
      replace e145 := chk_some e145
      refine RL.rem rfl rfl rfl rfl e145 ?_
      refine RL.binI (v := .bool ((Int.tmod y142 (2 : Int)) == (0 : Int))) rfl rfl rfl rfl rfl ?_
      refine RL.pickT rfl rfl rfl rfl ?_
      refine RL.pickF rfl rfl rfl rfl ?_
      refine RL.fin ?_
      cases h134
      exact fun a w st => mid_intro ((Int.tmod y142 (2 : Int)) == (0 : Int)) h135 (St.cut [0, 1, 2] ⟨rfl, rfl, rfl, rfl, rfl, rfl, rfl, rfl, trivial⟩ (by decide) rfl st)
     replace h134 := ite_f b141 h134
     refine RL.skip rfl rfl ?_
     refine RL.skip rfl rfl ?_
     refine RL.skip rfl rfl ?_
     refine RL.skip rfl rfl ?_
     refine RL.skip rfl rfl ?_
     refine RL.skip rfl rfl ?_
     refine RL.pickF rfl rfl rfl rfl ?_
     refine RL.pickF rfl rfl rfl rfl ?_
     refine RL.fin ?_
     cases h134
     exact fun a w st => mid_intro false h135 (St.cut [0, 1, 2] ⟨rfl, rfl, rfl, rfl, rfl, rfl, rfl, rfl, trivial⟩ (by decide) rfl st)
    replace h134 := ite_f b140 h134
    refine RL.skip rfl rfl ?_
    refine RL.skip rfl rfl ?_
    refine RL.skip rfl rfl ?_
    refine RL.skip rfl rfl ?_
    refine RL.pickF rfl rfl rfl rfl ?_
    refine RL.mv rfl rfl rfl ?_
    refine RL.skip rfl rfl ?_
    refine RL.skip rfl rfl ?_
    refine RL.skip rfl rfl ?_
    refine RL.skip rfl rfl ?_
    refine RL.skip rfl rfl ?_
    refine RL.skip rfl rfl ?_
    refine RL.pickF rfl rfl rfl rfl ?_
    refine RL.pickF rfl rfl rfl rfl ?_
    refine RL.fin ?_
    cases h134
    exact fun a w st => mid_intro false h135 (St.cut [0, 1, 2] ⟨rfl, rfl, rfl, rfl, rfl, rfl, rfl, rfl, trivial⟩ (by decide) rfl st)
   rintro x131 h146
   have h147 := h136 _ h146
   try dsimp only at h147
   refine GL.weak (env' := [(0, v0), (1, v1), (5, .int .i64 ((x0).length : Int)), (7, v39), (8, .int .i64 x40), (9, .int .i64 x41), (10, .int .i64 x42), (57, .bool x131)]) (L' := [imm (TR.sl TR.int) v0 x0, imm (TR.sl TR.int) v1 x1, own 3 TR.int v39 l38]) (fun _ _ st => st) ?_
   refine GL.cond rfl (fun b148 => ?_) (fun b148 => ?_)
   ·replace h147 := ite_t b148 h147
    refine GL.region ?_
    refine RL.mv rfl rfl rfl ?_
    refine RL.mv rfl rfl rfl ?_
    refine RL.mv rfl rfl rfl ?_
    obtain ⟨y155, e156, h147⟩ := bind_some h147
    refine RL.idxS (sz := 1) 0 Try.underlying27 Try_ln3 rfl rfl rfl rfl rfl SlOf.imm (idx_some e156).1 (idx_some e156).2.1 ?_
    refine RL.ldSx (i := (x40).toNat) (e' := y155) 0 Ex.ik Try_ln3 rfl rfl rfl rfl SlOf.imm (idx_some e156).2.2 Part.self ?_
    refine RL.bS (t := TR.int) (vs := [.int .i64 y155]) ([y155] : (List Int)) Try.underlying27 Try_lo3 rfl rfl rfl rfl ⟨VR.int, trivial⟩ rfl (by decide) ?_
    intro v157
    obtain ⟨y158, e159, h147⟩ := bind_some h147
    replace e159 := chk_some e159
    refine RL.app 2 3 Try.underlying27 Try_lo3 rfl rfl rfl rfl rfl rfl rfl SlOf.own e159 ?_
    intro v160
    refine RL.reL (L' := [imm (TR.sl TR.int) v0 x0, imm (TR.sl TR.int) v1 x1, own 3 TR.int v160 (l38 ++ ([y155] : (List Int))), own 3 TR.int v157 ([y155] : (List Int))]) rfl ?_
    refine RL.mv rfl rfl rfl ?_
    refine RL.binI (v := .int .i64 (wsub x40 (1 : Int))) rfl rfl rfl rfl rfl ?_
    refine RL.asg rfl rfl rfl ?_
    refine RL.asg rfl rfl rfl ?_
    refine RL.finG ?_
    refine GL.nilB ?_
    refine GL.region ?_
    refine RL.mv rfl rfl rfl ?_
    refine RL.binI (v := .int .i64 (wadd x42 (1 : Int))) rfl rfl rfl rfl rfl ?_
    refine RL.asg rfl rfl rfl ?_
    refine RL.finG ?_
    cases h147
    exact fun a w st => lop_intro (r115, (l38 ++ ([y155] : (List Int))), wsub x40 (1 : Int), x41, wadd x42 (1 : Int), v160) (by exact h111) (by simp) (St.cut [0, 1, 2] ⟨rfl, rfl, rfl, rfl, rfl, rfl, rfl, trivial⟩ (by decide) rfl st)
   replace h147 := ite_f b148 h147
   refine GL.region ?_
   refine RL.mv rfl rfl rfl ?_
   refine RL.mv rfl rfl rfl ?_
   refine RL.mv rfl rfl rfl ?_
   obtain ⟨y167, e168, h147⟩ := bind_some h147
   refine RL.idxS (sz := 1) 0 Try.underlying27 Try_ln3 rfl rfl rfl rfl rfl SlOf.imm (idx_some e168).1 (idx_some e168).2.1 ?_
   refine RL.ldSx (i := (x41).toNat) (e' := y167) 0 Ex.ik Try_ln3 rfl rfl rfl rfl SlOf.imm (idx_some e168).2.2 Part.self ?_
   refine RL.bS (t := TR.int) (vs := [.int .i64 y167]) ([y167] : (List Int)) Try.underlying27 Try_lo3 rfl rfl rfl rfl ⟨VR.int, trivial⟩ rfl (by decide) ?_
   intro v169
   obtain ⟨y170, e171, h147⟩ := bind_some h147
   replace e171 := chk_some e171
   refine RL.app 2 3 Try.underlying27 Try_lo3 rfl rfl rfl rfl rfl rfl rfl SlOf.own e171 ?_
   intro v172
   refine RL.reL (L' := [imm (TR.sl TR.int) v0 x0, imm (TR.sl TR.int) v1 x1, own 3 TR.int v172 (l38 ++ ([y167] : (List Int))), own 3 TR.int v169 ([y167] : (List Int))]) rfl ?_
   refine RL.mv rfl rfl rfl ?_
   refine RL.binI (v := .int .i64 (wadd x41 (1 : Int))) rfl rfl rfl rfl rfl ?_
   refine RL.asg rfl rfl rfl ?_
   refine RL.asg rfl rfl rfl ?_
   refine RL.finG ?_
   refine GL.nilB ?_
   refine GL.region ?_
   refine RL.mv rfl rfl rfl ?_
   refine RL.binI (v := .int .i64 (wadd x42 (1 : Int))) rfl rfl rfl rfl rfl ?_
   refine RL.asg rfl rfl rfl ?_
   refine RL.finG ?_
   cases h147
   exact fun a w st => lop_intro (r115, (l38 ++ ([y167] : (List Int))), x40, wadd x41 (1 : Int), wadd x42 (1 : Int), v172) (by exact h111) (by simp) (St.cut [0, 1, 2] ⟨rfl, rfl, rfl, rfl, rfl, rfl, rfl, trivial⟩ (by decide) rfl st)
  replace h110 := ite_f b116 h110
  cases h110
  replace h111 : some (Fl.nx _) = some y100 := h111
  cases h111
  exact GL.exit (fun a w st => mid_intro (l38, x40, x41, x42, v39) h103 (St.cut [2] ⟨rfl, trivial⟩ (by decide) rfl st))
 rintro ⟨l38, x40, x41, x42, v39⟩ h173
 have h174 := h104 _ h173
 try dsimp only at h174
 refine GL.weak (env' := [(7, v39)]) (L' := [own 3 TR.int v39 l38]) (fun _ _ st => st) ?_
 refine GL.seq ?_
 refine GL.region ?_
 refine RL.mv rfl rfl rfl ?_
 refine RL.asg rfl rfl rfl ?_
 refine RL.finG ?_
 have h174 := Option.some.inj h174
 subst h174
 exact GL.ret (Gx.ret (v := v39) (res1 rfl rfl) (fun a w st => (st.pick [0] (by decide) rfl).toPost v39))

set_option maxHeartbeats 4000000 in
theorem peak_All_c (S : Hp) (w : World) (hS : S.sub w) (v0 : Value) (x0 : (List Int)) (k0 : ((TR.sl TR.int)).vrep S v0 x0) (v1 : Value) (x1 : (List (List Int))) (k1 : ((TR.sl (TR.sl TR.int))).vrep S v1 x1) (res : Bool × Int) (hm : peak_All_m x0 x1 = some res) : Calls Try.prog 28 #[v0, v1] w (PostV w (.tuple #[.bool res.1, .int .i64 res.2])) := by
 refine calls_enter 41 Try.func28 Try.ntmps28 rfl S false [(0, v0), (1, v1)] [imm (TR.sl TR.int) v0 x0, imm (TR.sl (TR.sl TR.int)) v1 x1] rfl ⟨rfl, ⟨rfl, trivial⟩⟩ hS ⟨k0, ⟨k1, trivial⟩⟩ ?_
 unfold peak_All_m at hm
 refine GL.seq ?_
 refine GL.region ?_
 refine RL.asg rfl rfl rfl ?_
 refine RL.asg rfl rfl rfl ?_
 refine RL.finG ?_
 refine GL.seq ?_
 refine GL.seq ?_
 refine GL.region ?_
 refine RL.mv rfl rfl rfl ?_
 refine RL.lenS 0 Try.underlying27 rfl rfl rfl rfl SlOf.imm ?_
 refine RL.mv rfl rfl rfl ?_
 obtain ⟨y5, e6, hm⟩ := bind_some hm
 refine RL.callV (v := .int .i64 y5) (vs := [.int .i64 ((x0).length : Int), v0]) Try_fit43 rfl (Or.inl rfl) rfl rfl rfl rfl (fun U w hU hW hL => order_Check_c U w hU ((x0).length : Int) _ _ (hL 0 _ _ rfl Seen.imm) _ e6) ?_
 refine RL.asg rfl rfl rfl ?_
 refine RL.finG ?_
 refine GL.seq ?_
 refine GL.region ?_
 refine RL.mv rfl rfl rfl ?_
 refine RL.binI (v := .bool (y5 != (0 : Int))) rfl rfl rfl rfl rfl ?_
 refine RL.finG ?_
 refine GL.cond rfl (fun b7 => ?_) (fun b7 => ?_)
 ·replace hm := ite_t b7 hm
  refine GL.seq ?_
  refine GL.region ?_
  refine RL.mv rfl rfl rfl ?_
  refine RL.asg rfl rfl rfl ?_
  refine RL.asg rfl rfl rfl ?_
  refine RL.finG ?_
  have hm := Option.some.inj hm
  subst hm
  exact GL.ret (Gx.ret (v := .tuple #[.bool false, .int .i64 y5]) (res2 rfl rfl rfl) (fun a w st => st.toPostV))
 replace hm := ite_f b7 hm
 refine GL.skip ?_
 refine GL.seq ?_
 refine GL.seq ?_
 refine GL.region ?_
 refine RL.mv rfl rfl rfl ?_
 refine RL.lenS 0 Try.underlying27 rfl rfl rfl rfl SlOf.imm ?_
 refine RL.mv rfl rfl rfl ?_
 obtain ⟨y10, e11, hm⟩ := bind_some hm
 refine RL.callV (v := .int .i64 y10) (vs := [.int .i64 ((x0).length : Int), v1]) Try_fit38 rfl (Or.inl rfl) rfl rfl rfl rfl (fun U w hU hW hL => tally_Check_c U w hU ((x0).length : Int) _ _ (hL 1 _ _ rfl Seen.imm) _ e11) ?_
 refine RL.asg rfl rfl rfl ?_
 refine RL.finG ?_
 refine GL.seq ?_
 refine GL.region ?_
 refine RL.mv rfl rfl rfl ?_
 refine RL.binI (v := .bool (y10 != (0 : Int))) rfl rfl rfl rfl rfl ?_
 refine RL.finG ?_
 refine GL.cond rfl (fun b12 => ?_) (fun b12 => ?_)
 ·replace hm := ite_t b12 hm
  refine GL.seq ?_
  refine GL.region ?_
  refine RL.mv rfl rfl rfl ?_
  refine RL.asg rfl rfl rfl ?_
  refine RL.asg rfl rfl rfl ?_
  refine RL.finG ?_
  have hm := Option.some.inj hm
  subst hm
  exact GL.ret (Gx.ret (v := .tuple #[.bool false, .int .i64 y10]) (res2 rfl rfl rfl) (fun a w st => st.toPostV))
 replace hm := ite_f b12 hm
 refine GL.skip ?_
 refine GL.seq ?_
 refine GL.seq ?_
 refine GL.region ?_
 refine RL.mv rfl rfl rfl ?_
 refine RL.lenS 1 Try.underlying37 rfl rfl rfl rfl SlOf.imm ?_
 refine RL.mv rfl rfl rfl ?_
 refine RL.finG ?_
 refine GL.open_ 1 rfl (fun S h => len_imm S h) (fun n24 => ?_)
 obtain ⟨y25, K26, h27, h28, h29, h30, h31⟩ := bindR_K hm
 refine GL.join (ι := Unit) (fun (p : Unit) => []) (fun (p : Unit) => []) (fun (p : Unit) => K26 (.nx ())) ?_ ?_
 ·refine GL.block ?_
  refine GL.loop (ι := Nat × (List (List Int))) (fun (p : Nat × (List (List Int))) => [(0, v0), (26, v1), (27, .int .i64 ((x1).length : Int)), (28, .int .i64 (p.1 : Int))]) (fun (p : Nat × (List (List Int))) => [imm (TR.sl TR.int) v0 x0, imm (TR.sl (TR.sl TR.int)) v1 x1]) (fun (p : Nat × (List (List Int))) => p.1 + p.2.length = (x1).length ∧ List.drop p.1 x1 = p.2 ∧ rangeL (peak_All_b1 x0) p.2 p.1 () = some y25) (fun (p : Nat × (List (List Int))) => p.2.length) (0, x1) ⟨by simp, by simp, h27⟩ (fun a w st => St.cut [0, 1] ⟨rfl, rfl, rfl, rfl, trivial⟩ (by decide) rfl st) ?_
  rintro ⟨i33, r34⟩ ⟨h39, h40, h38⟩
  try dsimp only at h39 h40 h38
  refine GL.weak (env' := [(0, v0), (26, v1), (27, .int .i64 ((x1).length : Int)), (28, .int .i64 (i33 : Int))]) (L' := [imm (TR.sl TR.int) v0 x0, imm (TR.sl (TR.sl TR.int)) v1 x1]) (fun _ _ st => st) ?_
  refine GL.seq ?_
  refine GL.region ?_
  refine RL.binI (v := .bool (decide ((i33 : Int) < ((x1).length : Int)))) rfl rfl rfl rfl rfl ?_
  refine RL.finG ?_
  refine GL.seq ?_
  refine GL.cond rfl (fun b41 => ?_) (fun b41 => ?_)
  ·have h42 : i33 < (x1).length := by have := of_decide_eq_true b41; omega
   obtain ⟨y43, r45, hr, e44, h46⟩ := drop_cons h40 rfl h42
   subst hr
   obtain ⟨z35, h36, h37⟩ := rangeL_some h38
   unfold peak_All_b1 at h36
   try dsimp only at h36
   refine GL.skip ?_
   refine GL.seq ?_
   refine GL.block ?_
   refine GL.seq ?_
   refine GL.region ?_
   refine RL.idxS (sz := 1) 1 Try.underlying37 Try_ln27 rfl rfl rfl rfl rfl SlOf.imm (by omega) (by omega) ?_
   refine RL.ldS (i := i33) (r := (TR.sl TR.int)) (e' := y43) 1 Try_ln27 rfl rfl rfl rfl SlOf.imm e44 Part.self ?_
   intro v48
   refine RL.asg rfl rfl rfl ?_
   refine RL.finG ?_
   refine GL.seq ?_
   refine GL.region ?_
   refine RL.mv rfl rfl rfl ?_
   refine RL.mv rfl rfl rfl ?_
   obtain ⟨y51, e52, h36⟩ := bind_some h36
   refine RL.callV (v := .tuple #[.bool y51.1, .int .i64 y51.2]) (vs := [v0, v48]) Try_fit39 rfl (Or.inl rfl) rfl rfl rfl rfl (fun U w hU hW hL => peak_Along_c U w hU _ _ (hL 0 _ _ rfl Seen.imm) _ _ (hL 2 _ _ rfl Seen.imm) _ e52) ?_
   refine RL.mv rfl rfl rfl ?_
   refine RL.ext rfl rfl rfl rfl ?_
   refine RL.ext rfl rfl rfl rfl ?_
   refine RL.asg rfl rfl rfl ?_
   refine RL.asg rfl rfl rfl ?_
   refine RL.finG ?_
   refine GL.seq ?_
   refine GL.region ?_
   refine RL.mv rfl rfl rfl ?_
   refine RL.notB rfl rfl rfl ?_
   refine RL.finG ?_
   refine GL.cond rfl (fun b53 => ?_) (fun b53 => ?_)
   ·replace h36 := ite_t b53 h36
    refine GL.seq ?_
    refine GL.region ?_
    refine RL.asg rfl rfl rfl ?_
    refine RL.asg rfl rfl rfl ?_
    refine RL.finG ?_
    cases h36
    replace h37 : some (Fl.rt _) = some y25 := h37
    cases h37
    have hh := h30 _ h28
    subst hh
    exact GL.ret (Gx.ret (v := .tuple #[.bool false, .int .i64 (0 : Int)]) (res2 rfl rfl rfl) (fun a w st => st.toPostV))
   replace h36 := ite_f b53 h36
   refine GL.skip ?_
   refine GL.nilB ?_
   refine GL.region ?_
   refine RL.binI (v := .int .i64 ((i33 + 1 : Nat) : Int)) rfl rfl rfl rfl (binI_succ i33 (by omega)) ?_
   refine RL.mv rfl rfl rfl ?_
   refine RL.fin ?_
   cases h36
   exact fun a w st => lop_intro (i33 + 1, r45) ⟨by show i33 + 1 + r45.length = (x1).length; simp only [List.length_cons] at h39; omega, h46, h37⟩ (by simp) (St.cut [0, 1] ⟨rfl, rfl, rfl, rfl, trivial⟩ (by decide) rfl st)
  have h42 : ¬ i33 < (x1).length := by have := of_decide_eq_false b41; omega
  obtain rfl : r34 = [] := by rw [← h40]; exact List.drop_of_length_le (by omega)
  replace h38 : some (Fl.nx _) = some y25 := h38
  cases h38
  exact GL.exit (fun a w st => mid_intro () h28 (St.cut [] trivial (by decide) rfl st))
 rintro ⟨⟩ h54
 have h55 := h29 _ h54
 try dsimp only at h55
 refine GL.weak (env' := []) (L' := []) (fun _ _ st => st) ?_
 refine GL.seq ?_
 refine GL.region ?_
 refine RL.asg rfl rfl rfl ?_
 refine RL.asg rfl rfl rfl ?_
 refine RL.finG ?_
 have h55 := Option.some.inj h55
 subst h55
 exact GL.ret (Gx.ret (v := .tuple #[.bool true, .int .i64 (0 : Int)]) (res2 rfl rfl rfl) (fun a w st => st.toPostV))

set_option maxHeartbeats 4000000 in
theorem slices_Index_int_int_c (S : Hp) (w : World) (hS : S.sub w) (v0 : Value) (x0 : (List Int)) (k0 : ((TR.sl TR.int)).vrep S v0 x0) (x1 : Int) (res : Int) (hm : slices_Index_int_int_m x0 x1 = some res) : Calls Try.prog 45 #[v0, .int .i64 x1] w (PostC w (.int .i64 res)) := by
 refine calls_enter 19 Try.func45 Try.ntmps45 rfl S true [(0, v0), (1, .int .i64 x1)] [imm (TR.sl TR.int) v0 x0] rfl ⟨rfl, ⟨rfl, trivial⟩⟩ hS ⟨k0, trivial⟩ ?_
 unfold slices_Index_int_int_m at hm
 refine GL.seq ?_
 refine GL.region ?_
 refine RL.asg rfl rfl rfl ?_
 refine RL.finG ?_
 refine GL.seq ?_
 refine GL.seq ?_
 refine GL.region ?_
 refine RL.mv rfl rfl rfl ?_
 refine RL.lenS 0 Try.underlying27 rfl rfl rfl rfl SlOf.imm ?_
 refine RL.mv rfl rfl rfl ?_
 refine RL.finG ?_
 refine GL.open_ 0 rfl (fun S h => len_imm S h) (fun n8 => ?_)
 obtain ⟨y9, K10, h11, h12, h13, h14, h15⟩ := bindR_K hm
 refine GL.join (ι := Unit) (fun (p : Unit) => []) (fun (p : Unit) => []) (fun (p : Unit) => K10 (.nx ())) ?_ ?_
 ·refine GL.block ?_
  refine GL.loop (ι := Nat × (List Int)) (fun (p : Nat × (List Int)) => [(0, v0), (1, .int .i64 x1), (7, .int .i64 ((x0).length : Int)), (8, .int .i64 (p.1 : Int))]) (fun (p : Nat × (List Int)) => [imm (TR.sl TR.int) v0 x0]) (fun (p : Nat × (List Int)) => p.1 + p.2.length = (x0).length ∧ List.drop p.1 x0 = p.2 ∧ rangeL (slices_Index_int_int_b1 x1) p.2 p.1 () = some y9) (fun (p : Nat × (List Int)) => p.2.length) (0, x0) ⟨by simp, by simp, h11⟩ (fun a w st => St.cut [0] ⟨rfl, rfl, rfl, rfl, trivial⟩ (by decide) rfl st) ?_
  rintro ⟨i17, r18⟩ ⟨h23, h24, h22⟩
  try dsimp only at h23 h24 h22
  refine GL.weak (env' := [(0, v0), (1, .int .i64 x1), (7, .int .i64 ((x0).length : Int)), (8, .int .i64 (i17 : Int))]) (L' := [imm (TR.sl TR.int) v0 x0]) (fun _ _ st => st) ?_
  refine GL.seq ?_
  refine GL.region ?_
  refine RL.binI (v := .bool (decide ((i17 : Int) < ((x0).length : Int)))) rfl rfl rfl rfl rfl ?_
  refine RL.finG ?_
  refine GL.seq ?_
  refine GL.cond rfl (fun b25 => ?_) (fun b25 => ?_)
  ·have h26 : i17 < (x0).length := by have := of_decide_eq_true b25; omega
   obtain ⟨y27, r29, hr, e28, h30⟩ := drop_cons h24 rfl h26
   subst hr
   obtain ⟨z19, h20, h21⟩ := rangeL_some h22
   unfold slices_Index_int_int_b1 at h20
   try dsimp only at h20
   refine GL.skip ?_
   refine GL.seq ?_
   refine GL.block ?_
   refine GL.seq ?_
   refine GL.region ?_
   refine RL.mv rfl rfl rfl ?_
   refine RL.asg rfl rfl rfl ?_
   refine RL.finG ?_
   refine GL.seq ?_
   refine GL.region ?_
   refine RL.mv rfl rfl rfl ?_
   refine RL.mv rfl rfl rfl ?_
   refine RL.mv rfl rfl rfl ?_
   refine RL.idxS (sz := 1) 0 Try.underlying27 Try_ln3 rfl rfl rfl rfl rfl SlOf.imm (by omega) (by omega) ?_
   refine RL.ldSx (i := i17) (e' := y27) 0 Ex.ik Try_ln3 rfl rfl rfl rfl SlOf.imm e28 Part.self ?_
   refine RL.binI (v := .bool (x1 == y27)) rfl rfl rfl rfl rfl ?_
   refine RL.finG ?_
   refine GL.cond rfl (fun b31 => ?_) (fun b31 => ?_)
   ·replace h20 := ite_t b31 h20
    refine GL.seq ?_
    refine GL.region ?_
    refine RL.mv rfl rfl rfl ?_
    refine RL.asg rfl rfl rfl ?_
    refine RL.finG ?_
    cases h20
    replace h21 : some (Fl.rt _) = some y9 := h21
    cases h21
    have hh := h14 _ h12
    subst hh
    exact GL.ret (Gx.ret (v := .int .i64 (i17 : Int)) (res1 rfl rfl) (fun a w st => st.toPostC rfl))
   replace h20 := ite_f b31 h20
   refine GL.skip ?_
   refine GL.nilB ?_
   refine GL.region ?_
   refine RL.binI (v := .int .i64 ((i17 + 1 : Nat) : Int)) rfl rfl rfl rfl (binI_succ i17 (by omega)) ?_
   refine RL.mv rfl rfl rfl ?_
   refine RL.fin ?_
   cases h20
   exact fun a w st => lop_intro (i17 + 1, r29) ⟨by show i17 + 1 + r29.length = (x0).length; simp only [List.length_cons] at h23; omega, h30, h21⟩ (by simp) (St.cut [0] ⟨rfl, rfl, rfl, rfl, trivial⟩ (by decide) rfl st)
  have h26 : ¬ i17 < (x0).length := by have := of_decide_eq_false b25; omega
  obtain rfl : r18 = [] := by rw [← h24]; exact List.drop_of_length_le (by omega)
  replace h22 : some (Fl.nx _) = some y9 := h22
  cases h22
  exact GL.exit (fun a w st => mid_intro () h12 (St.cut [] trivial (by decide) rfl st))
 rintro ⟨⟩ h32
 have h33 := h13 _ h32
 try dsimp only at h33
 refine GL.weak (env' := []) (L' := []) (fun _ _ st => st) ?_
 refine GL.seq ?_
 refine GL.region ?_
 refine RL.asg rfl rfl rfl ?_
 refine RL.finG ?_
 have h33 := Option.some.inj h33
 subst h33
 exact GL.ret (Gx.ret (v := .int .i64 (-1 : Int)) (res1 rfl rfl) (fun a w st => st.toPostC rfl))

set_option maxHeartbeats 4000000 in
theorem math_bits_Len32_c (S : Hp) (w : World) (hS : S.sub w) (x0 : Int) (res : Int) (hm : math_bits_Len32_m x0 = some res) : Calls Try.prog 59 #[.int .u32 x0] w (PostC w (.int .i64 res)) := by
 refine calls_enter 19 Try.func59 Try.ntmps59 rfl S true [(0, .int .u32 x0)] [] rfl ⟨rfl, trivial⟩ hS trivial ?_
 unfold math_bits_Len32_m at hm
 refine GL.seq ?_
 refine GL.region ?_
 refine RL.asg rfl rfl rfl ?_
 refine RL.finG ?_
 refine GL.seq ?_
 refine GL.seq ?_
 refine GL.region ?_
 refine RL.mv rfl rfl rfl ?_
 refine RL.binI (v := .bool (decide (x0 ≥ (65536 : Int)))) rfl rfl rfl rfl rfl ?_
 refine RL.finG ?_
 obtain ⟨y9, K10, h11, h12, h13, h14, h15⟩ := bindR_K hm
 refine GL.join (ι := Int × Int) (fun (p : Int × Int) => [(0, .int .u32 p.1), (2, .int .i64 p.2)]) (fun (p : Int × Int) => []) (fun (p : Int × Int) => K10 (.nx (p.1, p.2))) ?_ ?_
 ·skip
  refine GL.cond rfl (fun b16 => ?_) (fun b16 => ?_)
  ·replace h11 := ite_t b16 h11
   refine GL.seq ?_
   refine GL.region ?_
   refine RL.mv rfl rfl rfl ?_
   obtain ⟨y19, e20, h11⟩ := bind_some h11
   replace e20 := chk_some e20
   refine RL.sh (by simp) rfl rfl rfl rfl e20 ?_
   refine RL.asg rfl rfl rfl ?_
   refine RL.finG ?_
   refine GL.region ?_
   refine RL.asg rfl rfl rfl ?_
   refine RL.finG ?_
   cases h11
   exact fun a w st => mid_intro (Int.fdiv x0 (2 ^ (min (16 : Int).toNat (IntKind.bits .u32))), (16 : Int)) h12 (St.cut [] ⟨rfl, rfl, trivial⟩ (by decide) rfl st)
  replace h11 := ite_f b16 h11
  refine GL.skip ?_
  cases h11
  exact fun a w st => mid_intro (x0, (0 : Int)) h12 (St.cut [] ⟨rfl, rfl, trivial⟩ (by decide) rfl st)
 rintro ⟨x7, x8⟩ h21
 have h22 := h13 _ h21
 try dsimp only at h22
 refine GL.weak (env' := [(0, .int .u32 x7), (2, .int .i64 x8)]) (L' := []) (fun _ _ st => st) ?_
 refine GL.seq ?_
 refine GL.seq ?_
 refine GL.region ?_
 refine RL.mv rfl rfl rfl ?_
 refine RL.binI (v := .bool (decide (x7 ≥ (256 : Int)))) rfl rfl rfl rfl rfl ?_
 refine RL.finG ?_
 obtain ⟨y30, K31, h32, h33, h34, h35, h36⟩ := bindR_K h22
 refine GL.join (ι := Int × Int) (fun (p : Int × Int) => [(0, .int .u32 p.1), (2, .int .i64 p.2)]) (fun (p : Int × Int) => []) (fun (p : Int × Int) => K31 (.nx (p.1, p.2))) ?_ ?_
 ·skip
  refine GL.cond rfl (fun b37 => ?_) (fun b37 => ?_)
  ·replace h32 := ite_t b37 h32
   refine GL.seq ?_
   refine GL.region ?_
   refine RL.mv rfl rfl rfl ?_
   obtain ⟨y40, e41, h32⟩ := bind_some h32
   replace e41 := chk_some e41
   refine RL.sh (by simp) rfl rfl rfl rfl e41 ?_
   refine RL.asg rfl rfl rfl ?_
   refine RL.finG ?_
   refine GL.region ?_
   refine RL.mv rfl rfl rfl ?_
   refine RL.binI (v := .int .i64 (wadd x8 (8 : Int))) rfl rfl rfl rfl rfl ?_
   refine RL.asg rfl rfl rfl ?_
   refine RL.finG ?_
   cases h32
   exact fun a w st => mid_intro (Int.fdiv x7 (2 ^ (min (8 : Int).toNat (IntKind.bits .u32))), wadd x8 (8 : Int)) h33 (St.cut [] ⟨rfl, rfl, trivial⟩ (by decide) rfl st)
  replace h32 := ite_f b37 h32
  refine GL.skip ?_
  cases h32
  exact fun a w st => mid_intro (x7, x8) h33 (St.cut [] ⟨rfl, rfl, trivial⟩ (by decide) rfl st)
 rintro ⟨x28, x29⟩ h42
 have h43 := h34 _ h42
 try dsimp only at h43
 refine GL.weak (env' := [(0, .int .u32 x28), (2, .int .i64 x29)]) (L' := []) (fun _ _ st => st) ?_
 refine GL.seq ?_
 refine GL.region ?_
 refine RL.mv rfl rfl rfl ?_
 refine RL.mv rfl rfl rfl ?_
 refine RL.cvI Try.underlying92 Try.underlying5 rfl rfl rfl ?_
 obtain ⟨y46, e47, h43⟩ := bind_some h43
 refine RL.idxT Try.underlying9 rfl rfl rfl rfl (idx_some e47).1 (idx_some e47).2.2 ?_
 refine RL.cvI Try.underlying5 Try.underlying3 rfl rfl rfl ?_
 refine RL.binI (v := .int .i64 (wadd x29 (IntKind.wrap .i64 (y46.toNat : Int)))) rfl rfl rfl rfl rfl ?_
 refine RL.asg rfl rfl rfl ?_
 refine RL.finG ?_
 have h43 := Option.some.inj h43
 subst h43
 exact GL.ret (Gx.ret (v := .int .i64 (wadd x29 (IntKind.wrap .i64 (y46.toNat : Int)))) (res1 rfl rfl) (fun a w st => st.toPostC rfl))

set_option maxHeartbeats 4000000 in
theorem math_bits_Len64_c (S : Hp) (w : World) (hS : S.sub w) (x0 : Int) (res : Int) (hm : math_bits_Len64_m x0 = some res) : Calls Try.prog 60 #[.int .u64 x0] w (PostC w (.int .i64 res)) := by
 refine calls_enter 25 Try.func60 Try.ntmps60 rfl S true [(0, .int .u64 x0)] [] rfl ⟨rfl, trivial⟩ hS trivial ?_
 unfold math_bits_Len64_m at hm
 refine GL.seq ?_
 refine GL.region ?_
 refine RL.asg rfl rfl rfl ?_
 refine RL.finG ?_
 refine GL.seq ?_
 refine GL.seq ?_
 refine GL.region ?_
 refine RL.mv rfl rfl rfl ?_
 refine RL.binI (v := .bool (decide (x0 ≥ (4294967296 : Int)))) rfl rfl rfl rfl rfl ?_
 refine RL.finG ?_
 obtain ⟨y9, K10, h11, h12, h13, h14, h15⟩ := bindR_K hm
 refine GL.join (ι := Int × Int) (fun (p : Int × Int) => [(0, .int .u64 p.1), (2, .int .i64 p.2)]) (fun (p : Int × Int) => []) (fun (p : Int × Int) => K10 (.nx (p.1, p.2))) ?_ ?_
 ·skip
  refine GL.cond rfl (fun b16 => ?_) (fun b16 => ?_)
  ·replace h11 := ite_t b16 h11
   refine GL.seq ?_
   refine GL.region ?_
   refine RL.mv rfl rfl rfl ?_
   obtain ⟨y19, e20, h11⟩ := bind_some h11
   replace e20 := chk_some e20
   refine RL.sh (by simp) rfl rfl rfl rfl e20 ?_
   refine RL.asg rfl rfl rfl ?_
   refine RL.finG ?_
   refine GL.region ?_
   refine RL.asg rfl rfl rfl ?_
   refine RL.finG ?_
   cases h11
   exact fun a w st => mid_intro (Int.fdiv x0 (2 ^ (min (32 : Int).toNat (IntKind.bits .u64))), (32 : Int)) h12 (St.cut [] ⟨rfl, rfl, trivial⟩ (by decide) rfl st)
  replace h11 := ite_f b16 h11
  refine GL.skip ?_
  cases h11
  exact fun a w st => mid_intro (x0, (0 : Int)) h12 (St.cut [] ⟨rfl, rfl, trivial⟩ (by decide) rfl st)
 rintro ⟨x7, x8⟩ h21
 have h22 := h13 _ h21
 try dsimp only at h22
 refine GL.weak (env' := [(0, .int .u64 x7), (2, .int .i64 x8)]) (L' := []) (fun _ _ st => st) ?_
 refine GL.seq ?_
 refine GL.seq ?_
 refine GL.region ?_
 refine RL.mv rfl rfl rfl ?_
 refine RL.binI (v := .bool (decide (x7 ≥ (65536 : Int)))) rfl rfl rfl rfl rfl ?_
 refine RL.finG ?_
 obtain ⟨y30, K31, h32, h33, h34, h35, h36⟩ := bindR_K h22
 refine GL.join (ι := Int × Int) (fun (p : Int × Int) => [(0, .int .u64 p.1), (2, .int .i64 p.2)]) (fun (p : Int × Int) => []) (fun (p : Int × Int) => K31 (.nx (p.1, p.2))) ?_ ?_
 ·skip
  refine GL.cond rfl (fun b37 => ?_) (fun b37 => ?_)
  ·replace h32 := ite_t b37 h32
   refine GL.seq ?_
   refine GL.region ?_
   refine RL.mv rfl rfl rfl ?_
   obtain ⟨y40, e41, h32⟩ := bind_some h32
   replace e41 := chk_some e41
   refine RL.sh (by simp) rfl rfl rfl rfl e41 ?_
   refine RL.asg rfl rfl rfl ?_
   refine RL.finG ?_
   refine GL.region ?_
   refine RL.mv rfl rfl rfl ?_
   refine RL.binI (v := .int .i64 (wadd x8 (16 : Int))) rfl rfl rfl rfl rfl ?_
   refine RL.asg rfl rfl rfl ?_
   refine RL.finG ?_
   cases h32
   exact fun a w st => mid_intro (Int.fdiv x7 (2 ^ (min (16 : Int).toNat (IntKind.bits .u64))), wadd x8 (16 : Int)) h33 (St.cut [] ⟨rfl, rfl, trivial⟩ (by decide) rfl st)
  replace h32 := ite_f b37 h32
  refine GL.skip ?_
  cases h32
  exact fun a w st => mid_intro (x7, x8) h33 (St.cut [] ⟨rfl, rfl, trivial⟩ (by decide) rfl st)
 rintro ⟨x28, x29⟩ h42
 have h43 := h34 _ h42
 try dsimp only at h43
 refine GL.weak (env' := [(0, .int .u64 x28), (2, .int .i64 x29)]) (L' := []) (fun _ _ st => st) ?_
 refine GL.seq ?_
 refine GL.seq ?_
 refine GL.region ?_
 refine RL.mv rfl rfl rfl ?_
 refine RL.binI (v := .bool (decide (x28 ≥ (256 : Int)))) rfl rfl rfl rfl rfl ?_
 refine RL.finG ?_
 obtain ⟨y51, K52, h53, h54, h55, h56, h57⟩ := bindR_K h43
 refine GL.join (ι := Int × Int) (fun (p : Int × Int) => [(0, .int .u64 p.1), (2, .int .i64 p.2)]) (fun (p : Int × Int) => []) (fun (p : Int × Int) => K52 (.nx (p.1, p.2))) ?_ ?_
 ·skip
  refine GL.cond rfl (fun b58 => ?_) (fun b58 => ?_)
  ·replace h53 := ite_t b58 h53
   refine GL.seq ?_
   refine GL.region ?_
   refine RL.mv rfl rfl rfl ?_
   obtain ⟨y61, e62, h53⟩ := bind_some h53
   replace e62 := chk_some e62
   refine RL.sh (by simp) rfl rfl rfl rfl e62 ?_
   refine RL.asg rfl rfl rfl ?_
   refine RL.finG ?_
   refine GL.region ?_
   refine RL.mv rfl rfl rfl ?_
   refine RL.binI (v := .int .i64 (wadd x29 (8 : Int))) rfl rfl rfl rfl rfl ?_
   refine RL.asg rfl rfl rfl ?_
   refine RL.finG ?_
   cases h53
   exact fun a w st => mid_intro (Int.fdiv x28 (2 ^ (min (8 : Int).toNat (IntKind.bits .u64))), wadd x29 (8 : Int)) h54 (St.cut [] ⟨rfl, rfl, trivial⟩ (by decide) rfl st)
  replace h53 := ite_f b58 h53
  refine GL.skip ?_
  cases h53
  exact fun a w st => mid_intro (x28, x29) h54 (St.cut [] ⟨rfl, rfl, trivial⟩ (by decide) rfl st)
 rintro ⟨x49, x50⟩ h63
 have h64 := h55 _ h63
 try dsimp only at h64
 refine GL.weak (env' := [(0, .int .u64 x49), (2, .int .i64 x50)]) (L' := []) (fun _ _ st => st) ?_
 refine GL.seq ?_
 refine GL.region ?_
 refine RL.mv rfl rfl rfl ?_
 refine RL.mv rfl rfl rfl ?_
 refine RL.cvI Try.underlying94 Try.underlying5 rfl rfl rfl ?_
 obtain ⟨y67, e68, h64⟩ := bind_some h64
 refine RL.idxT Try.underlying9 rfl rfl rfl rfl (idx_some e68).1 (idx_some e68).2.2 ?_
 refine RL.cvI Try.underlying5 Try.underlying3 rfl rfl rfl ?_
 refine RL.binI (v := .int .i64 (wadd x50 (IntKind.wrap .i64 (y67.toNat : Int)))) rfl rfl rfl rfl rfl ?_
 refine RL.asg rfl rfl rfl ?_
 refine RL.finG ?_
 have h64 := Option.some.inj h64
 subst h64
 exact GL.ret (Gx.ret (v := .int .i64 (wadd x50 (IntKind.wrap .i64 (y67.toNat : Int)))) (res1 rfl rfl) (fun a w st => st.toPostC rfl))

set_option maxHeartbeats 4000000 in
theorem math_bits_Len_c (S : Hp) (w : World) (hS : S.sub w) (x0 : Int) (res : Int) (hm : math_bits_Len_m x0 = some res) : Calls Try.prog 49 #[.int .u64 x0] w (PostC w (.int .i64 res)) := by
 refine calls_enter 8 Try.func49 Try.ntmps49 rfl S true [(0, .int .u64 x0)] [] rfl ⟨rfl, trivial⟩ hS trivial ?_
 unfold math_bits_Len_m at hm
 refine GL.seq ?_
 refine GL.region ?_
 refine RL.asg rfl rfl rfl ?_
 refine RL.finG ?_
 refine GL.seq ?_
 refine GL.cond rfl (fun b2 => ?_) (fun b2 => ?_)
 ·replace hm := ite_t b2 hm
  refine GL.seq ?_
  refine GL.region ?_
  refine RL.mv rfl rfl rfl ?_
  refine RL.cvI Try.underlying82 Try.underlying92 rfl rfl rfl ?_
  obtain ⟨y5, e6, hm⟩ := bind_some hm
  refine RL.callC (v := .int .i64 y5) (vs := [.int .u32 (IntKind.wrap .u32 x0)]) Try_fit59 rfl rfl rfl rfl (fun U w hU hW hL => math_bits_Len32_c U w hU (IntKind.wrap .u32 x0) _ e6) ?_
  refine RL.asg rfl rfl rfl ?_
  refine RL.finG ?_
  have hm := Option.some.inj hm
  subst hm
  exact GL.ret (Gx.ret (v := .int .i64 y5) (res1 rfl rfl) (fun a w st => st.toPostC rfl))
 replace hm := ite_f b2 hm
 refine GL.skip ?_
 refine GL.seq ?_
 refine GL.region ?_
 refine RL.mv rfl rfl rfl ?_
 obtain ⟨y9, e10, hm⟩ := bind_some hm
 refine RL.callC (v := .int .i64 y9) (vs := [.int .u64 x0]) Try_fit60 rfl rfl rfl rfl (fun U w hU hW hL => math_bits_Len64_c U w hU x0 _ e10) ?_
 refine RL.asg rfl rfl rfl ?_
 refine RL.finG ?_
 have hm := Option.some.inj hm
 subst hm
 exact GL.ret (Gx.ret (v := .int .i64 y9) (res1 rfl rfl) (fun a w st => st.toPostC rfl))

set_option maxHeartbeats 4000000 in
theorem cmp_isNaN_int_c (S : Hp) (w : World) (hS : S.sub w) (x0 : Int) (res : Bool) (hm : cmp_isNaN_int_m x0 = some res) : Calls Try.prog 66 #[.int .i64 x0] w (PostC w (.bool res)) := by
 refine calls_enter 6 Try.func66 Try.ntmps66 rfl S true [(0, .int .i64 x0)] [] rfl ⟨rfl, trivial⟩ hS trivial ?_
 unfold cmp_isNaN_int_m at hm
 refine GL.seq ?_
 refine GL.region ?_
 refine RL.asg rfl rfl rfl ?_
 refine RL.finG ?_
 refine GL.seq ?_
 refine GL.region ?_
 refine RL.mv rfl rfl rfl ?_
 refine RL.mv rfl rfl rfl ?_
 refine RL.binI (v := .bool (x0 != x0)) rfl rfl rfl rfl rfl ?_
 refine RL.asg rfl rfl rfl ?_
 refine RL.finG ?_
 have hm := Option.some.inj hm
 subst hm
 exact GL.ret (Gx.ret (v := .bool (x0 != x0)) (res1 rfl rfl) (fun a w st => st.toPostC rfl))

set_option maxHeartbeats 4000000 in
theorem cmp_Less_int_c (S : Hp) (w : World) (hS : S.sub w) (x0 : Int) (x1 : Int) (res : Bool) (hm : cmp_Less_int_m x0 x1 = some res) : Calls Try.prog 56 #[.int .i64 x0, .int .i64 x1] w (PostC w (.bool res)) := by
 refine calls_enter 17 Try.func56 Try.ntmps56 rfl S true [(0, .int .i64 x0), (1, .int .i64 x1)] [] rfl ⟨rfl, ⟨rfl, trivial⟩⟩ hS trivial ?_
 unfold cmp_Less_int_m at hm
 refine GL.seq ?_
 refine GL.region ?_
 refine RL.asg rfl rfl rfl ?_
 refine RL.finG ?_
 refine GL.seq ?_
 obtain ⟨y16, K17, h18, h19, h20, h21, h22⟩ := bindR_K hm
 refine GL.join (ι := Bool) (fun (p : Bool) => [(4, .bool p)]) (fun (p : Bool) => []) (fun (p : Bool) => K17 (.nx p)) ?_ ?_
 ·skip
  refine GL.region ?_
  refine RL.mv rfl rfl rfl ?_
  obtain ⟨y23, e24, h18⟩ := bind_some h18
  refine RL.callC (v := .bool y23) (vs := [.int .i64 x0]) Try_fit66 rfl rfl rfl rfl (fun U w hU hW hL => cmp_isNaN_int_c U w hU x0 _ e24) ?_
  refine RL.mv rfl rfl rfl ?_
  refine RL.split (t := 7) rfl (fun b25 => ?_) (fun b25 => ?_)
  ·replace h18 := ite_t b25 h18
   refine RL.mv rfl rfl rfl ?_
   obtain ⟨y26, e27, h18⟩ := bind_some h18
   refine RL.callC (v := .bool y26) (vs := [.int .i64 x1]) Try_fit66 rfl rfl rfl rfl (fun U w hU hW hL => cmp_isNaN_int_c U w hU x1 _ e27) ?_
   refine RL.notB rfl rfl rfl ?_
   refine RL.pickT rfl rfl rfl rfl ?_
   refine RL.mv rfl rfl rfl ?_
   refine RL.split (t := 12) rfl (fun b28 => ?_) (fun b28 => ?_)
   ·replace h18 := ite_t b28 h18
    refine RL.skip rfl rfl ?_
    refine RL.skip rfl rfl ?_
    refine RL.skip rfl rfl ?_
    refine RL.pickT rfl rfl rfl rfl ?_
    refine RL.asg rfl rfl rfl ?_
    refine RL.fin ?_
    cases h18
    exact fun a w st => mid_intro true h19 (St.cut [] ⟨rfl, trivial⟩ (by decide) rfl st)
   replace h18 := ite_f b28 h18
   refine RL.mv rfl rfl rfl ?_
   refine RL.mv rfl rfl rfl ?_
   refine RL.binI (v := .bool (decide (x0 < x1))) rfl rfl rfl rfl rfl ?_
   refine RL.pickF rfl rfl rfl rfl ?_
   refine RL.asg rfl rfl rfl ?_
   refine RL.fin ?_
   cases h18
   exact fun a w st => mid_intro (decide (x0 < x1)) h19 (St.cut [] ⟨rfl, trivial⟩ (by decide) rfl st)
  replace h18 := ite_f b25 h18
  refine RL.skip rfl rfl ?_
  refine RL.skip rfl rfl ?_
  refine RL.skip rfl rfl ?_
  refine RL.pickF rfl rfl rfl rfl ?_
  refine RL.mv rfl rfl rfl ?_
  refine RL.mv rfl rfl rfl ?_
  refine RL.mv rfl rfl rfl ?_
  refine RL.binI (v := .bool (decide (x0 < x1))) rfl rfl rfl rfl rfl ?_
  refine RL.pickF rfl rfl rfl rfl ?_
  refine RL.asg rfl rfl rfl ?_
  refine RL.fin ?_
  cases h18
  exact fun a w st => mid_intro (decide (x0 < x1)) h19 (St.cut [] ⟨rfl, trivial⟩ (by decide) rfl st)
 rintro x15 h29
 have h30 := h20 _ h29
 try dsimp only at h30
 refine GL.weak (env' := [(4, .bool x15)]) (L' := []) (fun _ _ st => st) ?_
 have h30 := Option.some.inj h30
 subst h30
 exact GL.ret (Gx.ret (v := .bool x15) (res1 rfl rfl) (fun a w st => st.toPostC rfl))

set_option maxHeartbeats 4000000 in
theorem slices_insertionSortOrdered_int_c (B : World) (S X : Hp) (f : Nat → Hp) (w : World) (v0 : Value) (x0 : (List Int)) (hO : HeapOk B.heap.size S f [own 3 TR.int v0 x0, keep X].length w) (hB : Below B.heap.size B w) (hI : Its [own 3 TR.int v0 x0, keep X] S f) (x1 : Int) (x2 : Int) (res : (List Int)) (hm : slices_insertionSortOrdered_int_m x0 x1 x2 = some res) : Calls Try.prog 50 #[v0, .int .i64 x1, .int .i64 x2] w (PostM B S (fun (o : Unit) => .tuple #[]) (fun (o : Unit) => [own 3 TR.int v0 res, keep X])) := by
 refine calls_enterM 49 Try.func50 Try.ntmps50 rfl B S f [(0, v0), (1, .int .i64 x1), (2, .int .i64 x2)] [own 3 TR.int v0 x0, keep X] [] rfl ⟨rfl, ⟨rfl, ⟨rfl, trivial⟩⟩⟩ hB hO hI trivial ?_
 unfold slices_insertionSortOrdered_int_m at hm
 refine GL.seq ?_
 refine GL.region ?_
 refine RL.mv rfl rfl rfl ?_
 refine RL.binI (v := .int .i64 (wadd x1 (1 : Int))) rfl rfl rfl rfl rfl ?_
 refine RL.asg rfl rfl rfl ?_
 refine RL.finG ?_
 obtain ⟨y339, K340, h341, h342, h343, h344, h345⟩ := bindR_K hm
 refine GL.join (ι := (List Int) × Int) (fun (p : (List Int) × Int) => []) (fun (p : (List Int) × Int) => [own 3 TR.int v0 p.1, keep X]) (fun (p : (List Int) × Int) => K340 (.nx (p.1, p.2))) ?_ ?_
 ·refine GL.block ?_
  refine GL.loop (ι := Nat × (List Int) × Int) (fun (p : Nat × (List Int) × Int) => [(0, v0), (1, .int .i64 x1), (2, .int .i64 x2), (6, .int .i64 p.2.2)]) (fun (p : Nat × (List Int) × Int) => [own 3 TR.int v0 p.2.1, keep X]) (fun (p : Nat × (List Int) × Int) => loopM (slices_insertionSortOrdered_int_b1 x2 x1) p.1 (p.2.1, p.2.2) = some y339) (fun (p : Nat × (List Int) × Int) => p.1) (1048576, x0, wadd x1 (1 : Int)) h341 (fun a w st => St.cut [0, 1] ⟨rfl, rfl, rfl, rfl, trivial⟩ (by decide) rfl st) ?_
  rintro ⟨r347, l171, x172⟩ h351
  try dsimp only at h351
  refine GL.weak (env' := [(0, v0), (1, .int .i64 x1), (2, .int .i64 x2), (6, .int .i64 x172)]) (L' := [own 3 TR.int v0 l171, keep X]) (fun _ _ st => st) ?_
  obtain ⟨r354, z348, hr, h349, h350⟩ := loopM_some h351
  subst hr
  unfold slices_insertionSortOrdered_int_b1 at h349
  try dsimp only at h349
  refine GL.seq ?_
  refine GL.seq ?_
  refine GL.region ?_
  refine RL.mv rfl rfl rfl ?_
  refine RL.mv rfl rfl rfl ?_
  refine RL.binI (v := .bool (decide (x172 < x2))) rfl rfl rfl rfl rfl ?_
  refine RL.finG ?_
  refine GL.cond rfl (fun b355 => ?_) (fun b355 => ?_)
  ·replace h349 := ite_t b355 h349
   refine GL.skip ?_
   refine GL.seq ?_
   refine GL.block ?_
   refine GL.seq ?_
   refine GL.region ?_
   refine RL.mv rfl rfl rfl ?_
   refine RL.asg rfl rfl rfl ?_
   refine RL.finG ?_
   obtain ⟨y455, K456, h457, h458, h459, h460, h461⟩ := bindF_K h349
   refine GL.join (ι := (List Int) × Int) (fun (p : (List Int) × Int) => [(0, v0), (1, .int .i64 x1), (2, .int .i64 x2), (6, .int .i64 x172)]) (fun (p : (List Int) × Int) => [own 3 TR.int v0 p.1, keep X]) (fun (p : (List Int) × Int) => K456 (.nx (p.1, p.2))) ?_ ?_
   ·refine GL.block ?_
    refine GL.loop (ι := Nat × (List Int) × Int) (fun (p : Nat × (List Int) × Int) => [(0, v0), (1, .int .i64 x1), (2, .int .i64 x2), (6, .int .i64 x172), (7, .int .i64 p.2.2)]) (fun (p : Nat × (List Int) × Int) => [own 3 TR.int v0 p.2.1, keep X]) (fun (p : Nat × (List Int) × Int) => loopM (slices_insertionSortOrdered_int_b2 x1) p.1 (p.2.1, p.2.2) = some y455) (fun (p : Nat × (List Int) × Int) => p.1) (1048576, l171, x172) h457 (fun a w st => St.cut [0, 1] ⟨rfl, rfl, rfl, rfl, rfl, trivial⟩ (by decide) rfl st) ?_
    rintro ⟨r463, l405, x406⟩ h467
    try dsimp only at h467
    refine GL.weak (env' := [(0, v0), (1, .int .i64 x1), (2, .int .i64 x2), (6, .int .i64 x172), (7, .int .i64 x406)]) (L' := [own 3 TR.int v0 l405, keep X]) (fun _ _ st => st) ?_
    obtain ⟨r470, z464, hr, h465, h466⟩ := loopM_some h467
    subst hr
    unfold slices_insertionSortOrdered_int_b2 at h465
    try dsimp only at h465
    refine GL.seq ?_
    refine GL.seq ?_
    obtain ⟨y486, K487, h488, h489, h490, h491, h492⟩ := bindF_K h465
    refine GL.join (ι := Bool) (fun (p : Bool) => [(0, v0), (1, .int .i64 x1), (2, .int .i64 x2), (6, .int .i64 x172), (7, .int .i64 x406), (30, .bool p)]) (fun (p : Bool) => [own 3 TR.int v0 l405, keep X]) (fun (p : Bool) => K487 (.nx p)) ?_ ?_
    ·skip
     refine GL.regionQ rfl rfl (by kernel_rfl) ?_
     refine RL.mv rfl rfl rfl ?_
     refine RL.mv rfl rfl rfl ?_
     refine RL.binI (v := .bool (decide (x406 > x1))) rfl rfl rfl rfl rfl ?_
     refine RL.mv rfl rfl rfl ?_
     refine RL.split (t := 19) rfl (fun b493 => ?_) (fun b493 => ?_)
     ·replace h488 := ite_t b493 h488
      refine RL.mv rfl rfl rfl ?_
      refine RL.mv rfl rfl rfl ?_
      obtain ⟨y494, e495, h488⟩ := bind_some h488
      refine RL.idxS (sz := 1) 0 Try.underlying27 Try_ln3 rfl rfl rfl rfl rfl SlOf.own (idx_some e495).1 (idx_some e495).2.1 ?_
      refine RL.ldSx (i := (x406).toNat) (e' := y494) 0 Ex.ik Try_ln3 rfl rfl rfl rfl SlOf.own (idx_some e495).2.2 Part.self ?_
      refine RL.mv rfl rfl rfl ?_
      refine RL.mv rfl rfl rfl ?_
      refine RL.binI (v := .int .i64 (wsub x406 (1 : Int))) rfl rfl rfl rfl rfl ?_
      obtain ⟨y496, e497, h488⟩ := bind_some h488
      refine RL.idxS (sz := 1) 0 Try.underlying27 Try_ln3 rfl rfl rfl rfl rfl SlOf.own (idx_some e497).1 (idx_some e497).2.1 ?_
      refine RL.ldSx (i := (wsub x406 (1 : Int)).toNat) (e' := y496) 0 Ex.ik Try_ln3 rfl rfl rfl rfl SlOf.own (idx_some e497).2.2 Part.self ?_
      obtain ⟨y498, e499, h488⟩ := bind_some h488
      refine RL.callC (v := .bool y498) (vs := [.int .i64 y494, .int .i64 y496]) Try_fit56 rfl rfl rfl rfl (fun U w hU hW hL => cmp_Less_int_c U w hU y494 y496 _ e499) ?_
      refine RL.pickT rfl rfl rfl rfl ?_
      refine RL.finQ ?_
      cases h488
      exact fun a w st => mid_intro y498 h489 (St.cut [0, 1] ⟨rfl, rfl, rfl, rfl, rfl, rfl, trivial⟩ (by decide) rfl st)
     replace h488 := ite_f b493 h488
     refine RL.skip rfl rfl ?_
     refine RL.skip rfl rfl ?_
     refine RL.skip rfl rfl ?_
     refine RL.skip rfl rfl ?_
     refine RL.skip rfl rfl ?_
     refine RL.skip rfl rfl ?_
     refine RL.skip rfl rfl ?_
     refine RL.skip rfl rfl ?_
     refine RL.skip rfl rfl ?_
     refine RL.skip rfl rfl ?_
     refine RL.pickF rfl rfl rfl rfl ?_
     refine RL.finQ ?_
     cases h488
     exact fun a w st => mid_intro false h489 (St.cut [0, 1] ⟨rfl, rfl, rfl, rfl, rfl, rfl, trivial⟩ (by decide) rfl st)
    rintro x485 h500
    have h501 := h490 _ h500
    try dsimp only at h501
    refine GL.weak (env' := [(0, v0), (1, .int .i64 x1), (2, .int .i64 x2), (6, .int .i64 x172), (7, .int .i64 x406), (30, .bool x485)]) (L' := [own 3 TR.int v0 l405, keep X]) (fun _ _ st => st) ?_
    refine GL.cond rfl (fun b502 => ?_) (fun b502 => ?_)
    ·replace h501 := ite_t b502 h501
     refine GL.skip ?_
     refine GL.seq ?_
     refine GL.block ?_
     refine GL.regionA rfl rfl ?_
     refine RA.mv 0 rfl (by kernel_rfl) rfl rfl rfl ?_
     refine RA.mv 1 rfl (by kernel_rfl) rfl rfl rfl ?_
     refine RA.mv 2 rfl (by kernel_rfl) rfl rfl rfl ?_
     refine RA.mv 3 rfl (by kernel_rfl) rfl rfl rfl ?_
     refine RA.binI (v := .int .i64 (wsub x406 (1 : Int))) 4 rfl (by kernel_rfl) rfl rfl rfl rfl rfl ?_
     refine RA.mv 5 rfl (by kernel_rfl) rfl rfl rfl ?_
     refine RA.mv 6 rfl (by kernel_rfl) rfl rfl rfl ?_
     refine RA.binI (v := .int .i64 (wsub x406 (1 : Int))) 7 rfl (by kernel_rfl) rfl rfl rfl rfl rfl ?_
     obtain ⟨y511, e512, h501⟩ := bind_some h501
     refine RA.idxS (sz := 1) 0 Try.underlying27 Try_ln3 8 rfl (by kernel_rfl) rfl rfl rfl rfl rfl SlOf.own (idx_some e512).1 (idx_some e512).2.1 ?_
     refine RA.mv 10 rfl (by kernel_rfl) rfl rfl rfl ?_
     refine RA.mv 11 rfl (by kernel_rfl) rfl rfl rfl ?_
     obtain ⟨y513, e514, h501⟩ := bind_some h501
     refine RA.idxS (sz := 1) 0 Try.underlying27 Try_ln3 12 rfl (by kernel_rfl) rfl rfl rfl rfl rfl SlOf.own (idx_some e514).1 (idx_some e514).2.1 ?_
     refine RA.still (le := #[true, true, true, true, true, true, true, true, true, true, true, true, true, true, true, false, false, false]) (f := 3) [9, 13, 14] 15 rfl (by kernel_rfl) ?_
     simp only [pickOps, List.getElem?_toArray, List.getElem?_cons_succ, List.getElem?_cons_zero]
     refine RL.ldSx (i := (wsub x406 (1 : Int)).toNat) (e' := y511) 0 Ex.ik Try_ln3 rfl rfl rfl rfl SlOf.own (idx_some e512).2.2 Part.self ?_
     refine RL.ldSx (i := (x406).toNat) (e' := y513) 0 Ex.ik Try_ln3 rfl rfl rfl rfl SlOf.own (idx_some e514).2.2 Part.self ?_
     obtain ⟨y515, e516, h501⟩ := bind_some h501
     refine RL.idxS (sz := 1) 0 Try.underlying27 Try_ln3 rfl rfl rfl rfl rfl SlOf.own (idx_some e516).1 (idx_some e516).2.1 ?_
     refine RL.finH ?_
     refine RL.fin ?_
     refine RA.next ?_
     refine RA.seq 15 rfl (by kernel_rfl) ?_
     refine RL.stS (i := (x406).toNat) (e' := y511) (e1 := y511) (r := TR.int) 0 Try_ln3 rfl rfl rfl rfl VR.int rfl (idx_some e516).2.2 Upd.self ?_
     refine RL.fin ?_
     refine RA.next ?_
     obtain ⟨y517, e518, h501⟩ := bind_some h501
     refine RA.idxS (sz := 1) 0 Try.underlying27 Try_ln3 16 rfl (by kernel_rfl) rfl rfl rfl rfl rfl SlOf.own (idx_some e518).1 (idx_some e518).2.1 ?_
     refine RA.seq 17 rfl (by kernel_rfl) ?_
     refine RL.stS (i := (wsub x406 (1 : Int)).toNat) (e' := y513) (e1 := y513) (r := TR.int) 0 Try_ln3 rfl rfl rfl rfl VR.int rfl (idx_some e518).2.2 Upd.self ?_
     refine RL.fin ?_
     refine RA.next ?_
     refine RA.doneG (by kernel_rfl) ?_
     refine GL.weak (env' := [(0, v0), (1, .int .i64 x1), (2, .int .i64 x2), (6, .int .i64 x172), (7, .int .i64 x406)]) (L' := [own 3 TR.int v0 (List.set (List.set l405 ((x406).toNat) y511) ((wsub x406 (1 : Int)).toNat) y513), keep X]) (fun a w st => St.cut [0, 1] ⟨rfl, rfl, rfl, rfl, rfl, trivial⟩ (by decide) rfl st) ?_
     refine GL.nilB ?_
     refine GL.region ?_
     refine RL.mv rfl rfl rfl ?_
     refine RL.binI (v := .int .i64 (wsub x406 (1 : Int))) rfl rfl rfl rfl rfl ?_
     refine RL.asg rfl rfl rfl ?_
     refine RL.finG ?_
     cases h501
     exact fun a w st => lop_intro (r470, (List.set (List.set l405 ((x406).toNat) y511) ((wsub x406 (1 : Int)).toNat) y513), wsub x406 (1 : Int)) (by exact h466) (by simp) (St.cut [0, 1] ⟨rfl, rfl, rfl, rfl, rfl, trivial⟩ (by decide) rfl st)
    replace h501 := ite_f b502 h501
    cases h501
    replace h466 : some (Fl.nx _) = some y455 := h466
    cases h466
    exact GL.exit (fun a w st => mid_intro (l405, x406) h458 (St.cut [0, 1] ⟨rfl, rfl, rfl, rfl, trivial⟩ (by decide) rfl st))
   rintro ⟨l405, x406⟩ h519
   have h520 := h459 _ h519
   try dsimp only at h520
   refine GL.weak (env' := [(0, v0), (1, .int .i64 x1), (2, .int .i64 x2), (6, .int .i64 x172)]) (L' := [own 3 TR.int v0 l405, keep X]) (fun _ _ st => st) ?_
   refine GL.nilB ?_
   refine GL.region ?_
   refine RL.mv rfl rfl rfl ?_
   refine RL.binI (v := .int .i64 (wadd x172 (1 : Int))) rfl rfl rfl rfl rfl ?_
   refine RL.asg rfl rfl rfl ?_
   refine RL.finG ?_
   cases h520
   exact fun a w st => lop_intro (r354, l405, wadd x172 (1 : Int)) (by exact h350) (by simp) (St.cut [0, 1] ⟨rfl, rfl, rfl, rfl, trivial⟩ (by decide) rfl st)
  replace h349 := ite_f b355 h349
  cases h349
  replace h350 : some (Fl.nx _) = some y339 := h350
  cases h350
  exact GL.exit (fun a w st => mid_intro (l171, x172) h342 (St.cut [0, 1] trivial (by decide) rfl st))
 rintro ⟨l171, x172⟩ h521
 have h522 := h343 _ h521
 try dsimp only at h522
 refine GL.weak (env' := []) (L' := [own 3 TR.int v0 l171, keep X]) (fun _ _ st => st) ?_
 have h522 := Option.some.inj h522
 subst h522
 exact GL.nil (Gx.retN (v := .tuple #[]) (res0 rfl) (fun a w st => (st.pick [0, 1] (by decide) rfl).toPostM (V := fun (o : Unit) => .tuple #[]) (LR := fun (o : Unit) => [own 3 TR.int v0 l171, keep X]) ()))

set_option maxHeartbeats 4000000 in
theorem slices_pdqsortOrdered_int_c (B : World) (S X : Hp) (f : Nat → Hp) (w : World) (v0 : Value) (x0 : (List Int)) (hO : HeapOk B.heap.size S f [own 3 TR.int v0 x0, keep X].length w) (hB : Below B.heap.size B w) (hI : Its [own 3 TR.int v0 x0, keep X] S f) (x1 : Int) (x2 : Int) (x3 : Int) (res : (List Int)) (hm : slices_pdqsortOrdered_int_m x0 x1 x2 x3 = some res) : Calls Try.prog 48 #[v0, .int .i64 x1, .int .i64 x2, .int .i64 x3] w (PostM B S (fun (o : Unit) => .tuple #[]) (fun (o : Unit) => [own 3 TR.int v0 res, keep X])) := by
 refine calls_enterM 134 Try.func48 Try.ntmps48 rfl B S f [(0, v0), (1, .int .i64 x1), (2, .int .i64 x2), (3, .int .i64 x3)] [own 3 TR.int v0 x0, keep X] [] rfl ⟨rfl, ⟨rfl, ⟨rfl, ⟨rfl, trivial⟩⟩⟩⟩ hB hO hI trivial ?_
 unfold slices_pdqsortOrdered_int_m at hm
 refine GL.seq ?_
 refine GL.region ?_
 refine RL.asg rfl rfl rfl ?_
 refine RL.finG ?_
 refine GL.seq ?_
 refine GL.region ?_
 refine RL.asg rfl rfl rfl ?_
 refine RL.finG ?_
 obtain ⟨y82, K83, h84, h85, h86, h87, h88⟩ := bindR_K hm
 refine GL.join (ι := (List Int) × Int × Int × Int × Bool × Bool) (fun (p : (List Int) × Int × Int × Int × Bool × Bool) => []) (fun (p : (List Int) × Int × Int × Int × Bool × Bool) => [own 3 TR.int v0 p.1, keep X]) (fun (p : (List Int) × Int × Int × Int × Bool × Bool) => K83 (.nx (p.1, p.2.1, p.2.2.1, p.2.2.2.1, p.2.2.2.2.1, p.2.2.2.2.2))) ?_ ?_
 ·refine GL.block ?_
  refine GL.loop (ι := Nat × (List Int) × Int × Int × Int × Bool × Bool) (fun (p : Nat × (List Int) × Int × Int × Int × Bool × Bool) => [(0, v0), (1, .int .i64 p.2.2.1), (2, .int .i64 p.2.2.2.1), (3, .int .i64 p.2.2.2.2.1), (8, .bool p.2.2.2.2.2.1), (9, .bool p.2.2.2.2.2.2)]) (fun (p : Nat × (List Int) × Int × Int × Int × Bool × Bool) => [own 3 TR.int v0 p.2.1, keep X]) (fun (p : Nat × (List Int) × Int × Int × Int × Bool × Bool) => loopM slices_pdqsortOrdered_int_b1 p.1 (p.2.1, p.2.2.1, p.2.2.2.1, p.2.2.2.2.1, p.2.2.2.2.2.1, p.2.2.2.2.2.2) = some y82) (fun (p : Nat × (List Int) × Int × Int × Int × Bool × Bool) => p.1) (1048576, x0, x1, x2, x3, true, true) h84 (fun a w st => St.cut [0, 1] ⟨rfl, rfl, rfl, rfl, rfl, rfl, trivial⟩ (by decide) rfl st) ?_
  rintro ⟨r90, l43, x44, x45, x46, x47, x48⟩ h94
  try dsimp only at h94
  refine GL.weak (env' := [(0, v0), (1, .int .i64 x44), (2, .int .i64 x45), (3, .int .i64 x46), (8, .bool x47), (9, .bool x48)]) (L' := [own 3 TR.int v0 l43, keep X]) (fun _ _ st => st) ?_
  obtain ⟨r97, z91, hr, h92, h93⟩ := loopM_some h94
  subst hr
  unfold slices_pdqsortOrdered_int_b1 at h92
  try dsimp only at h92
  refine GL.block ?_
  refine GL.seq ?_
  refine GL.region ?_
  refine RL.mv rfl rfl rfl ?_
  refine RL.mv rfl rfl rfl ?_
  refine RL.binI (v := .int .i64 (wsub x45 x44)) rfl rfl rfl rfl rfl ?_
  refine RL.asg rfl rfl rfl ?_
  refine RL.finG ?_
  refine GL.seq ?_
  refine GL.seq ?_
  refine GL.region ?_
  refine RL.mv rfl rfl rfl ?_
  refine RL.binI (v := .bool (decide ((wsub x45 x44) ≤ (12 : Int)))) rfl rfl rfl rfl rfl ?_
  refine RL.finG ?_
  refine GL.cond rfl (fun b98 => ?_) (fun b98 => ?_)
  ·replace h92 := ite_t b98 h92
   refine GL.seq ?_
   refine GL.region ?_
   refine RL.mv rfl rfl rfl ?_
   refine RL.mv rfl rfl rfl ?_
   refine RL.mv rfl rfl rfl ?_
   obtain ⟨y105, e106, h92⟩ := bind_some h92
   refine RL.callK (vs := [v0, .int .i64 x44, .int .i64 x45]) (V := fun (o : Unit) => .tuple #[]) (LR := fun (o : Unit) => [own 3 TR.int v0 y105]) (Ls := [own 3 TR.int v0 l43]) [0] (by decide) Try_fit50 rfl rfl rfl rfl rfl rfl (fun S f X w hO hB hW hI hL => slices_insertionSortOrdered_int_c _ S X f w _ _ hO hB hI x44 x45 _ e106) ?_
   intro _
   refine RL.reL (L' := [gone, keep X, own 3 TR.int v0 y105]) rfl ?_
   refine RL.finG ?_
   cases h92
   replace h93 : some (Fl.rt _) = some y82 := h93
   cases h93
   have hh := h87 _ h85
   subst hh
   exact GL.ret (Gx.ret (v := .tuple #[]) (res0 rfl) (fun a w st => (st.pick [2, 1] (by decide) rfl).toPostM (V := fun (o : Unit) => .tuple #[]) (LR := fun (o : Unit) => [own 3 TR.int v0 y105, keep X]) ()))
  replace h92 := ite_f b98 h92
  refine GL.skip ?_
  refine GL.seq ?_
  refine GL.seq ?_
  refine GL.region ?_
  refine RL.mv rfl rfl rfl ?_
  refine RL.binI (v := .bool (x46 == (0 : Int))) rfl rfl rfl rfl rfl ?_
  refine RL.finG ?_
  refine GL.cond rfl (fun b119 => ?_) (fun b119 => ?_)
  ·replace h92 := ite_t b119 h92
   cases h92
  replace h92 := ite_f b119 h92
  cases h92
 rintro ⟨l43, x44, x45, x46, x47, x48⟩ h131
 have h132 := h86 _ h131
 try dsimp only at h132
 cases h132

set_option maxHeartbeats 4000000 in
theorem slices_Sort_int_int_pc (B : World) (S X : Hp) (f : Nat → Hp) (w : World) (v0 : Value) (x0 : (List Int)) (hO : HeapOk B.heap.size S f [own 3 TR.int v0 x0, keep X].length w) (hB : Below B.heap.size B w) (hI : Its [own 3 TR.int v0 x0, keep X] S f)  (res : (List Int)) (hm : slices_Sort_int_int_p x0 = some res) : Calls Try.prog 46 #[v0] w (PostM B S (fun (o : Unit) => .tuple #[]) (fun (o : Unit) => [own 3 TR.int v0 res, keep X])) := by
 refine calls_enterM 11 Try.func46 Try.ntmps46 rfl B S f [(0, v0)] [own 3 TR.int v0 x0, keep X] [] rfl ⟨rfl, trivial⟩ hB hO hI trivial ?_
 unfold slices_Sort_int_int_p at hm
 refine GL.seq ?_
 refine GL.region ?_
 refine RL.mv rfl rfl rfl ?_
 refine RL.lenS 0 Try.underlying27 rfl rfl rfl rfl SlOf.own ?_
 refine RL.asg rfl rfl rfl ?_
 refine RL.finG ?_
 refine GL.region ?_
 refine RL.mv rfl rfl rfl ?_
 refine RL.mv rfl rfl rfl ?_
 refine RL.mv rfl rfl rfl ?_
 refine RL.cvI Try.underlying3 Try.underlying82 rfl rfl rfl ?_
 obtain ⟨y6, e7, hm⟩ := bind_some hm
 refine RL.callC (v := .int .i64 y6) (vs := [.int .u64 (IntKind.wrap .u64 ((x0).length : Int))]) Try_fit49 rfl rfl rfl rfl (fun U w hU hW hL => math_bits_Len_c U w hU (IntKind.wrap .u64 ((x0).length : Int)) _ e7) ?_
 obtain ⟨y8, e9, hm⟩ := bind_some hm
 refine RL.callK (vs := [v0, .int .i64 (0 : Int), .int .i64 ((x0).length : Int), .int .i64 y6]) (V := fun (o : Unit) => .tuple #[]) (LR := fun (o : Unit) => [own 3 TR.int v0 y8]) (Ls := [own 3 TR.int v0 x0]) [0] (by decide) Try_fit48 rfl rfl rfl rfl rfl rfl (fun S f X w hO hB hW hI hL => slices_pdqsortOrdered_int_c _ S X f w _ _ hO hB hI (0 : Int) ((x0).length : Int) y6 _ e9) ?_
 intro _
 refine RL.reL (L' := [gone, keep X, own 3 TR.int v0 y8]) rfl ?_
 refine RL.finG ?_
 have hm := Option.some.inj hm
 subst hm
 exact GL.nil (Gx.retN (v := .tuple #[]) (res0 rfl) (fun a w st => (st.pick [2, 1] (by decide) rfl).toPostM (V := fun (o : Unit) => .tuple #[]) (LR := fun (o : Unit) => [own 3 TR.int v0 y8, keep X]) ()))
theorem slices_Sort_int_int_c (B : World) (S X : Hp) (f : Nat → Hp) (w : World) (v0 : Value) (x0 : (List Int)) (hO : HeapOk B.heap.size S f [own 3 TR.int v0 x0, keep X].length w) (hB : Below B.heap.size B w) (hI : Its [own 3 TR.int v0 x0, keep X] S f)  (res : (List Int)) (hm : slices_Sort_int_int_m x0 = some res) : Calls Try.prog 46 #[v0] w (PostM B S (fun (o : Unit) => .tuple #[]) (fun (o : Unit) => [own 3 TR.int v0 res, keep X])) := by
  unfold slices_Sort_int_int_m at hm
  by_cases h : x0.length ≤ 12
  · rw [if_pos h] at hm; exact slices_Sort_int_int_pc B S X f w v0 x0 hO hB hI res hm
  · rw [if_neg h] at hm
    by_cases hl : x0.length < 4611686018427387904
    · rw [show chk (x0.length < 4611686018427387904) = some () from if_pos hl] at hm
      cases hm
      exact sort_big Try.lays189 3 B S X f w v0 x0 hO hB hI (by rintro rfl; exact h (Nat.zero_le _)) hl
    · rw [show chk (x0.length < 4611686018427387904) = none from if_neg hl] at hm; cases hm

set_option maxHeartbeats 4000000 in
theorem peak_Middle_c (S : Hp) (w : World) (hS : S.sub w) (v0 : Value) (x0 : (List Int)) (k0 : ((TR.sl TR.int)).vrep S v0 x0) (v1 : Value) (x1 : (List (List Int))) (k1 : ((TR.sl (TR.sl TR.int))).vrep S v1 x1) (res : Int × Int) (hm : peak_Middle_m x0 x1 = some res) : Calls Try.prog 30 #[v0, v1] w (PostV w (.tuple #[.int .i64 res.1, .int .i64 res.2])) := by
 refine calls_enter 52 Try.func30 Try.ntmps30 rfl S false [(0, v0), (1, v1)] [imm (TR.sl TR.int) v0 x0, imm (TR.sl (TR.sl TR.int)) v1 x1] rfl ⟨rfl, ⟨rfl, trivial⟩⟩ hS ⟨k0, ⟨k1, trivial⟩⟩ ?_
 unfold peak_Middle_m at hm
 refine GL.seq ?_
 refine GL.region ?_
 refine RL.asg rfl rfl rfl ?_
 refine RL.asg rfl rfl rfl ?_
 refine RL.finG ?_
 refine GL.seq ?_
 refine GL.region ?_
 refine RL.mv rfl rfl rfl ?_
 refine RL.mv rfl rfl rfl ?_
 obtain ⟨y5, e6, hm⟩ := bind_some hm
 refine RL.callV (v := .tuple #[.bool y5.1, .int .i64 y5.2]) (vs := [v0, v1]) Try_fit28 rfl (Or.inl rfl) rfl rfl rfl rfl (fun U w hU hW hL => peak_All_c U w hU _ _ (hL 0 _ _ rfl Seen.imm) _ _ (hL 1 _ _ rfl Seen.imm) _ e6) ?_
 refine RL.mv rfl rfl rfl ?_
 refine RL.ext rfl rfl rfl rfl ?_
 refine RL.ext rfl rfl rfl rfl ?_
 refine RL.asg rfl rfl rfl ?_
 refine RL.asg rfl rfl rfl ?_
 refine RL.finG ?_
 refine GL.seq ?_
 refine GL.seq ?_
 refine GL.region ?_
 refine RL.mv rfl rfl rfl ?_
 refine RL.binI (v := .bool (y5.2 != (0 : Int))) rfl rfl rfl rfl rfl ?_
 refine RL.finG ?_
 refine GL.cond rfl (fun b7 => ?_) (fun b7 => ?_)
 ·replace hm := ite_t b7 hm
  refine GL.seq ?_
  refine GL.region ?_
  refine RL.mv rfl rfl rfl ?_
  refine RL.asg rfl rfl rfl ?_
  refine RL.asg rfl rfl rfl ?_
  refine RL.finG ?_
  have hm := Option.some.inj hm
  subst hm
  exact GL.ret (Gx.ret (v := .tuple #[.int .i64 (0 : Int), .int .i64 y5.2]) (res2 rfl rfl rfl) (fun a w st => st.toPostV))
 replace hm := ite_f b7 hm
 refine GL.skip ?_
 refine GL.seq ?_
 refine GL.seq ?_
 refine GL.region ?_
 refine RL.mv rfl rfl rfl ?_
 refine RL.notB rfl rfl rfl ?_
 refine RL.finG ?_
 refine GL.cond rfl (fun b8 => ?_) (fun b8 => ?_)
 ·replace hm := ite_t b8 hm
  refine GL.seq ?_
  refine GL.region ?_
  refine RL.asg rfl rfl rfl ?_
  refine RL.asg rfl rfl rfl ?_
  refine RL.finG ?_
  have hm := Option.some.inj hm
  subst hm
  exact GL.ret (Gx.ret (v := .tuple #[.int .i64 (0 : Int), .int .i64 (3 : Int)]) (res2 rfl rfl rfl) (fun a w st => st.toPostV))
 replace hm := ite_f b8 hm
 refine GL.skip ?_
 refine GL.seq ?_
 refine GL.seq ?_
 refine GL.region ?_
 refine RL.mv rfl rfl rfl ?_
 refine RL.lenS 1 Try.underlying37 rfl rfl rfl rfl SlOf.imm ?_
 refine RL.binI (v := .bool (((x1).length : Int) == (0 : Int))) rfl rfl rfl rfl rfl ?_
 refine RL.finG ?_
 refine GL.cond rfl (fun b9 => ?_) (fun b9 => ?_)
 ·replace hm := ite_t b9 hm
  refine GL.seq ?_
  refine GL.region ?_
  refine RL.asg rfl rfl rfl ?_
  refine RL.asg rfl rfl rfl ?_
  refine RL.finG ?_
  have hm := Option.some.inj hm
  subst hm
  exact GL.ret (Gx.ret (v := .tuple #[.int .i64 (0 : Int), .int .i64 (4 : Int)]) (res2 rfl rfl rfl) (fun a w st => st.toPostV))
 replace hm := ite_f b9 hm
 refine GL.skip ?_
 refine GL.seq ?_
 refine GL.region ?_
 refine RL.asg rfl rfl rfl ?_
 refine RL.finG ?_
 refine GL.seq ?_
 refine GL.seq ?_
 refine GL.region ?_
 refine RL.mv rfl rfl rfl ?_
 refine RL.lenS 1 Try.underlying37 rfl rfl rfl rfl SlOf.imm ?_
 refine RL.mv rfl rfl rfl ?_
 refine RL.finG ?_
 refine GL.weak (fun a w st => st.nilOwn 3 TR.int) ?_
 refine GL.open_ 1 rfl (fun S h => len_imm S h) (fun n34 => ?_)
 obtain ⟨y35, K36, h37, h38, h39, h40, h41⟩ := bindR_K hm
 refine GL.join (ι := (List Int) × Value) (fun (p : (List Int) × Value) => [(0, v0), (8, p.2)]) (fun (p : (List Int) × Value) => [imm (TR.sl TR.int) v0 x0, own 3 TR.int p.2 p.1]) (fun (p : (List Int) × Value) => K36 (.nx p.1)) ?_ ?_
 ·refine GL.block ?_
  refine GL.loop (ι := Nat × (List (List Int)) × (List Int) × Value) (fun (p : Nat × (List (List Int)) × (List Int) × Value) => [(0, v0), (8, p.2.2.2), (25, v1), (26, .int .i64 ((x1).length : Int)), (27, .int .i64 (p.1 : Int))]) (fun (p : Nat × (List (List Int)) × (List Int) × Value) => [imm (TR.sl TR.int) v0 x0, own 3 TR.int p.2.2.2 p.2.2.1, imm (TR.sl (TR.sl TR.int)) v1 x1]) (fun (p : Nat × (List (List Int)) × (List Int) × Value) => p.1 + p.2.1.length = (x1).length ∧ List.drop p.1 x1 = p.2.1 ∧ rangeL (peak_Middle_b1 x0) p.2.1 p.1 p.2.2.1 = some y35) (fun (p : Nat × (List (List Int)) × (List Int) × Value) => p.2.1.length) (0, x1, [], Value.slice none 0 0) ⟨by simp, by simp, h37⟩ (fun a w st => St.cut [0, 2, 1] ⟨rfl, rfl, rfl, rfl, rfl, trivial⟩ (by decide) rfl st) ?_
  rintro ⟨i42, r43, l10, v11⟩ ⟨h48, h49, h47⟩
  try dsimp only at h48 h49 h47
  refine GL.weak (env' := [(0, v0), (8, v11), (25, v1), (26, .int .i64 ((x1).length : Int)), (27, .int .i64 (i42 : Int))]) (L' := [imm (TR.sl TR.int) v0 x0, own 3 TR.int v11 l10, imm (TR.sl (TR.sl TR.int)) v1 x1]) (fun _ _ st => st) ?_
  refine GL.seq ?_
  refine GL.region ?_
  refine RL.binI (v := .bool (decide ((i42 : Int) < ((x1).length : Int)))) rfl rfl rfl rfl rfl ?_
  refine RL.finG ?_
  refine GL.seq ?_
  refine GL.cond rfl (fun b50 => ?_) (fun b50 => ?_)
  ·have h51 : i42 < (x1).length := by have := of_decide_eq_true b50; omega
   obtain ⟨y52, r54, hr, e53, h55⟩ := drop_cons h49 rfl h51
   subst hr
   obtain ⟨z44, h45, h46⟩ := rangeL_some h47
   unfold peak_Middle_b1 at h45
   try dsimp only at h45
   refine GL.skip ?_
   refine GL.seq ?_
   refine GL.block ?_
   refine GL.seq ?_
   refine GL.region ?_
   refine RL.idxS (sz := 1) 2 Try.underlying37 Try_ln27 rfl rfl rfl rfl rfl SlOf.imm (by omega) (by omega) ?_
   refine RL.ldS (i := i42) (r := (TR.sl TR.int)) (e' := y52) 2 Try_ln27 rfl rfl rfl rfl SlOf.imm e53 Part.self ?_
   intro v57
   refine RL.asg rfl rfl rfl ?_
   refine RL.finG ?_
   refine GL.region ?_
   refine RL.mv rfl rfl rfl ?_
   refine RL.mv rfl rfl rfl ?_
   refine RL.mv rfl rfl rfl ?_
   obtain ⟨y66, e67, h45⟩ := bind_some h45
   refine RL.idxS (sz := 1) 3 Try.underlying27 Try_ln3 rfl rfl rfl rfl rfl SlOf.imm (idx_some e67).1 (idx_some e67).2.1 ?_
   refine RL.ldSx (i := ((0 : Int)).toNat) (e' := y66) 3 Ex.ik Try_ln3 rfl rfl rfl rfl SlOf.imm (idx_some e67).2.2 Part.self ?_
   obtain ⟨y68, e69, h45⟩ := bind_some h45
   refine RL.callC (v := .int .i64 y68) (vs := [v0, .int .i64 y66]) Try_fit45 rfl rfl rfl rfl (fun U w hU hW hL => slices_Index_int_int_c U w hU _ _ (hL 0 _ _ rfl Seen.imm) y66 _ e69) ?_
   refine RL.bS (t := TR.int) (vs := [.int .i64 y68]) ([y68] : (List Int)) Try.underlying27 Try_lo3 rfl rfl rfl rfl ⟨VR.int, trivial⟩ rfl (by decide) ?_
   intro v70
   refine RL.reL (L' := [imm (TR.sl TR.int) v0 x0, own 3 TR.int v11 l10, imm (TR.sl (TR.sl TR.int)) v1 x1, imm (TR.sl TR.int) v57 y52, own 3 TR.int v70 ([y68] : (List Int))]) rfl ?_
   obtain ⟨y71, e72, h45⟩ := bind_some h45
   replace e72 := chk_some e72
   refine RL.app 1 4 Try.underlying27 Try_lo3 rfl rfl rfl rfl rfl rfl rfl SlOf.own e72 ?_
   intro v73
   refine RL.asg rfl rfl rfl ?_
   refine RL.finG ?_
   refine GL.nilB ?_
   refine GL.region ?_
   refine RL.binI (v := .int .i64 ((i42 + 1 : Nat) : Int)) rfl rfl rfl rfl (binI_succ i42 (by omega)) ?_
   refine RL.mv rfl rfl rfl ?_
   refine RL.fin ?_
   cases h45
   exact fun a w st => lop_intro (i42 + 1, r54, (l10 ++ ([y68] : (List Int))), v73) ⟨by show i42 + 1 + r54.length = (x1).length; simp only [List.length_cons] at h48; omega, h55, h46⟩ (by simp) (St.cut [0, 1, 2] ⟨rfl, rfl, rfl, rfl, rfl, trivial⟩ (by decide) rfl st)
  have h51 : ¬ i42 < (x1).length := by have := of_decide_eq_false b50; omega
  obtain rfl : r43 = [] := by rw [← h49]; exact List.drop_of_length_le (by omega)
  replace h47 : some (Fl.nx _) = some y35 := h47
  cases h47
  exact GL.exit (fun a w st => mid_intro (l10, v11) h38 (St.cut [0, 1] ⟨rfl, rfl, trivial⟩ (by decide) rfl st))
 rintro ⟨l10, v11⟩ h74
 have h75 := h39 _ h74
 try dsimp only at h75
 refine GL.weak (env' := [(0, v0), (8, v11)]) (L' := [imm (TR.sl TR.int) v0 x0, own 3 TR.int v11 l10]) (fun _ _ st => st) ?_
 refine GL.seq ?_
 refine GL.region ?_
 refine RL.mv rfl rfl rfl ?_
 obtain ⟨y78, e79, h75⟩ := bind_some h75
 refine RL.callK (vs := [v11]) (V := fun (o : Unit) => .tuple #[]) (LR := fun (o : Unit) => [own 3 TR.int v11 y78]) (Ls := [own 3 TR.int v11 l10]) [1] (by decide) Try_fit46 rfl rfl rfl rfl rfl rfl (fun S f X w hO hB hW hI hL => slices_Sort_int_int_c _ S X f w _ _ hO hB hI  _ e79) ?_
 intro _
 refine RL.reL (L' := [imm (TR.sl TR.int) v0 x0, gone, own 3 TR.int v11 y78]) rfl ?_
 refine RL.finG ?_
 refine GL.seq ?_
 refine GL.region ?_
 refine RL.mv rfl rfl rfl ?_
 refine RL.mv rfl rfl rfl ?_
 refine RL.mv rfl rfl rfl ?_
 refine RL.lenS 2 Try.underlying27 rfl rfl rfl rfl SlOf.own ?_
 refine RL.binI (v := .int .i64 (wsub ((y78).length : Int) (1 : Int))) rfl rfl rfl rfl rfl ?_
 obtain ⟨y86, e87, h75⟩ := bind_some h75
 replace e87 := chk_some e87
 refine RL.quo rfl rfl rfl rfl e87 ?_
 obtain ⟨y88, e89, h75⟩ := bind_some h75
 refine RL.idxS (sz := 1) 2 Try.underlying27 Try_ln3 rfl rfl rfl rfl rfl SlOf.own (idx_some e89).1 (idx_some e89).2.1 ?_
 refine RL.ldSx (i := (IntKind.wrap .i64 (Int.tdiv (wsub ((y78).length : Int) (1 : Int)) (2 : Int))).toNat) (e' := y88) 2 Ex.ik Try_ln3 rfl rfl rfl rfl SlOf.own (idx_some e89).2.2 Part.self ?_
 obtain ⟨y90, e91, h75⟩ := bind_some h75
 refine RL.idxS (sz := 1) 0 Try.underlying27 Try_ln3 rfl rfl rfl rfl rfl SlOf.imm (idx_some e91).1 (idx_some e91).2.1 ?_
 refine RL.ldSx (i := (y88).toNat) (e' := y90) 0 Ex.ik Try_ln3 rfl rfl rfl rfl SlOf.imm (idx_some e91).2.2 Part.self ?_
 refine RL.asg rfl rfl rfl ?_
 refine RL.asg rfl rfl rfl ?_
 refine RL.finG ?_
 have h75 := Option.some.inj h75
 subst h75
 exact GL.ret (Gx.ret (v := .tuple #[.int .i64 y90, .int .i64 (0 : Int)]) (res2 rfl rfl rfl) (fun a w st => st.toPostV))

set_option maxHeartbeats 4000000 in
theorem slices_IndexFunc_rows_c (S : Hp) (w : World) (hS : S.sub w) (v0 : Value) (x0 : (List (List Int))) (k0 : ((TR.sl (TR.sl TR.int))).vrep S v0 x0) (f1 : FuncId) (c1 : Array Value) (t1 : Fit Try.prog f1) (g1 : (List Int) → Option Bool) (k1 : ∀ (U : Hp) (w' : World), Hp.le S U → U.sub w' → ∀ (u0 : Value) (a0 : (List Int)) (_ : ((TR.sl TR.int)).vrep U u0 a0) (rr : Bool), g1 a0 = some rr → Calls Try.prog f1 (#[u0] ++ c1) w' (PostV w' (.bool rr))) (res : Int) (hm : slices_IndexFunc_rows_m x0 g1 = some res) : Calls Try.prog 37 #[v0, .func (.func f1) #[] c1] w (PostV w (.int .i64 res)) := by
 refine calls_enter 19 Try.func37 Try.ntmps37 rfl S false [(0, v0), (1, .func (.func f1) #[] c1)] [imm (TR.sl (TR.sl TR.int)) v0 x0] rfl ⟨rfl, ⟨rfl, trivial⟩⟩ hS ⟨k0, trivial⟩ ?_
 unfold slices_IndexFunc_rows_m at hm
 refine GL.seq ?_
 refine GL.region ?_
 refine RL.asg rfl rfl rfl ?_
 refine RL.finG ?_
 refine GL.seq ?_
 refine GL.seq ?_
 refine GL.region ?_
 refine RL.mv rfl rfl rfl ?_
 refine RL.lenS 0 Try.underlying37 rfl rfl rfl rfl SlOf.imm ?_
 refine RL.mv rfl rfl rfl ?_
 refine RL.finG ?_
 refine GL.open_ 0 rfl (fun S h => len_imm S h) (fun n14 => ?_)
 obtain ⟨y15, K16, h17, h18, h19, h20, h21⟩ := bindR_K hm
 refine GL.join (ι := Unit) (fun (p : Unit) => []) (fun (p : Unit) => []) (fun (p : Unit) => K16 (.nx ())) ?_ ?_
 ·refine GL.block ?_
  refine GL.loop (ι := Nat × (List (List Int))) (fun (p : Nat × (List (List Int))) => [(0, v0), (1, .func (.func f1) #[] c1), (7, .int .i64 ((x0).length : Int)), (8, .int .i64 (p.1 : Int))]) (fun (p : Nat × (List (List Int))) => [imm (TR.sl (TR.sl TR.int)) v0 x0]) (fun (p : Nat × (List (List Int))) => p.1 + p.2.length = (x0).length ∧ List.drop p.1 x0 = p.2 ∧ rangeL (slices_IndexFunc_rows_b1 g1) p.2 p.1 () = some y15) (fun (p : Nat × (List (List Int))) => p.2.length) (0, x0) ⟨by simp, by simp, h17⟩ (fun a w st => St.cut [0] ⟨rfl, rfl, rfl, rfl, trivial⟩ (by decide) rfl st) ?_
  rintro ⟨i22, r23⟩ ⟨h28, h29, h27⟩
  try dsimp only at h28 h29 h27
  refine GL.weak (env' := [(0, v0), (1, .func (.func f1) #[] c1), (7, .int .i64 ((x0).length : Int)), (8, .int .i64 (i22 : Int))]) (L' := [imm (TR.sl (TR.sl TR.int)) v0 x0]) (fun _ _ st => st) ?_
  refine GL.seq ?_
  refine GL.region ?_
  refine RL.binI (v := .bool (decide ((i22 : Int) < ((x0).length : Int)))) rfl rfl rfl rfl rfl ?_
  refine RL.finG ?_
  refine GL.seq ?_
  refine GL.cond rfl (fun b30 => ?_) (fun b30 => ?_)
  ·have h31 : i22 < (x0).length := by have := of_decide_eq_true b30; omega
   obtain ⟨y32, r34, hr, e33, h35⟩ := drop_cons h29 rfl h31
   subst hr
   obtain ⟨z24, h25, h26⟩ := rangeL_some h27
   unfold slices_IndexFunc_rows_b1 at h25
   try dsimp only at h25
   refine GL.skip ?_
   refine GL.seq ?_
   refine GL.block ?_
   refine GL.seq ?_
   refine GL.region ?_
   refine RL.mv rfl rfl rfl ?_
   refine RL.asg rfl rfl rfl ?_
   refine RL.finG ?_
   refine GL.seq ?_
   refine GL.region ?_
   refine RL.mv rfl rfl rfl ?_
   refine RL.mv rfl rfl rfl ?_
   refine RL.mv rfl rfl rfl ?_
   refine RL.idxS (sz := 1) 0 Try.underlying37 Try_ln27 rfl rfl rfl rfl rfl SlOf.imm (by omega) (by omega) ?_
   refine RL.ldS (i := i22) (r := (TR.sl TR.int)) (e' := y32) 0 Try_ln27 rfl rfl rfl rfl SlOf.imm e33 Part.self ?_
   intro v39
   obtain ⟨y40, e41, h25⟩ := bind_some h25
   refine RL.callV (v := .bool y40) (vs := [v39]) t1 rfl (Or.inl rfl) rfl rfl rfl rfl (fun U w hU hW hL => k1 U w hW hU _ _ (hL 1 _ _ rfl Seen.imm) _ e41) ?_
   refine RL.finG ?_
   refine GL.cond rfl (fun b42 => ?_) (fun b42 => ?_)
   ·replace h25 := ite_t b42 h25
    refine GL.seq ?_
    refine GL.region ?_
    refine RL.mv rfl rfl rfl ?_
    refine RL.asg rfl rfl rfl ?_
    refine RL.finG ?_
    cases h25
    replace h26 : some (Fl.rt _) = some y15 := h26
    cases h26
    have hh := h20 _ h18
    subst hh
    exact GL.ret (Gx.ret (v := .int .i64 (i22 : Int)) (res1 rfl rfl) (fun a w st => st.toPostV))
   replace h25 := ite_f b42 h25
   refine GL.skip ?_
   refine GL.nilB ?_
   refine GL.region ?_
   refine RL.binI (v := .int .i64 ((i22 + 1 : Nat) : Int)) rfl rfl rfl rfl (binI_succ i22 (by omega)) ?_
   refine RL.mv rfl rfl rfl ?_
   refine RL.fin ?_
   cases h25
   exact fun a w st => lop_intro (i22 + 1, r34) ⟨by show i22 + 1 + r34.length = (x0).length; simp only [List.length_cons] at h28; omega, h35, h26⟩ (by simp) (St.cut [0] ⟨rfl, rfl, rfl, rfl, trivial⟩ (by decide) rfl st)
  have h31 : ¬ i22 < (x0).length := by have := of_decide_eq_false b30; omega
  obtain rfl : r23 = [] := by rw [← h29]; exact List.drop_of_length_le (by omega)
  replace h27 : some (Fl.nx _) = some y15 := h27
  cases h27
  exact GL.exit (fun a w st => mid_intro () h18 (St.cut [] trivial (by decide) rfl st))
 rintro ⟨⟩ h43
 have h44 := h19 _ h43
 try dsimp only at h44
 refine GL.weak (env' := []) (L' := []) (fun _ _ st => st) ?_
 refine GL.seq ?_
 refine GL.region ?_
 refine RL.asg rfl rfl rfl ?_
 refine RL.finG ?_
 have h44 := Option.some.inj h44
 subst h44
 exact GL.ret (Gx.ret (v := .int .i64 (-1 : Int)) (res1 rfl rfl) (fun a w st => st.toPostV))

set_option maxHeartbeats 4000000 in
theorem slices_ContainsFunc_rows_c (S : Hp) (w : World) (hS : S.sub w) (v0 : Value) (x0 : (List (List Int))) (k0 : ((TR.sl (TR.sl TR.int))).vrep S v0 x0) (f1 : FuncId) (c1 : Array Value) (t1 : Fit Try.prog f1) (g1 : (List Int) → Option Bool) (k1 : ∀ (U : Hp) (w' : World), Hp.le S U → U.sub w' → ∀ (u0 : Value) (a0 : (List Int)) (_ : ((TR.sl TR.int)).vrep U u0 a0) (rr : Bool), g1 a0 = some rr → Calls Try.prog f1 (#[u0] ++ c1) w' (PostV w' (.bool rr))) (res : Bool) (hm : slices_ContainsFunc_rows_m x0 g1 = some res) : Calls Try.prog 21 #[v0, .func (.func f1) #[] c1] w (PostV w (.bool res)) := by
 refine calls_enter 9 Try.func21 Try.ntmps21 rfl S false [(0, v0), (1, .func (.func f1) #[] c1)] [imm (TR.sl (TR.sl TR.int)) v0 x0] rfl ⟨rfl, ⟨rfl, trivial⟩⟩ hS ⟨k0, trivial⟩ ?_
 unfold slices_ContainsFunc_rows_m at hm
 refine GL.seq ?_
 refine GL.region ?_
 refine RL.asg rfl rfl rfl ?_
 refine RL.finG ?_
 refine GL.seq ?_
 refine GL.region ?_
 refine RL.mv rfl rfl rfl ?_
 refine RL.mv rfl rfl rfl ?_
 obtain ⟨y5, e6, hm⟩ := bind_some hm
 refine RL.callV (v := .int .i64 y5) (vs := [v0, .func (.func f1) #[] c1]) Try_fit37 rfl (Or.inl rfl) rfl rfl rfl rfl (fun U w hU hW hL => slices_IndexFunc_rows_c U w hU _ _ (hL 0 _ _ rfl Seen.imm) f1 c1 t1 g1 (fun U' w' hle => k1 U' w' (Hp.le_trans hW hle)) _ e6) ?_
 refine RL.binI (v := .bool (decide (y5 ≥ (0 : Int)))) rfl rfl rfl rfl rfl ?_
 refine RL.asg rfl rfl rfl ?_
 refine RL.finG ?_
 have hm := Option.some.inj hm
 subst hm
 exact GL.ret (Gx.ret (v := .bool (decide (y5 ≥ (0 : Int)))) (res1 rfl rfl) (fun a w st => st.toPostV))

set_option maxHeartbeats 4000000 in
theorem pk_tableOf_1_c (S : Hp) (w : World) (hS : S.sub w) (v0 : Value) (x0 : (List Int)) (k0 : ((TR.sl TR.int)).vrep S v0 x0) (v1 : Value) (x1 : Int) (k1 : ((TR.ptr TR.int)).vrep S v1 x1) (res : Bool) (hm : pk_tableOf_1_m x0 x1 = some res) : Calls Try.prog 44 #[v0, v1] w (PostC w (.bool res)) := by
 refine calls_enter 8 Try.func44 Try.ntmps44 rfl S true [(0, v0), (1, v1)] [imm (TR.sl TR.int) v0 x0, imm (TR.ptr TR.int) v1 x1] rfl ⟨rfl, ⟨rfl, trivial⟩⟩ hS ⟨k0, ⟨k1, trivial⟩⟩ ?_
 unfold pk_tableOf_1_m at hm
 refine GL.seq ?_
 refine GL.region ?_
 refine RL.asg rfl rfl rfl ?_
 refine RL.finG ?_
 refine GL.seq ?_
 refine GL.region ?_
 refine RL.mv rfl rfl rfl ?_
 refine RL.lenS 0 Try.underlying27 rfl rfl rfl rfl SlOf.imm ?_
 refine RL.ldPx (off := 0) (e' := x1) 1 Ex.ik Try_ln3 rfl rfl (Or.inr ⟨rfl, rfl⟩) rfl PtOf.imm Part.self ?_
 refine RL.binI (v := .bool (((x0).length : Int) != x1)) rfl rfl rfl rfl rfl ?_
 refine RL.asg rfl rfl rfl ?_
 refine RL.finG ?_
 have hm := Option.some.inj hm
 subst hm
 exact GL.ret (Gx.ret (v := .bool (((x0).length : Int) != x1)) (res1 rfl rfl) (fun a w st => st.toPostC rfl))

set_option maxHeartbeats 4000000 in
theorem pk_tableOf_c (S : Hp) (w : World) (hS : S.sub w) (v0 : Value) (x0 : (List (List Int))) (k0 : ((TR.sl (TR.sl TR.int))).vrep S v0 x0) (x1 : Int) (res : Bool) (hm : pk_tableOf_m x0 x1 = some res) : Calls Try.prog 29 #[v0, .int .i64 x1] w (PostV w (.bool res)) := by
 refine calls_enter 15 Try.func29 Try.ntmps29 rfl S false [(0, v0), (1, .int .i64 x1)] [imm (TR.sl (TR.sl TR.int)) v0 x0] rfl ⟨rfl, ⟨rfl, trivial⟩⟩ hS ⟨k0, trivial⟩ ?_
 unfold pk_tableOf_m at hm
 refine GL.seq ?_
 refine GL.region ?_
 refine RL.box (t := TR.int) (e := x1) rfl rfl rfl rfl VR.int ?_
 intro v4
 refine RL.asg rfl rfl rfl ?_
 refine RL.finG ?_
 refine GL.seq ?_
 obtain ⟨y12, K13, h14, h15, h16, h17, h18⟩ := bindR_K hm
 refine GL.join (ι := Bool) (fun (p : Bool) => [(4, .bool p)]) (fun (p : Bool) => []) (fun (p : Bool) => K13 (.nx p)) ?_ ?_
 ·skip
  refine GL.region ?_
  refine RL.mv rfl rfl rfl ?_
  refine RL.lenS 0 Try.underlying37 rfl rfl rfl rfl SlOf.imm ?_
  refine RL.ldPx (off := 0) (e' := x1) 1 Ex.ik Try_ln3 rfl rfl (Or.inr ⟨rfl, rfl⟩) rfl PtOf.obox Part.self ?_
  refine RL.binI (v := .bool (((x0).length : Int) == x1)) rfl rfl rfl rfl rfl ?_
  refine RL.mv rfl rfl rfl ?_
  refine RL.split (t := 9) rfl (fun b19 => ?_) (fun b19 => ?_)
  ·replace h14 := ite_t b19 h14
   refine RL.mv rfl rfl rfl ?_
   refine RL.mkF (vs := [v4]) rfl rfl rfl ?_
   obtain ⟨y20, e21, h14⟩ := bind_some h14
   refine RL.callV (v := .bool y20) (vs := [v0, .func (.func 44) #[] #[v4]]) Try_fit21 rfl (Or.inl rfl) rfl rfl rfl rfl (fun U w hU hW hL => slices_ContainsFunc_rows_c U w hU _ _ (hL 0 _ _ rfl Seen.imm) 44 #[v4] Try_fit44 (fun a0 => pk_tableOf_1_m a0 x1) (fun U' w' hle hU' u0 a0 q0 rr hr => (pk_tableOf_1_c U' w' hU' u0 a0 q0 _ _ (TR.vrep_mono hle (hL 1 _ _ rfl Seen.obox)) rr hr).mono (fun _ _ z => z.toV)) _ e21) ?_
   refine RL.notB rfl rfl rfl ?_
   refine RL.pickT rfl rfl rfl rfl ?_
   refine RL.asg rfl rfl rfl ?_
   refine RL.fin ?_
   cases h14
   exact fun a w st => mid_intro (!y20) h15 (St.cut [] ⟨rfl, trivial⟩ (by decide) rfl st)
  replace h14 := ite_f b19 h14
  refine RL.skip rfl rfl ?_
  refine RL.skip rfl rfl ?_
  refine RL.skip rfl rfl ?_
  refine RL.skip rfl rfl ?_
  refine RL.pickF rfl rfl rfl rfl ?_
  refine RL.asg rfl rfl rfl ?_
  refine RL.fin ?_
  cases h14
  exact fun a w st => mid_intro false h15 (St.cut [] ⟨rfl, trivial⟩ (by decide) rfl st)
 rintro x11 h22
 have h23 := h16 _ h22
 try dsimp only at h23
 refine GL.weak (env' := [(4, .bool x11)]) (L' := []) (fun _ _ st => st) ?_
 have h23 := Option.some.inj h23
 subst h23
 exact GL.ret (Gx.ret (v := .bool x11) (res1 rfl rfl) (fun a w st => st.toPostV))

set_option maxHeartbeats 4000000 in
theorem pk_PeakBlack_c (S : Hp) (w : World) (hS : S.sub w) (x0 : Int) (v1 : Value) (x1 : (List Int)) (k1 : ((TR.sl TR.int)).vrep S v1 x1) (v2 : Value) (x2 : (List (List Int))) (k2 : ((TR.sl (TR.sl TR.int))).vrep S v2 x2) (res : Bool) (hm : pk_PeakBlack_m x0 x1 x2 = some res) : Calls Try.prog 7 #[.int .i64 x0, v1, v2] w (PostV w (.bool res)) := by
 refine calls_enter 137 Try.func7 Try.ntmps7 rfl S false [(0, .int .i64 x0), (1, v1), (2, v2)] [imm (TR.sl TR.int) v1 x1, imm (TR.sl (TR.sl TR.int)) v2 x2] rfl ⟨rfl, ⟨rfl, ⟨rfl, trivial⟩⟩⟩ hS ⟨k1, ⟨k2, trivial⟩⟩ ?_
 unfold pk_PeakBlack_m at hm
 refine GL.seq ?_
 refine GL.region ?_
 refine RL.asg rfl rfl rfl ?_
 refine RL.finG ?_
 refine GL.seq ?_
 refine GL.seq ?_
 obtain ⟨y15, K16, h17, h18, h19, h20, h21⟩ := bindR_K hm
 refine GL.join (ι := Bool) (fun (p : Bool) => [(0, .int .i64 x0), (1, v1), (2, v2), (25, .bool p)]) (fun (p : Bool) => [imm (TR.sl TR.int) v1 x1, imm (TR.sl (TR.sl TR.int)) v2 x2]) (fun (p : Bool) => K16 (.nx p)) ?_ ?_
 ·skip
  refine GL.region ?_
  obtain ⟨y22, e23, h17⟩ := bind_some h17
  refine RL.callV (v := .bool y22) (vs := []) Try_fit24 rfl (Or.inl rfl) rfl rfl rfl rfl (fun U w hU hW hL => pk_peaks_c U w hU  _ e23) ?_
  refine RL.notB rfl rfl rfl ?_
  refine RL.mv rfl rfl rfl ?_
  refine RL.split (t := 22) rfl (fun b24 => ?_) (fun b24 => ?_)
  ·replace h17 := ite_t b24 h17
   refine RL.skip rfl rfl ?_
   refine RL.skip rfl rfl ?_
   refine RL.pickT rfl rfl rfl rfl ?_
   refine RL.fin ?_
   cases h17
   exact fun a w st => mid_intro true h18 (St.cut [0, 1] ⟨rfl, rfl, rfl, rfl, trivial⟩ (by decide) rfl st)
  replace h17 := ite_f b24 h17
  obtain ⟨y25, e26, h17⟩ := bind_some h17
  refine RL.callV (v := .bool y25) (vs := []) Try_fit25 rfl (Or.inl rfl) rfl rfl rfl rfl (fun U w hU hW hL => pk_tallies_c U w hU  _ e26) ?_
  refine RL.notB rfl rfl rfl ?_
  refine RL.pickF rfl rfl rfl rfl ?_
  refine RL.fin ?_
  cases h17
  exact fun a w st => mid_intro (!y25) h18 (St.cut [0, 1] ⟨rfl, rfl, rfl, rfl, trivial⟩ (by decide) rfl st)
 rintro x14 h27
 have h28 := h19 _ h27
 try dsimp only at h28
 refine GL.weak (env' := [(0, .int .i64 x0), (1, v1), (2, v2), (25, .bool x14)]) (L' := [imm (TR.sl TR.int) v1 x1, imm (TR.sl (TR.sl TR.int)) v2 x2]) (fun _ _ st => st) ?_
 refine GL.cond rfl (fun b29 => ?_) (fun b29 => ?_)
 ·replace h28 := ite_t b29 h28
  refine GL.seq ?_
  refine GL.region ?_
  refine RL.asg rfl rfl rfl ?_
  refine RL.finG ?_
  have h28 := Option.some.inj h28
  subst h28
  exact GL.ret (Gx.ret (v := .bool false) (res1 rfl rfl) (fun a w st => st.toPostV))
 replace h28 := ite_f b29 h28
 refine GL.skip ?_
 refine GL.seq ?_
 refine GL.region ?_
 refine RL.mv rfl rfl rfl ?_
 obtain ⟨y32, e33, h28⟩ := bind_some h28
 refine RL.callC (v := .int .i64 y32) (vs := [.int .i64 x0, .int .i64 (6 : Int)]) Try_fit10 rfl rfl rfl rfl (fun U w hU hW hL => pk_Within_c U w hU x0 (6 : Int) _ e33) ?_
 refine RL.binI (v := .int .i64 (wadd (1 : Int) y32)) rfl rfl rfl rfl rfl ?_
 refine RL.asg rfl rfl rfl ?_
 refine RL.finG ?_
 refine GL.seq ?_
 refine GL.region ?_
 refine RL.mv rfl rfl rfl ?_
 refine RL.mv rfl rfl rfl ?_
 obtain ⟨y37, e38, h28⟩ := bind_some h28
 refine RL.call (vs := [.int .i64 (wadd (1 : Int) y32), v1]) Try_fit26 rfl rfl rfl rfl rfl (fun S f w hS hW hi => pk_OrderOf_c S w hS (wadd (1 : Int) y32) _ _ (hi 0 _ rfl) _ e38) ?_
 intro v39
 refine RL.asg rfl rfl rfl ?_
 refine RL.finG ?_
 refine GL.seq ?_
 refine GL.region ?_
 refine RL.asg rfl rfl rfl ?_
 refine RL.finG ?_
 refine GL.seq ?_
 refine GL.seq ?_
 refine GL.region ?_
 refine RL.mv rfl rfl rfl ?_
 refine RL.mv rfl rfl rfl ?_
 refine RL.lenS 1 Try.underlying37 rfl rfl rfl rfl SlOf.imm ?_
 refine RL.minI rfl rfl rfl rfl ?_
 obtain ⟨y43, e44, h28⟩ := bind_some h28
 replace e44 := chk_some e44
 refine RL.slc (t := (TR.sl TR.int)) (i := 0) (j := (if (30 : Int) < ((x2).length : Int) then (30 : Int) else ((x2).length : Int)).toNat) (sz := 1) 1 Try.underlying37 Try_ln27 rfl rfl rfl rfl (Or.inl ⟨rfl, rfl⟩) (Or.inr ⟨_, _, rfl, by rw [Int.toNat_of_nonneg (by omega)]; rfl⟩) rfl (by omega) (by omega) ?_
 intro v45
 refine RL.reL (L' := [imm (TR.sl TR.int) v1 x1, imm (TR.sl (TR.sl TR.int)) v2 x2, own 3 TR.int v39 y37, imm (TR.sl (TR.sl TR.int)) v45 ((List.take ((if (30 : Int) < ((x2).length : Int) then (30 : Int) else ((x2).length : Int)).toNat) x2).drop 0)]) rfl ?_
 refine RL.lenS 3 Try.underlying37 rfl rfl rfl rfl SlOf.imm ?_
 refine RL.mv rfl rfl rfl ?_
 refine RL.finG ?_
 refine GL.weak (fun a w st => st.nilOwn 27 (TR.sl TR.int)) ?_
 refine GL.open_ 3 rfl (fun S h => len_imm S h) (fun n68 => ?_)
 obtain ⟨y69, K70, h71, h72, h73, h74, h75⟩ := bindR_K h28
 refine GL.join (ι := (List (List Int)) × Value) (fun (p : (List (List Int)) × Value) => [(0, .int .i64 (wadd (1 : Int) y32)), (7, v39), (8, p.2)]) (fun (p : (List (List Int)) × Value) => [own 3 TR.int v39 y37, own 27 (TR.sl TR.int) p.2 p.1]) (fun (p : (List (List Int)) × Value) => K70 (.nx p.1)) ?_ ?_
 ·refine GL.block ?_
  refine GL.loop (ι := Nat × (List (List Int)) × (List (List Int)) × Value) (fun (p : Nat × (List (List Int)) × (List (List Int)) × Value) => [(0, .int .i64 (wadd (1 : Int) y32)), (7, v39), (8, p.2.2.2), (36, v45), (37, .int .i64 ((((List.take ((if (30 : Int) < ((x2).length : Int) then (30 : Int) else ((x2).length : Int)).toNat) x2).drop 0)).length : Int)), (38, .int .i64 (p.1 : Int))]) (fun (p : Nat × (List (List Int)) × (List (List Int)) × Value) => [own 3 TR.int v39 y37, own 27 (TR.sl TR.int) p.2.2.2 p.2.2.1, imm (TR.sl (TR.sl TR.int)) v45 ((List.take ((if (30 : Int) < ((x2).length : Int) then (30 : Int) else ((x2).length : Int)).toNat) x2).drop 0)]) (fun (p : Nat × (List (List Int)) × (List (List Int)) × Value) => p.1 + p.2.1.length = (((List.take ((if (30 : Int) < ((x2).length : Int) then (30 : Int) else ((x2).length : Int)).toNat) x2).drop 0)).length ∧ List.drop p.1 ((List.take ((if (30 : Int) < ((x2).length : Int) then (30 : Int) else ((x2).length : Int)).toNat) x2).drop 0) = p.2.1 ∧ rangeL (pk_PeakBlack_b1 y37) p.2.1 p.1 p.2.2.1 = some y69) (fun (p : Nat × (List (List Int)) × (List (List Int)) × Value) => p.2.1.length) (0, ((List.take ((if (30 : Int) < ((x2).length : Int) then (30 : Int) else ((x2).length : Int)).toNat) x2).drop 0), [], Value.slice none 0 0) ⟨by simp, by simp, h71⟩ (fun a w st => St.cut [2, 4, 3] ⟨rfl, rfl, rfl, rfl, rfl, rfl, trivial⟩ (by decide) rfl st) ?_
  rintro ⟨i76, r77, l46, v47⟩ ⟨h82, h83, h81⟩
  try dsimp only at h82 h83 h81
  refine GL.weak (env' := [(0, .int .i64 (wadd (1 : Int) y32)), (7, v39), (8, v47), (36, v45), (37, .int .i64 ((((List.take ((if (30 : Int) < ((x2).length : Int) then (30 : Int) else ((x2).length : Int)).toNat) x2).drop 0)).length : Int)), (38, .int .i64 (i76 : Int))]) (L' := [own 3 TR.int v39 y37, own 27 (TR.sl TR.int) v47 l46, imm (TR.sl (TR.sl TR.int)) v45 ((List.take ((if (30 : Int) < ((x2).length : Int) then (30 : Int) else ((x2).length : Int)).toNat) x2).drop 0)]) (fun _ _ st => st) ?_
  refine GL.seq ?_
  refine GL.region ?_
  refine RL.binI (v := .bool (decide ((i76 : Int) < ((((List.take ((if (30 : Int) < ((x2).length : Int) then (30 : Int) else ((x2).length : Int)).toNat) x2).drop 0)).length : Int)))) rfl rfl rfl rfl rfl ?_
  refine RL.finG ?_
  refine GL.seq ?_
  refine GL.cond rfl (fun b84 => ?_) (fun b84 => ?_)
  ·have h85 : i76 < (((List.take ((if (30 : Int) < ((x2).length : Int) then (30 : Int) else ((x2).length : Int)).toNat) x2).drop 0)).length := by have := of_decide_eq_true b84; omega
   obtain ⟨y86, r88, hr, e87, h89⟩ := drop_cons h83 rfl h85
   subst hr
   obtain ⟨z78, h79, h80⟩ := rangeL_some h81
   unfold pk_PeakBlack_b1 at h79
   try dsimp only at h79
   refine GL.skip ?_
   refine GL.seq ?_
   refine GL.block ?_
   refine GL.seq ?_
   refine GL.region ?_
   refine RL.idxS (sz := 1) 2 Try.underlying37 Try_ln27 rfl rfl rfl rfl rfl SlOf.imm (by omega) (by omega) ?_
   refine RL.ldS (i := i76) (r := (TR.sl TR.int)) (e' := y86) 2 Try_ln27 rfl rfl rfl rfl SlOf.imm e87 Part.self ?_
   intro v91
   refine RL.asg rfl rfl rfl ?_
   refine RL.finG ?_
   refine GL.region ?_
   refine RL.mv rfl rfl rfl ?_
   refine RL.mv rfl rfl rfl ?_
   refine RL.mv rfl rfl rfl ?_
   obtain ⟨y99, e100, h79⟩ := bind_some h79
   refine RL.callU (vs := [v39, v91]) (LR := fun (o : Value) => [own 3 TR.int o y99]) (fun o => ⟨Loc.own TR.flatT_ik, trivial⟩) Try_fit27 rfl rfl rfl rfl rfl (fun U w hU hW hL => pk_along_c U w hU _ _ (hL 0 _ _ rfl Seen.own) _ _ (hL 3 _ _ rfl Seen.imm) _ e100) ?_
   intro v101
   refine RL.weak (fun a w st => st.freeze 4 rfl) ?_
   refine RL.bS (t := (TR.sl TR.int)) (vs := [v101]) ([y99] : (List (List Int))) Try.underlying37 Try_lo27 rfl rfl rfl rfl ⟨(VR.item 4 rfl), trivial⟩ rfl (by decide) ?_
   intro v102
   refine RL.reL (L' := [own 3 TR.int v39 y37, own 27 (TR.sl TR.int) v47 l46, imm (TR.sl (TR.sl TR.int)) v45 ((List.take ((if (30 : Int) < ((x2).length : Int) then (30 : Int) else ((x2).length : Int)).toNat) x2).drop 0), imm (TR.sl TR.int) v91 y86, imm (TR.sl TR.int) v101 y99, own 27 (TR.sl TR.int) v102 ([y99] : (List (List Int)))]) rfl ?_
   obtain ⟨y103, e104, h79⟩ := bind_some h79
   replace e104 := chk_some e104
   refine RL.app 1 5 Try.underlying37 Try_lo27 rfl rfl rfl rfl rfl rfl rfl SlOf.own e104 ?_
   intro v105
   refine RL.asg rfl rfl rfl ?_
   refine RL.finG ?_
   refine GL.nilB ?_
   refine GL.region ?_
   refine RL.binI (v := .int .i64 ((i76 + 1 : Nat) : Int)) rfl rfl rfl rfl (binI_succ i76 (by omega)) ?_
   refine RL.mv rfl rfl rfl ?_
   refine RL.fin ?_
   cases h79
   exact fun a w st => lop_intro (i76 + 1, r88, (l46 ++ ([y99] : (List (List Int)))), v105) ⟨by show i76 + 1 + r88.length = (((List.take ((if (30 : Int) < ((x2).length : Int) then (30 : Int) else ((x2).length : Int)).toNat) x2).drop 0)).length; simp only [List.length_cons] at h82; omega, h89, h80⟩ (by simp) (St.cut [0, 1, 2] ⟨rfl, rfl, rfl, rfl, rfl, rfl, trivial⟩ (by decide) rfl st)
  have h85 : ¬ i76 < (((List.take ((if (30 : Int) < ((x2).length : Int) then (30 : Int) else ((x2).length : Int)).toNat) x2).drop 0)).length := by have := of_decide_eq_false b84; omega
  obtain rfl : r77 = [] := by rw [← h83]; exact List.drop_of_length_le (by omega)
  replace h81 : some (Fl.nx _) = some y69 := h81
  cases h81
  exact GL.exit (fun a w st => mid_intro (l46, v47) h72 (St.cut [0, 1] ⟨rfl, rfl, rfl, trivial⟩ (by decide) rfl st))
 rintro ⟨l46, v47⟩ h106
 have h107 := h73 _ h106
 try dsimp only at h107
 refine GL.weak (env' := [(0, .int .i64 (wadd (1 : Int) y32)), (7, v39), (8, v47)]) (L' := [own 3 TR.int v39 y37, own 27 (TR.sl TR.int) v47 l46]) (fun _ _ st => st) ?_
 refine GL.seq ?_
 refine GL.region ?_
 refine RL.mv rfl rfl rfl ?_
 refine RL.mv rfl rfl rfl ?_
 obtain ⟨y110, e111, h107⟩ := bind_some h107
 refine RL.callV (v := .tuple #[.bool y110.1, .int .i64 y110.2]) (vs := [v39, v47]) Try_fit28 rfl (Or.inl rfl) rfl rfl rfl rfl (fun U w hU hW hL => peak_All_c U w hU _ _ (hL 0 _ _ rfl Seen.own) _ _ (hL 1 _ _ rfl Seen.own) _ e111) ?_
 refine RL.mv rfl rfl rfl ?_
 refine RL.ext rfl rfl rfl rfl ?_
 refine RL.ext rfl rfl rfl rfl ?_
 refine RL.asg rfl rfl rfl ?_
 refine RL.asg rfl rfl rfl ?_
 refine RL.finG ?_
 refine GL.seq ?_
 refine GL.region ?_
 refine RL.mv rfl rfl rfl ?_
 refine RL.mv rfl rfl rfl ?_
 obtain ⟨y114, e115, h107⟩ := bind_some h107
 refine RL.callV (v := .tuple #[.int .i64 y114.1, .int .i64 y114.2]) (vs := [v39, v47]) Try_fit30 rfl (Or.inl rfl) rfl rfl rfl rfl (fun U w hU hW hL => peak_Middle_c U w hU _ _ (hL 0 _ _ rfl Seen.own) _ _ (hL 1 _ _ rfl Seen.own) _ e115) ?_
 refine RL.mv rfl rfl rfl ?_
 refine RL.ext rfl rfl rfl rfl ?_
 refine RL.ext rfl rfl rfl rfl ?_
 refine RL.asg rfl rfl rfl ?_
 refine RL.asg rfl rfl rfl ?_
 refine RL.finG ?_
 refine GL.seq ?_
 refine GL.seq ?_
 obtain ⟨y119, K120, h121, h122, h123, h124, h125⟩ := bindR_K h107
 refine GL.join (ι := Bool) (fun (p : Bool) => [(0, .int .i64 (wadd (1 : Int) y32)), (8, v47), (13, .int .i64 y114.1), (14, .int .i64 y114.2), (66, .bool p)]) (fun (p : Bool) => [own 27 (TR.sl TR.int) v47 l46]) (fun (p : Bool) => K120 (.nx p)) ?_ ?_
 ·skip
  refine GL.region ?_
  refine RL.mv rfl rfl rfl ?_
  refine RL.binI (v := .bool (y110.2 != (0 : Int))) rfl rfl rfl rfl rfl ?_
  refine RL.mv rfl rfl rfl ?_
  refine RL.split (t := 63) rfl (fun b126 => ?_) (fun b126 => ?_)
  ·replace h121 := ite_t b126 h121
   refine RL.skip rfl rfl ?_
   refine RL.skip rfl rfl ?_
   refine RL.pickT rfl rfl rfl rfl ?_
   refine RL.fin ?_
   cases h121
   exact fun a w st => mid_intro true h122 (St.cut [1] ⟨rfl, rfl, rfl, rfl, rfl, trivial⟩ (by decide) rfl st)
  replace h121 := ite_f b126 h121
  refine RL.mv rfl rfl rfl ?_
  refine RL.notB rfl rfl rfl ?_
  refine RL.pickF rfl rfl rfl rfl ?_
  refine RL.fin ?_
  cases h121
  exact fun a w st => mid_intro (!y110.1) h122 (St.cut [1] ⟨rfl, rfl, rfl, rfl, rfl, trivial⟩ (by decide) rfl st)
 rintro x118 h127
 have h128 := h123 _ h127
 try dsimp only at h128
 refine GL.weak (env' := [(0, .int .i64 (wadd (1 : Int) y32)), (8, v47), (13, .int .i64 y114.1), (14, .int .i64 y114.2), (66, .bool x118)]) (L' := [own 27 (TR.sl TR.int) v47 l46]) (fun _ _ st => st) ?_
 refine GL.cond rfl (fun b129 => ?_) (fun b129 => ?_)
 ·replace h128 := ite_t b129 h128
  refine GL.seq ?_
  refine GL.region ?_
  refine RL.asg rfl rfl rfl ?_
  refine RL.finG ?_
  have h128 := Option.some.inj h128
  subst h128
  exact GL.ret (Gx.ret (v := .bool false) (res1 rfl rfl) (fun a w st => st.toPostV))
 replace h128 := ite_f b129 h128
 refine GL.skip ?_
 refine GL.seq ?_
 refine GL.seq ?_
 refine GL.region ?_
 refine RL.mv rfl rfl rfl ?_
 refine RL.lenS 0 Try.underlying37 rfl rfl rfl rfl SlOf.own ?_
 refine RL.binI (v := .bool (((l46).length : Int) == (0 : Int))) rfl rfl rfl rfl rfl ?_
 refine RL.finG ?_
 refine GL.cond rfl (fun b130 => ?_) (fun b130 => ?_)
 ·replace h128 := ite_t b130 h128
  refine GL.seq ?_
  refine GL.region ?_
  refine RL.mv rfl rfl rfl ?_
  refine RL.binI (v := .bool (y114.2 == (4 : Int))) rfl rfl rfl rfl rfl ?_
  refine RL.asg rfl rfl rfl ?_
  refine RL.finG ?_
  have h128 := Option.some.inj h128
  subst h128
  exact GL.ret (Gx.ret (v := .bool (y114.2 == (4 : Int))) (res1 rfl rfl) (fun a w st => st.toPostV))
 replace h128 := ite_f b130 h128
 refine GL.skip ?_
 refine GL.seq ?_
 refine GL.region ?_
 refine RL.mv rfl rfl rfl ?_
 refine RL.mv rfl rfl rfl ?_
 refine RL.weak (fun a w st => st.freeze 0 rfl) ?_
 obtain ⟨y134, e135, h128⟩ := bind_some h128
 refine RL.call (vs := [.int .i64 (wadd (1 : Int) y32), v47]) Try_fit23 rfl rfl rfl rfl rfl (fun S f w hS hW hi => tally_Duels_c S w hS (wadd (1 : Int) y32) _ _ (hi 0 _ rfl) _ e135) ?_
 intro v136
 refine RL.reL (L' := [imm (TR.sl (TR.sl TR.int)) v47 l46, imm (TR.sl (TR.sl TR.int)) v136 y134.1]) rfl ?_
 refine RL.mv rfl rfl rfl ?_
 refine RL.ext rfl rfl rfl rfl ?_
 refine RL.ext rfl rfl rfl rfl ?_
 refine RL.asg rfl rfl rfl ?_
 refine RL.asg rfl rfl rfl ?_
 refine RL.finG ?_
 refine GL.seq ?_
 refine GL.region ?_
 refine RL.mv rfl rfl rfl ?_
 refine RL.mv rfl rfl rfl ?_
 obtain ⟨y139, e140, h128⟩ := bind_some h128
 refine RL.callV (v := .tuple #[.int .i64 y139.1, .int .i64 y139.2]) (vs := [.int .i64 (wadd (1 : Int) y32), v47]) Try_fit31 rfl (Or.inl rfl) rfl rfl rfl rfl (fun U w hU hW hL => tally_Beater_c U w hU (wadd (1 : Int) y32) _ _ (hL 0 _ _ rfl Seen.imm) _ e140) ?_
 refine RL.mv rfl rfl rfl ?_
 refine RL.ext rfl rfl rfl rfl ?_
 refine RL.ext rfl rfl rfl rfl ?_
 refine RL.asg rfl rfl rfl ?_
 refine RL.asg rfl rfl rfl ?_
 refine RL.finG ?_
 refine GL.seq ?_
 refine GL.seq ?_
 obtain ⟨y158, K159, h160, h161, h162, h163, h164⟩ := bindR_K h128
 refine GL.join (ι := Bool) (fun (p : Bool) => [(0, .int .i64 (wadd (1 : Int) y32)), (8, v47), (13, .int .i64 y114.1), (15, v136), (17, .int .i64 y139.1), (18, .int .i64 y139.2), (103, .bool p)]) (fun (p : Bool) => [imm (TR.sl (TR.sl TR.int)) v47 l46, imm (TR.sl (TR.sl TR.int)) v136 y134.1]) (fun (p : Bool) => K159 (.nx p)) ?_ ?_
 ·skip
  refine GL.region ?_
  refine RL.mv rfl rfl rfl ?_
  refine RL.mv rfl rfl rfl ?_
  refine RL.bS (t := TR.int) (vs := [.int .i64 y114.2, .int .i64 y134.2]) ([y114.2, y134.2] : (List Int)) Try.underlying64 Try_lo28 rfl rfl rfl rfl ⟨VR.int, ⟨VR.int, trivial⟩⟩ rfl (by decide) ?_
  intro v165
  obtain ⟨y166, e167, h160⟩ := bind_some h160
  refine RL.callV (v := .bool y166) (vs := [v165]) Try_fit13 rfl (Or.inl rfl) rfl rfl rfl rfl (fun U w hU hW hL => pk_good_c U w hU _ _ (hL 2 _ _ rfl Seen.own) _ e167) ?_
  refine RL.notB rfl rfl rfl ?_
  refine RL.mv rfl rfl rfl ?_
  refine RL.split (t := 89) rfl (fun b168 => ?_) (fun b168 => ?_)
  ·replace h160 := ite_t b168 h160
   refine RL.skip rfl rfl ?_
   refine RL.skip rfl rfl ?_
   refine RL.pickT rfl rfl rfl rfl ?_
   refine RL.mv rfl rfl rfl ?_
   refine RL.skip rfl rfl ?_
   refine RL.skip rfl rfl ?_
   refine RL.skip rfl rfl ?_
   refine RL.pickT rfl rfl rfl rfl ?_
   refine RL.mv rfl rfl rfl ?_
   refine RL.skip rfl rfl ?_
   refine RL.skip rfl rfl ?_
   refine RL.skip rfl rfl ?_
   refine RL.skip rfl rfl ?_
   refine RL.pickT rfl rfl rfl rfl ?_
   refine RL.fin ?_
   cases h160
   exact fun a w st => mid_intro true h161 (St.cut [0, 1] ⟨rfl, rfl, rfl, rfl, rfl, rfl, rfl, trivial⟩ (by decide) rfl st)
  replace h160 := ite_f b168 h160
  refine RL.mv rfl rfl rfl ?_
  refine RL.binI (v := .bool (decide (y114.1 < (0 : Int)))) rfl rfl rfl rfl rfl ?_
  refine RL.pickF rfl rfl rfl rfl ?_
  refine RL.mv rfl rfl rfl ?_
  refine RL.split (t := 93) rfl (fun b169 => ?_) (fun b169 => ?_)
  ·replace h160 := ite_t b169 h160
   refine RL.skip rfl rfl ?_
   refine RL.skip rfl rfl ?_
   refine RL.skip rfl rfl ?_
   refine RL.pickT rfl rfl rfl rfl ?_
   refine RL.mv rfl rfl rfl ?_
   refine RL.skip rfl rfl ?_
   refine RL.skip rfl rfl ?_
   refine RL.skip rfl rfl ?_
   refine RL.skip rfl rfl ?_
   refine RL.pickT rfl rfl rfl rfl ?_
   refine RL.fin ?_
   cases h160
   exact fun a w st => mid_intro true h161 (St.cut [0, 1] ⟨rfl, rfl, rfl, rfl, rfl, rfl, rfl, trivial⟩ (by decide) rfl st)
  replace h160 := ite_f b169 h160
  refine RL.mv rfl rfl rfl ?_
  refine RL.mv rfl rfl rfl ?_
  refine RL.binI (v := .bool (decide (y114.1 ≥ (wadd (1 : Int) y32)))) rfl rfl rfl rfl rfl ?_
  refine RL.pickF rfl rfl rfl rfl ?_
  refine RL.mv rfl rfl rfl ?_
  refine RL.split (t := 98) rfl (fun b170 => ?_) (fun b170 => ?_)
  ·replace h160 := ite_t b170 h160
   refine RL.skip rfl rfl ?_
   refine RL.skip rfl rfl ?_
   refine RL.skip rfl rfl ?_
   refine RL.skip rfl rfl ?_
   refine RL.pickT rfl rfl rfl rfl ?_
   refine RL.fin ?_
   cases h160
   exact fun a w st => mid_intro true h161 (St.cut [0, 1] ⟨rfl, rfl, rfl, rfl, rfl, rfl, rfl, trivial⟩ (by decide) rfl st)
  replace h160 := ite_f b170 h160
  refine RL.mv rfl rfl rfl ?_
  refine RL.mv rfl rfl rfl ?_
  obtain ⟨y171, e172, h160⟩ := bind_some h160
  refine RL.callV (v := .bool y171) (vs := [v136, .int .i64 (wadd (1 : Int) y32)]) Try_fit29 rfl (Or.inl rfl) rfl rfl rfl rfl (fun U w hU hW hL => pk_tableOf_c U w hU _ _ (hL 1 _ _ rfl Seen.imm) (wadd (1 : Int) y32) _ e172) ?_
  refine RL.notB rfl rfl rfl ?_
  refine RL.pickF rfl rfl rfl rfl ?_
  refine RL.fin ?_
  cases h160
  exact fun a w st => mid_intro (!y171) h161 (St.cut [0, 1] ⟨rfl, rfl, rfl, rfl, rfl, rfl, rfl, trivial⟩ (by decide) rfl st)
 rintro x157 h173
 have h174 := h162 _ h173
 try dsimp only at h174
 refine GL.weak (env' := [(0, .int .i64 (wadd (1 : Int) y32)), (8, v47), (13, .int .i64 y114.1), (15, v136), (17, .int .i64 y139.1), (18, .int .i64 y139.2), (103, .bool x157)]) (L' := [imm (TR.sl (TR.sl TR.int)) v47 l46, imm (TR.sl (TR.sl TR.int)) v136 y134.1]) (fun _ _ st => st) ?_
 refine GL.cond rfl (fun b175 => ?_) (fun b175 => ?_)
 ·replace h174 := ite_t b175 h174
  refine GL.seq ?_
  refine GL.region ?_
  refine RL.asg rfl rfl rfl ?_
  refine RL.finG ?_
  have h174 := Option.some.inj h174
  subst h174
  exact GL.ret (Gx.ret (v := .bool false) (res1 rfl rfl) (fun a w st => st.toPostV))
 replace h174 := ite_f b175 h174
 refine GL.skip ?_
 refine GL.seq ?_
 refine GL.seq ?_
 refine GL.region ?_
 refine RL.mv rfl rfl rfl ?_
 refine RL.mv rfl rfl rfl ?_
 refine RL.finG ?_
 obtain ⟨y198, e199, h174⟩ := bind_some h174
 replace e199 := chk_some e199
 obtain ⟨y200, K201, h202, h203, h204, h205, h206⟩ := bindR_K h174
 refine GL.join (ι := Unit) (fun (p : Unit) => [(8, v47), (13, .int .i64 y114.1), (17, .int .i64 y139.1), (18, .int .i64 y139.2)]) (fun (p : Unit) => [imm (TR.sl (TR.sl TR.int)) v47 l46]) (fun (p : Unit) => K201 (.nx ())) ?_ ?_
 ·refine GL.block ?_
  refine GL.loop (ι := Nat × Nat) (fun (p : Nat × Nat) => [(8, v47), (13, .int .i64 y114.1), (15, v136), (17, .int .i64 y139.1), (18, .int .i64 y139.2), (104, .int .i64 (wadd (1 : Int) y32)), (105, .int .i64 (p.1 : Int))]) (fun (p : Nat × Nat) => [imm (TR.sl (TR.sl TR.int)) v47 l46, imm (TR.sl (TR.sl TR.int)) v136 y134.1]) (fun (p : Nat × Nat) => p.1 + p.2 = (wadd (1 : Int) y32).toNat ∧ rangeN (pk_PeakBlack_b2 y134 y114) p.2 p.1 () = some y200) (fun (p : Nat × Nat) => p.2) (0, (wadd (1 : Int) y32).toNat) ⟨by simp, h202⟩ (fun a w st => St.cut [0, 1] ⟨rfl, rfl, rfl, rfl, rfl, rfl, rfl, trivial⟩ (by decide) rfl st) ?_
  rintro ⟨i207, r208⟩ ⟨h213, h212⟩
  try dsimp only at h213 h212
  refine GL.weak (env' := [(8, v47), (13, .int .i64 y114.1), (15, v136), (17, .int .i64 y139.1), (18, .int .i64 y139.2), (104, .int .i64 (wadd (1 : Int) y32)), (105, .int .i64 (i207 : Int))]) (L' := [imm (TR.sl (TR.sl TR.int)) v47 l46, imm (TR.sl (TR.sl TR.int)) v136 y134.1]) (fun _ _ st => st) ?_
  refine GL.seq ?_
  refine GL.region ?_
  refine RL.binI (v := .bool (decide ((i207 : Int) < wadd (1 : Int) y32))) rfl rfl rfl rfl rfl ?_
  refine RL.finG ?_
  refine GL.seq ?_
  refine GL.cond rfl (fun b215 => ?_) (fun b215 => ?_)
  ·have h216 : i207 < (wadd (1 : Int) y32).toNat := by have := of_decide_eq_true b215; omega
   obtain ⟨r217, hr⟩ : ∃ m, r208 = m + 1 := ⟨r208 - 1, by omega⟩
   subst hr
   obtain ⟨z209, h210, h211⟩ := rangeN_some h212
   unfold pk_PeakBlack_b2 at h210
   try dsimp only at h210
   refine GL.skip ?_
   refine GL.seq ?_
   refine GL.block ?_
   refine GL.seq ?_
   refine GL.region ?_
   refine RL.mv rfl rfl rfl ?_
   refine RL.asg rfl rfl rfl ?_
   refine RL.finG ?_
   refine GL.seq ?_
   refine GL.regionQ rfl rfl (by kernel_rfl) ?_
   refine RL.mv rfl rfl rfl ?_
   refine RL.mv rfl rfl rfl ?_
   obtain ⟨y228, e229, h210⟩ := bind_some h210
   refine RL.idxS (sz := 1) 1 Try.underlying37 Try_ln27 rfl rfl rfl rfl rfl SlOf.imm (idx_some e229).1 (idx_some e229).2.1 ?_
   refine RL.ldS (i := (y114.1).toNat) (r := (TR.sl TR.int)) (e' := y228) 1 Try_ln27 rfl rfl rfl rfl SlOf.imm (idx_some e229).2.2 Part.self ?_
   intro v230
   refine RL.mv rfl rfl rfl ?_
   obtain ⟨y231, e232, h210⟩ := bind_some h210
   refine RL.idxS (sz := 1) 2 Try.underlying27 Try_ln3 rfl rfl rfl rfl rfl SlOf.imm (idx_some e232).1 (idx_some e232).2.1 ?_
   refine RL.ldSx (i := i207) (e' := y231) 2 Ex.ik Try_ln3 rfl rfl rfl rfl SlOf.imm (idx_some e232).2.2 Part.self ?_
   refine RL.mv rfl rfl rfl ?_
   refine RL.mv rfl rfl rfl ?_
   obtain ⟨y233, e234, h210⟩ := bind_some h210
   refine RL.idxS (sz := 1) 1 Try.underlying37 Try_ln27 rfl rfl rfl rfl rfl SlOf.imm (idx_some e234).1 (idx_some e234).2.1 ?_
   refine RL.ldS (i := i207) (r := (TR.sl TR.int)) (e' := y233) 1 Try_ln27 rfl rfl rfl rfl SlOf.imm (idx_some e234).2.2 Part.self ?_
   intro v235
   refine RL.reL (L' := [imm (TR.sl (TR.sl TR.int)) v47 l46, imm (TR.sl (TR.sl TR.int)) v136 y134.1, imm (TR.sl TR.int) v230 y228, imm (TR.sl TR.int) v235 y233]) rfl ?_
   refine RL.mv rfl rfl rfl ?_
   obtain ⟨y236, e237, h210⟩ := bind_some h210
   refine RL.idxS (sz := 1) 3 Try.underlying27 Try_ln3 rfl rfl rfl rfl rfl SlOf.imm (idx_some e237).1 (idx_some e237).2.1 ?_
   refine RL.ldSx (i := (y114.1).toNat) (e' := y236) 3 Ex.ik Try_ln3 rfl rfl rfl rfl SlOf.imm (idx_some e237).2.2 Part.self ?_
   refine RL.binI (v := .bool (decide (y231 < y236))) rfl rfl rfl rfl rfl ?_
   refine RL.finQG ?_
   refine GL.cond rfl (fun b238 => ?_) (fun b238 => ?_)
   ·replace h210 := ite_t b238 h210
    refine GL.seq ?_
    refine GL.region ?_
    refine RL.asg rfl rfl rfl ?_
    refine RL.finG ?_
    cases h210
    replace h211 : some (Fl.rt _) = some y200 := h211
    cases h211
    have hh := h205 _ h203
    subst hh
    exact GL.ret (Gx.ret (v := .bool false) (res1 rfl rfl) (fun a w st => st.toPostV))
   replace h210 := ite_f b238 h210
   refine GL.skip ?_
   refine GL.nilB ?_
   refine GL.region ?_
   refine RL.binI (v := .int .i64 ((i207 + 1 : Nat) : Int)) rfl rfl rfl rfl (binI_succ i207 (by omega)) ?_
   refine RL.mv rfl rfl rfl ?_
   refine RL.fin ?_
   cases h210
   exact fun a w st => lop_intro (i207 + 1, r217) ⟨by show i207 + 1 + r217 = (wadd (1 : Int) y32).toNat; omega, h211⟩ (by simp) (St.cut [0, 1] ⟨rfl, rfl, rfl, rfl, rfl, rfl, rfl, trivial⟩ (by decide) rfl st)
  have h216 : ¬ i207 < (wadd (1 : Int) y32).toNat := by have := of_decide_eq_false b215; omega
  obtain rfl : r208 = 0 := by omega
  replace h212 : some (Fl.nx _) = some y200 := h212
  cases h212
  exact GL.exit (fun a w st => mid_intro () h203 (St.cut [0] ⟨rfl, rfl, rfl, rfl, trivial⟩ (by decide) rfl st))
 rintro ⟨⟩ h239
 have h240 := h204 _ h239
 try dsimp only at h240
 refine GL.weak (env' := [(8, v47), (13, .int .i64 y114.1), (17, .int .i64 y139.1), (18, .int .i64 y139.2)]) (L' := [imm (TR.sl (TR.sl TR.int)) v47 l46]) (fun _ _ st => st) ?_
 refine GL.seq ?_
 obtain ⟨y250, K251, h252, h253, h254, h255, h256⟩ := bindR_K h240
 refine GL.join (ι := Bool) (fun (p : Bool) => [(6, .bool p)]) (fun (p : Bool) => []) (fun (p : Bool) => K251 (.nx p)) ?_ ?_
 ·skip
  refine GL.region ?_
  refine RL.mv rfl rfl rfl ?_
  refine RL.lenS 0 Try.underlying37 rfl rfl rfl rfl SlOf.imm ?_
  obtain ⟨y257, e258, h252⟩ := bind_some h252
  replace e258 := chk_some e258
  refine RL.rem rfl rfl rfl rfl e258 ?_
  refine RL.binI (v := .bool ((Int.tmod ((l46).length : Int) (2 : Int)) == (0 : Int))) rfl rfl rfl rfl rfl ?_
  refine RL.mv rfl rfl rfl ?_
  refine RL.split (t := 128) rfl (fun b259 => ?_) (fun b259 => ?_)
  ·replace h252 := ite_t b259 h252
   refine RL.skip rfl rfl ?_
   refine RL.skip rfl rfl ?_
   refine RL.skip rfl rfl ?_
   refine RL.skip rfl rfl ?_
   refine RL.skip rfl rfl ?_
   refine RL.skip rfl rfl ?_
   refine RL.skip rfl rfl ?_
   refine RL.pickT rfl rfl rfl rfl ?_
   refine RL.asg rfl rfl rfl ?_
   refine RL.fin ?_
   cases h252
   exact fun a w st => mid_intro true h253 (St.cut [] ⟨rfl, trivial⟩ (by decide) rfl st)
  replace h252 := ite_f b259 h252
  refine RL.mv rfl rfl rfl ?_
  refine RL.binI (v := .bool (y139.2 == (0 : Int))) rfl rfl rfl rfl rfl ?_
  refine RL.mv rfl rfl rfl ?_
  refine RL.split (t := 131) rfl (fun b260 => ?_) (fun b260 => ?_)
  ·replace h252 := ite_t b260 h252
   refine RL.mv rfl rfl rfl ?_
   refine RL.mv rfl rfl rfl ?_
   refine RL.binI (v := .bool (y139.1 == y114.1)) rfl rfl rfl rfl rfl ?_
   refine RL.pickT rfl rfl rfl rfl ?_
   refine RL.pickF rfl rfl rfl rfl ?_
   refine RL.asg rfl rfl rfl ?_
   refine RL.fin ?_
   cases h252
   exact fun a w st => mid_intro (y139.1 == y114.1) h253 (St.cut [] ⟨rfl, trivial⟩ (by decide) rfl st)
  replace h252 := ite_f b260 h252
  refine RL.skip rfl rfl ?_
  refine RL.skip rfl rfl ?_
  refine RL.skip rfl rfl ?_
  refine RL.pickF rfl rfl rfl rfl ?_
  refine RL.pickF rfl rfl rfl rfl ?_
  refine RL.asg rfl rfl rfl ?_
  refine RL.fin ?_
  cases h252
  exact fun a w st => mid_intro false h253 (St.cut [] ⟨rfl, trivial⟩ (by decide) rfl st)
 rintro x249 h261
 have h262 := h254 _ h261
 try dsimp only at h262
 refine GL.weak (env' := [(6, .bool x249)]) (L' := []) (fun _ _ st => st) ?_
 have h262 := Option.some.inj h262
 subst h262
 exact GL.ret (Gx.ret (v := .bool x249) (res1 rfl rfl) (fun a w st => st.toPostV))
end Go.Wk
