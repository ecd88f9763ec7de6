/- Each function comes to what its model says; printed by a program of this repository. -/
import Derived.Test.YtpapmcdhinblaaaGreatDoorProg
import Derived.Test.YtpapmcdhinblaaaGreatDoorWHouseOwnModels
import Derived.Test.YtpapmcdhinblaaaGreatDoorWHouseOwnWalks1
namespace Go.Wk
open Go.Fw Go.Mo Go.Proofs Go.RowKit
set_option linter.all false
set_option maxRecDepth 100000

set_option maxHeartbeats 4000000 in
theorem log_Sum_c (S : Hp) (w : World) (hS : S.sub w) (x0 : (List UInt8)) (res : Int) (hm : log_Sum_m x0 = some res) : Calls Tryz.prog 79 #[.string ⟨(x0 : List UInt8).toArray⟩] w (PostV w (.int .u16 res)) := by
 refine calls_enter 31 Tryz.func79 Tryz.ntmps79 rfl S false [(0, .string ⟨(x0 : List UInt8).toArray⟩)] [] rfl ⟨rfl, trivial⟩ hS trivial ?_
 unfold log_Sum_m at hm
 refine GL.seq ?_
 refine GL.region ?_
 refine RL.asg rfl rfl rfl ?_
 refine RL.finG ?_
 refine GL.seq ?_
 refine GL.region ?_
 refine RL.asg rfl rfl rfl ?_
 refine RL.finG ?_
 refine GL.seq ?_
 refine GL.seq ?_
 refine GL.region ?_
 refine RL.mv rfl rfl rfl ?_
 obtain ⟨y5, e6, hm⟩ := bind_some hm
 replace e6 := chk_some e6
 refine RL.cvSB Tryz.underlying9 Tryz.underlying88 Tryz.underlying5 rfl rfl rfl rfl e6 ?_
 intro v7
 refine RL.lenS 0 Tryz.underlying88 rfl rfl rfl rfl SlOf.imm ?_
 refine RL.mv rfl rfl rfl ?_
 refine RL.finG ?_
 refine GL.open_ 0 rfl (fun S h => len_imm S h) (fun n65 => ?_)
 obtain ⟨y66, K67, h68, h69, h70, h71, h72⟩ := bindR_K hm
 refine GL.join (ι := Int) (fun (p : Int) => [(3, .int .u16 p)]) (fun (p : Int) => []) (fun (p : Int) => K67 (.nx p)) ?_ ?_
 ·refine GL.block ?_
  refine GL.loop (ι := Nat × (List Int) × Int) (fun (p : Nat × (List Int) × Int) => [(3, .int .u16 p.2.2), (7, v7), (8, .int .i64 (((intsOf x0)).length : Int)), (9, .int .i64 (p.1 : Int))]) (fun (p : Nat × (List Int) × Int) => [imm (TR.sl (TR.ik .u8)) v7 (intsOf x0)]) (fun (p : Nat × (List Int) × Int) => p.1 + p.2.1.length = ((intsOf x0)).length ∧ List.drop p.1 (intsOf x0) = p.2.1 ∧ rangeL log_Sum_b1 p.2.1 p.1 p.2.2 = some y66) (fun (p : Nat × (List Int) × Int) => p.2.1.length) (0, (intsOf x0), (65535 : Int)) ⟨by simp, by simp, h68⟩ (fun a w st => St.cut [0] ⟨rfl, rfl, rfl, rfl, trivial⟩ (by decide) rfl st) ?_
  rintro ⟨i73, r74, x8⟩ ⟨h79, h80, h78⟩
  try dsimp only at h79 h80 h78
  refine GL.weak (env' := [(3, .int .u16 x8), (7, v7), (8, .int .i64 (((intsOf x0)).length : Int)), (9, .int .i64 (i73 : Int))]) (L' := [imm (TR.sl (TR.ik .u8)) v7 (intsOf x0)]) (fun _ _ st => st) ?_
  refine GL.seq ?_
  refine GL.region ?_
  refine RL.binI (v := .bool (decide ((i73 : Int) < (((intsOf x0)).length : Int)))) rfl rfl rfl rfl rfl ?_
  refine RL.finG ?_
  refine GL.seq ?_
  refine GL.cond rfl (fun b81 => ?_) (fun b81 => ?_)
  ·have h82 : i73 < ((intsOf x0)).length := by have := of_decide_eq_true b81; omega
   obtain ⟨y83, r85, hr, e84, h86⟩ := drop_cons h80 rfl h82
   subst hr
   obtain ⟨z75, h76, h77⟩ := rangeL_some h78
   unfold log_Sum_b1 at h76
   try dsimp only at h76
   refine GL.skip ?_
   refine GL.seq ?_
   refine GL.block ?_
   refine GL.seq ?_
   refine GL.region ?_
   refine RL.idxS (sz := 1) 0 Tryz.underlying88 Tryz_ln5 rfl rfl rfl rfl rfl SlOf.imm (by omega) (by omega) ?_
   refine RL.ldSx (i := i73) (e' := y83) 0 Ex.ik Tryz_ln5 rfl rfl rfl rfl SlOf.imm e84 Part.self ?_
   refine RL.asg rfl rfl rfl ?_
   refine RL.finG ?_
   refine GL.seq ?_
   refine GL.region ?_
   refine RL.mv rfl rfl rfl ?_
   refine RL.mv rfl rfl rfl ?_
   refine RL.cvI Tryz.underlying5 Tryz.underlying126 rfl rfl rfl ?_
   obtain ⟨y89, e90, h76⟩ := bind_some h76
   replace e90 := chk_some e90
   refine RL.sh (by simp) rfl rfl rfl rfl e90 ?_
   refine RL.binI (v := .int .u16 (bits .xor .u16 x8 (IntKind.wrap .u16 ((IntKind.wrap .u16 y83) * 2 ^ (min (8 : Int).toNat (IntKind.bits .u16)))))) rfl rfl rfl rfl rfl ?_
   refine RL.asg rfl rfl rfl ?_
   refine RL.finG ?_
   refine GL.seq ?_
   refine GL.region ?_
   refine RL.mv rfl rfl rfl ?_
   refine RL.finG ?_
   obtain ⟨y107, K108, h109, h110, h111, h112, h113⟩ := bindF_K h76
   refine GL.join (ι := Int × Int) (fun (p : Int × Int) => [(3, .int .u16 p.1), (7, v7), (8, .int .i64 (((intsOf x0)).length : Int)), (9, .int .i64 (i73 : Int))]) (fun (p : Int × Int) => [imm (TR.sl (TR.ik .u8)) v7 (intsOf x0)]) (fun (p : Int × Int) => K108 (.nx (p.1, p.2))) ?_ ?_
   ·refine GL.block ?_
    refine GL.loop (ι := Nat × Int × Int) (fun (p : Nat × Int × Int) => [(3, .int .u16 p.2.1), (7, v7), (8, .int .i64 (((intsOf x0)).length : Int)), (9, .int .i64 (i73 : Int)), (18, .int .i64 p.2.2)]) (fun (p : Nat × Int × Int) => [imm (TR.sl (TR.ik .u8)) v7 (intsOf x0)]) (fun (p : Nat × Int × Int) => loopM log_Sum_b2 p.1 (p.2.1, p.2.2) = some y107) (fun (p : Nat × Int × Int) => p.1) (1048576, bits .xor .u16 x8 (IntKind.wrap .u16 ((IntKind.wrap .u16 y83) * 2 ^ (min (8 : Int).toNat (IntKind.bits .u16)))), (0 : Int)) h109 (fun a w st => St.cut [0] ⟨rfl, rfl, rfl, rfl, rfl, trivial⟩ (by decide) rfl st) ?_
    rintro ⟨r115, x91, x92⟩ h119
    try dsimp only at h119
    refine GL.weak (env' := [(3, .int .u16 x91), (7, v7), (8, .int .i64 (((intsOf x0)).length : Int)), (9, .int .i64 (i73 : Int)), (18, .int .i64 x92)]) (L' := [imm (TR.sl (TR.ik .u8)) v7 (intsOf x0)]) (fun _ _ st => st) ?_
    obtain ⟨r122, z116, hr, h117, h118⟩ := loopM_some h119
    subst hr
    unfold log_Sum_b2 at h117
    try dsimp only at h117
    refine GL.seq ?_
    refine GL.region ?_
    refine RL.binI (v := .bool (decide (x92 < (8 : Int)))) rfl rfl rfl rfl rfl ?_
    refine RL.finG ?_
    refine GL.seq ?_
    refine GL.cond rfl (fun b123 => ?_) (fun b123 => ?_)
    ·replace h117 := ite_t b123 h117
     refine GL.skip ?_
     refine GL.seq ?_
     refine GL.block ?_
     refine GL.seq ?_
     refine GL.region ?_
     refine RL.mv rfl rfl rfl ?_
     obtain ⟨y126, e127, h117⟩ := bind_some h117
     replace e127 := chk_some e127
     refine RL.sh (by simp) rfl rfl rfl rfl e127 ?_
     refine RL.binI (v := .bool ((Int.fdiv x91 (2 ^ (min (15 : Int).toNat (IntKind.bits .u16)))) == (1 : Int))) rfl rfl rfl rfl rfl ?_
     refine RL.finG ?_
     refine GL.cond rfl (fun b128 => ?_) (fun b128 => ?_)
     ·replace h117 := ite_t b128 h117
      refine GL.region ?_
      refine RL.mv rfl rfl rfl ?_
      obtain ⟨y131, e132, h117⟩ := bind_some h117
      replace e132 := chk_some e132
      refine RL.sh (by simp) rfl rfl rfl rfl e132 ?_
      refine RL.binI (v := .int .u16 (bits .xor .u16 (IntKind.wrap .u16 (x91 * 2 ^ (min (1 : Int).toNat (IntKind.bits .u16)))) (4129 : Int))) rfl rfl rfl rfl rfl ?_
      refine RL.asg rfl rfl rfl ?_
      refine RL.finG ?_
      refine GL.nilB ?_
      refine GL.region ?_
      refine RL.binI (v := .int .i64 (wadd x92 (1 : Int))) rfl rfl rfl rfl rfl ?_
      refine RL.mv rfl rfl rfl ?_
      refine RL.finG ?_
      cases h117
      exact fun a w st => lop_intro (r122, bits .xor .u16 (IntKind.wrap .u16 (x91 * 2 ^ (min (1 : Int).toNat (IntKind.bits .u16)))) (4129 : Int), wadd x92 (1 : Int)) (by exact h118) (by simp) (St.cut [0] ⟨rfl, rfl, rfl, rfl, rfl, trivial⟩ (by decide) rfl st)
     replace h117 := ite_f b128 h117
     refine GL.region ?_
     refine RL.mv rfl rfl rfl ?_
     obtain ⟨y135, e136, h117⟩ := bind_some h117
     replace e136 := chk_some e136
     refine RL.sh (by simp) rfl rfl rfl rfl e136 ?_
     refine RL.asg rfl rfl rfl ?_
     refine RL.finG ?_
     refine GL.nilB ?_
     refine GL.region ?_
     refine RL.binI (v := .int .i64 (wadd x92 (1 : Int))) rfl rfl rfl rfl rfl ?_
     refine RL.mv rfl rfl rfl ?_
     refine RL.finG ?_
     cases h117
     exact fun a w st => lop_intro (r122, IntKind.wrap .u16 (x91 * 2 ^ (min (1 : Int).toNat (IntKind.bits .u16))), wadd x92 (1 : Int)) (by exact h118) (by simp) (St.cut [0] ⟨rfl, rfl, rfl, rfl, rfl, trivial⟩ (by decide) rfl st)
    replace h117 := ite_f b123 h117
    cases h117
    replace h118 : some (Fl.nx _) = some y107 := h118
    cases h118
    exact GL.exit (fun a w st => mid_intro (x91, x92) h110 (St.cut [0] ⟨rfl, rfl, rfl, rfl, trivial⟩ (by decide) rfl st))
   rintro ⟨x91, x92⟩ h137
   have h138 := h111 _ h137
   try dsimp only at h138
   refine GL.weak (env' := [(3, .int .u16 x91), (7, v7), (8, .int .i64 (((intsOf x0)).length : Int)), (9, .int .i64 (i73 : Int))]) (L' := [imm (TR.sl (TR.ik .u8)) v7 (intsOf x0)]) (fun _ _ st => st) ?_
   refine GL.nilB ?_
   refine GL.region ?_
   refine RL.binI (v := .int .i64 ((i73 + 1 : Nat) : Int)) rfl rfl rfl rfl (binI_succ i73 (by omega)) ?_
   refine RL.mv rfl rfl rfl ?_
   refine RL.fin ?_
   cases h138
   exact fun a w st => lop_intro (i73 + 1, r85, x91) ⟨by show i73 + 1 + r85.length = ((intsOf x0)).length; simp only [List.length_cons] at h79; omega, h86, h77⟩ (by simp) (St.cut [0] ⟨rfl, rfl, rfl, rfl, trivial⟩ (by decide) rfl st)
  have h82 : ¬ i73 < ((intsOf x0)).length := by have := of_decide_eq_false b81; omega
  obtain rfl : r74 = [] := by rw [← h80]; exact List.drop_of_length_le (by omega)
  replace h78 : some (Fl.nx _) = some y66 := h78
  cases h78
  exact GL.exit (fun a w st => mid_intro x8 h69 (St.cut [] ⟨rfl, trivial⟩ (by decide) rfl st))
 rintro x8 h139
 have h140 := h70 _ h139
 try dsimp only at h140
 refine GL.weak (env' := [(3, .int .u16 x8)]) (L' := []) (fun _ _ st => st) ?_
 refine GL.seq ?_
 refine GL.region ?_
 refine RL.mv rfl rfl rfl ?_
 refine RL.asg rfl rfl rfl ?_
 refine RL.finG ?_
 have h140 := Option.some.inj h140
 subst h140
 exact GL.ret (Gx.ret (v := .int .u16 x8) (res1 rfl rfl) (fun a w st => st.toPostV))

set_option maxHeartbeats 4000000 in
theorem log_Frame_c (S : Hp) (w : World) (hS : S.sub w) (x0 : (List UInt8)) (res : (List UInt8) × Int) (hm : log_Frame_m x0 = some res) : Calls Tryz.prog 77 #[.string ⟨(x0 : List UInt8).toArray⟩] w (PostV w (.tuple #[.string ⟨(res.1 : List UInt8).toArray⟩, .int .i64 res.2])) := by
 refine calls_enter 27 Tryz.func77 Tryz.ntmps77 rfl S false [(0, .string ⟨(x0 : List UInt8).toArray⟩)] [] rfl ⟨rfl, trivial⟩ hS trivial ?_
 unfold log_Frame_m at hm
 refine GL.seq ?_
 refine GL.region ?_
 refine RL.asg rfl rfl rfl ?_
 refine RL.asg rfl rfl rfl ?_
 refine RL.finG ?_
 refine GL.seq ?_
 refine GL.seq ?_
 refine GL.region ?_
 refine RL.mv rfl rfl rfl ?_
 refine RL.lenT Tryz.underlying9 rfl rfl rfl ?_
 refine RL.binI (v := .bool (decide (((x0).length : Int) > (64 : Int)))) rfl rfl rfl rfl rfl ?_
 refine RL.finG ?_
 refine GL.cond rfl (fun b2 => ?_) (fun b2 => ?_)
 ·replace hm := ite_t b2 hm
  refine GL.seq ?_
  refine GL.region ?_
  refine RL.asg rfl rfl rfl ?_
  refine RL.asg rfl rfl rfl ?_
  refine RL.finG ?_
  have hm := Option.some.inj hm
  subst hm
  exact GL.ret (Gx.ret (v := .tuple #[.string ⟨(([] : List UInt8) : List UInt8).toArray⟩, .int .i64 (2 : Int)]) (res2 rfl rfl rfl) (fun a w st => st.toPostV))
 replace hm := ite_f b2 hm
 refine GL.skip ?_
 refine GL.seq ?_
 refine GL.region ?_
 refine RL.mv rfl rfl rfl ?_
 refine RL.lenT Tryz.underlying9 rfl rfl rfl ?_
 refine RL.cvI Tryz.underlying3 Tryz.underlying5 rfl rfl rfl ?_
 refine RL.bS (t := (TR.ik .u8)) (vs := [.int .u8 (IntKind.wrap .u8 ((x0).length : Int))]) ([IntKind.wrap .u8 ((x0).length : Int)] : (List Int)) Tryz.underlying88 Tryz_lo5 rfl rfl rfl rfl ⟨VR.int, trivial⟩ rfl (by decide) ?_
 intro v6
 refine RL.cvBS 0 Tryz.underlying88 Tryz.underlying5 Tryz.underlying9 rfl rfl rfl rfl SlOf.own ?_
 refine RL.mv rfl rfl rfl ?_
 obtain ⟨y7, e8, hm⟩ := bind_some hm
 replace e8 := chk_some e8
 refine RL.cat rfl rfl rfl rfl e8 ?_
 refine RL.asg rfl rfl rfl ?_
 refine RL.finG ?_
 refine GL.seq ?_
 refine GL.region ?_
 refine RL.mv rfl rfl rfl ?_
 obtain ⟨y11, e12, hm⟩ := bind_some hm
 refine RL.callV (v := .int .u16 y11) (vs := [.string ⟨((bytesOf ([IntKind.wrap .u8 ((x0).length : Int)] : (List Int))) ++ x0 : List UInt8).toArray⟩]) Tryz_fit79 rfl (Or.inl rfl) rfl rfl rfl rfl (fun U w hU hW hL => log_Sum_c U w hU ((bytesOf ([IntKind.wrap .u8 ((x0).length : Int)] : (List Int))) ++ x0) _ e12) ?_
 refine RL.asg rfl rfl rfl ?_
 refine RL.finG ?_
 refine GL.seq ?_
 refine GL.region ?_
 refine RL.mv rfl rfl rfl ?_
 refine RL.mv rfl rfl rfl ?_
 obtain ⟨y18, e19, hm⟩ := bind_some hm
 replace e19 := chk_some e19
 refine RL.sh (by simp) rfl rfl rfl rfl e19 ?_
 refine RL.cvI Tryz.underlying126 Tryz.underlying5 rfl rfl rfl ?_
 refine RL.mv rfl rfl rfl ?_
 refine RL.cvI Tryz.underlying126 Tryz.underlying5 rfl rfl rfl ?_
 refine RL.bS (t := (TR.ik .u8)) (vs := [.int .u8 (IntKind.wrap .u8 (Int.fdiv y11 (2 ^ (min (8 : Int).toNat (IntKind.bits .u16))))), .int .u8 (IntKind.wrap .u8 y11)]) ([IntKind.wrap .u8 (Int.fdiv y11 (2 ^ (min (8 : Int).toNat (IntKind.bits .u16)))), IntKind.wrap .u8 y11] : (List Int)) Tryz.underlying88 Tryz_lo5 rfl rfl rfl rfl ⟨VR.int, ⟨VR.int, trivial⟩⟩ rfl (by decide) ?_
 intro v20
 refine RL.reL (L' := [own 5 (TR.ik .u8) v6 ([IntKind.wrap .u8 ((x0).length : Int)] : (List Int)), own 5 (TR.ik .u8) v20 ([IntKind.wrap .u8 (Int.fdiv y11 (2 ^ (min (8 : Int).toNat (IntKind.bits .u16)))), IntKind.wrap .u8 y11] : (List Int))]) rfl ?_
 refine RL.cvBS 1 Tryz.underlying88 Tryz.underlying5 Tryz.underlying9 rfl rfl rfl rfl SlOf.own ?_
 obtain ⟨y21, e22, hm⟩ := bind_some hm
 replace e22 := chk_some e22
 refine RL.cat rfl rfl rfl rfl e22 ?_
 refine RL.asg rfl rfl rfl ?_
 refine RL.asg rfl rfl rfl ?_
 refine RL.finG ?_
 have hm := Option.some.inj hm
 subst hm
 exact GL.ret (Gx.ret (v := .tuple #[.string ⟨(((bytesOf ([IntKind.wrap .u8 ((x0).length : Int)] : (List Int))) ++ x0) ++ (bytesOf ([IntKind.wrap .u8 (Int.fdiv y11 (2 ^ (min (8 : Int).toNat (IntKind.bits .u16)))), IntKind.wrap .u8 y11] : (List Int))) : List UInt8).toArray⟩, .int .i64 (0 : Int)]) (res2 rfl rfl rfl) (fun a w st => st.toPostV))

set_option maxHeartbeats 4000000 in
theorem log_Log_Append_c (B : World) (S X : Hp) (f : Nat → Hp) (w : World) (v0 : Value) (x0 : ((List UInt8) × Int)) (hO : HeapOk B.heap.size S f [obox 95 (TR.pair TR.str TR.int) v0 x0, keep X].length w) (hB : Below B.heap.size B w) (hI : Its [obox 95 (TR.pair TR.str TR.int) v0 x0, keep X] S f) (x1 : (List UInt8)) (res : Int × ((List UInt8) × Int)) (hm : log_Log_Append_m x0 x1 = some res) : Calls Tryz.prog 57 #[v0, .string ⟨(x1 : List UInt8).toArray⟩] w (PostM B S (fun (o : Unit) => .int .i64 res.1) (fun (o : Unit) => [obox 95 (TR.pair TR.str TR.int) v0 res.2, keep X])) := by
 refine calls_enterM 32 Tryz.func57 Tryz.ntmps57 rfl B S f [(0, v0), (1, .string ⟨(x1 : List UInt8).toArray⟩)] [obox 95 (TR.pair TR.str TR.int) v0 x0, keep X] [] rfl ⟨rfl, ⟨rfl, trivial⟩⟩ hB hO hI trivial ?_
 unfold log_Log_Append_m at hm
 refine GL.seq ?_
 refine GL.region ?_
 refine RL.asg rfl rfl rfl ?_
 refine RL.finG ?_
 refine GL.seq ?_
 refine GL.region ?_
 refine RL.mv rfl rfl rfl ?_
 obtain ⟨y5, e6, hm⟩ := bind_some hm
 refine RL.callV (v := .tuple #[.string ⟨(y5.1 : List UInt8).toArray⟩, .int .i64 y5.2]) (vs := [.string ⟨(x1 : List UInt8).toArray⟩]) Tryz_fit77 rfl (Or.inl rfl) rfl rfl rfl rfl (fun U w hU hW hL => log_Frame_c U w hU x1 _ e6) ?_
 refine RL.mv rfl rfl rfl ?_
 refine RL.ext rfl rfl rfl rfl ?_
 refine RL.ext rfl rfl rfl rfl ?_
 refine RL.asg rfl rfl rfl ?_
 refine RL.asg rfl rfl rfl ?_
 refine RL.finG ?_
 refine GL.seq ?_
 refine GL.seq ?_
 refine GL.region ?_
 refine RL.mv rfl rfl rfl ?_
 refine RL.binI (v := .bool (y5.2 != (0 : Int))) rfl rfl rfl rfl rfl ?_
 refine RL.finG ?_
 refine GL.cond rfl (fun b7 => ?_) (fun b7 => ?_)
 ·replace hm := ite_t b7 hm
  refine GL.seq ?_
  refine GL.region ?_
  refine RL.mv rfl rfl rfl ?_
  refine RL.asg rfl rfl rfl ?_
  refine RL.finG ?_
  have hm := Option.some.inj hm
  subst hm
  exact GL.ret (Gx.ret (v := .int .i64 y5.2) (res1 rfl rfl) (fun a w st => (st.pick [0, 1] (by decide) rfl).toPostM (V := fun (o : Unit) => .int .i64 ((y5.2, x0).1)) (LR := fun (o : Unit) => [obox 95 (TR.pair TR.str TR.int) v0 ((y5.2, x0).2), keep X]) ()))
 replace hm := ite_f b7 hm
 refine GL.skip ?_
 refine GL.seq ?_
 refine GL.seq ?_
 refine GL.region ?_
 refine RL.mv rfl rfl rfl ?_
 refine RL.nilk 0 rfl rfl rfl rfl PtOf.obox ?_
 refine RL.fadr (off := 0) (fo := 0) 0 Tryz_fld95_0 rfl rfl rfl PtOf.obox (Or.inr ⟨rfl, rfl⟩) ?_
 refine RL.ldPx (off := (0 + 0)) (e' := x0.1) 0 Ex.str Tryz_ln9 rfl rfl (Or.inl rfl) rfl PtOf.obox (Part.fst Part.self) ?_
 refine RL.lenT Tryz.underlying9 rfl rfl rfl ?_
 refine RL.mv rfl rfl rfl ?_
 refine RL.lenT Tryz.underlying9 rfl rfl rfl ?_
 refine RL.binI (v := .int .i64 (wadd ((x0.1).length : Int) ((y5.1).length : Int))) rfl rfl rfl rfl rfl ?_
 refine RL.binI (v := .bool (decide ((wadd ((x0.1).length : Int) ((y5.1).length : Int)) > (4000 : Int)))) rfl rfl rfl rfl rfl ?_
 refine RL.finG ?_
 refine GL.cond rfl (fun b8 => ?_) (fun b8 => ?_)
 ·replace hm := ite_t b8 hm
  refine GL.seq ?_
  refine GL.region ?_
  refine RL.asg rfl rfl rfl ?_
  refine RL.finG ?_
  have hm := Option.some.inj hm
  subst hm
  exact GL.ret (Gx.ret (v := .int .i64 (8 : Int)) (res1 rfl rfl) (fun a w st => (st.pick [0, 1] (by decide) rfl).toPostM (V := fun (o : Unit) => .int .i64 (((8 : Int), x0).1)) (LR := fun (o : Unit) => [obox 95 (TR.pair TR.str TR.int) v0 (((8 : Int), x0).2), keep X]) ()))
 replace hm := ite_f b8 hm
 refine GL.skip ?_
 refine GL.seq ?_
 refine GL.region ?_
 refine RL.mv rfl rfl rfl ?_
 refine RL.nilk 0 rfl rfl rfl rfl PtOf.obox ?_
 refine RL.fadr (off := 0) (fo := 0) 0 Tryz_fld95_0 rfl rfl rfl PtOf.obox (Or.inr ⟨rfl, rfl⟩) ?_
 refine RL.ldPx (off := (0 + 0)) (e' := x0.1) 0 Ex.str Tryz_ln9 rfl rfl (Or.inl rfl) rfl PtOf.obox (Part.fst Part.self) ?_
 refine RL.mv rfl rfl rfl ?_
 obtain ⟨y11, e12, hm⟩ := bind_some hm
 replace e12 := chk_some e12
 refine RL.cat rfl rfl rfl rfl e12 ?_
 refine RL.nilk 0 rfl rfl rfl rfl PtOf.obox ?_
 refine RL.fadr (off := 0) (fo := 0) 0 Tryz_fld95_0 rfl rfl rfl PtOf.obox (Or.inr ⟨rfl, rfl⟩) ?_
 refine RL.stP (off := (0 + 0)) (e' := x0.1 ++ y5.1) (d1 := (x0.1 ++ y5.1, x0.2)) (r := TR.str) 0 Tryz_ln9 rfl rfl (Or.inl rfl) rfl VR.str rfl (Upd.fst Upd.self) ?_
 refine RL.finG ?_
 refine GL.seq ?_
 refine GL.region ?_
 refine RL.asg rfl rfl rfl ?_
 refine RL.finG ?_
 have hm := Option.some.inj hm
 subst hm
 exact GL.ret (Gx.ret (v := .int .i64 (0 : Int)) (res1 rfl rfl) (fun a w st => (st.pick [0, 1] (by decide) rfl).toPostM (V := fun (o : Unit) => .int .i64 (((0 : Int), (x0.1 ++ y5.1, x0.2)).1)) (LR := fun (o : Unit) => [obox 95 (TR.pair TR.str TR.int) v0 (((0 : Int), (x0.1 ++ y5.1, x0.2)).2), keep X]) ()))

set_option maxHeartbeats 4000000 in
theorem house_House_open_c (B : World) (S X : Hp) (f : Nat → Hp) (w : World) (v0 : Value) (u0a : Value) (x0 : ((List ((List UInt8) × (Int × Int))) × ((List ((List UInt8) × ((List UInt8) × (Int × (Int × (Int × Int)))))) × ((List UInt8) × Int)))) (hO : HeapOk B.heap.size S f [obox 78 TrH v0 (x0.1, (x0.2.1, u0a)), obox 95 (TR.pair TR.str TR.int) u0a x0.2.2, keep X].length w) (hB : Below B.heap.size B w) (hI : Its [obox 78 TrH v0 (x0.1, (x0.2.1, u0a)), obox 95 (TR.pair TR.str TR.int) u0a x0.2.2, keep X] S f) (hT : Tab Tryz.prog (Tryz.lays146_ren.g 1) S) (v1 : Value) (x1 : (Int × (Int × ((List UInt8) × ((List UInt8) × ((List UInt8) × (Int × (Int × (Int × Int))))))))) (k1 : (TrE).vrep S v1 x1) (res : Int × ((List ((List UInt8) × (Int × Int))) × ((List ((List UInt8) × ((List UInt8) × (Int × (Int × (Int × Int)))))) × ((List UInt8) × Int)))) (hm : house_House_open_m x0 x1 = some res) : Calls Tryz.prog 43 #[v0, v1] w (PostM B S (fun (o : Unit) => .int .i64 res.1) (fun (o : Unit) => [obox 78 TrH v0 (res.2.1, (res.2.2.1, u0a)), obox 95 (TR.pair TR.str TR.int) u0a res.2.2.2, keep X])) := by
 refine calls_enterM 43 Tryz.func43 Tryz.ntmps43 rfl B S f [(0, v0), (1, v1)] [obox 78 TrH v0 (x0.1, (x0.2.1, u0a)), obox 95 (TR.pair TR.str TR.int) u0a x0.2.2, keep X] [imm TrE v1 x1] rfl ⟨rfl, ⟨rfl, trivial⟩⟩ hB hO hI ⟨k1, trivial⟩ ?_
 unfold house_House_open_m at hm
 refine GL.seq ?_
 refine GL.region ?_
 refine RL.box (t := TrE) (e := x1) rfl rfl rfl rfl (VR.item 3 rfl) ?_
 intro v4
 refine RL.asg rfl rfl rfl ?_
 refine RL.finG ?_
 refine GL.seq ?_
 refine GL.regionA rfl rfl ?_
 refine RA.mv 0 rfl (by kernel_rfl) rfl rfl rfl ?_
 refine RA.still (le := #[true, true, true, true, true, true, true, true, false, false, false, false, false, false]) (f := 6) [1, 2, 3, 4, 5, 6, 7] 8 rfl (by kernel_rfl) ?_
 simp only [pickOps, List.getElem?_toArray, List.getElem?_cons_succ, List.getElem?_cons_zero]
 refine RL.nilk 0 rfl rfl rfl rfl PtOf.obox ?_
 refine RL.fadr (off := 0) (fo := 0) 0 Tryz_fld78_0 rfl rfl rfl PtOf.obox (Or.inr ⟨rfl, rfl⟩) ?_
 refine RL.ldP (off := (0 + 0)) (r := (TR.sl TrA)) (e' := x0.1) 0 Tryz_ln22 rfl rfl (Or.inl rfl) rfl PtOf.obox (Part.fst Part.self) ?_
 intro v9
 refine RL.fadr (off := 0) (fo := 2) 4 Tryz_fld61_2 rfl rfl rfl PtOf.obox (Or.inr ⟨rfl, rfl⟩) ?_
 refine RL.ldPx (off := (0 + 2)) (e' := x1.2.2.1) 4 Ex.str Tryz_ln9 rfl rfl (Or.inl rfl) rfl PtOf.obox (Part.snd (Part.snd (Part.fst Part.self))) ?_
 refine RL.fadr (off := 0) (fo := 1) 4 Tryz_fld61_1 rfl rfl rfl PtOf.obox (Or.inr ⟨rfl, rfl⟩) ?_
 refine RL.ldPx (off := (0 + 1)) (e' := x1.2.1) 4 Ex.ik Tryz_ln3 rfl rfl (Or.inl rfl) rfl PtOf.obox (Part.snd (Part.fst Part.self)) ?_
 refine RL.finH ?_
 refine RL.fin ?_
 refine RA.next ?_
 refine RA.seq 8 rfl (by kernel_rfl) ?_
 obtain ⟨y10, e11, hm⟩ := bind_some hm
 refine RL.call (vs := [v9, .string ⟨(x1.2.2.1 : List UInt8).toArray⟩, .int .i64 x1.2.1]) Tryz_fit12 rfl rfl rfl rfl rfl (fun S f w hS hW hi => ledger_Open_c S w hS _ _ (hi 5 _ rfl) x1.2.2.1 x1.2.1 _ e11) ?_
 intro v12
 refine RL.fin ?_
 refine RA.next ?_
 refine RA.quiet 9 rfl rfl (by kernel_rfl) ?_
 simp only [List.drop_succ_cons, List.drop_zero]
 refine RL.mv rfl rfl rfl ?_
 refine RL.ext rfl rfl rfl rfl ?_
 refine RL.ext rfl rfl rfl rfl ?_
 refine RL.asg rfl rfl rfl ?_
 refine RL.asg rfl rfl rfl ?_
 refine RL.finQ ?_
 refine RA.outQ ?_
 refine GL.weak (env' := [(0, v0), (3, v4), (5, v12), (6, .int .i64 y10.2)]) (L' := [obox 78 TrH v0 (x0.1, (x0.2.1, u0a)), obox 95 (TR.pair TR.str TR.int) u0a x0.2.2, keep X, obox 61 TrE v4 x1, own 30 TrA v12 y10.1]) (fun a w st => St.cut [0, 1, 2, 4, 6] ⟨rfl, rfl, rfl, rfl, trivial⟩ (by decide) rfl st) ?_
 refine GL.seq ?_
 refine GL.seq ?_
 refine GL.region ?_
 refine RL.mv rfl rfl rfl ?_
 refine RL.binI (v := .bool (y10.2 != (0 : Int))) rfl rfl rfl rfl rfl ?_
 refine RL.finG ?_
 refine GL.cond rfl (fun b13 => ?_) (fun b13 => ?_)
 ·replace hm := ite_t b13 hm
  refine GL.seq ?_
  refine GL.region ?_
  refine RL.mv rfl rfl rfl ?_
  refine RL.asg rfl rfl rfl ?_
  refine RL.finG ?_
  have hm := Option.some.inj hm
  subst hm
  exact GL.ret (Gx.ret (v := .int .i64 y10.2) (res1 rfl rfl) (fun a w st => (st.pick [0, 1, 2] (by decide) rfl).toPostM (V := fun (o : Unit) => .int .i64 ((y10.2, x0).1)) (LR := fun (o : Unit) => [obox 78 TrH v0 (((y10.2, x0).2).1, (((y10.2, x0).2).2.1, u0a)), obox 95 (TR.pair TR.str TR.int) u0a (((y10.2, x0).2).2.2), keep X]) ()))
 replace hm := ite_f b13 hm
 refine GL.skip ?_
 refine GL.seq ?_
 refine GL.seq ?_
 refine GL.regionA rfl rfl ?_
 refine RA.mv 0 rfl (by kernel_rfl) rfl rfl rfl ?_
 obtain ⟨y107, e108, hm⟩ := bind_some hm
 replace e108 := chk_some e108
 obtain ⟨y109, e110, hm⟩ := bind_some hm
 replace e110 := chk_some e110
 obtain ⟨y111, e112, hm⟩ := bind_some hm
 obtain ⟨y113, e114, hm⟩ := bind_some hm
 replace e114 := chk_some e114
 refine RA.meet (ι := Unit) (fun (p : Unit) => [(0, v0), (5, v12), (26, u0a), (34, .string ⟨(((([111, 32] : List UInt8) ++ x1.2.2.1) ++ ([32] : List UInt8)) ++ y111 : List UInt8).toArray⟩)]) (fun (p : Unit) => [obox 78 TrH v0 (x0.1, (x0.2.1, u0a)), obox 95 (TR.pair TR.str TR.int) u0a x0.2.2, keep X, own 30 TrA v12 y10.1]) 2 #[true, true, true, true, true, true, true, true, true, true, true, true, false, false] (fun h115 => ?_) ?_
 ·skip
  refine RA.meet (ι := Unit) (fun (p : Unit) => [(0, v0), (5, v12), (26, u0a), (30, .string ⟨((([111, 32] : List UInt8) ++ x1.2.2.1) ++ ([32] : List UInt8) : List UInt8).toArray⟩), (33, .string ⟨(y111 : List UInt8).toArray⟩)]) (fun (p : Unit) => [obox 78 TrH v0 (x0.1, (x0.2.1, u0a)), obox 95 (TR.pair TR.str TR.int) u0a x0.2.2, keep X, own 30 TrA v12 y10.1]) 3 #[true, true, true, true, true, true, true, true, true, true, true, false, false, false] (fun h116 => ?_) ?_
  rotate_left
  ·rintro ⟨⟩
   refine RA.weak (env' := [(0, v0), (5, v12), (26, u0a), (30, .string ⟨((([111, 32] : List UInt8) ++ x1.2.2.1) ++ ([32] : List UInt8) : List UInt8).toArray⟩), (33, .string ⟨(y111 : List UInt8).toArray⟩)]) (L' := [obox 78 TrH v0 (x0.1, (x0.2.1, u0a)), obox 95 (TR.pair TR.str TR.int) u0a x0.2.2, keep X, own 30 TrA v12 y10.1]) (fun _ _ st => st) ?_
   refine RA.seq 11 rfl (by kernel_rfl) ?_
   refine RL.cat rfl rfl rfl rfl e114 ?_
   refine RL.fin ?_
   refine RA.next ?_
   refine RA.relist 2 #[true, true, true, true, true, true, true, true, true, true, true, true, false, false] rfl (by kernel_rfl) ?_
   exact fun a w st => h115 () a w (St.cut [0, 1, 2, 3] ⟨rfl, rfl, rfl, rfl, trivial⟩ (by decide) rfl st)
  refine RA.meet (ι := Unit) (fun (p : Unit) => [(0, v0), (5, v12), (25, adr v0 (0 + 2)), (34, .string ⟨(((([111, 32] : List UInt8) ++ x1.2.2.1) ++ ([32] : List UInt8)) ++ y111 : List UInt8).toArray⟩)]) (fun (p : Unit) => [obox 78 TrH v0 (x0.1, (x0.2.1, u0a)), obox 95 (TR.pair TR.str TR.int) u0a x0.2.2, keep X, own 30 TrA v12 y10.1]) 3 #[true, true, true, false, true, true, true, true, true, true, true, true, false, false] (fun h117 => ?_) ?_
  rotate_left
  ·rintro ⟨⟩
   refine RA.weak (env' := [(0, v0), (5, v12), (25, adr v0 (0 + 2)), (34, .string ⟨(((([111, 32] : List UInt8) ++ x1.2.2.1) ++ ([32] : List UInt8)) ++ y111 : List UInt8).toArray⟩)]) (L' := [obox 78 TrH v0 (x0.1, (x0.2.1, u0a)), obox 95 (TR.pair TR.str TR.int) u0a x0.2.2, keep X, own 30 TrA v12 y10.1]) (fun _ _ st => st) ?_
   refine RA.seq 3 rfl (by kernel_rfl) ?_
   refine RL.ldPx (off := (0 + 2)) (e' := u0a) 0 Ex.raw Tryz_ln76 rfl rfl (Or.inl rfl) rfl PtOf.obox (Part.snd (Part.snd Part.self)) ?_
   refine RL.fin ?_
   refine RA.next ?_
   refine RA.relist 2 #[true, true, true, true, true, true, true, true, true, true, true, true, false, false] rfl (by kernel_rfl) ?_
   exact fun a w st => h115 () a w (St.cut [0, 1, 2, 3] ⟨rfl, rfl, rfl, rfl, trivial⟩ (by decide) rfl st)
  refine RA.meet (ι := Unit) (fun (p : Unit) => [(0, v0), (5, v12), (26, u0a), (30, .string ⟨((([111, 32] : List UInt8) ++ x1.2.2.1) ++ ([32] : List UInt8) : List UInt8).toArray⟩), (32, .int .i64 x1.2.1)]) (fun (p : Unit) => [obox 78 TrH v0 (x0.1, (x0.2.1, u0a)), obox 95 (TR.pair TR.str TR.int) u0a x0.2.2, keep X, own 30 TrA v12 y10.1]) 4 #[true, true, true, true, true, true, true, true, true, true, false, false, false, false] (fun h118 => ?_) ?_
  rotate_left
  ·rintro ⟨⟩
   refine RA.weak (env' := [(0, v0), (5, v12), (26, u0a), (30, .string ⟨((([111, 32] : List UInt8) ++ x1.2.2.1) ++ ([32] : List UInt8) : List UInt8).toArray⟩), (32, .int .i64 x1.2.1)]) (L' := [obox 78 TrH v0 (x0.1, (x0.2.1, u0a)), obox 95 (TR.pair TR.str TR.int) u0a x0.2.2, keep X, own 30 TrA v12 y10.1]) (fun _ _ st => st) ?_
   refine RA.seq 10 rfl (by kernel_rfl) ?_
   refine RL.callV (v := .string ⟨(y111 : List UInt8).toArray⟩) (vs := [.int .i64 x1.2.1]) Tryz_fit58 rfl (Or.inl rfl) rfl rfl rfl rfl (fun U w hU hW hL => strconv_Itoa_c U w hU (hT.mono hW) x1.2.1 _ e112) ?_
   refine RL.fin ?_
   refine RA.next ?_
   refine RA.relist 3 #[true, true, true, true, true, true, true, true, true, true, true, false, false, false] rfl (by kernel_rfl) ?_
   exact fun a w st => h116 () a w (St.cut [0, 1, 2, 3] ⟨rfl, rfl, rfl, rfl, rfl, trivial⟩ (by decide) rfl st)
  refine RA.meet (ι := Unit) (fun (p : Unit) => [(0, v0), (5, v12), (26, u0a), (29, .string ⟨(([111, 32] : List UInt8) ++ x1.2.2.1 : List UInt8).toArray⟩), (33, .string ⟨(y111 : List UInt8).toArray⟩)]) (fun (p : Unit) => [obox 78 TrH v0 (x0.1, (x0.2.1, u0a)), obox 95 (TR.pair TR.str TR.int) u0a x0.2.2, keep X, own 30 TrA v12 y10.1]) 4 #[true, true, true, true, true, true, true, false, true, true, true, false, false, false] (fun h119 => ?_) ?_
  rotate_left
  ·rintro ⟨⟩
   refine RA.weak (env' := [(0, v0), (5, v12), (26, u0a), (29, .string ⟨(([111, 32] : List UInt8) ++ x1.2.2.1 : List UInt8).toArray⟩), (33, .string ⟨(y111 : List UInt8).toArray⟩)]) (L' := [obox 78 TrH v0 (x0.1, (x0.2.1, u0a)), obox 95 (TR.pair TR.str TR.int) u0a x0.2.2, keep X, own 30 TrA v12 y10.1]) (fun _ _ st => st) ?_
   refine RA.seq 7 rfl (by kernel_rfl) ?_
   refine RL.cat rfl rfl rfl rfl e110 ?_
   refine RL.fin ?_
   refine RA.next ?_
   refine RA.relist 3 #[true, true, true, true, true, true, true, true, true, true, true, false, false, false] rfl (by kernel_rfl) ?_
   exact fun a w st => h116 () a w (St.cut [0, 1, 2, 3] ⟨rfl, rfl, rfl, rfl, rfl, trivial⟩ (by decide) rfl st)
  refine RA.meet (ι := Unit) (fun (p : Unit) => [(0, v0), (5, v12), (25, adr v0 (0 + 2)), (30, .string ⟨((([111, 32] : List UInt8) ++ x1.2.2.1) ++ ([32] : List UInt8) : List UInt8).toArray⟩), (33, .string ⟨(y111 : List UInt8).toArray⟩)]) (fun (p : Unit) => [obox 78 TrH v0 (x0.1, (x0.2.1, u0a)), obox 95 (TR.pair TR.str TR.int) u0a x0.2.2, keep X, own 30 TrA v12 y10.1]) 4 #[true, true, true, false, true, true, true, true, true, true, true, false, false, false] (fun h120 => ?_) ?_
  rotate_left
  ·rintro ⟨⟩
   refine RA.weak (env' := [(0, v0), (5, v12), (25, adr v0 (0 + 2)), (30, .string ⟨((([111, 32] : List UInt8) ++ x1.2.2.1) ++ ([32] : List UInt8) : List UInt8).toArray⟩), (33, .string ⟨(y111 : List UInt8).toArray⟩)]) (L' := [obox 78 TrH v0 (x0.1, (x0.2.1, u0a)), obox 95 (TR.pair TR.str TR.int) u0a x0.2.2, keep X, own 30 TrA v12 y10.1]) (fun _ _ st => st) ?_
   refine RA.many [3, 11] (by kernel_rfl) ⟨⟨_, rfl, ?_⟩, ⟨_, rfl, ?_⟩, trivial⟩
   ·skip
    refine RL.ldPx (off := (0 + 2)) (e' := u0a) 0 Ex.raw Tryz_ln76 rfl rfl (Or.inl rfl) rfl PtOf.obox (Part.snd (Part.snd Part.self)) ?_
    refine RL.fin ?_
    refine RA.next ?_
    refine RA.relist 3 #[true, true, true, true, true, true, true, true, true, true, true, false, false, false] rfl (by kernel_rfl) ?_
    exact fun a w st => h116 () a w (St.cut [0, 1, 2, 3] ⟨rfl, rfl, rfl, rfl, rfl, trivial⟩ (by decide) rfl st)
   refine RL.cat rfl rfl rfl rfl e114 ?_
   refine RL.fin ?_
   refine RA.next ?_
   refine RA.relist 3 #[true, true, true, false, true, true, true, true, true, true, true, true, false, false] rfl (by kernel_rfl) ?_
   exact fun a w st => h117 () a w (St.cut [0, 1, 2, 3] ⟨rfl, rfl, rfl, rfl, trivial⟩ (by decide) rfl st)
  refine RA.meet (ι := Unit) (fun (p : Unit) => [(0, v0), (5, v12), (24, v0), (34, .string ⟨(((([111, 32] : List UInt8) ++ x1.2.2.1) ++ ([32] : List UInt8)) ++ y111 : List UInt8).toArray⟩)]) (fun (p : Unit) => [obox 78 TrH v0 (x0.1, (x0.2.1, u0a)), obox 95 (TR.pair TR.str TR.int) u0a x0.2.2, keep X, own 30 TrA v12 y10.1]) 4 #[true, true, false, false, true, true, true, true, true, true, true, true, false, false] (fun h121 => ?_) ?_
  rotate_left
  ·rintro ⟨⟩
   refine RA.weak (env' := [(0, v0), (5, v12), (24, v0), (34, .string ⟨(((([111, 32] : List UInt8) ++ x1.2.2.1) ++ ([32] : List UInt8)) ++ y111 : List UInt8).toArray⟩)]) (L' := [obox 78 TrH v0 (x0.1, (x0.2.1, u0a)), obox 95 (TR.pair TR.str TR.int) u0a x0.2.2, keep X, own 30 TrA v12 y10.1]) (fun _ _ st => st) ?_
   refine RA.seq 2 rfl (by kernel_rfl) ?_
   refine RL.fadr (off := 0) (fo := 2) 0 Tryz_fld78_2 rfl rfl rfl PtOf.obox (Or.inr ⟨rfl, rfl⟩) ?_
   refine RL.fin ?_
   refine RA.next ?_
   refine RA.relist 3 #[true, true, true, false, true, true, true, true, true, true, true, true, false, false] rfl (by kernel_rfl) ?_
   exact fun a w st => h117 () a w (St.cut [0, 1, 2, 3] ⟨rfl, rfl, rfl, rfl, trivial⟩ (by decide) rfl st)
  refine RA.meet (ι := Unit) (fun (p : Unit) => [(0, v0), (5, v12), (26, u0a), (30, .string ⟨((([111, 32] : List UInt8) ++ x1.2.2.1) ++ ([32] : List UInt8) : List UInt8).toArray⟩), (31, adr v4 (0 + 1))]) (fun (p : Unit) => [obox 78 TrH v0 (x0.1, (x0.2.1, u0a)), obox 95 (TR.pair TR.str TR.int) u0a x0.2.2, keep X, own 30 TrA v12 y10.1, obox 61 TrE v4 x1]) 5 #[true, true, true, true, true, true, true, true, true, false, false, false, false, false] (fun h122 => ?_) ?_
  rotate_left
  ·rintro ⟨⟩
   refine RA.weak (env' := [(0, v0), (5, v12), (26, u0a), (30, .string ⟨((([111, 32] : List UInt8) ++ x1.2.2.1) ++ ([32] : List UInt8) : List UInt8).toArray⟩), (31, adr v4 (0 + 1))]) (L' := [obox 78 TrH v0 (x0.1, (x0.2.1, u0a)), obox 95 (TR.pair TR.str TR.int) u0a x0.2.2, keep X, own 30 TrA v12 y10.1, obox 61 TrE v4 x1]) (fun _ _ st => st) ?_
   refine RA.seq 9 rfl (by kernel_rfl) ?_
   refine RL.ldPx (off := (0 + 1)) (e' := x1.2.1) 4 Ex.ik Tryz_ln3 rfl rfl (Or.inl rfl) rfl PtOf.obox (Part.snd (Part.fst Part.self)) ?_
   refine RL.fin ?_
   refine RA.next ?_
   refine RA.relist 4 #[true, true, true, true, true, true, true, true, true, true, false, false, false, false] rfl (by kernel_rfl) ?_
   exact fun a w st => h118 () a w (St.cut [0, 1, 2, 3] ⟨rfl, rfl, rfl, rfl, rfl, trivial⟩ (by decide) rfl st)
  refine RA.meet (ι := Unit) (fun (p : Unit) => [(0, v0), (5, v12), (23, v0), (34, .string ⟨(((([111, 32] : List UInt8) ++ x1.2.2.1) ++ ([32] : List UInt8)) ++ y111 : List UInt8).toArray⟩)]) (fun (p : Unit) => [obox 78 TrH v0 (x0.1, (x0.2.1, u0a)), obox 95 (TR.pair TR.str TR.int) u0a x0.2.2, keep X, own 30 TrA v12 y10.1]) 5 #[true, false, false, false, true, true, true, true, true, true, true, true, false, false] (fun h123 => ?_) ?_
  rotate_left
  ·rintro ⟨⟩
   refine RA.weak (env' := [(0, v0), (5, v12), (23, v0), (34, .string ⟨(((([111, 32] : List UInt8) ++ x1.2.2.1) ++ ([32] : List UInt8)) ++ y111 : List UInt8).toArray⟩)]) (L' := [obox 78 TrH v0 (x0.1, (x0.2.1, u0a)), obox 95 (TR.pair TR.str TR.int) u0a x0.2.2, keep X, own 30 TrA v12 y10.1]) (fun _ _ st => st) ?_
   refine RA.seq 1 rfl (by kernel_rfl) ?_
   refine RL.nilk 0 rfl rfl rfl rfl PtOf.obox ?_
   refine RL.fin ?_
   refine RA.next ?_
   refine RA.relist 4 #[true, true, false, false, true, true, true, true, true, true, true, true, false, false] rfl (by kernel_rfl) ?_
   exact fun a w st => h121 () a w (St.cut [0, 1, 2, 3] ⟨rfl, rfl, rfl, rfl, trivial⟩ (by decide) rfl st)
  refine RA.meet (ι := Unit) (fun (p : Unit) => [(0, v0), (5, v12), (26, u0a), (29, .string ⟨(([111, 32] : List UInt8) ++ x1.2.2.1 : List UInt8).toArray⟩), (32, .int .i64 x1.2.1)]) (fun (p : Unit) => [obox 78 TrH v0 (x0.1, (x0.2.1, u0a)), obox 95 (TR.pair TR.str TR.int) u0a x0.2.2, keep X, own 30 TrA v12 y10.1]) 5 #[true, true, true, true, true, true, true, false, true, true, false, false, false, false] (fun h124 => ?_) ?_
  rotate_left
  ·rintro ⟨⟩
   refine RA.weak (env' := [(0, v0), (5, v12), (26, u0a), (29, .string ⟨(([111, 32] : List UInt8) ++ x1.2.2.1 : List UInt8).toArray⟩), (32, .int .i64 x1.2.1)]) (L' := [obox 78 TrH v0 (x0.1, (x0.2.1, u0a)), obox 95 (TR.pair TR.str TR.int) u0a x0.2.2, keep X, own 30 TrA v12 y10.1]) (fun _ _ st => st) ?_
   refine RA.many [7, 10] (by kernel_rfl) ⟨⟨_, rfl, ?_⟩, ⟨_, rfl, ?_⟩, trivial⟩
   ·skip
    refine RL.cat rfl rfl rfl rfl e110 ?_
    refine RL.fin ?_
    refine RA.next ?_
    refine RA.relist 4 #[true, true, true, true, true, true, true, true, true, true, false, false, false, false] rfl (by kernel_rfl) ?_
    exact fun a w st => h118 () a w (St.cut [0, 1, 2, 3] ⟨rfl, rfl, rfl, rfl, rfl, trivial⟩ (by decide) rfl st)
   refine RL.callV (v := .string ⟨(y111 : List UInt8).toArray⟩) (vs := [.int .i64 x1.2.1]) Tryz_fit58 rfl (Or.inl rfl) rfl rfl rfl rfl (fun U w hU hW hL => strconv_Itoa_c U w hU (hT.mono hW) x1.2.1 _ e112) ?_
   refine RL.fin ?_
   refine RA.next ?_
   refine RA.relist 4 #[true, true, true, true, true, true, true, false, true, true, true, false, false, false] rfl (by kernel_rfl) ?_
   exact fun a w st => h119 () a w (St.cut [0, 1, 2, 3] ⟨rfl, rfl, rfl, rfl, rfl, trivial⟩ (by decide) rfl st)
  refine RA.meet (ι := Unit) (fun (p : Unit) => [(0, v0), (5, v12), (25, adr v0 (0 + 2)), (29, .string ⟨(([111, 32] : List UInt8) ++ x1.2.2.1 : List UInt8).toArray⟩), (33, .string ⟨(y111 : List UInt8).toArray⟩)]) (fun (p : Unit) => [obox 78 TrH v0 (x0.1, (x0.2.1, u0a)), obox 95 (TR.pair TR.str TR.int) u0a x0.2.2, keep X, own 30 TrA v12 y10.1]) 5 #[true, true, true, false, true, true, true, false, true, true, true, false, false, false] (fun h125 => ?_) ?_
  rotate_left
  ·rintro ⟨⟩
   refine RA.weak (env' := [(0, v0), (5, v12), (25, adr v0 (0 + 2)), (29, .string ⟨(([111, 32] : List UInt8) ++ x1.2.2.1 : List UInt8).toArray⟩), (33, .string ⟨(y111 : List UInt8).toArray⟩)]) (L' := [obox 78 TrH v0 (x0.1, (x0.2.1, u0a)), obox 95 (TR.pair TR.str TR.int) u0a x0.2.2, keep X, own 30 TrA v12 y10.1]) (fun _ _ st => st) ?_
   refine RA.many [3, 7] (by kernel_rfl) ⟨⟨_, rfl, ?_⟩, ⟨_, rfl, ?_⟩, trivial⟩
   ·skip
    refine RL.ldPx (off := (0 + 2)) (e' := u0a) 0 Ex.raw Tryz_ln76 rfl rfl (Or.inl rfl) rfl PtOf.obox (Part.snd (Part.snd Part.self)) ?_
    refine RL.fin ?_
    refine RA.next ?_
    refine RA.relist 4 #[true, true, true, true, true, true, true, false, true, true, true, false, false, false] rfl (by kernel_rfl) ?_
    exact fun a w st => h119 () a w (St.cut [0, 1, 2, 3] ⟨rfl, rfl, rfl, rfl, rfl, trivial⟩ (by decide) rfl st)
   refine RL.cat rfl rfl rfl rfl e110 ?_
   refine RL.fin ?_
   refine RA.next ?_
   refine RA.relist 4 #[true, true, true, false, true, true, true, true, true, true, true, false, false, false] rfl (by kernel_rfl) ?_
   exact fun a w st => h120 () a w (St.cut [0, 1, 2, 3] ⟨rfl, rfl, rfl, rfl, rfl, trivial⟩ (by decide) rfl st)
  refine RA.meet (ι := Unit) (fun (p : Unit) => [(0, v0), (5, v12), (25, adr v0 (0 + 2)), (30, .string ⟨((([111, 32] : List UInt8) ++ x1.2.2.1) ++ ([32] : List UInt8) : List UInt8).toArray⟩), (32, .int .i64 x1.2.1)]) (fun (p : Unit) => [obox 78 TrH v0 (x0.1, (x0.2.1, u0a)), obox 95 (TR.pair TR.str TR.int) u0a x0.2.2, keep X, own 30 TrA v12 y10.1]) 5 #[true, true, true, false, true, true, true, true, true, true, false, false, false, false] (fun h126 => ?_) ?_
  rotate_left
  ·rintro ⟨⟩
   refine RA.weak (env' := [(0, v0), (5, v12), (25, adr v0 (0 + 2)), (30, .string ⟨((([111, 32] : List UInt8) ++ x1.2.2.1) ++ ([32] : List UInt8) : List UInt8).toArray⟩), (32, .int .i64 x1.2.1)]) (L' := [obox 78 TrH v0 (x0.1, (x0.2.1, u0a)), obox 95 (TR.pair TR.str TR.int) u0a x0.2.2, keep X, own 30 TrA v12 y10.1]) (fun _ _ st => st) ?_
   refine RA.many [3, 10] (by kernel_rfl) ⟨⟨_, rfl, ?_⟩, ⟨_, rfl, ?_⟩, trivial⟩
   ·skip
    refine RL.ldPx (off := (0 + 2)) (e' := u0a) 0 Ex.raw Tryz_ln76 rfl rfl (Or.inl rfl) rfl PtOf.obox (Part.snd (Part.snd Part.self)) ?_
    refine RL.fin ?_
    refine RA.next ?_
    refine RA.relist 4 #[true, true, true, true, true, true, true, true, true, true, false, false, false, false] rfl (by kernel_rfl) ?_
    exact fun a w st => h118 () a w (St.cut [0, 1, 2, 3] ⟨rfl, rfl, rfl, rfl, rfl, trivial⟩ (by decide) rfl st)
   refine RL.callV (v := .string ⟨(y111 : List UInt8).toArray⟩) (vs := [.int .i64 x1.2.1]) Tryz_fit58 rfl (Or.inl rfl) rfl rfl rfl rfl (fun U w hU hW hL => strconv_Itoa_c U w hU (hT.mono hW) x1.2.1 _ e112) ?_
   refine RL.fin ?_
   refine RA.next ?_
   refine RA.relist 4 #[true, true, true, false, true, true, true, true, true, true, true, false, false, false] rfl (by kernel_rfl) ?_
   exact fun a w st => h120 () a w (St.cut [0, 1, 2, 3] ⟨rfl, rfl, rfl, rfl, rfl, trivial⟩ (by decide) rfl st)
  refine RA.meet (ι := Unit) (fun (p : Unit) => [(0, v0), (5, v12), (24, v0), (30, .string ⟨((([111, 32] : List UInt8) ++ x1.2.2.1) ++ ([32] : List UInt8) : List UInt8).toArray⟩), (33, .string ⟨(y111 : List UInt8).toArray⟩)]) (fun (p : Unit) => [obox 78 TrH v0 (x0.1, (x0.2.1, u0a)), obox 95 (TR.pair TR.str TR.int) u0a x0.2.2, keep X, own 30 TrA v12 y10.1]) 5 #[true, true, false, false, true, true, true, true, true, true, true, false, false, false] (fun h127 => ?_) ?_
  rotate_left
  ·rintro ⟨⟩
   refine RA.weak (env' := [(0, v0), (5, v12), (24, v0), (30, .string ⟨((([111, 32] : List UInt8) ++ x1.2.2.1) ++ ([32] : List UInt8) : List UInt8).toArray⟩), (33, .string ⟨(y111 : List UInt8).toArray⟩)]) (L' := [obox 78 TrH v0 (x0.1, (x0.2.1, u0a)), obox 95 (TR.pair TR.str TR.int) u0a x0.2.2, keep X, own 30 TrA v12 y10.1]) (fun _ _ st => st) ?_
   refine RA.many [2, 11] (by kernel_rfl) ⟨⟨_, rfl, ?_⟩, ⟨_, rfl, ?_⟩, trivial⟩
   ·skip
    refine RL.fadr (off := 0) (fo := 2) 0 Tryz_fld78_2 rfl rfl rfl PtOf.obox (Or.inr ⟨rfl, rfl⟩) ?_
    refine RL.fin ?_
    refine RA.next ?_
    refine RA.relist 4 #[true, true, true, false, true, true, true, true, true, true, true, false, false, false] rfl (by kernel_rfl) ?_
    exact fun a w st => h120 () a w (St.cut [0, 1, 2, 3] ⟨rfl, rfl, rfl, rfl, rfl, trivial⟩ (by decide) rfl st)
   refine RL.cat rfl rfl rfl rfl e114 ?_
   refine RL.fin ?_
   refine RA.next ?_
   refine RA.relist 4 #[true, true, false, false, true, true, true, true, true, true, true, true, false, false] rfl (by kernel_rfl) ?_
   exact fun a w st => h121 () a w (St.cut [0, 1, 2, 3] ⟨rfl, rfl, rfl, rfl, trivial⟩ (by decide) rfl st)
  refine RA.meet (ι := Unit) (fun (p : Unit) => [(0, v0), (5, v12), (26, u0a), (28, .string ⟨(x1.2.2.1 : List UInt8).toArray⟩), (33, .string ⟨(y111 : List UInt8).toArray⟩)]) (fun (p : Unit) => [obox 78 TrH v0 (x0.1, (x0.2.1, u0a)), obox 95 (TR.pair TR.str TR.int) u0a x0.2.2, keep X, own 30 TrA v12 y10.1]) 5 #[true, true, true, true, true, true, false, false, true, true, true, false, false, false] (fun h128 => ?_) ?_
  rotate_left
  ·rintro ⟨⟩
   refine RA.weak (env' := [(0, v0), (5, v12), (26, u0a), (28, .string ⟨(x1.2.2.1 : List UInt8).toArray⟩), (33, .string ⟨(y111 : List UInt8).toArray⟩)]) (L' := [obox 78 TrH v0 (x0.1, (x0.2.1, u0a)), obox 95 (TR.pair TR.str TR.int) u0a x0.2.2, keep X, own 30 TrA v12 y10.1]) (fun _ _ st => st) ?_
   refine RA.seq 6 rfl (by kernel_rfl) ?_
   refine RL.cat rfl rfl rfl rfl e108 ?_
   refine RL.fin ?_
   refine RA.next ?_
   refine RA.relist 4 #[true, true, true, true, true, true, true, false, true, true, true, false, false, false] rfl (by kernel_rfl) ?_
   exact fun a w st => h119 () a w (St.cut [0, 1, 2, 3] ⟨rfl, rfl, rfl, rfl, rfl, trivial⟩ (by decide) rfl st)
  refine RA.meet (ι := Unit) (fun (p : Unit) => [(0, v0), (5, v12), (24, v0), (30, .string ⟨((([111, 32] : List UInt8) ++ x1.2.2.1) ++ ([32] : List UInt8) : List UInt8).toArray⟩), (32, .int .i64 x1.2.1)]) (fun (p : Unit) => [obox 78 TrH v0 (x0.1, (x0.2.1, u0a)), obox 95 (TR.pair TR.str TR.int) u0a x0.2.2, keep X, own 30 TrA v12 y10.1]) 6 #[true, true, false, false, true, true, true, true, true, true, false, false, false, false] (fun h129 => ?_) ?_
  rotate_left
  ·rintro ⟨⟩
   refine RA.weak (env' := [(0, v0), (5, v12), (24, v0), (30, .string ⟨((([111, 32] : List UInt8) ++ x1.2.2.1) ++ ([32] : List UInt8) : List UInt8).toArray⟩), (32, .int .i64 x1.2.1)]) (L' := [obox 78 TrH v0 (x0.1, (x0.2.1, u0a)), obox 95 (TR.pair TR.str TR.int) u0a x0.2.2, keep X, own 30 TrA v12 y10.1]) (fun _ _ st => st) ?_
   refine RA.many [2, 10] (by kernel_rfl) ⟨⟨_, rfl, ?_⟩, ⟨_, rfl, ?_⟩, trivial⟩
   ·skip
    refine RL.fadr (off := 0) (fo := 2) 0 Tryz_fld78_2 rfl rfl rfl PtOf.obox (Or.inr ⟨rfl, rfl⟩) ?_
    refine RL.fin ?_
    refine RA.next ?_
    refine RA.relist 5 #[true, true, true, false, true, true, true, true, true, true, false, false, false, false] rfl (by kernel_rfl) ?_
    exact fun a w st => h126 () a w (St.cut [0, 1, 2, 3] ⟨rfl, rfl, rfl, rfl, rfl, trivial⟩ (by decide) rfl st)
   refine RL.callV (v := .string ⟨(y111 : List UInt8).toArray⟩) (vs := [.int .i64 x1.2.1]) Tryz_fit58 rfl (Or.inl rfl) rfl rfl rfl rfl (fun U w hU hW hL => strconv_Itoa_c U w hU (hT.mono hW) x1.2.1 _ e112) ?_
   refine RL.fin ?_
   refine RA.next ?_
   refine RA.relist 5 #[true, true, false, false, true, true, true, true, true, true, true, false, false, false] rfl (by kernel_rfl) ?_
   exact fun a w st => h127 () a w (St.cut [0, 1, 2, 3] ⟨rfl, rfl, rfl, rfl, rfl, trivial⟩ (by decide) rfl st)
  refine RA.meet (ι := Unit) (fun (p : Unit) => [(0, v0), (5, v12), (25, adr v0 (0 + 2)), (30, .string ⟨((([111, 32] : List UInt8) ++ x1.2.2.1) ++ ([32] : List UInt8) : List UInt8).toArray⟩), (31, adr v4 (0 + 1))]) (fun (p : Unit) => [obox 78 TrH v0 (x0.1, (x0.2.1, u0a)), obox 95 (TR.pair TR.str TR.int) u0a x0.2.2, keep X, own 30 TrA v12 y10.1, obox 61 TrE v4 x1]) 6 #[true, true, true, false, true, true, true, true, true, false, false, false, false, false] (fun h130 => ?_) ?_
  rotate_left
  ·rintro ⟨⟩
   refine RA.weak (env' := [(0, v0), (5, v12), (25, adr v0 (0 + 2)), (30, .string ⟨((([111, 32] : List UInt8) ++ x1.2.2.1) ++ ([32] : List UInt8) : List UInt8).toArray⟩), (31, adr v4 (0 + 1))]) (L' := [obox 78 TrH v0 (x0.1, (x0.2.1, u0a)), obox 95 (TR.pair TR.str TR.int) u0a x0.2.2, keep X, own 30 TrA v12 y10.1, obox 61 TrE v4 x1]) (fun _ _ st => st) ?_
   refine RA.many [3, 9] (by kernel_rfl) ⟨⟨_, rfl, ?_⟩, ⟨_, rfl, ?_⟩, trivial⟩
   ·skip
    refine RL.ldPx (off := (0 + 2)) (e' := u0a) 0 Ex.raw Tryz_ln76 rfl rfl (Or.inl rfl) rfl PtOf.obox (Part.snd (Part.snd Part.self)) ?_
    refine RL.fin ?_
    refine RA.next ?_
    refine RA.relist 5 #[true, true, true, true, true, true, true, true, true, false, false, false, false, false] rfl (by kernel_rfl) ?_
    exact fun a w st => h122 () a w (St.cut [0, 1, 2, 3, 4] ⟨rfl, rfl, rfl, rfl, rfl, trivial⟩ (by decide) rfl st)
   refine RL.ldPx (off := (0 + 1)) (e' := x1.2.1) 4 Ex.ik Tryz_ln3 rfl rfl (Or.inl rfl) rfl PtOf.obox (Part.snd (Part.fst Part.self)) ?_
   refine RL.fin ?_
   refine RA.next ?_
   refine RA.relist 5 #[true, true, true, false, true, true, true, true, true, true, false, false, false, false] rfl (by kernel_rfl) ?_
   exact fun a w st => h126 () a w (St.cut [0, 1, 2, 3] ⟨rfl, rfl, rfl, rfl, rfl, trivial⟩ (by decide) rfl st)
  refine RA.meet (ι := Unit) (fun (p : Unit) => [(0, v0), (5, v12), (23, v0), (30, .string ⟨((([111, 32] : List UInt8) ++ x1.2.2.1) ++ ([32] : List UInt8) : List UInt8).toArray⟩), (33, .string ⟨(y111 : List UInt8).toArray⟩)]) (fun (p : Unit) => [obox 78 TrH v0 (x0.1, (x0.2.1, u0a)), obox 95 (TR.pair TR.str TR.int) u0a x0.2.2, keep X, own 30 TrA v12 y10.1]) 6 #[true, false, false, false, true, true, true, true, true, true, true, false, false, false] (fun h131 => ?_) ?_
  rotate_left
  ·rintro ⟨⟩
   refine RA.weak (env' := [(0, v0), (5, v12), (23, v0), (30, .string ⟨((([111, 32] : List UInt8) ++ x1.2.2.1) ++ ([32] : List UInt8) : List UInt8).toArray⟩), (33, .string ⟨(y111 : List UInt8).toArray⟩)]) (L' := [obox 78 TrH v0 (x0.1, (x0.2.1, u0a)), obox 95 (TR.pair TR.str TR.int) u0a x0.2.2, keep X, own 30 TrA v12 y10.1]) (fun _ _ st => st) ?_
   refine RA.many [1, 11] (by kernel_rfl) ⟨⟨_, rfl, ?_⟩, ⟨_, rfl, ?_⟩, trivial⟩
   ·skip
    refine RL.nilk 0 rfl rfl rfl rfl PtOf.obox ?_
    refine RL.fin ?_
    refine RA.next ?_
    refine RA.relist 5 #[true, true, false, false, true, true, true, true, true, true, true, false, false, false] rfl (by kernel_rfl) ?_
    exact fun a w st => h127 () a w (St.cut [0, 1, 2, 3] ⟨rfl, rfl, rfl, rfl, rfl, trivial⟩ (by decide) rfl st)
   refine RL.cat rfl rfl rfl rfl e114 ?_
   refine RL.fin ?_
   refine RA.next ?_
   refine RA.relist 5 #[true, false, false, false, true, true, true, true, true, true, true, true, false, false] rfl (by kernel_rfl) ?_
   exact fun a w st => h123 () a w (St.cut [0, 1, 2, 3] ⟨rfl, rfl, rfl, rfl, trivial⟩ (by decide) rfl st)
  refine RA.meet (ι := Unit) (fun (p : Unit) => [(0, v0), (3, v4), (5, v12), (26, u0a), (30, .string ⟨((([111, 32] : List UInt8) ++ x1.2.2.1) ++ ([32] : List UInt8) : List UInt8).toArray⟩)]) (fun (p : Unit) => [obox 78 TrH v0 (x0.1, (x0.2.1, u0a)), obox 95 (TR.pair TR.str TR.int) u0a x0.2.2, keep X, obox 61 TrE v4 x1, own 30 TrA v12 y10.1]) 6 #[true, true, true, true, true, true, true, true, false, false, false, false, false, false] (fun h132 => ?_) ?_
  rotate_left
  ·rintro ⟨⟩
   refine RA.weak (env' := [(0, v0), (3, v4), (5, v12), (26, u0a), (30, .string ⟨((([111, 32] : List UInt8) ++ x1.2.2.1) ++ ([32] : List UInt8) : List UInt8).toArray⟩)]) (L' := [obox 78 TrH v0 (x0.1, (x0.2.1, u0a)), obox 95 (TR.pair TR.str TR.int) u0a x0.2.2, keep X, obox 61 TrE v4 x1, own 30 TrA v12 y10.1]) (fun _ _ st => st) ?_
   refine RA.seq 8 rfl (by kernel_rfl) ?_
   refine RL.fadr (off := 0) (fo := 1) 3 Tryz_fld61_1 rfl rfl rfl PtOf.obox (Or.inr ⟨rfl, rfl⟩) ?_
   refine RL.fin ?_
   refine RA.next ?_
   refine RA.relist 5 #[true, true, true, true, true, true, true, true, true, false, false, false, false, false] rfl (by kernel_rfl) ?_
   exact fun a w st => h122 () a w (St.cut [0, 1, 2, 4, 3] ⟨rfl, rfl, rfl, rfl, rfl, trivial⟩ (by decide) rfl st)
  refine RA.meet (ι := Unit) (fun (p : Unit) => [(0, v0), (5, v12), (25, adr v0 (0 + 2)), (29, .string ⟨(([111, 32] : List UInt8) ++ x1.2.2.1 : List UInt8).toArray⟩), (32, .int .i64 x1.2.1)]) (fun (p : Unit) => [obox 78 TrH v0 (x0.1, (x0.2.1, u0a)), obox 95 (TR.pair TR.str TR.int) u0a x0.2.2, keep X, own 30 TrA v12 y10.1]) 6 #[true, true, true, false, true, true, true, false, true, true, false, false, false, false] (fun h133 => ?_) ?_
  rotate_left
  ·rintro ⟨⟩
   refine RA.weak (env' := [(0, v0), (5, v12), (25, adr v0 (0 + 2)), (29, .string ⟨(([111, 32] : List UInt8) ++ x1.2.2.1 : List UInt8).toArray⟩), (32, .int .i64 x1.2.1)]) (L' := [obox 78 TrH v0 (x0.1, (x0.2.1, u0a)), obox 95 (TR.pair TR.str TR.int) u0a x0.2.2, keep X, own 30 TrA v12 y10.1]) (fun _ _ st => st) ?_
   refine RA.many [3, 7, 10] (by kernel_rfl) ⟨⟨_, rfl, ?_⟩, ⟨_, rfl, ?_⟩, ⟨_, rfl, ?_⟩, trivial⟩
   ·skip
    refine RL.ldPx (off := (0 + 2)) (e' := u0a) 0 Ex.raw Tryz_ln76 rfl rfl (Or.inl rfl) rfl PtOf.obox (Part.snd (Part.snd Part.self)) ?_
    refine RL.fin ?_
    refine RA.next ?_
    refine RA.relist 5 #[true, true, true, true, true, true, true, false, true, true, false, false, false, false] rfl (by kernel_rfl) ?_
    exact fun a w st => h124 () a w (St.cut [0, 1, 2, 3] ⟨rfl, rfl, rfl, rfl, rfl, trivial⟩ (by decide) rfl st)
   ·skip
    refine RL.cat rfl rfl rfl rfl e110 ?_
    refine RL.fin ?_
    refine RA.next ?_
    refine RA.relist 5 #[true, true, true, false, true, true, true, true, true, true, false, false, false, false] rfl (by kernel_rfl) ?_
    exact fun a w st => h126 () a w (St.cut [0, 1, 2, 3] ⟨rfl, rfl, rfl, rfl, rfl, trivial⟩ (by decide) rfl st)
   refine RL.callV (v := .string ⟨(y111 : List UInt8).toArray⟩) (vs := [.int .i64 x1.2.1]) Tryz_fit58 rfl (Or.inl rfl) rfl rfl rfl rfl (fun U w hU hW hL => strconv_Itoa_c U w hU (hT.mono hW) x1.2.1 _ e112) ?_
   refine RL.fin ?_
   refine RA.next ?_
   refine RA.relist 5 #[true, true, true, false, true, true, true, false, true, true, true, false, false, false] rfl (by kernel_rfl) ?_
   exact fun a w st => h125 () a w (St.cut [0, 1, 2, 3] ⟨rfl, rfl, rfl, rfl, rfl, trivial⟩ (by decide) rfl st)
  refine RA.meet (ι := Unit) (fun (p : Unit) => [(0, v0), (5, v12), (24, v0), (29, .string ⟨(([111, 32] : List UInt8) ++ x1.2.2.1 : List UInt8).toArray⟩), (33, .string ⟨(y111 : List UInt8).toArray⟩)]) (fun (p : Unit) => [obox 78 TrH v0 (x0.1, (x0.2.1, u0a)), obox 95 (TR.pair TR.str TR.int) u0a x0.2.2, keep X, own 30 TrA v12 y10.1]) 6 #[true, true, false, false, true, true, true, false, true, true, true, false, false, false] (fun h134 => ?_) ?_
  rotate_left
  ·rintro ⟨⟩
   refine RA.weak (env' := [(0, v0), (5, v12), (24, v0), (29, .string ⟨(([111, 32] : List UInt8) ++ x1.2.2.1 : List UInt8).toArray⟩), (33, .string ⟨(y111 : List UInt8).toArray⟩)]) (L' := [obox 78 TrH v0 (x0.1, (x0.2.1, u0a)), obox 95 (TR.pair TR.str TR.int) u0a x0.2.2, keep X, own 30 TrA v12 y10.1]) (fun _ _ st => st) ?_
   refine RA.many [2, 7] (by kernel_rfl) ⟨⟨_, rfl, ?_⟩, ⟨_, rfl, ?_⟩, trivial⟩
   ·skip
    refine RL.fadr (off := 0) (fo := 2) 0 Tryz_fld78_2 rfl rfl rfl PtOf.obox (Or.inr ⟨rfl, rfl⟩) ?_
    refine RL.fin ?_
    refine RA.next ?_
    refine RA.relist 5 #[true, true, true, false, true, true, true, false, true, true, true, false, false, false] rfl (by kernel_rfl) ?_
    exact fun a w st => h125 () a w (St.cut [0, 1, 2, 3] ⟨rfl, rfl, rfl, rfl, rfl, trivial⟩ (by decide) rfl st)
   refine RL.cat rfl rfl rfl rfl e110 ?_
   refine RL.fin ?_
   refine RA.next ?_
   refine RA.relist 5 #[true, true, false, false, true, true, true, true, true, true, true, false, false, false] rfl (by kernel_rfl) ?_
   exact fun a w st => h127 () a w (St.cut [0, 1, 2, 3] ⟨rfl, rfl, rfl, rfl, rfl, trivial⟩ (by decide) rfl st)
  refine RA.meet (ι := Unit) (fun (p : Unit) => [(0, v0), (5, v12), (26, u0a), (29, .string ⟨(([111, 32] : List UInt8) ++ x1.2.2.1 : List UInt8).toArray⟩), (31, adr v4 (0 + 1))]) (fun (p : Unit) => [obox 78 TrH v0 (x0.1, (x0.2.1, u0a)), obox 95 (TR.pair TR.str TR.int) u0a x0.2.2, keep X, own 30 TrA v12 y10.1, obox 61 TrE v4 x1]) 6 #[true, true, true, true, true, true, true, false, true, false, false, false, false, false] (fun h135 => ?_) ?_
  rotate_left
  ·rintro ⟨⟩
   refine RA.weak (env' := [(0, v0), (5, v12), (26, u0a), (29, .string ⟨(([111, 32] : List UInt8) ++ x1.2.2.1 : List UInt8).toArray⟩), (31, adr v4 (0 + 1))]) (L' := [obox 78 TrH v0 (x0.1, (x0.2.1, u0a)), obox 95 (TR.pair TR.str TR.int) u0a x0.2.2, keep X, own 30 TrA v12 y10.1, obox 61 TrE v4 x1]) (fun _ _ st => st) ?_
   refine RA.many [7, 9] (by kernel_rfl) ⟨⟨_, rfl, ?_⟩, ⟨_, rfl, ?_⟩, trivial⟩
   ·skip
    refine RL.cat rfl rfl rfl rfl e110 ?_
    refine RL.fin ?_
    refine RA.next ?_
    refine RA.relist 5 #[true, true, true, true, true, true, true, true, true, false, false, false, false, false] rfl (by kernel_rfl) ?_
    exact fun a w st => h122 () a w (St.cut [0, 1, 2, 3, 4] ⟨rfl, rfl, rfl, rfl, rfl, trivial⟩ (by decide) rfl st)
   refine RL.ldPx (off := (0 + 1)) (e' := x1.2.1) 4 Ex.ik Tryz_ln3 rfl rfl (Or.inl rfl) rfl PtOf.obox (Part.snd (Part.fst Part.self)) ?_
   refine RL.fin ?_
   refine RA.next ?_
   refine RA.relist 5 #[true, true, true, true, true, true, true, false, true, true, false, false, false, false] rfl (by kernel_rfl) ?_
   exact fun a w st => h124 () a w (St.cut [0, 1, 2, 3] ⟨rfl, rfl, rfl, rfl, rfl, trivial⟩ (by decide) rfl st)
  refine RA.meet (ι := Unit) (fun (p : Unit) => [(0, v0), (5, v12), (25, adr v0 (0 + 2)), (28, .string ⟨(x1.2.2.1 : List UInt8).toArray⟩), (33, .string ⟨(y111 : List UInt8).toArray⟩)]) (fun (p : Unit) => [obox 78 TrH v0 (x0.1, (x0.2.1, u0a)), obox 95 (TR.pair TR.str TR.int) u0a x0.2.2, keep X, own 30 TrA v12 y10.1]) 6 #[true, true, true, false, true, true, false, false, true, true, true, false, false, false] (fun h136 => ?_) ?_
  rotate_left
  ·rintro ⟨⟩
   refine RA.weak (env' := [(0, v0), (5, v12), (25, adr v0 (0 + 2)), (28, .string ⟨(x1.2.2.1 : List UInt8).toArray⟩), (33, .string ⟨(y111 : List UInt8).toArray⟩)]) (L' := [obox 78 TrH v0 (x0.1, (x0.2.1, u0a)), obox 95 (TR.pair TR.str TR.int) u0a x0.2.2, keep X, own 30 TrA v12 y10.1]) (fun _ _ st => st) ?_
   refine RA.many [3, 6] (by kernel_rfl) ⟨⟨_, rfl, ?_⟩, ⟨_, rfl, ?_⟩, trivial⟩
   ·skip
    refine RL.ldPx (off := (0 + 2)) (e' := u0a) 0 Ex.raw Tryz_ln76 rfl rfl (Or.inl rfl) rfl PtOf.obox (Part.snd (Part.snd Part.self)) ?_
    refine RL.fin ?_
    refine RA.next ?_
    refine RA.relist 5 #[true, true, true, true, true, true, false, false, true, true, true, false, false, false] rfl (by kernel_rfl) ?_
    exact fun a w st => h128 () a w (St.cut [0, 1, 2, 3] ⟨rfl, rfl, rfl, rfl, rfl, trivial⟩ (by decide) rfl st)
   refine RL.cat rfl rfl rfl rfl e108 ?_
   refine RL.fin ?_
   refine RA.next ?_
   refine RA.relist 5 #[true, true, true, false, true, true, true, false, true, true, true, false, false, false] rfl (by kernel_rfl) ?_
   exact fun a w st => h125 () a w (St.cut [0, 1, 2, 3] ⟨rfl, rfl, rfl, rfl, rfl, trivial⟩ (by decide) rfl st)
  refine RA.meet (ι := Unit) (fun (p : Unit) => [(0, v0), (5, v12), (26, u0a), (28, .string ⟨(x1.2.2.1 : List UInt8).toArray⟩), (32, .int .i64 x1.2.1)]) (fun (p : Unit) => [obox 78 TrH v0 (x0.1, (x0.2.1, u0a)), obox 95 (TR.pair TR.str TR.int) u0a x0.2.2, keep X, own 30 TrA v12 y10.1]) 6 #[true, true, true, true, true, true, false, false, true, true, false, false, false, false] (fun h137 => ?_) ?_
  rotate_left
  ·rintro ⟨⟩
   refine RA.weak (env' := [(0, v0), (5, v12), (26, u0a), (28, .string ⟨(x1.2.2.1 : List UInt8).toArray⟩), (32, .int .i64 x1.2.1)]) (L' := [obox 78 TrH v0 (x0.1, (x0.2.1, u0a)), obox 95 (TR.pair TR.str TR.int) u0a x0.2.2, keep X, own 30 TrA v12 y10.1]) (fun _ _ st => st) ?_
   refine RA.many [6, 10] (by kernel_rfl) ⟨⟨_, rfl, ?_⟩, ⟨_, rfl, ?_⟩, trivial⟩
   ·skip
    refine RL.cat rfl rfl rfl rfl e108 ?_
    refine RL.fin ?_
    refine RA.next ?_
    refine RA.relist 5 #[true, true, true, true, true, true, true, false, true, true, false, false, false, false] rfl (by kernel_rfl) ?_
    exact fun a w st => h124 () a w (St.cut [0, 1, 2, 3] ⟨rfl, rfl, rfl, rfl, rfl, trivial⟩ (by decide) rfl st)
   refine RL.callV (v := .string ⟨(y111 : List UInt8).toArray⟩) (vs := [.int .i64 x1.2.1]) Tryz_fit58 rfl (Or.inl rfl) rfl rfl rfl rfl (fun U w hU hW hL => strconv_Itoa_c U w hU (hT.mono hW) x1.2.1 _ e112) ?_
   refine RL.fin ?_
   refine RA.next ?_
   refine RA.relist 5 #[true, true, true, true, true, true, false, false, true, true, true, false, false, false] rfl (by kernel_rfl) ?_
   exact fun a w st => h128 () a w (St.cut [0, 1, 2, 3] ⟨rfl, rfl, rfl, rfl, rfl, trivial⟩ (by decide) rfl st)
  refine RA.meet (ι := Unit) (fun (p : Unit) => [(0, v0), (5, v12), (26, u0a), (27, adr v4 (0 + 2)), (33, .string ⟨(y111 : List UInt8).toArray⟩)]) (fun (p : Unit) => [obox 78 TrH v0 (x0.1, (x0.2.1, u0a)), obox 95 (TR.pair TR.str TR.int) u0a x0.2.2, keep X, own 30 TrA v12 y10.1, obox 61 TrE v4 x1]) 6 #[true, true, true, true, true, false, false, false, true, true, true, false, false, false] (fun h138 => ?_) ?_
  rotate_left
  ·rintro ⟨⟩
   refine RA.weak (env' := [(0, v0), (5, v12), (26, u0a), (27, adr v4 (0 + 2)), (33, .string ⟨(y111 : List UInt8).toArray⟩)]) (L' := [obox 78 TrH v0 (x0.1, (x0.2.1, u0a)), obox 95 (TR.pair TR.str TR.int) u0a x0.2.2, keep X, own 30 TrA v12 y10.1, obox 61 TrE v4 x1]) (fun _ _ st => st) ?_
   refine RA.seq 5 rfl (by kernel_rfl) ?_
   refine RL.ldPx (off := (0 + 2)) (e' := x1.2.2.1) 4 Ex.str Tryz_ln9 rfl rfl (Or.inl rfl) rfl PtOf.obox (Part.snd (Part.snd (Part.fst Part.self))) ?_
   refine RL.fin ?_
   refine RA.next ?_
   refine RA.relist 5 #[true, true, true, true, true, true, false, false, true, true, true, false, false, false] rfl (by kernel_rfl) ?_
   exact fun a w st => h128 () a w (St.cut [0, 1, 2, 3] ⟨rfl, rfl, rfl, rfl, rfl, trivial⟩ (by decide) rfl st)
  refine RA.meet (ι := Unit) (fun (p : Unit) => [(0, v0), (5, v12), (25, adr v0 (0 + 2)), (28, .string ⟨(x1.2.2.1 : List UInt8).toArray⟩), (32, .int .i64 x1.2.1)]) (fun (p : Unit) => [obox 78 TrH v0 (x0.1, (x0.2.1, u0a)), obox 95 (TR.pair TR.str TR.int) u0a x0.2.2, keep X, own 30 TrA v12 y10.1]) 7 #[true, true, true, false, true, true, false, false, true, true, false, false, false, false] (fun h139 => ?_) ?_
  rotate_left
  ·rintro ⟨⟩
   refine RA.weak (env' := [(0, v0), (5, v12), (25, adr v0 (0 + 2)), (28, .string ⟨(x1.2.2.1 : List UInt8).toArray⟩), (32, .int .i64 x1.2.1)]) (L' := [obox 78 TrH v0 (x0.1, (x0.2.1, u0a)), obox 95 (TR.pair TR.str TR.int) u0a x0.2.2, keep X, own 30 TrA v12 y10.1]) (fun _ _ st => st) ?_
   refine RA.many [3, 6, 10] (by kernel_rfl) ⟨⟨_, rfl, ?_⟩, ⟨_, rfl, ?_⟩, ⟨_, rfl, ?_⟩, trivial⟩
   ·skip
    refine RL.ldPx (off := (0 + 2)) (e' := u0a) 0 Ex.raw Tryz_ln76 rfl rfl (Or.inl rfl) rfl PtOf.obox (Part.snd (Part.snd Part.self)) ?_
    refine RL.fin ?_
    refine RA.next ?_
    refine RA.relist 6 #[true, true, true, true, true, true, false, false, true, true, false, false, false, false] rfl (by kernel_rfl) ?_
    exact fun a w st => h137 () a w (St.cut [0, 1, 2, 3] ⟨rfl, rfl, rfl, rfl, rfl, trivial⟩ (by decide) rfl st)
   ·skip
    refine RL.cat rfl rfl rfl rfl e108 ?_
    refine RL.fin ?_
    refine RA.next ?_
    refine RA.relist 6 #[true, true, true, false, true, true, true, false, true, true, false, false, false, false] rfl (by kernel_rfl) ?_
    exact fun a w st => h133 () a w (St.cut [0, 1, 2, 3] ⟨rfl, rfl, rfl, rfl, rfl, trivial⟩ (by decide) rfl st)
   refine RL.callV (v := .string ⟨(y111 : List UInt8).toArray⟩) (vs := [.int .i64 x1.2.1]) Tryz_fit58 rfl (Or.inl rfl) rfl rfl rfl rfl (fun U w hU hW hL => strconv_Itoa_c U w hU (hT.mono hW) x1.2.1 _ e112) ?_
   refine RL.fin ?_
   refine RA.next ?_
   refine RA.relist 6 #[true, true, true, false, true, true, false, false, true, true, true, false, false, false] rfl (by kernel_rfl) ?_
   exact fun a w st => h136 () a w (St.cut [0, 1, 2, 3] ⟨rfl, rfl, rfl, rfl, rfl, trivial⟩ (by decide) rfl st)
  refine RA.meet (ι := Unit) (fun (p : Unit) => [(0, v0), (5, v12), (26, u0a), (28, .string ⟨(x1.2.2.1 : List UInt8).toArray⟩), (31, adr v4 (0 + 1))]) (fun (p : Unit) => [obox 78 TrH v0 (x0.1, (x0.2.1, u0a)), obox 95 (TR.pair TR.str TR.int) u0a x0.2.2, keep X, own 30 TrA v12 y10.1, obox 61 TrE v4 x1]) 7 #[true, true, true, true, true, true, false, false, true, false, false, false, false, false] (fun h140 => ?_) ?_
  rotate_left
  ·rintro ⟨⟩
   refine RA.weak (env' := [(0, v0), (5, v12), (26, u0a), (28, .string ⟨(x1.2.2.1 : List UInt8).toArray⟩), (31, adr v4 (0 + 1))]) (L' := [obox 78 TrH v0 (x0.1, (x0.2.1, u0a)), obox 95 (TR.pair TR.str TR.int) u0a x0.2.2, keep X, own 30 TrA v12 y10.1, obox 61 TrE v4 x1]) (fun _ _ st => st) ?_
   refine RA.many [6, 9] (by kernel_rfl) ⟨⟨_, rfl, ?_⟩, ⟨_, rfl, ?_⟩, trivial⟩
   ·skip
    refine RL.cat rfl rfl rfl rfl e108 ?_
    refine RL.fin ?_
    refine RA.next ?_
    refine RA.relist 6 #[true, true, true, true, true, true, true, false, true, false, false, false, false, false] rfl (by kernel_rfl) ?_
    exact fun a w st => h135 () a w (St.cut [0, 1, 2, 3, 4] ⟨rfl, rfl, rfl, rfl, rfl, trivial⟩ (by decide) rfl st)
   refine RL.ldPx (off := (0 + 1)) (e' := x1.2.1) 4 Ex.ik Tryz_ln3 rfl rfl (Or.inl rfl) rfl PtOf.obox (Part.snd (Part.fst Part.self)) ?_
   refine RL.fin ?_
   refine RA.next ?_
   refine RA.relist 6 #[true, true, true, true, true, true, false, false, true, true, false, false, false, false] rfl (by kernel_rfl) ?_
   exact fun a w st => h137 () a w (St.cut [0, 1, 2, 3] ⟨rfl, rfl, rfl, rfl, rfl, trivial⟩ (by decide) rfl st)
  refine RA.meet (ι := Unit) (fun (p : Unit) => [(0, v0), (3, v4), (5, v12), (26, u0a), (33, .string ⟨(y111 : List UInt8).toArray⟩)]) (fun (p : Unit) => [obox 78 TrH v0 (x0.1, (x0.2.1, u0a)), obox 95 (TR.pair TR.str TR.int) u0a x0.2.2, keep X, obox 61 TrE v4 x1, own 30 TrA v12 y10.1]) 7 #[true, true, true, true, false, false, false, false, true, true, true, false, false, false] (fun h141 => ?_) ?_
  rotate_left
  ·rintro ⟨⟩
   refine RA.weak (env' := [(0, v0), (3, v4), (5, v12), (26, u0a), (33, .string ⟨(y111 : List UInt8).toArray⟩)]) (L' := [obox 78 TrH v0 (x0.1, (x0.2.1, u0a)), obox 95 (TR.pair TR.str TR.int) u0a x0.2.2, keep X, obox 61 TrE v4 x1, own 30 TrA v12 y10.1]) (fun _ _ st => st) ?_
   refine RA.seq 4 rfl (by kernel_rfl) ?_
   refine RL.fadr (off := 0) (fo := 2) 3 Tryz_fld61_2 rfl rfl rfl PtOf.obox (Or.inr ⟨rfl, rfl⟩) ?_
   refine RL.fin ?_
   refine RA.next ?_
   refine RA.relist 6 #[true, true, true, true, true, false, false, false, true, true, true, false, false, false] rfl (by kernel_rfl) ?_
   exact fun a w st => h138 () a w (St.cut [0, 1, 2, 4, 3] ⟨rfl, rfl, rfl, rfl, rfl, trivial⟩ (by decide) rfl st)
  refine RA.meet (ι := Unit) (fun (p : Unit) => [(0, v0), (3, v4), (5, v12), (26, u0a), (29, .string ⟨(([111, 32] : List UInt8) ++ x1.2.2.1 : List UInt8).toArray⟩)]) (fun (p : Unit) => [obox 78 TrH v0 (x0.1, (x0.2.1, u0a)), obox 95 (TR.pair TR.str TR.int) u0a x0.2.2, keep X, obox 61 TrE v4 x1, own 30 TrA v12 y10.1]) 7 #[true, true, true, true, true, true, true, false, false, false, false, false, false, false] (fun h142 => ?_) ?_
  rotate_left
  ·rintro ⟨⟩
   refine RA.weak (env' := [(0, v0), (3, v4), (5, v12), (26, u0a), (29, .string ⟨(([111, 32] : List UInt8) ++ x1.2.2.1 : List UInt8).toArray⟩)]) (L' := [obox 78 TrH v0 (x0.1, (x0.2.1, u0a)), obox 95 (TR.pair TR.str TR.int) u0a x0.2.2, keep X, obox 61 TrE v4 x1, own 30 TrA v12 y10.1]) (fun _ _ st => st) ?_
   refine RA.many [7, 8] (by kernel_rfl) ⟨⟨_, rfl, ?_⟩, ⟨_, rfl, ?_⟩, trivial⟩
   ·skip
    refine RL.cat rfl rfl rfl rfl e110 ?_
    refine RL.fin ?_
    refine RA.next ?_
    refine RA.relist 6 #[true, true, true, true, true, true, true, true, false, false, false, false, false, false] rfl (by kernel_rfl) ?_
    exact fun a w st => h132 () a w (St.cut [0, 1, 2, 3, 4] ⟨rfl, rfl, rfl, rfl, rfl, trivial⟩ (by decide) rfl st)
   refine RL.fadr (off := 0) (fo := 1) 3 Tryz_fld61_1 rfl rfl rfl PtOf.obox (Or.inr ⟨rfl, rfl⟩) ?_
   refine RL.fin ?_
   refine RA.next ?_
   refine RA.relist 6 #[true, true, true, true, true, true, true, false, true, false, false, false, false, false] rfl (by kernel_rfl) ?_
   exact fun a w st => h135 () a w (St.cut [0, 1, 2, 4, 3] ⟨rfl, rfl, rfl, rfl, rfl, trivial⟩ (by decide) rfl st)
  refine RA.meet (ι := Unit) (fun (p : Unit) => [(0, v0), (5, v12), (26, u0a), (27, adr v4 (0 + 2)), (32, .int .i64 x1.2.1)]) (fun (p : Unit) => [obox 78 TrH v0 (x0.1, (x0.2.1, u0a)), obox 95 (TR.pair TR.str TR.int) u0a x0.2.2, keep X, own 30 TrA v12 y10.1, obox 61 TrE v4 x1]) 7 #[true, true, true, true, true, false, false, false, true, true, false, false, false, false] (fun h143 => ?_) ?_
  rotate_left
  ·rintro ⟨⟩
   refine RA.weak (env' := [(0, v0), (5, v12), (26, u0a), (27, adr v4 (0 + 2)), (32, .int .i64 x1.2.1)]) (L' := [obox 78 TrH v0 (x0.1, (x0.2.1, u0a)), obox 95 (TR.pair TR.str TR.int) u0a x0.2.2, keep X, own 30 TrA v12 y10.1, obox 61 TrE v4 x1]) (fun _ _ st => st) ?_
   refine RA.many [5, 10] (by kernel_rfl) ⟨⟨_, rfl, ?_⟩, ⟨_, rfl, ?_⟩, trivial⟩
   ·skip
    refine RL.ldPx (off := (0 + 2)) (e' := x1.2.2.1) 4 Ex.str Tryz_ln9 rfl rfl (Or.inl rfl) rfl PtOf.obox (Part.snd (Part.snd (Part.fst Part.self))) ?_
    refine RL.fin ?_
    refine RA.next ?_
    refine RA.relist 6 #[true, true, true, true, true, true, false, false, true, true, false, false, false, false] rfl (by kernel_rfl) ?_
    exact fun a w st => h137 () a w (St.cut [0, 1, 2, 3] ⟨rfl, rfl, rfl, rfl, rfl, trivial⟩ (by decide) rfl st)
   refine RL.callV (v := .string ⟨(y111 : List UInt8).toArray⟩) (vs := [.int .i64 x1.2.1]) Tryz_fit58 rfl (Or.inl rfl) rfl rfl rfl rfl (fun U w hU hW hL => strconv_Itoa_c U w hU (hT.mono hW) x1.2.1 _ e112) ?_
   refine RL.fin ?_
   refine RA.next ?_
   refine RA.relist 6 #[true, true, true, true, true, false, false, false, true, true, true, false, false, false] rfl (by kernel_rfl) ?_
   exact fun a w st => h138 () a w (St.cut [0, 1, 2, 3, 4] ⟨rfl, rfl, rfl, rfl, rfl, trivial⟩ (by decide) rfl st)
  refine RA.meet (ι := Unit) (fun (p : Unit) => [(0, v0), (5, v12), (25, adr v0 (0 + 2)), (27, adr v4 (0 + 2)), (33, .string ⟨(y111 : List UInt8).toArray⟩)]) (fun (p : Unit) => [obox 78 TrH v0 (x0.1, (x0.2.1, u0a)), obox 95 (TR.pair TR.str TR.int) u0a x0.2.2, keep X, own 30 TrA v12 y10.1, obox 61 TrE v4 x1]) 7 #[true, true, true, false, true, false, false, false, true, true, true, false, false, false] (fun h144 => ?_) ?_
  rotate_left
  ·rintro ⟨⟩
   refine RA.weak (env' := [(0, v0), (5, v12), (25, adr v0 (0 + 2)), (27, adr v4 (0 + 2)), (33, .string ⟨(y111 : List UInt8).toArray⟩)]) (L' := [obox 78 TrH v0 (x0.1, (x0.2.1, u0a)), obox 95 (TR.pair TR.str TR.int) u0a x0.2.2, keep X, own 30 TrA v12 y10.1, obox 61 TrE v4 x1]) (fun _ _ st => st) ?_
   refine RA.many [3, 5] (by kernel_rfl) ⟨⟨_, rfl, ?_⟩, ⟨_, rfl, ?_⟩, trivial⟩
   ·skip
    refine RL.ldPx (off := (0 + 2)) (e' := u0a) 0 Ex.raw Tryz_ln76 rfl rfl (Or.inl rfl) rfl PtOf.obox (Part.snd (Part.snd Part.self)) ?_
    refine RL.fin ?_
    refine RA.next ?_
    refine RA.relist 6 #[true, true, true, true, true, false, false, false, true, true, true, false, false, false] rfl (by kernel_rfl) ?_
    exact fun a w st => h138 () a w (St.cut [0, 1, 2, 3, 4] ⟨rfl, rfl, rfl, rfl, rfl, trivial⟩ (by decide) rfl st)
   refine RL.ldPx (off := (0 + 2)) (e' := x1.2.2.1) 4 Ex.str Tryz_ln9 rfl rfl (Or.inl rfl) rfl PtOf.obox (Part.snd (Part.snd (Part.fst Part.self))) ?_
   refine RL.fin ?_
   refine RA.next ?_
   refine RA.relist 6 #[true, true, true, false, true, true, false, false, true, true, true, false, false, false] rfl (by kernel_rfl) ?_
   exact fun a w st => h136 () a w (St.cut [0, 1, 2, 3] ⟨rfl, rfl, rfl, rfl, rfl, trivial⟩ (by decide) rfl st)
  refine RA.meet (ι := Unit) (fun (p : Unit) => [(0, v0), (5, v12), (23, v0), (29, .string ⟨(([111, 32] : List UInt8) ++ x1.2.2.1 : List UInt8).toArray⟩), (33, .string ⟨(y111 : List UInt8).toArray⟩)]) (fun (p : Unit) => [obox 78 TrH v0 (x0.1, (x0.2.1, u0a)), obox 95 (TR.pair TR.str TR.int) u0a x0.2.2, keep X, own 30 TrA v12 y10.1]) 7 #[true, false, false, false, true, true, true, false, true, true, true, false, false, false] (fun h145 => ?_) ?_
  rotate_left
  ·rintro ⟨⟩
   refine RA.weak (env' := [(0, v0), (5, v12), (23, v0), (29, .string ⟨(([111, 32] : List UInt8) ++ x1.2.2.1 : List UInt8).toArray⟩), (33, .string ⟨(y111 : List UInt8).toArray⟩)]) (L' := [obox 78 TrH v0 (x0.1, (x0.2.1, u0a)), obox 95 (TR.pair TR.str TR.int) u0a x0.2.2, keep X, own 30 TrA v12 y10.1]) (fun _ _ st => st) ?_
   refine RA.many [1, 7] (by kernel_rfl) ⟨⟨_, rfl, ?_⟩, ⟨_, rfl, ?_⟩, trivial⟩
   ·skip
    refine RL.nilk 0 rfl rfl rfl rfl PtOf.obox ?_
    refine RL.fin ?_
    refine RA.next ?_
    refine RA.relist 6 #[true, true, false, false, true, true, true, false, true, true, true, false, false, false] rfl (by kernel_rfl) ?_
    exact fun a w st => h134 () a w (St.cut [0, 1, 2, 3] ⟨rfl, rfl, rfl, rfl, rfl, trivial⟩ (by decide) rfl st)
   refine RL.cat rfl rfl rfl rfl e110 ?_
   refine RL.fin ?_
   refine RA.next ?_
   refine RA.relist 6 #[true, false, false, false, true, true, true, true, true, true, true, false, false, false] rfl (by kernel_rfl) ?_
   exact fun a w st => h131 () a w (St.cut [0, 1, 2, 3] ⟨rfl, rfl, rfl, rfl, rfl, trivial⟩ (by decide) rfl st)
  refine RA.meet (ι := Unit) (fun (p : Unit) => [(0, v0), (3, v4), (5, v12), (25, adr v0 (0 + 2)), (30, .string ⟨((([111, 32] : List UInt8) ++ x1.2.2.1) ++ ([32] : List UInt8) : List UInt8).toArray⟩)]) (fun (p : Unit) => [obox 78 TrH v0 (x0.1, (x0.2.1, u0a)), obox 95 (TR.pair TR.str TR.int) u0a x0.2.2, keep X, obox 61 TrE v4 x1, own 30 TrA v12 y10.1]) 7 #[true, true, true, false, true, true, true, true, false, false, false, false, false, false] (fun h146 => ?_) ?_
  rotate_left
  ·rintro ⟨⟩
   refine RA.weak (env' := [(0, v0), (3, v4), (5, v12), (25, adr v0 (0 + 2)), (30, .string ⟨((([111, 32] : List UInt8) ++ x1.2.2.1) ++ ([32] : List UInt8) : List UInt8).toArray⟩)]) (L' := [obox 78 TrH v0 (x0.1, (x0.2.1, u0a)), obox 95 (TR.pair TR.str TR.int) u0a x0.2.2, keep X, obox 61 TrE v4 x1, own 30 TrA v12 y10.1]) (fun _ _ st => st) ?_
   refine RA.many [3, 8] (by kernel_rfl) ⟨⟨_, rfl, ?_⟩, ⟨_, rfl, ?_⟩, trivial⟩
   ·skip
    refine RL.ldPx (off := (0 + 2)) (e' := u0a) 0 Ex.raw Tryz_ln76 rfl rfl (Or.inl rfl) rfl PtOf.obox (Part.snd (Part.snd Part.self)) ?_
    refine RL.fin ?_
    refine RA.next ?_
    refine RA.relist 6 #[true, true, true, true, true, true, true, true, false, false, false, false, false, false] rfl (by kernel_rfl) ?_
    exact fun a w st => h132 () a w (St.cut [0, 1, 2, 3, 4] ⟨rfl, rfl, rfl, rfl, rfl, trivial⟩ (by decide) rfl st)
   refine RL.fadr (off := 0) (fo := 1) 3 Tryz_fld61_1 rfl rfl rfl PtOf.obox (Or.inr ⟨rfl, rfl⟩) ?_
   refine RL.fin ?_
   refine RA.next ?_
   refine RA.relist 6 #[true, true, true, false, true, true, true, true, true, false, false, false, false, false] rfl (by kernel_rfl) ?_
   exact fun a w st => h130 () a w (St.cut [0, 1, 2, 4, 3] ⟨rfl, rfl, rfl, rfl, rfl, trivial⟩ (by decide) rfl st)
  refine RA.meet (ι := Unit) (fun (p : Unit) => [(0, v0), (5, v12), (24, v0), (29, .string ⟨(([111, 32] : List UInt8) ++ x1.2.2.1 : List UInt8).toArray⟩), (32, .int .i64 x1.2.1)]) (fun (p : Unit) => [obox 78 TrH v0 (x0.1, (x0.2.1, u0a)), obox 95 (TR.pair TR.str TR.int) u0a x0.2.2, keep X, own 30 TrA v12 y10.1]) 7 #[true, true, false, false, true, true, true, false, true, true, false, false, false, false] (fun h147 => ?_) ?_
  rotate_left
  ·rintro ⟨⟩
   refine RA.weak (env' := [(0, v0), (5, v12), (24, v0), (29, .string ⟨(([111, 32] : List UInt8) ++ x1.2.2.1 : List UInt8).toArray⟩), (32, .int .i64 x1.2.1)]) (L' := [obox 78 TrH v0 (x0.1, (x0.2.1, u0a)), obox 95 (TR.pair TR.str TR.int) u0a x0.2.2, keep X, own 30 TrA v12 y10.1]) (fun _ _ st => st) ?_
   refine RA.many [2, 7, 10] (by kernel_rfl) ⟨⟨_, rfl, ?_⟩, ⟨_, rfl, ?_⟩, ⟨_, rfl, ?_⟩, trivial⟩
   ·skip
    refine RL.fadr (off := 0) (fo := 2) 0 Tryz_fld78_2 rfl rfl rfl PtOf.obox (Or.inr ⟨rfl, rfl⟩) ?_
    refine RL.fin ?_
    refine RA.next ?_
    refine RA.relist 6 #[true, true, true, false, true, true, true, false, true, true, false, false, false, false] rfl (by kernel_rfl) ?_
    exact fun a w st => h133 () a w (St.cut [0, 1, 2, 3] ⟨rfl, rfl, rfl, rfl, rfl, trivial⟩ (by decide) rfl st)
   ·skip
    refine RL.cat rfl rfl rfl rfl e110 ?_
    refine RL.fin ?_
    refine RA.next ?_
    refine RA.relist 6 #[true, true, false, false, true, true, true, true, true, true, false, false, false, false] rfl (by kernel_rfl) ?_
    exact fun a w st => h129 () a w (St.cut [0, 1, 2, 3] ⟨rfl, rfl, rfl, rfl, rfl, trivial⟩ (by decide) rfl st)
   refine RL.callV (v := .string ⟨(y111 : List UInt8).toArray⟩) (vs := [.int .i64 x1.2.1]) Tryz_fit58 rfl (Or.inl rfl) rfl rfl rfl rfl (fun U w hU hW hL => strconv_Itoa_c U w hU (hT.mono hW) x1.2.1 _ e112) ?_
   refine RL.fin ?_
   refine RA.next ?_
   refine RA.relist 6 #[true, true, false, false, true, true, true, false, true, true, true, false, false, false] rfl (by kernel_rfl) ?_
   exact fun a w st => h134 () a w (St.cut [0, 1, 2, 3] ⟨rfl, rfl, rfl, rfl, rfl, trivial⟩ (by decide) rfl st)
  refine RA.meet (ι := Unit) (fun (p : Unit) => [(0, v0), (5, v12), (25, adr v0 (0 + 2)), (29, .string ⟨(([111, 32] : List UInt8) ++ x1.2.2.1 : List UInt8).toArray⟩), (31, adr v4 (0 + 1))]) (fun (p : Unit) => [obox 78 TrH v0 (x0.1, (x0.2.1, u0a)), obox 95 (TR.pair TR.str TR.int) u0a x0.2.2, keep X, own 30 TrA v12 y10.1, obox 61 TrE v4 x1]) 7 #[true, true, true, false, true, true, true, false, true, false, false, false, false, false] (fun h148 => ?_) ?_
  rotate_left
  ·rintro ⟨⟩
   refine RA.weak (env' := [(0, v0), (5, v12), (25, adr v0 (0 + 2)), (29, .string ⟨(([111, 32] : List UInt8) ++ x1.2.2.1 : List UInt8).toArray⟩), (31, adr v4 (0 + 1))]) (L' := [obox 78 TrH v0 (x0.1, (x0.2.1, u0a)), obox 95 (TR.pair TR.str TR.int) u0a x0.2.2, keep X, own 30 TrA v12 y10.1, obox 61 TrE v4 x1]) (fun _ _ st => st) ?_
   refine RA.many [3, 7, 9] (by kernel_rfl) ⟨⟨_, rfl, ?_⟩, ⟨_, rfl, ?_⟩, ⟨_, rfl, ?_⟩, trivial⟩
   ·skip
    refine RL.ldPx (off := (0 + 2)) (e' := u0a) 0 Ex.raw Tryz_ln76 rfl rfl (Or.inl rfl) rfl PtOf.obox (Part.snd (Part.snd Part.self)) ?_
    refine RL.fin ?_
    refine RA.next ?_
    refine RA.relist 6 #[true, true, true, true, true, true, true, false, true, false, false, false, false, false] rfl (by kernel_rfl) ?_
    exact fun a w st => h135 () a w (St.cut [0, 1, 2, 3, 4] ⟨rfl, rfl, rfl, rfl, rfl, trivial⟩ (by decide) rfl st)
   ·skip
    refine RL.cat rfl rfl rfl rfl e110 ?_
    refine RL.fin ?_
    refine RA.next ?_
    refine RA.relist 6 #[true, true, true, false, true, true, true, true, true, false, false, false, false, false] rfl (by kernel_rfl) ?_
    exact fun a w st => h130 () a w (St.cut [0, 1, 2, 3, 4] ⟨rfl, rfl, rfl, rfl, rfl, trivial⟩ (by decide) rfl st)
   refine RL.ldPx (off := (0 + 1)) (e' := x1.2.1) 4 Ex.ik Tryz_ln3 rfl rfl (Or.inl rfl) rfl PtOf.obox (Part.snd (Part.fst Part.self)) ?_
   refine RL.fin ?_
   refine RA.next ?_
   refine RA.relist 6 #[true, true, true, false, true, true, true, false, true, true, false, false, false, false] rfl (by kernel_rfl) ?_
   exact fun a w st => h133 () a w (St.cut [0, 1, 2, 3] ⟨rfl, rfl, rfl, rfl, rfl, trivial⟩ (by decide) rfl st)
  refine RA.meet (ι := Unit) (fun (p : Unit) => [(0, v0), (5, v12), (23, v0), (30, .string ⟨((([111, 32] : List UInt8) ++ x1.2.2.1) ++ ([32] : List UInt8) : List UInt8).toArray⟩), (32, .int .i64 x1.2.1)]) (fun (p : Unit) => [obox 78 TrH v0 (x0.1, (x0.2.1, u0a)), obox 95 (TR.pair TR.str TR.int) u0a x0.2.2, keep X, own 30 TrA v12 y10.1]) 7 #[true, false, false, false, true, true, true, true, true, true, false, false, false, false] (fun h149 => ?_) ?_
  rotate_left
  ·rintro ⟨⟩
   refine RA.weak (env' := [(0, v0), (5, v12), (23, v0), (30, .string ⟨((([111, 32] : List UInt8) ++ x1.2.2.1) ++ ([32] : List UInt8) : List UInt8).toArray⟩), (32, .int .i64 x1.2.1)]) (L' := [obox 78 TrH v0 (x0.1, (x0.2.1, u0a)), obox 95 (TR.pair TR.str TR.int) u0a x0.2.2, keep X, own 30 TrA v12 y10.1]) (fun _ _ st => st) ?_
   refine RA.many [1, 10] (by kernel_rfl) ⟨⟨_, rfl, ?_⟩, ⟨_, rfl, ?_⟩, trivial⟩
   ·skip
    refine RL.nilk 0 rfl rfl rfl rfl PtOf.obox ?_
    refine RL.fin ?_
    refine RA.next ?_
    refine RA.relist 6 #[true, true, false, false, true, true, true, true, true, true, false, false, false, false] rfl (by kernel_rfl) ?_
    exact fun a w st => h129 () a w (St.cut [0, 1, 2, 3] ⟨rfl, rfl, rfl, rfl, rfl, trivial⟩ (by decide) rfl st)
   refine RL.callV (v := .string ⟨(y111 : List UInt8).toArray⟩) (vs := [.int .i64 x1.2.1]) Tryz_fit58 rfl (Or.inl rfl) rfl rfl rfl rfl (fun U w hU hW hL => strconv_Itoa_c U w hU (hT.mono hW) x1.2.1 _ e112) ?_
   refine RL.fin ?_
   refine RA.next ?_
   refine RA.relist 6 #[true, false, false, false, true, true, true, true, true, true, true, false, false, false] rfl (by kernel_rfl) ?_
   exact fun a w st => h131 () a w (St.cut [0, 1, 2, 3] ⟨rfl, rfl, rfl, rfl, rfl, trivial⟩ (by decide) rfl st)
  refine RA.meet (ι := Unit) (fun (p : Unit) => [(0, v0), (5, v12), (24, v0), (28, .string ⟨(x1.2.2.1 : List UInt8).toArray⟩), (33, .string ⟨(y111 : List UInt8).toArray⟩)]) (fun (p : Unit) => [obox 78 TrH v0 (x0.1, (x0.2.1, u0a)), obox 95 (TR.pair TR.str TR.int) u0a x0.2.2, keep X, own 30 TrA v12 y10.1]) 7 #[true, true, false, false, true, true, false, false, true, true, true, false, false, false] (fun h150 => ?_) ?_
  rotate_left
  ·rintro ⟨⟩
   refine RA.weak (env' := [(0, v0), (5, v12), (24, v0), (28, .string ⟨(x1.2.2.1 : List UInt8).toArray⟩), (33, .string ⟨(y111 : List UInt8).toArray⟩)]) (L' := [obox 78 TrH v0 (x0.1, (x0.2.1, u0a)), obox 95 (TR.pair TR.str TR.int) u0a x0.2.2, keep X, own 30 TrA v12 y10.1]) (fun _ _ st => st) ?_
   refine RA.many [2, 6] (by kernel_rfl) ⟨⟨_, rfl, ?_⟩, ⟨_, rfl, ?_⟩, trivial⟩
   ·skip
    refine RL.fadr (off := 0) (fo := 2) 0 Tryz_fld78_2 rfl rfl rfl PtOf.obox (Or.inr ⟨rfl, rfl⟩) ?_
    refine RL.fin ?_
    refine RA.next ?_
    refine RA.relist 6 #[true, true, true, false, true, true, false, false, true, true, true, false, false, false] rfl (by kernel_rfl) ?_
    exact fun a w st => h136 () a w (St.cut [0, 1, 2, 3] ⟨rfl, rfl, rfl, rfl, rfl, trivial⟩ (by decide) rfl st)
   refine RL.cat rfl rfl rfl rfl e108 ?_
   refine RL.fin ?_
   refine RA.next ?_
   refine RA.relist 6 #[true, true, false, false, true, true, true, false, true, true, true, false, false, false] rfl (by kernel_rfl) ?_
   exact fun a w st => h134 () a w (St.cut [0, 1, 2, 3] ⟨rfl, rfl, rfl, rfl, rfl, trivial⟩ (by decide) rfl st)
  refine RA.meet (ι := Unit) (fun (p : Unit) => [(0, v0), (5, v12), (24, v0), (30, .string ⟨((([111, 32] : List UInt8) ++ x1.2.2.1) ++ ([32] : List UInt8) : List UInt8).toArray⟩), (31, adr v4 (0 + 1))]) (fun (p : Unit) => [obox 78 TrH v0 (x0.1, (x0.2.1, u0a)), obox 95 (TR.pair TR.str TR.int) u0a x0.2.2, keep X, own 30 TrA v12 y10.1, obox 61 TrE v4 x1]) 7 #[true, true, false, false, true, true, true, true, true, false, false, false, false, false] (fun h151 => ?_) ?_
  rotate_left
  ·rintro ⟨⟩
   refine RA.weak (env' := [(0, v0), (5, v12), (24, v0), (30, .string ⟨((([111, 32] : List UInt8) ++ x1.2.2.1) ++ ([32] : List UInt8) : List UInt8).toArray⟩), (31, adr v4 (0 + 1))]) (L' := [obox 78 TrH v0 (x0.1, (x0.2.1, u0a)), obox 95 (TR.pair TR.str TR.int) u0a x0.2.2, keep X, own 30 TrA v12 y10.1, obox 61 TrE v4 x1]) (fun _ _ st => st) ?_
   refine RA.many [2, 9] (by kernel_rfl) ⟨⟨_, rfl, ?_⟩, ⟨_, rfl, ?_⟩, trivial⟩
   ·skip
    refine RL.fadr (off := 0) (fo := 2) 0 Tryz_fld78_2 rfl rfl rfl PtOf.obox (Or.inr ⟨rfl, rfl⟩) ?_
    refine RL.fin ?_
    refine RA.next ?_
    refine RA.relist 6 #[true, true, true, false, true, true, true, true, true, false, false, false, false, false] rfl (by kernel_rfl) ?_
    exact fun a w st => h130 () a w (St.cut [0, 1, 2, 3, 4] ⟨rfl, rfl, rfl, rfl, rfl, trivial⟩ (by decide) rfl st)
   refine RL.ldPx (off := (0 + 1)) (e' := x1.2.1) 4 Ex.ik Tryz_ln3 rfl rfl (Or.inl rfl) rfl PtOf.obox (Part.snd (Part.fst Part.self)) ?_
   refine RL.fin ?_
   refine RA.next ?_
   refine RA.relist 6 #[true, true, false, false, true, true, true, true, true, true, false, false, false, false] rfl (by kernel_rfl) ?_
   exact fun a w st => h129 () a w (St.cut [0, 1, 2, 3] ⟨rfl, rfl, rfl, rfl, rfl, trivial⟩ (by decide) rfl st)
  refine RA.meet (ι := Unit) (fun (p : Unit) => [(0, v0), (5, v12), (24, v0), (29, .string ⟨(([111, 32] : List UInt8) ++ x1.2.2.1 : List UInt8).toArray⟩), (31, adr v4 (0 + 1))]) (fun (p : Unit) => [obox 78 TrH v0 (x0.1, (x0.2.1, u0a)), obox 95 (TR.pair TR.str TR.int) u0a x0.2.2, keep X, own 30 TrA v12 y10.1, obox 61 TrE v4 x1]) 8 #[true, true, false, false, true, true, true, false, true, false, false, false, false, false] (fun h152 => ?_) ?_
  rotate_left
  ·rintro ⟨⟩
   refine RA.weak (env' := [(0, v0), (5, v12), (24, v0), (29, .string ⟨(([111, 32] : List UInt8) ++ x1.2.2.1 : List UInt8).toArray⟩), (31, adr v4 (0 + 1))]) (L' := [obox 78 TrH v0 (x0.1, (x0.2.1, u0a)), obox 95 (TR.pair TR.str TR.int) u0a x0.2.2, keep X, own 30 TrA v12 y10.1, obox 61 TrE v4 x1]) (fun _ _ st => st) ?_
   refine RA.many [2, 7, 9] (by kernel_rfl) ⟨⟨_, rfl, ?_⟩, ⟨_, rfl, ?_⟩, ⟨_, rfl, ?_⟩, trivial⟩
   ·skip
    refine RL.fadr (off := 0) (fo := 2) 0 Tryz_fld78_2 rfl rfl rfl PtOf.obox (Or.inr ⟨rfl, rfl⟩) ?_
    refine RL.fin ?_
    refine RA.next ?_
    refine RA.relist 7 #[true, true, true, false, true, true, true, false, true, false, false, false, false, false] rfl (by kernel_rfl) ?_
    exact fun a w st => h148 () a w (St.cut [0, 1, 2, 3, 4] ⟨rfl, rfl, rfl, rfl, rfl, trivial⟩ (by decide) rfl st)
   ·skip
    refine RL.cat rfl rfl rfl rfl e110 ?_
    refine RL.fin ?_
    refine RA.next ?_
    refine RA.relist 7 #[true, true, false, false, true, true, true, true, true, false, false, false, false, false] rfl (by kernel_rfl) ?_
    exact fun a w st => h151 () a w (St.cut [0, 1, 2, 3, 4] ⟨rfl, rfl, rfl, rfl, rfl, trivial⟩ (by decide) rfl st)
   refine RL.ldPx (off := (0 + 1)) (e' := x1.2.1) 4 Ex.ik Tryz_ln3 rfl rfl (Or.inl rfl) rfl PtOf.obox (Part.snd (Part.fst Part.self)) ?_
   refine RL.fin ?_
   refine RA.next ?_
   refine RA.relist 7 #[true, true, false, false, true, true, true, false, true, true, false, false, false, false] rfl (by kernel_rfl) ?_
   exact fun a w st => h147 () a w (St.cut [0, 1, 2, 3] ⟨rfl, rfl, rfl, rfl, rfl, trivial⟩ (by decide) rfl st)
  refine RA.meet (ι := Unit) (fun (p : Unit) => [(0, v0), (3, v4), (5, v12), (25, adr v0 (0 + 2)), (33, .string ⟨(y111 : List UInt8).toArray⟩)]) (fun (p : Unit) => [obox 78 TrH v0 (x0.1, (x0.2.1, u0a)), obox 95 (TR.pair TR.str TR.int) u0a x0.2.2, keep X, obox 61 TrE v4 x1, own 30 TrA v12 y10.1]) 8 #[true, true, true, false, false, false, false, false, true, true, true, false, false, false] (fun h153 => ?_) ?_
  rotate_left
  ·rintro ⟨⟩
   refine RA.weak (env' := [(0, v0), (3, v4), (5, v12), (25, adr v0 (0 + 2)), (33, .string ⟨(y111 : List UInt8).toArray⟩)]) (L' := [obox 78 TrH v0 (x0.1, (x0.2.1, u0a)), obox 95 (TR.pair TR.str TR.int) u0a x0.2.2, keep X, obox 61 TrE v4 x1, own 30 TrA v12 y10.1]) (fun _ _ st => st) ?_
   refine RA.many [3, 4] (by kernel_rfl) ⟨⟨_, rfl, ?_⟩, ⟨_, rfl, ?_⟩, trivial⟩
   ·skip
    refine RL.ldPx (off := (0 + 2)) (e' := u0a) 0 Ex.raw Tryz_ln76 rfl rfl (Or.inl rfl) rfl PtOf.obox (Part.snd (Part.snd Part.self)) ?_
    refine RL.fin ?_
    refine RA.next ?_
    refine RA.relist 7 #[true, true, true, true, false, false, false, false, true, true, true, false, false, false] rfl (by kernel_rfl) ?_
    exact fun a w st => h141 () a w (St.cut [0, 1, 2, 3, 4] ⟨rfl, rfl, rfl, rfl, rfl, trivial⟩ (by decide) rfl st)
   refine RL.fadr (off := 0) (fo := 2) 3 Tryz_fld61_2 rfl rfl rfl PtOf.obox (Or.inr ⟨rfl, rfl⟩) ?_
   refine RL.fin ?_
   refine RA.next ?_
   refine RA.relist 7 #[true, true, true, false, true, false, false, false, true, true, true, false, false, false] rfl (by kernel_rfl) ?_
   exact fun a w st => h144 () a w (St.cut [0, 1, 2, 4, 3] ⟨rfl, rfl, rfl, rfl, rfl, trivial⟩ (by decide) rfl st)
  refine RA.meet (ι := Unit) (fun (p : Unit) => [(0, v0), (5, v12), (23, v0), (29, .string ⟨(([111, 32] : List UInt8) ++ x1.2.2.1 : List UInt8).toArray⟩), (32, .int .i64 x1.2.1)]) (fun (p : Unit) => [obox 78 TrH v0 (x0.1, (x0.2.1, u0a)), obox 95 (TR.pair TR.str TR.int) u0a x0.2.2, keep X, own 30 TrA v12 y10.1]) 8 #[true, false, false, false, true, true, true, false, true, true, false, false, false, false] (fun h154 => ?_) ?_
  rotate_left
  ·rintro ⟨⟩
   refine RA.weak (env' := [(0, v0), (5, v12), (23, v0), (29, .string ⟨(([111, 32] : List UInt8) ++ x1.2.2.1 : List UInt8).toArray⟩), (32, .int .i64 x1.2.1)]) (L' := [obox 78 TrH v0 (x0.1, (x0.2.1, u0a)), obox 95 (TR.pair TR.str TR.int) u0a x0.2.2, keep X, own 30 TrA v12 y10.1]) (fun _ _ st => st) ?_
   refine RA.many [1, 7, 10] (by kernel_rfl) ⟨⟨_, rfl, ?_⟩, ⟨_, rfl, ?_⟩, ⟨_, rfl, ?_⟩, trivial⟩
   ·skip
    refine RL.nilk 0 rfl rfl rfl rfl PtOf.obox ?_
    refine RL.fin ?_
    refine RA.next ?_
    refine RA.relist 7 #[true, true, false, false, true, true, true, false, true, true, false, false, false, false] rfl (by kernel_rfl) ?_
    exact fun a w st => h147 () a w (St.cut [0, 1, 2, 3] ⟨rfl, rfl, rfl, rfl, rfl, trivial⟩ (by decide) rfl st)
   ·skip
    refine RL.cat rfl rfl rfl rfl e110 ?_
    refine RL.fin ?_
    refine RA.next ?_
    refine RA.relist 7 #[true, false, false, false, true, true, true, true, true, true, false, false, false, false] rfl (by kernel_rfl) ?_
    exact fun a w st => h149 () a w (St.cut [0, 1, 2, 3] ⟨rfl, rfl, rfl, rfl, rfl, trivial⟩ (by decide) rfl st)
   refine RL.callV (v := .string ⟨(y111 : List UInt8).toArray⟩) (vs := [.int .i64 x1.2.1]) Tryz_fit58 rfl (Or.inl rfl) rfl rfl rfl rfl (fun U w hU hW hL => strconv_Itoa_c U w hU (hT.mono hW) x1.2.1 _ e112) ?_
   refine RL.fin ?_
   refine RA.next ?_
   refine RA.relist 7 #[true, false, false, false, true, true, true, false, true, true, true, false, false, false] rfl (by kernel_rfl) ?_
   exact fun a w st => h145 () a w (St.cut [0, 1, 2, 3] ⟨rfl, rfl, rfl, rfl, rfl, trivial⟩ (by decide) rfl st)
  refine RA.meet (ι := Unit) (fun (p : Unit) => [(0, v0), (3, v4), (5, v12), (25, adr v0 (0 + 2)), (29, .string ⟨(([111, 32] : List UInt8) ++ x1.2.2.1 : List UInt8).toArray⟩)]) (fun (p : Unit) => [obox 78 TrH v0 (x0.1, (x0.2.1, u0a)), obox 95 (TR.pair TR.str TR.int) u0a x0.2.2, keep X, obox 61 TrE v4 x1, own 30 TrA v12 y10.1]) 8 #[true, true, true, false, true, true, true, false, false, false, false, false, false, false] (fun h155 => ?_) ?_
  rotate_left
  ·rintro ⟨⟩
   refine RA.weak (env' := [(0, v0), (3, v4), (5, v12), (25, adr v0 (0 + 2)), (29, .string ⟨(([111, 32] : List UInt8) ++ x1.2.2.1 : List UInt8).toArray⟩)]) (L' := [obox 78 TrH v0 (x0.1, (x0.2.1, u0a)), obox 95 (TR.pair TR.str TR.int) u0a x0.2.2, keep X, obox 61 TrE v4 x1, own 30 TrA v12 y10.1]) (fun _ _ st => st) ?_
   refine RA.many [3, 7, 8] (by kernel_rfl) ⟨⟨_, rfl, ?_⟩, ⟨_, rfl, ?_⟩, ⟨_, rfl, ?_⟩, trivial⟩
   ·skip
    refine RL.ldPx (off := (0 + 2)) (e' := u0a) 0 Ex.raw Tryz_ln76 rfl rfl (Or.inl rfl) rfl PtOf.obox (Part.snd (Part.snd Part.self)) ?_
    refine RL.fin ?_
    refine RA.next ?_
    refine RA.relist 7 #[true, true, true, true, true, true, true, false, false, false, false, false, false, false] rfl (by kernel_rfl) ?_
    exact fun a w st => h142 () a w (St.cut [0, 1, 2, 3, 4] ⟨rfl, rfl, rfl, rfl, rfl, trivial⟩ (by decide) rfl st)
   ·skip
    refine RL.cat rfl rfl rfl rfl e110 ?_
    refine RL.fin ?_
    refine RA.next ?_
    refine RA.relist 7 #[true, true, true, false, true, true, true, true, false, false, false, false, false, false] rfl (by kernel_rfl) ?_
    exact fun a w st => h146 () a w (St.cut [0, 1, 2, 3, 4] ⟨rfl, rfl, rfl, rfl, rfl, trivial⟩ (by decide) rfl st)
   refine RL.fadr (off := 0) (fo := 1) 3 Tryz_fld61_1 rfl rfl rfl PtOf.obox (Or.inr ⟨rfl, rfl⟩) ?_
   refine RL.fin ?_
   refine RA.next ?_
   refine RA.relist 7 #[true, true, true, false, true, true, true, false, true, false, false, false, false, false] rfl (by kernel_rfl) ?_
   exact fun a w st => h148 () a w (St.cut [0, 1, 2, 4, 3] ⟨rfl, rfl, rfl, rfl, rfl, trivial⟩ (by decide) rfl st)
  refine RA.meet (ι := Unit) (fun (p : Unit) => [(0, v0), (5, v12), (23, v0), (30, .string ⟨((([111, 32] : List UInt8) ++ x1.2.2.1) ++ ([32] : List UInt8) : List UInt8).toArray⟩), (31, adr v4 (0 + 1))]) (fun (p : Unit) => [obox 78 TrH v0 (x0.1, (x0.2.1, u0a)), obox 95 (TR.pair TR.str TR.int) u0a x0.2.2, keep X, own 30 TrA v12 y10.1, obox 61 TrE v4 x1]) 8 #[true, false, false, false, true, true, true, true, true, false, false, false, false, false] (fun h156 => ?_) ?_
  rotate_left
  ·rintro ⟨⟩
   refine RA.weak (env' := [(0, v0), (5, v12), (23, v0), (30, .string ⟨((([111, 32] : List UInt8) ++ x1.2.2.1) ++ ([32] : List UInt8) : List UInt8).toArray⟩), (31, adr v4 (0 + 1))]) (L' := [obox 78 TrH v0 (x0.1, (x0.2.1, u0a)), obox 95 (TR.pair TR.str TR.int) u0a x0.2.2, keep X, own 30 TrA v12 y10.1, obox 61 TrE v4 x1]) (fun _ _ st => st) ?_
   refine RA.many [1, 9] (by kernel_rfl) ⟨⟨_, rfl, ?_⟩, ⟨_, rfl, ?_⟩, trivial⟩
   ·skip
    refine RL.nilk 0 rfl rfl rfl rfl PtOf.obox ?_
    refine RL.fin ?_
    refine RA.next ?_
    refine RA.relist 7 #[true, true, false, false, true, true, true, true, true, false, false, false, false, false] rfl (by kernel_rfl) ?_
    exact fun a w st => h151 () a w (St.cut [0, 1, 2, 3, 4] ⟨rfl, rfl, rfl, rfl, rfl, trivial⟩ (by decide) rfl st)
   refine RL.ldPx (off := (0 + 1)) (e' := x1.2.1) 4 Ex.ik Tryz_ln3 rfl rfl (Or.inl rfl) rfl PtOf.obox (Part.snd (Part.fst Part.self)) ?_
   refine RL.fin ?_
   refine RA.next ?_
   refine RA.relist 7 #[true, false, false, false, true, true, true, true, true, true, false, false, false, false] rfl (by kernel_rfl) ?_
   exact fun a w st => h149 () a w (St.cut [0, 1, 2, 3] ⟨rfl, rfl, rfl, rfl, rfl, trivial⟩ (by decide) rfl st)
  refine RA.meet (ι := Unit) (fun (p : Unit) => [(0, v0), (3, v4), (5, v12), (26, u0a), (32, .int .i64 x1.2.1)]) (fun (p : Unit) => [obox 78 TrH v0 (x0.1, (x0.2.1, u0a)), obox 95 (TR.pair TR.str TR.int) u0a x0.2.2, keep X, obox 61 TrE v4 x1, own 30 TrA v12 y10.1]) 8 #[true, true, true, true, false, false, false, false, true, true, false, false, false, false] (fun h157 => ?_) ?_
  rotate_left
  ·rintro ⟨⟩
   refine RA.weak (env' := [(0, v0), (3, v4), (5, v12), (26, u0a), (32, .int .i64 x1.2.1)]) (L' := [obox 78 TrH v0 (x0.1, (x0.2.1, u0a)), obox 95 (TR.pair TR.str TR.int) u0a x0.2.2, keep X, obox 61 TrE v4 x1, own 30 TrA v12 y10.1]) (fun _ _ st => st) ?_
   refine RA.many [4, 10] (by kernel_rfl) ⟨⟨_, rfl, ?_⟩, ⟨_, rfl, ?_⟩, trivial⟩
   ·skip
    refine RL.fadr (off := 0) (fo := 2) 3 Tryz_fld61_2 rfl rfl rfl PtOf.obox (Or.inr ⟨rfl, rfl⟩) ?_
    refine RL.fin ?_
    refine RA.next ?_
    refine RA.relist 7 #[true, true, true, true, true, false, false, false, true, true, false, false, false, false] rfl (by kernel_rfl) ?_
    exact fun a w st => h143 () a w (St.cut [0, 1, 2, 4, 3] ⟨rfl, rfl, rfl, rfl, rfl, trivial⟩ (by decide) rfl st)
   refine RL.callV (v := .string ⟨(y111 : List UInt8).toArray⟩) (vs := [.int .i64 x1.2.1]) Tryz_fit58 rfl (Or.inl rfl) rfl rfl rfl rfl (fun U w hU hW hL => strconv_Itoa_c U w hU (hT.mono hW) x1.2.1 _ e112) ?_
   refine RL.fin ?_
   refine RA.next ?_
   refine RA.relist 7 #[true, true, true, true, false, false, false, false, true, true, true, false, false, false] rfl (by kernel_rfl) ?_
   exact fun a w st => h141 () a w (St.cut [0, 1, 2, 3, 4] ⟨rfl, rfl, rfl, rfl, rfl, trivial⟩ (by decide) rfl st)
  refine RA.meet (ι := Unit) (fun (p : Unit) => [(0, v0), (5, v12), (24, v0), (28, .string ⟨(x1.2.2.1 : List UInt8).toArray⟩), (32, .int .i64 x1.2.1)]) (fun (p : Unit) => [obox 78 TrH v0 (x0.1, (x0.2.1, u0a)), obox 95 (TR.pair TR.str TR.int) u0a x0.2.2, keep X, own 30 TrA v12 y10.1]) 8 #[true, true, false, false, true, true, false, false, true, true, false, false, false, false] (fun h158 => ?_) ?_
  rotate_left
  ·rintro ⟨⟩
   refine RA.weak (env' := [(0, v0), (5, v12), (24, v0), (28, .string ⟨(x1.2.2.1 : List UInt8).toArray⟩), (32, .int .i64 x1.2.1)]) (L' := [obox 78 TrH v0 (x0.1, (x0.2.1, u0a)), obox 95 (TR.pair TR.str TR.int) u0a x0.2.2, keep X, own 30 TrA v12 y10.1]) (fun _ _ st => st) ?_
   refine RA.many [2, 6, 10] (by kernel_rfl) ⟨⟨_, rfl, ?_⟩, ⟨_, rfl, ?_⟩, ⟨_, rfl, ?_⟩, trivial⟩
   ·skip
    refine RL.fadr (off := 0) (fo := 2) 0 Tryz_fld78_2 rfl rfl rfl PtOf.obox (Or.inr ⟨rfl, rfl⟩) ?_
    refine RL.fin ?_
    refine RA.next ?_
    refine RA.relist 7 #[true, true, true, false, true, true, false, false, true, true, false, false, false, false] rfl (by kernel_rfl) ?_
    exact fun a w st => h139 () a w (St.cut [0, 1, 2, 3] ⟨rfl, rfl, rfl, rfl, rfl, trivial⟩ (by decide) rfl st)
   ·skip
    refine RL.cat rfl rfl rfl rfl e108 ?_
    refine RL.fin ?_
    refine RA.next ?_
    refine RA.relist 7 #[true, true, false, false, true, true, true, false, true, true, false, false, false, false] rfl (by kernel_rfl) ?_
    exact fun a w st => h147 () a w (St.cut [0, 1, 2, 3] ⟨rfl, rfl, rfl, rfl, rfl, trivial⟩ (by decide) rfl st)
   refine RL.callV (v := .string ⟨(y111 : List UInt8).toArray⟩) (vs := [.int .i64 x1.2.1]) Tryz_fit58 rfl (Or.inl rfl) rfl rfl rfl rfl (fun U w hU hW hL => strconv_Itoa_c U w hU (hT.mono hW) x1.2.1 _ e112) ?_
   refine RL.fin ?_
   refine RA.next ?_
   refine RA.relist 7 #[true, true, false, false, true, true, false, false, true, true, true, false, false, false] rfl (by kernel_rfl) ?_
   exact fun a w st => h150 () a w (St.cut [0, 1, 2, 3] ⟨rfl, rfl, rfl, rfl, rfl, trivial⟩ (by decide) rfl st)
  refine RA.meet (ι := Unit) (fun (p : Unit) => [(0, v0), (5, v12), (24, v0), (27, adr v4 (0 + 2)), (33, .string ⟨(y111 : List UInt8).toArray⟩)]) (fun (p : Unit) => [obox 78 TrH v0 (x0.1, (x0.2.1, u0a)), obox 95 (TR.pair TR.str TR.int) u0a x0.2.2, keep X, own 30 TrA v12 y10.1, obox 61 TrE v4 x1]) 8 #[true, true, false, false, true, false, false, false, true, true, true, false, false, false] (fun h159 => ?_) ?_
  rotate_left
  ·rintro ⟨⟩
   refine RA.weak (env' := [(0, v0), (5, v12), (24, v0), (27, adr v4 (0 + 2)), (33, .string ⟨(y111 : List UInt8).toArray⟩)]) (L' := [obox 78 TrH v0 (x0.1, (x0.2.1, u0a)), obox 95 (TR.pair TR.str TR.int) u0a x0.2.2, keep X, own 30 TrA v12 y10.1, obox 61 TrE v4 x1]) (fun _ _ st => st) ?_
   refine RA.many [2, 5] (by kernel_rfl) ⟨⟨_, rfl, ?_⟩, ⟨_, rfl, ?_⟩, trivial⟩
   ·skip
    refine RL.fadr (off := 0) (fo := 2) 0 Tryz_fld78_2 rfl rfl rfl PtOf.obox (Or.inr ⟨rfl, rfl⟩) ?_
    refine RL.fin ?_
    refine RA.next ?_
    refine RA.relist 7 #[true, true, true, false, true, false, false, false, true, true, true, false, false, false] rfl (by kernel_rfl) ?_
    exact fun a w st => h144 () a w (St.cut [0, 1, 2, 3, 4] ⟨rfl, rfl, rfl, rfl, rfl, trivial⟩ (by decide) rfl st)
   refine RL.ldPx (off := (0 + 2)) (e' := x1.2.2.1) 4 Ex.str Tryz_ln9 rfl rfl (Or.inl rfl) rfl PtOf.obox (Part.snd (Part.snd (Part.fst Part.self))) ?_
   refine RL.fin ?_
   refine RA.next ?_
   refine RA.relist 7 #[true, true, false, false, true, true, false, false, true, true, true, false, false, false] rfl (by kernel_rfl) ?_
   exact fun a w st => h150 () a w (St.cut [0, 1, 2, 3] ⟨rfl, rfl, rfl, rfl, rfl, trivial⟩ (by decide) rfl st)
  refine RA.meet (ι := Unit) (fun (p : Unit) => [(0, v0), (3, v4), (5, v12), (24, v0), (30, .string ⟨((([111, 32] : List UInt8) ++ x1.2.2.1) ++ ([32] : List UInt8) : List UInt8).toArray⟩)]) (fun (p : Unit) => [obox 78 TrH v0 (x0.1, (x0.2.1, u0a)), obox 95 (TR.pair TR.str TR.int) u0a x0.2.2, keep X, obox 61 TrE v4 x1, own 30 TrA v12 y10.1]) 8 #[true, true, false, false, true, true, true, true, false, false, false, false, false, false] (fun h160 => ?_) ?_
  rotate_left
  ·rintro ⟨⟩
   refine RA.weak (env' := [(0, v0), (3, v4), (5, v12), (24, v0), (30, .string ⟨((([111, 32] : List UInt8) ++ x1.2.2.1) ++ ([32] : List UInt8) : List UInt8).toArray⟩)]) (L' := [obox 78 TrH v0 (x0.1, (x0.2.1, u0a)), obox 95 (TR.pair TR.str TR.int) u0a x0.2.2, keep X, obox 61 TrE v4 x1, own 30 TrA v12 y10.1]) (fun _ _ st => st) ?_
   refine RA.many [2, 8] (by kernel_rfl) ⟨⟨_, rfl, ?_⟩, ⟨_, rfl, ?_⟩, trivial⟩
   ·skip
    refine RL.fadr (off := 0) (fo := 2) 0 Tryz_fld78_2 rfl rfl rfl PtOf.obox (Or.inr ⟨rfl, rfl⟩) ?_
    refine RL.fin ?_
    refine RA.next ?_
    refine RA.relist 7 #[true, true, true, false, true, true, true, true, false, false, false, false, false, false] rfl (by kernel_rfl) ?_
    exact fun a w st => h146 () a w (St.cut [0, 1, 2, 3, 4] ⟨rfl, rfl, rfl, rfl, rfl, trivial⟩ (by decide) rfl st)
   refine RL.fadr (off := 0) (fo := 1) 3 Tryz_fld61_1 rfl rfl rfl PtOf.obox (Or.inr ⟨rfl, rfl⟩) ?_
   refine RL.fin ?_
   refine RA.next ?_
   refine RA.relist 7 #[true, true, false, false, true, true, true, true, true, false, false, false, false, false] rfl (by kernel_rfl) ?_
   exact fun a w st => h151 () a w (St.cut [0, 1, 2, 4, 3] ⟨rfl, rfl, rfl, rfl, rfl, trivial⟩ (by decide) rfl st)
  refine RA.meet (ι := Unit) (fun (p : Unit) => [(0, v0), (5, v12), (26, u0a), (27, adr v4 (0 + 2)), (31, adr v4 (0 + 1))]) (fun (p : Unit) => [obox 78 TrH v0 (x0.1, (x0.2.1, u0a)), obox 95 (TR.pair TR.str TR.int) u0a x0.2.2, keep X, own 30 TrA v12 y10.1, obox 61 TrE v4 x1]) 8 #[true, true, true, true, true, false, false, false, true, false, false, false, false, false] (fun h161 => ?_) ?_
  rotate_left
  ·rintro ⟨⟩
   refine RA.weak (env' := [(0, v0), (5, v12), (26, u0a), (27, adr v4 (0 + 2)), (31, adr v4 (0 + 1))]) (L' := [obox 78 TrH v0 (x0.1, (x0.2.1, u0a)), obox 95 (TR.pair TR.str TR.int) u0a x0.2.2, keep X, own 30 TrA v12 y10.1, obox 61 TrE v4 x1]) (fun _ _ st => st) ?_
   refine RA.many [5, 9] (by kernel_rfl) ⟨⟨_, rfl, ?_⟩, ⟨_, rfl, ?_⟩, trivial⟩
   ·skip
    refine RL.ldPx (off := (0 + 2)) (e' := x1.2.2.1) 4 Ex.str Tryz_ln9 rfl rfl (Or.inl rfl) rfl PtOf.obox (Part.snd (Part.snd (Part.fst Part.self))) ?_
    refine RL.fin ?_
    refine RA.next ?_
    refine RA.relist 7 #[true, true, true, true, true, true, false, false, true, false, false, false, false, false] rfl (by kernel_rfl) ?_
    exact fun a w st => h140 () a w (St.cut [0, 1, 2, 3, 4] ⟨rfl, rfl, rfl, rfl, rfl, trivial⟩ (by decide) rfl st)
   refine RL.ldPx (off := (0 + 1)) (e' := x1.2.1) 4 Ex.ik Tryz_ln3 rfl rfl (Or.inl rfl) rfl PtOf.obox (Part.snd (Part.fst Part.self)) ?_
   refine RL.fin ?_
   refine RA.next ?_
   refine RA.relist 7 #[true, true, true, true, true, false, false, false, true, true, false, false, false, false] rfl (by kernel_rfl) ?_
   exact fun a w st => h143 () a w (St.cut [0, 1, 2, 3, 4] ⟨rfl, rfl, rfl, rfl, rfl, trivial⟩ (by decide) rfl st)
  refine RA.meet (ι := Unit) (fun (p : Unit) => [(0, v0), (5, v12), (25, adr v0 (0 + 2)), (28, .string ⟨(x1.2.2.1 : List UInt8).toArray⟩), (31, adr v4 (0 + 1))]) (fun (p : Unit) => [obox 78 TrH v0 (x0.1, (x0.2.1, u0a)), obox 95 (TR.pair TR.str TR.int) u0a x0.2.2, keep X, own 30 TrA v12 y10.1, obox 61 TrE v4 x1]) 8 #[true, true, true, false, true, true, false, false, true, false, false, false, false, false] (fun h162 => ?_) ?_
  rotate_left
  ·rintro ⟨⟩
   refine RA.weak (env' := [(0, v0), (5, v12), (25, adr v0 (0 + 2)), (28, .string ⟨(x1.2.2.1 : List UInt8).toArray⟩), (31, adr v4 (0 + 1))]) (L' := [obox 78 TrH v0 (x0.1, (x0.2.1, u0a)), obox 95 (TR.pair TR.str TR.int) u0a x0.2.2, keep X, own 30 TrA v12 y10.1, obox 61 TrE v4 x1]) (fun _ _ st => st) ?_
   refine RA.many [3, 6, 9] (by kernel_rfl) ⟨⟨_, rfl, ?_⟩, ⟨_, rfl, ?_⟩, ⟨_, rfl, ?_⟩, trivial⟩
   ·skip
    refine RL.ldPx (off := (0 + 2)) (e' := u0a) 0 Ex.raw Tryz_ln76 rfl rfl (Or.inl rfl) rfl PtOf.obox (Part.snd (Part.snd Part.self)) ?_
    refine RL.fin ?_
    refine RA.next ?_
    refine RA.relist 7 #[true, true, true, true, true, true, false, false, true, false, false, false, false, false] rfl (by kernel_rfl) ?_
    exact fun a w st => h140 () a w (St.cut [0, 1, 2, 3, 4] ⟨rfl, rfl, rfl, rfl, rfl, trivial⟩ (by decide) rfl st)
   ·skip
    refine RL.cat rfl rfl rfl rfl e108 ?_
    refine RL.fin ?_
    refine RA.next ?_
    refine RA.relist 7 #[true, true, true, false, true, true, true, false, true, false, false, false, false, false] rfl (by kernel_rfl) ?_
    exact fun a w st => h148 () a w (St.cut [0, 1, 2, 3, 4] ⟨rfl, rfl, rfl, rfl, rfl, trivial⟩ (by decide) rfl st)
   refine RL.ldPx (off := (0 + 1)) (e' := x1.2.1) 4 Ex.ik Tryz_ln3 rfl rfl (Or.inl rfl) rfl PtOf.obox (Part.snd (Part.fst Part.self)) ?_
   refine RL.fin ?_
   refine RA.next ?_
   refine RA.relist 7 #[true, true, true, false, true, true, false, false, true, true, false, false, false, false] rfl (by kernel_rfl) ?_
   exact fun a w st => h139 () a w (St.cut [0, 1, 2, 3] ⟨rfl, rfl, rfl, rfl, rfl, trivial⟩ (by decide) rfl st)
  refine RA.meet (ι := Unit) (fun (p : Unit) => [(0, v0), (5, v12), (25, adr v0 (0 + 2)), (27, adr v4 (0 + 2)), (32, .int .i64 x1.2.1)]) (fun (p : Unit) => [obox 78 TrH v0 (x0.1, (x0.2.1, u0a)), obox 95 (TR.pair TR.str TR.int) u0a x0.2.2, keep X, own 30 TrA v12 y10.1, obox 61 TrE v4 x1]) 8 #[true, true, true, false, true, false, false, false, true, true, false, false, false, false] (fun h163 => ?_) ?_
  rotate_left
  ·rintro ⟨⟩
   refine RA.weak (env' := [(0, v0), (5, v12), (25, adr v0 (0 + 2)), (27, adr v4 (0 + 2)), (32, .int .i64 x1.2.1)]) (L' := [obox 78 TrH v0 (x0.1, (x0.2.1, u0a)), obox 95 (TR.pair TR.str TR.int) u0a x0.2.2, keep X, own 30 TrA v12 y10.1, obox 61 TrE v4 x1]) (fun _ _ st => st) ?_
   refine RA.many [3, 5, 10] (by kernel_rfl) ⟨⟨_, rfl, ?_⟩, ⟨_, rfl, ?_⟩, ⟨_, rfl, ?_⟩, trivial⟩
   ·skip
    refine RL.ldPx (off := (0 + 2)) (e' := u0a) 0 Ex.raw Tryz_ln76 rfl rfl (Or.inl rfl) rfl PtOf.obox (Part.snd (Part.snd Part.self)) ?_
    refine RL.fin ?_
    refine RA.next ?_
    refine RA.relist 7 #[true, true, true, true, true, false, false, false, true, true, false, false, false, false] rfl (by kernel_rfl) ?_
    exact fun a w st => h143 () a w (St.cut [0, 1, 2, 3, 4] ⟨rfl, rfl, rfl, rfl, rfl, trivial⟩ (by decide) rfl st)
   ·skip
    refine RL.ldPx (off := (0 + 2)) (e' := x1.2.2.1) 4 Ex.str Tryz_ln9 rfl rfl (Or.inl rfl) rfl PtOf.obox (Part.snd (Part.snd (Part.fst Part.self))) ?_
    refine RL.fin ?_
    refine RA.next ?_
    refine RA.relist 7 #[true, true, true, false, true, true, false, false, true, true, false, false, false, false] rfl (by kernel_rfl) ?_
    exact fun a w st => h139 () a w (St.cut [0, 1, 2, 3] ⟨rfl, rfl, rfl, rfl, rfl, trivial⟩ (by decide) rfl st)
   refine RL.callV (v := .string ⟨(y111 : List UInt8).toArray⟩) (vs := [.int .i64 x1.2.1]) Tryz_fit58 rfl (Or.inl rfl) rfl rfl rfl rfl (fun U w hU hW hL => strconv_Itoa_c U w hU (hT.mono hW) x1.2.1 _ e112) ?_
   refine RL.fin ?_
   refine RA.next ?_
   refine RA.relist 7 #[true, true, true, false, true, false, false, false, true, true, true, false, false, false] rfl (by kernel_rfl) ?_
   exact fun a w st => h144 () a w (St.cut [0, 1, 2, 3, 4] ⟨rfl, rfl, rfl, rfl, rfl, trivial⟩ (by decide) rfl st)
  refine RA.meet (ι := Unit) (fun (p : Unit) => [(0, v0), (5, v12), (23, v0), (28, .string ⟨(x1.2.2.1 : List UInt8).toArray⟩), (33, .string ⟨(y111 : List UInt8).toArray⟩)]) (fun (p : Unit) => [obox 78 TrH v0 (x0.1, (x0.2.1, u0a)), obox 95 (TR.pair TR.str TR.int) u0a x0.2.2, keep X, own 30 TrA v12 y10.1]) 8 #[true, false, false, false, true, true, false, false, true, true, true, false, false, false] (fun h164 => ?_) ?_
  rotate_left
  ·rintro ⟨⟩
   refine RA.weak (env' := [(0, v0), (5, v12), (23, v0), (28, .string ⟨(x1.2.2.1 : List UInt8).toArray⟩), (33, .string ⟨(y111 : List UInt8).toArray⟩)]) (L' := [obox 78 TrH v0 (x0.1, (x0.2.1, u0a)), obox 95 (TR.pair TR.str TR.int) u0a x0.2.2, keep X, own 30 TrA v12 y10.1]) (fun _ _ st => st) ?_
   refine RA.many [1, 6] (by kernel_rfl) ⟨⟨_, rfl, ?_⟩, ⟨_, rfl, ?_⟩, trivial⟩
   ·skip
    refine RL.nilk 0 rfl rfl rfl rfl PtOf.obox ?_
    refine RL.fin ?_
    refine RA.next ?_
    refine RA.relist 7 #[true, true, false, false, true, true, false, false, true, true, true, false, false, false] rfl (by kernel_rfl) ?_
    exact fun a w st => h150 () a w (St.cut [0, 1, 2, 3] ⟨rfl, rfl, rfl, rfl, rfl, trivial⟩ (by decide) rfl st)
   refine RL.cat rfl rfl rfl rfl e108 ?_
   refine RL.fin ?_
   refine RA.next ?_
   refine RA.relist 7 #[true, false, false, false, true, true, true, false, true, true, true, false, false, false] rfl (by kernel_rfl) ?_
   exact fun a w st => h145 () a w (St.cut [0, 1, 2, 3] ⟨rfl, rfl, rfl, rfl, rfl, trivial⟩ (by decide) rfl st)
  refine RA.meet (ι := Unit) (fun (p : Unit) => [(0, v0), (3, v4), (5, v12), (26, u0a), (28, .string ⟨(x1.2.2.1 : List UInt8).toArray⟩)]) (fun (p : Unit) => [obox 78 TrH v0 (x0.1, (x0.2.1, u0a)), obox 95 (TR.pair TR.str TR.int) u0a x0.2.2, keep X, obox 61 TrE v4 x1, own 30 TrA v12 y10.1]) 8 #[true, true, true, true, true, true, false, false, false, false, false, false, false, false] (fun h165 => ?_) ?_
  rotate_left
  ·rintro ⟨⟩
   refine RA.weak (env' := [(0, v0), (3, v4), (5, v12), (26, u0a), (28, .string ⟨(x1.2.2.1 : List UInt8).toArray⟩)]) (L' := [obox 78 TrH v0 (x0.1, (x0.2.1, u0a)), obox 95 (TR.pair TR.str TR.int) u0a x0.2.2, keep X, obox 61 TrE v4 x1, own 30 TrA v12 y10.1]) (fun _ _ st => st) ?_
   refine RA.many [6, 8] (by kernel_rfl) ⟨⟨_, rfl, ?_⟩, ⟨_, rfl, ?_⟩, trivial⟩
   ·skip
    refine RL.cat rfl rfl rfl rfl e108 ?_
    refine RL.fin ?_
    refine RA.next ?_
    refine RA.relist 7 #[true, true, true, true, true, true, true, false, false, false, false, false, false, false] rfl (by kernel_rfl) ?_
    exact fun a w st => h142 () a w (St.cut [0, 1, 2, 3, 4] ⟨rfl, rfl, rfl, rfl, rfl, trivial⟩ (by decide) rfl st)
   refine RL.fadr (off := 0) (fo := 1) 3 Tryz_fld61_1 rfl rfl rfl PtOf.obox (Or.inr ⟨rfl, rfl⟩) ?_
   refine RL.fin ?_
   refine RA.next ?_
   refine RA.relist 7 #[true, true, true, true, true, true, false, false, true, false, false, false, false, false] rfl (by kernel_rfl) ?_
   exact fun a w st => h140 () a w (St.cut [0, 1, 2, 4, 3] ⟨rfl, rfl, rfl, rfl, rfl, trivial⟩ (by decide) rfl st)
  refine RA.meet (ι := Unit) (fun (p : Unit) => [(0, v0), (3, v4), (5, v12), (24, v0), (29, .string ⟨(([111, 32] : List UInt8) ++ x1.2.2.1 : List UInt8).toArray⟩)]) (fun (p : Unit) => [obox 78 TrH v0 (x0.1, (x0.2.1, u0a)), obox 95 (TR.pair TR.str TR.int) u0a x0.2.2, keep X, obox 61 TrE v4 x1, own 30 TrA v12 y10.1]) 9 #[true, true, false, false, true, true, true, false, false, false, false, false, false, false] (fun h166 => ?_) ?_
  rotate_left
  ·rintro ⟨⟩
   refine RA.weak (env' := [(0, v0), (3, v4), (5, v12), (24, v0), (29, .string ⟨(([111, 32] : List UInt8) ++ x1.2.2.1 : List UInt8).toArray⟩)]) (L' := [obox 78 TrH v0 (x0.1, (x0.2.1, u0a)), obox 95 (TR.pair TR.str TR.int) u0a x0.2.2, keep X, obox 61 TrE v4 x1, own 30 TrA v12 y10.1]) (fun _ _ st => st) ?_
   refine RA.many [2, 7, 8] (by kernel_rfl) ⟨⟨_, rfl, ?_⟩, ⟨_, rfl, ?_⟩, ⟨_, rfl, ?_⟩, trivial⟩
   ·skip
    refine RL.fadr (off := 0) (fo := 2) 0 Tryz_fld78_2 rfl rfl rfl PtOf.obox (Or.inr ⟨rfl, rfl⟩) ?_
    refine RL.fin ?_
    refine RA.next ?_
    refine RA.relist 8 #[true, true, true, false, true, true, true, false, false, false, false, false, false, false] rfl (by kernel_rfl) ?_
    exact fun a w st => h155 () a w (St.cut [0, 1, 2, 3, 4] ⟨rfl, rfl, rfl, rfl, rfl, trivial⟩ (by decide) rfl st)
   ·skip
    refine RL.cat rfl rfl rfl rfl e110 ?_
    refine RL.fin ?_
    refine RA.next ?_
    refine RA.relist 8 #[true, true, false, false, true, true, true, true, false, false, false, false, false, false] rfl (by kernel_rfl) ?_
    exact fun a w st => h160 () a w (St.cut [0, 1, 2, 3, 4] ⟨rfl, rfl, rfl, rfl, rfl, trivial⟩ (by decide) rfl st)
   refine RL.fadr (off := 0) (fo := 1) 3 Tryz_fld61_1 rfl rfl rfl PtOf.obox (Or.inr ⟨rfl, rfl⟩) ?_
   refine RL.fin ?_
   refine RA.next ?_
   refine RA.relist 8 #[true, true, false, false, true, true, true, false, true, false, false, false, false, false] rfl (by kernel_rfl) ?_
   exact fun a w st => h152 () a w (St.cut [0, 1, 2, 4, 3] ⟨rfl, rfl, rfl, rfl, rfl, trivial⟩ (by decide) rfl st)
  refine RA.meet (ι := Unit) (fun (p : Unit) => [(0, v0), (3, v4), (5, v12), (23, v0), (30, .string ⟨((([111, 32] : List UInt8) ++ x1.2.2.1) ++ ([32] : List UInt8) : List UInt8).toArray⟩)]) (fun (p : Unit) => [obox 78 TrH v0 (x0.1, (x0.2.1, u0a)), obox 95 (TR.pair TR.str TR.int) u0a x0.2.2, keep X, obox 61 TrE v4 x1, own 30 TrA v12 y10.1]) 9 #[true, false, false, false, true, true, true, true, false, false, false, false, false, false] (fun h167 => ?_) ?_
  rotate_left
  ·rintro ⟨⟩
   refine RA.weak (env' := [(0, v0), (3, v4), (5, v12), (23, v0), (30, .string ⟨((([111, 32] : List UInt8) ++ x1.2.2.1) ++ ([32] : List UInt8) : List UInt8).toArray⟩)]) (L' := [obox 78 TrH v0 (x0.1, (x0.2.1, u0a)), obox 95 (TR.pair TR.str TR.int) u0a x0.2.2, keep X, obox 61 TrE v4 x1, own 30 TrA v12 y10.1]) (fun _ _ st => st) ?_
   refine RA.many [1, 8] (by kernel_rfl) ⟨⟨_, rfl, ?_⟩, ⟨_, rfl, ?_⟩, trivial⟩
   ·skip
    refine RL.nilk 0 rfl rfl rfl rfl PtOf.obox ?_
    refine RL.fin ?_
    refine RA.next ?_
    refine RA.relist 8 #[true, true, false, false, true, true, true, true, false, false, false, false, false, false] rfl (by kernel_rfl) ?_
    exact fun a w st => h160 () a w (St.cut [0, 1, 2, 3, 4] ⟨rfl, rfl, rfl, rfl, rfl, trivial⟩ (by decide) rfl st)
   refine RL.fadr (off := 0) (fo := 1) 3 Tryz_fld61_1 rfl rfl rfl PtOf.obox (Or.inr ⟨rfl, rfl⟩) ?_
   refine RL.fin ?_
   refine RA.next ?_
   refine RA.relist 8 #[true, false, false, false, true, true, true, true, true, false, false, false, false, false] rfl (by kernel_rfl) ?_
   exact fun a w st => h156 () a w (St.cut [0, 1, 2, 4, 3] ⟨rfl, rfl, rfl, rfl, rfl, trivial⟩ (by decide) rfl st)
  refine RA.meet (ι := Unit) (fun (p : Unit) => [(0, v0), (3, v4), (5, v12), (26, u0a), (27, adr v4 (0 + 2))]) (fun (p : Unit) => [obox 78 TrH v0 (x0.1, (x0.2.1, u0a)), obox 95 (TR.pair TR.str TR.int) u0a x0.2.2, keep X, obox 61 TrE v4 x1, own 30 TrA v12 y10.1]) 9 #[true, true, true, true, true, false, false, false, false, false, false, false, false, false] (fun h168 => ?_) ?_
  rotate_left
  ·rintro ⟨⟩
   refine RA.weak (env' := [(0, v0), (3, v4), (5, v12), (26, u0a), (27, adr v4 (0 + 2))]) (L' := [obox 78 TrH v0 (x0.1, (x0.2.1, u0a)), obox 95 (TR.pair TR.str TR.int) u0a x0.2.2, keep X, obox 61 TrE v4 x1, own 30 TrA v12 y10.1]) (fun _ _ st => st) ?_
   refine RA.many [5, 8] (by kernel_rfl) ⟨⟨_, rfl, ?_⟩, ⟨_, rfl, ?_⟩, trivial⟩
   ·skip
    refine RL.ldPx (off := (0 + 2)) (e' := x1.2.2.1) 3 Ex.str Tryz_ln9 rfl rfl (Or.inl rfl) rfl PtOf.obox (Part.snd (Part.snd (Part.fst Part.self))) ?_
    refine RL.fin ?_
    refine RA.next ?_
    refine RA.relist 8 #[true, true, true, true, true, true, false, false, false, false, false, false, false, false] rfl (by kernel_rfl) ?_
    exact fun a w st => h165 () a w (St.cut [0, 1, 2, 3, 4] ⟨rfl, rfl, rfl, rfl, rfl, trivial⟩ (by decide) rfl st)
   refine RL.fadr (off := 0) (fo := 1) 3 Tryz_fld61_1 rfl rfl rfl PtOf.obox (Or.inr ⟨rfl, rfl⟩) ?_
   refine RL.fin ?_
   refine RA.next ?_
   refine RA.relist 8 #[true, true, true, true, true, false, false, false, true, false, false, false, false, false] rfl (by kernel_rfl) ?_
   exact fun a w st => h161 () a w (St.cut [0, 1, 2, 4, 3] ⟨rfl, rfl, rfl, rfl, rfl, trivial⟩ (by decide) rfl st)
  refine RA.meet (ι := Unit) (fun (p : Unit) => [(0, v0), (5, v12), (25, adr v0 (0 + 2)), (27, adr v4 (0 + 2)), (31, adr v4 (0 + 1))]) (fun (p : Unit) => [obox 78 TrH v0 (x0.1, (x0.2.1, u0a)), obox 95 (TR.pair TR.str TR.int) u0a x0.2.2, keep X, own 30 TrA v12 y10.1, obox 61 TrE v4 x1]) 9 #[true, true, true, false, true, false, false, false, true, false, false, false, false, false] (fun h169 => ?_) ?_
  rotate_left
  ·rintro ⟨⟩
   refine RA.weak (env' := [(0, v0), (5, v12), (25, adr v0 (0 + 2)), (27, adr v4 (0 + 2)), (31, adr v4 (0 + 1))]) (L' := [obox 78 TrH v0 (x0.1, (x0.2.1, u0a)), obox 95 (TR.pair TR.str TR.int) u0a x0.2.2, keep X, own 30 TrA v12 y10.1, obox 61 TrE v4 x1]) (fun _ _ st => st) ?_
   refine RA.many [3, 5, 9] (by kernel_rfl) ⟨⟨_, rfl, ?_⟩, ⟨_, rfl, ?_⟩, ⟨_, rfl, ?_⟩, trivial⟩
   ·skip
    refine RL.ldPx (off := (0 + 2)) (e' := u0a) 0 Ex.raw Tryz_ln76 rfl rfl (Or.inl rfl) rfl PtOf.obox (Part.snd (Part.snd Part.self)) ?_
    refine RL.fin ?_
    refine RA.next ?_
    refine RA.relist 8 #[true, true, true, true, true, false, false, false, true, false, false, false, false, false] rfl (by kernel_rfl) ?_
    exact fun a w st => h161 () a w (St.cut [0, 1, 2, 3, 4] ⟨rfl, rfl, rfl, rfl, rfl, trivial⟩ (by decide) rfl st)
   ·skip
    refine RL.ldPx (off := (0 + 2)) (e' := x1.2.2.1) 4 Ex.str Tryz_ln9 rfl rfl (Or.inl rfl) rfl PtOf.obox (Part.snd (Part.snd (Part.fst Part.self))) ?_
    refine RL.fin ?_
    refine RA.next ?_
    refine RA.relist 8 #[true, true, true, false, true, true, false, false, true, false, false, false, false, false] rfl (by kernel_rfl) ?_
    exact fun a w st => h162 () a w (St.cut [0, 1, 2, 3, 4] ⟨rfl, rfl, rfl, rfl, rfl, trivial⟩ (by decide) rfl st)
   refine RL.ldPx (off := (0 + 1)) (e' := x1.2.1) 4 Ex.ik Tryz_ln3 rfl rfl (Or.inl rfl) rfl PtOf.obox (Part.snd (Part.fst Part.self)) ?_
   refine RL.fin ?_
   refine RA.next ?_
   refine RA.relist 8 #[true, true, true, false, true, false, false, false, true, true, false, false, false, false] rfl (by kernel_rfl) ?_
   exact fun a w st => h163 () a w (St.cut [0, 1, 2, 3, 4] ⟨rfl, rfl, rfl, rfl, rfl, trivial⟩ (by decide) rfl st)
  refine RA.meet (ι := Unit) (fun (p : Unit) => [(0, v0), (3, v4), (5, v12), (24, v0), (33, .string ⟨(y111 : List UInt8).toArray⟩)]) (fun (p : Unit) => [obox 78 TrH v0 (x0.1, (x0.2.1, u0a)), obox 95 (TR.pair TR.str TR.int) u0a x0.2.2, keep X, obox 61 TrE v4 x1, own 30 TrA v12 y10.1]) 9 #[true, true, false, false, false, false, false, false, true, true, true, false, false, false] (fun h170 => ?_) ?_
  rotate_left
  ·rintro ⟨⟩
   refine RA.weak (env' := [(0, v0), (3, v4), (5, v12), (24, v0), (33, .string ⟨(y111 : List UInt8).toArray⟩)]) (L' := [obox 78 TrH v0 (x0.1, (x0.2.1, u0a)), obox 95 (TR.pair TR.str TR.int) u0a x0.2.2, keep X, obox 61 TrE v4 x1, own 30 TrA v12 y10.1]) (fun _ _ st => st) ?_
   refine RA.many [2, 4] (by kernel_rfl) ⟨⟨_, rfl, ?_⟩, ⟨_, rfl, ?_⟩, trivial⟩
   ·skip
    refine RL.fadr (off := 0) (fo := 2) 0 Tryz_fld78_2 rfl rfl rfl PtOf.obox (Or.inr ⟨rfl, rfl⟩) ?_
    refine RL.fin ?_
    refine RA.next ?_
    refine RA.relist 8 #[true, true, true, false, false, false, false, false, true, true, true, false, false, false] rfl (by kernel_rfl) ?_
    exact fun a w st => h153 () a w (St.cut [0, 1, 2, 3, 4] ⟨rfl, rfl, rfl, rfl, rfl, trivial⟩ (by decide) rfl st)
   refine RL.fadr (off := 0) (fo := 2) 3 Tryz_fld61_2 rfl rfl rfl PtOf.obox (Or.inr ⟨rfl, rfl⟩) ?_
   refine RL.fin ?_
   refine RA.next ?_
   refine RA.relist 8 #[true, true, false, false, true, false, false, false, true, true, true, false, false, false] rfl (by kernel_rfl) ?_
   exact fun a w st => h159 () a w (St.cut [0, 1, 2, 4, 3] ⟨rfl, rfl, rfl, rfl, rfl, trivial⟩ (by decide) rfl st)
  refine RA.meet (ι := Unit) (fun (p : Unit) => [(0, v0), (5, v12), (24, v0), (28, .string ⟨(x1.2.2.1 : List UInt8).toArray⟩), (31, adr v4 (0 + 1))]) (fun (p : Unit) => [obox 78 TrH v0 (x0.1, (x0.2.1, u0a)), obox 95 (TR.pair TR.str TR.int) u0a x0.2.2, keep X, own 30 TrA v12 y10.1, obox 61 TrE v4 x1]) 9 #[true, true, false, false, true, true, false, false, true, false, false, false, false, false] (fun h171 => ?_) ?_
  rotate_left
  ·rintro ⟨⟩
   refine RA.weak (env' := [(0, v0), (5, v12), (24, v0), (28, .string ⟨(x1.2.2.1 : List UInt8).toArray⟩), (31, adr v4 (0 + 1))]) (L' := [obox 78 TrH v0 (x0.1, (x0.2.1, u0a)), obox 95 (TR.pair TR.str TR.int) u0a x0.2.2, keep X, own 30 TrA v12 y10.1, obox 61 TrE v4 x1]) (fun _ _ st => st) ?_
   refine RA.many [2, 6, 9] (by kernel_rfl) ⟨⟨_, rfl, ?_⟩, ⟨_, rfl, ?_⟩, ⟨_, rfl, ?_⟩, trivial⟩
   ·skip
    refine RL.fadr (off := 0) (fo := 2) 0 Tryz_fld78_2 rfl rfl rfl PtOf.obox (Or.inr ⟨rfl, rfl⟩) ?_
    refine RL.fin ?_
    refine RA.next ?_
    refine RA.relist 8 #[true, true, true, false, true, true, false, false, true, false, false, false, false, false] rfl (by kernel_rfl) ?_
    exact fun a w st => h162 () a w (St.cut [0, 1, 2, 3, 4] ⟨rfl, rfl, rfl, rfl, rfl, trivial⟩ (by decide) rfl st)
   ·skip
    refine RL.cat rfl rfl rfl rfl e108 ?_
    refine RL.fin ?_
    refine RA.next ?_
    refine RA.relist 8 #[true, true, false, false, true, true, true, false, true, false, false, false, false, false] rfl (by kernel_rfl) ?_
    exact fun a w st => h152 () a w (St.cut [0, 1, 2, 3, 4] ⟨rfl, rfl, rfl, rfl, rfl, trivial⟩ (by decide) rfl st)
   refine RL.ldPx (off := (0 + 1)) (e' := x1.2.1) 4 Ex.ik Tryz_ln3 rfl rfl (Or.inl rfl) rfl PtOf.obox (Part.snd (Part.fst Part.self)) ?_
   refine RL.fin ?_
   refine RA.next ?_
   refine RA.relist 8 #[true, true, false, false, true, true, false, false, true, true, false, false, false, false] rfl (by kernel_rfl) ?_
   exact fun a w st => h158 () a w (St.cut [0, 1, 2, 3] ⟨rfl, rfl, rfl, rfl, rfl, trivial⟩ (by decide) rfl st)
  refine RA.meet (ι := Unit) (fun (p : Unit) => [(0, v0), (5, v12), (23, v0), (29, .string ⟨(([111, 32] : List UInt8) ++ x1.2.2.1 : List UInt8).toArray⟩), (31, adr v4 (0 + 1))]) (fun (p : Unit) => [obox 78 TrH v0 (x0.1, (x0.2.1, u0a)), obox 95 (TR.pair TR.str TR.int) u0a x0.2.2, keep X, own 30 TrA v12 y10.1, obox 61 TrE v4 x1]) 9 #[true, false, false, false, true, true, true, false, true, false, false, false, false, false] (fun h172 => ?_) ?_
  rotate_left
  ·rintro ⟨⟩
   refine RA.weak (env' := [(0, v0), (5, v12), (23, v0), (29, .string ⟨(([111, 32] : List UInt8) ++ x1.2.2.1 : List UInt8).toArray⟩), (31, adr v4 (0 + 1))]) (L' := [obox 78 TrH v0 (x0.1, (x0.2.1, u0a)), obox 95 (TR.pair TR.str TR.int) u0a x0.2.2, keep X, own 30 TrA v12 y10.1, obox 61 TrE v4 x1]) (fun _ _ st => st) ?_
   refine RA.many [1, 7, 9] (by kernel_rfl) ⟨⟨_, rfl, ?_⟩, ⟨_, rfl, ?_⟩, ⟨_, rfl, ?_⟩, trivial⟩
   ·skip
    refine RL.nilk 0 rfl rfl rfl rfl PtOf.obox ?_
    refine RL.fin ?_
    refine RA.next ?_
    refine RA.relist 8 #[true, true, false, false, true, true, true, false, true, false, false, false, false, false] rfl (by kernel_rfl) ?_
    exact fun a w st => h152 () a w (St.cut [0, 1, 2, 3, 4] ⟨rfl, rfl, rfl, rfl, rfl, trivial⟩ (by decide) rfl st)
   ·skip
    refine RL.cat rfl rfl rfl rfl e110 ?_
    refine RL.fin ?_
    refine RA.next ?_
    refine RA.relist 8 #[true, false, false, false, true, true, true, true, true, false, false, false, false, false] rfl (by kernel_rfl) ?_
    exact fun a w st => h156 () a w (St.cut [0, 1, 2, 3, 4] ⟨rfl, rfl, rfl, rfl, rfl, trivial⟩ (by decide) rfl st)
   refine RL.ldPx (off := (0 + 1)) (e' := x1.2.1) 4 Ex.ik Tryz_ln3 rfl rfl (Or.inl rfl) rfl PtOf.obox (Part.snd (Part.fst Part.self)) ?_
   refine RL.fin ?_
   refine RA.next ?_
   refine RA.relist 8 #[true, false, false, false, true, true, true, false, true, true, false, false, false, false] rfl (by kernel_rfl) ?_
   exact fun a w st => h154 () a w (St.cut [0, 1, 2, 3] ⟨rfl, rfl, rfl, rfl, rfl, trivial⟩ (by decide) rfl st)
  refine RA.meet (ι := Unit) (fun (p : Unit) => [(0, v0), (3, v4), (5, v12), (25, adr v0 (0 + 2)), (28, .string ⟨(x1.2.2.1 : List UInt8).toArray⟩)]) (fun (p : Unit) => [obox 78 TrH v0 (x0.1, (x0.2.1, u0a)), obox 95 (TR.pair TR.str TR.int) u0a x0.2.2, keep X, obox 61 TrE v4 x1, own 30 TrA v12 y10.1]) 9 #[true, true, true, false, true, true, false, false, false, false, false, false, false, false] (fun h173 => ?_) ?_
  rotate_left
  ·rintro ⟨⟩
   refine RA.weak (env' := [(0, v0), (3, v4), (5, v12), (25, adr v0 (0 + 2)), (28, .string ⟨(x1.2.2.1 : List UInt8).toArray⟩)]) (L' := [obox 78 TrH v0 (x0.1, (x0.2.1, u0a)), obox 95 (TR.pair TR.str TR.int) u0a x0.2.2, keep X, obox 61 TrE v4 x1, own 30 TrA v12 y10.1]) (fun _ _ st => st) ?_
   refine RA.many [3, 6, 8] (by kernel_rfl) ⟨⟨_, rfl, ?_⟩, ⟨_, rfl, ?_⟩, ⟨_, rfl, ?_⟩, trivial⟩
   ·skip
    refine RL.ldPx (off := (0 + 2)) (e' := u0a) 0 Ex.raw Tryz_ln76 rfl rfl (Or.inl rfl) rfl PtOf.obox (Part.snd (Part.snd Part.self)) ?_
    refine RL.fin ?_
    refine RA.next ?_
    refine RA.relist 8 #[true, true, true, true, true, true, false, false, false, false, false, false, false, false] rfl (by kernel_rfl) ?_
    exact fun a w st => h165 () a w (St.cut [0, 1, 2, 3, 4] ⟨rfl, rfl, rfl, rfl, rfl, trivial⟩ (by decide) rfl st)
   ·skip
    refine RL.cat rfl rfl rfl rfl e108 ?_
    refine RL.fin ?_
    refine RA.next ?_
    refine RA.relist 8 #[true, true, true, false, true, true, true, false, false, false, false, false, false, false] rfl (by kernel_rfl) ?_
    exact fun a w st => h155 () a w (St.cut [0, 1, 2, 3, 4] ⟨rfl, rfl, rfl, rfl, rfl, trivial⟩ (by decide) rfl st)
   refine RL.fadr (off := 0) (fo := 1) 3 Tryz_fld61_1 rfl rfl rfl PtOf.obox (Or.inr ⟨rfl, rfl⟩) ?_
   refine RL.fin ?_
   refine RA.next ?_
   refine RA.relist 8 #[true, true, true, false, true, true, false, false, true, false, false, false, false, false] rfl (by kernel_rfl) ?_
   exact fun a w st => h162 () a w (St.cut [0, 1, 2, 4, 3] ⟨rfl, rfl, rfl, rfl, rfl, trivial⟩ (by decide) rfl st)
  refine RA.meet (ι := Unit) (fun (p : Unit) => [(0, v0), (5, v12), (23, v0), (28, .string ⟨(x1.2.2.1 : List UInt8).toArray⟩), (32, .int .i64 x1.2.1)]) (fun (p : Unit) => [obox 78 TrH v0 (x0.1, (x0.2.1, u0a)), obox 95 (TR.pair TR.str TR.int) u0a x0.2.2, keep X, own 30 TrA v12 y10.1]) 9 #[true, false, false, false, true, true, false, false, true, true, false, false, false, false] (fun h174 => ?_) ?_
  rotate_left
  ·rintro ⟨⟩
   refine RA.weak (env' := [(0, v0), (5, v12), (23, v0), (28, .string ⟨(x1.2.2.1 : List UInt8).toArray⟩), (32, .int .i64 x1.2.1)]) (L' := [obox 78 TrH v0 (x0.1, (x0.2.1, u0a)), obox 95 (TR.pair TR.str TR.int) u0a x0.2.2, keep X, own 30 TrA v12 y10.1]) (fun _ _ st => st) ?_
   refine RA.many [1, 6, 10] (by kernel_rfl) ⟨⟨_, rfl, ?_⟩, ⟨_, rfl, ?_⟩, ⟨_, rfl, ?_⟩, trivial⟩
   ·skip
    refine RL.nilk 0 rfl rfl rfl rfl PtOf.obox ?_
    refine RL.fin ?_
    refine RA.next ?_
    refine RA.relist 8 #[true, true, false, false, true, true, false, false, true, true, false, false, false, false] rfl (by kernel_rfl) ?_
    exact fun a w st => h158 () a w (St.cut [0, 1, 2, 3] ⟨rfl, rfl, rfl, rfl, rfl, trivial⟩ (by decide) rfl st)
   ·skip
    refine RL.cat rfl rfl rfl rfl e108 ?_
    refine RL.fin ?_
    refine RA.next ?_
    refine RA.relist 8 #[true, false, false, false, true, true, true, false, true, true, false, false, false, false] rfl (by kernel_rfl) ?_
    exact fun a w st => h154 () a w (St.cut [0, 1, 2, 3] ⟨rfl, rfl, rfl, rfl, rfl, trivial⟩ (by decide) rfl st)
   refine RL.callV (v := .string ⟨(y111 : List UInt8).toArray⟩) (vs := [.int .i64 x1.2.1]) Tryz_fit58 rfl (Or.inl rfl) rfl rfl rfl rfl (fun U w hU hW hL => strconv_Itoa_c U w hU (hT.mono hW) x1.2.1 _ e112) ?_
   refine RL.fin ?_
   refine RA.next ?_
   refine RA.relist 8 #[true, false, false, false, true, true, false, false, true, true, true, false, false, false] rfl (by kernel_rfl) ?_
   exact fun a w st => h164 () a w (St.cut [0, 1, 2, 3] ⟨rfl, rfl, rfl, rfl, rfl, trivial⟩ (by decide) rfl st)
  refine RA.meet (ι := Unit) (fun (p : Unit) => [(0, v0), (5, v12), (23, v0), (27, adr v4 (0 + 2)), (33, .string ⟨(y111 : List UInt8).toArray⟩)]) (fun (p : Unit) => [obox 78 TrH v0 (x0.1, (x0.2.1, u0a)), obox 95 (TR.pair TR.str TR.int) u0a x0.2.2, keep X, own 30 TrA v12 y10.1, obox 61 TrE v4 x1]) 9 #[true, false, false, false, true, false, false, false, true, true, true, false, false, false] (fun h175 => ?_) ?_
  rotate_left
  ·rintro ⟨⟩
   refine RA.weak (env' := [(0, v0), (5, v12), (23, v0), (27, adr v4 (0 + 2)), (33, .string ⟨(y111 : List UInt8).toArray⟩)]) (L' := [obox 78 TrH v0 (x0.1, (x0.2.1, u0a)), obox 95 (TR.pair TR.str TR.int) u0a x0.2.2, keep X, own 30 TrA v12 y10.1, obox 61 TrE v4 x1]) (fun _ _ st => st) ?_
   refine RA.many [1, 5] (by kernel_rfl) ⟨⟨_, rfl, ?_⟩, ⟨_, rfl, ?_⟩, trivial⟩
   ·skip
    refine RL.nilk 0 rfl rfl rfl rfl PtOf.obox ?_
    refine RL.fin ?_
    refine RA.next ?_
    refine RA.relist 8 #[true, true, false, false, true, false, false, false, true, true, true, false, false, false] rfl (by kernel_rfl) ?_
    exact fun a w st => h159 () a w (St.cut [0, 1, 2, 3, 4] ⟨rfl, rfl, rfl, rfl, rfl, trivial⟩ (by decide) rfl st)
   refine RL.ldPx (off := (0 + 2)) (e' := x1.2.2.1) 4 Ex.str Tryz_ln9 rfl rfl (Or.inl rfl) rfl PtOf.obox (Part.snd (Part.snd (Part.fst Part.self))) ?_
   refine RL.fin ?_
   refine RA.next ?_
   refine RA.relist 8 #[true, false, false, false, true, true, false, false, true, true, true, false, false, false] rfl (by kernel_rfl) ?_
   exact fun a w st => h164 () a w (St.cut [0, 1, 2, 3] ⟨rfl, rfl, rfl, rfl, rfl, trivial⟩ (by decide) rfl st)
  refine RA.meet (ι := Unit) (fun (p : Unit) => [(0, v0), (3, v4), (5, v12), (25, adr v0 (0 + 2)), (32, .int .i64 x1.2.1)]) (fun (p : Unit) => [obox 78 TrH v0 (x0.1, (x0.2.1, u0a)), obox 95 (TR.pair TR.str TR.int) u0a x0.2.2, keep X, obox 61 TrE v4 x1, own 30 TrA v12 y10.1]) 9 #[true, true, true, false, false, false, false, false, true, true, false, false, false, false] (fun h176 => ?_) ?_
  rotate_left
  ·rintro ⟨⟩
   refine RA.weak (env' := [(0, v0), (3, v4), (5, v12), (25, adr v0 (0 + 2)), (32, .int .i64 x1.2.1)]) (L' := [obox 78 TrH v0 (x0.1, (x0.2.1, u0a)), obox 95 (TR.pair TR.str TR.int) u0a x0.2.2, keep X, obox 61 TrE v4 x1, own 30 TrA v12 y10.1]) (fun _ _ st => st) ?_
   refine RA.many [3, 4, 10] (by kernel_rfl) ⟨⟨_, rfl, ?_⟩, ⟨_, rfl, ?_⟩, ⟨_, rfl, ?_⟩, trivial⟩
   ·skip
    refine RL.ldPx (off := (0 + 2)) (e' := u0a) 0 Ex.raw Tryz_ln76 rfl rfl (Or.inl rfl) rfl PtOf.obox (Part.snd (Part.snd Part.self)) ?_
    refine RL.fin ?_
    refine RA.next ?_
    refine RA.relist 8 #[true, true, true, true, false, false, false, false, true, true, false, false, false, false] rfl (by kernel_rfl) ?_
    exact fun a w st => h157 () a w (St.cut [0, 1, 2, 3, 4] ⟨rfl, rfl, rfl, rfl, rfl, trivial⟩ (by decide) rfl st)
   ·skip
    refine RL.fadr (off := 0) (fo := 2) 3 Tryz_fld61_2 rfl rfl rfl PtOf.obox (Or.inr ⟨rfl, rfl⟩) ?_
    refine RL.fin ?_
    refine RA.next ?_
    refine RA.relist 8 #[true, true, true, false, true, false, false, false, true, true, false, false, false, false] rfl (by kernel_rfl) ?_
    exact fun a w st => h163 () a w (St.cut [0, 1, 2, 4, 3] ⟨rfl, rfl, rfl, rfl, rfl, trivial⟩ (by decide) rfl st)
   refine RL.callV (v := .string ⟨(y111 : List UInt8).toArray⟩) (vs := [.int .i64 x1.2.1]) Tryz_fit58 rfl (Or.inl rfl) rfl rfl rfl rfl (fun U w hU hW hL => strconv_Itoa_c U w hU (hT.mono hW) x1.2.1 _ e112) ?_
   refine RL.fin ?_
   refine RA.next ?_
   refine RA.relist 8 #[true, true, true, false, false, false, false, false, true, true, true, false, false, false] rfl (by kernel_rfl) ?_
   exact fun a w st => h153 () a w (St.cut [0, 1, 2, 3, 4] ⟨rfl, rfl, rfl, rfl, rfl, trivial⟩ (by decide) rfl st)
  refine RA.meet (ι := Unit) (fun (p : Unit) => [(0, v0), (3, v4), (5, v12), (26, u0a), (31, adr v4 (0 + 1))]) (fun (p : Unit) => [obox 78 TrH v0 (x0.1, (x0.2.1, u0a)), obox 95 (TR.pair TR.str TR.int) u0a x0.2.2, keep X, obox 61 TrE v4 x1, own 30 TrA v12 y10.1]) 9 #[true, true, true, true, false, false, false, false, true, false, false, false, false, false] (fun h177 => ?_) ?_
  rotate_left
  ·rintro ⟨⟩
   refine RA.weak (env' := [(0, v0), (3, v4), (5, v12), (26, u0a), (31, adr v4 (0 + 1))]) (L' := [obox 78 TrH v0 (x0.1, (x0.2.1, u0a)), obox 95 (TR.pair TR.str TR.int) u0a x0.2.2, keep X, obox 61 TrE v4 x1, own 30 TrA v12 y10.1]) (fun _ _ st => st) ?_
   refine RA.many [4, 9] (by kernel_rfl) ⟨⟨_, rfl, ?_⟩, ⟨_, rfl, ?_⟩, trivial⟩
   ·skip
    refine RL.fadr (off := 0) (fo := 2) 3 Tryz_fld61_2 rfl rfl rfl PtOf.obox (Or.inr ⟨rfl, rfl⟩) ?_
    refine RL.fin ?_
    refine RA.next ?_
    refine RA.relist 8 #[true, true, true, true, true, false, false, false, true, false, false, false, false, false] rfl (by kernel_rfl) ?_
    exact fun a w st => h161 () a w (St.cut [0, 1, 2, 4, 3] ⟨rfl, rfl, rfl, rfl, rfl, trivial⟩ (by decide) rfl st)
   refine RL.ldPx (off := (0 + 1)) (e' := x1.2.1) 3 Ex.ik Tryz_ln3 rfl rfl (Or.inl rfl) rfl PtOf.obox (Part.snd (Part.fst Part.self)) ?_
   refine RL.fin ?_
   refine RA.next ?_
   refine RA.relist 8 #[true, true, true, true, false, false, false, false, true, true, false, false, false, false] rfl (by kernel_rfl) ?_
   exact fun a w st => h157 () a w (St.cut [0, 1, 2, 3, 4] ⟨rfl, rfl, rfl, rfl, rfl, trivial⟩ (by decide) rfl st)
  refine RA.meet (ι := Unit) (fun (p : Unit) => [(0, v0), (5, v12), (24, v0), (27, adr v4 (0 + 2)), (32, .int .i64 x1.2.1)]) (fun (p : Unit) => [obox 78 TrH v0 (x0.1, (x0.2.1, u0a)), obox 95 (TR.pair TR.str TR.int) u0a x0.2.2, keep X, own 30 TrA v12 y10.1, obox 61 TrE v4 x1]) 9 #[true, true, false, false, true, false, false, false, true, true, false, false, false, false] (fun h178 => ?_) ?_
  rotate_left
  ·rintro ⟨⟩
   refine RA.weak (env' := [(0, v0), (5, v12), (24, v0), (27, adr v4 (0 + 2)), (32, .int .i64 x1.2.1)]) (L' := [obox 78 TrH v0 (x0.1, (x0.2.1, u0a)), obox 95 (TR.pair TR.str TR.int) u0a x0.2.2, keep X, own 30 TrA v12 y10.1, obox 61 TrE v4 x1]) (fun _ _ st => st) ?_
   refine RA.many [2, 5, 10] (by kernel_rfl) ⟨⟨_, rfl, ?_⟩, ⟨_, rfl, ?_⟩, ⟨_, rfl, ?_⟩, trivial⟩
   ·skip
    refine RL.fadr (off := 0) (fo := 2) 0 Tryz_fld78_2 rfl rfl rfl PtOf.obox (Or.inr ⟨rfl, rfl⟩) ?_
    refine RL.fin ?_
    refine RA.next ?_
    refine RA.relist 8 #[true, true, true, false, true, false, false, false, true, true, false, false, false, false] rfl (by kernel_rfl) ?_
    exact fun a w st => h163 () a w (St.cut [0, 1, 2, 3, 4] ⟨rfl, rfl, rfl, rfl, rfl, trivial⟩ (by decide) rfl st)
   ·skip
    refine RL.ldPx (off := (0 + 2)) (e' := x1.2.2.1) 4 Ex.str Tryz_ln9 rfl rfl (Or.inl rfl) rfl PtOf.obox (Part.snd (Part.snd (Part.fst Part.self))) ?_
    refine RL.fin ?_
    refine RA.next ?_
    refine RA.relist 8 #[true, true, false, false, true, true, false, false, true, true, false, false, false, false] rfl (by kernel_rfl) ?_
    exact fun a w st => h158 () a w (St.cut [0, 1, 2, 3] ⟨rfl, rfl, rfl, rfl, rfl, trivial⟩ (by decide) rfl st)
   refine RL.callV (v := .string ⟨(y111 : List UInt8).toArray⟩) (vs := [.int .i64 x1.2.1]) Tryz_fit58 rfl (Or.inl rfl) rfl rfl rfl rfl (fun U w hU hW hL => strconv_Itoa_c U w hU (hT.mono hW) x1.2.1 _ e112) ?_
   refine RL.fin ?_
   refine RA.next ?_
   refine RA.relist 8 #[true, true, false, false, true, false, false, false, true, true, true, false, false, false] rfl (by kernel_rfl) ?_
   exact fun a w st => h159 () a w (St.cut [0, 1, 2, 3, 4] ⟨rfl, rfl, rfl, rfl, rfl, trivial⟩ (by decide) rfl st)
  refine RA.meet (ι := Unit) (fun (p : Unit) => [(0, v0), (3, v4), (5, v12), (25, adr v0 (0 + 2)), (31, adr v4 (0 + 1))]) (fun (p : Unit) => [obox 78 TrH v0 (x0.1, (x0.2.1, u0a)), obox 95 (TR.pair TR.str TR.int) u0a x0.2.2, keep X, obox 61 TrE v4 x1, own 30 TrA v12 y10.1]) 10 #[true, true, true, false, false, false, false, false, true, false, false, false, false, false] (fun h179 => ?_) ?_
  rotate_left
  ·rintro ⟨⟩
   refine RA.weak (env' := [(0, v0), (3, v4), (5, v12), (25, adr v0 (0 + 2)), (31, adr v4 (0 + 1))]) (L' := [obox 78 TrH v0 (x0.1, (x0.2.1, u0a)), obox 95 (TR.pair TR.str TR.int) u0a x0.2.2, keep X, obox 61 TrE v4 x1, own 30 TrA v12 y10.1]) (fun _ _ st => st) ?_
   refine RA.many [3, 4, 9] (by kernel_rfl) ⟨⟨_, rfl, ?_⟩, ⟨_, rfl, ?_⟩, ⟨_, rfl, ?_⟩, trivial⟩
   ·skip
    refine RL.ldPx (off := (0 + 2)) (e' := u0a) 0 Ex.raw Tryz_ln76 rfl rfl (Or.inl rfl) rfl PtOf.obox (Part.snd (Part.snd Part.self)) ?_
    refine RL.fin ?_
    refine RA.next ?_
    refine RA.relist 9 #[true, true, true, true, false, false, false, false, true, false, false, false, false, false] rfl (by kernel_rfl) ?_
    exact fun a w st => h177 () a w (St.cut [0, 1, 2, 3, 4] ⟨rfl, rfl, rfl, rfl, rfl, trivial⟩ (by decide) rfl st)
   ·skip
    refine RL.fadr (off := 0) (fo := 2) 3 Tryz_fld61_2 rfl rfl rfl PtOf.obox (Or.inr ⟨rfl, rfl⟩) ?_
    refine RL.fin ?_
    refine RA.next ?_
    refine RA.relist 9 #[true, true, true, false, true, false, false, false, true, false, false, false, false, false] rfl (by kernel_rfl) ?_
    exact fun a w st => h169 () a w (St.cut [0, 1, 2, 4, 3] ⟨rfl, rfl, rfl, rfl, rfl, trivial⟩ (by decide) rfl st)
   refine RL.ldPx (off := (0 + 1)) (e' := x1.2.1) 3 Ex.ik Tryz_ln3 rfl rfl (Or.inl rfl) rfl PtOf.obox (Part.snd (Part.fst Part.self)) ?_
   refine RL.fin ?_
   refine RA.next ?_
   refine RA.relist 9 #[true, true, true, false, false, false, false, false, true, true, false, false, false, false] rfl (by kernel_rfl) ?_
   exact fun a w st => h176 () a w (St.cut [0, 1, 2, 3, 4] ⟨rfl, rfl, rfl, rfl, rfl, trivial⟩ (by decide) rfl st)
  refine RA.meet (ι := Unit) (fun (p : Unit) => [(0, v0), (3, v4), (5, v12), (25, adr v0 (0 + 2)), (27, adr v4 (0 + 2))]) (fun (p : Unit) => [obox 78 TrH v0 (x0.1, (x0.2.1, u0a)), obox 95 (TR.pair TR.str TR.int) u0a x0.2.2, keep X, obox 61 TrE v4 x1, own 30 TrA v12 y10.1]) 10 #[true, true, true, false, true, false, false, false, false, false, false, false, false, false] (fun h180 => ?_) ?_
  rotate_left
  ·rintro ⟨⟩
   refine RA.weak (env' := [(0, v0), (3, v4), (5, v12), (25, adr v0 (0 + 2)), (27, adr v4 (0 + 2))]) (L' := [obox 78 TrH v0 (x0.1, (x0.2.1, u0a)), obox 95 (TR.pair TR.str TR.int) u0a x0.2.2, keep X, obox 61 TrE v4 x1, own 30 TrA v12 y10.1]) (fun _ _ st => st) ?_
   refine RA.many [3, 5, 8] (by kernel_rfl) ⟨⟨_, rfl, ?_⟩, ⟨_, rfl, ?_⟩, ⟨_, rfl, ?_⟩, trivial⟩
   ·skip
    refine RL.ldPx (off := (0 + 2)) (e' := u0a) 0 Ex.raw Tryz_ln76 rfl rfl (Or.inl rfl) rfl PtOf.obox (Part.snd (Part.snd Part.self)) ?_
    refine RL.fin ?_
    refine RA.next ?_
    refine RA.relist 9 #[true, true, true, true, true, false, false, false, false, false, false, false, false, false] rfl (by kernel_rfl) ?_
    exact fun a w st => h168 () a w (St.cut [0, 1, 2, 3, 4] ⟨rfl, rfl, rfl, rfl, rfl, trivial⟩ (by decide) rfl st)
   ·skip
    refine RL.ldPx (off := (0 + 2)) (e' := x1.2.2.1) 3 Ex.str Tryz_ln9 rfl rfl (Or.inl rfl) rfl PtOf.obox (Part.snd (Part.snd (Part.fst Part.self))) ?_
    refine RL.fin ?_
    refine RA.next ?_
    refine RA.relist 9 #[true, true, true, false, true, true, false, false, false, false, false, false, false, false] rfl (by kernel_rfl) ?_
    exact fun a w st => h173 () a w (St.cut [0, 1, 2, 3, 4] ⟨rfl, rfl, rfl, rfl, rfl, trivial⟩ (by decide) rfl st)
   refine RL.fadr (off := 0) (fo := 1) 3 Tryz_fld61_1 rfl rfl rfl PtOf.obox (Or.inr ⟨rfl, rfl⟩) ?_
   refine RL.fin ?_
   refine RA.next ?_
   refine RA.relist 9 #[true, true, true, false, true, false, false, false, true, false, false, false, false, false] rfl (by kernel_rfl) ?_
   exact fun a w st => h169 () a w (St.cut [0, 1, 2, 4, 3] ⟨rfl, rfl, rfl, rfl, rfl, trivial⟩ (by decide) rfl st)
  refine RA.meet (ι := Unit) (fun (p : Unit) => [(0, v0), (3, v4), (5, v12), (24, v0), (32, .int .i64 x1.2.1)]) (fun (p : Unit) => [obox 78 TrH v0 (x0.1, (x0.2.1, u0a)), obox 95 (TR.pair TR.str TR.int) u0a x0.2.2, keep X, obox 61 TrE v4 x1, own 30 TrA v12 y10.1]) 10 #[true, true, false, false, false, false, false, false, true, true, false, false, false, false] (fun h181 => ?_) ?_
  rotate_left
  ·rintro ⟨⟩
   refine RA.weak (env' := [(0, v0), (3, v4), (5, v12), (24, v0), (32, .int .i64 x1.2.1)]) (L' := [obox 78 TrH v0 (x0.1, (x0.2.1, u0a)), obox 95 (TR.pair TR.str TR.int) u0a x0.2.2, keep X, obox 61 TrE v4 x1, own 30 TrA v12 y10.1]) (fun _ _ st => st) ?_
   refine RA.many [2, 4, 10] (by kernel_rfl) ⟨⟨_, rfl, ?_⟩, ⟨_, rfl, ?_⟩, ⟨_, rfl, ?_⟩, trivial⟩
   ·skip
    refine RL.fadr (off := 0) (fo := 2) 0 Tryz_fld78_2 rfl rfl rfl PtOf.obox (Or.inr ⟨rfl, rfl⟩) ?_
    refine RL.fin ?_
    refine RA.next ?_
    refine RA.relist 9 #[true, true, true, false, false, false, false, false, true, true, false, false, false, false] rfl (by kernel_rfl) ?_
    exact fun a w st => h176 () a w (St.cut [0, 1, 2, 3, 4] ⟨rfl, rfl, rfl, rfl, rfl, trivial⟩ (by decide) rfl st)
   ·skip
    refine RL.fadr (off := 0) (fo := 2) 3 Tryz_fld61_2 rfl rfl rfl PtOf.obox (Or.inr ⟨rfl, rfl⟩) ?_
    refine RL.fin ?_
    refine RA.next ?_
    refine RA.relist 9 #[true, true, false, false, true, false, false, false, true, true, false, false, false, false] rfl (by kernel_rfl) ?_
    exact fun a w st => h178 () a w (St.cut [0, 1, 2, 4, 3] ⟨rfl, rfl, rfl, rfl, rfl, trivial⟩ (by decide) rfl st)
   refine RL.callV (v := .string ⟨(y111 : List UInt8).toArray⟩) (vs := [.int .i64 x1.2.1]) Tryz_fit58 rfl (Or.inl rfl) rfl rfl rfl rfl (fun U w hU hW hL => strconv_Itoa_c U w hU (hT.mono hW) x1.2.1 _ e112) ?_
   refine RL.fin ?_
   refine RA.next ?_
   refine RA.relist 9 #[true, true, false, false, false, false, false, false, true, true, true, false, false, false] rfl (by kernel_rfl) ?_
   exact fun a w st => h170 () a w (St.cut [0, 1, 2, 3, 4] ⟨rfl, rfl, rfl, rfl, rfl, trivial⟩ (by decide) rfl st)
  refine RA.meet (ι := Unit) (fun (p : Unit) => [(0, v0), (3, v4), (5, v12), (23, v0), (33, .string ⟨(y111 : List UInt8).toArray⟩)]) (fun (p : Unit) => [obox 78 TrH v0 (x0.1, (x0.2.1, u0a)), obox 95 (TR.pair TR.str TR.int) u0a x0.2.2, keep X, obox 61 TrE v4 x1, own 30 TrA v12 y10.1]) 10 #[true, false, false, false, false, false, false, false, true, true, true, false, false, false] (fun h182 => ?_) ?_
  rotate_left
  ·rintro ⟨⟩
   refine RA.weak (env' := [(0, v0), (3, v4), (5, v12), (23, v0), (33, .string ⟨(y111 : List UInt8).toArray⟩)]) (L' := [obox 78 TrH v0 (x0.1, (x0.2.1, u0a)), obox 95 (TR.pair TR.str TR.int) u0a x0.2.2, keep X, obox 61 TrE v4 x1, own 30 TrA v12 y10.1]) (fun _ _ st => st) ?_
   refine RA.many [1, 4] (by kernel_rfl) ⟨⟨_, rfl, ?_⟩, ⟨_, rfl, ?_⟩, trivial⟩
   ·skip
    refine RL.nilk 0 rfl rfl rfl rfl PtOf.obox ?_
    refine RL.fin ?_
    refine RA.next ?_
    refine RA.relist 9 #[true, true, false, false, false, false, false, false, true, true, true, false, false, false] rfl (by kernel_rfl) ?_
    exact fun a w st => h170 () a w (St.cut [0, 1, 2, 3, 4] ⟨rfl, rfl, rfl, rfl, rfl, trivial⟩ (by decide) rfl st)
   refine RL.fadr (off := 0) (fo := 2) 3 Tryz_fld61_2 rfl rfl rfl PtOf.obox (Or.inr ⟨rfl, rfl⟩) ?_
   refine RL.fin ?_
   refine RA.next ?_
   refine RA.relist 9 #[true, false, false, false, true, false, false, false, true, true, true, false, false, false] rfl (by kernel_rfl) ?_
   exact fun a w st => h175 () a w (St.cut [0, 1, 2, 4, 3] ⟨rfl, rfl, rfl, rfl, rfl, trivial⟩ (by decide) rfl st)
  refine RA.meet (ι := Unit) (fun (p : Unit) => [(0, v0), (5, v12), (23, v0), (27, adr v4 (0 + 2)), (32, .int .i64 x1.2.1)]) (fun (p : Unit) => [obox 78 TrH v0 (x0.1, (x0.2.1, u0a)), obox 95 (TR.pair TR.str TR.int) u0a x0.2.2, keep X, own 30 TrA v12 y10.1, obox 61 TrE v4 x1]) 10 #[true, false, false, false, true, false, false, false, true, true, false, false, false, false] (fun h183 => ?_) ?_
  rotate_left
  ·rintro ⟨⟩
   refine RA.weak (env' := [(0, v0), (5, v12), (23, v0), (27, adr v4 (0 + 2)), (32, .int .i64 x1.2.1)]) (L' := [obox 78 TrH v0 (x0.1, (x0.2.1, u0a)), obox 95 (TR.pair TR.str TR.int) u0a x0.2.2, keep X, own 30 TrA v12 y10.1, obox 61 TrE v4 x1]) (fun _ _ st => st) ?_
   refine RA.many [1, 5, 10] (by kernel_rfl) ⟨⟨_, rfl, ?_⟩, ⟨_, rfl, ?_⟩, ⟨_, rfl, ?_⟩, trivial⟩
   ·skip
    refine RL.nilk 0 rfl rfl rfl rfl PtOf.obox ?_
    refine RL.fin ?_
    refine RA.next ?_
    refine RA.relist 9 #[true, true, false, false, true, false, false, false, true, true, false, false, false, false] rfl (by kernel_rfl) ?_
    exact fun a w st => h178 () a w (St.cut [0, 1, 2, 3, 4] ⟨rfl, rfl, rfl, rfl, rfl, trivial⟩ (by decide) rfl st)
   ·skip
    refine RL.ldPx (off := (0 + 2)) (e' := x1.2.2.1) 4 Ex.str Tryz_ln9 rfl rfl (Or.inl rfl) rfl PtOf.obox (Part.snd (Part.snd (Part.fst Part.self))) ?_
    refine RL.fin ?_
    refine RA.next ?_
    refine RA.relist 9 #[true, false, false, false, true, true, false, false, true, true, false, false, false, false] rfl (by kernel_rfl) ?_
    exact fun a w st => h174 () a w (St.cut [0, 1, 2, 3] ⟨rfl, rfl, rfl, rfl, rfl, trivial⟩ (by decide) rfl st)
   refine RL.callV (v := .string ⟨(y111 : List UInt8).toArray⟩) (vs := [.int .i64 x1.2.1]) Tryz_fit58 rfl (Or.inl rfl) rfl rfl rfl rfl (fun U w hU hW hL => strconv_Itoa_c U w hU (hT.mono hW) x1.2.1 _ e112) ?_
   refine RL.fin ?_
   refine RA.next ?_
   refine RA.relist 9 #[true, false, false, false, true, false, false, false, true, true, true, false, false, false] rfl (by kernel_rfl) ?_
   exact fun a w st => h175 () a w (St.cut [0, 1, 2, 3, 4] ⟨rfl, rfl, rfl, rfl, rfl, trivial⟩ (by decide) rfl st)
  refine RA.meet (ι := Unit) (fun (p : Unit) => [(0, v0), (3, v4), (5, v12), (26, u0a)]) (fun (p : Unit) => [obox 78 TrH v0 (x0.1, (x0.2.1, u0a)), obox 95 (TR.pair TR.str TR.int) u0a x0.2.2, keep X, obox 61 TrE v4 x1, own 30 TrA v12 y10.1]) 10 #[true, true, true, true, false, false, false, false, false, false, false, false, false, false] (fun h184 => ?_) ?_
  rotate_left
  ·rintro ⟨⟩
   refine RA.weak (env' := [(0, v0), (3, v4), (5, v12), (26, u0a)]) (L' := [obox 78 TrH v0 (x0.1, (x0.2.1, u0a)), obox 95 (TR.pair TR.str TR.int) u0a x0.2.2, keep X, obox 61 TrE v4 x1, own 30 TrA v12 y10.1]) (fun _ _ st => st) ?_
   refine RA.many [4, 8] (by kernel_rfl) ⟨⟨_, rfl, ?_⟩, ⟨_, rfl, ?_⟩, trivial⟩
   ·skip
    refine RL.fadr (off := 0) (fo := 2) 3 Tryz_fld61_2 rfl rfl rfl PtOf.obox (Or.inr ⟨rfl, rfl⟩) ?_
    refine RL.fin ?_
    refine RA.next ?_
    refine RA.relist 9 #[true, true, true, true, true, false, false, false, false, false, false, false, false, false] rfl (by kernel_rfl) ?_
    exact fun a w st => h168 () a w (St.cut [0, 1, 2, 3, 4] ⟨rfl, rfl, rfl, rfl, rfl, trivial⟩ (by decide) rfl st)
   refine RL.fadr (off := 0) (fo := 1) 3 Tryz_fld61_1 rfl rfl rfl PtOf.obox (Or.inr ⟨rfl, rfl⟩) ?_
   refine RL.fin ?_
   refine RA.next ?_
   refine RA.relist 9 #[true, true, true, true, false, false, false, false, true, false, false, false, false, false] rfl (by kernel_rfl) ?_
   exact fun a w st => h177 () a w (St.cut [0, 1, 2, 3, 4] ⟨rfl, rfl, rfl, rfl, rfl, trivial⟩ (by decide) rfl st)
  refine RA.meet (ι := Unit) (fun (p : Unit) => [(0, v0), (3, v4), (5, v12), (24, v0), (28, .string ⟨(x1.2.2.1 : List UInt8).toArray⟩)]) (fun (p : Unit) => [obox 78 TrH v0 (x0.1, (x0.2.1, u0a)), obox 95 (TR.pair TR.str TR.int) u0a x0.2.2, keep X, obox 61 TrE v4 x1, own 30 TrA v12 y10.1]) 10 #[true, true, false, false, true, true, false, false, false, false, false, false, false, false] (fun h185 => ?_) ?_
  rotate_left
  ·rintro ⟨⟩
   refine RA.weak (env' := [(0, v0), (3, v4), (5, v12), (24, v0), (28, .string ⟨(x1.2.2.1 : List UInt8).toArray⟩)]) (L' := [obox 78 TrH v0 (x0.1, (x0.2.1, u0a)), obox 95 (TR.pair TR.str TR.int) u0a x0.2.2, keep X, obox 61 TrE v4 x1, own 30 TrA v12 y10.1]) (fun _ _ st => st) ?_
   refine RA.many [2, 6, 8] (by kernel_rfl) ⟨⟨_, rfl, ?_⟩, ⟨_, rfl, ?_⟩, ⟨_, rfl, ?_⟩, trivial⟩
   ·skip
    refine RL.fadr (off := 0) (fo := 2) 0 Tryz_fld78_2 rfl rfl rfl PtOf.obox (Or.inr ⟨rfl, rfl⟩) ?_
    refine RL.fin ?_
    refine RA.next ?_
    refine RA.relist 9 #[true, true, true, false, true, true, false, false, false, false, false, false, false, false] rfl (by kernel_rfl) ?_
    exact fun a w st => h173 () a w (St.cut [0, 1, 2, 3, 4] ⟨rfl, rfl, rfl, rfl, rfl, trivial⟩ (by decide) rfl st)
   ·skip
    refine RL.cat rfl rfl rfl rfl e108 ?_
    refine RL.fin ?_
    refine RA.next ?_
    refine RA.relist 9 #[true, true, false, false, true, true, true, false, false, false, false, false, false, false] rfl (by kernel_rfl) ?_
    exact fun a w st => h166 () a w (St.cut [0, 1, 2, 3, 4] ⟨rfl, rfl, rfl, rfl, rfl, trivial⟩ (by decide) rfl st)
   refine RL.fadr (off := 0) (fo := 1) 3 Tryz_fld61_1 rfl rfl rfl PtOf.obox (Or.inr ⟨rfl, rfl⟩) ?_
   refine RL.fin ?_
   refine RA.next ?_
   refine RA.relist 9 #[true, true, false, false, true, true, false, false, true, false, false, false, false, false] rfl (by kernel_rfl) ?_
   exact fun a w st => h171 () a w (St.cut [0, 1, 2, 4, 3] ⟨rfl, rfl, rfl, rfl, rfl, trivial⟩ (by decide) rfl st)
  refine RA.meet (ι := Unit) (fun (p : Unit) => [(0, v0), (5, v12), (23, v0), (28, .string ⟨(x1.2.2.1 : List UInt8).toArray⟩), (31, adr v4 (0 + 1))]) (fun (p : Unit) => [obox 78 TrH v0 (x0.1, (x0.2.1, u0a)), obox 95 (TR.pair TR.str TR.int) u0a x0.2.2, keep X, own 30 TrA v12 y10.1, obox 61 TrE v4 x1]) 10 #[true, false, false, false, true, true, false, false, true, false, false, false, false, false] (fun h186 => ?_) ?_
  rotate_left
  ·rintro ⟨⟩
   refine RA.weak (env' := [(0, v0), (5, v12), (23, v0), (28, .string ⟨(x1.2.2.1 : List UInt8).toArray⟩), (31, adr v4 (0 + 1))]) (L' := [obox 78 TrH v0 (x0.1, (x0.2.1, u0a)), obox 95 (TR.pair TR.str TR.int) u0a x0.2.2, keep X, own 30 TrA v12 y10.1, obox 61 TrE v4 x1]) (fun _ _ st => st) ?_
   refine RA.many [1, 6, 9] (by kernel_rfl) ⟨⟨_, rfl, ?_⟩, ⟨_, rfl, ?_⟩, ⟨_, rfl, ?_⟩, trivial⟩
   ·skip
    refine RL.nilk 0 rfl rfl rfl rfl PtOf.obox ?_
    refine RL.fin ?_
    refine RA.next ?_
    refine RA.relist 9 #[true, true, false, false, true, true, false, false, true, false, false, false, false, false] rfl (by kernel_rfl) ?_
    exact fun a w st => h171 () a w (St.cut [0, 1, 2, 3, 4] ⟨rfl, rfl, rfl, rfl, rfl, trivial⟩ (by decide) rfl st)
   ·skip
    refine RL.cat rfl rfl rfl rfl e108 ?_
    refine RL.fin ?_
    refine RA.next ?_
    refine RA.relist 9 #[true, false, false, false, true, true, true, false, true, false, false, false, false, false] rfl (by kernel_rfl) ?_
    exact fun a w st => h172 () a w (St.cut [0, 1, 2, 3, 4] ⟨rfl, rfl, rfl, rfl, rfl, trivial⟩ (by decide) rfl st)
   refine RL.ldPx (off := (0 + 1)) (e' := x1.2.1) 4 Ex.ik Tryz_ln3 rfl rfl (Or.inl rfl) rfl PtOf.obox (Part.snd (Part.fst Part.self)) ?_
   refine RL.fin ?_
   refine RA.next ?_
   refine RA.relist 9 #[true, false, false, false, true, true, false, false, true, true, false, false, false, false] rfl (by kernel_rfl) ?_
   exact fun a w st => h174 () a w (St.cut [0, 1, 2, 3] ⟨rfl, rfl, rfl, rfl, rfl, trivial⟩ (by decide) rfl st)
  refine RA.meet (ι := Unit) (fun (p : Unit) => [(0, v0), (5, v12), (24, v0), (27, adr v4 (0 + 2)), (31, adr v4 (0 + 1))]) (fun (p : Unit) => [obox 78 TrH v0 (x0.1, (x0.2.1, u0a)), obox 95 (TR.pair TR.str TR.int) u0a x0.2.2, keep X, own 30 TrA v12 y10.1, obox 61 TrE v4 x1]) 10 #[true, true, false, false, true, false, false, false, true, false, false, false, false, false] (fun h187 => ?_) ?_
  rotate_left
  ·rintro ⟨⟩
   refine RA.weak (env' := [(0, v0), (5, v12), (24, v0), (27, adr v4 (0 + 2)), (31, adr v4 (0 + 1))]) (L' := [obox 78 TrH v0 (x0.1, (x0.2.1, u0a)), obox 95 (TR.pair TR.str TR.int) u0a x0.2.2, keep X, own 30 TrA v12 y10.1, obox 61 TrE v4 x1]) (fun _ _ st => st) ?_
   refine RA.many [2, 5, 9] (by kernel_rfl) ⟨⟨_, rfl, ?_⟩, ⟨_, rfl, ?_⟩, ⟨_, rfl, ?_⟩, trivial⟩
   ·skip
    refine RL.fadr (off := 0) (fo := 2) 0 Tryz_fld78_2 rfl rfl rfl PtOf.obox (Or.inr ⟨rfl, rfl⟩) ?_
    refine RL.fin ?_
    refine RA.next ?_
    refine RA.relist 9 #[true, true, true, false, true, false, false, false, true, false, false, false, false, false] rfl (by kernel_rfl) ?_
    exact fun a w st => h169 () a w (St.cut [0, 1, 2, 3, 4] ⟨rfl, rfl, rfl, rfl, rfl, trivial⟩ (by decide) rfl st)
   ·skip
    refine RL.ldPx (off := (0 + 2)) (e' := x1.2.2.1) 4 Ex.str Tryz_ln9 rfl rfl (Or.inl rfl) rfl PtOf.obox (Part.snd (Part.snd (Part.fst Part.self))) ?_
    refine RL.fin ?_
    refine RA.next ?_
    refine RA.relist 9 #[true, true, false, false, true, true, false, false, true, false, false, false, false, false] rfl (by kernel_rfl) ?_
    exact fun a w st => h171 () a w (St.cut [0, 1, 2, 3, 4] ⟨rfl, rfl, rfl, rfl, rfl, trivial⟩ (by decide) rfl st)
   refine RL.ldPx (off := (0 + 1)) (e' := x1.2.1) 4 Ex.ik Tryz_ln3 rfl rfl (Or.inl rfl) rfl PtOf.obox (Part.snd (Part.fst Part.self)) ?_
   refine RL.fin ?_
   refine RA.next ?_
   refine RA.relist 9 #[true, true, false, false, true, false, false, false, true, true, false, false, false, false] rfl (by kernel_rfl) ?_
   exact fun a w st => h178 () a w (St.cut [0, 1, 2, 3, 4] ⟨rfl, rfl, rfl, rfl, rfl, trivial⟩ (by decide) rfl st)
  refine RA.meet (ι := Unit) (fun (p : Unit) => [(0, v0), (3, v4), (5, v12), (23, v0), (29, .string ⟨(([111, 32] : List UInt8) ++ x1.2.2.1 : List UInt8).toArray⟩)]) (fun (p : Unit) => [obox 78 TrH v0 (x0.1, (x0.2.1, u0a)), obox 95 (TR.pair TR.str TR.int) u0a x0.2.2, keep X, obox 61 TrE v4 x1, own 30 TrA v12 y10.1]) 10 #[true, false, false, false, true, true, true, false, false, false, false, false, false, false] (fun h188 => ?_) ?_
  rotate_left
  ·rintro ⟨⟩
   refine RA.weak (env' := [(0, v0), (3, v4), (5, v12), (23, v0), (29, .string ⟨(([111, 32] : List UInt8) ++ x1.2.2.1 : List UInt8).toArray⟩)]) (L' := [obox 78 TrH v0 (x0.1, (x0.2.1, u0a)), obox 95 (TR.pair TR.str TR.int) u0a x0.2.2, keep X, obox 61 TrE v4 x1, own 30 TrA v12 y10.1]) (fun _ _ st => st) ?_
   refine RA.many [1, 7, 8] (by kernel_rfl) ⟨⟨_, rfl, ?_⟩, ⟨_, rfl, ?_⟩, ⟨_, rfl, ?_⟩, trivial⟩
   ·skip
    refine RL.nilk 0 rfl rfl rfl rfl PtOf.obox ?_
    refine RL.fin ?_
    refine RA.next ?_
    refine RA.relist 9 #[true, true, false, false, true, true, true, false, false, false, false, false, false, false] rfl (by kernel_rfl) ?_
    exact fun a w st => h166 () a w (St.cut [0, 1, 2, 3, 4] ⟨rfl, rfl, rfl, rfl, rfl, trivial⟩ (by decide) rfl st)
   ·skip
    refine RL.cat rfl rfl rfl rfl e110 ?_
    refine RL.fin ?_
    refine RA.next ?_
    refine RA.relist 9 #[true, false, false, false, true, true, true, true, false, false, false, false, false, false] rfl (by kernel_rfl) ?_
    exact fun a w st => h167 () a w (St.cut [0, 1, 2, 3, 4] ⟨rfl, rfl, rfl, rfl, rfl, trivial⟩ (by decide) rfl st)
   refine RL.fadr (off := 0) (fo := 1) 3 Tryz_fld61_1 rfl rfl rfl PtOf.obox (Or.inr ⟨rfl, rfl⟩) ?_
   refine RL.fin ?_
   refine RA.next ?_
   refine RA.relist 9 #[true, false, false, false, true, true, true, false, true, false, false, false, false, false] rfl (by kernel_rfl) ?_
   exact fun a w st => h172 () a w (St.cut [0, 1, 2, 4, 3] ⟨rfl, rfl, rfl, rfl, rfl, trivial⟩ (by decide) rfl st)
  refine RA.meet (ι := Unit) (fun (p : Unit) => [(0, v0), (5, v12), (23, v0), (27, adr v4 (0 + 2)), (31, adr v4 (0 + 1))]) (fun (p : Unit) => [obox 78 TrH v0 (x0.1, (x0.2.1, u0a)), obox 95 (TR.pair TR.str TR.int) u0a x0.2.2, keep X, own 30 TrA v12 y10.1, obox 61 TrE v4 x1]) 11 #[true, false, false, false, true, false, false, false, true, false, false, false, false, false] (fun h189 => ?_) ?_
  rotate_left
  ·rintro ⟨⟩
   refine RA.weak (env' := [(0, v0), (5, v12), (23, v0), (27, adr v4 (0 + 2)), (31, adr v4 (0 + 1))]) (L' := [obox 78 TrH v0 (x0.1, (x0.2.1, u0a)), obox 95 (TR.pair TR.str TR.int) u0a x0.2.2, keep X, own 30 TrA v12 y10.1, obox 61 TrE v4 x1]) (fun _ _ st => st) ?_
   refine RA.many [1, 5, 9] (by kernel_rfl) ⟨⟨_, rfl, ?_⟩, ⟨_, rfl, ?_⟩, ⟨_, rfl, ?_⟩, trivial⟩
   ·skip
    refine RL.nilk 0 rfl rfl rfl rfl PtOf.obox ?_
    refine RL.fin ?_
    refine RA.next ?_
    refine RA.relist 10 #[true, true, false, false, true, false, false, false, true, false, false, false, false, false] rfl (by kernel_rfl) ?_
    exact fun a w st => h187 () a w (St.cut [0, 1, 2, 3, 4] ⟨rfl, rfl, rfl, rfl, rfl, trivial⟩ (by decide) rfl st)
   ·skip
    refine RL.ldPx (off := (0 + 2)) (e' := x1.2.2.1) 4 Ex.str Tryz_ln9 rfl rfl (Or.inl rfl) rfl PtOf.obox (Part.snd (Part.snd (Part.fst Part.self))) ?_
    refine RL.fin ?_
    refine RA.next ?_
    refine RA.relist 10 #[true, false, false, false, true, true, false, false, true, false, false, false, false, false] rfl (by kernel_rfl) ?_
    exact fun a w st => h186 () a w (St.cut [0, 1, 2, 3, 4] ⟨rfl, rfl, rfl, rfl, rfl, trivial⟩ (by decide) rfl st)
   refine RL.ldPx (off := (0 + 1)) (e' := x1.2.1) 4 Ex.ik Tryz_ln3 rfl rfl (Or.inl rfl) rfl PtOf.obox (Part.snd (Part.fst Part.self)) ?_
   refine RL.fin ?_
   refine RA.next ?_
   refine RA.relist 10 #[true, false, false, false, true, false, false, false, true, true, false, false, false, false] rfl (by kernel_rfl) ?_
   exact fun a w st => h183 () a w (St.cut [0, 1, 2, 3, 4] ⟨rfl, rfl, rfl, rfl, rfl, trivial⟩ (by decide) rfl st)
  refine RA.meet (ι := Unit) (fun (p : Unit) => [(0, v0), (3, v4), (5, v12), (23, v0), (28, .string ⟨(x1.2.2.1 : List UInt8).toArray⟩)]) (fun (p : Unit) => [obox 78 TrH v0 (x0.1, (x0.2.1, u0a)), obox 95 (TR.pair TR.str TR.int) u0a x0.2.2, keep X, obox 61 TrE v4 x1, own 30 TrA v12 y10.1]) 11 #[true, false, false, false, true, true, false, false, false, false, false, false, false, false] (fun h190 => ?_) ?_
  rotate_left
  ·rintro ⟨⟩
   refine RA.weak (env' := [(0, v0), (3, v4), (5, v12), (23, v0), (28, .string ⟨(x1.2.2.1 : List UInt8).toArray⟩)]) (L' := [obox 78 TrH v0 (x0.1, (x0.2.1, u0a)), obox 95 (TR.pair TR.str TR.int) u0a x0.2.2, keep X, obox 61 TrE v4 x1, own 30 TrA v12 y10.1]) (fun _ _ st => st) ?_
   refine RA.many [1, 6, 8] (by kernel_rfl) ⟨⟨_, rfl, ?_⟩, ⟨_, rfl, ?_⟩, ⟨_, rfl, ?_⟩, trivial⟩
   ·skip
    refine RL.nilk 0 rfl rfl rfl rfl PtOf.obox ?_
    refine RL.fin ?_
    refine RA.next ?_
    refine RA.relist 10 #[true, true, false, false, true, true, false, false, false, false, false, false, false, false] rfl (by kernel_rfl) ?_
    exact fun a w st => h185 () a w (St.cut [0, 1, 2, 3, 4] ⟨rfl, rfl, rfl, rfl, rfl, trivial⟩ (by decide) rfl st)
   ·skip
    refine RL.cat rfl rfl rfl rfl e108 ?_
    refine RL.fin ?_
    refine RA.next ?_
    refine RA.relist 10 #[true, false, false, false, true, true, true, false, false, false, false, false, false, false] rfl (by kernel_rfl) ?_
    exact fun a w st => h188 () a w (St.cut [0, 1, 2, 3, 4] ⟨rfl, rfl, rfl, rfl, rfl, trivial⟩ (by decide) rfl st)
   refine RL.fadr (off := 0) (fo := 1) 3 Tryz_fld61_1 rfl rfl rfl PtOf.obox (Or.inr ⟨rfl, rfl⟩) ?_
   refine RL.fin ?_
   refine RA.next ?_
   refine RA.relist 10 #[true, false, false, false, true, true, false, false, true, false, false, false, false, false] rfl (by kernel_rfl) ?_
   exact fun a w st => h186 () a w (St.cut [0, 1, 2, 4, 3] ⟨rfl, rfl, rfl, rfl, rfl, trivial⟩ (by decide) rfl st)
  refine RA.meet (ι := Unit) (fun (p : Unit) => [(0, v0), (3, v4), (5, v12), (25, adr v0 (0 + 2))]) (fun (p : Unit) => [obox 78 TrH v0 (x0.1, (x0.2.1, u0a)), obox 95 (TR.pair TR.str TR.int) u0a x0.2.2, keep X, obox 61 TrE v4 x1, own 30 TrA v12 y10.1]) 11 #[true, true, true, false, false, false, false, false, false, false, false, false, false, false] (fun h191 => ?_) ?_
  rotate_left
  ·rintro ⟨⟩
   refine RA.weak (env' := [(0, v0), (3, v4), (5, v12), (25, adr v0 (0 + 2))]) (L' := [obox 78 TrH v0 (x0.1, (x0.2.1, u0a)), obox 95 (TR.pair TR.str TR.int) u0a x0.2.2, keep X, obox 61 TrE v4 x1, own 30 TrA v12 y10.1]) (fun _ _ st => st) ?_
   refine RA.many [3, 4, 8] (by kernel_rfl) ⟨⟨_, rfl, ?_⟩, ⟨_, rfl, ?_⟩, ⟨_, rfl, ?_⟩, trivial⟩
   ·skip
    refine RL.ldPx (off := (0 + 2)) (e' := u0a) 0 Ex.raw Tryz_ln76 rfl rfl (Or.inl rfl) rfl PtOf.obox (Part.snd (Part.snd Part.self)) ?_
    refine RL.fin ?_
    refine RA.next ?_
    refine RA.relist 10 #[true, true, true, true, false, false, false, false, false, false, false, false, false, false] rfl (by kernel_rfl) ?_
    exact fun a w st => h184 () a w (St.cut [0, 1, 2, 3, 4] ⟨rfl, rfl, rfl, rfl, trivial⟩ (by decide) rfl st)
   ·skip
    refine RL.fadr (off := 0) (fo := 2) 3 Tryz_fld61_2 rfl rfl rfl PtOf.obox (Or.inr ⟨rfl, rfl⟩) ?_
    refine RL.fin ?_
    refine RA.next ?_
    refine RA.relist 10 #[true, true, true, false, true, false, false, false, false, false, false, false, false, false] rfl (by kernel_rfl) ?_
    exact fun a w st => h180 () a w (St.cut [0, 1, 2, 3, 4] ⟨rfl, rfl, rfl, rfl, rfl, trivial⟩ (by decide) rfl st)
   refine RL.fadr (off := 0) (fo := 1) 3 Tryz_fld61_1 rfl rfl rfl PtOf.obox (Or.inr ⟨rfl, rfl⟩) ?_
   refine RL.fin ?_
   refine RA.next ?_
   refine RA.relist 10 #[true, true, true, false, false, false, false, false, true, false, false, false, false, false] rfl (by kernel_rfl) ?_
   exact fun a w st => h179 () a w (St.cut [0, 1, 2, 3, 4] ⟨rfl, rfl, rfl, rfl, rfl, trivial⟩ (by decide) rfl st)
  refine RA.meet (ι := Unit) (fun (p : Unit) => [(0, v0), (3, v4), (5, v12), (23, v0), (32, .int .i64 x1.2.1)]) (fun (p : Unit) => [obox 78 TrH v0 (x0.1, (x0.2.1, u0a)), obox 95 (TR.pair TR.str TR.int) u0a x0.2.2, keep X, obox 61 TrE v4 x1, own 30 TrA v12 y10.1]) 11 #[true, false, false, false, false, false, false, false, true, true, false, false, false, false] (fun h192 => ?_) ?_
  rotate_left
  ·rintro ⟨⟩
   refine RA.weak (env' := [(0, v0), (3, v4), (5, v12), (23, v0), (32, .int .i64 x1.2.1)]) (L' := [obox 78 TrH v0 (x0.1, (x0.2.1, u0a)), obox 95 (TR.pair TR.str TR.int) u0a x0.2.2, keep X, obox 61 TrE v4 x1, own 30 TrA v12 y10.1]) (fun _ _ st => st) ?_
   refine RA.many [1, 4, 10] (by kernel_rfl) ⟨⟨_, rfl, ?_⟩, ⟨_, rfl, ?_⟩, ⟨_, rfl, ?_⟩, trivial⟩
   ·skip
    refine RL.nilk 0 rfl rfl rfl rfl PtOf.obox ?_
    refine RL.fin ?_
    refine RA.next ?_
    refine RA.relist 10 #[true, true, false, false, false, false, false, false, true, true, false, false, false, false] rfl (by kernel_rfl) ?_
    exact fun a w st => h181 () a w (St.cut [0, 1, 2, 3, 4] ⟨rfl, rfl, rfl, rfl, rfl, trivial⟩ (by decide) rfl st)
   ·skip
    refine RL.fadr (off := 0) (fo := 2) 3 Tryz_fld61_2 rfl rfl rfl PtOf.obox (Or.inr ⟨rfl, rfl⟩) ?_
    refine RL.fin ?_
    refine RA.next ?_
    refine RA.relist 10 #[true, false, false, false, true, false, false, false, true, true, false, false, false, false] rfl (by kernel_rfl) ?_
    exact fun a w st => h183 () a w (St.cut [0, 1, 2, 4, 3] ⟨rfl, rfl, rfl, rfl, rfl, trivial⟩ (by decide) rfl st)
   refine RL.callV (v := .string ⟨(y111 : List UInt8).toArray⟩) (vs := [.int .i64 x1.2.1]) Tryz_fit58 rfl (Or.inl rfl) rfl rfl rfl rfl (fun U w hU hW hL => strconv_Itoa_c U w hU (hT.mono hW) x1.2.1 _ e112) ?_
   refine RL.fin ?_
   refine RA.next ?_
   refine RA.relist 10 #[true, false, false, false, false, false, false, false, true, true, true, false, false, false] rfl (by kernel_rfl) ?_
   exact fun a w st => h182 () a w (St.cut [0, 1, 2, 3, 4] ⟨rfl, rfl, rfl, rfl, rfl, trivial⟩ (by decide) rfl st)
  refine RA.meet (ι := Unit) (fun (p : Unit) => [(0, v0), (3, v4), (5, v12), (24, v0), (27, adr v4 (0 + 2))]) (fun (p : Unit) => [obox 78 TrH v0 (x0.1, (x0.2.1, u0a)), obox 95 (TR.pair TR.str TR.int) u0a x0.2.2, keep X, obox 61 TrE v4 x1, own 30 TrA v12 y10.1]) 11 #[true, true, false, false, true, false, false, false, false, false, false, false, false, false] (fun h193 => ?_) ?_
  rotate_left
  ·rintro ⟨⟩
   refine RA.weak (env' := [(0, v0), (3, v4), (5, v12), (24, v0), (27, adr v4 (0 + 2))]) (L' := [obox 78 TrH v0 (x0.1, (x0.2.1, u0a)), obox 95 (TR.pair TR.str TR.int) u0a x0.2.2, keep X, obox 61 TrE v4 x1, own 30 TrA v12 y10.1]) (fun _ _ st => st) ?_
   refine RA.many [2, 5, 8] (by kernel_rfl) ⟨⟨_, rfl, ?_⟩, ⟨_, rfl, ?_⟩, ⟨_, rfl, ?_⟩, trivial⟩
   ·skip
    refine RL.fadr (off := 0) (fo := 2) 0 Tryz_fld78_2 rfl rfl rfl PtOf.obox (Or.inr ⟨rfl, rfl⟩) ?_
    refine RL.fin ?_
    refine RA.next ?_
    refine RA.relist 10 #[true, true, true, false, true, false, false, false, false, false, false, false, false, false] rfl (by kernel_rfl) ?_
    exact fun a w st => h180 () a w (St.cut [0, 1, 2, 3, 4] ⟨rfl, rfl, rfl, rfl, rfl, trivial⟩ (by decide) rfl st)
   ·skip
    refine RL.ldPx (off := (0 + 2)) (e' := x1.2.2.1) 3 Ex.str Tryz_ln9 rfl rfl (Or.inl rfl) rfl PtOf.obox (Part.snd (Part.snd (Part.fst Part.self))) ?_
    refine RL.fin ?_
    refine RA.next ?_
    refine RA.relist 10 #[true, true, false, false, true, true, false, false, false, false, false, false, false, false] rfl (by kernel_rfl) ?_
    exact fun a w st => h185 () a w (St.cut [0, 1, 2, 3, 4] ⟨rfl, rfl, rfl, rfl, rfl, trivial⟩ (by decide) rfl st)
   refine RL.fadr (off := 0) (fo := 1) 3 Tryz_fld61_1 rfl rfl rfl PtOf.obox (Or.inr ⟨rfl, rfl⟩) ?_
   refine RL.fin ?_
   refine RA.next ?_
   refine RA.relist 10 #[true, true, false, false, true, false, false, false, true, false, false, false, false, false] rfl (by kernel_rfl) ?_
   exact fun a w st => h187 () a w (St.cut [0, 1, 2, 4, 3] ⟨rfl, rfl, rfl, rfl, rfl, trivial⟩ (by decide) rfl st)
  refine RA.meet (ι := Unit) (fun (p : Unit) => [(0, v0), (3, v4), (5, v12), (24, v0), (31, adr v4 (0 + 1))]) (fun (p : Unit) => [obox 78 TrH v0 (x0.1, (x0.2.1, u0a)), obox 95 (TR.pair TR.str TR.int) u0a x0.2.2, keep X, obox 61 TrE v4 x1, own 30 TrA v12 y10.1]) 11 #[true, true, false, false, false, false, false, false, true, false, false, false, false, false] (fun h194 => ?_) ?_
  rotate_left
  ·rintro ⟨⟩
   refine RA.weak (env' := [(0, v0), (3, v4), (5, v12), (24, v0), (31, adr v4 (0 + 1))]) (L' := [obox 78 TrH v0 (x0.1, (x0.2.1, u0a)), obox 95 (TR.pair TR.str TR.int) u0a x0.2.2, keep X, obox 61 TrE v4 x1, own 30 TrA v12 y10.1]) (fun _ _ st => st) ?_
   refine RA.many [2, 4, 9] (by kernel_rfl) ⟨⟨_, rfl, ?_⟩, ⟨_, rfl, ?_⟩, ⟨_, rfl, ?_⟩, trivial⟩
   ·skip
    refine RL.fadr (off := 0) (fo := 2) 0 Tryz_fld78_2 rfl rfl rfl PtOf.obox (Or.inr ⟨rfl, rfl⟩) ?_
    refine RL.fin ?_
    refine RA.next ?_
    refine RA.relist 10 #[true, true, true, false, false, false, false, false, true, false, false, false, false, false] rfl (by kernel_rfl) ?_
    exact fun a w st => h179 () a w (St.cut [0, 1, 2, 3, 4] ⟨rfl, rfl, rfl, rfl, rfl, trivial⟩ (by decide) rfl st)
   ·skip
    refine RL.fadr (off := 0) (fo := 2) 3 Tryz_fld61_2 rfl rfl rfl PtOf.obox (Or.inr ⟨rfl, rfl⟩) ?_
    refine RL.fin ?_
    refine RA.next ?_
    refine RA.relist 10 #[true, true, false, false, true, false, false, false, true, false, false, false, false, false] rfl (by kernel_rfl) ?_
    exact fun a w st => h187 () a w (St.cut [0, 1, 2, 4, 3] ⟨rfl, rfl, rfl, rfl, rfl, trivial⟩ (by decide) rfl st)
   refine RL.ldPx (off := (0 + 1)) (e' := x1.2.1) 3 Ex.ik Tryz_ln3 rfl rfl (Or.inl rfl) rfl PtOf.obox (Part.snd (Part.fst Part.self)) ?_
   refine RL.fin ?_
   refine RA.next ?_
   refine RA.relist 10 #[true, true, false, false, false, false, false, false, true, true, false, false, false, false] rfl (by kernel_rfl) ?_
   exact fun a w st => h181 () a w (St.cut [0, 1, 2, 3, 4] ⟨rfl, rfl, rfl, rfl, rfl, trivial⟩ (by decide) rfl st)
  refine RA.meet (ι := Unit) (fun (p : Unit) => [(0, v0), (3, v4), (5, v12), (24, v0)]) (fun (p : Unit) => [obox 78 TrH v0 (x0.1, (x0.2.1, u0a)), obox 95 (TR.pair TR.str TR.int) u0a x0.2.2, keep X, obox 61 TrE v4 x1, own 30 TrA v12 y10.1]) 12 #[true, true, false, false, false, false, false, false, false, false, false, false, false, false] (fun h195 => ?_) ?_
  rotate_left
  ·rintro ⟨⟩
   refine RA.weak (env' := [(0, v0), (3, v4), (5, v12), (24, v0)]) (L' := [obox 78 TrH v0 (x0.1, (x0.2.1, u0a)), obox 95 (TR.pair TR.str TR.int) u0a x0.2.2, keep X, obox 61 TrE v4 x1, own 30 TrA v12 y10.1]) (fun _ _ st => st) ?_
   refine RA.many [2, 4, 8] (by kernel_rfl) ⟨⟨_, rfl, ?_⟩, ⟨_, rfl, ?_⟩, ⟨_, rfl, ?_⟩, trivial⟩
   ·skip
    refine RL.fadr (off := 0) (fo := 2) 0 Tryz_fld78_2 rfl rfl rfl PtOf.obox (Or.inr ⟨rfl, rfl⟩) ?_
    refine RL.fin ?_
    refine RA.next ?_
    refine RA.relist 11 #[true, true, true, false, false, false, false, false, false, false, false, false, false, false] rfl (by kernel_rfl) ?_
    exact fun a w st => h191 () a w (St.cut [0, 1, 2, 3, 4] ⟨rfl, rfl, rfl, rfl, trivial⟩ (by decide) rfl st)
   ·skip
    refine RL.fadr (off := 0) (fo := 2) 3 Tryz_fld61_2 rfl rfl rfl PtOf.obox (Or.inr ⟨rfl, rfl⟩) ?_
    refine RL.fin ?_
    refine RA.next ?_
    refine RA.relist 11 #[true, true, false, false, true, false, false, false, false, false, false, false, false, false] rfl (by kernel_rfl) ?_
    exact fun a w st => h193 () a w (St.cut [0, 1, 2, 3, 4] ⟨rfl, rfl, rfl, rfl, rfl, trivial⟩ (by decide) rfl st)
   refine RL.fadr (off := 0) (fo := 1) 3 Tryz_fld61_1 rfl rfl rfl PtOf.obox (Or.inr ⟨rfl, rfl⟩) ?_
   refine RL.fin ?_
   refine RA.next ?_
   refine RA.relist 11 #[true, true, false, false, false, false, false, false, true, false, false, false, false, false] rfl (by kernel_rfl) ?_
   exact fun a w st => h194 () a w (St.cut [0, 1, 2, 3, 4] ⟨rfl, rfl, rfl, rfl, rfl, trivial⟩ (by decide) rfl st)
  refine RA.meet (ι := Unit) (fun (p : Unit) => [(0, v0), (3, v4), (5, v12), (23, v0), (27, adr v4 (0 + 2))]) (fun (p : Unit) => [obox 78 TrH v0 (x0.1, (x0.2.1, u0a)), obox 95 (TR.pair TR.str TR.int) u0a x0.2.2, keep X, obox 61 TrE v4 x1, own 30 TrA v12 y10.1]) 12 #[true, false, false, false, true, false, false, false, false, false, false, false, false, false] (fun h196 => ?_) ?_
  rotate_left
  ·rintro ⟨⟩
   refine RA.weak (env' := [(0, v0), (3, v4), (5, v12), (23, v0), (27, adr v4 (0 + 2))]) (L' := [obox 78 TrH v0 (x0.1, (x0.2.1, u0a)), obox 95 (TR.pair TR.str TR.int) u0a x0.2.2, keep X, obox 61 TrE v4 x1, own 30 TrA v12 y10.1]) (fun _ _ st => st) ?_
   refine RA.many [1, 5, 8] (by kernel_rfl) ⟨⟨_, rfl, ?_⟩, ⟨_, rfl, ?_⟩, ⟨_, rfl, ?_⟩, trivial⟩
   ·skip
    refine RL.nilk 0 rfl rfl rfl rfl PtOf.obox ?_
    refine RL.fin ?_
    refine RA.next ?_
    refine RA.relist 11 #[true, true, false, false, true, false, false, false, false, false, false, false, false, false] rfl (by kernel_rfl) ?_
    exact fun a w st => h193 () a w (St.cut [0, 1, 2, 3, 4] ⟨rfl, rfl, rfl, rfl, rfl, trivial⟩ (by decide) rfl st)
   ·skip
    refine RL.ldPx (off := (0 + 2)) (e' := x1.2.2.1) 3 Ex.str Tryz_ln9 rfl rfl (Or.inl rfl) rfl PtOf.obox (Part.snd (Part.snd (Part.fst Part.self))) ?_
    refine RL.fin ?_
    refine RA.next ?_
    refine RA.relist 11 #[true, false, false, false, true, true, false, false, false, false, false, false, false, false] rfl (by kernel_rfl) ?_
    exact fun a w st => h190 () a w (St.cut [0, 1, 2, 3, 4] ⟨rfl, rfl, rfl, rfl, rfl, trivial⟩ (by decide) rfl st)
   refine RL.fadr (off := 0) (fo := 1) 3 Tryz_fld61_1 rfl rfl rfl PtOf.obox (Or.inr ⟨rfl, rfl⟩) ?_
   refine RL.fin ?_
   refine RA.next ?_
   refine RA.relist 11 #[true, false, false, false, true, false, false, false, true, false, false, false, false, false] rfl (by kernel_rfl) ?_
   exact fun a w st => h189 () a w (St.cut [0, 1, 2, 4, 3] ⟨rfl, rfl, rfl, rfl, rfl, trivial⟩ (by decide) rfl st)
  refine RA.meet (ι := Unit) (fun (p : Unit) => [(0, v0), (3, v4), (5, v12), (23, v0), (31, adr v4 (0 + 1))]) (fun (p : Unit) => [obox 78 TrH v0 (x0.1, (x0.2.1, u0a)), obox 95 (TR.pair TR.str TR.int) u0a x0.2.2, keep X, obox 61 TrE v4 x1, own 30 TrA v12 y10.1]) 12 #[true, false, false, false, false, false, false, false, true, false, false, false, false, false] (fun h197 => ?_) ?_
  rotate_left
  ·rintro ⟨⟩
   refine RA.weak (env' := [(0, v0), (3, v4), (5, v12), (23, v0), (31, adr v4 (0 + 1))]) (L' := [obox 78 TrH v0 (x0.1, (x0.2.1, u0a)), obox 95 (TR.pair TR.str TR.int) u0a x0.2.2, keep X, obox 61 TrE v4 x1, own 30 TrA v12 y10.1]) (fun _ _ st => st) ?_
   refine RA.many [1, 4, 9] (by kernel_rfl) ⟨⟨_, rfl, ?_⟩, ⟨_, rfl, ?_⟩, ⟨_, rfl, ?_⟩, trivial⟩
   ·skip
    refine RL.nilk 0 rfl rfl rfl rfl PtOf.obox ?_
    refine RL.fin ?_
    refine RA.next ?_
    refine RA.relist 11 #[true, true, false, false, false, false, false, false, true, false, false, false, false, false] rfl (by kernel_rfl) ?_
    exact fun a w st => h194 () a w (St.cut [0, 1, 2, 3, 4] ⟨rfl, rfl, rfl, rfl, rfl, trivial⟩ (by decide) rfl st)
   ·skip
    refine RL.fadr (off := 0) (fo := 2) 3 Tryz_fld61_2 rfl rfl rfl PtOf.obox (Or.inr ⟨rfl, rfl⟩) ?_
    refine RL.fin ?_
    refine RA.next ?_
    refine RA.relist 11 #[true, false, false, false, true, false, false, false, true, false, false, false, false, false] rfl (by kernel_rfl) ?_
    exact fun a w st => h189 () a w (St.cut [0, 1, 2, 4, 3] ⟨rfl, rfl, rfl, rfl, rfl, trivial⟩ (by decide) rfl st)
   refine RL.ldPx (off := (0 + 1)) (e' := x1.2.1) 3 Ex.ik Tryz_ln3 rfl rfl (Or.inl rfl) rfl PtOf.obox (Part.snd (Part.fst Part.self)) ?_
   refine RL.fin ?_
   refine RA.next ?_
   refine RA.relist 11 #[true, false, false, false, false, false, false, false, true, true, false, false, false, false] rfl (by kernel_rfl) ?_
   exact fun a w st => h192 () a w (St.cut [0, 1, 2, 3, 4] ⟨rfl, rfl, rfl, rfl, rfl, trivial⟩ (by decide) rfl st)
  refine RA.many [1, 4, 8] (by kernel_rfl) ⟨⟨_, rfl, ?_⟩, ⟨_, rfl, ?_⟩, ⟨_, rfl, ?_⟩, trivial⟩
  ·skip
   refine RL.nilk 0 rfl rfl rfl rfl PtOf.obox ?_
   refine RL.fin ?_
   refine RA.next ?_
   refine RA.relist 12 #[true, true, false, false, false, false, false, false, false, false, false, false, false, false] rfl (by kernel_rfl) ?_
   exact fun a w st => h195 () a w (St.cut [0, 1, 2, 3, 4] ⟨rfl, rfl, rfl, rfl, trivial⟩ (by decide) rfl st)
  ·skip
   refine RL.fadr (off := 0) (fo := 2) 3 Tryz_fld61_2 rfl rfl rfl PtOf.obox (Or.inr ⟨rfl, rfl⟩) ?_
   refine RL.fin ?_
   refine RA.next ?_
   refine RA.relist 12 #[true, false, false, false, true, false, false, false, false, false, false, false, false, false] rfl (by kernel_rfl) ?_
   exact fun a w st => h196 () a w (St.cut [0, 1, 2, 3, 4] ⟨rfl, rfl, rfl, rfl, rfl, trivial⟩ (by decide) rfl st)
  refine RL.fadr (off := 0) (fo := 1) 3 Tryz_fld61_1 rfl rfl rfl PtOf.obox (Or.inr ⟨rfl, rfl⟩) ?_
  refine RL.fin ?_
  refine RA.next ?_
  refine RA.relist 12 #[true, false, false, false, false, false, false, false, true, false, false, false, false, false] rfl (by kernel_rfl) ?_
  exact fun a w st => h197 () a w (St.cut [0, 1, 2, 3, 4] ⟨rfl, rfl, rfl, rfl, rfl, trivial⟩ (by decide) rfl st)
 rintro ⟨⟩
 refine RA.weak (env' := [(0, v0), (5, v12), (26, u0a), (34, .string ⟨(((([111, 32] : List UInt8) ++ x1.2.2.1) ++ ([32] : List UInt8)) ++ y111 : List UInt8).toArray⟩)]) (L' := [obox 78 TrH v0 (x0.1, (x0.2.1, u0a)), obox 95 (TR.pair TR.str TR.int) u0a x0.2.2, keep X, own 30 TrA v12 y10.1]) (fun _ _ st => st) ?_
 refine RA.seq 12 rfl (by kernel_rfl) ?_
 obtain ⟨y198, e199, hm⟩ := bind_some hm
 refine RL.callK (vs := [u0a, .string ⟨(((([111, 32] : List UInt8) ++ x1.2.2.1) ++ ([32] : List UInt8)) ++ y111 : List UInt8).toArray⟩]) (V := fun (o : Unit) => .int .i64 y198.1) (LR := fun (o : Unit) => [obox 95 (TR.pair TR.str TR.int) u0a y198.2]) (Ls := [obox 95 (TR.pair TR.str TR.int) u0a x0.2.2]) [1] (by decide) Tryz_fit57 rfl rfl rfl rfl rfl rfl (fun S f X w hO hB hW hI hL => log_Log_Append_c _ S X f w _ _  hO hB hI (((([111, 32] : List UInt8) ++ x1.2.2.1) ++ ([32] : List UInt8)) ++ y111) _ e199) ?_
 intro _
 refine RL.fin ?_
 refine RA.next ?_
 refine RA.quiet 13 rfl rfl (by kernel_rfl) ?_
 simp only [List.drop_succ_cons, List.drop_zero]
 refine RL.asg rfl rfl rfl ?_
 refine RL.reL (L' := [obox 78 TrH v0 (x0.1, (x0.2.1, u0a)), gone, keep X, own 30 TrA v12 y10.1, obox 95 (TR.pair TR.str TR.int) u0a y198.2]) rfl ?_
 refine RL.finQ ?_
 refine RA.outQ ?_
 refine GL.weak (env' := [(0, v0), (5, v12), (7, .int .i64 y198.1)]) (L' := [obox 78 TrH v0 (x0.1, (x0.2.1, u0a)), keep X, obox 95 (TR.pair TR.str TR.int) u0a y198.2, own 30 TrA v12 y10.1]) (fun a w st => St.cut [0, 2, 4, 3] ⟨rfl, rfl, rfl, trivial⟩ (by decide) rfl st) ?_
 refine GL.seq ?_
 refine GL.region ?_
 refine RL.mv rfl rfl rfl ?_
 refine RL.binI (v := .bool (y198.1 != (0 : Int))) rfl rfl rfl rfl rfl ?_
 refine RL.finG ?_
 refine GL.cond rfl (fun b200 => ?_) (fun b200 => ?_)
 ·replace hm := ite_t b200 hm
  refine GL.seq ?_
  refine GL.region ?_
  refine RL.mv rfl rfl rfl ?_
  refine RL.asg rfl rfl rfl ?_
  refine RL.finG ?_
  have hm := Option.some.inj hm
  subst hm
  exact GL.ret (Gx.ret (v := .int .i64 y198.1) (res1 rfl rfl) (fun a w st => (st.pick [0, 2, 1] (by decide) rfl).toPostM (V := fun (o : Unit) => .int .i64 ((y198.1, (x0.1, (x0.2.1, y198.2))).1)) (LR := fun (o : Unit) => [obox 78 TrH v0 (((y198.1, (x0.1, (x0.2.1, y198.2))).2).1, (((y198.1, (x0.1, (x0.2.1, y198.2))).2).2.1, u0a)), obox 95 (TR.pair TR.str TR.int) u0a (((y198.1, (x0.1, (x0.2.1, y198.2))).2).2.2), keep X]) ()))
 replace hm := ite_f b200 hm
 refine GL.skip ?_
 refine GL.seq ?_
 refine GL.region ?_
 refine RL.mv rfl rfl rfl ?_
 refine RL.mv rfl rfl rfl ?_
 refine RL.nilk 0 rfl rfl rfl rfl PtOf.obox ?_
 refine RL.fadr (off := 0) (fo := 0) 0 Tryz_fld78_0 rfl rfl rfl PtOf.obox (Or.inr ⟨rfl, rfl⟩) ?_
 refine RL.weak (fun a w st => st.freeze 3 rfl) ?_
 refine RL.stP (off := (0 + 0)) (e' := y10.1) (d1 := ((y10.1, x0.2).1, ((y10.1, x0.2).2.1, u0a))) (r := (TR.sl TrA)) 0 Tryz_ln22 rfl rfl (Or.inl rfl) rfl (VR.item 3 rfl) rfl (Upd.fst Upd.self) ?_
 refine RL.reL (L' := [obox 78 TrH v0 ((y10.1, x0.2).1, ((y10.1, x0.2).2.1, u0a)), keep X, obox 95 (TR.pair TR.str TR.int) u0a y198.2, imm (TR.sl TrA) v12 y10.1]) rfl ?_
 refine RL.finG ?_
 refine GL.seq ?_
 refine GL.region ?_
 refine RL.asg rfl rfl rfl ?_
 refine RL.finG ?_
 have hm := Option.some.inj hm
 subst hm
 exact GL.ret (Gx.ret (v := .int .i64 (0 : Int)) (res1 rfl rfl) (fun a w st => (st.pick [0, 2, 1] (by decide) rfl).toPostM (V := fun (o : Unit) => .int .i64 (((0 : Int), (y10.1, (x0.2.1, y198.2))).1)) (LR := fun (o : Unit) => [obox 78 TrH v0 ((((0 : Int), (y10.1, (x0.2.1, y198.2))).2).1, ((((0 : Int), (y10.1, (x0.2.1, y198.2))).2).2.1, u0a)), obox 95 (TR.pair TR.str TR.int) u0a ((((0 : Int), (y10.1, (x0.2.1, y198.2))).2).2.2), keep X]) ()))

set_option maxHeartbeats 4000000 in
theorem house_House_find_1_c (S : Hp) (w : World) (hS : S.sub w) (v0 : Value) (x0 : ((List UInt8) × (Int × Int))) (k0 : (TrA).vrep S v0 x0) (v1 : Value) (x1 : (List UInt8)) (k1 : ((TR.ptr TR.str)).vrep S v1 x1) (res : Bool) (hm : house_House_find_1_m x0 x1 = some res) : Calls Tryz.prog 65 #[v0, v1] w (PostV w (.bool res)) := by
 refine calls_enter 8 Tryz.func65 Tryz.ntmps65 rfl S false [(0, v0), (1, v1)] [imm TrA v0 x0, imm (TR.ptr TR.str) v1 x1] rfl ⟨rfl, ⟨rfl, trivial⟩⟩ hS ⟨k0, ⟨k1, trivial⟩⟩ ?_
 unfold house_House_find_1_m at hm
 refine GL.seq ?_
 refine GL.region ?_
 refine RL.box (t := TrA) (e := x0) rfl rfl rfl rfl (VR.item 0 rfl) ?_
 intro v4
 refine RL.asg rfl rfl rfl ?_
 refine RL.finG ?_
 refine GL.seq ?_
 refine GL.region ?_
 refine RL.fadr (off := 0) (fo := 0) 2 Tryz_fld30_0 rfl rfl rfl PtOf.obox (Or.inr ⟨rfl, rfl⟩) ?_
 refine RL.ldPx (off := (0 + 0)) (e' := x0.1) 2 Ex.str Tryz_ln9 rfl rfl (Or.inl rfl) rfl PtOf.obox (Part.fst Part.self) ?_
 refine RL.ldPx (off := 0) (e' := x1) 1 Ex.str Tryz_ln9 rfl rfl (Or.inr ⟨rfl, rfl⟩) rfl PtOf.imm Part.self ?_
 refine RL.binS (v := .bool (x0.1 == x1)) rfl rfl rfl rfl rfl ?_
 refine RL.asg rfl rfl rfl ?_
 refine RL.finG ?_
 have hm := Option.some.inj hm
 subst hm
 exact GL.ret (Gx.ret (v := .bool (x0.1 == x1)) (res1 rfl rfl) (fun a w st => st.toPostV))

set_option maxHeartbeats 4000000 in
theorem house_House_find_c (S : Hp) (w : World) (hS : S.sub w) (v0 : Value) (x0 : ((List ((List UInt8) × (Int × Int))) × ((List ((List UInt8) × ((List UInt8) × (Int × (Int × (Int × Int)))))) × ((List UInt8) × Int)))) (k0 : ((TR.ptr (TR.pair (TR.sl TrA) (TR.pair (TR.sl TrD) (TR.ptr (TR.pair TR.str TR.int)))))).vrep S v0 x0) (x1 : (List UInt8)) (res : Int) (hm : house_House_find_m x0 x1 = some res) : Calls Tryz.prog 48 #[v0, .string ⟨(x1 : List UInt8).toArray⟩] w (PostV w (.int .i64 res)) := by
 refine calls_enter 11 Tryz.func48 Tryz.ntmps48 rfl S false [(0, v0), (1, .string ⟨(x1 : List UInt8).toArray⟩)] [imm (TR.ptr (TR.pair (TR.sl TrA) (TR.pair (TR.sl TrD) (TR.ptr (TR.pair TR.str TR.int))))) v0 x0] rfl ⟨rfl, ⟨rfl, trivial⟩⟩ hS ⟨k0, trivial⟩ ?_
 unfold house_House_find_m at hm
 refine GL.seq ?_
 refine GL.region ?_
 refine RL.box (t := TR.str) (e := x1) rfl rfl rfl rfl VR.str ?_
 intro v4
 refine RL.asg rfl rfl rfl ?_
 refine RL.finG ?_
 refine GL.seq ?_
 refine GL.region ?_
 refine RL.mv rfl rfl rfl ?_
 refine RL.nilk 0 rfl rfl rfl rfl PtOf.imm ?_
 refine RL.fadr (off := 0) (fo := 0) 0 Tryz_fld78_0 rfl rfl rfl PtOf.imm (Or.inr ⟨rfl, rfl⟩) ?_
 refine RL.ldP (off := (0 + 0)) (r := (TR.sl TrA)) (e' := x0.1) 0 Tryz_ln22 rfl rfl (Or.inl rfl) rfl PtOf.imm (Part.fst Part.self) ?_
 intro v8
 refine RL.reL (L' := [imm (TR.ptr (TR.pair (TR.sl TrA) (TR.pair (TR.sl TrD) (TR.ptr (TR.pair TR.str TR.int))))) v0 x0, obox 9 TR.str v4 x1, imm (TR.sl TrA) v8 x0.1]) rfl ?_
 refine RL.mkF (vs := [v4]) rfl rfl rfl ?_
 obtain ⟨y9, e10, hm⟩ := bind_some hm
 refine RL.callV (v := .int .i64 y9) (vs := [v8, .func (.func 65) #[] #[v4]]) Tryz_fit50 rfl (Or.inl rfl) rfl rfl rfl rfl (fun U w hU hW hL => slices_IndexFunc_api_Account_api_Account_c U w hU _ _ (hL 2 _ _ rfl Seen.imm) 65 #[v4] Tryz_fit65 (fun a0 => house_House_find_1_m a0 x1) (fun U' w' hle hU' u0 a0 q0 rr hr => (house_House_find_1_c U' w' hU' u0 a0 q0 _ _ (TR.vrep_mono hle (hL 1 _ _ rfl Seen.obox)) rr hr).mono (fun _ _ z => z)) _ e10) ?_
 refine RL.asg rfl rfl rfl ?_
 refine RL.finG ?_
 have hm := Option.some.inj hm
 subst hm
 exact GL.ret (Gx.ret (v := .int .i64 y9) (res1 rfl rfl) (fun a w st => st.toPostV))

set_option maxHeartbeats 4000000 in
theorem log_Log_Size_c (S : Hp) (w : World) (hS : S.sub w) (v0 : Value) (x0 : ((List UInt8) × Int)) (k0 : ((TR.ptr (TR.pair TR.str TR.int))).vrep S v0 x0) (res : Int × Int) (hm : log_Log_Size_m x0 = some res) : Calls Tryz.prog 59 #[v0] w (PostV w (.tuple #[.int .i64 res.1, .int .i64 res.2])) := by
 refine calls_enter 13 Tryz.func59 Tryz.ntmps59 rfl S false [(0, v0)] [imm (TR.ptr (TR.pair TR.str TR.int)) v0 x0] rfl ⟨rfl, trivial⟩ hS ⟨k0, trivial⟩ ?_
 unfold log_Log_Size_m at hm
 refine GL.seq ?_
 refine GL.region ?_
 refine RL.asg rfl rfl rfl ?_
 refine RL.asg rfl rfl rfl ?_
 refine RL.finG ?_
 refine GL.seq ?_
 refine GL.regionQ rfl rfl (by kernel_rfl) ?_
 refine RL.mv rfl rfl rfl ?_
 refine RL.nilk 0 rfl rfl rfl rfl PtOf.imm ?_
 refine RL.fadr (off := 0) (fo := 0) 0 Tryz_fld95_0 rfl rfl rfl PtOf.imm (Or.inr ⟨rfl, rfl⟩) ?_
 refine RL.ldPx (off := (0 + 0)) (e' := x0.1) 0 Ex.str Tryz_ln9 rfl rfl (Or.inl rfl) rfl PtOf.imm (Part.fst Part.self) ?_
 refine RL.lenT Tryz.underlying9 rfl rfl rfl ?_
 refine RL.mv rfl rfl rfl ?_
 refine RL.nilk 0 rfl rfl rfl rfl PtOf.imm ?_
 refine RL.fadr (off := 0) (fo := 1) 0 Tryz_fld95_1 rfl rfl rfl PtOf.imm (Or.inr ⟨rfl, rfl⟩) ?_
 refine RL.ldPx (off := (0 + 1)) (e' := x0.2) 0 Ex.ik Tryz_ln3 rfl rfl (Or.inl rfl) rfl PtOf.imm (Part.snd Part.self) ?_
 refine RL.asg rfl rfl rfl ?_
 refine RL.asg rfl rfl rfl ?_
 refine RL.finQG ?_
 have hm := Option.some.inj hm
 subst hm
 exact GL.ret (Gx.ret (v := .tuple #[.int .i64 ((x0.1).length : Int), .int .i64 x0.2]) (res2 rfl rfl rfl) (fun a w st => st.toPostV))

set_option maxHeartbeats 4000000 in
theorem house_deal_c (S : Hp) (w : World) (hS : S.sub w) (hT : Tab Tryz.prog (Tryz.lays146_ren.g 1) S) (v0 : Value) (x0 : ((List UInt8) × ((List UInt8) × (Int × (Int × (Int × Int)))))) (k0 : (TrD).vrep S v0 x0) (x1 : (List UInt8)) (res : (List UInt8)) (hm : house_deal_m x0 x1 = some res) : Calls Tryz.prog 60 #[v0, .string ⟨(x1 : List UInt8).toArray⟩] w (PostV w (.string ⟨(res : List UInt8).toArray⟩)) := by
 refine calls_enter 39 Tryz.func60 Tryz.ntmps60 rfl S false [(0, v0), (1, .string ⟨(x1 : List UInt8).toArray⟩)] [imm TrD v0 x0] rfl ⟨rfl, ⟨rfl, trivial⟩⟩ hS ⟨k0, trivial⟩ ?_
 unfold house_deal_m at hm
 refine GL.seq ?_
 refine GL.region ?_
 refine RL.box (t := TrD) (e := x0) rfl rfl rfl rfl (VR.item 0 rfl) ?_
 intro v4
 refine RL.asg rfl rfl rfl ?_
 refine RL.finG ?_
 refine GL.seq ?_
 refine GL.region ?_
 refine RL.fadr (off := 0) (fo := 0) 1 Tryz_fld24_0 rfl rfl rfl PtOf.obox (Or.inr ⟨rfl, rfl⟩) ?_
 refine RL.ldPx (off := (0 + 0)) (e' := x0.1) 1 Ex.str Tryz_ln9 rfl rfl (Or.inl rfl) rfl PtOf.obox (Part.fst Part.self) ?_
 obtain ⟨y11, e12, hm⟩ := bind_some hm
 replace e12 := chk_some e12
 refine RL.cat rfl rfl rfl rfl e12 ?_
 obtain ⟨y13, e14, hm⟩ := bind_some hm
 replace e14 := chk_some e14
 refine RL.cat rfl rfl rfl rfl e14 ?_
 refine RL.fadr (off := 0) (fo := 1) 1 Tryz_fld24_1 rfl rfl rfl PtOf.obox (Or.inr ⟨rfl, rfl⟩) ?_
 refine RL.ldPx (off := (0 + 1)) (e' := x0.2.1) 1 Ex.str Tryz_ln9 rfl rfl (Or.inl rfl) rfl PtOf.obox (Part.snd (Part.fst Part.self)) ?_
 obtain ⟨y15, e16, hm⟩ := bind_some hm
 replace e16 := chk_some e16
 refine RL.cat rfl rfl rfl rfl e16 ?_
 refine RL.asg rfl rfl rfl ?_
 refine RL.finG ?_
 refine GL.seq ?_
 refine GL.seq ?_
 refine GL.region ?_
 refine RL.fadr (off := 0) (fo := 2) 1 Tryz_fld24_2 rfl rfl rfl PtOf.obox (Or.inr ⟨rfl, rfl⟩) ?_
 refine RL.ldPx (off := (0 + 2)) (e' := x0.2.2.1) 1 Ex.ik Tryz_ln3 rfl rfl (Or.inl rfl) rfl PtOf.obox (Part.snd (Part.snd (Part.fst Part.self))) ?_
 refine RL.fadr (off := 0) (fo := 3) 1 Tryz_fld24_3 rfl rfl rfl PtOf.obox (Or.inr ⟨rfl, rfl⟩) ?_
 refine RL.ldPx (off := (0 + 3)) (e' := x0.2.2.2.1) 1 Ex.ik Tryz_ln3 rfl rfl (Or.inl rfl) rfl PtOf.obox (Part.snd (Part.snd (Part.snd (Part.fst Part.self)))) ?_
 refine RL.fadr (off := 0) (fo := 4) 1 Tryz_fld24_4 rfl rfl rfl PtOf.obox (Or.inr ⟨rfl, rfl⟩) ?_
 refine RL.ldPx (off := (0 + 4)) (e' := x0.2.2.2.2.1) 1 Ex.ik Tryz_ln3 rfl rfl (Or.inl rfl) rfl PtOf.obox (Part.snd (Part.snd (Part.snd (Part.snd (Part.fst Part.self))))) ?_
 refine RL.fadr (off := 0) (fo := 5) 1 Tryz_fld24_5 rfl rfl rfl PtOf.obox (Or.inr ⟨rfl, rfl⟩) ?_
 refine RL.ldPx (off := (0 + 5)) (e' := x0.2.2.2.2.2) 1 Ex.ik Tryz_ln3 rfl rfl (Or.inl rfl) rfl PtOf.obox (Part.snd (Part.snd (Part.snd (Part.snd (Part.snd Part.self))))) ?_
 refine RL.bS (t := TR.int) (vs := [.int .i64 x0.2.2.1, .int .i64 x0.2.2.2.1, .int .i64 x0.2.2.2.2.1, .int .i64 x0.2.2.2.2.2]) ([x0.2.2.1, x0.2.2.2.1, x0.2.2.2.2.1, x0.2.2.2.2.2] : (List Int)) Tryz.underlying41 Tryz_lo3 rfl rfl rfl rfl ⟨VR.int, ⟨VR.int, ⟨VR.int, ⟨VR.int, trivial⟩⟩⟩⟩ rfl (by decide) ?_
 intro v18
 refine RL.reL (L' := [imm TrD v0 x0, obox 24 TrD v4 x0, own 3 TR.int v18 ([x0.2.2.1, x0.2.2.2.1, x0.2.2.2.2.1, x0.2.2.2.2.2] : (List Int))]) rfl ?_
 refine RL.lenS 2 Tryz.underlying41 rfl rfl rfl rfl SlOf.own ?_
 refine RL.mv rfl rfl rfl ?_
 refine RL.finG ?_
 refine GL.lenOwn 2 rfl (fun n36 => ?_)
 obtain ⟨y37, K38, h39, h40, h41, h42, h43⟩ := bindR_K hm
 refine GL.join (ι := (List UInt8)) (fun (p : (List UInt8)) => [(1, .string ⟨(x1 : List UInt8).toArray⟩), (5, .string ⟨(p : List UInt8).toArray⟩)]) (fun (p : (List UInt8)) => []) (fun (p : (List UInt8)) => K38 (.nx p)) ?_ ?_
 ·refine GL.block ?_
  refine GL.loop (ι := Nat × Nat × (List UInt8)) (fun (p : Nat × Nat × (List UInt8)) => [(1, .string ⟨(x1 : List UInt8).toArray⟩), (5, .string ⟨(p.2.2 : List UInt8).toArray⟩), (23, v18), (24, .int .i64 ((([x0.2.2.1, x0.2.2.2.1, x0.2.2.2.2.1, x0.2.2.2.2.2] : (List Int))).length : Int)), (25, .int .i64 (p.1 : Int))]) (fun (p : Nat × Nat × (List UInt8)) => [own 3 TR.int v18 ([x0.2.2.1, x0.2.2.2.1, x0.2.2.2.2.1, x0.2.2.2.2.2] : (List Int))]) (fun (p : Nat × Nat × (List UInt8)) => p.1 + p.2.1 = (([x0.2.2.1, x0.2.2.2.1, x0.2.2.2.2.1, x0.2.2.2.2.2] : (List Int))).length ∧ rangeN (house_deal_b1 x0) p.2.1 p.1 p.2.2 = some y37) (fun (p : Nat × Nat × (List UInt8)) => p.2.1) (0, (([x0.2.2.1, x0.2.2.2.1, x0.2.2.2.2.1, x0.2.2.2.2.2] : (List Int))).length, ((([100, 32] : List UInt8) ++ x0.1) ++ ([32] : List UInt8)) ++ x0.2.1) ⟨by simp, h39⟩ (fun a w st => St.cut [2] ⟨rfl, rfl, rfl, rfl, rfl, trivial⟩ (by decide) rfl st) ?_
  rintro ⟨i44, r45, x19⟩ ⟨h50, h49⟩
  try dsimp only at h50 h49
  refine GL.weak (env' := [(1, .string ⟨(x1 : List UInt8).toArray⟩), (5, .string ⟨(x19 : List UInt8).toArray⟩), (23, v18), (24, .int .i64 ((([x0.2.2.1, x0.2.2.2.1, x0.2.2.2.2.1, x0.2.2.2.2.2] : (List Int))).length : Int)), (25, .int .i64 (i44 : Int))]) (L' := [own 3 TR.int v18 ([x0.2.2.1, x0.2.2.2.1, x0.2.2.2.2.1, x0.2.2.2.2.2] : (List Int))]) (fun _ _ st => st) ?_
  refine GL.seq ?_
  refine GL.region ?_
  refine RL.binI (v := .bool (decide ((i44 : Int) < ((([x0.2.2.1, x0.2.2.2.1, x0.2.2.2.2.1, x0.2.2.2.2.2] : (List Int))).length : Int)))) rfl rfl rfl rfl rfl ?_
  refine RL.finG ?_
  refine GL.seq ?_
  refine GL.cond rfl (fun b52 => ?_) (fun b52 => ?_)
  ·have h53 : i44 < (([x0.2.2.1, x0.2.2.2.1, x0.2.2.2.2.1, x0.2.2.2.2.2] : (List Int))).length := by have := of_decide_eq_true b52; omega
   obtain ⟨r54, hr⟩ : ∃ m, r45 = m + 1 := ⟨r45 - 1, by omega⟩
   subst hr
   obtain ⟨z46, h47, h48⟩ := rangeN_some h49
   unfold house_deal_b1 at h47
   try dsimp only at h47
   refine GL.skip ?_
   refine GL.seq ?_
   refine GL.block ?_
   refine GL.seq ?_
   refine GL.region ?_
   obtain ⟨y57, e58, h47⟩ := bind_some h47
   refine RL.idxS (sz := 1) 0 Tryz.underlying41 Tryz_ln3 rfl rfl rfl rfl rfl SlOf.own (idx_some e58).1 (idx_some e58).2.1 ?_
   refine RL.ldSx (i := i44) (e' := y57) 0 Ex.ik Tryz_ln3 rfl rfl rfl rfl SlOf.own (idx_some e58).2.2 Part.self ?_
   refine RL.asg rfl rfl rfl ?_
   refine RL.finG ?_
   refine GL.region ?_
   refine RL.mv rfl rfl rfl ?_
   refine RL.mv rfl rfl rfl ?_
   obtain ⟨y65, e66, h47⟩ := bind_some h47
   refine RL.callV (v := .string ⟨(y65 : List UInt8).toArray⟩) (vs := [.int .i64 y57]) Tryz_fit58 rfl (Or.inl rfl) rfl rfl rfl rfl (fun U w hU hW hL => strconv_Itoa_c U w hU (hT.mono hW) y57 _ e66) ?_
   obtain ⟨y67, e68, h47⟩ := bind_some h47
   replace e68 := chk_some e68
   refine RL.cat rfl rfl rfl rfl e68 ?_
   obtain ⟨y69, e70, h47⟩ := bind_some h47
   replace e70 := chk_some e70
   refine RL.cat rfl rfl rfl rfl e70 ?_
   refine RL.asg rfl rfl rfl ?_
   refine RL.finG ?_
   refine GL.nilB ?_
   refine GL.region ?_
   refine RL.binI (v := .int .i64 ((i44 + 1 : Nat) : Int)) rfl rfl rfl rfl (binI_succ i44 (by omega)) ?_
   refine RL.mv rfl rfl rfl ?_
   refine RL.fin ?_
   cases h47
   exact fun a w st => lop_intro (i44 + 1, r54, x19 ++ (([32] : List UInt8) ++ y65)) ⟨by show i44 + 1 + r54 = (([x0.2.2.1, x0.2.2.2.1, x0.2.2.2.2.1, x0.2.2.2.2.2] : (List Int))).length; omega, h48⟩ (by simp) (St.cut [0] ⟨rfl, rfl, rfl, rfl, rfl, trivial⟩ (by decide) rfl st)
  have h53 : ¬ i44 < (([x0.2.2.1, x0.2.2.2.1, x0.2.2.2.2.1, x0.2.2.2.2.2] : (List Int))).length := by have := of_decide_eq_false b52; omega
  obtain rfl : r45 = 0 := by omega
  replace h49 : some (Fl.nx _) = some y37 := h49
  cases h49
  exact GL.exit (fun a w st => mid_intro x19 h40 (St.cut [] ⟨rfl, rfl, trivial⟩ (by decide) rfl st))
 rintro x19 h71
 have h72 := h41 _ h71
 try dsimp only at h72
 refine GL.weak (env' := [(1, .string ⟨(x1 : List UInt8).toArray⟩), (5, .string ⟨(x19 : List UInt8).toArray⟩)]) (L' := []) (fun _ _ st => st) ?_
 refine GL.seq ?_
 refine GL.region ?_
 refine RL.mv rfl rfl rfl ?_
 obtain ⟨y77, e78, h72⟩ := bind_some h72
 replace e78 := chk_some e78
 refine RL.cat rfl rfl rfl rfl e78 ?_
 refine RL.mv rfl rfl rfl ?_
 obtain ⟨y79, e80, h72⟩ := bind_some h72
 replace e80 := chk_some e80
 refine RL.cat rfl rfl rfl rfl e80 ?_
 refine RL.asg rfl rfl rfl ?_
 refine RL.finG ?_
 have h72 := Option.some.inj h72
 subst h72
 exact GL.ret (Gx.ret (v := .string ⟨((x19 ++ ([32] : List UInt8)) ++ x1 : List UInt8).toArray⟩) (res1 rfl rfl) (fun a w st => st.toPostV))

set_option maxHeartbeats 4000000 in
theorem slices_DeleteFunc_api_Deal_api_Deal_c (B : World) (S X : Hp) (f : Nat → Hp) (w : World) (v0 : Value) (x0 : (List ((List UInt8) × ((List UInt8) × (Int × (Int × (Int × Int))))))) (hO : HeapOk B.heap.size S f [own 24 TrD v0 x0, keep X].length w) (hB : Below B.heap.size B w) (hI : Its [own 24 TrD v0 x0, keep X] S f) (f1 : FuncId) (c1 : Array Value) (t1 : Fit Tryz.prog f1) (g1 : ((List UInt8) × ((List UInt8) × (Int × (Int × (Int × Int))))) → Option Bool) (k1 : ∀ (U : Hp) (w' : World), Hp.le S U → U.sub w' → ∀ (u0 : Value) (a0 : ((List UInt8) × ((List UInt8) × (Int × (Int × (Int × Int)))))) (_ : (TrD).vrep U u0 a0) (rr : Bool), g1 a0 = some rr → Calls Tryz.prog f1 (#[u0] ++ c1) w' (PostV w' (.bool rr))) (res : (List ((List UInt8) × ((List UInt8) × (Int × (Int × (Int × Int))))))) (hm : slices_DeleteFunc_api_Deal_api_Deal_m x0 g1 = some res) : Calls Tryz.prog 35 #[v0, .func (.func f1) #[] c1] w (PostM B S (fun (o : Value) => o) (fun (o : Value) => [own 24 TrD o res, keep X])) := by
 refine calls_enterM 42 Tryz.func35 Tryz.ntmps35 rfl B S f [(0, v0), (1, .func (.func f1) #[] c1)] [own 24 TrD v0 x0, keep X] [] rfl ⟨rfl, ⟨rfl, trivial⟩⟩ hB hO hI trivial ?_
 unfold slices_DeleteFunc_api_Deal_api_Deal_m at hm
 refine GL.seq ?_
 refine GL.region ?_
 refine RL.asg rfl rfl rfl ?_
 refine RL.finG ?_
 refine GL.seq ?_
 refine GL.region ?_
 refine RL.mv rfl rfl rfl ?_
 refine RL.mv rfl rfl rfl ?_
 obtain ⟨y5, e6, hm⟩ := bind_some hm
 refine RL.callV (v := .int .i64 y5) (vs := [v0, .func (.func f1) #[] c1]) Tryz_fit54 rfl (Or.inl rfl) rfl rfl rfl rfl (fun U w hU hW hL => slices_IndexFunc_api_Deal_api_Deal_c U w hU _ _ (hL 0 _ _ rfl Seen.own) f1 c1 t1 g1 (fun U' w' hle => k1 U' w' (Hp.le_trans hW hle)) _ e6) ?_
 refine RL.asg rfl rfl rfl ?_
 refine RL.finG ?_
 refine GL.seq ?_
 refine GL.seq ?_
 refine GL.region ?_
 refine RL.mv rfl rfl rfl ?_
 refine RL.binI (v := .bool (y5 == (-1 : Int))) rfl rfl rfl rfl rfl ?_
 refine RL.finG ?_
 refine GL.cond rfl (fun b7 => ?_) (fun b7 => ?_)
 ·replace hm := ite_t b7 hm
  refine GL.seq ?_
  refine GL.region ?_
  refine RL.mv rfl rfl rfl ?_
  refine RL.asg rfl rfl rfl ?_
  refine RL.finG ?_
  have hm := Option.some.inj hm
  subst hm
  exact GL.ret (Gx.ret (v := v0) (res1 rfl rfl) (fun a w st => (st.pick [0, 1] (by decide) rfl).toPostM (V := fun (o : Value) => o) (LR := fun (o : Value) => [own 24 TrD o x0, keep X]) v0))
 replace hm := ite_f b7 hm
 refine GL.skip ?_
 refine GL.seq ?_
 refine GL.seq ?_
 refine GL.region ?_
 refine RL.mv rfl rfl rfl ?_
 refine RL.binI (v := .int .i64 (wadd y5 (1 : Int))) rfl rfl rfl rfl rfl ?_
 refine RL.asg rfl rfl rfl ?_
 refine RL.finG ?_
 obtain ⟨y57, K58, h59, h60, h61, h62, h63⟩ := bindR_K hm
 refine GL.join (ι := (List ((List UInt8) × ((List UInt8) × (Int × (Int × (Int × Int)))))) × Int × Int) (fun (p : (List ((List UInt8) × ((List UInt8) × (Int × (Int × (Int × Int)))))) × Int × Int) => [(0, v0), (5, .int .i64 p.2.1)]) (fun (p : (List ((List UInt8) × ((List UInt8) × (Int × (Int × (Int × Int)))))) × Int × Int) => [own 24 TrD v0 p.1, keep X]) (fun (p : (List ((List UInt8) × ((List UInt8) × (Int × (Int × (Int × Int)))))) × Int × Int) => K58 (.nx (p.1, p.2.1, p.2.2))) ?_ ?_
 ·refine GL.block ?_
  refine GL.loop (ι := Nat × (List ((List UInt8) × ((List UInt8) × (Int × (Int × (Int × Int)))))) × Int × Int) (fun (p : Nat × (List ((List UInt8) × ((List UInt8) × (Int × (Int × (Int × Int)))))) × Int × Int) => [(0, v0), (1, .func (.func f1) #[] c1), (5, .int .i64 p.2.2.1), (6, .int .i64 p.2.2.2)]) (fun (p : Nat × (List ((List UInt8) × ((List UInt8) × (Int × (Int × (Int × Int)))))) × Int × Int) => [own 24 TrD v0 p.2.1, keep X]) (fun (p : Nat × (List ((List UInt8) × ((List UInt8) × (Int × (Int × (Int × Int)))))) × Int × Int) => loopM (slices_DeleteFunc_api_Deal_api_Deal_b1 g1) p.1 (p.2.1, p.2.2.1, p.2.2.2) = some y57) (fun (p : Nat × (List ((List UInt8) × ((List UInt8) × (Int × (Int × (Int × Int)))))) × Int × Int) => p.1) (1048576, x0, y5, wadd y5 (1 : Int)) h59 (fun a w st => St.cut [0, 1] ⟨rfl, rfl, rfl, rfl, trivial⟩ (by decide) rfl st) ?_
  rintro ⟨r66, l32, x33, x34⟩ h70
  try dsimp only at h70
  refine GL.weak (env' := [(0, v0), (1, .func (.func f1) #[] c1), (5, .int .i64 x33), (6, .int .i64 x34)]) (L' := [own 24 TrD v0 l32, keep X]) (fun _ _ st => st) ?_
  obtain ⟨r73, z67, hr, h68, h69⟩ := loopM_some h70
  subst hr
  unfold slices_DeleteFunc_api_Deal_api_Deal_b1 at h68
  try dsimp only at h68
  refine GL.seq ?_
  refine GL.seq ?_
  refine GL.region ?_
  refine RL.mv rfl rfl rfl ?_
  refine RL.mv rfl rfl rfl ?_
  refine RL.lenS 0 Tryz.underlying25 rfl rfl rfl rfl SlOf.own ?_
  refine RL.binI (v := .bool (decide (x34 < ((l32).length : Int)))) rfl rfl rfl rfl rfl ?_
  refine RL.finG ?_
  refine GL.cond rfl (fun b74 => ?_) (fun b74 => ?_)
  ·replace h68 := ite_t b74 h68
   refine GL.skip ?_
   refine GL.seq ?_
   refine GL.block ?_
   refine GL.seq ?_
   refine GL.region ?_
   refine RL.mv rfl rfl rfl ?_
   refine RL.mv rfl rfl rfl ?_
   obtain ⟨y79, e80, h68⟩ := bind_some h68
   refine RL.idxS (sz := 6) 0 Tryz.underlying25 Tryz_ln24 rfl rfl rfl rfl rfl SlOf.own (idx_some e80).1 (idx_some e80).2.1 ?_
   refine RL.ldS (i := (x34).toNat) (r := TrD) (e' := y79) 0 Tryz_ln24 rfl rfl rfl rfl SlOf.own (idx_some e80).2.2 Part.self ?_
   intro v81
   refine RL.alloc (t := TrD) (z := (([] : List UInt8), ([] : List UInt8), (0 : Int), (0 : Int), (0 : Int), (0 : Int))) Tryz_lo24 (fun S => ⟨[.string ⟨#[]⟩], _, rfl, rfl, ⟨[.string ⟨#[]⟩], _, rfl, rfl, ⟨[.int .i64 0], _, rfl, rfl, ⟨[.int .i64 0], _, rfl, rfl, ⟨[.int .i64 0], _, rfl, rfl, rfl⟩⟩⟩⟩⟩) rfl rfl rfl ?_
   intro v82
   refine RL.reL (L' := [own 24 TrD v0 l32, keep X, imm TrD v81 y79, obox 24 TrD v82 (([] : List UInt8), ([] : List UInt8), (0 : Int), (0 : Int), (0 : Int), (0 : Int))]) rfl ?_
   refine RL.stP (off := 0) (e' := y79) (d1 := y79) (r := TrD) 3 Tryz_ln24 rfl rfl (Or.inr ⟨rfl, rfl⟩) rfl (VR.item 2 rfl) rfl Upd.self ?_
   refine RL.finG ?_
   refine GL.seq ?_
   refine GL.region ?_
   refine RL.mv rfl rfl rfl ?_
   refine RL.ldP (off := 0) (r := TrD) (e' := y79) 3 Tryz_ln24 rfl rfl (Or.inr ⟨rfl, rfl⟩) rfl PtOf.obox Part.self ?_
   intro v86
   refine RL.reL (L' := [own 24 TrD v0 l32, keep X, imm TrD v81 y79, obox 24 TrD v82 y79, imm TrD v86 y79]) rfl ?_
   obtain ⟨y87, e88, h68⟩ := bind_some h68
   refine RL.callV (v := .bool y87) (vs := [v86]) t1 rfl (Or.inl rfl) rfl rfl rfl rfl (fun U w hU hW hL => k1 U w hW hU _ _ (hL 4 _ _ rfl Seen.imm) _ e88) ?_
   refine RL.notB rfl rfl rfl ?_
   refine RL.finG ?_
   refine GL.cond rfl (fun b89 => ?_) (fun b89 => ?_)
   ·replace h68 := ite_t b89 h68
    refine GL.seq ?_
    refine GL.region ?_
    refine RL.mv rfl rfl rfl ?_
    refine RL.mv rfl rfl rfl ?_
    refine RL.ldP (off := 0) (r := TrD) (e' := y79) 3 Tryz_ln24 rfl rfl (Or.inr ⟨rfl, rfl⟩) rfl PtOf.obox Part.self ?_
    intro v93
    obtain ⟨y94, e95, h68⟩ := bind_some h68
    refine RL.idxS (sz := 6) 0 Tryz.underlying25 Tryz_ln24 rfl rfl rfl rfl rfl SlOf.own (idx_some e95).1 (idx_some e95).2.1 ?_
    refine RL.stS (i := (x33).toNat) (e' := y79) (e1 := y79) (r := TrD) 0 Tryz_ln24 rfl rfl rfl rfl (VR.item 5 rfl) rfl (idx_some e95).2.2 Upd.self ?_
    refine RL.reL (L' := [own 24 TrD v0 (List.set l32 ((x33).toNat) y79), keep X, imm TrD v81 y79, obox 24 TrD v82 y79, imm TrD v86 y79, imm TrD v93 y79]) rfl ?_
    refine RL.finG ?_
    refine GL.region ?_
    refine RL.mv rfl rfl rfl ?_
    refine RL.binI (v := .int .i64 (wadd x33 (1 : Int))) rfl rfl rfl rfl rfl ?_
    refine RL.asg rfl rfl rfl ?_
    refine RL.finG ?_
    refine GL.nilB ?_
    refine GL.region ?_
    refine RL.mv rfl rfl rfl ?_
    refine RL.binI (v := .int .i64 (wadd x34 (1 : Int))) rfl rfl rfl rfl rfl ?_
    refine RL.asg rfl rfl rfl ?_
    refine RL.finG ?_
    cases h68
    exact fun a w st => lop_intro (r73, (List.set l32 ((x33).toNat) y79), wadd x33 (1 : Int), wadd x34 (1 : Int)) (by exact h69) (by simp) (St.cut [0, 1] ⟨rfl, rfl, rfl, rfl, trivial⟩ (by decide) rfl st)
   replace h68 := ite_f b89 h68
   refine GL.skip ?_
   refine GL.nilB ?_
   refine GL.region ?_
   refine RL.mv rfl rfl rfl ?_
   refine RL.binI (v := .int .i64 (wadd x34 (1 : Int))) rfl rfl rfl rfl rfl ?_
   refine RL.asg rfl rfl rfl ?_
   refine RL.finG ?_
   cases h68
   exact fun a w st => lop_intro (r73, l32, x33, wadd x34 (1 : Int)) (by exact h69) (by simp) (St.cut [0, 1] ⟨rfl, rfl, rfl, rfl, trivial⟩ (by decide) rfl st)
  replace h68 := ite_f b74 h68
  cases h68
  replace h69 : some (Fl.nx _) = some y57 := h69
  cases h69
  exact GL.exit (fun a w st => mid_intro (l32, x33, x34) h60 (St.cut [0, 1] ⟨rfl, rfl, trivial⟩ (by decide) rfl st))
 rintro ⟨l32, x33, x34⟩ h96
 have h97 := h61 _ h96
 try dsimp only at h97
 refine GL.weak (env' := [(0, v0), (5, .int .i64 x33)]) (L' := [own 24 TrD v0 l32, keep X]) (fun _ _ st => st) ?_
 refine GL.seq ?_
 refine GL.region ?_
 refine RL.mv rfl rfl rfl ?_
 refine RL.mv rfl rfl rfl ?_
 obtain ⟨y100, e101, h97⟩ := bind_some h97
 replace e101 := chk_some e101
 refine RL.cutL (t := TrD) (i := (x33).toNat) (kd := .i64) 0 Tryz.underlying25 Tryz_ln24 rfl rfl rfl (by rw [Int.toNat_of_nonneg (by omega)]; rfl) rfl (by omega) ?_
 refine RL.clrL (t := TrD) (i := (x33).toNat) 0 Tryz.underlying25 Tryz_lo24 (by decide) rfl rfl rfl rfl (by omega) ?_
 refine RL.reL (L' := [own 24 TrD (relen v0 ((x33).toNat)) (List.take ((x33).toNat) l32), keep X]) rfl ?_
 refine RL.finG ?_
 refine GL.seq ?_
 refine GL.region ?_
 refine RL.mv rfl rfl rfl ?_
 refine RL.mv rfl rfl rfl ?_
 obtain ⟨y104, e105, h97⟩ := bind_some h97
 replace e105 := chk_some e105
 refine RL.cutP (t := TrD) (i := (x33).toNat) (kd := .i64) 0 Tryz.underlying25 Tryz_ln24 rfl rfl rfl (by rw [Int.toNat_of_nonneg (by omega)]; rfl) rfl (by rw [List.length_take]; omega) ?_
 refine RL.asg rfl rfl rfl ?_
 refine RL.finG ?_
 have h97 := Option.some.inj h97
 subst h97
 exact GL.ret (Gx.ret (v := relen v0 ((x33).toNat)) (res1 rfl rfl) (fun a w st => (st.pick [0, 1] (by decide) rfl).toPostM (V := fun (o : Value) => o) (LR := fun (o : Value) => [own 24 TrD o (List.take ((x33).toNat) l32), keep X]) (relen v0 ((x33).toNat))))

set_option maxHeartbeats 4000000 in
theorem slices_ContainsFunc_api_Account_api_Account_c (S : Hp) (w : World) (hS : S.sub w) (v0 : Value) (x0 : (List ((List UInt8) × (Int × Int)))) (k0 : ((TR.sl TrA)).vrep S v0 x0) (f1 : FuncId) (c1 : Array Value) (t1 : Fit Tryz.prog f1) (g1 : ((List UInt8) × (Int × Int)) → Option Bool) (k1 : ∀ (U : Hp) (w' : World), Hp.le S U → U.sub w' → ∀ (u0 : Value) (a0 : ((List UInt8) × (Int × Int))) (_ : (TrA).vrep U u0 a0) (rr : Bool), g1 a0 = some rr → Calls Tryz.prog f1 (#[u0] ++ c1) w' (PostV w' (.bool rr))) (res : Bool) (hm : slices_ContainsFunc_api_Account_api_Account_m x0 g1 = some res) : Calls Tryz.prog 37 #[v0, .func (.func f1) #[] c1] w (PostV w (.bool res)) := by
 refine calls_enter 9 Tryz.func37 Tryz.ntmps37 rfl S false [(0, v0), (1, .func (.func f1) #[] c1)] [imm (TR.sl TrA) v0 x0] rfl ⟨rfl, ⟨rfl, trivial⟩⟩ hS ⟨k0, trivial⟩ ?_
 unfold slices_ContainsFunc_api_Account_api_Account_m at hm
 refine GL.seq ?_
 refine GL.region ?_
 refine RL.asg rfl rfl rfl ?_
 refine RL.finG ?_
 refine GL.seq ?_
 refine GL.region ?_
 refine RL.mv rfl rfl rfl ?_
 refine RL.mv rfl rfl rfl ?_
 obtain ⟨y5, e6, hm⟩ := bind_some hm
 refine RL.callV (v := .int .i64 y5) (vs := [v0, .func (.func f1) #[] c1]) Tryz_fit50 rfl (Or.inl rfl) rfl rfl rfl rfl (fun U w hU hW hL => slices_IndexFunc_api_Account_api_Account_c U w hU _ _ (hL 0 _ _ rfl Seen.imm) f1 c1 t1 g1 (fun U' w' hle => k1 U' w' (Hp.le_trans hW hle)) _ e6) ?_
 refine RL.binI (v := .bool (decide (y5 ≥ (0 : Int)))) rfl rfl rfl rfl rfl ?_
 refine RL.asg rfl rfl rfl ?_
 refine RL.finG ?_
 have hm := Option.some.inj hm
 subst hm
 exact GL.ret (Gx.ret (v := .bool (decide (y5 ≥ (0 : Int)))) (res1 rfl rfl) (fun a w st => st.toPostV))

set_option maxHeartbeats 4000000 in
theorem queue_Clean_1_1_c (S : Hp) (w : World) (hS : S.sub w) (v0 : Value) (x0 : ((List UInt8) × (Int × Int))) (k0 : (TrA).vrep S v0 x0) (v1 : Value) (x1 : ((List UInt8) × ((List UInt8) × (Int × (Int × (Int × Int)))))) (k1 : ((TR.ptr TrD)).vrep S v1 x1) (res : Bool) (hm : queue_Clean_1_1_m x0 x1 = some res) : Calls Tryz.prog 38 #[v0, v1] w (PostV w (.bool res)) := by
 refine calls_enter 16 Tryz.func38 Tryz.ntmps38 rfl S false [(0, v0), (1, v1)] [imm TrA v0 x0, imm (TR.ptr TrD) v1 x1] rfl ⟨rfl, ⟨rfl, trivial⟩⟩ hS ⟨k0, ⟨k1, trivial⟩⟩ ?_
 unfold queue_Clean_1_1_m at hm
 refine GL.seq ?_
 refine GL.region ?_
 refine RL.box (t := TrA) (e := x0) rfl rfl rfl rfl (VR.item 0 rfl) ?_
 intro v4
 refine RL.asg rfl rfl rfl ?_
 refine RL.finG ?_
 refine GL.seq ?_
 obtain ⟨y8, K9, h10, h11, h12, h13, h14⟩ := bindR_K hm
 refine GL.join (ι := Bool) (fun (p : Bool) => [(3, .bool p)]) (fun (p : Bool) => []) (fun (p : Bool) => K9 (.nx p)) ?_ ?_
 ·skip
  refine GL.region ?_
  refine RL.fadr (off := 0) (fo := 0) 2 Tryz_fld30_0 rfl rfl rfl PtOf.obox (Or.inr ⟨rfl, rfl⟩) ?_
  refine RL.ldPx (off := (0 + 0)) (e' := x0.1) 2 Ex.str Tryz_ln9 rfl rfl (Or.inl rfl) rfl PtOf.obox (Part.fst Part.self) ?_
  refine RL.fadr (off := 0) (fo := 0) 1 Tryz_fld24_0 rfl rfl rfl PtOf.imm (Or.inr ⟨rfl, rfl⟩) ?_
  refine RL.ldPx (off := (0 + 0)) (e' := x1.1) 1 Ex.str Tryz_ln9 rfl rfl (Or.inl rfl) rfl PtOf.imm (Part.fst Part.self) ?_
  refine RL.binS (v := .bool (x0.1 == x1.1)) rfl rfl rfl rfl rfl ?_
  refine RL.mv rfl rfl rfl ?_
  refine RL.split (t := 9) rfl (fun b15 => ?_) (fun b15 => ?_)
  ·replace h10 := ite_t b15 h10
   refine RL.fadr (off := 0) (fo := 2) 1 Tryz_fld24_2 rfl rfl rfl PtOf.imm (Or.inr ⟨rfl, rfl⟩) ?_
   refine RL.ldPx (off := (0 + 2)) (e' := x1.2.2.1) 1 Ex.ik Tryz_ln3 rfl rfl (Or.inl rfl) rfl PtOf.imm (Part.snd (Part.snd (Part.fst Part.self))) ?_
   refine RL.fadr (off := 0) (fo := 2) 2 Tryz_fld30_2 rfl rfl rfl PtOf.obox (Or.inr ⟨rfl, rfl⟩) ?_
   refine RL.ldPx (off := (0 + 2)) (e' := x0.2.2) 2 Ex.ik Tryz_ln3 rfl rfl (Or.inl rfl) rfl PtOf.obox (Part.snd (Part.snd Part.self)) ?_
   refine RL.binI (v := .bool (decide (x1.2.2.1 < x0.2.2))) rfl rfl rfl rfl rfl ?_
   refine RL.pickT rfl rfl rfl rfl ?_
   refine RL.asg rfl rfl rfl ?_
   refine RL.fin ?_
   cases h10
   exact fun a w st => mid_intro (decide (x1.2.2.1 < x0.2.2)) h11 (St.cut [] ⟨rfl, trivial⟩ (by decide) rfl st)
  replace h10 := ite_f b15 h10
  refine RL.skip rfl rfl ?_
  refine RL.skip rfl rfl ?_
  refine RL.skip rfl rfl ?_
  refine RL.skip rfl rfl ?_
  refine RL.skip rfl rfl ?_
  refine RL.pickF rfl rfl rfl rfl ?_
  refine RL.asg rfl rfl rfl ?_
  refine RL.fin ?_
  cases h10
  exact fun a w st => mid_intro false h11 (St.cut [] ⟨rfl, trivial⟩ (by decide) rfl st)
 rintro x7 h16
 have h17 := h12 _ h16
 try dsimp only at h17
 refine GL.weak (env' := [(3, .bool x7)]) (L' := []) (fun _ _ st => st) ?_
 have h17 := Option.some.inj h17
 subst h17
 exact GL.ret (Gx.ret (v := .bool x7) (res1 rfl rfl) (fun a w st => st.toPostV))

set_option maxHeartbeats 4000000 in
theorem queue_Clean_1_c (S : Hp) (w : World) (hS : S.sub w) (v0 : Value) (x0 : ((List UInt8) × ((List UInt8) × (Int × (Int × (Int × Int)))))) (k0 : (TrD).vrep S v0 x0) (v1 : Value) (x1 : (List ((List UInt8) × (Int × Int)))) (k1 : ((TR.ptr (TR.sl TrA))).vrep S v1 x1) (res : Bool) (hm : queue_Clean_1_m x0 x1 = some res) : Calls Tryz.prog 36 #[v0, v1] w (PostV w (.bool res)) := by
 refine calls_enter 7 Tryz.func36 Tryz.ntmps36 rfl S false [(0, v0), (1, v1)] [imm TrD v0 x0, imm (TR.ptr (TR.sl TrA)) v1 x1] rfl ⟨rfl, ⟨rfl, trivial⟩⟩ hS ⟨k0, ⟨k1, trivial⟩⟩ ?_
 unfold queue_Clean_1_m at hm
 refine GL.seq ?_
 refine GL.region ?_
 refine RL.box (t := TrD) (e := x0) rfl rfl rfl rfl (VR.item 0 rfl) ?_
 intro v4
 refine RL.asg rfl rfl rfl ?_
 refine RL.finG ?_
 refine GL.seq ?_
 refine GL.region ?_
 refine RL.ldP (off := 0) (r := (TR.sl TrA)) (e' := x1) 1 Tryz_ln22 rfl rfl (Or.inr ⟨rfl, rfl⟩) rfl PtOf.imm Part.self ?_
 intro v8
 refine RL.reL (L' := [imm TrD v0 x0, imm (TR.ptr (TR.sl TrA)) v1 x1, obox 24 TrD v4 x0, imm (TR.sl TrA) v8 x1]) rfl ?_
 refine RL.mkF (vs := [v4]) rfl rfl rfl ?_
 obtain ⟨y9, e10, hm⟩ := bind_some hm
 refine RL.callV (v := .bool y9) (vs := [v8, .func (.func 38) #[] #[v4]]) Tryz_fit37 rfl (Or.inl rfl) rfl rfl rfl rfl (fun U w hU hW hL => slices_ContainsFunc_api_Account_api_Account_c U w hU _ _ (hL 3 _ _ rfl Seen.imm) 38 #[v4] Tryz_fit38 (fun a0 => queue_Clean_1_1_m a0 x0) (fun U' w' hle hU' u0 a0 q0 rr hr => (queue_Clean_1_1_c U' w' hU' u0 a0 q0 _ _ (TR.vrep_mono hle (hL 2 _ _ rfl Seen.obox)) rr hr).mono (fun _ _ z => z)) _ e10) ?_
 refine RL.asg rfl rfl rfl ?_
 refine RL.finG ?_
 have hm := Option.some.inj hm
 subst hm
 exact GL.ret (Gx.ret (v := .bool y9) (res1 rfl rfl) (fun a w st => st.toPostV))

set_option maxHeartbeats 4000000 in
theorem queue_Clean_c (S : Hp) (w : World) (hS : S.sub w) (v0 : Value) (x0 : (List ((List UInt8) × ((List UInt8) × (Int × (Int × (Int × Int))))))) (k0 : ((TR.sl TrD)).vrep S v0 x0) (v1 : Value) (x1 : (List ((List UInt8) × (Int × Int)))) (k1 : ((TR.sl TrA)).vrep S v1 x1) (res : (List ((List UInt8) × ((List UInt8) × (Int × (Int × (Int × Int)))))) × Int) (hm : queue_Clean_m x0 x1 = some res) : Calls Tryz.prog 15 #[v0, v1] w (Post w S (fun (o : Value) => .tuple #[o, .int .i64 res.2]) (fun (o : Value) => [own 24 TrD o res.1])) := by
 refine calls_enter 22 Tryz.func15 Tryz.ntmps15 rfl S false [(0, v0), (1, v1)] [imm (TR.sl TrD) v0 x0, imm (TR.sl TrA) v1 x1] rfl ⟨rfl, ⟨rfl, trivial⟩⟩ hS ⟨k0, ⟨k1, trivial⟩⟩ ?_
 unfold queue_Clean_m at hm
 refine GL.seq ?_
 refine GL.region ?_
 refine RL.box (t := (TR.sl TrA)) (e := x1) rfl rfl rfl rfl (VR.item 1 rfl) ?_
 intro v4
 refine RL.asg rfl rfl rfl ?_
 refine RL.asg rfl rfl rfl ?_
 refine RL.finG ?_
 refine GL.seq ?_
 refine GL.seq ?_
 refine GL.region ?_
 refine RL.mv rfl rfl rfl ?_
 obtain ⟨y7, e8, hm⟩ := bind_some hm
 refine RL.callV (v := .int .i64 y7) (vs := [v0]) Tryz_fit33 rfl (Or.inl rfl) rfl rfl rfl rfl (fun U w hU hW hL => queue_Check_c U w hU _ _ (hL 0 _ _ rfl Seen.imm) _ e8) ?_
 refine RL.asg rfl rfl rfl ?_
 refine RL.finG ?_
 refine GL.seq ?_
 refine GL.region ?_
 refine RL.mv rfl rfl rfl ?_
 refine RL.binI (v := .bool (y7 != (0 : Int))) rfl rfl rfl rfl rfl ?_
 refine RL.finG ?_
 refine GL.cond rfl (fun b9 => ?_) (fun b9 => ?_)
 ·replace hm := ite_t b9 hm
  refine GL.seq ?_
  refine GL.region ?_
  refine RL.mv rfl rfl rfl ?_
  refine RL.asg rfl rfl rfl ?_
  refine RL.asg rfl rfl rfl ?_
  refine RL.finG ?_
  refine GL.weak (fun a w st => st.nilOwn 24 TrD) ?_
  have hm := Option.some.inj hm
  subst hm
  exact GL.ret (Gx.ret (v := .tuple #[Value.slice none 0 0, .int .i64 y7]) (res2 rfl rfl rfl) (fun a w st => (st.pick [3] (by decide) rfl).toPost (Value.slice none 0 0)))
 replace hm := ite_f b9 hm
 refine GL.skip ?_
 refine GL.seq ?_
 refine GL.seq ?_
 refine GL.region ?_
 refine RL.ldP (off := 0) (r := (TR.sl TrA)) (e' := x1) 2 Tryz_ln22 rfl rfl (Or.inr ⟨rfl, rfl⟩) rfl PtOf.obox Part.self ?_
 intro v13
 refine RL.reL (L' := [imm (TR.sl TrD) v0 x0, imm (TR.sl TrA) v1 x1, obox 22 (TR.sl TrA) v4 x1, imm (TR.sl TrA) v13 x1]) rfl ?_
 obtain ⟨y14, e15, hm⟩ := bind_some hm
 refine RL.callV (v := .int .i64 y14) (vs := [v13]) Tryz_fit27 rfl (Or.inl rfl) rfl rfl rfl rfl (fun U w hU hW hL => ledger_Check_c U w hU _ _ (hL 3 _ _ rfl Seen.imm) _ e15) ?_
 refine RL.asg rfl rfl rfl ?_
 refine RL.finG ?_
 refine GL.seq ?_
 refine GL.region ?_
 refine RL.mv rfl rfl rfl ?_
 refine RL.binI (v := .bool (y14 != (0 : Int))) rfl rfl rfl rfl rfl ?_
 refine RL.finG ?_
 refine GL.cond rfl (fun b16 => ?_) (fun b16 => ?_)
 ·replace hm := ite_t b16 hm
  refine GL.seq ?_
  refine GL.region ?_
  refine RL.mv rfl rfl rfl ?_
  refine RL.asg rfl rfl rfl ?_
  refine RL.asg rfl rfl rfl ?_
  refine RL.finG ?_
  refine GL.weak (fun a w st => st.nilOwn 24 TrD) ?_
  have hm := Option.some.inj hm
  subst hm
  exact GL.ret (Gx.ret (v := .tuple #[Value.slice none 0 0, .int .i64 y14]) (res2 rfl rfl rfl) (fun a w st => (st.pick [4] (by decide) rfl).toPost (Value.slice none 0 0)))
 replace hm := ite_f b16 hm
 refine GL.skip ?_
 refine GL.seq ?_
 refine GL.region ?_
 refine RL.mv rfl rfl rfl ?_
 obtain ⟨y23, e24, hm⟩ := bind_some hm
 refine RL.call (vs := [v0]) Tryz_fit9 rfl rfl rfl rfl rfl (fun S f w hS hW hi => slices_Clone_api_Deal_api_Deal_c S w hS _ _ (hi 0 _ rfl) _ e24) ?_
 intro v25
 refine RL.mkF (vs := [v4]) rfl rfl rfl ?_
 refine RL.weak (fun a w st => st.freezeB 2 rfl) ?_
 obtain ⟨y26, e27, hm⟩ := bind_some hm
 refine RL.callK (vs := [v25, .func (.func 36) #[] #[v4]]) (V := fun (o : Value) => o) (LR := fun (o : Value) => [own 24 TrD o y26]) (Ls := [own 24 TrD v25 y23]) [4] (by decide) Tryz_fit35 rfl rfl rfl rfl rfl rfl (fun S f X w hO hB hW hI hL => slices_DeleteFunc_api_Deal_api_Deal_c _ S X f w _ _  hO hB hI 36 #[v4] Tryz_fit36 (fun a0 => queue_Clean_1_m a0 x1) (fun U' w' hle hU' u0 a0 q0 rr hr => (queue_Clean_1_c U' w' hU' u0 a0 q0 _ _ (TR.vrep_mono hle (hL 2 _ _ rfl Sure.imm)) rr hr).mono (fun _ _ z => z)) _ e27) ?_
 intro v28
 refine RL.reL (L' := [imm (TR.sl TrD) v0 x0, imm (TR.sl TrA) v1 x1, imm (TR.ptr (TR.sl TrA)) v4 x1, imm (TR.sl TrA) v13 x1, gone, own 24 TrD v28 y26]) rfl ?_
 refine RL.asg rfl rfl rfl ?_
 refine RL.asg rfl rfl rfl ?_
 refine RL.finG ?_
 have hm := Option.some.inj hm
 subst hm
 exact GL.ret (Gx.ret (v := .tuple #[v28, .int .i64 (0 : Int)]) (res2 rfl rfl rfl) (fun a w st => (st.pick [5] (by decide) rfl).toPost v28))

set_option maxHeartbeats 4000000 in
theorem house_House_build_c (B : World) (S X : Hp) (f : Nat → Hp) (w : World) (v0 : Value) (u0a : Value) (x0 : ((List ((List UInt8) × (Int × Int))) × ((List ((List UInt8) × ((List UInt8) × (Int × (Int × (Int × Int)))))) × ((List UInt8) × Int)))) (hO : HeapOk B.heap.size S f [obox 78 TrH v0 (x0.1, (x0.2.1, u0a)), obox 95 (TR.pair TR.str TR.int) u0a x0.2.2, keep X].length w) (hB : Below B.heap.size B w) (hI : Its [obox 78 TrH v0 (x0.1, (x0.2.1, u0a)), obox 95 (TR.pair TR.str TR.int) u0a x0.2.2, keep X] S f) (hT : Tab Tryz.prog (Tryz.lays146_ren.g 1) S) (v1 : Value) (x1 : (Int × (Int × ((List UInt8) × ((List UInt8) × ((List UInt8) × (Int × (Int × (Int × Int))))))))) (k1 : (TrE).vrep S v1 x1) (res : (Int × Int) × Int × ((List ((List UInt8) × (Int × Int))) × ((List ((List UInt8) × ((List UInt8) × (Int × (Int × (Int × Int)))))) × ((List UInt8) × Int)))) (hm : house_House_build_m x0 x1 = some res) : Calls Tryz.prog 44 #[v0, v1] w (PostM B S (fun (o : Value) => .tuple #[o, .int .i64 res.2.1]) (fun (o : Value) => [obox 78 TrH v0 (res.2.2.1, (res.2.2.2.1, u0a)), obox 95 (TR.pair TR.str TR.int) u0a res.2.2.2.2, imm (TR.pair TR.int TR.int) o res.1, keep X])) := by
 refine calls_enterM 125 Tryz.func44 Tryz.ntmps44 rfl B S f [(0, v0), (1, v1)] [obox 78 TrH v0 (x0.1, (x0.2.1, u0a)), obox 95 (TR.pair TR.str TR.int) u0a x0.2.2, keep X] [imm TrE v1 x1] rfl ⟨rfl, ⟨rfl, trivial⟩⟩ hB hO hI ⟨k1, trivial⟩ ?_
 unfold house_House_build_m at hm
 refine GL.seq ?_
 refine GL.region ?_
 refine RL.box (t := TrE) (e := x1) rfl rfl rfl rfl (VR.item 3 rfl) ?_
 intro v5
 refine RL.alloc (t := (TR.pair TR.int TR.int)) (z := ((0 : Int), (0 : Int))) Tryz_lo57 (fun S => ⟨[.int .i64 0], _, rfl, rfl, rfl⟩) rfl rfl rfl ?_
 intro v6
 refine RL.reL (L' := [obox 78 TrH v0 (x0.1, (x0.2.1, u0a)), obox 95 (TR.pair TR.str TR.int) u0a x0.2.2, keep X, imm TrE v1 x1, obox 61 TrE v5 x1, obox 57 (TR.pair TR.int TR.int) v6 ((0 : Int), (0 : Int))]) rfl ?_
 refine RL.asg rfl rfl rfl ?_
 refine RL.finG ?_
 refine GL.seq ?_
 refine GL.seq ?_
 refine GL.region ?_
 refine RL.mv rfl rfl rfl ?_
 refine RL.fadr (off := 0) (fo := 2) 4 Tryz_fld61_2 rfl rfl rfl PtOf.obox (Or.inr ⟨rfl, rfl⟩) ?_
 refine RL.ldPx (off := (0 + 2)) (e' := x1.2.2.1) 4 Ex.str Tryz_ln9 rfl rfl (Or.inl rfl) rfl PtOf.obox (Part.snd (Part.snd (Part.fst Part.self))) ?_
 obtain ⟨y9, e10, hm⟩ := bind_some hm
 refine RL.callV (v := .int .i64 y9) (vs := [v0, .string ⟨(x1.2.2.1 : List UInt8).toArray⟩]) Tryz_fit48 rfl (Or.inl rfl) rfl rfl rfl rfl (fun U w hU hW hL => house_House_find_c U w hU _ _ (ptr_held (Helded.snd (Helded.snd (Helded.raw rfl))) (hL 0 _ _ rfl Seen.obox) (hL 1 _ _ rfl Seen.obox)) x1.2.2.1 _ e10) ?_
 refine RL.binI (v := .bool (decide (y9 < (0 : Int)))) rfl rfl rfl rfl rfl ?_
 refine RL.finG ?_
 refine GL.cond rfl (fun b11 => ?_) (fun b11 => ?_)
 ·replace hm := ite_t b11 hm
  refine GL.seq ?_
  refine GL.region ?_
  refine RL.bld (t := (TR.pair TR.int TR.int)) (d0 := (((0 : Int), (0 : Int)) : (Int × Int))) (pv := []) rfl Tryz_bld57 rfl rfl rfl trivial (fun S f hi => by
    show TR.rep (TR.pair TR.int TR.int) S (List.flatten [[.int .i64 0], [.int .i64 0]]) _
    simp only [ List.flatten_cons, List.flatten_nil, List.append_nil]
    exact ⟨_, _, rfl, rfl, rfl⟩) ?_
  intro v13
  refine RL.stP (off := 0) (e' := (((0 : Int), (0 : Int)) : (Int × Int))) (d1 := (((0 : Int), (0 : Int)) : (Int × Int))) (r := (TR.pair TR.int TR.int)) 5 Tryz_ln57 rfl rfl (Or.inr ⟨rfl, rfl⟩) rfl (VR.item 6 rfl) rfl Upd.self ?_
  refine RL.reL (L' := [obox 78 TrH v0 (x0.1, (x0.2.1, u0a)), obox 95 (TR.pair TR.str TR.int) u0a x0.2.2, keep X, imm TrE v1 x1, obox 61 TrE v5 x1, obox 57 (TR.pair TR.int TR.int) v6 (((0 : Int), (0 : Int)) : (Int × Int)), imm (TR.pair TR.int TR.int) v13 (((0 : Int), (0 : Int)) : (Int × Int))]) rfl ?_
  refine RL.asg rfl rfl rfl ?_
  refine RL.finG ?_
  have hm := Option.some.inj hm
  subst hm
  exact GL.ret (Gx.retX [.cell 4 57, .tmp 5] rfl (fun a w st => by
    have st0 := st
    obtain ⟨u14, hu14, st⟩ := st.cellRes (p := 4) (T := 57) 5 Tryz_ln57 rfl rfl rfl
    exact ⟨[u14, .int .i64 (4 : Int)], ⟨hu14, ⟨(ResTmp st0.env rfl), trivial⟩⟩, (st.pick [0, 1, 7, 2] (by decide) rfl).toPostM (V := fun (o : Value) => .tuple #[o, .int .i64 (((((0 : Int), (0 : Int)) : (Int × Int)), (4 : Int), x0).2.1)]) (LR := fun (o : Value) => [obox 78 TrH v0 ((((((0 : Int), (0 : Int)) : (Int × Int)), (4 : Int), x0).2.2).1, ((((((0 : Int), (0 : Int)) : (Int × Int)), (4 : Int), x0).2.2).2.1, u0a)), obox 95 (TR.pair TR.str TR.int) u0a ((((((0 : Int), (0 : Int)) : (Int × Int)), (4 : Int), x0).2.2).2.2), imm (TR.pair TR.int TR.int) o (((((0 : Int), (0 : Int)) : (Int × Int)), (4 : Int), x0).1), keep X]) u14⟩))
 replace hm := ite_f b11 hm
 refine GL.skip ?_
 refine GL.seq ?_
 refine GL.regionA rfl rfl ?_
 refine RA.mv 0 rfl (by kernel_rfl) rfl rfl rfl ?_
 refine RA.mv 4 rfl (by kernel_rfl) rfl rfl rfl ?_
 refine RA.still (le := #[true, true, true, true, true, true, true, true, true, true, true, true, false, false, false, false, false, false, false, false]) (f := 8) [1, 2, 3, 5, 6, 7, 8, 9, 10, 11] 12 rfl (by kernel_rfl) ?_
 simp only [pickOps, List.getElem?_toArray, List.getElem?_cons_succ, List.getElem?_cons_zero]
 refine RL.nilk 0 rfl rfl rfl rfl PtOf.obox ?_
 refine RL.fadr (off := 0) (fo := 1) 0 Tryz_fld78_1 rfl rfl rfl PtOf.obox (Or.inr ⟨rfl, rfl⟩) ?_
 refine RL.ldP (off := (0 + 1)) (r := (TR.sl TrD)) (e' := x0.2.1) 0 Tryz_ln25 rfl rfl (Or.inl rfl) rfl PtOf.obox (Part.snd (Part.fst Part.self)) ?_
 intro v21
 refine RL.nilk 0 rfl rfl rfl rfl PtOf.obox ?_
 refine RL.fadr (off := 0) (fo := 0) 0 Tryz_fld78_0 rfl rfl rfl PtOf.obox (Or.inr ⟨rfl, rfl⟩) ?_
 refine RL.ldP (off := (0 + 0)) (r := (TR.sl TrA)) (e' := x0.1) 0 Tryz_ln22 rfl rfl (Or.inl rfl) rfl PtOf.obox (Part.fst Part.self) ?_
 intro v22
 refine RL.fadr (off := 0) (fo := 2) 4 Tryz_fld61_2 rfl rfl rfl PtOf.obox (Or.inr ⟨rfl, rfl⟩) ?_
 refine RL.ldPx (off := (0 + 2)) (e' := x1.2.2.1) 4 Ex.str Tryz_ln9 rfl rfl (Or.inl rfl) rfl PtOf.obox (Part.snd (Part.snd (Part.fst Part.self))) ?_
 refine RL.fadr (off := 0) (fo := 1) 4 Tryz_fld61_1 rfl rfl rfl PtOf.obox (Or.inr ⟨rfl, rfl⟩) ?_
 refine RL.ldPx (off := (0 + 1)) (e' := x1.2.1) 4 Ex.ik Tryz_ln3 rfl rfl (Or.inl rfl) rfl PtOf.obox (Part.snd (Part.fst Part.self)) ?_
 refine RL.finH ?_
 refine RL.fin ?_
 refine RA.next ?_
 refine RA.seq 12 rfl (by kernel_rfl) ?_
 obtain ⟨y23, e24, hm⟩ := bind_some hm
 refine RL.call (vs := [v21, v22, .string ⟨(x1.2.2.1 : List UInt8).toArray⟩, .int .i64 x1.2.1]) Tryz_fit16 rfl rfl rfl rfl rfl (fun S f w hS hW hi => pick_Build_c S w hS _ _ (hi 6 _ rfl) _ _ (hi 7 _ rfl) x1.2.2.1 x1.2.1 _ e24) ?_
 intro ⟨v25, v26⟩
 refine RL.fin ?_
 refine RA.next ?_
 refine RA.quiet 13 rfl rfl (by kernel_rfl) ?_
 simp only [List.drop_succ_cons, List.drop_zero]
 refine RL.mv rfl rfl rfl ?_
 refine RL.ext rfl rfl rfl rfl ?_
 refine RL.ext rfl rfl rfl rfl ?_
 refine RL.ext rfl rfl rfl rfl ?_
 refine RL.asg rfl rfl rfl ?_
 refine RL.asg rfl rfl rfl ?_
 refine RL.asg rfl rfl rfl ?_
 refine RL.finQ ?_
 refine RA.outQ ?_
 refine GL.weak (env' := [(0, v0), (3, v5), (4, v6), (6, v25), (7, v26), (8, .int .i64 y23.2.2)]) (L' := [obox 78 TrH v0 (x0.1, (x0.2.1, u0a)), obox 95 (TR.pair TR.str TR.int) u0a x0.2.2, keep X, obox 61 TrE v5 x1, obox 57 (TR.pair TR.int TR.int) v6 ((0 : Int), (0 : Int)), own 3 TR.int v25 y23.1, own 30 TrA v26 y23.2.1]) (fun a w st => St.cut [0, 1, 2, 4, 5, 8, 9] ⟨rfl, rfl, rfl, rfl, rfl, rfl, trivial⟩ (by decide) rfl st) ?_
 refine GL.seq ?_
 refine GL.seq ?_
 refine GL.region ?_
 refine RL.mv rfl rfl rfl ?_
 refine RL.binI (v := .bool (y23.2.2 != (0 : Int))) rfl rfl rfl rfl rfl ?_
 refine RL.finG ?_
 refine GL.cond rfl (fun b27 => ?_) (fun b27 => ?_)
 ·replace hm := ite_t b27 hm
  refine GL.seq ?_
  refine GL.region ?_
  refine RL.bld (t := (TR.pair TR.int TR.int)) (d0 := (((0 : Int), (0 : Int)) : (Int × Int))) (pv := []) rfl Tryz_bld57 rfl rfl rfl trivial (fun S f hi => by
    show TR.rep (TR.pair TR.int TR.int) S (List.flatten [[.int .i64 0], [.int .i64 0]]) _
    simp only [ List.flatten_cons, List.flatten_nil, List.append_nil]
    exact ⟨_, _, rfl, rfl, rfl⟩) ?_
  intro v29
  refine RL.mv rfl rfl rfl ?_
  refine RL.stP (off := 0) (e' := (((0 : Int), (0 : Int)) : (Int × Int))) (d1 := (((0 : Int), (0 : Int)) : (Int × Int))) (r := (TR.pair TR.int TR.int)) 4 Tryz_ln57 rfl rfl (Or.inr ⟨rfl, rfl⟩) rfl (VR.item 7 rfl) rfl Upd.self ?_
  refine RL.reL (L' := [obox 78 TrH v0 (x0.1, (x0.2.1, u0a)), obox 95 (TR.pair TR.str TR.int) u0a x0.2.2, keep X, obox 61 TrE v5 x1, obox 57 (TR.pair TR.int TR.int) v6 (((0 : Int), (0 : Int)) : (Int × Int)), own 3 TR.int v25 y23.1, own 30 TrA v26 y23.2.1, imm (TR.pair TR.int TR.int) v29 (((0 : Int), (0 : Int)) : (Int × Int))]) rfl ?_
  refine RL.asg rfl rfl rfl ?_
  refine RL.finG ?_
  have hm := Option.some.inj hm
  subst hm
  exact GL.ret (Gx.retX [.cell 4 57, .tmp 5] rfl (fun a w st => by
    have st0 := st
    obtain ⟨u30, hu30, st⟩ := st.cellRes (p := 4) (T := 57) 4 Tryz_ln57 rfl rfl rfl
    exact ⟨[u30, .int .i64 y23.2.2], ⟨hu30, ⟨(ResTmp st0.env rfl), trivial⟩⟩, (st.pick [0, 1, 8, 2] (by decide) rfl).toPostM (V := fun (o : Value) => .tuple #[o, .int .i64 (((((0 : Int), (0 : Int)) : (Int × Int)), y23.2.2, x0).2.1)]) (LR := fun (o : Value) => [obox 78 TrH v0 ((((((0 : Int), (0 : Int)) : (Int × Int)), y23.2.2, x0).2.2).1, ((((((0 : Int), (0 : Int)) : (Int × Int)), y23.2.2, x0).2.2).2.1, u0a)), obox 95 (TR.pair TR.str TR.int) u0a ((((((0 : Int), (0 : Int)) : (Int × Int)), y23.2.2, x0).2.2).2.2), imm (TR.pair TR.int TR.int) o (((((0 : Int), (0 : Int)) : (Int × Int)), y23.2.2, x0).1), keep X]) u30⟩))
 replace hm := ite_f b27 hm
 refine GL.skip ?_
 refine GL.seq ?_
 refine GL.region ?_
 refine RL.asg rfl rfl rfl ?_
 refine RL.finG ?_
 refine GL.seq ?_
 refine GL.region ?_
 refine RL.mv rfl rfl rfl ?_
 refine RL.nilk 0 rfl rfl rfl rfl PtOf.obox ?_
 refine RL.fadr (off := 0) (fo := 2) 0 Tryz_fld78_2 rfl rfl rfl PtOf.obox (Or.inr ⟨rfl, rfl⟩) ?_
 refine RL.ldPx (off := (0 + 2)) (e' := u0a) 0 Ex.raw Tryz_ln76 rfl rfl (Or.inl rfl) rfl PtOf.obox (Part.snd (Part.snd Part.self)) ?_
 obtain ⟨y33, e34, hm⟩ := bind_some hm
 refine RL.callV (v := .tuple #[.int .i64 y33.1, .int .i64 y33.2]) (vs := [u0a]) Tryz_fit59 rfl (Or.inl rfl) rfl rfl rfl rfl (fun U w hU hW hL => log_Log_Size_c U w hU _ _ (hL 1 _ _ rfl Seen.obox) _ e34) ?_
 refine RL.mv rfl rfl rfl ?_
 refine RL.ext rfl rfl rfl rfl ?_
 refine RL.ext rfl rfl rfl rfl ?_
 refine RL.asg rfl rfl rfl ?_
 refine RL.asg rfl rfl rfl ?_
 refine RL.finG ?_
 refine GL.seq ?_
 refine GL.region ?_
 refine RL.asg rfl rfl rfl ?_
 refine RL.finG ?_
 refine GL.seq ?_
 refine GL.seq ?_
 refine GL.region ?_
 refine RL.mv rfl rfl rfl ?_
 refine RL.lenS 5 Tryz.underlying41 rfl rfl rfl rfl SlOf.own ?_
 refine RL.mv rfl rfl rfl ?_
 refine RL.finG ?_
 refine GL.weak (fun a w st => st.nilOwn 9 TR.str) ?_
 refine GL.lenOwn 5 rfl (fun n69 => ?_)
 obtain ⟨y70, K71, h72, h73, h74, h75, h76⟩ := bindR_K hm
 refine GL.join (ι := (List (List UInt8)) × Int × Int × Value) (fun (p : (List (List UInt8)) × Int × Int × Value) => [(0, v0), (4, v6), (6, v25), (7, v26), (9, p.2.2.2), (10, .int .i64 p.2.1), (12, .int .i64 p.2.2.1)]) (fun (p : (List (List UInt8)) × Int × Int × Value) => [obox 78 TrH v0 (x0.1, (x0.2.1, u0a)), obox 95 (TR.pair TR.str TR.int) u0a x0.2.2, keep X, obox 57 (TR.pair TR.int TR.int) v6 ((0 : Int), (0 : Int)), own 3 TR.int v25 y23.1, own 30 TrA v26 y23.2.1, own 9 TR.str p.2.2.2 p.1]) (fun (p : (List (List UInt8)) × Int × Int × Value) => K71 (.nx (p.1, p.2.1, p.2.2.1))) ?_ ?_
 ·refine GL.block ?_
  refine GL.loop (ι := Nat × Nat × (List (List UInt8)) × Int × Int × Value) (fun (p : Nat × Nat × (List (List UInt8)) × Int × Int × Value) => [(0, v0), (3, v5), (4, v6), (6, v25), (7, v26), (9, p.2.2.2.2.2), (10, .int .i64 p.2.2.2.1), (12, .int .i64 p.2.2.2.2.1), (53, v25), (54, .int .i64 ((y23.1).length : Int)), (55, .int .i64 (p.1 : Int))]) (fun (p : Nat × Nat × (List (List UInt8)) × Int × Int × Value) => [obox 78 TrH v0 (x0.1, (x0.2.1, u0a)), obox 95 (TR.pair TR.str TR.int) u0a x0.2.2, obox 61 TrE v5 x1, obox 57 (TR.pair TR.int TR.int) v6 ((0 : Int), (0 : Int)), own 3 TR.int v25 y23.1, own 30 TrA v26 y23.2.1, own 9 TR.str p.2.2.2.2.2 p.2.2.1, keep X]) (fun (p : Nat × Nat × (List (List UInt8)) × Int × Int × Value) => p.1 + p.2.1 = (y23.1).length ∧ rangeN (house_House_build_b1 y23 x0 x1) p.2.1 p.1 (p.2.2.1, p.2.2.2.1, p.2.2.2.2.1) = some y70) (fun (p : Nat × Nat × (List (List UInt8)) × Int × Int × Value) => p.2.1) (0, (y23.1).length, [], y33.1, (0 : Int), Value.slice none 0 0) ⟨by simp, h72⟩ (fun a w st => St.cut [0, 1, 3, 4, 5, 6, 7, 2] ⟨rfl, rfl, rfl, rfl, rfl, rfl, rfl, rfl, rfl, rfl, rfl, trivial⟩ (by decide) rfl st) ?_
  rintro ⟨i77, r78, l35, x37, x38, v36⟩ ⟨h83, h82⟩
  try dsimp only at h83 h82
  refine GL.weak (env' := [(0, v0), (3, v5), (4, v6), (6, v25), (7, v26), (9, v36), (10, .int .i64 x37), (12, .int .i64 x38), (53, v25), (54, .int .i64 ((y23.1).length : Int)), (55, .int .i64 (i77 : Int))]) (L' := [obox 78 TrH v0 (x0.1, (x0.2.1, u0a)), obox 95 (TR.pair TR.str TR.int) u0a x0.2.2, obox 61 TrE v5 x1, obox 57 (TR.pair TR.int TR.int) v6 ((0 : Int), (0 : Int)), own 3 TR.int v25 y23.1, own 30 TrA v26 y23.2.1, own 9 TR.str v36 l35, keep X]) (fun _ _ st => st) ?_
  refine GL.seq ?_
  refine GL.region ?_
  refine RL.binI (v := .bool (decide ((i77 : Int) < ((y23.1).length : Int)))) rfl rfl rfl rfl rfl ?_
  refine RL.finG ?_
  refine GL.seq ?_
  refine GL.cond rfl (fun b85 => ?_) (fun b85 => ?_)
  ·have h86 : i77 < (y23.1).length := by have := of_decide_eq_true b85; omega
   obtain ⟨r87, hr⟩ : ∃ m, r78 = m + 1 := ⟨r78 - 1, by omega⟩
   subst hr
   obtain ⟨z79, h80, h81⟩ := rangeN_some h82
   unfold house_House_build_b1 at h80
   try dsimp only at h80
   refine GL.skip ?_
   refine GL.seq ?_
   refine GL.block ?_
   refine GL.seq ?_
   refine GL.region ?_
   obtain ⟨y90, e91, h80⟩ := bind_some h80
   refine RL.idxS (sz := 1) 4 Tryz.underlying41 Tryz_ln3 rfl rfl rfl rfl rfl SlOf.own (idx_some e91).1 (idx_some e91).2.1 ?_
   refine RL.ldSx (i := i77) (e' := y90) 4 Ex.ik Tryz_ln3 rfl rfl rfl rfl SlOf.own (idx_some e91).2.2 Part.self ?_
   refine RL.asg rfl rfl rfl ?_
   refine RL.finG ?_
   refine GL.seq ?_
   refine GL.regionQ rfl rfl (by kernel_rfl) ?_
   refine RL.mv rfl rfl rfl ?_
   refine RL.nilk 0 rfl rfl rfl rfl PtOf.obox ?_
   refine RL.fadr (off := 0) (fo := 1) 0 Tryz_fld78_1 rfl rfl rfl PtOf.obox (Or.inr ⟨rfl, rfl⟩) ?_
   refine RL.ldP (off := (0 + 1)) (r := (TR.sl TrD)) (e' := x0.2.1) 0 Tryz_ln25 rfl rfl (Or.inl rfl) rfl PtOf.obox (Part.snd (Part.fst Part.self)) ?_
   intro v98
   refine RL.mv rfl rfl rfl ?_
   obtain ⟨y99, e100, h80⟩ := bind_some h80
   refine RL.idxS (sz := 6) 8 Tryz.underlying25 Tryz_ln24 rfl rfl rfl rfl rfl SlOf.imm (idx_some e100).1 (idx_some e100).2.1 ?_
   refine RL.ldS (i := (y90).toNat) (r := TrD) (e' := y99) 8 Tryz_ln24 rfl rfl rfl rfl SlOf.imm (idx_some e100).2.2 Part.self ?_
   intro v101
   refine RL.reL (L' := [obox 78 TrH v0 (x0.1, (x0.2.1, u0a)), obox 95 (TR.pair TR.str TR.int) u0a x0.2.2, obox 61 TrE v5 x1, obox 57 (TR.pair TR.int TR.int) v6 ((0 : Int), (0 : Int)), own 3 TR.int v25 y23.1, own 30 TrA v26 y23.2.1, own 9 TR.str v36 l35, keep X, imm (TR.sl TrD) v98 x0.2.1, imm TrD v101 y99]) rfl ?_
   refine RL.fadr (off := 0) (fo := 2) 2 Tryz_fld61_2 rfl rfl rfl PtOf.obox (Or.inr ⟨rfl, rfl⟩) ?_
   refine RL.ldPx (off := (0 + 2)) (e' := x1.2.2.1) 2 Ex.str Tryz_ln9 rfl rfl (Or.inl rfl) rfl PtOf.obox (Part.snd (Part.snd (Part.fst Part.self))) ?_
   obtain ⟨y102, e103, h80⟩ := bind_some h80
   refine RL.callV (v := .string ⟨(y102 : List UInt8).toArray⟩) (vs := [v101, .string ⟨(x1.2.2.1 : List UInt8).toArray⟩]) Tryz_fit60 rfl (Or.inr ⟨_, rfl⟩) rfl rfl rfl rfl (fun U w hU hW hL => house_deal_c U w hU (hT.mono hW) _ _ (hL 9 _ _ rfl Seen.imm) x1.2.2.1 _ e103) ?_
   refine RL.asg rfl rfl rfl ?_
   refine RL.finQG ?_
   refine GL.seq ?_
   refine GL.region ?_
   refine RL.mv rfl rfl rfl ?_
   refine RL.mv rfl rfl rfl ?_
   refine RL.bS (t := TR.str) (vs := [.string ⟨(y102 : List UInt8).toArray⟩]) ([y102] : (List (List UInt8))) Tryz.underlying98 Tryz_lo9 rfl rfl rfl rfl ⟨VR.str, trivial⟩ rfl (by decide) ?_
   intro v108
   obtain ⟨y109, e110, h80⟩ := bind_some h80
   replace e110 := chk_some e110
   refine RL.app 6 10 Tryz.underlying98 Tryz_lo9 rfl rfl rfl rfl rfl rfl rfl SlOf.own e110 ?_
   intro v111
   refine RL.reL (L' := [obox 78 TrH v0 (x0.1, (x0.2.1, u0a)), obox 95 (TR.pair TR.str TR.int) u0a x0.2.2, obox 61 TrE v5 x1, obox 57 (TR.pair TR.int TR.int) v6 ((0 : Int), (0 : Int)), own 3 TR.int v25 y23.1, own 30 TrA v26 y23.2.1, own 9 TR.str v111 (l35 ++ ([y102] : (List (List UInt8)))), keep X, imm (TR.sl TrD) v98 x0.2.1, imm TrD v101 y99, own 9 TR.str v108 ([y102] : (List (List UInt8)))]) rfl ?_
   refine RL.asg rfl rfl rfl ?_
   refine RL.finG ?_
   refine GL.seq ?_
   refine GL.region ?_
   refine RL.mv rfl rfl rfl ?_
   refine RL.mv rfl rfl rfl ?_
   refine RL.lenT Tryz.underlying9 rfl rfl rfl ?_
   refine RL.binI (v := .int .i64 (wadd ((y102).length : Int) (3 : Int))) rfl rfl rfl rfl rfl ?_
   refine RL.binI (v := .int .i64 (wadd x37 (wadd ((y102).length : Int) (3 : Int)))) rfl rfl rfl rfl rfl ?_
   refine RL.asg rfl rfl rfl ?_
   refine RL.finG ?_
   refine GL.region ?_
   refine RL.mv rfl rfl rfl ?_
   refine RL.mv rfl rfl rfl ?_
   refine RL.nilk 0 rfl rfl rfl rfl PtOf.obox ?_
   refine RL.fadr (off := 0) (fo := 1) 0 Tryz_fld78_1 rfl rfl rfl PtOf.obox (Or.inr ⟨rfl, rfl⟩) ?_
   refine RL.ldP (off := (0 + 1)) (r := (TR.sl TrD)) (e' := x0.2.1) 0 Tryz_ln25 rfl rfl (Or.inl rfl) rfl PtOf.obox (Part.snd (Part.fst Part.self)) ?_
   intro v115
   refine RL.mv rfl rfl rfl ?_
   obtain ⟨y116, e117, h80⟩ := bind_some h80
   refine RL.idxS (sz := 6) 11 Tryz.underlying25 Tryz_ln24 rfl rfl rfl rfl rfl SlOf.imm (idx_some e117).1 (idx_some e117).2.1 ?_
   refine RL.fadrS (off := ((y90).toNat * 6)) (fo := 4) 11 Tryz_fld24_4 rfl rfl rfl SlOf.imm (by have := (List.getElem?_eq_some_iff.1 (idx_some e117).2.2).1; (try dsimp only at this ⊢); omega) rfl ?_
   refine RL.ldSx (i := (y90).toNat) (e' := y116.2.2.2.2.1) 11 Ex.ik Tryz_ln3 rfl rfl rfl rfl SlOf.imm (idx_some e117).2.2 (Part.snd (Part.snd (Part.snd (Part.snd (Part.fst Part.self))))) ?_
   refine RL.binI (v := .int .i64 (wadd x38 y116.2.2.2.2.1)) rfl rfl rfl rfl rfl ?_
   refine RL.asg rfl rfl rfl ?_
   refine RL.finG ?_
   refine GL.nilB ?_
   refine GL.region ?_
   refine RL.binI (v := .int .i64 ((i77 + 1 : Nat) : Int)) rfl rfl rfl rfl (binI_succ i77 (by omega)) ?_
   refine RL.mv rfl rfl rfl ?_
   refine RL.fin ?_
   cases h80
   exact fun a w st => lop_intro (i77 + 1, r87, (l35 ++ ([y102] : (List (List UInt8)))), wadd x37 (wadd ((y102).length : Int) (3 : Int)), wadd x38 y116.2.2.2.2.1, v111) ⟨by show i77 + 1 + r87 = (y23.1).length; omega, h81⟩ (by simp) (St.cut [0, 1, 2, 3, 4, 5, 6, 7] ⟨rfl, rfl, rfl, rfl, rfl, rfl, rfl, rfl, rfl, rfl, rfl, trivial⟩ (by decide) rfl st)
  have h86 : ¬ i77 < (y23.1).length := by have := of_decide_eq_false b85; omega
  obtain rfl : r78 = 0 := by omega
  replace h82 : some (Fl.nx _) = some y70 := h82
  cases h82
  exact GL.exit (fun a w st => mid_intro (l35, x37, x38, v36) h73 (St.cut [0, 1, 7, 3, 4, 5, 6] ⟨rfl, rfl, rfl, rfl, rfl, rfl, rfl, trivial⟩ (by decide) rfl st))
 rintro ⟨l35, x37, x38, v36⟩ h118
 have h119 := h74 _ h118
 try dsimp only at h119
 refine GL.weak (env' := [(0, v0), (4, v6), (6, v25), (7, v26), (9, v36), (10, .int .i64 x37), (12, .int .i64 x38)]) (L' := [obox 78 TrH v0 (x0.1, (x0.2.1, u0a)), obox 95 (TR.pair TR.str TR.int) u0a x0.2.2, keep X, obox 57 (TR.pair TR.int TR.int) v6 ((0 : Int), (0 : Int)), own 3 TR.int v25 y23.1, own 30 TrA v26 y23.2.1, own 9 TR.str v36 l35]) (fun _ _ st => st) ?_
 refine GL.seq ?_
 refine GL.seq ?_
 refine GL.region ?_
 refine RL.mv rfl rfl rfl ?_
 refine RL.binI (v := .bool (decide (x37 > (4000 : Int)))) rfl rfl rfl rfl rfl ?_
 refine RL.finG ?_
 refine GL.cond rfl (fun b120 => ?_) (fun b120 => ?_)
 ·replace h119 := ite_t b120 h119
  refine GL.seq ?_
  refine GL.region ?_
  refine RL.bld (t := (TR.pair TR.int TR.int)) (d0 := (((0 : Int), (0 : Int)) : (Int × Int))) (pv := []) rfl Tryz_bld57 rfl rfl rfl trivial (fun S f hi => by
    show TR.rep (TR.pair TR.int TR.int) S (List.flatten [[.int .i64 0], [.int .i64 0]]) _
    simp only [ List.flatten_cons, List.flatten_nil, List.append_nil]
    exact ⟨_, _, rfl, rfl, rfl⟩) ?_
  intro v122
  refine RL.stP (off := 0) (e' := (((0 : Int), (0 : Int)) : (Int × Int))) (d1 := (((0 : Int), (0 : Int)) : (Int × Int))) (r := (TR.pair TR.int TR.int)) 3 Tryz_ln57 rfl rfl (Or.inr ⟨rfl, rfl⟩) rfl (VR.item 7 rfl) rfl Upd.self ?_
  refine RL.reL (L' := [obox 78 TrH v0 (x0.1, (x0.2.1, u0a)), obox 95 (TR.pair TR.str TR.int) u0a x0.2.2, keep X, obox 57 (TR.pair TR.int TR.int) v6 (((0 : Int), (0 : Int)) : (Int × Int)), own 3 TR.int v25 y23.1, own 30 TrA v26 y23.2.1, own 9 TR.str v36 l35, imm (TR.pair TR.int TR.int) v122 (((0 : Int), (0 : Int)) : (Int × Int))]) rfl ?_
  refine RL.asg rfl rfl rfl ?_
  refine RL.finG ?_
  have h119 := Option.some.inj h119
  subst h119
  exact GL.ret (Gx.retX [.cell 4 57, .tmp 5] rfl (fun a w st => by
    have st0 := st
    obtain ⟨u123, hu123, st⟩ := st.cellRes (p := 4) (T := 57) 3 Tryz_ln57 rfl rfl rfl
    exact ⟨[u123, .int .i64 (8 : Int)], ⟨hu123, ⟨(ResTmp st0.env rfl), trivial⟩⟩, (st.pick [0, 1, 8, 2] (by decide) rfl).toPostM (V := fun (o : Value) => .tuple #[o, .int .i64 (((((0 : Int), (0 : Int)) : (Int × Int)), (8 : Int), x0).2.1)]) (LR := fun (o : Value) => [obox 78 TrH v0 ((((((0 : Int), (0 : Int)) : (Int × Int)), (8 : Int), x0).2.2).1, ((((((0 : Int), (0 : Int)) : (Int × Int)), (8 : Int), x0).2.2).2.1, u0a)), obox 95 (TR.pair TR.str TR.int) u0a ((((((0 : Int), (0 : Int)) : (Int × Int)), (8 : Int), x0).2.2).2.2), imm (TR.pair TR.int TR.int) o (((((0 : Int), (0 : Int)) : (Int × Int)), (8 : Int), x0).1), keep X]) u123⟩))
 replace h119 := ite_f b120 h119
 refine GL.skip ?_
 refine GL.seq ?_
 refine GL.seq ?_
 refine GL.region ?_
 refine RL.mv rfl rfl rfl ?_
 refine RL.lenS 6 Tryz.underlying98 rfl rfl rfl rfl SlOf.own ?_
 refine RL.mv rfl rfl rfl ?_
 refine RL.finG ?_
 refine GL.lenOwn 6 rfl (fun n141 => ?_)
 obtain ⟨y142, K143, h144, h145, h146, h147, h148⟩ := bindR_K h119
 refine GL.join (ι := ((List ((List UInt8) × (Int × Int))) × ((List ((List UInt8) × ((List UInt8) × (Int × (Int × (Int × Int)))))) × ((List UInt8) × Int)))) (fun (p : ((List ((List UInt8) × (Int × Int))) × ((List ((List UInt8) × ((List UInt8) × (Int × (Int × (Int × Int)))))) × ((List UInt8) × Int)))) => [(0, v0), (4, v6), (6, v25), (7, v26), (12, .int .i64 x38)]) (fun (p : ((List ((List UInt8) × (Int × Int))) × ((List ((List UInt8) × ((List UInt8) × (Int × (Int × (Int × Int)))))) × ((List UInt8) × Int)))) => [obox 78 TrH v0 (p.1, (p.2.1, u0a)), obox 95 (TR.pair TR.str TR.int) u0a p.2.2, keep X, obox 57 (TR.pair TR.int TR.int) v6 ((0 : Int), (0 : Int)), own 3 TR.int v25 y23.1, own 30 TrA v26 y23.2.1]) (fun (p : ((List ((List UInt8) × (Int × Int))) × ((List ((List UInt8) × ((List UInt8) × (Int × (Int × (Int × Int)))))) × ((List UInt8) × Int)))) => K143 (.nx p)) ?_ ?_
 ·refine GL.block ?_
  refine GL.loop (ι := Nat × Nat × ((List ((List UInt8) × (Int × Int))) × ((List ((List UInt8) × ((List UInt8) × (Int × (Int × (Int × Int)))))) × ((List UInt8) × Int)))) (fun (p : Nat × Nat × ((List ((List UInt8) × (Int × Int))) × ((List ((List UInt8) × ((List UInt8) × (Int × (Int × (Int × Int)))))) × ((List UInt8) × Int)))) => [(0, v0), (4, v6), (6, v25), (7, v26), (12, .int .i64 x38), (92, v36), (93, .int .i64 ((l35).length : Int)), (94, .int .i64 (p.1 : Int))]) (fun (p : Nat × Nat × ((List ((List UInt8) × (Int × Int))) × ((List ((List UInt8) × ((List UInt8) × (Int × (Int × (Int × Int)))))) × ((List UInt8) × Int)))) => [obox 78 TrH v0 (p.2.2.1, (p.2.2.2.1, u0a)), obox 95 (TR.pair TR.str TR.int) u0a p.2.2.2.2, obox 57 (TR.pair TR.int TR.int) v6 ((0 : Int), (0 : Int)), own 3 TR.int v25 y23.1, own 30 TrA v26 y23.2.1, own 9 TR.str v36 l35, keep X]) (fun (p : Nat × Nat × ((List ((List UInt8) × (Int × Int))) × ((List ((List UInt8) × ((List UInt8) × (Int × (Int × (Int × Int)))))) × ((List UInt8) × Int)))) => p.1 + p.2.1 = (l35).length ∧ rangeN (house_House_build_b2 l35) p.2.1 p.1 p.2.2 = some y142) (fun (p : Nat × Nat × ((List ((List UInt8) × (Int × Int))) × ((List ((List UInt8) × ((List UInt8) × (Int × (Int × (Int × Int)))))) × ((List UInt8) × Int)))) => p.2.1) (0, (l35).length, x0) ⟨by simp, h144⟩ (fun a w st => St.cut [0, 1, 3, 4, 5, 6, 2] ⟨rfl, rfl, rfl, rfl, rfl, rfl, rfl, rfl, trivial⟩ (by decide) rfl st) ?_
  rintro ⟨i149, r150, l132⟩ ⟨h155, h154⟩
  try dsimp only at h155 h154
  refine GL.weak (env' := [(0, v0), (4, v6), (6, v25), (7, v26), (12, .int .i64 x38), (92, v36), (93, .int .i64 ((l35).length : Int)), (94, .int .i64 (i149 : Int))]) (L' := [obox 78 TrH v0 (l132.1, (l132.2.1, u0a)), obox 95 (TR.pair TR.str TR.int) u0a l132.2.2, obox 57 (TR.pair TR.int TR.int) v6 ((0 : Int), (0 : Int)), own 3 TR.int v25 y23.1, own 30 TrA v26 y23.2.1, own 9 TR.str v36 l35, keep X]) (fun _ _ st => st) ?_
  refine GL.seq ?_
  refine GL.region ?_
  refine RL.binI (v := .bool (decide ((i149 : Int) < ((l35).length : Int)))) rfl rfl rfl rfl rfl ?_
  refine RL.finG ?_
  refine GL.seq ?_
  refine GL.cond rfl (fun b157 => ?_) (fun b157 => ?_)
  ·have h158 : i149 < (l35).length := by have := of_decide_eq_true b157; omega
   obtain ⟨r159, hr⟩ : ∃ m, r150 = m + 1 := ⟨r150 - 1, by omega⟩
   subst hr
   obtain ⟨z151, h152, h153⟩ := rangeN_some h154
   unfold house_House_build_b2 at h152
   try dsimp only at h152
   refine GL.skip ?_
   refine GL.seq ?_
   refine GL.block ?_
   refine GL.seq ?_
   refine GL.region ?_
   obtain ⟨y162, e163, h152⟩ := bind_some h152
   refine RL.idxS (sz := 1) 5 Tryz.underlying98 Tryz_ln9 rfl rfl rfl rfl rfl SlOf.own (idx_some e163).1 (idx_some e163).2.1 ?_
   refine RL.ldSx (i := i149) (e' := y162) 5 Ex.str Tryz_ln9 rfl rfl rfl rfl SlOf.own (idx_some e163).2.2 Part.self ?_
   refine RL.asg rfl rfl rfl ?_
   refine RL.finG ?_
   refine GL.region ?_
   refine RL.mv rfl rfl rfl ?_
   refine RL.nilk 0 rfl rfl rfl rfl PtOf.obox ?_
   refine RL.fadr (off := 0) (fo := 2) 0 Tryz_fld78_2 rfl rfl rfl PtOf.obox (Or.inr ⟨rfl, rfl⟩) ?_
   refine RL.ldPx (off := (0 + 2)) (e' := u0a) 0 Ex.raw Tryz_ln76 rfl rfl (Or.inl rfl) rfl PtOf.obox (Part.snd (Part.snd Part.self)) ?_
   refine RL.mv rfl rfl rfl ?_
   obtain ⟨y166, e167, h152⟩ := bind_some h152
   refine RL.callK (vs := [u0a, .string ⟨(y162 : List UInt8).toArray⟩]) (V := fun (o : Unit) => .int .i64 y166.1) (LR := fun (o : Unit) => [obox 95 (TR.pair TR.str TR.int) u0a y166.2]) (Ls := [obox 95 (TR.pair TR.str TR.int) u0a l132.2.2]) [1] (by decide) Tryz_fit57 rfl rfl rfl rfl rfl rfl (fun S f X w hO hB hW hI hL => log_Log_Append_c _ S X f w _ _  hO hB hI y162 _ e167) ?_
   intro _
   refine RL.reL (L' := [obox 78 TrH v0 (l132.1, (l132.2.1, u0a)), gone, obox 57 (TR.pair TR.int TR.int) v6 ((0 : Int), (0 : Int)), own 3 TR.int v25 y23.1, own 30 TrA v26 y23.2.1, own 9 TR.str v36 l35, keep X, obox 95 (TR.pair TR.str TR.int) u0a y166.2]) rfl ?_
   refine RL.finG ?_
   refine GL.nilB ?_
   refine GL.region ?_
   refine RL.binI (v := .int .i64 ((i149 + 1 : Nat) : Int)) rfl rfl rfl rfl (binI_succ i149 (by omega)) ?_
   refine RL.mv rfl rfl rfl ?_
   refine RL.fin ?_
   cases h152
   exact fun a w st => lop_intro (i149 + 1, r159, (l132.1, (l132.2.1, y166.2))) ⟨by show i149 + 1 + r159 = (l35).length; omega, h153⟩ (by simp) (St.cut [0, 7, 2, 3, 4, 5, 6] ⟨rfl, rfl, rfl, rfl, rfl, rfl, rfl, rfl, trivial⟩ (by decide) rfl st)
  have h158 : ¬ i149 < (l35).length := by have := of_decide_eq_false b157; omega
  obtain rfl : r150 = 0 := by omega
  replace h154 : some (Fl.nx _) = some y142 := h154
  cases h154
  exact GL.exit (fun a w st => mid_intro l132 h145 (St.cut [0, 1, 6, 2, 3, 4] ⟨rfl, rfl, rfl, rfl, rfl, trivial⟩ (by decide) rfl st))
 rintro l132 h168
 have h169 := h146 _ h168
 try dsimp only at h169
 refine GL.weak (env' := [(0, v0), (4, v6), (6, v25), (7, v26), (12, .int .i64 x38)]) (L' := [obox 78 TrH v0 (l132.1, (l132.2.1, u0a)), obox 95 (TR.pair TR.str TR.int) u0a l132.2.2, keep X, obox 57 (TR.pair TR.int TR.int) v6 ((0 : Int), (0 : Int)), own 3 TR.int v25 y23.1, own 30 TrA v26 y23.2.1]) (fun _ _ st => st) ?_
 refine GL.seq ?_
 refine GL.region ?_
 refine RL.mv rfl rfl rfl ?_
 refine RL.mv rfl rfl rfl ?_
 refine RL.nilk 0 rfl rfl rfl rfl PtOf.obox ?_
 refine RL.fadr (off := 0) (fo := 0) 0 Tryz_fld78_0 rfl rfl rfl PtOf.obox (Or.inr ⟨rfl, rfl⟩) ?_
 refine RL.weak (fun a w st => st.freeze 5 rfl) ?_
 refine RL.stP (off := (0 + 0)) (e' := y23.2.1) (d1 := ((y23.2.1, l132.2).1, ((y23.2.1, l132.2).2.1, u0a))) (r := (TR.sl TrA)) 0 Tryz_ln22 rfl rfl (Or.inl rfl) rfl (VR.item 5 rfl) rfl (Upd.fst Upd.self) ?_
 refine RL.reL (L' := [obox 78 TrH v0 ((y23.2.1, l132.2).1, ((y23.2.1, l132.2).2.1, u0a)), obox 95 (TR.pair TR.str TR.int) u0a l132.2.2, keep X, obox 57 (TR.pair TR.int TR.int) v6 ((0 : Int), (0 : Int)), own 3 TR.int v25 y23.1, imm (TR.sl TrA) v26 y23.2.1]) rfl ?_
 refine RL.finG ?_
 refine GL.seq ?_
 refine GL.region ?_
 refine RL.mv rfl rfl rfl ?_
 refine RL.mv rfl rfl rfl ?_
 refine RL.nilk 0 rfl rfl rfl rfl PtOf.obox ?_
 refine RL.fadr (off := 0) (fo := 1) 0 Tryz_fld78_1 rfl rfl rfl PtOf.obox (Or.inr ⟨rfl, rfl⟩) ?_
 refine RL.ldP (off := (0 + 1)) (r := (TR.sl TrD)) (e' := (y23.2.1, l132.2).2.1) 0 Tryz_ln25 rfl rfl (Or.inl rfl) rfl PtOf.obox (Part.snd (Part.fst Part.self)) ?_
 intro v174
 refine RL.mv rfl rfl rfl ?_
 obtain ⟨y175, e176, h169⟩ := bind_some h169
 refine RL.call (vs := [v174, v26]) Tryz_fit15 rfl rfl rfl rfl rfl (fun S f w hS hW hi => queue_Clean_c S w hS _ _ (hi 6 _ rfl) _ _ (hi 5 _ rfl) _ e176) ?_
 intro v177
 refine RL.reL (L' := [obox 78 TrH v0 ((y23.2.1, l132.2).1, ((y23.2.1, l132.2).2.1, u0a)), obox 95 (TR.pair TR.str TR.int) u0a l132.2.2, keep X, obox 57 (TR.pair TR.int TR.int) v6 ((0 : Int), (0 : Int)), own 3 TR.int v25 y23.1, imm (TR.sl TrA) v26 y23.2.1, imm (TR.sl TrD) v174 ((y23.2.1, l132.2).2.1), own 24 TrD v177 y175.1]) rfl ?_
 refine RL.mv rfl rfl rfl ?_
 refine RL.ext rfl rfl rfl rfl ?_
 refine RL.ext rfl rfl rfl rfl ?_
 refine RL.nilk 0 rfl rfl rfl rfl PtOf.obox ?_
 refine RL.fadr (off := 0) (fo := 1) 0 Tryz_fld78_1 rfl rfl rfl PtOf.obox (Or.inr ⟨rfl, rfl⟩) ?_
 refine RL.weak (fun a w st => st.freeze 7 rfl) ?_
 refine RL.stP (off := (0 + 1)) (e' := y175.1) (d1 := (((y23.2.1, l132.2).1, (y175.1, (y23.2.1, l132.2).2.2)).1, (((y23.2.1, l132.2).1, (y175.1, (y23.2.1, l132.2).2.2)).2.1, u0a))) (r := (TR.sl TrD)) 0 Tryz_ln25 rfl rfl (Or.inl rfl) rfl (VR.item 7 rfl) rfl (Upd.snd (Upd.fst Upd.self)) ?_
 refine RL.reL (L' := [obox 78 TrH v0 (((y23.2.1, l132.2).1, (y175.1, (y23.2.1, l132.2).2.2)).1, (((y23.2.1, l132.2).1, (y175.1, (y23.2.1, l132.2).2.2)).2.1, u0a)), obox 95 (TR.pair TR.str TR.int) u0a l132.2.2, keep X, obox 57 (TR.pair TR.int TR.int) v6 ((0 : Int), (0 : Int)), own 3 TR.int v25 y23.1, imm (TR.sl TrA) v26 y23.2.1, imm (TR.sl TrD) v174 ((y23.2.1, l132.2).2.1), imm (TR.sl TrD) v177 y175.1]) rfl ?_
 refine RL.finG ?_
 refine GL.seq ?_
 refine GL.region ?_
 refine RL.mv rfl rfl rfl ?_
 refine RL.lenS 4 Tryz.underlying41 rfl rfl rfl rfl SlOf.own ?_
 refine RL.mv rfl rfl rfl ?_
 refine RL.bld (t := (TR.pair TR.int TR.int)) (d0 := ((((y23.1).length : Int), x38) : (Int × Int))) (pv := [(0, .int .i64 ((y23.1).length : Int)), (1, .int .i64 x38)]) rfl Tryz_bld57 rfl rfl rfl ⟨⟨_, _, TR.int, ((y23.1).length : Int), rfl, rfl, VR.int⟩, ⟨⟨_, _, TR.int, x38, rfl, rfl, VR.int⟩, trivial⟩⟩ (fun S f hi => by
   obtain ⟨c0, e0, r0⟩ := cells_vrep (t := TR.int) (u := .int .i64 ((y23.1).length : Int)) (e := ((y23.1).length : Int)) (VR.int S f hi)
   obtain ⟨c1, e1, r1⟩ := cells_vrep (t := TR.int) (u := .int .i64 x38) (e := x38) (VR.int S f hi)
   show TR.rep (TR.pair TR.int TR.int) S (List.flatten [(.int .i64 ((y23.1).length : Int) : Value).cells.toList, (.int .i64 x38 : Value).cells.toList]) _
   simp only [e0, e1,  List.flatten_cons, List.flatten_nil, List.append_nil]
   exact ⟨_, _, rfl, r0, r1⟩) ?_
 intro v179
 refine RL.stP (off := 0) (e' := ((((y23.1).length : Int), x38) : (Int × Int))) (d1 := ((((y23.1).length : Int), x38) : (Int × Int))) (r := (TR.pair TR.int TR.int)) 3 Tryz_ln57 rfl rfl (Or.inr ⟨rfl, rfl⟩) rfl (VR.item 8 rfl) rfl Upd.self ?_
 refine RL.reL (L' := [obox 78 TrH v0 (((y23.2.1, l132.2).1, (y175.1, (y23.2.1, l132.2).2.2)).1, (((y23.2.1, l132.2).1, (y175.1, (y23.2.1, l132.2).2.2)).2.1, u0a)), obox 95 (TR.pair TR.str TR.int) u0a l132.2.2, keep X, obox 57 (TR.pair TR.int TR.int) v6 ((((y23.1).length : Int), x38) : (Int × Int)), own 3 TR.int v25 y23.1, imm (TR.sl TrA) v26 y23.2.1, imm (TR.sl TrD) v174 ((y23.2.1, l132.2).2.1), imm (TR.sl TrD) v177 y175.1, imm (TR.pair TR.int TR.int) v179 ((((y23.1).length : Int), x38) : (Int × Int))]) rfl ?_
 refine RL.asg rfl rfl rfl ?_
 refine RL.finG ?_
 have h169 := Option.some.inj h169
 subst h169
 exact GL.ret (Gx.retX [.cell 4 57, .tmp 5] rfl (fun a w st => by
   have st0 := st
   obtain ⟨u180, hu180, st⟩ := st.cellRes (p := 4) (T := 57) 3 Tryz_ln57 rfl rfl rfl
   exact ⟨[u180, .int .i64 (0 : Int)], ⟨hu180, ⟨(ResTmp st0.env rfl), trivial⟩⟩, (st.pick [0, 1, 9, 2] (by decide) rfl).toPostM (V := fun (o : Value) => .tuple #[o, .int .i64 ((((((y23.1).length : Int), x38) : (Int × Int)), (0 : Int), (y23.2.1, (y175.1, l132.2.2))).2.1)]) (LR := fun (o : Value) => [obox 78 TrH v0 (((((((y23.1).length : Int), x38) : (Int × Int)), (0 : Int), (y23.2.1, (y175.1, l132.2.2))).2.2).1, (((((((y23.1).length : Int), x38) : (Int × Int)), (0 : Int), (y23.2.1, (y175.1, l132.2.2))).2.2).2.1, u0a)), obox 95 (TR.pair TR.str TR.int) u0a (((((((y23.1).length : Int), x38) : (Int × Int)), (0 : Int), (y23.2.1, (y175.1, l132.2.2))).2.2).2.2), imm (TR.pair TR.int TR.int) o ((((((y23.1).length : Int), x38) : (Int × Int)), (0 : Int), (y23.2.1, (y175.1, l132.2.2))).1), keep X]) u180⟩))

set_option maxHeartbeats 4000000 in
theorem log_Log_Sync_c (B : World) (S X : Hp) (f : Nat → Hp) (w : World) (v0 : Value) (x0 : ((List UInt8) × Int)) (hO : HeapOk B.heap.size S f [obox 95 (TR.pair TR.str TR.int) v0 x0, keep X].length w) (hB : Below B.heap.size B w) (hI : Its [obox 95 (TR.pair TR.str TR.int) v0 x0, keep X] S f)  (res : ((List UInt8) × Int)) (hm : log_Log_Sync_m x0 = some res) : Calls Tryz.prog 45 #[v0] w (PostM B S (fun (o : Unit) => .tuple #[]) (fun (o : Unit) => [obox 95 (TR.pair TR.str TR.int) v0 res, keep X])) := by
 refine calls_enterM 10 Tryz.func45 Tryz.ntmps45 rfl B S f [(0, v0)] [obox 95 (TR.pair TR.str TR.int) v0 x0, keep X] [] rfl ⟨rfl, trivial⟩ hB hO hI trivial ?_
 unfold log_Log_Sync_m at hm
 refine GL.region ?_
 refine RL.mv rfl rfl rfl ?_
 refine RL.mv rfl rfl rfl ?_
 refine RL.nilk 0 rfl rfl rfl rfl PtOf.obox ?_
 refine RL.fadr (off := 0) (fo := 0) 0 Tryz_fld95_0 rfl rfl rfl PtOf.obox (Or.inr ⟨rfl, rfl⟩) ?_
 refine RL.ldPx (off := (0 + 0)) (e' := x0.1) 0 Ex.str Tryz_ln9 rfl rfl (Or.inl rfl) rfl PtOf.obox (Part.fst Part.self) ?_
 refine RL.lenT Tryz.underlying9 rfl rfl rfl ?_
 refine RL.nilk 0 rfl rfl rfl rfl PtOf.obox ?_
 refine RL.fadr (off := 0) (fo := 1) 0 Tryz_fld95_1 rfl rfl rfl PtOf.obox (Or.inr ⟨rfl, rfl⟩) ?_
 refine RL.stP (off := (0 + 1)) (e' := ((x0.1).length : Int)) (d1 := (x0.1, ((x0.1).length : Int))) (r := TR.int) 0 Tryz_ln3 rfl rfl (Or.inl rfl) rfl VR.int rfl (Upd.snd Upd.self) ?_
 refine RL.finG ?_
 have hm := Option.some.inj hm
 subst hm
 exact GL.nil (Gx.retN (v := .tuple #[]) (res0 rfl) (fun a w st => (st.pick [0, 1] (by decide) rfl).toPostM (V := fun (o : Unit) => .tuple #[]) (LR := fun (o : Unit) => [obox 95 (TR.pair TR.str TR.int) v0 (x0.1, ((x0.1).length : Int)), keep X]) ()))

set_option maxHeartbeats 4000000 in
theorem log_Scan_c (S : Hp) (w : World) (hS : S.sub w) (x0 : (List UInt8)) (res : (List (List UInt8)) × Int) (hm : log_Scan_m x0 = some res) : Calls Tryz.prog 61 #[.string ⟨(x0 : List UInt8).toArray⟩] w (Post w S (fun (o : Value) => .tuple #[o, .int .i64 res.2]) (fun (o : Value) => [own 9 TR.str o res.1])) := by
 refine calls_enter 73 Tryz.func61 Tryz.ntmps61 rfl S false [(0, .string ⟨(x0 : List UInt8).toArray⟩)] [] rfl ⟨rfl, trivial⟩ hS trivial ?_
 unfold log_Scan_m at hm
 refine GL.seq ?_
 refine GL.region ?_
 refine RL.asg rfl rfl rfl ?_
 refine RL.asg rfl rfl rfl ?_
 refine RL.finG ?_
 refine GL.seq ?_
 refine GL.region ?_
 refine RL.asg rfl rfl rfl ?_
 refine RL.finG ?_
 refine GL.seq ?_
 refine GL.region ?_
 refine RL.asg rfl rfl rfl ?_
 refine RL.finG ?_
 refine GL.seq ?_
 refine GL.weak (fun a w st => st.nilOwn 9 TR.str) ?_
 obtain ⟨y76, K77, h78, h79, h80, h81, h82⟩ := bindR_K hm
 refine GL.join (ι := (List (List UInt8)) × Int × Value) (fun (p : (List (List UInt8)) × Int × Value) => [(4, p.2.2), (5, .int .i64 p.2.1)]) (fun (p : (List (List UInt8)) × Int × Value) => [own 9 TR.str p.2.2 p.1]) (fun (p : (List (List UInt8)) × Int × Value) => K77 (.nx (p.1, p.2.1))) ?_ ?_
 ·refine GL.block ?_
  refine GL.loop (ι := Nat × (List (List UInt8)) × Int × Value) (fun (p : Nat × (List (List UInt8)) × Int × Value) => [(0, .string ⟨(x0 : List UInt8).toArray⟩), (4, p.2.2.2), (5, .int .i64 p.2.2.1)]) (fun (p : Nat × (List (List UInt8)) × Int × Value) => [own 9 TR.str p.2.2.2 p.2.1]) (fun (p : Nat × (List (List UInt8)) × Int × Value) => loopM (log_Scan_b1 x0) p.1 (p.2.1, p.2.2.1) = some y76) (fun (p : Nat × (List (List UInt8)) × Int × Value) => p.1) (9223372036854775808, [], (0 : Int), Value.slice none 0 0) h78 (fun a w st => St.cut [0] ⟨rfl, rfl, rfl, trivial⟩ (by decide) rfl st) ?_
  rintro ⟨r84, l2, x4, v3⟩ h88
  try dsimp only at h88
  refine GL.weak (env' := [(0, .string ⟨(x0 : List UInt8).toArray⟩), (4, v3), (5, .int .i64 x4)]) (L' := [own 9 TR.str v3 l2]) (fun _ _ st => st) ?_
  obtain ⟨r91, z85, hr, h86, h87⟩ := loopM_some h88
  subst hr
  unfold log_Scan_b1 at h86
  try dsimp only at h86
  refine GL.seq ?_
  refine GL.seq ?_
  refine GL.region ?_
  refine RL.mv rfl rfl rfl ?_
  refine RL.mv rfl rfl rfl ?_
  refine RL.lenT Tryz.underlying9 rfl rfl rfl ?_
  refine RL.binI (v := .bool (decide (x4 < ((x0).length : Int)))) rfl rfl rfl rfl rfl ?_
  refine RL.finG ?_
  refine GL.cond rfl (fun b92 => ?_) (fun b92 => ?_)
  ·replace h86 := ite_t b92 h86
   refine GL.skip ?_
   refine GL.block ?_
   refine GL.seq ?_
   refine GL.region ?_
   refine RL.mv rfl rfl rfl ?_
   refine RL.mv rfl rfl rfl ?_
   obtain ⟨y95, e96, h86⟩ := bind_some h86
   refine RL.idxT Tryz.underlying9 rfl rfl rfl rfl (idx_some e96).1 (idx_some e96).2.2 ?_
   refine RL.cvI Tryz.underlying5 Tryz.underlying3 rfl rfl rfl ?_
   refine RL.asg rfl rfl rfl ?_
   refine RL.finG ?_
   refine GL.seq ?_
   refine GL.seq ?_
   obtain ⟨y100, K101, h102, h103, h104, h105, h106⟩ := bindF_K h86
   refine GL.join (ι := Bool) (fun (p : Bool) => [(0, .string ⟨(x0 : List UInt8).toArray⟩), (4, v3), (5, .int .i64 x4), (6, .int .i64 (IntKind.wrap .i64 (y95.toNat : Int))), (26, .bool p)]) (fun (p : Bool) => [own 9 TR.str v3 l2]) (fun (p : Bool) => K101 (.nx p)) ?_ ?_
   ·skip
    refine GL.region ?_
    refine RL.mv rfl rfl rfl ?_
    refine RL.binI (v := .bool (decide ((IntKind.wrap .i64 (y95.toNat : Int)) > (64 : Int)))) rfl rfl rfl rfl rfl ?_
    refine RL.mv rfl rfl rfl ?_
    refine RL.split (t := 18) rfl (fun b107 => ?_) (fun b107 => ?_)
    ·replace h102 := ite_t b107 h102
     refine RL.skip rfl rfl ?_
     refine RL.skip rfl rfl ?_
     refine RL.skip rfl rfl ?_
     refine RL.skip rfl rfl ?_
     refine RL.skip rfl rfl ?_
     refine RL.skip rfl rfl ?_
     refine RL.skip rfl rfl ?_
     refine RL.pickT rfl rfl rfl rfl ?_
     refine RL.fin ?_
     cases h102
     exact fun a w st => mid_intro true h103 (St.cut [0] ⟨rfl, rfl, rfl, rfl, rfl, trivial⟩ (by decide) rfl st)
    replace h102 := ite_f b107 h102
    refine RL.mv rfl rfl rfl ?_
    refine RL.lenT Tryz.underlying9 rfl rfl rfl ?_
    refine RL.mv rfl rfl rfl ?_
    refine RL.binI (v := .int .i64 (wsub ((x0).length : Int) x4)) rfl rfl rfl rfl rfl ?_
    refine RL.mv rfl rfl rfl ?_
    refine RL.binI (v := .int .i64 (wadd (IntKind.wrap .i64 (y95.toNat : Int)) (3 : Int))) rfl rfl rfl rfl rfl ?_
    refine RL.binI (v := .bool (decide ((wsub ((x0).length : Int) x4) < (wadd (IntKind.wrap .i64 (y95.toNat : Int)) (3 : Int))))) rfl rfl rfl rfl rfl ?_
    refine RL.pickF rfl rfl rfl rfl ?_
    refine RL.fin ?_
    cases h102
    exact fun a w st => mid_intro (decide ((wsub ((x0).length : Int) x4) < (wadd (IntKind.wrap .i64 (y95.toNat : Int)) (3 : Int)))) h103 (St.cut [0] ⟨rfl, rfl, rfl, rfl, rfl, trivial⟩ (by decide) rfl st)
   rintro x99 h108
   have h109 := h104 _ h108
   try dsimp only at h109
   refine GL.weak (env' := [(0, .string ⟨(x0 : List UInt8).toArray⟩), (4, v3), (5, .int .i64 x4), (6, .int .i64 (IntKind.wrap .i64 (y95.toNat : Int))), (26, .bool x99)]) (L' := [own 9 TR.str v3 l2]) (fun _ _ st => st) ?_
   refine GL.cond rfl (fun b110 => ?_) (fun b110 => ?_)
   ·replace h109 := ite_t b110 h109
    cases h109
    replace h87 : some (Fl.nx _) = some y76 := h87
    cases h87
    exact GL.exit (fun a w st => mid_intro (l2, x4, v3) h79 (St.cut [0] ⟨rfl, rfl, trivial⟩ (by decide) rfl st))
   replace h109 := ite_f b110 h109
   refine GL.skip ?_
   refine GL.seq ?_
   refine GL.region ?_
   refine RL.mv rfl rfl rfl ?_
   refine RL.mv rfl rfl rfl ?_
   refine RL.mv rfl rfl rfl ?_
   refine RL.mv rfl rfl rfl ?_
   refine RL.binI (v := .int .i64 (wadd x4 (IntKind.wrap .i64 (y95.toNat : Int)))) rfl rfl rfl rfl rfl ?_
   refine RL.binI (v := .int .i64 (wadd (wadd x4 (IntKind.wrap .i64 (y95.toNat : Int))) (1 : Int))) rfl rfl rfl rfl rfl ?_
   obtain ⟨y115, e116, h109⟩ := bind_some h109
   replace e116 := chk_some e116
   refine RL.cutT (i := (x4).toNat) (j := (wadd (wadd x4 (IntKind.wrap .i64 (y95.toNat : Int))) (1 : Int)).toNat) Tryz.underlying9 rfl rfl rfl (Or.inr ⟨_, _, rfl, by rw [Int.toNat_of_nonneg (by omega)]; rfl⟩) (Or.inr ⟨_, _, rfl, by rw [Int.toNat_of_nonneg (by omega)]; rfl⟩) (by omega) (by omega) ?_
   obtain ⟨y117, e118, h109⟩ := bind_some h109
   refine RL.callV (v := .int .u16 y117) (vs := [.string ⟨((List.take ((wadd (wadd x4 (IntKind.wrap .i64 (y95.toNat : Int))) (1 : Int)).toNat) x0).drop ((x4).toNat) : List UInt8).toArray⟩]) Tryz_fit79 rfl (Or.inl rfl) rfl rfl rfl rfl (fun U w hU hW hL => log_Sum_c U w hU ((List.take ((wadd (wadd x4 (IntKind.wrap .i64 (y95.toNat : Int))) (1 : Int)).toNat) x0).drop ((x4).toNat)) _ e118) ?_
   refine RL.asg rfl rfl rfl ?_
   refine RL.finG ?_
   refine GL.seq ?_
   refine GL.seq ?_
   obtain ⟨y134, K135, h136, h137, h138, h139, h140⟩ := bindF_K h109
   refine GL.join (ι := Bool) (fun (p : Bool) => [(0, .string ⟨(x0 : List UInt8).toArray⟩), (4, v3), (5, .int .i64 x4), (6, .int .i64 (IntKind.wrap .i64 (y95.toNat : Int))), (55, .bool p)]) (fun (p : Bool) => [own 9 TR.str v3 l2]) (fun (p : Bool) => K135 (.nx p)) ?_ ?_
   ·skip
    refine GL.region ?_
    refine RL.mv rfl rfl rfl ?_
    refine RL.mv rfl rfl rfl ?_
    refine RL.mv rfl rfl rfl ?_
    refine RL.binI (v := .int .i64 (wadd x4 (IntKind.wrap .i64 (y95.toNat : Int)))) rfl rfl rfl rfl rfl ?_
    refine RL.binI (v := .int .i64 (wadd (wadd x4 (IntKind.wrap .i64 (y95.toNat : Int))) (1 : Int))) rfl rfl rfl rfl rfl ?_
    obtain ⟨y141, e142, h136⟩ := bind_some h136
    refine RL.idxT Tryz.underlying9 rfl rfl rfl rfl (idx_some e142).1 (idx_some e142).2.2 ?_
    refine RL.mv rfl rfl rfl ?_
    obtain ⟨y143, e144, h136⟩ := bind_some h136
    replace e144 := chk_some e144
    refine RL.sh (by simp) rfl rfl rfl rfl e144 ?_
    refine RL.cvI Tryz.underlying126 Tryz.underlying5 rfl rfl rfl ?_
    refine RL.binI (v := .bool ((y141.toNat : Int) != (IntKind.wrap .u8 (Int.fdiv y117 (2 ^ (min (8 : Int).toNat (IntKind.bits .u16))))))) rfl rfl rfl rfl rfl ?_
    refine RL.mv rfl rfl rfl ?_
    refine RL.split (t := 45) rfl (fun b145 => ?_) (fun b145 => ?_)
    ·replace h136 := ite_t b145 h136
     refine RL.skip rfl rfl ?_
     refine RL.skip rfl rfl ?_
     refine RL.skip rfl rfl ?_
     refine RL.skip rfl rfl ?_
     refine RL.skip rfl rfl ?_
     refine RL.skip rfl rfl ?_
     refine RL.skip rfl rfl ?_
     refine RL.skip rfl rfl ?_
     refine RL.skip rfl rfl ?_
     refine RL.pickT rfl rfl rfl rfl ?_
     refine RL.fin ?_
     cases h136
     exact fun a w st => mid_intro true h137 (St.cut [0] ⟨rfl, rfl, rfl, rfl, rfl, trivial⟩ (by decide) rfl st)
    replace h136 := ite_f b145 h136
    refine RL.mv rfl rfl rfl ?_
    refine RL.mv rfl rfl rfl ?_
    refine RL.mv rfl rfl rfl ?_
    refine RL.binI (v := .int .i64 (wadd x4 (IntKind.wrap .i64 (y95.toNat : Int)))) rfl rfl rfl rfl rfl ?_
    refine RL.binI (v := .int .i64 (wadd (wadd x4 (IntKind.wrap .i64 (y95.toNat : Int))) (2 : Int))) rfl rfl rfl rfl rfl ?_
    obtain ⟨y146, e147, h136⟩ := bind_some h136
    refine RL.idxT Tryz.underlying9 rfl rfl rfl rfl (idx_some e147).1 (idx_some e147).2.2 ?_
    refine RL.mv rfl rfl rfl ?_
    refine RL.cvI Tryz.underlying126 Tryz.underlying5 rfl rfl rfl ?_
    refine RL.binI (v := .bool ((y146.toNat : Int) != (IntKind.wrap .u8 y117))) rfl rfl rfl rfl rfl ?_
    refine RL.pickF rfl rfl rfl rfl ?_
    refine RL.fin ?_
    cases h136
    exact fun a w st => mid_intro ((y146.toNat : Int) != (IntKind.wrap .u8 y117)) h137 (St.cut [0] ⟨rfl, rfl, rfl, rfl, rfl, trivial⟩ (by decide) rfl st)
   rintro x133 h148
   have h149 := h138 _ h148
   try dsimp only at h149
   refine GL.weak (env' := [(0, .string ⟨(x0 : List UInt8).toArray⟩), (4, v3), (5, .int .i64 x4), (6, .int .i64 (IntKind.wrap .i64 (y95.toNat : Int))), (55, .bool x133)]) (L' := [own 9 TR.str v3 l2]) (fun _ _ st => st) ?_
   refine GL.cond rfl (fun b150 => ?_) (fun b150 => ?_)
   ·replace h149 := ite_t b150 h149
    cases h149
    replace h87 : some (Fl.nx _) = some y76 := h87
    cases h87
    exact GL.exit (fun a w st => mid_intro (l2, x4, v3) h79 (St.cut [0] ⟨rfl, rfl, trivial⟩ (by decide) rfl st))
   replace h149 := ite_f b150 h149
   refine GL.skip ?_
   refine GL.seq ?_
   refine GL.region ?_
   refine RL.mv rfl rfl rfl ?_
   refine RL.mv rfl rfl rfl ?_
   refine RL.mv rfl rfl rfl ?_
   refine RL.binI (v := .int .i64 (wadd x4 (1 : Int))) rfl rfl rfl rfl rfl ?_
   refine RL.mv rfl rfl rfl ?_
   refine RL.binI (v := .int .i64 (wadd x4 (1 : Int))) rfl rfl rfl rfl rfl ?_
   refine RL.mv rfl rfl rfl ?_
   refine RL.binI (v := .int .i64 (wadd (wadd x4 (1 : Int)) (IntKind.wrap .i64 (y95.toNat : Int)))) rfl rfl rfl rfl rfl ?_
   obtain ⟨y157, e158, h149⟩ := bind_some h149
   replace e158 := chk_some e158
   refine RL.cutT (i := (wadd x4 (1 : Int)).toNat) (j := (wadd (wadd x4 (1 : Int)) (IntKind.wrap .i64 (y95.toNat : Int))).toNat) Tryz.underlying9 rfl rfl rfl (Or.inr ⟨_, _, rfl, by rw [Int.toNat_of_nonneg (by omega)]; rfl⟩) (Or.inr ⟨_, _, rfl, by rw [Int.toNat_of_nonneg (by omega)]; rfl⟩) (by omega) (by omega) ?_
   refine RL.bS (t := TR.str) (vs := [.string ⟨((List.take ((wadd (wadd x4 (1 : Int)) (IntKind.wrap .i64 (y95.toNat : Int))).toNat) x0).drop ((wadd x4 (1 : Int)).toNat) : List UInt8).toArray⟩]) ([(List.take ((wadd (wadd x4 (1 : Int)) (IntKind.wrap .i64 (y95.toNat : Int))).toNat) x0).drop ((wadd x4 (1 : Int)).toNat)] : (List (List UInt8))) Tryz.underlying98 Tryz_lo9 rfl rfl rfl rfl ⟨VR.str, trivial⟩ rfl (by decide) ?_
   intro v159
   obtain ⟨y160, e161, h149⟩ := bind_some h149
   replace e161 := chk_some e161
   refine RL.appB 0 1 Tryz.underlying98 Tryz_lo9 rfl rfl rfl rfl rfl rfl rfl SlOf.own (RoomN.of (N := 8796093022208) Tryz_info9 (by decide) (by decide)) e161 ?_
   intro v162
   refine RL.reL (L' := [own 9 TR.str v162 (l2 ++ ([(List.take ((wadd (wadd x4 (1 : Int)) (IntKind.wrap .i64 (y95.toNat : Int))).toNat) x0).drop ((wadd x4 (1 : Int)).toNat)] : (List (List UInt8)))), own 9 TR.str v159 ([(List.take ((wadd (wadd x4 (1 : Int)) (IntKind.wrap .i64 (y95.toNat : Int))).toNat) x0).drop ((wadd x4 (1 : Int)).toNat)] : (List (List UInt8)))]) rfl ?_
   refine RL.asg rfl rfl rfl ?_
   refine RL.finG ?_
   refine GL.region ?_
   refine RL.mv rfl rfl rfl ?_
   refine RL.mv rfl rfl rfl ?_
   refine RL.binI (v := .int .i64 (wadd (IntKind.wrap .i64 (y95.toNat : Int)) (3 : Int))) rfl rfl rfl rfl rfl ?_
   refine RL.binI (v := .int .i64 (wadd x4 (wadd (IntKind.wrap .i64 (y95.toNat : Int)) (3 : Int)))) rfl rfl rfl rfl rfl ?_
   refine RL.asg rfl rfl rfl ?_
   refine RL.finG ?_
   refine GL.nilB ?_
   cases h149
   exact fun a w st => lop_intro (r91, (l2 ++ ([(List.take ((wadd (wadd x4 (1 : Int)) (IntKind.wrap .i64 (y95.toNat : Int))).toNat) x0).drop ((wadd x4 (1 : Int)).toNat)] : (List (List UInt8)))), wadd x4 (wadd (IntKind.wrap .i64 (y95.toNat : Int)) (3 : Int)), v162) (by exact h87) (by simp) (St.cut [0] ⟨rfl, rfl, rfl, trivial⟩ (by decide) rfl st)
  replace h86 := ite_f b92 h86
  cases h86
  replace h87 : some (Fl.nx _) = some y76 := h87
  cases h87
  exact GL.exit (fun a w st => mid_intro (l2, x4, v3) h79 (St.cut [0] ⟨rfl, rfl, trivial⟩ (by decide) rfl st))
 rintro ⟨l2, x4, v3⟩ h163
 have h164 := h80 _ h163
 try dsimp only at h164
 refine GL.weak (env' := [(4, v3), (5, .int .i64 x4)]) (L' := [own 9 TR.str v3 l2]) (fun _ _ st => st) ?_
 refine GL.seq ?_
 refine GL.region ?_
 refine RL.mv rfl rfl rfl ?_
 refine RL.mv rfl rfl rfl ?_
 refine RL.asg rfl rfl rfl ?_
 refine RL.asg rfl rfl rfl ?_
 refine RL.finG ?_
 have h164 := Option.some.inj h164
 subst h164
 exact GL.ret (Gx.ret (v := .tuple #[v3, .int .i64 x4]) (res2 rfl rfl rfl) (fun a w st => (st.pick [0] (by decide) rfl).toPost v3))
end Go.Wk
