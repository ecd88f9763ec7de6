/- Each function comes to what its model says; printed by a program of this repository. -/
import Derived.Test.YtfekdillbgblkaaProg
import Derived.Test.YtfekdillbgblkaaWLogBackModels
import Derived.Test.YtfekdillbgblkaaFwY
namespace Go.Wk
open Go.Fw Go.Mo Go.Proofs Go.RowKit
set_option linter.all false
set_option maxRecDepth 100000
theorem loopNx {ρ σ β γ : Type} {body : σ → Option (Fl ρ β σ)} {n : Nat} {s : σ} {y : Fl ρ γ β} (h : stepM body n (.nx s) = some y) : loopM body n s = some y := h
theorem Try_info3 : (Try.prog.info? 3).map (fun i => (i.zero, i.size, i.bytes)) = some (some (.int .i64 0), 1, 8) := by kernel_rfl
theorem Try_ln3 : Ln Try.prog 3 1 false := Ln.of Try_info3 Try.underlying3 rfl
theorem Try_lo3 : LnO Try.prog 3 1 [.int .i64 0] := LnO.of Try_info3 rfl rfl (by decide) (by decide)
theorem Try_info5 : (Try.prog.info? 5).map (fun i => (i.zero, i.size, i.bytes)) = some (some (.int .u8 0), 1, 1) := by kernel_rfl
theorem Try_ln5 : Ln Try.prog 5 1 false := Ln.of Try_info5 Try.underlying5 rfl
theorem Try_lo5 : LnO Try.prog 5 1 [.int .u8 0] := LnO.of Try_info5 rfl rfl (by decide) (by decide)
theorem Try_info9 : (Try.prog.info? 9).map (fun i => (i.zero, i.size, i.bytes)) = some (some (.string ⟨#[]⟩), 1, 16) := by kernel_rfl
theorem Try_ln9 : Ln Try.prog 9 1 false := Ln.of Try_info9 Try.underlying9 rfl
theorem Try_lo9 : LnO Try.prog 9 1 [.string ⟨#[]⟩] := LnO.of Try_info9 rfl rfl (by decide) (by decide)
theorem Try_bld142 (pv : List (Nat × Value)) : Try.prog.built 142 pv = Instr.fill ((mkPlaces 0 [[.string ⟨#[]⟩], [.int .i64 0]]).toArray[·]?) (List.flatten [[.string ⟨#[]⟩], [.int .i64 0]]).toArray pv := by kernel_rfl
theorem Try_fit10 : Fit Try.prog 10 := Fit.of Try.func10 (by kernel_rfl) rfl
theorem Try_fit11 : Fit Try.prog 11 := Fit.of Try.func11 (by kernel_rfl) rfl
theorem Try_fit12 : Fit Try.prog 12 := Fit.of Try.func12 (by kernel_rfl) rfl
theorem Try_fit13 : Fit Try.prog 13 := Fit.of Try.func13 (by kernel_rfl) rfl
theorem Try_fit14 : Fit Try.prog 14 := Fit.of Try.func14 (by kernel_rfl) rfl
theorem Try_fit74 : Fit Try.prog 74 := Fit.of Try.func74 (by kernel_rfl) rfl
theorem Try_fit75 : Fit Try.prog 75 := Fit.of Try.func75 (by kernel_rfl) rfl
theorem Try_fit76 : Fit Try.prog 76 := Fit.of Try.func76 (by kernel_rfl) rfl
theorem Try_fit77 : Fit Try.prog 77 := Fit.of Try.func77 (by kernel_rfl) rfl
theorem Try_fit78 : Fit Try.prog 78 := Fit.of Try.func78 (by kernel_rfl) rfl
theorem Try_fit79 : Fit Try.prog 79 := Fit.of Try.func79 (by kernel_rfl) rfl
theorem Try_fit80 : Fit Try.prog 80 := Fit.of Try.func80 (by kernel_rfl) rfl
theorem Try_fld142_0 (ad : Addr) (w : World) : (Instr.fieldAt 142 (.pointer (some ad)) 0).run Try.prog w = .ok (.pointer (some (ad.add 0))) w := by
  simp [Instr.fieldAt, run_underlying Try.underlying142, Instr.sureAddr, fieldPlace, Fw.run_sizeOf Try_ln9]
theorem Try_fld142_1 (ad : Addr) (w : World) : (Instr.fieldAt 142 (.pointer (some ad)) 1).run Try.prog w = .ok (.pointer (some (ad.add 1))) w := by
  simp [Instr.fieldAt, run_underlying Try.underlying142, Instr.sureAddr, fieldPlace, Fw.run_sizeOf Try_ln3]

set_option maxHeartbeats 4000000 in
theorem log_New_c (S : Hp) (w : World) (hS : S.sub w)  (res : ((List UInt8) × Int)) (hm : log_New_m = some res) : Calls Try.prog 74 #[] w (Post w S (fun (o : Value) => o) (fun (o : Value) => [obox 142 (TR.pair TR.str TR.int) o res])) := by
 refine calls_enter 3 Try.func74 Try.ntmps74 rfl S false [] [] rfl trivial hS trivial ?_
 unfold log_New_m at hm
 refine GL.seq ?_
 refine GL.region ?_
 refine RL.asg rfl rfl rfl ?_
 refine RL.finG ?_
 refine GL.seq ?_
 refine GL.region ?_
 refine RL.bld (t := (TR.pair TR.str TR.int)) (d0 := ((([] : List UInt8), (0 : Int)) : ((List UInt8) × Int))) (pv := []) rfl Try_bld142 rfl rfl rfl trivial (fun S f hi => by
   show TR.rep (TR.pair TR.str TR.int) S (List.flatten [[.string ⟨#[]⟩], [.int .i64 0]]) _
   simp only [ List.flatten_cons, List.flatten_nil, List.append_nil]
   exact ⟨_, _, rfl, rfl, rfl⟩) ?_
 intro v3
 refine RL.box (t := (TR.pair TR.str TR.int)) (e := ((([] : List UInt8), (0 : Int)) : ((List UInt8) × Int))) rfl rfl rfl rfl (VR.item 0 rfl) ?_
 intro v4
 refine RL.reL (L' := [imm (TR.pair TR.str TR.int) v3 ((([] : List UInt8), (0 : Int)) : ((List UInt8) × Int)), obox 142 (TR.pair TR.str TR.int) v4 ((([] : List UInt8), (0 : Int)) : ((List UInt8) × Int))]) rfl ?_
 refine RL.asg rfl rfl rfl ?_
 refine RL.finG ?_
 have hm := Option.some.inj hm
 subst hm
 exact GL.ret (Gx.ret (v := v4) (res1 rfl rfl) (fun a w st => (st.pick [1] (by decide) rfl).toPost v4))

set_option maxHeartbeats 4000000 in
theorem log_Sum_c (S : Hp) (w : World) (hS : S.sub w) (x0 : (List UInt8)) (res : Int) (hm : log_Sum_m x0 = some res) : Calls Try.prog 79 #[.string ⟨(x0 : List UInt8).toArray⟩] w (PostV w (.int .u16 res)) := by
 refine calls_enter 31 Try.func79 Try.ntmps79 rfl S false [(0, .string ⟨(x0 : List UInt8).toArray⟩)] [] rfl ⟨rfl, trivial⟩ hS trivial ?_
 unfold log_Sum_m at hm
 refine GL.seq ?_
 refine GL.region ?_
 refine RL.asg rfl rfl rfl ?_
 refine RL.finG ?_
 refine GL.seq ?_
 refine GL.region ?_
 refine RL.asg rfl rfl rfl ?_
 refine RL.finG ?_
 refine GL.seq ?_
 refine GL.seq ?_
 refine GL.region ?_
 refine RL.mv rfl rfl rfl ?_
 obtain ⟨y5, e6, hm⟩ := bind_some hm
 replace e6 := chk_some e6
 refine RL.cvSB Try.underlying9 Try.underlying97 Try.underlying5 rfl rfl rfl rfl e6 ?_
 intro v7
 refine RL.lenS 0 Try.underlying97 rfl rfl rfl rfl SlOf.imm ?_
 refine RL.mv rfl rfl rfl ?_
 refine RL.finG ?_
 refine GL.open_ 0 rfl (fun S h => len_imm S h) (fun n65 => ?_)
 obtain ⟨y66, K67, h68, h69, h70, h71, h72⟩ := bindR_K hm
 refine GL.join (ι := Int) (fun (p : Int) => [(3, .int .u16 p)]) (fun (p : Int) => []) (fun (p : Int) => K67 (.nx p)) ?_ ?_
 ·refine GL.block ?_
  refine GL.loop (ι := Nat × (List Int) × Int) (fun (p : Nat × (List Int) × Int) => [(3, .int .u16 p.2.2), (7, v7), (8, .int .i64 (((intsOf x0)).length : Int)), (9, .int .i64 (p.1 : Int))]) (fun (p : Nat × (List Int) × Int) => [imm (TR.sl (TR.ik .u8)) v7 (intsOf x0)]) (fun (p : Nat × (List Int) × Int) => p.1 + p.2.1.length = ((intsOf x0)).length ∧ List.drop p.1 (intsOf x0) = p.2.1 ∧ rangeL log_Sum_b1 p.2.1 p.1 p.2.2 = some y66) (fun (p : Nat × (List Int) × Int) => p.2.1.length) (0, (intsOf x0), (65535 : Int)) ⟨by simp, by simp, h68⟩ (fun a w st => St.cut [0] ⟨rfl, rfl, rfl, rfl, trivial⟩ (by decide) rfl st) ?_
  rintro ⟨i73, r74, x8⟩ ⟨h79, h80, h78⟩
  try dsimp only at h79 h80 h78
  refine GL.weak (env' := [(3, .int .u16 x8), (7, v7), (8, .int .i64 (((intsOf x0)).length : Int)), (9, .int .i64 (i73 : Int))]) (L' := [imm (TR.sl (TR.ik .u8)) v7 (intsOf x0)]) (fun _ _ st => st) ?_
  refine GL.seq ?_
  refine GL.region ?_
  refine RL.binI (v := .bool (decide ((i73 : Int) < (((intsOf x0)).length : Int)))) rfl rfl rfl rfl rfl ?_
  refine RL.finG ?_
  refine GL.seq ?_
  refine GL.cond rfl (fun b81 => ?_) (fun b81 => ?_)
  ·have h82 : i73 < ((intsOf x0)).length := by have := of_decide_eq_true b81; omega
   obtain ⟨y83, r85, hr, e84, h86⟩ := drop_cons h80 rfl h82
   subst hr
   obtain ⟨z75, h76, h77⟩ := rangeL_some h78
   unfold log_Sum_b1 at h76
   try dsimp only at h76
   refine GL.skip ?_
   refine GL.seq ?_
   refine GL.block ?_
   refine GL.seq ?_
   refine GL.region ?_
   refine RL.idxS (sz := 1) 0 Try.underlying97 Try_ln5 rfl rfl rfl rfl rfl SlOf.imm (by omega) (by omega) ?_
   refine RL.ldSx (i := i73) (e' := y83) 0 Ex.ik Try_ln5 rfl rfl rfl rfl SlOf.imm e84 Part.self ?_
   refine RL.asg rfl rfl rfl ?_
   refine RL.finG ?_
   refine GL.seq ?_
   refine GL.region ?_
   refine RL.mv rfl rfl rfl ?_
   refine RL.mv rfl rfl rfl ?_
   refine RL.cvI Try.underlying5 Try.underlying95 rfl rfl rfl ?_
   obtain ⟨y89, e90, h76⟩ := bind_some h76
   replace e90 := chk_some e90
   refine RL.sh (by simp) rfl rfl rfl rfl e90 ?_
   refine RL.binI (v := .int .u16 (bits .xor .u16 x8 (IntKind.wrap .u16 ((IntKind.wrap .u16 y83) * 2 ^ (min (8 : Int).toNat (IntKind.bits .u16)))))) rfl rfl rfl rfl rfl ?_
   refine RL.asg rfl rfl rfl ?_
   refine RL.finG ?_
   refine GL.seq ?_
   refine GL.region ?_
   refine RL.mv rfl rfl rfl ?_
   refine RL.finG ?_
   obtain ⟨y107, K108, h109, h110, h111, h112, h113⟩ := bindF_K h76
   refine GL.join (ι := Int × Int) (fun (p : Int × Int) => [(3, .int .u16 p.1), (7, v7), (8, .int .i64 (((intsOf x0)).length : Int)), (9, .int .i64 (i73 : Int))]) (fun (p : Int × Int) => [imm (TR.sl (TR.ik .u8)) v7 (intsOf x0)]) (fun (p : Int × Int) => K108 (.nx (p.1, p.2))) ?_ ?_
   ·refine GL.block ?_
    refine GL.loop (ι := Nat × Int × Int) (fun (p : Nat × Int × Int) => [(3, .int .u16 p.2.1), (7, v7), (8, .int .i64 (((intsOf x0)).length : Int)), (9, .int .i64 (i73 : Int)), (18, .int .i64 p.2.2)]) (fun (p : Nat × Int × Int) => [imm (TR.sl (TR.ik .u8)) v7 (intsOf x0)]) (fun (p : Nat × Int × Int) => loopM log_Sum_b2 p.1 (p.2.1, p.2.2) = some y107) (fun (p : Nat × Int × Int) => p.1) (1048576, bits .xor .u16 x8 (IntKind.wrap .u16 ((IntKind.wrap .u16 y83) * 2 ^ (min (8 : Int).toNat (IntKind.bits .u16)))), (0 : Int)) h109 (fun a w st => St.cut [0] ⟨rfl, rfl, rfl, rfl, rfl, trivial⟩ (by decide) rfl st) ?_
    rintro ⟨r115, x91, x92⟩ h119
    try dsimp only at h119
    refine GL.weak (env' := [(3, .int .u16 x91), (7, v7), (8, .int .i64 (((intsOf x0)).length : Int)), (9, .int .i64 (i73 : Int)), (18, .int .i64 x92)]) (L' := [imm (TR.sl (TR.ik .u8)) v7 (intsOf x0)]) (fun _ _ st => st) ?_
    obtain ⟨r122, z116, hr, h117, h118⟩ := loopM_some h119
    subst hr
    unfold log_Sum_b2 at h117
    try dsimp only at h117
    refine GL.seq ?_
    refine GL.region ?_
    refine RL.binI (v := .bool (decide (x92 < (8 : Int)))) rfl rfl rfl rfl rfl ?_
    refine RL.finG ?_
    refine GL.seq ?_
    refine GL.cond rfl (fun b123 => ?_) (fun b123 => ?_)
    ·replace h117 := ite_t b123 h117
     refine GL.skip ?_
     refine GL.seq ?_
     refine GL.block ?_
     refine GL.seq ?_
     refine GL.region ?_
     refine RL.mv rfl rfl rfl ?_
     obtain ⟨y126, e127, h117⟩ := bind_some h117
     replace e127 := chk_some e127
     refine RL.sh (by simp) rfl rfl rfl rfl e127 ?_
     refine RL.binI (v := .bool ((Int.fdiv x91 (2 ^ (min (15 : Int).toNat (IntKind.bits .u16)))) == (1 : Int))) rfl rfl rfl rfl rfl ?_
     refine RL.finG ?_
     refine GL.cond rfl (fun b128 => ?_) (fun b128 => ?_)
     ·replace h117 := ite_t b128 h117
      refine GL.region ?_
      refine RL.mv rfl rfl rfl ?_
      obtain ⟨y131, e132, h117⟩ := bind_some h117
      replace e132 := chk_some e132
      refine RL.sh (by simp) rfl rfl rfl rfl e132 ?_
      refine RL.binI (v := .int .u16 (bits .xor .u16 (IntKind.wrap .u16 (x91 * 2 ^ (min (1 : Int).toNat (IntKind.bits .u16)))) (4129 : Int))) rfl rfl rfl rfl rfl ?_
      refine RL.asg rfl rfl rfl ?_
      refine RL.finG ?_
      refine GL.nilB ?_
      refine GL.region ?_
      refine RL.binI (v := .int .i64 (wadd x92 (1 : Int))) rfl rfl rfl rfl rfl ?_
      refine RL.mv rfl rfl rfl ?_
      refine RL.finG ?_
      cases h117
      exact fun a w st => lop_intro (r122, bits .xor .u16 (IntKind.wrap .u16 (x91 * 2 ^ (min (1 : Int).toNat (IntKind.bits .u16)))) (4129 : Int), wadd x92 (1 : Int)) (by exact h118) (by simp) (St.cut [0] ⟨rfl, rfl, rfl, rfl, rfl, trivial⟩ (by decide) rfl st)
     replace h117 := ite_f b128 h117
     refine GL.region ?_
     refine RL.mv rfl rfl rfl ?_
     obtain ⟨y135, e136, h117⟩ := bind_some h117
     replace e136 := chk_some e136
     refine RL.sh (by simp) rfl rfl rfl rfl e136 ?_
     refine RL.asg rfl rfl rfl ?_
     refine RL.finG ?_
     refine GL.nilB ?_
     refine GL.region ?_
     refine RL.binI (v := .int .i64 (wadd x92 (1 : Int))) rfl rfl rfl rfl rfl ?_
     refine RL.mv rfl rfl rfl ?_
     refine RL.finG ?_
     cases h117
     exact fun a w st => lop_intro (r122, IntKind.wrap .u16 (x91 * 2 ^ (min (1 : Int).toNat (IntKind.bits .u16))), wadd x92 (1 : Int)) (by exact h118) (by simp) (St.cut [0] ⟨rfl, rfl, rfl, rfl, rfl, trivial⟩ (by decide) rfl st)
    replace h117 := ite_f b123 h117
    cases h117
    replace h118 : some (Fl.nx _) = some y107 := h118
    cases h118
    exact GL.exit (fun a w st => mid_intro (x91, x92) h110 (St.cut [0] ⟨rfl, rfl, rfl, rfl, trivial⟩ (by decide) rfl st))
   rintro ⟨x91, x92⟩ h137
   have h138 := h111 _ h137
   try dsimp only at h138
   refine GL.weak (env' := [(3, .int .u16 x91), (7, v7), (8, .int .i64 (((intsOf x0)).length : Int)), (9, .int .i64 (i73 : Int))]) (L' := [imm (TR.sl (TR.ik .u8)) v7 (intsOf x0)]) (fun _ _ st => st) ?_
   refine GL.nilB ?_
   refine GL.region ?_
   refine RL.binI (v := .int .i64 ((i73 + 1 : Nat) : Int)) rfl rfl rfl rfl (binI_succ i73 (by omega)) ?_
   refine RL.mv rfl rfl rfl ?_
   refine RL.fin ?_
   cases h138
   exact fun a w st => lop_intro (i73 + 1, r85, x91) ⟨by show i73 + 1 + r85.length = ((intsOf x0)).length; simp only [List.length_cons] at h79; omega, h86, h77⟩ (by simp) (St.cut [0] ⟨rfl, rfl, rfl, rfl, trivial⟩ (by decide) rfl st)
  have h82 : ¬ i73 < ((intsOf x0)).length := by have := of_decide_eq_false b81; omega
  obtain rfl : r74 = [] := by rw [← h80]; exact List.drop_of_length_le (by omega)
  replace h78 : some (Fl.nx _) = some y66 := h78
  cases h78
  exact GL.exit (fun a w st => mid_intro x8 h69 (St.cut [] ⟨rfl, trivial⟩ (by decide) rfl st))
 rintro x8 h139
 have h140 := h70 _ h139
 try dsimp only at h140
 refine GL.weak (env' := [(3, .int .u16 x8)]) (L' := []) (fun _ _ st => st) ?_
 refine GL.seq ?_
 refine GL.region ?_
 refine RL.mv rfl rfl rfl ?_
 refine RL.asg rfl rfl rfl ?_
 refine RL.finG ?_
 have h140 := Option.some.inj h140
 subst h140
 exact GL.ret (Gx.ret (v := .int .u16 x8) (res1 rfl rfl) (fun a w st => st.toPostV))

set_option maxHeartbeats 4000000 in
theorem log_Frame_c (S : Hp) (w : World) (hS : S.sub w) (x0 : (List UInt8)) (res : (List UInt8) × Int) (hm : log_Frame_m x0 = some res) : Calls Try.prog 11 #[.string ⟨(x0 : List UInt8).toArray⟩] w (PostV w (.tuple #[.string ⟨(res.1 : List UInt8).toArray⟩, .int .i64 res.2])) := by
 refine calls_enter 27 Try.func11 Try.ntmps11 rfl S false [(0, .string ⟨(x0 : List UInt8).toArray⟩)] [] rfl ⟨rfl, trivial⟩ hS trivial ?_
 unfold log_Frame_m at hm
 refine GL.seq ?_
 refine GL.region ?_
 refine RL.asg rfl rfl rfl ?_
 refine RL.asg rfl rfl rfl ?_
 refine RL.finG ?_
 refine GL.seq ?_
 refine GL.seq ?_
 refine GL.region ?_
 refine RL.mv rfl rfl rfl ?_
 refine RL.lenT Try.underlying9 rfl rfl rfl ?_
 refine RL.binI (v := .bool (decide (((x0).length : Int) > (64 : Int)))) rfl rfl rfl rfl rfl ?_
 refine RL.finG ?_
 refine GL.cond rfl (fun b2 => ?_) (fun b2 => ?_)
 ·replace hm := ite_t b2 hm
  refine GL.seq ?_
  refine GL.region ?_
  refine RL.asg rfl rfl rfl ?_
  refine RL.asg rfl rfl rfl ?_
  refine RL.finG ?_
  have hm := Option.some.inj hm
  subst hm
  exact GL.ret (Gx.ret (v := .tuple #[.string ⟨(([] : List UInt8) : List UInt8).toArray⟩, .int .i64 (2 : Int)]) (res2 rfl rfl rfl) (fun a w st => st.toPostV))
 replace hm := ite_f b2 hm
 refine GL.skip ?_
 refine GL.seq ?_
 refine GL.region ?_
 refine RL.mv rfl rfl rfl ?_
 refine RL.lenT Try.underlying9 rfl rfl rfl ?_
 refine RL.cvI Try.underlying3 Try.underlying5 rfl rfl rfl ?_
 refine RL.bS (t := (TR.ik .u8)) (vs := [.int .u8 (IntKind.wrap .u8 ((x0).length : Int))]) ([IntKind.wrap .u8 ((x0).length : Int)] : (List Int)) Try.underlying97 Try_lo5 rfl rfl rfl rfl ⟨VR.int, trivial⟩ rfl (by decide) ?_
 intro v6
 refine RL.cvBS 0 Try.underlying97 Try.underlying5 Try.underlying9 rfl rfl rfl rfl SlOf.own ?_
 refine RL.mv rfl rfl rfl ?_
 obtain ⟨y7, e8, hm⟩ := bind_some hm
 replace e8 := chk_some e8
 refine RL.cat rfl rfl rfl rfl e8 ?_
 refine RL.asg rfl rfl rfl ?_
 refine RL.finG ?_
 refine GL.seq ?_
 refine GL.region ?_
 refine RL.mv rfl rfl rfl ?_
 obtain ⟨y11, e12, hm⟩ := bind_some hm
 refine RL.callV (v := .int .u16 y11) (vs := [.string ⟨((bytesOf ([IntKind.wrap .u8 ((x0).length : Int)] : (List Int))) ++ x0 : List UInt8).toArray⟩]) Try_fit79 rfl (Or.inl rfl) rfl rfl rfl rfl (fun U w hU hW hL => log_Sum_c U w hU ((bytesOf ([IntKind.wrap .u8 ((x0).length : Int)] : (List Int))) ++ x0) _ e12) ?_
 refine RL.asg rfl rfl rfl ?_
 refine RL.finG ?_
 refine GL.seq ?_
 refine GL.region ?_
 refine RL.mv rfl rfl rfl ?_
 refine RL.mv rfl rfl rfl ?_
 obtain ⟨y18, e19, hm⟩ := bind_some hm
 replace e19 := chk_some e19
 refine RL.sh (by simp) rfl rfl rfl rfl e19 ?_
 refine RL.cvI Try.underlying95 Try.underlying5 rfl rfl rfl ?_
 refine RL.mv rfl rfl rfl ?_
 refine RL.cvI Try.underlying95 Try.underlying5 rfl rfl rfl ?_
 refine RL.bS (t := (TR.ik .u8)) (vs := [.int .u8 (IntKind.wrap .u8 (Int.fdiv y11 (2 ^ (min (8 : Int).toNat (IntKind.bits .u16))))), .int .u8 (IntKind.wrap .u8 y11)]) ([IntKind.wrap .u8 (Int.fdiv y11 (2 ^ (min (8 : Int).toNat (IntKind.bits .u16)))), IntKind.wrap .u8 y11] : (List Int)) Try.underlying97 Try_lo5 rfl rfl rfl rfl ⟨VR.int, ⟨VR.int, trivial⟩⟩ rfl (by decide) ?_
 intro v20
 refine RL.reL (L' := [own 5 (TR.ik .u8) v6 ([IntKind.wrap .u8 ((x0).length : Int)] : (List Int)), own 5 (TR.ik .u8) v20 ([IntKind.wrap .u8 (Int.fdiv y11 (2 ^ (min (8 : Int).toNat (IntKind.bits .u16)))), IntKind.wrap .u8 y11] : (List Int))]) rfl ?_
 refine RL.cvBS 1 Try.underlying97 Try.underlying5 Try.underlying9 rfl rfl rfl rfl SlOf.own ?_
 obtain ⟨y21, e22, hm⟩ := bind_some hm
 replace e22 := chk_some e22
 refine RL.cat rfl rfl rfl rfl e22 ?_
 refine RL.asg rfl rfl rfl ?_
 refine RL.asg rfl rfl rfl ?_
 refine RL.finG ?_
 have hm := Option.some.inj hm
 subst hm
 exact GL.ret (Gx.ret (v := .tuple #[.string ⟨(((bytesOf ([IntKind.wrap .u8 ((x0).length : Int)] : (List Int))) ++ x0) ++ (bytesOf ([IntKind.wrap .u8 (Int.fdiv y11 (2 ^ (min (8 : Int).toNat (IntKind.bits .u16)))), IntKind.wrap .u8 y11] : (List Int))) : List UInt8).toArray⟩, .int .i64 (0 : Int)]) (res2 rfl rfl rfl) (fun a w st => st.toPostV))

set_option maxHeartbeats 4000000 in
theorem log_Log_Append_c (B : World) (S X : Hp) (f : Nat → Hp) (w : World) (v0 : Value) (x0 : ((List UInt8) × Int)) (hO : HeapOk B.heap.size S f [obox 142 (TR.pair TR.str TR.int) v0 x0, keep X].length w) (hB : Below B.heap.size B w) (hI : Its [obox 142 (TR.pair TR.str TR.int) v0 x0, keep X] S f) (x1 : (List UInt8)) (res : Int × ((List UInt8) × Int)) (hm : log_Log_Append_m x0 x1 = some res) : Calls Try.prog 75 #[v0, .string ⟨(x1 : List UInt8).toArray⟩] w (PostM B S (fun (o : Unit) => .int .i64 res.1) (fun (o : Unit) => [obox 142 (TR.pair TR.str TR.int) v0 res.2, keep X])) := by
 refine calls_enterM 32 Try.func75 Try.ntmps75 rfl B S f [(0, v0), (1, .string ⟨(x1 : List UInt8).toArray⟩)] [obox 142 (TR.pair TR.str TR.int) v0 x0, keep X] [] rfl ⟨rfl, ⟨rfl, trivial⟩⟩ hB hO hI trivial ?_
 unfold log_Log_Append_m at hm
 refine GL.seq ?_
 refine GL.region ?_
 refine RL.asg rfl rfl rfl ?_
 refine RL.finG ?_
 refine GL.seq ?_
 refine GL.region ?_
 refine RL.mv rfl rfl rfl ?_
 obtain ⟨y5, e6, hm⟩ := bind_some hm
 refine RL.callV (v := .tuple #[.string ⟨(y5.1 : List UInt8).toArray⟩, .int .i64 y5.2]) (vs := [.string ⟨(x1 : List UInt8).toArray⟩]) Try_fit11 rfl (Or.inl rfl) rfl rfl rfl rfl (fun U w hU hW hL => log_Frame_c U w hU x1 _ e6) ?_
 refine RL.mv rfl rfl rfl ?_
 refine RL.ext rfl rfl rfl rfl ?_
 refine RL.ext rfl rfl rfl rfl ?_
 refine RL.asg rfl rfl rfl ?_
 refine RL.asg rfl rfl rfl ?_
 refine RL.finG ?_
 refine GL.seq ?_
 refine GL.seq ?_
 refine GL.region ?_
 refine RL.mv rfl rfl rfl ?_
 refine RL.binI (v := .bool (y5.2 != (0 : Int))) rfl rfl rfl rfl rfl ?_
 refine RL.finG ?_
 refine GL.cond rfl (fun b7 => ?_) (fun b7 => ?_)
 ·replace hm := ite_t b7 hm
  refine GL.seq ?_
  refine GL.region ?_
  refine RL.mv rfl rfl rfl ?_
  refine RL.asg rfl rfl rfl ?_
  refine RL.finG ?_
  have hm := Option.some.inj hm
  subst hm
  exact GL.ret (Gx.ret (v := .int .i64 y5.2) (res1 rfl rfl) (fun a w st => (st.pick [0, 1] (by decide) rfl).toPostM (V := fun (o : Unit) => .int .i64 ((y5.2, x0).1)) (LR := fun (o : Unit) => [obox 142 (TR.pair TR.str TR.int) v0 ((y5.2, x0).2), keep X]) ()))
 replace hm := ite_f b7 hm
 refine GL.skip ?_
 refine GL.seq ?_
 refine GL.seq ?_
 refine GL.region ?_
 refine RL.mv rfl rfl rfl ?_
 refine RL.nilk 0 rfl rfl rfl rfl PtOf.obox ?_
 refine RL.fadr (off := 0) (fo := 0) 0 Try_fld142_0 rfl rfl rfl PtOf.obox (Or.inr ⟨rfl, rfl⟩) ?_
 refine RL.ldPx (off := (0 + 0)) (e' := x0.1) 0 Ex.str Try_ln9 rfl rfl (Or.inl rfl) rfl PtOf.obox (Part.fst Part.self) ?_
 refine RL.lenT Try.underlying9 rfl rfl rfl ?_
 refine RL.mv rfl rfl rfl ?_
 refine RL.lenT Try.underlying9 rfl rfl rfl ?_
 refine RL.binI (v := .int .i64 (wadd ((x0.1).length : Int) ((y5.1).length : Int))) rfl rfl rfl rfl rfl ?_
 refine RL.binI (v := .bool (decide ((wadd ((x0.1).length : Int) ((y5.1).length : Int)) > (4000 : Int)))) rfl rfl rfl rfl rfl ?_
 refine RL.finG ?_
 refine GL.cond rfl (fun b8 => ?_) (fun b8 => ?_)
 ·replace hm := ite_t b8 hm
  refine GL.seq ?_
  refine GL.region ?_
  refine RL.asg rfl rfl rfl ?_
  refine RL.finG ?_
  have hm := Option.some.inj hm
  subst hm
  exact GL.ret (Gx.ret (v := .int .i64 (8 : Int)) (res1 rfl rfl) (fun a w st => (st.pick [0, 1] (by decide) rfl).toPostM (V := fun (o : Unit) => .int .i64 (((8 : Int), x0).1)) (LR := fun (o : Unit) => [obox 142 (TR.pair TR.str TR.int) v0 (((8 : Int), x0).2), keep X]) ()))
 replace hm := ite_f b8 hm
 refine GL.skip ?_
 refine GL.seq ?_
 refine GL.region ?_
 refine RL.mv rfl rfl rfl ?_
 refine RL.nilk 0 rfl rfl rfl rfl PtOf.obox ?_
 refine RL.fadr (off := 0) (fo := 0) 0 Try_fld142_0 rfl rfl rfl PtOf.obox (Or.inr ⟨rfl, rfl⟩) ?_
 refine RL.ldPx (off := (0 + 0)) (e' := x0.1) 0 Ex.str Try_ln9 rfl rfl (Or.inl rfl) rfl PtOf.obox (Part.fst Part.self) ?_
 refine RL.mv rfl rfl rfl ?_
 obtain ⟨y11, e12, hm⟩ := bind_some hm
 replace e12 := chk_some e12
 refine RL.cat rfl rfl rfl rfl e12 ?_
 refine RL.nilk 0 rfl rfl rfl rfl PtOf.obox ?_
 refine RL.fadr (off := 0) (fo := 0) 0 Try_fld142_0 rfl rfl rfl PtOf.obox (Or.inr ⟨rfl, rfl⟩) ?_
 refine RL.stP (off := (0 + 0)) (e' := x0.1 ++ y5.1) (d1 := (x0.1 ++ y5.1, x0.2)) (r := TR.str) 0 Try_ln9 rfl rfl (Or.inl rfl) rfl VR.str rfl (Upd.fst Upd.self) ?_
 refine RL.finG ?_
 refine GL.seq ?_
 refine GL.region ?_
 refine RL.asg rfl rfl rfl ?_
 refine RL.finG ?_
 have hm := Option.some.inj hm
 subst hm
 exact GL.ret (Gx.ret (v := .int .i64 (0 : Int)) (res1 rfl rfl) (fun a w st => (st.pick [0, 1] (by decide) rfl).toPostM (V := fun (o : Unit) => .int .i64 (((0 : Int), (x0.1 ++ y5.1, x0.2)).1)) (LR := fun (o : Unit) => [obox 142 (TR.pair TR.str TR.int) v0 (((0 : Int), (x0.1 ++ y5.1, x0.2)).2), keep X]) ()))

set_option maxHeartbeats 4000000 in
theorem log_Log_Size_c (S : Hp) (w : World) (hS : S.sub w) (v0 : Value) (x0 : ((List UInt8) × Int)) (k0 : ((TR.ptr (TR.pair TR.str TR.int))).vrep S v0 x0) (res : Int × Int) (hm : log_Log_Size_m x0 = some res) : Calls Try.prog 76 #[v0] w (PostV w (.tuple #[.int .i64 res.1, .int .i64 res.2])) := by
 refine calls_enter 13 Try.func76 Try.ntmps76 rfl S false [(0, v0)] [imm (TR.ptr (TR.pair TR.str TR.int)) v0 x0] rfl ⟨rfl, trivial⟩ hS ⟨k0, trivial⟩ ?_
 unfold log_Log_Size_m at hm
 refine GL.seq ?_
 refine GL.region ?_
 refine RL.asg rfl rfl rfl ?_
 refine RL.asg rfl rfl rfl ?_
 refine RL.finG ?_
 refine GL.seq ?_
 refine GL.regionQ rfl rfl (by kernel_rfl) ?_
 refine RL.mv rfl rfl rfl ?_
 refine RL.nilk 0 rfl rfl rfl rfl PtOf.imm ?_
 refine RL.fadr (off := 0) (fo := 0) 0 Try_fld142_0 rfl rfl rfl PtOf.imm (Or.inr ⟨rfl, rfl⟩) ?_
 refine RL.ldPx (off := (0 + 0)) (e' := x0.1) 0 Ex.str Try_ln9 rfl rfl (Or.inl rfl) rfl PtOf.imm (Part.fst Part.self) ?_
 refine RL.lenT Try.underlying9 rfl rfl rfl ?_
 refine RL.mv rfl rfl rfl ?_
 refine RL.nilk 0 rfl rfl rfl rfl PtOf.imm ?_
 refine RL.fadr (off := 0) (fo := 1) 0 Try_fld142_1 rfl rfl rfl PtOf.imm (Or.inr ⟨rfl, rfl⟩) ?_
 refine RL.ldPx (off := (0 + 1)) (e' := x0.2) 0 Ex.ik Try_ln3 rfl rfl (Or.inl rfl) rfl PtOf.imm (Part.snd Part.self) ?_
 refine RL.asg rfl rfl rfl ?_
 refine RL.asg rfl rfl rfl ?_
 refine RL.finQG ?_
 have hm := Option.some.inj hm
 subst hm
 exact GL.ret (Gx.ret (v := .tuple #[.int .i64 ((x0.1).length : Int), .int .i64 x0.2]) (res2 rfl rfl rfl) (fun a w st => st.toPostV))

set_option maxHeartbeats 4000000 in
theorem log_Log_Sync_c (B : World) (S X : Hp) (f : Nat → Hp) (w : World) (v0 : Value) (x0 : ((List UInt8) × Int)) (hO : HeapOk B.heap.size S f [obox 142 (TR.pair TR.str TR.int) v0 x0, keep X].length w) (hB : Below B.heap.size B w) (hI : Its [obox 142 (TR.pair TR.str TR.int) v0 x0, keep X] S f)  (res : ((List UInt8) × Int)) (hm : log_Log_Sync_m x0 = some res) : Calls Try.prog 77 #[v0] w (PostM B S (fun (o : Unit) => .tuple #[]) (fun (o : Unit) => [obox 142 (TR.pair TR.str TR.int) v0 res, keep X])) := by
 refine calls_enterM 10 Try.func77 Try.ntmps77 rfl B S f [(0, v0)] [obox 142 (TR.pair TR.str TR.int) v0 x0, keep X] [] rfl ⟨rfl, trivial⟩ hB hO hI trivial ?_
 unfold log_Log_Sync_m at hm
 refine GL.region ?_
 refine RL.mv rfl rfl rfl ?_
 refine RL.mv rfl rfl rfl ?_
 refine RL.nilk 0 rfl rfl rfl rfl PtOf.obox ?_
 refine RL.fadr (off := 0) (fo := 0) 0 Try_fld142_0 rfl rfl rfl PtOf.obox (Or.inr ⟨rfl, rfl⟩) ?_
 refine RL.ldPx (off := (0 + 0)) (e' := x0.1) 0 Ex.str Try_ln9 rfl rfl (Or.inl rfl) rfl PtOf.obox (Part.fst Part.self) ?_
 refine RL.lenT Try.underlying9 rfl rfl rfl ?_
 refine RL.nilk 0 rfl rfl rfl rfl PtOf.obox ?_
 refine RL.fadr (off := 0) (fo := 1) 0 Try_fld142_1 rfl rfl rfl PtOf.obox (Or.inr ⟨rfl, rfl⟩) ?_
 refine RL.stP (off := (0 + 1)) (e' := ((x0.1).length : Int)) (d1 := (x0.1, ((x0.1).length : Int))) (r := TR.int) 0 Try_ln3 rfl rfl (Or.inl rfl) rfl VR.int rfl (Upd.snd Upd.self) ?_
 refine RL.finG ?_
 have hm := Option.some.inj hm
 subst hm
 exact GL.nil (Gx.retN (v := .tuple #[]) (res0 rfl) (fun a w st => (st.pick [0, 1] (by decide) rfl).toPostM (V := fun (o : Unit) => .tuple #[]) (LR := fun (o : Unit) => [obox 142 (TR.pair TR.str TR.int) v0 (x0.1, ((x0.1).length : Int)), keep X]) ()))

set_option maxHeartbeats 4000000 in
theorem log_Scan_c (S : Hp) (w : World) (hS : S.sub w) (x0 : (List UInt8)) (res : (List (List UInt8)) × Int) (hm : log_Scan_m x0 = some res) : Calls Try.prog 13 #[.string ⟨(x0 : List UInt8).toArray⟩] w (Post w S (fun (o : Value) => .tuple #[o, .int .i64 res.2]) (fun (o : Value) => [own 9 TR.str o res.1])) := by
 refine calls_enter 73 Try.func13 Try.ntmps13 rfl S false [(0, .string ⟨(x0 : List UInt8).toArray⟩)] [] rfl ⟨rfl, trivial⟩ hS trivial ?_
 unfold log_Scan_m at hm
 refine GL.seq ?_
 refine GL.region ?_
 refine RL.asg rfl rfl rfl ?_
 refine RL.asg rfl rfl rfl ?_
 refine RL.finG ?_
 refine GL.seq ?_
 refine GL.region ?_
 refine RL.asg rfl rfl rfl ?_
 refine RL.finG ?_
 refine GL.seq ?_
 refine GL.region ?_
 refine RL.asg rfl rfl rfl ?_
 refine RL.finG ?_
 refine GL.seq ?_
 refine GL.weak (fun a w st => st.nilOwn 9 TR.str) ?_
 obtain ⟨y76, K77, h78, h79, h80, h81, h82⟩ := bindR_K hm
 refine GL.join (ι := (List (List UInt8)) × Int × Value) (fun (p : (List (List UInt8)) × Int × Value) => [(4, p.2.2), (5, .int .i64 p.2.1)]) (fun (p : (List (List UInt8)) × Int × Value) => [own 9 TR.str p.2.2 p.1]) (fun (p : (List (List UInt8)) × Int × Value) => K77 (.nx (p.1, p.2.1))) ?_ ?_
 ·refine GL.block ?_
  refine GL.loop (ι := Nat × (List (List UInt8)) × Int × Value) (fun (p : Nat × (List (List UInt8)) × Int × Value) => [(0, .string ⟨(x0 : List UInt8).toArray⟩), (4, p.2.2.2), (5, .int .i64 p.2.2.1)]) (fun (p : Nat × (List (List UInt8)) × Int × Value) => [own 9 TR.str p.2.2.2 p.2.1]) (fun (p : Nat × (List (List UInt8)) × Int × Value) => loopM (log_Scan_b1 x0) p.1 (p.2.1, p.2.2.1) = some y76) (fun (p : Nat × (List (List UInt8)) × Int × Value) => p.1) (9223372036854775808, [], (0 : Int), Value.slice none 0 0) h78 (fun a w st => St.cut [0] ⟨rfl, rfl, rfl, trivial⟩ (by decide) rfl st) ?_
  rintro ⟨r84, l2, x4, v3⟩ h88
  try dsimp only at h88
  refine GL.weak (env' := [(0, .string ⟨(x0 : List UInt8).toArray⟩), (4, v3), (5, .int .i64 x4)]) (L' := [own 9 TR.str v3 l2]) (fun _ _ st => st) ?_
  obtain ⟨r91, z85, hr, h86, h87⟩ := loopM_some h88
  subst hr
  unfold log_Scan_b1 at h86
  try dsimp only at h86
  refine GL.seq ?_
  refine GL.seq ?_
  refine GL.region ?_
  refine RL.mv rfl rfl rfl ?_
  refine RL.mv rfl rfl rfl ?_
  refine RL.lenT Try.underlying9 rfl rfl rfl ?_
  refine RL.binI (v := .bool (decide (x4 < ((x0).length : Int)))) rfl rfl rfl rfl rfl ?_
  refine RL.finG ?_
  refine GL.cond rfl (fun b92 => ?_) (fun b92 => ?_)
  ·replace h86 := ite_t b92 h86
   refine GL.skip ?_
   refine GL.block ?_
   refine GL.seq ?_
   refine GL.region ?_
   refine RL.mv rfl rfl rfl ?_
   refine RL.mv rfl rfl rfl ?_
   obtain ⟨y95, e96, h86⟩ := bind_some h86
   refine RL.idxT Try.underlying9 rfl rfl rfl rfl (idx_some e96).1 (idx_some e96).2.2 ?_
   refine RL.cvI Try.underlying5 Try.underlying3 rfl rfl rfl ?_
   refine RL.asg rfl rfl rfl ?_
   refine RL.finG ?_
   refine GL.seq ?_
   refine GL.seq ?_
   obtain ⟨y100, K101, h102, h103, h104, h105, h106⟩ := bindF_K h86
   refine GL.join (ι := Bool) (fun (p : Bool) => [(0, .string ⟨(x0 : List UInt8).toArray⟩), (4, v3), (5, .int .i64 x4), (6, .int .i64 (IntKind.wrap .i64 (y95.toNat : Int))), (26, .bool p)]) (fun (p : Bool) => [own 9 TR.str v3 l2]) (fun (p : Bool) => K101 (.nx p)) ?_ ?_
   ·skip
    refine GL.region ?_
    refine RL.mv rfl rfl rfl ?_
    refine RL.binI (v := .bool (decide ((IntKind.wrap .i64 (y95.toNat : Int)) > (64 : Int)))) rfl rfl rfl rfl rfl ?_
    refine RL.mv rfl rfl rfl ?_
    refine RL.split (t := 18) rfl (fun b107 => ?_) (fun b107 => ?_)
    ·replace h102 := ite_t b107 h102
     refine RL.skip rfl rfl ?_
     refine RL.skip rfl rfl ?_
     refine RL.skip rfl rfl ?_
     refine RL.skip rfl rfl ?_
     refine RL.skip rfl rfl ?_
     refine RL.skip rfl rfl ?_
     refine RL.skip rfl rfl ?_
     refine RL.pickT rfl rfl rfl rfl ?_
     refine RL.fin ?_
     cases h102
     exact fun a w st => mid_intro true h103 (St.cut [0] ⟨rfl, rfl, rfl, rfl, rfl, trivial⟩ (by decide) rfl st)
    replace h102 := ite_f b107 h102
    refine RL.mv rfl rfl rfl ?_
    refine RL.lenT Try.underlying9 rfl rfl rfl ?_
    refine RL.mv rfl rfl rfl ?_
    refine RL.binI (v := .int .i64 (wsub ((x0).length : Int) x4)) rfl rfl rfl rfl rfl ?_
    refine RL.mv rfl rfl rfl ?_
    refine RL.binI (v := .int .i64 (wadd (IntKind.wrap .i64 (y95.toNat : Int)) (3 : Int))) rfl rfl rfl rfl rfl ?_
    refine RL.binI (v := .bool (decide ((wsub ((x0).length : Int) x4) < (wadd (IntKind.wrap .i64 (y95.toNat : Int)) (3 : Int))))) rfl rfl rfl rfl rfl ?_
    refine RL.pickF rfl rfl rfl rfl ?_
    refine RL.fin ?_
    cases h102
    exact fun a w st => mid_intro (decide ((wsub ((x0).length : Int) x4) < (wadd (IntKind.wrap .i64 (y95.toNat : Int)) (3 : Int)))) h103 (St.cut [0] ⟨rfl, rfl, rfl, rfl, rfl, trivial⟩ (by decide) rfl st)
   rintro x99 h108
   have h109 := h104 _ h108
   try dsimp only at h109
   refine GL.weak (env' := [(0, .string ⟨(x0 : List UInt8).toArray⟩), (4, v3), (5, .int .i64 x4), (6, .int .i64 (IntKind.wrap .i64 (y95.toNat : Int))), (26, .bool x99)]) (L' := [own 9 TR.str v3 l2]) (fun _ _ st => st) ?_
   refine GL.cond rfl (fun b110 => ?_) (fun b110 => ?_)
   ·replace h109 := ite_t b110 h109
    cases h109
    replace h87 : some (Fl.nx _) = some y76 := h87
    cases h87
    exact GL.exit (fun a w st => mid_intro (l2, x4, v3) h79 (St.cut [0] ⟨rfl, rfl, trivial⟩ (by decide) rfl st))
   replace h109 := ite_f b110 h109
   refine GL.skip ?_
   refine GL.seq ?_
   refine GL.region ?_
   refine RL.mv rfl rfl rfl ?_
   refine RL.mv rfl rfl rfl ?_
   refine RL.mv rfl rfl rfl ?_
   refine RL.mv rfl rfl rfl ?_
   refine RL.binI (v := .int .i64 (wadd x4 (IntKind.wrap .i64 (y95.toNat : Int)))) rfl rfl rfl rfl rfl ?_
   refine RL.binI (v := .int .i64 (wadd (wadd x4 (IntKind.wrap .i64 (y95.toNat : Int))) (1 : Int))) rfl rfl rfl rfl rfl ?_
   obtain ⟨y115, e116, h109⟩ := bind_some h109
   replace e116 := chk_some e116
   refine RL.cutT (i := (x4).toNat) (j := (wadd (wadd x4 (IntKind.wrap .i64 (y95.toNat : Int))) (1 : Int)).toNat) Try.underlying9 rfl rfl rfl (Or.inr ⟨_, _, rfl, by rw [Int.toNat_of_nonneg (by omega)]; rfl⟩) (Or.inr ⟨_, _, rfl, by rw [Int.toNat_of_nonneg (by omega)]; rfl⟩) (by omega) (by omega) ?_
   obtain ⟨y117, e118, h109⟩ := bind_some h109
   refine RL.callV (v := .int .u16 y117) (vs := [.string ⟨((List.take ((wadd (wadd x4 (IntKind.wrap .i64 (y95.toNat : Int))) (1 : Int)).toNat) x0).drop ((x4).toNat) : List UInt8).toArray⟩]) Try_fit79 rfl (Or.inl rfl) rfl rfl rfl rfl (fun U w hU hW hL => log_Sum_c U w hU ((List.take ((wadd (wadd x4 (IntKind.wrap .i64 (y95.toNat : Int))) (1 : Int)).toNat) x0).drop ((x4).toNat)) _ e118) ?_
   refine RL.asg rfl rfl rfl ?_
   refine RL.finG ?_
   refine GL.seq ?_
   refine GL.seq ?_
   obtain ⟨y134, K135, h136, h137, h138, h139, h140⟩ := bindF_K h109
   refine GL.join (ι := Bool) (fun (p : Bool) => [(0, .string ⟨(x0 : List UInt8).toArray⟩), (4, v3), (5, .int .i64 x4), (6, .int .i64 (IntKind.wrap .i64 (y95.toNat : Int))), (55, .bool p)]) (fun (p : Bool) => [own 9 TR.str v3 l2]) (fun (p : Bool) => K135 (.nx p)) ?_ ?_
   ·skip
    refine GL.region ?_
    refine RL.mv rfl rfl rfl ?_
    refine RL.mv rfl rfl rfl ?_
    refine RL.mv rfl rfl rfl ?_
    refine RL.binI (v := .int .i64 (wadd x4 (IntKind.wrap .i64 (y95.toNat : Int)))) rfl rfl rfl rfl rfl ?_
    refine RL.binI (v := .int .i64 (wadd (wadd x4 (IntKind.wrap .i64 (y95.toNat : Int))) (1 : Int))) rfl rfl rfl rfl rfl ?_
    obtain ⟨y141, e142, h136⟩ := bind_some h136
    refine RL.idxT Try.underlying9 rfl rfl rfl rfl (idx_some e142).1 (idx_some e142).2.2 ?_
    refine RL.mv rfl rfl rfl ?_
    obtain ⟨y143, e144, h136⟩ := bind_some h136
    replace e144 := chk_some e144
    refine RL.sh (by simp) rfl rfl rfl rfl e144 ?_
    refine RL.cvI Try.underlying95 Try.underlying5 rfl rfl rfl ?_
    refine RL.binI (v := .bool ((y141.toNat : Int) != (IntKind.wrap .u8 (Int.fdiv y117 (2 ^ (min (8 : Int).toNat (IntKind.bits .u16))))))) rfl rfl rfl rfl rfl ?_
    refine RL.mv rfl rfl rfl ?_
    refine RL.split (t := 45) rfl (fun b145 => ?_) (fun b145 => ?_)
    ·replace h136 := ite_t b145 h136
     refine RL.skip rfl rfl ?_
     refine RL.skip rfl rfl ?_
     refine RL.skip rfl rfl ?_
     refine RL.skip rfl rfl ?_
     refine RL.skip rfl rfl ?_
     refine RL.skip rfl rfl ?_
     refine RL.skip rfl rfl ?_
     refine RL.skip rfl rfl ?_
     refine RL.skip rfl rfl ?_
     refine RL.pickT rfl rfl rfl rfl ?_
     refine RL.fin ?_
     cases h136
     exact fun a w st => mid_intro true h137 (St.cut [0] ⟨rfl, rfl, rfl, rfl, rfl, trivial⟩ (by decide) rfl st)
    replace h136 := ite_f b145 h136
    refine RL.mv rfl rfl rfl ?_
    refine RL.mv rfl rfl rfl ?_
    refine RL.mv rfl rfl rfl ?_
    refine RL.binI (v := .int .i64 (wadd x4 (IntKind.wrap .i64 (y95.toNat : Int)))) rfl rfl rfl rfl rfl ?_
    refine RL.binI (v := .int .i64 (wadd (wadd x4 (IntKind.wrap .i64 (y95.toNat : Int))) (2 : Int))) rfl rfl rfl rfl rfl ?_
    obtain ⟨y146, e147, h136⟩ := bind_some h136
    refine RL.idxT Try.underlying9 rfl rfl rfl rfl (idx_some e147).1 (idx_some e147).2.2 ?_
    refine RL.mv rfl rfl rfl ?_
    refine RL.cvI Try.underlying95 Try.underlying5 rfl rfl rfl ?_
    refine RL.binI (v := .bool ((y146.toNat : Int) != (IntKind.wrap .u8 y117))) rfl rfl rfl rfl rfl ?_
    refine RL.pickF rfl rfl rfl rfl ?_
    refine RL.fin ?_
    cases h136
    exact fun a w st => mid_intro ((y146.toNat : Int) != (IntKind.wrap .u8 y117)) h137 (St.cut [0] ⟨rfl, rfl, rfl, rfl, rfl, trivial⟩ (by decide) rfl st)
   rintro x133 h148
   have h149 := h138 _ h148
   try dsimp only at h149
   refine GL.weak (env' := [(0, .string ⟨(x0 : List UInt8).toArray⟩), (4, v3), (5, .int .i64 x4), (6, .int .i64 (IntKind.wrap .i64 (y95.toNat : Int))), (55, .bool x133)]) (L' := [own 9 TR.str v3 l2]) (fun _ _ st => st) ?_
   refine GL.cond rfl (fun b150 => ?_) (fun b150 => ?_)
   ·replace h149 := ite_t b150 h149
    cases h149
    replace h87 : some (Fl.nx _) = some y76 := h87
    cases h87
    exact GL.exit (fun a w st => mid_intro (l2, x4, v3) h79 (St.cut [0] ⟨rfl, rfl, trivial⟩ (by decide) rfl st))
   replace h149 := ite_f b150 h149
   refine GL.skip ?_
   refine GL.seq ?_
   refine GL.region ?_
   refine RL.mv rfl rfl rfl ?_
   refine RL.mv rfl rfl rfl ?_
   refine RL.mv rfl rfl rfl ?_
   refine RL.binI (v := .int .i64 (wadd x4 (1 : Int))) rfl rfl rfl rfl rfl ?_
   refine RL.mv rfl rfl rfl ?_
   refine RL.binI (v := .int .i64 (wadd x4 (1 : Int))) rfl rfl rfl rfl rfl ?_
   refine RL.mv rfl rfl rfl ?_
   refine RL.binI (v := .int .i64 (wadd (wadd x4 (1 : Int)) (IntKind.wrap .i64 (y95.toNat : Int)))) rfl rfl rfl rfl rfl ?_
   obtain ⟨y157, e158, h149⟩ := bind_some h149
   replace e158 := chk_some e158
   refine RL.cutT (i := (wadd x4 (1 : Int)).toNat) (j := (wadd (wadd x4 (1 : Int)) (IntKind.wrap .i64 (y95.toNat : Int))).toNat) Try.underlying9 rfl rfl rfl (Or.inr ⟨_, _, rfl, by rw [Int.toNat_of_nonneg (by omega)]; rfl⟩) (Or.inr ⟨_, _, rfl, by rw [Int.toNat_of_nonneg (by omega)]; rfl⟩) (by omega) (by omega) ?_
   refine RL.bS (t := TR.str) (vs := [.string ⟨((List.take ((wadd (wadd x4 (1 : Int)) (IntKind.wrap .i64 (y95.toNat : Int))).toNat) x0).drop ((wadd x4 (1 : Int)).toNat) : List UInt8).toArray⟩]) ([(List.take ((wadd (wadd x4 (1 : Int)) (IntKind.wrap .i64 (y95.toNat : Int))).toNat) x0).drop ((wadd x4 (1 : Int)).toNat)] : (List (List UInt8))) Try.underlying22 Try_lo9 rfl rfl rfl rfl ⟨VR.str, trivial⟩ rfl (by decide) ?_
   intro v159
   obtain ⟨y160, e161, h149⟩ := bind_some h149
   replace e161 := chk_some e161
   refine RL.appB 0 1 Try.underlying22 Try_lo9 rfl rfl rfl rfl rfl rfl rfl SlOf.own (RoomN.of Try_info9 (by decide) (by decide)) e161 ?_
   intro v162
   refine RL.reL (L' := [own 9 TR.str v162 (l2 ++ ([(List.take ((wadd (wadd x4 (1 : Int)) (IntKind.wrap .i64 (y95.toNat : Int))).toNat) x0).drop ((wadd x4 (1 : Int)).toNat)] : (List (List UInt8)))), own 9 TR.str v159 ([(List.take ((wadd (wadd x4 (1 : Int)) (IntKind.wrap .i64 (y95.toNat : Int))).toNat) x0).drop ((wadd x4 (1 : Int)).toNat)] : (List (List UInt8)))]) rfl ?_
   refine RL.asg rfl rfl rfl ?_
   refine RL.finG ?_
   refine GL.region ?_
   refine RL.mv rfl rfl rfl ?_
   refine RL.mv rfl rfl rfl ?_
   refine RL.binI (v := .int .i64 (wadd (IntKind.wrap .i64 (y95.toNat : Int)) (3 : Int))) rfl rfl rfl rfl rfl ?_
   refine RL.binI (v := .int .i64 (wadd x4 (wadd (IntKind.wrap .i64 (y95.toNat : Int)) (3 : Int)))) rfl rfl rfl rfl rfl ?_
   refine RL.asg rfl rfl rfl ?_
   refine RL.finG ?_
   refine GL.nilB ?_
   cases h149
   exact fun a w st => lop_intro (r91, (l2 ++ ([(List.take ((wadd (wadd x4 (1 : Int)) (IntKind.wrap .i64 (y95.toNat : Int))).toNat) x0).drop ((wadd x4 (1 : Int)).toNat)] : (List (List UInt8)))), wadd x4 (wadd (IntKind.wrap .i64 (y95.toNat : Int)) (3 : Int)), v162) (by exact h87) (by simp) (St.cut [0] ⟨rfl, rfl, rfl, trivial⟩ (by decide) rfl st)
  replace h86 := ite_f b92 h86
  cases h86
  replace h87 : some (Fl.nx _) = some y76 := h87
  cases h87
  exact GL.exit (fun a w st => mid_intro (l2, x4, v3) h79 (St.cut [0] ⟨rfl, rfl, trivial⟩ (by decide) rfl st))
 rintro ⟨l2, x4, v3⟩ h163
 have h164 := h80 _ h163
 try dsimp only at h164
 refine GL.weak (env' := [(4, v3), (5, .int .i64 x4)]) (L' := [own 9 TR.str v3 l2]) (fun _ _ st => st) ?_
 refine GL.seq ?_
 refine GL.region ?_
 refine RL.mv rfl rfl rfl ?_
 refine RL.mv rfl rfl rfl ?_
 refine RL.asg rfl rfl rfl ?_
 refine RL.asg rfl rfl rfl ?_
 refine RL.finG ?_
 have h164 := Option.some.inj h164
 subst h164
 exact GL.ret (Gx.ret (v := .tuple #[v3, .int .i64 x4]) (res2 rfl rfl rfl) (fun a w st => (st.pick [0] (by decide) rfl).toPost v3))

set_option maxHeartbeats 4000000 in
theorem log_Log_All_c (S : Hp) (w : World) (hS : S.sub w) (v0 : Value) (x0 : ((List UInt8) × Int)) (k0 : ((TR.ptr (TR.pair TR.str TR.int))).vrep S v0 x0) (res : (List (List UInt8))) (hm : log_Log_All_m x0 = some res) : Calls Try.prog 78 #[v0] w (Post w S (fun (o : Value) => o) (fun (o : Value) => [own 9 TR.str o res])) := by
 refine calls_enter 14 Try.func78 Try.ntmps78 rfl S false [(0, v0)] [imm (TR.ptr (TR.pair TR.str TR.int)) v0 x0] rfl ⟨rfl, trivial⟩ hS ⟨k0, trivial⟩ ?_
 unfold log_Log_All_m at hm
 refine GL.seq ?_
 refine GL.region ?_
 refine RL.asg rfl rfl rfl ?_
 refine RL.finG ?_
 refine GL.seq ?_
 refine GL.region ?_
 refine RL.mv rfl rfl rfl ?_
 refine RL.nilk 0 rfl rfl rfl rfl PtOf.imm ?_
 refine RL.fadr (off := 0) (fo := 0) 0 Try_fld142_0 rfl rfl rfl PtOf.imm (Or.inr ⟨rfl, rfl⟩) ?_
 refine RL.ldPx (off := (0 + 0)) (e' := x0.1) 0 Ex.str Try_ln9 rfl rfl (Or.inl rfl) rfl PtOf.imm (Part.fst Part.self) ?_
 obtain ⟨y5, e6, hm⟩ := bind_some hm
 refine RL.call (vs := [.string ⟨(x0.1 : List UInt8).toArray⟩]) Try_fit13 rfl rfl rfl rfl rfl (fun S f w hS hW hi => log_Scan_c S w hS x0.1 _ e6) ?_
 intro v7
 refine RL.mv rfl rfl rfl ?_
 refine RL.ext rfl rfl rfl rfl ?_
 refine RL.ext rfl rfl rfl rfl ?_
 refine RL.asg rfl rfl rfl ?_
 refine RL.asg rfl rfl rfl ?_
 refine RL.finG ?_
 refine GL.seq ?_
 refine GL.region ?_
 refine RL.mv rfl rfl rfl ?_
 refine RL.asg rfl rfl rfl ?_
 refine RL.finG ?_
 have hm := Option.some.inj hm
 subst hm
 exact GL.ret (Gx.ret (v := v7) (res1 rfl rfl) (fun a w st => (st.pick [1] (by decide) rfl).toPost v7))

set_option maxHeartbeats 4000000 in
theorem slices_Equal_string_string_c (S : Hp) (w : World) (hS : S.sub w) (v0 : Value) (x0 : (List (List UInt8))) (k0 : ((TR.sl TR.str)).vrep S v0 x0) (v1 : Value) (x1 : (List (List UInt8))) (k1 : ((TR.sl TR.str)).vrep S v1 x1) (res : Bool) (hm : slices_Equal_string_string_m x0 x1 = some res) : Calls Try.prog 14 #[v0, v1] w (PostV w (.bool res)) := by
 refine calls_enter 26 Try.func14 Try.ntmps14 rfl S false [(0, v0), (1, v1)] [imm (TR.sl TR.str) v0 x0, imm (TR.sl TR.str) v1 x1] rfl ⟨rfl, ⟨rfl, trivial⟩⟩ hS ⟨k0, ⟨k1, trivial⟩⟩ ?_
 unfold slices_Equal_string_string_m at hm
 refine GL.seq ?_
 refine GL.region ?_
 refine RL.asg rfl rfl rfl ?_
 refine RL.finG ?_
 refine GL.seq ?_
 refine GL.seq ?_
 refine GL.region ?_
 refine RL.mv rfl rfl rfl ?_
 refine RL.lenS 0 Try.underlying22 rfl rfl rfl rfl SlOf.imm ?_
 refine RL.mv rfl rfl rfl ?_
 refine RL.lenS 1 Try.underlying22 rfl rfl rfl rfl SlOf.imm ?_
 refine RL.binI (v := .bool (((x0).length : Int) != ((x1).length : Int))) rfl rfl rfl rfl rfl ?_
 refine RL.finG ?_
 refine GL.cond rfl (fun b3 => ?_) (fun b3 => ?_)
 ·replace hm := ite_t b3 hm
  refine GL.seq ?_
  refine GL.region ?_
  refine RL.asg rfl rfl rfl ?_
  refine RL.finG ?_
  have hm := Option.some.inj hm
  subst hm
  exact GL.ret (Gx.ret (v := .bool false) (res1 rfl rfl) (fun a w st => st.toPostV))
 replace hm := ite_f b3 hm
 refine GL.skip ?_
 refine GL.seq ?_
 refine GL.seq ?_
 refine GL.region ?_
 refine RL.mv rfl rfl rfl ?_
 refine RL.lenS 0 Try.underlying22 rfl rfl rfl rfl SlOf.imm ?_
 refine RL.mv rfl rfl rfl ?_
 refine RL.finG ?_
 refine GL.open_ 0 rfl (fun S h => len_imm S h) (fun n13 => ?_)
 obtain ⟨y14, K15, h16, h17, h18, h19, h20⟩ := bindR_K hm
 refine GL.join (ι := Unit) (fun (p : Unit) => []) (fun (p : Unit) => []) (fun (p : Unit) => K15 (.nx ())) ?_ ?_
 ·refine GL.block ?_
  refine GL.loop (ι := Nat × (List (List UInt8))) (fun (p : Nat × (List (List UInt8))) => [(0, v0), (1, v1), (12, .int .i64 ((x0).length : Int)), (13, .int .i64 (p.1 : Int))]) (fun (p : Nat × (List (List UInt8))) => [imm (TR.sl TR.str) v0 x0, imm (TR.sl TR.str) v1 x1]) (fun (p : Nat × (List (List UInt8))) => p.1 + p.2.length = (x0).length ∧ List.drop p.1 x0 = p.2 ∧ rangeL (slices_Equal_string_string_b1 x1) p.2 p.1 () = some y14) (fun (p : Nat × (List (List UInt8))) => p.2.length) (0, x0) ⟨by simp, by simp, h16⟩ (fun a w st => St.cut [0, 1] ⟨rfl, rfl, rfl, rfl, trivial⟩ (by decide) rfl st) ?_
  rintro ⟨i21, r22⟩ ⟨h27, h28, h26⟩
  try dsimp only at h27 h28 h26
  refine GL.weak (env' := [(0, v0), (1, v1), (12, .int .i64 ((x0).length : Int)), (13, .int .i64 (i21 : Int))]) (L' := [imm (TR.sl TR.str) v0 x0, imm (TR.sl TR.str) v1 x1]) (fun _ _ st => st) ?_
  refine GL.seq ?_
  refine GL.region ?_
  refine RL.binI (v := .bool (decide ((i21 : Int) < ((x0).length : Int)))) rfl rfl rfl rfl rfl ?_
  refine RL.finG ?_
  refine GL.seq ?_
  refine GL.cond rfl (fun b29 => ?_) (fun b29 => ?_)
  ·have h30 : i21 < (x0).length := by have := of_decide_eq_true b29; omega
   obtain ⟨y31, r33, hr, e32, h34⟩ := drop_cons h28 rfl h30
   subst hr
   obtain ⟨z23, h24, h25⟩ := rangeL_some h26
   unfold slices_Equal_string_string_b1 at h24
   try dsimp only at h24
   refine GL.skip ?_
   refine GL.seq ?_
   refine GL.block ?_
   refine GL.seq ?_
   refine GL.region ?_
   refine RL.mv rfl rfl rfl ?_
   refine RL.asg rfl rfl rfl ?_
   refine RL.finG ?_
   refine GL.seq ?_
   refine GL.regionQ rfl rfl (by kernel_rfl) ?_
   refine RL.mv rfl rfl rfl ?_
   refine RL.mv rfl rfl rfl ?_
   refine RL.idxS (sz := 1) 0 Try.underlying22 Try_ln9 rfl rfl rfl rfl rfl SlOf.imm (by omega) (by omega) ?_
   refine RL.ldSx (i := i21) (e' := y31) 0 Ex.str Try_ln9 rfl rfl rfl rfl SlOf.imm e32 Part.self ?_
   refine RL.mv rfl rfl rfl ?_
   refine RL.mv rfl rfl rfl ?_
   obtain ⟨y37, e38, h24⟩ := bind_some h24
   refine RL.idxS (sz := 1) 1 Try.underlying22 Try_ln9 rfl rfl rfl rfl rfl SlOf.imm (idx_some e38).1 (idx_some e38).2.1 ?_
   refine RL.ldSx (i := i21) (e' := y37) 1 Ex.str Try_ln9 rfl rfl rfl rfl SlOf.imm (idx_some e38).2.2 Part.self ?_
   refine RL.binS (v := .bool (!(y31 == y37))) rfl rfl rfl rfl rfl ?_
   refine RL.finQG ?_
   refine GL.cond rfl (fun b39 => ?_) (fun b39 => ?_)
   ·replace h24 := ite_t b39 h24
    refine GL.seq ?_
    refine GL.region ?_
    refine RL.asg rfl rfl rfl ?_
    refine RL.finG ?_
    cases h24
    replace h25 : some (Fl.rt _) = some y14 := h25
    cases h25
    have hh := h19 _ h17
    subst hh
    exact GL.ret (Gx.ret (v := .bool false) (res1 rfl rfl) (fun a w st => st.toPostV))
   replace h24 := ite_f b39 h24
   refine GL.skip ?_
   refine GL.nilB ?_
   refine GL.region ?_
   refine RL.binI (v := .int .i64 ((i21 + 1 : Nat) : Int)) rfl rfl rfl rfl (binI_succ i21 (by omega)) ?_
   refine RL.mv rfl rfl rfl ?_
   refine RL.fin ?_
   cases h24
   exact fun a w st => lop_intro (i21 + 1, r33) ⟨by show i21 + 1 + r33.length = (x0).length; simp only [List.length_cons] at h27; omega, h34, h25⟩ (by simp) (St.cut [0, 1] ⟨rfl, rfl, rfl, rfl, trivial⟩ (by decide) rfl st)
  have h30 : ¬ i21 < (x0).length := by have := of_decide_eq_false b29; omega
  obtain rfl : r22 = [] := by rw [← h28]; exact List.drop_of_length_le (by omega)
  replace h26 : some (Fl.nx _) = some y14 := h26
  cases h26
  exact GL.exit (fun a w st => mid_intro () h17 (St.cut [] trivial (by decide) rfl st))
 rintro ⟨⟩ h40
 have h41 := h18 _ h40
 try dsimp only at h41
 refine GL.weak (env' := []) (L' := []) (fun _ _ st => st) ?_
 refine GL.seq ?_
 refine GL.region ?_
 refine RL.asg rfl rfl rfl ?_
 refine RL.finG ?_
 have h41 := Option.some.inj h41
 subst h41
 exact GL.ret (Gx.ret (v := .bool true) (res1 rfl rfl) (fun a w st => st.toPostV))

set_option maxHeartbeats 4000000 in
theorem pk_logs_c (S : Hp) (w : World) (hS : S.sub w)  (res : Bool) (hm : pk_logs_m = some res) : Calls Try.prog 10 #[] w (PostV w (.bool res)) := by
 refine calls_enter 52 Try.func10 Try.ntmps10 rfl S false [] [] rfl trivial hS trivial ?_
 unfold pk_logs_m at hm
 refine GL.seq ?_
 refine GL.region ?_
 refine RL.asg rfl rfl rfl ?_
 refine RL.finG ?_
 refine GL.seq ?_
 refine GL.region ?_
 obtain ⟨y4, e5, hm⟩ := bind_some hm
 refine RL.call (vs := []) Try_fit74 rfl rfl rfl rfl rfl (fun S f w hS hW hi => log_New_c S w hS  _ e5) ?_
 intro v6
 refine RL.asg rfl rfl rfl ?_
 refine RL.finG ?_
 refine GL.seq ?_
 refine GL.seq ?_
 refine GL.region ?_
 refine RL.mv rfl rfl rfl ?_
 refine RL.eqP 0 Try.underlying89 rfl rfl rfl rfl rfl PtOf.obox ?_
 refine RL.finG ?_
 refine GL.cond rfl (fun b7 => ?_) (fun b7 => ?_)
 ·replace hm := ite_t b7 hm
  refine GL.seq ?_
  refine GL.region ?_
  refine RL.asg rfl rfl rfl ?_
  refine RL.finG ?_
  have hm := Option.some.inj hm
  subst hm
  exact GL.ret (Gx.ret (v := .bool false) (res1 rfl rfl) (fun a w st => st.toPostV))
 replace hm := ite_f b7 hm
 refine GL.skip ?_
 refine GL.seq ?_
 refine GL.region ?_
 refine RL.mv rfl rfl rfl ?_
 obtain ⟨y10, e11, hm⟩ := bind_some hm
 refine RL.callK (vs := [v6, .string ⟨(([97, 98] : List UInt8) : List UInt8).toArray⟩]) (V := fun (o : Unit) => .int .i64 y10.1) (LR := fun (o : Unit) => [obox 142 (TR.pair TR.str TR.int) v6 y10.2]) (Ls := [obox 142 (TR.pair TR.str TR.int) v6 y4]) [0] (by decide) Try_fit75 rfl rfl rfl rfl rfl rfl (fun S f X w hO hB hW hI hL => log_Log_Append_c _ S X f w _ _  hO hB hI ([97, 98] : List UInt8) _ e11) ?_
 intro _
 refine RL.reL (L' := [gone, obox 142 (TR.pair TR.str TR.int) v6 y10.2]) rfl ?_
 refine RL.asg rfl rfl rfl ?_
 refine RL.finG ?_
 refine GL.seq ?_
 refine GL.region ?_
 refine RL.mv rfl rfl rfl ?_
 obtain ⟨y14, e15, hm⟩ := bind_some hm
 refine RL.callV (v := .tuple #[.int .i64 y14.1, .int .i64 y14.2]) (vs := [v6]) Try_fit76 rfl (Or.inl rfl) rfl rfl rfl rfl (fun U w hU hW hL => log_Log_Size_c U w hU _ _ (hL 1 _ _ rfl Seen.obox) _ e15) ?_
 refine RL.mv rfl rfl rfl ?_
 refine RL.ext rfl rfl rfl rfl ?_
 refine RL.ext rfl rfl rfl rfl ?_
 refine RL.asg rfl rfl rfl ?_
 refine RL.asg rfl rfl rfl ?_
 refine RL.finG ?_
 refine GL.seq ?_
 refine GL.region ?_
 refine RL.mv rfl rfl rfl ?_
 obtain ⟨y18, e19, hm⟩ := bind_some hm
 refine RL.callK (vs := [v6]) (V := fun (o : Unit) => .tuple #[]) (LR := fun (o : Unit) => [obox 142 (TR.pair TR.str TR.int) v6 y18]) (Ls := [obox 142 (TR.pair TR.str TR.int) v6 y10.2]) [1] (by decide) Try_fit77 rfl rfl rfl rfl rfl rfl (fun S f X w hO hB hW hI hL => log_Log_Sync_c _ S X f w _ _  hO hB hI  _ e19) ?_
 intro _
 refine RL.reL (L' := [gone, gone, obox 142 (TR.pair TR.str TR.int) v6 y18]) rfl ?_
 refine RL.finG ?_
 refine GL.seq ?_
 refine GL.region ?_
 refine RL.mv rfl rfl rfl ?_
 obtain ⟨y22, e23, hm⟩ := bind_some hm
 refine RL.callV (v := .tuple #[.int .i64 y22.1, .int .i64 y22.2]) (vs := [v6]) Try_fit76 rfl (Or.inl rfl) rfl rfl rfl rfl (fun U w hU hW hL => log_Log_Size_c U w hU _ _ (hL 2 _ _ rfl Seen.obox) _ e23) ?_
 refine RL.mv rfl rfl rfl ?_
 refine RL.ext rfl rfl rfl rfl ?_
 refine RL.ext rfl rfl rfl rfl ?_
 refine RL.asg rfl rfl rfl ?_
 refine RL.asg rfl rfl rfl ?_
 refine RL.finG ?_
 refine GL.seq ?_
 obtain ⟨y53, K54, h55, h56, h57, h58, h59⟩ := bindR_K hm
 refine GL.join (ι := Bool) (fun (p : Bool) => [(0, .bool p)]) (fun (p : Bool) => []) (fun (p : Bool) => K54 (.nx p)) ?_ ?_
 ·skip
  refine GL.region ?_
  refine RL.mv rfl rfl rfl ?_
  refine RL.binI (v := .bool (y10.1 == (0 : Int))) rfl rfl rfl rfl rfl ?_
  refine RL.mv rfl rfl rfl ?_
  refine RL.split (t := 26) rfl (fun b60 => ?_) (fun b60 => ?_)
  ·replace h55 := ite_t b60 h55
   refine RL.mv rfl rfl rfl ?_
   refine RL.binI (v := .bool (y14.1 == (5 : Int))) rfl rfl rfl rfl rfl ?_
   refine RL.pickT rfl rfl rfl rfl ?_
   refine RL.mv rfl rfl rfl ?_
   refine RL.split (t := 30) rfl (fun b61 => ?_) (fun b61 => ?_)
   ·replace h55 := ite_t b61 h55
    refine RL.mv rfl rfl rfl ?_
    refine RL.binI (v := .bool (y14.2 == (0 : Int))) rfl rfl rfl rfl rfl ?_
    refine RL.pickT rfl rfl rfl rfl ?_
    refine RL.mv rfl rfl rfl ?_
    refine RL.split (t := 34) rfl (fun b62 => ?_) (fun b62 => ?_)
    ·replace h55 := ite_t b62 h55
     refine RL.mv rfl rfl rfl ?_
     refine RL.binI (v := .bool (y22.1 == (5 : Int))) rfl rfl rfl rfl rfl ?_
     refine RL.pickT rfl rfl rfl rfl ?_
     refine RL.mv rfl rfl rfl ?_
     refine RL.split (t := 38) rfl (fun b63 => ?_) (fun b63 => ?_)
     ·replace h55 := ite_t b63 h55
      refine RL.mv rfl rfl rfl ?_
      refine RL.binI (v := .bool (y22.2 == (5 : Int))) rfl rfl rfl rfl rfl ?_
      refine RL.pickT rfl rfl rfl rfl ?_
      refine RL.mv rfl rfl rfl ?_
      refine RL.split (t := 42) rfl (fun b64 => ?_) (fun b64 => ?_)
      ·replace h55 := ite_t b64 h55
       refine RL.mv rfl rfl rfl ?_
       obtain ⟨y65, e66, h55⟩ := bind_some h55
       refine RL.callU (vs := [v6]) (LR := fun (o : Value) => [own 9 TR.str o y65]) (fun o => ⟨Loc.own TR.flatT_str, trivial⟩) Try_fit78 rfl rfl rfl rfl rfl (fun U w hU hW hL => log_Log_All_c U w hU _ _ (hL 2 _ _ rfl Seen.obox) _ e66) ?_
       intro v67
       refine RL.bS (t := TR.str) (vs := [.string ⟨(([97, 98] : List UInt8) : List UInt8).toArray⟩]) ([([97, 98] : List UInt8)] : (List (List UInt8))) Try.underlying22 Try_lo9 rfl rfl rfl rfl ⟨VR.str, trivial⟩ rfl (by decide) ?_
       intro v68
       obtain ⟨y69, e70, h55⟩ := bind_some h55
       refine RL.callV (v := .bool y69) (vs := [v67, v68]) Try_fit14 rfl (Or.inl rfl) rfl rfl rfl rfl (fun U w hU hW hL => slices_Equal_string_string_c U w hU _ _ (hL 3 _ _ rfl Seen.own) _ _ (hL 4 _ _ rfl Seen.own) _ e70) ?_
       refine RL.pickT rfl rfl rfl rfl ?_
       refine RL.mv rfl rfl rfl ?_
       refine RL.split (t := 48) rfl (fun b71 => ?_) (fun b71 => ?_)
       ·replace h55 := ite_t b71 h55
        obtain ⟨y72, e73, h55⟩ := bind_some h55
        refine RL.callV (v := .int .u16 y72) (vs := [.string ⟨(([49, 50, 51, 52, 53, 54, 55, 56, 57] : List UInt8) : List UInt8).toArray⟩]) Try_fit79 rfl (Or.inl rfl) rfl rfl rfl rfl (fun U w hU hW hL => log_Sum_c U w hU ([49, 50, 51, 52, 53, 54, 55, 56, 57] : List UInt8) _ e73) ?_
        refine RL.binI (v := .bool (y72 == (10673 : Int))) rfl rfl rfl rfl rfl ?_
        refine RL.pickT rfl rfl rfl rfl ?_
        refine RL.asg rfl rfl rfl ?_
        refine RL.fin ?_
        cases h55
        exact fun a w st => mid_intro (y72 == (10673 : Int)) h56 (St.cut [] ⟨rfl, trivial⟩ (by decide) rfl st)
       replace h55 := ite_f b71 h55
       refine RL.skip rfl rfl ?_
       refine RL.skip rfl rfl ?_
       refine RL.pickF rfl rfl rfl rfl ?_
       refine RL.asg rfl rfl rfl ?_
       refine RL.fin ?_
       cases h55
       exact fun a w st => mid_intro false h56 (St.cut [] ⟨rfl, trivial⟩ (by decide) rfl st)
      replace h55 := ite_f b64 h55
      refine RL.skip rfl rfl ?_
      refine RL.skip rfl rfl ?_
      refine RL.skip rfl rfl ?_
      refine RL.skip rfl rfl ?_
      refine RL.pickF rfl rfl rfl rfl ?_
      refine RL.mv rfl rfl rfl ?_
      refine RL.skip rfl rfl ?_
      refine RL.skip rfl rfl ?_
      refine RL.pickF rfl rfl rfl rfl ?_
      refine RL.asg rfl rfl rfl ?_
      refine RL.fin ?_
      cases h55
      exact fun a w st => mid_intro false h56 (St.cut [] ⟨rfl, trivial⟩ (by decide) rfl st)
     replace h55 := ite_f b63 h55
     refine RL.skip rfl rfl ?_
     refine RL.skip rfl rfl ?_
     refine RL.pickF rfl rfl rfl rfl ?_
     refine RL.mv rfl rfl rfl ?_
     refine RL.skip rfl rfl ?_
     refine RL.skip rfl rfl ?_
     refine RL.skip rfl rfl ?_
     refine RL.skip rfl rfl ?_
     refine RL.pickF rfl rfl rfl rfl ?_
     refine RL.mv rfl rfl rfl ?_
     refine RL.skip rfl rfl ?_
     refine RL.skip rfl rfl ?_
     refine RL.pickF rfl rfl rfl rfl ?_
     refine RL.asg rfl rfl rfl ?_
     refine RL.fin ?_
     cases h55
     exact fun a w st => mid_intro false h56 (St.cut [] ⟨rfl, trivial⟩ (by decide) rfl st)
    replace h55 := ite_f b62 h55
    refine RL.skip rfl rfl ?_
    refine RL.skip rfl rfl ?_
    refine RL.pickF rfl rfl rfl rfl ?_
    refine RL.mv rfl rfl rfl ?_
    refine RL.skip rfl rfl ?_
    refine RL.skip rfl rfl ?_
    refine RL.pickF rfl rfl rfl rfl ?_
    refine RL.mv rfl rfl rfl ?_
    refine RL.skip rfl rfl ?_
    refine RL.skip rfl rfl ?_
    refine RL.skip rfl rfl ?_
    refine RL.skip rfl rfl ?_
    refine RL.pickF rfl rfl rfl rfl ?_
    refine RL.mv rfl rfl rfl ?_
    refine RL.skip rfl rfl ?_
    refine RL.skip rfl rfl ?_
    refine RL.pickF rfl rfl rfl rfl ?_
    refine RL.asg rfl rfl rfl ?_
    refine RL.fin ?_
    cases h55
    exact fun a w st => mid_intro false h56 (St.cut [] ⟨rfl, trivial⟩ (by decide) rfl st)
   replace h55 := ite_f b61 h55
   refine RL.skip rfl rfl ?_
   refine RL.skip rfl rfl ?_
   refine RL.pickF rfl rfl rfl rfl ?_
   refine RL.mv rfl rfl rfl ?_
   refine RL.skip rfl rfl ?_
   refine RL.skip rfl rfl ?_
   refine RL.pickF rfl rfl rfl rfl ?_
   refine RL.mv rfl rfl rfl ?_
   refine RL.skip rfl rfl ?_
   refine RL.skip rfl rfl ?_
   refine RL.pickF rfl rfl rfl rfl ?_
   refine RL.mv rfl rfl rfl ?_
   refine RL.skip rfl rfl ?_
   refine RL.skip rfl rfl ?_
   refine RL.skip rfl rfl ?_
   refine RL.skip rfl rfl ?_
   refine RL.pickF rfl rfl rfl rfl ?_
   refine RL.mv rfl rfl rfl ?_
   refine RL.skip rfl rfl ?_
   refine RL.skip rfl rfl ?_
   refine RL.pickF rfl rfl rfl rfl ?_
   refine RL.asg rfl rfl rfl ?_
   refine RL.fin ?_
   cases h55
   exact fun a w st => mid_intro false h56 (St.cut [] ⟨rfl, trivial⟩ (by decide) rfl st)
  replace h55 := ite_f b60 h55
  refine RL.skip rfl rfl ?_
  refine RL.skip rfl rfl ?_
  refine RL.pickF rfl rfl rfl rfl ?_
  refine RL.mv rfl rfl rfl ?_
  refine RL.skip rfl rfl ?_
  refine RL.skip rfl rfl ?_
  refine RL.pickF rfl rfl rfl rfl ?_
  refine RL.mv rfl rfl rfl ?_
  refine RL.skip rfl rfl ?_
  refine RL.skip rfl rfl ?_
  refine RL.pickF rfl rfl rfl rfl ?_
  refine RL.mv rfl rfl rfl ?_
  refine RL.skip rfl rfl ?_
  refine RL.skip rfl rfl ?_
  refine RL.pickF rfl rfl rfl rfl ?_
  refine RL.mv rfl rfl rfl ?_
  refine RL.skip rfl rfl ?_
  refine RL.skip rfl rfl ?_
  refine RL.skip rfl rfl ?_
  refine RL.skip rfl rfl ?_
  refine RL.pickF rfl rfl rfl rfl ?_
  refine RL.mv rfl rfl rfl ?_
  refine RL.skip rfl rfl ?_
  refine RL.skip rfl rfl ?_
  refine RL.pickF rfl rfl rfl rfl ?_
  refine RL.asg rfl rfl rfl ?_
  refine RL.fin ?_
  cases h55
  exact fun a w st => mid_intro false h56 (St.cut [] ⟨rfl, trivial⟩ (by decide) rfl st)
 rintro x52 h74
 have h75 := h57 _ h74
 try dsimp only at h75
 refine GL.weak (env' := [(0, .bool x52)]) (L' := []) (fun _ _ st => st) ?_
 have h75 := Option.some.inj h75
 subst h75
 exact GL.ret (Gx.ret (v := .bool x52) (res1 rfl rfl) (fun a w st => st.toPostV))

set_option maxHeartbeats 4000000 in
theorem ref_Rest_c (S : Hp) (w : World) (hS : S.sub w) (x0 : Int) (x1 : Int) (res : Int) (hm : ref_Rest_m x0 x1 = some res) : Calls Try.prog 80 #[.int .i64 x0, .int .i64 x1] w (PostC w (.int .i64 res)) := by
 refine calls_enter 14 Try.func80 Try.ntmps80 rfl S true [(0, .int .i64 x0), (1, .int .i64 x1)] [] rfl ⟨rfl, ⟨rfl, trivial⟩⟩ hS trivial ?_
 unfold ref_Rest_m at hm
 refine GL.seq ?_
 refine GL.region ?_
 refine RL.asg rfl rfl rfl ?_
 refine RL.finG ?_
 refine GL.seq ?_
 refine GL.region ?_
 refine RL.mv rfl rfl rfl ?_
 refine RL.mv rfl rfl rfl ?_
 obtain ⟨y5, e6, hm⟩ := bind_some hm
 replace e6 := chk_some e6
 refine RL.rem rfl rfl rfl rfl e6 ?_
 refine RL.asg rfl rfl rfl ?_
 refine RL.finG ?_
 refine GL.seq ?_
 refine GL.seq ?_
 refine GL.region ?_
 refine RL.mv rfl rfl rfl ?_
 refine RL.binI (v := .bool (decide ((Int.tmod x0 x1) < (0 : Int)))) rfl rfl rfl rfl rfl ?_
 refine RL.finG ?_
 obtain ⟨y9, K10, h11, h12, h13, h14, h15⟩ := bindR_K hm
 refine GL.join (ι := Int) (fun (p : Int) => [(0, .int .i64 p)]) (fun (p : Int) => []) (fun (p : Int) => K10 (.nx p)) ?_ ?_
 ·skip
  refine GL.cond rfl (fun b16 => ?_) (fun b16 => ?_)
  ·replace h11 := ite_t b16 h11
   refine GL.region ?_
   refine RL.mv rfl rfl rfl ?_
   refine RL.mv rfl rfl rfl ?_
   refine RL.binI (v := .int .i64 (wadd (Int.tmod x0 x1) x1)) rfl rfl rfl rfl rfl ?_
   refine RL.asg rfl rfl rfl ?_
   refine RL.finG ?_
   cases h11
   exact fun a w st => mid_intro (wadd (Int.tmod x0 x1) x1) h12 (St.cut [] ⟨rfl, trivial⟩ (by decide) rfl st)
  replace h11 := ite_f b16 h11
  refine GL.skip ?_
  cases h11
  exact fun a w st => mid_intro (Int.tmod x0 x1) h12 (St.cut [] ⟨rfl, trivial⟩ (by decide) rfl st)
 rintro x8 h17
 have h18 := h13 _ h17
 try dsimp only at h18
 refine GL.weak (env' := [(0, .int .i64 x8)]) (L' := []) (fun _ _ st => st) ?_
 refine GL.seq ?_
 refine GL.region ?_
 refine RL.mv rfl rfl rfl ?_
 refine RL.asg rfl rfl rfl ?_
 refine RL.finG ?_
 have h18 := Option.some.inj h18
 subst h18
 exact GL.ret (Gx.ret (v := .int .i64 x8) (res1 rfl rfl) (fun a w st => st.toPostC rfl))

set_option maxHeartbeats 4000000 in
theorem pk_Within_c (S : Hp) (w : World) (hS : S.sub w) (x0 : Int) (x1 : Int) (res : Int) (hm : pk_Within_m x0 x1 = some res) : Calls Try.prog 12 #[.int .i64 x0, .int .i64 x1] w (PostC w (.int .i64 res)) := by
 refine calls_enter 8 Try.func12 Try.ntmps12 rfl S true [(0, .int .i64 x0), (1, .int .i64 x1)] [] rfl ⟨rfl, ⟨rfl, trivial⟩⟩ hS trivial ?_
 unfold pk_Within_m at hm
 refine GL.seq ?_
 refine GL.region ?_
 refine RL.asg rfl rfl rfl ?_
 refine RL.finG ?_
 refine GL.seq ?_
 refine GL.region ?_
 refine RL.mv rfl rfl rfl ?_
 refine RL.mv rfl rfl rfl ?_
 obtain ⟨y5, e6, hm⟩ := bind_some hm
 refine RL.callC (v := .int .i64 y5) (vs := [.int .i64 x0, .int .i64 x1]) Try_fit80 rfl rfl rfl rfl (fun U w hU hW hL => ref_Rest_c U w hU x0 x1 _ e6) ?_
 refine RL.asg rfl rfl rfl ?_
 refine RL.finG ?_
 have hm := Option.some.inj hm
 subst hm
 exact GL.ret (Gx.ret (v := .int .i64 y5) (res1 rfl rfl) (fun a w st => st.toPostC rfl))

set_option maxHeartbeats 4000000 in
theorem pk_LogBack_c (S : Hp) (w : World) (hS : S.sub w) (v0 : Value) (x0 : (List (List UInt8))) (k0 : ((TR.sl TR.str)).vrep S v0 x0) (x1 : Int) (res : Bool) (hm : pk_LogBack_m x0 x1 = some res) : Calls Try.prog 3 #[v0, .int .i64 x1] w (PostV w (.bool res)) := by
 refine calls_enter 86 Try.func3 Try.ntmps3 rfl S false [(0, v0), (1, .int .i64 x1)] [imm (TR.sl TR.str) v0 x0] rfl ⟨rfl, ⟨rfl, trivial⟩⟩ hS ⟨k0, trivial⟩ ?_
 unfold pk_LogBack_m at hm
 refine GL.seq ?_
 refine GL.region ?_
 refine RL.asg rfl rfl rfl ?_
 refine RL.finG ?_
 refine GL.seq ?_
 refine GL.seq ?_
 refine GL.region ?_
 obtain ⟨y5, e6, hm⟩ := bind_some hm
 refine RL.callV (v := .bool y5) (vs := []) Try_fit10 rfl (Or.inl rfl) rfl rfl rfl rfl (fun U w hU hW hL => pk_logs_c U w hU  _ e6) ?_
 refine RL.notB rfl rfl rfl ?_
 refine RL.finG ?_
 refine GL.cond rfl (fun b7 => ?_) (fun b7 => ?_)
 ·replace hm := ite_t b7 hm
  refine GL.seq ?_
  refine GL.region ?_
  refine RL.asg rfl rfl rfl ?_
  refine RL.finG ?_
  have hm := Option.some.inj hm
  subst hm
  exact GL.ret (Gx.ret (v := .bool false) (res1 rfl rfl) (fun a w st => st.toPostV))
 replace hm := ite_f b7 hm
 refine GL.skip ?_
 refine GL.seq ?_
 refine GL.region ?_
 refine RL.asg rfl rfl rfl ?_
 refine RL.finG ?_
 refine GL.seq ?_
 refine GL.region ?_
 refine RL.asg rfl rfl rfl ?_
 refine RL.finG ?_
 refine GL.seq ?_
 refine GL.seq ?_
 refine GL.region ?_
 refine RL.mv rfl rfl rfl ?_
 refine RL.lenS 0 Try.underlying22 rfl rfl rfl rfl SlOf.imm ?_
 refine RL.mv rfl rfl rfl ?_
 refine RL.finG ?_
 refine GL.weak (fun a w st => st.nilOwn 3 TR.int) ?_
 refine GL.open_ 0 rfl (fun S h => len_imm S h) (fun n45 => ?_)
 obtain ⟨y46, K47, h48, h49, h50, h51, h52⟩ := bindR_K hm
 refine GL.join (ι := (List UInt8) × (List Int) × Value) (fun (p : (List UInt8) × (List Int) × Value) => [(0, v0), (1, .int .i64 x1), (5, .string ⟨(p.1 : List UInt8).toArray⟩), (6, p.2.2)]) (fun (p : (List UInt8) × (List Int) × Value) => [imm (TR.sl TR.str) v0 x0, own 3 TR.int p.2.2 p.2.1]) (fun (p : (List UInt8) × (List Int) × Value) => K47 (.nx (p.1, p.2.1))) ?_ ?_
 ·refine GL.block ?_
  refine GL.loop (ι := Nat × (List (List UInt8)) × (List UInt8) × (List Int) × Value) (fun (p : Nat × (List (List UInt8)) × (List UInt8) × (List Int) × Value) => [(0, v0), (1, .int .i64 x1), (5, .string ⟨(p.2.2.1 : List UInt8).toArray⟩), (6, p.2.2.2.2), (17, v0), (18, .int .i64 ((x0).length : Int)), (19, .int .i64 (p.1 : Int))]) (fun (p : Nat × (List (List UInt8)) × (List UInt8) × (List Int) × Value) => [imm (TR.sl TR.str) v0 x0, own 3 TR.int p.2.2.2.2 p.2.2.2.1]) (fun (p : Nat × (List (List UInt8)) × (List UInt8) × (List Int) × Value) => p.1 + p.2.1.length = (x0).length ∧ List.drop p.1 x0 = p.2.1 ∧ rangeL pk_LogBack_b1 p.2.1 p.1 (p.2.2.1, p.2.2.2.1) = some y46) (fun (p : Nat × (List (List UInt8)) × (List UInt8) × (List Int) × Value) => p.2.1.length) (0, x0, ([] : List UInt8), [], Value.slice none 0 0) ⟨by simp, by simp, h48⟩ (fun a w st => St.cut [0, 1] ⟨rfl, rfl, rfl, rfl, rfl, rfl, rfl, trivial⟩ (by decide) rfl st) ?_
  rintro ⟨i53, r54, x8, l9, v10⟩ ⟨h59, h60, h58⟩
  try dsimp only at h59 h60 h58
  refine GL.weak (env' := [(0, v0), (1, .int .i64 x1), (5, .string ⟨(x8 : List UInt8).toArray⟩), (6, v10), (17, v0), (18, .int .i64 ((x0).length : Int)), (19, .int .i64 (i53 : Int))]) (L' := [imm (TR.sl TR.str) v0 x0, own 3 TR.int v10 l9]) (fun _ _ st => st) ?_
  refine GL.seq ?_
  refine GL.region ?_
  refine RL.binI (v := .bool (decide ((i53 : Int) < ((x0).length : Int)))) rfl rfl rfl rfl rfl ?_
  refine RL.finG ?_
  refine GL.seq ?_
  refine GL.cond rfl (fun b61 => ?_) (fun b61 => ?_)
  ·have h62 : i53 < (x0).length := by have := of_decide_eq_true b61; omega
   obtain ⟨y63, r65, hr, e64, h66⟩ := drop_cons h60 rfl h62
   subst hr
   obtain ⟨z55, h56, h57⟩ := rangeL_some h58
   unfold pk_LogBack_b1 at h56
   try dsimp only at h56
   refine GL.skip ?_
   refine GL.seq ?_
   refine GL.block ?_
   refine GL.seq ?_
   refine GL.region ?_
   refine RL.idxS (sz := 1) 0 Try.underlying22 Try_ln9 rfl rfl rfl rfl rfl SlOf.imm (by omega) (by omega) ?_
   refine RL.ldSx (i := i53) (e' := y63) 0 Ex.str Try_ln9 rfl rfl rfl rfl SlOf.imm e64 Part.self ?_
   refine RL.asg rfl rfl rfl ?_
   refine RL.finG ?_
   refine GL.seq ?_
   refine GL.region ?_
   refine RL.mv rfl rfl rfl ?_
   obtain ⟨y69, e70, h56⟩ := bind_some h56
   refine RL.callV (v := .tuple #[.string ⟨(y69.1 : List UInt8).toArray⟩, .int .i64 y69.2]) (vs := [.string ⟨(y63 : List UInt8).toArray⟩]) Try_fit11 rfl (Or.inl rfl) rfl rfl rfl rfl (fun U w hU hW hL => log_Frame_c U w hU y63 _ e70) ?_
   refine RL.mv rfl rfl rfl ?_
   refine RL.ext rfl rfl rfl rfl ?_
   refine RL.ext rfl rfl rfl rfl ?_
   refine RL.asg rfl rfl rfl ?_
   refine RL.asg rfl rfl rfl ?_
   refine RL.finG ?_
   refine GL.seq ?_
   refine GL.seq ?_
   refine GL.region ?_
   refine RL.mv rfl rfl rfl ?_
   refine RL.binI (v := .bool (y69.2 != (0 : Int))) rfl rfl rfl rfl rfl ?_
   refine RL.finG ?_
   refine GL.cond rfl (fun b71 => ?_) (fun b71 => ?_)
   ·replace h56 := ite_t b71 h56
    refine GL.seq ?_
    obtain ⟨y75, K76, h77, h78, h79, h80, h81⟩ := bindF_K h56
    refine GL.join (ι := Bool) (fun (p : Bool) => [(4, .bool p)]) (fun (p : Bool) => []) (fun (p : Bool) => K76 (.nx p)) ?_ ?_
    ·skip
     refine GL.region ?_
     refine RL.mv rfl rfl rfl ?_
     refine RL.lenT Try.underlying9 rfl rfl rfl ?_
     refine RL.binI (v := .bool (decide (((y63).length : Int) > (64 : Int)))) rfl rfl rfl rfl rfl ?_
     refine RL.mv rfl rfl rfl ?_
     refine RL.split (t := 33) rfl (fun b82 => ?_) (fun b82 => ?_)
     ·replace h77 := ite_t b82 h77
      refine RL.mv rfl rfl rfl ?_
      refine RL.binS (v := .bool (y69.1 == ([] : List UInt8))) rfl rfl rfl rfl rfl ?_
      refine RL.pickT rfl rfl rfl rfl ?_
      refine RL.asg rfl rfl rfl ?_
      refine RL.fin ?_
      cases h77
      exact fun a w st => mid_intro (y69.1 == ([] : List UInt8)) h78 (St.cut [] ⟨rfl, trivial⟩ (by decide) rfl st)
     replace h77 := ite_f b82 h77
     refine RL.skip rfl rfl ?_
     refine RL.skip rfl rfl ?_
     refine RL.pickF rfl rfl rfl rfl ?_
     refine RL.asg rfl rfl rfl ?_
     refine RL.fin ?_
     cases h77
     exact fun a w st => mid_intro false h78 (St.cut [] ⟨rfl, trivial⟩ (by decide) rfl st)
    rintro x74 h83
    have h84 := h79 _ h83
    try dsimp only at h84
    refine GL.weak (env' := [(4, .bool x74)]) (L' := []) (fun _ _ st => st) ?_
    cases h84
    replace h57 : some (Fl.rt _) = some y46 := h57
    cases h57
    have hh := h51 _ h49
    subst hh
    exact GL.ret (Gx.ret (v := .bool x74) (res1 rfl rfl) (fun a w st => st.toPostV))
   replace h56 := ite_f b71 h56
   refine GL.skip ?_
   refine GL.seq ?_
   refine GL.region ?_
   refine RL.mv rfl rfl rfl ?_
   refine RL.mv rfl rfl rfl ?_
   obtain ⟨y87, e88, h56⟩ := bind_some h56
   replace e88 := chk_some e88
   refine RL.cat rfl rfl rfl rfl e88 ?_
   refine RL.asg rfl rfl rfl ?_
   refine RL.finG ?_
   refine GL.region ?_
   refine RL.mv rfl rfl rfl ?_
   refine RL.mv rfl rfl rfl ?_
   refine RL.lenT Try.underlying9 rfl rfl rfl ?_
   refine RL.bS (t := TR.int) (vs := [.int .i64 ((x8 ++ y69.1).length : Int)]) ([((x8 ++ y69.1).length : Int)] : (List Int)) Try.underlying24 Try_lo3 rfl rfl rfl rfl ⟨VR.int, trivial⟩ rfl (by decide) ?_
   intro v93
   obtain ⟨y94, e95, h56⟩ := bind_some h56
   replace e95 := chk_some e95
   refine RL.appB 1 2 Try.underlying24 Try_lo3 rfl rfl rfl rfl rfl rfl rfl SlOf.own (RoomN.of Try_info3 (by decide) (by decide)) e95 ?_
   intro v96
   refine RL.reL (L' := [imm (TR.sl TR.str) v0 x0, own 3 TR.int v96 (l9 ++ ([((x8 ++ y69.1).length : Int)] : (List Int))), own 3 TR.int v93 ([((x8 ++ y69.1).length : Int)] : (List Int))]) rfl ?_
   refine RL.asg rfl rfl rfl ?_
   refine RL.finG ?_
   refine GL.nilB ?_
   refine GL.region ?_
   refine RL.binI (v := .int .i64 ((i53 + 1 : Nat) : Int)) rfl rfl rfl rfl (binI_succ i53 (by omega)) ?_
   refine RL.mv rfl rfl rfl ?_
   refine RL.fin ?_
   cases h56
   exact fun a w st => lop_intro (i53 + 1, r65, x8 ++ y69.1, (l9 ++ ([((x8 ++ y69.1).length : Int)] : (List Int))), v96) ⟨by show i53 + 1 + r65.length = (x0).length; simp only [List.length_cons] at h59; omega, h66, h57⟩ (by simp) (St.cut [0, 1] ⟨rfl, rfl, rfl, rfl, rfl, rfl, rfl, trivial⟩ (by decide) rfl st)
  have h62 : ¬ i53 < (x0).length := by have := of_decide_eq_false b61; omega
  obtain rfl : r54 = [] := by rw [← h60]; exact List.drop_of_length_le (by omega)
  replace h58 : some (Fl.nx _) = some y46 := h58
  cases h58
  exact GL.exit (fun a w st => mid_intro (x8, l9, v10) h49 (St.cut [0, 1] ⟨rfl, rfl, rfl, rfl, trivial⟩ (by decide) rfl st))
 rintro ⟨x8, l9, v10⟩ h97
 have h98 := h50 _ h97
 try dsimp only at h98
 refine GL.weak (env' := [(0, v0), (1, .int .i64 x1), (5, .string ⟨(x8 : List UInt8).toArray⟩), (6, v10)]) (L' := [imm (TR.sl TR.str) v0 x0, own 3 TR.int v10 l9]) (fun _ _ st => st) ?_
 refine GL.seq ?_
 refine GL.region ?_
 refine RL.mv rfl rfl rfl ?_
 refine RL.mv rfl rfl rfl ?_
 refine RL.lenT Try.underlying9 rfl rfl rfl ?_
 refine RL.binI (v := .int .i64 (wadd ((x8).length : Int) (1 : Int))) rfl rfl rfl rfl rfl ?_
 obtain ⟨y101, e102, h98⟩ := bind_some h98
 refine RL.callC (v := .int .i64 y101) (vs := [.int .i64 x1, .int .i64 (wadd ((x8).length : Int) (1 : Int))]) Try_fit12 rfl rfl rfl rfl (fun U w hU hW hL => pk_Within_c U w hU x1 (wadd ((x8).length : Int) (1 : Int)) _ e102) ?_
 refine RL.asg rfl rfl rfl ?_
 refine RL.finG ?_
 refine GL.seq ?_
 refine GL.region ?_
 refine RL.asg rfl rfl rfl ?_
 refine RL.asg rfl rfl rfl ?_
 refine RL.finG ?_
 refine GL.seq ?_
 obtain ⟨y129, K130, h131, h132, h133, h134, h135⟩ := bindR_K h98
 refine GL.join (ι := Int × Int) (fun (p : Int × Int) => [(0, v0), (1, .int .i64 y101), (5, .string ⟨(x8 : List UInt8).toArray⟩), (11, .int .i64 p.1), (12, .int .i64 p.2)]) (fun (p : Int × Int) => [imm (TR.sl TR.str) v0 x0]) (fun (p : Int × Int) => K130 (.nx (p.1, p.2))) ?_ ?_
 ·refine GL.block ?_
  refine GL.loop (ι := Nat × Int × Int) (fun (p : Nat × Int × Int) => [(0, v0), (1, .int .i64 y101), (5, .string ⟨(x8 : List UInt8).toArray⟩), (6, v10), (11, .int .i64 p.2.1), (12, .int .i64 p.2.2)]) (fun (p : Nat × Int × Int) => [imm (TR.sl TR.str) v0 x0, own 3 TR.int v10 l9]) (fun (p : Nat × Int × Int) => loopM (pk_LogBack_b2 l9 y101) p.1 (p.2.1, p.2.2) = some y129) (fun (p : Nat × Int × Int) => p.1) (9223372036854775808, (0 : Int), (0 : Int)) h131 (fun a w st => St.cut [0, 1] ⟨rfl, rfl, rfl, rfl, rfl, rfl, trivial⟩ (by decide) rfl st) ?_
  rintro ⟨r137, x103, x104⟩ h141
  try dsimp only at h141
  refine GL.weak (env' := [(0, v0), (1, .int .i64 y101), (5, .string ⟨(x8 : List UInt8).toArray⟩), (6, v10), (11, .int .i64 x103), (12, .int .i64 x104)]) (L' := [imm (TR.sl TR.str) v0 x0, own 3 TR.int v10 l9]) (fun _ _ st => st) ?_
  obtain ⟨r144, z138, hr, h139, h140⟩ := loopM_some h141
  subst hr
  unfold pk_LogBack_b2 at h139
  try dsimp only at h139
  refine GL.seq ?_
  refine GL.seq ?_
  obtain ⟨y152, K153, h154, h155, h156, h157, h158⟩ := bindF_K h139
  refine GL.join (ι := Bool) (fun (p : Bool) => [(0, v0), (1, .int .i64 y101), (5, .string ⟨(x8 : List UInt8).toArray⟩), (6, v10), (11, .int .i64 x103), (12, .int .i64 x104), (62, .bool p)]) (fun (p : Bool) => [imm (TR.sl TR.str) v0 x0, own 3 TR.int v10 l9]) (fun (p : Bool) => K153 (.nx p)) ?_ ?_
  ·skip
   refine GL.region ?_
   refine RL.mv rfl rfl rfl ?_
   refine RL.mv rfl rfl rfl ?_
   refine RL.lenS 1 Try.underlying24 rfl rfl rfl rfl SlOf.own ?_
   refine RL.binI (v := .bool (decide (x103 < ((l9).length : Int)))) rfl rfl rfl rfl rfl ?_
   refine RL.mv rfl rfl rfl ?_
   refine RL.split (t := 55) rfl (fun b159 => ?_) (fun b159 => ?_)
   ·replace h154 := ite_t b159 h154
    refine RL.mv rfl rfl rfl ?_
    refine RL.mv rfl rfl rfl ?_
    obtain ⟨y160, e161, h154⟩ := bind_some h154
    refine RL.idxS (sz := 1) 1 Try.underlying24 Try_ln3 rfl rfl rfl rfl rfl SlOf.own (idx_some e161).1 (idx_some e161).2.1 ?_
    refine RL.ldSx (i := (x103).toNat) (e' := y160) 1 Ex.ik Try_ln3 rfl rfl rfl rfl SlOf.own (idx_some e161).2.2 Part.self ?_
    refine RL.mv rfl rfl rfl ?_
    refine RL.binI (v := .bool (decide (y160 ≤ y101))) rfl rfl rfl rfl rfl ?_
    refine RL.pickT rfl rfl rfl rfl ?_
    refine RL.fin ?_
    cases h154
    exact fun a w st => mid_intro (decide (y160 ≤ y101)) h155 (St.cut [0, 1] ⟨rfl, rfl, rfl, rfl, rfl, rfl, rfl, trivial⟩ (by decide) rfl st)
   replace h154 := ite_f b159 h154
   refine RL.skip rfl rfl ?_
   refine RL.skip rfl rfl ?_
   refine RL.skip rfl rfl ?_
   refine RL.skip rfl rfl ?_
   refine RL.skip rfl rfl ?_
   refine RL.skip rfl rfl ?_
   refine RL.pickF rfl rfl rfl rfl ?_
   refine RL.fin ?_
   cases h154
   exact fun a w st => mid_intro false h155 (St.cut [0, 1] ⟨rfl, rfl, rfl, rfl, rfl, rfl, rfl, trivial⟩ (by decide) rfl st)
  rintro x151 h162
  have h163 := h156 _ h162
  try dsimp only at h163
  refine GL.weak (env' := [(0, v0), (1, .int .i64 y101), (5, .string ⟨(x8 : List UInt8).toArray⟩), (6, v10), (11, .int .i64 x103), (12, .int .i64 x104), (62, .bool x151)]) (L' := [imm (TR.sl TR.str) v0 x0, own 3 TR.int v10 l9]) (fun _ _ st => st) ?_
  refine GL.cond rfl (fun b164 => ?_) (fun b164 => ?_)
  ·replace h163 := ite_t b164 h163
   refine GL.skip ?_
   refine GL.block ?_
   refine GL.seq ?_
   refine GL.region ?_
   refine RL.mv rfl rfl rfl ?_
   refine RL.mv rfl rfl rfl ?_
   obtain ⟨y167, e168, h163⟩ := bind_some h163
   refine RL.idxS (sz := 1) 1 Try.underlying24 Try_ln3 rfl rfl rfl rfl rfl SlOf.own (idx_some e168).1 (idx_some e168).2.1 ?_
   refine RL.ldSx (i := (x103).toNat) (e' := y167) 1 Ex.ik Try_ln3 rfl rfl rfl rfl SlOf.own (idx_some e168).2.2 Part.self ?_
   refine RL.asg rfl rfl rfl ?_
   refine RL.finG ?_
   refine GL.region ?_
   refine RL.mv rfl rfl rfl ?_
   refine RL.binI (v := .int .i64 (wadd x103 (1 : Int))) rfl rfl rfl rfl rfl ?_
   refine RL.asg rfl rfl rfl ?_
   refine RL.finG ?_
   refine GL.nilB ?_
   cases h163
   exact fun a w st => lop_intro (r144, wadd x103 (1 : Int), y167) (by exact h140) (by simp) (St.cut [0, 1] ⟨rfl, rfl, rfl, rfl, rfl, rfl, trivial⟩ (by decide) rfl st)
  replace h163 := ite_f b164 h163
  cases h163
  replace h140 : some (Fl.nx _) = some y129 := h140
  cases h140
  exact GL.exit (fun a w st => mid_intro (x103, x104) h132 (St.cut [0] ⟨rfl, rfl, rfl, rfl, rfl, trivial⟩ (by decide) rfl st))
 rintro ⟨x103, x104⟩ h169
 have h170 := h133 _ h169
 try dsimp only at h170
 refine GL.weak (env' := [(0, v0), (1, .int .i64 y101), (5, .string ⟨(x8 : List UInt8).toArray⟩), (11, .int .i64 x103), (12, .int .i64 x104)]) (L' := [imm (TR.sl TR.str) v0 x0]) (fun _ _ st => st) ?_
 refine GL.seq ?_
 refine GL.region ?_
 refine RL.mv rfl rfl rfl ?_
 refine RL.mv rfl rfl rfl ?_
 obtain ⟨y176, e177, h170⟩ := bind_some h170
 replace e177 := chk_some e177
 refine RL.cutT (i := 0) (j := (y101).toNat) Try.underlying9 rfl rfl rfl (Or.inl ⟨rfl, rfl⟩) (Or.inr ⟨_, _, rfl, by rw [Int.toNat_of_nonneg (by omega)]; rfl⟩) (by omega) (by omega) ?_
 obtain ⟨y178, e179, h170⟩ := bind_some h170
 refine RL.call (vs := [.string ⟨((List.take ((y101).toNat) x8).drop 0 : List UInt8).toArray⟩]) Try_fit13 rfl rfl rfl rfl rfl (fun S f w hS hW hi => log_Scan_c S w hS ((List.take ((y101).toNat) x8).drop 0) _ e179) ?_
 intro v180
 refine RL.mv rfl rfl rfl ?_
 refine RL.ext rfl rfl rfl rfl ?_
 refine RL.ext rfl rfl rfl rfl ?_
 refine RL.asg rfl rfl rfl ?_
 refine RL.asg rfl rfl rfl ?_
 refine RL.finG ?_
 refine GL.seq ?_
 obtain ⟨y194, K195, h196, h197, h198, h199, h200⟩ := bindR_K h170
 refine GL.join (ι := Bool) (fun (p : Bool) => [(4, .bool p)]) (fun (p : Bool) => []) (fun (p : Bool) => K195 (.nx p)) ?_ ?_
 ·skip
  refine GL.region ?_
  refine RL.mv rfl rfl rfl ?_
  refine RL.mv rfl rfl rfl ?_
  refine RL.binI (v := .bool (y178.2 == x104)) rfl rfl rfl rfl rfl ?_
  refine RL.mv rfl rfl rfl ?_
  refine RL.split (t := 79) rfl (fun b201 => ?_) (fun b201 => ?_)
  ·replace h196 := ite_t b201 h196
   refine RL.mv rfl rfl rfl ?_
   refine RL.mv rfl rfl rfl ?_
   refine RL.mv rfl rfl rfl ?_
   obtain ⟨y202, e203, h196⟩ := bind_some h196
   replace e203 := chk_some e203
   refine RL.slc (t := TR.str) (i := 0) (j := (x103).toNat) (sz := 1) 0 Try.underlying22 Try_ln9 rfl rfl rfl rfl (Or.inl ⟨rfl, rfl⟩) (Or.inr ⟨_, _, rfl, by rw [Int.toNat_of_nonneg (by omega)]; rfl⟩) rfl (by omega) (by omega) ?_
   intro v204
   refine RL.reL (L' := [imm (TR.sl TR.str) v0 x0, own 9 TR.str v180 y178.1, imm (TR.sl TR.str) v204 ((List.take ((x103).toNat) x0).drop 0)]) rfl ?_
   obtain ⟨y205, e206, h196⟩ := bind_some h196
   refine RL.callV (v := .bool y205) (vs := [v180, v204]) Try_fit14 rfl (Or.inl rfl) rfl rfl rfl rfl (fun U w hU hW hL => slices_Equal_string_string_c U w hU _ _ (hL 1 _ _ rfl Seen.own) _ _ (hL 2 _ _ rfl Seen.imm) _ e206) ?_
   refine RL.pickT rfl rfl rfl rfl ?_
   refine RL.asg rfl rfl rfl ?_
   refine RL.fin ?_
   cases h196
   exact fun a w st => mid_intro y205 h197 (St.cut [] ⟨rfl, trivial⟩ (by decide) rfl st)
  replace h196 := ite_f b201 h196
  refine RL.skip rfl rfl ?_
  refine RL.skip rfl rfl ?_
  refine RL.skip rfl rfl ?_
  refine RL.skip rfl rfl ?_
  refine RL.skip rfl rfl ?_
  refine RL.pickF rfl rfl rfl rfl ?_
  refine RL.asg rfl rfl rfl ?_
  refine RL.fin ?_
  cases h196
  exact fun a w st => mid_intro false h197 (St.cut [] ⟨rfl, trivial⟩ (by decide) rfl st)
 rintro x193 h207
 have h208 := h198 _ h207
 try dsimp only at h208
 refine GL.weak (env' := [(4, .bool x193)]) (L' := []) (fun _ _ st => st) ?_
 have h208 := Option.some.inj h208
 subst h208
 exact GL.ret (Gx.ret (v := .bool x193) (res1 rfl rfl) (fun a w st => st.toPostV))
end Go.Wk
