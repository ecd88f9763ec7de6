/- Each function comes to what its model says; printed by a program of this repository. -/
import Derived.Test.YtflbneojjnpegaaProg
import Derived.Test.YtflbneojjnpegaaWPickReplayModels
namespace Go.Wk
open Go.Fw Go.Mo Go.Proofs Go.RowKit
set_option linter.all false
set_option maxRecDepth 100000
theorem loopNx {ρ σ β γ : Type} {body : σ → Option (Fl ρ β σ)} {n : Nat} {s : σ} {y : Fl ρ γ β} (h : stepM body n (.nx s) = some y) : loopM body n s = some y := h
theorem Try_info3 : (Try.prog.info? 3).map (fun i => (i.zero, i.size, i.bytes)) = some (some (.int .i64 0), 1, 8) := by kernel_rfl
theorem Try_ln3 : Ln Try.prog 3 1 false := Ln.of Try_info3 Try.underlying3 rfl
theorem Try_lo3 : LnO Try.prog 3 1 [.int .i64 0] := LnO.of Try_info3 rfl rfl (by decide) (by decide)
theorem Try_info5 : (Try.prog.info? 5).map (fun i => (i.zero, i.size, i.bytes)) = some (some (.int .u8 0), 1, 1) := by kernel_rfl
theorem Try_ln5 : Ln Try.prog 5 1 false := Ln.of Try_info5 Try.underlying5 rfl
theorem Try_lo5 : LnO Try.prog 5 1 [.int .u8 0] := LnO.of Try_info5 rfl rfl (by decide) (by decide)
theorem Try_info9 : (Try.prog.info? 9).map (fun i => (i.zero, i.size, i.bytes)) = some (some (.string ⟨#[]⟩), 1, 16) := by kernel_rfl
theorem Try_ln9 : Ln Try.prog 9 1 false := Ln.of Try_info9 Try.underlying9 rfl
theorem Try_lo9 : LnO Try.prog 9 1 [.string ⟨#[]⟩] := LnO.of Try_info9 rfl rfl (by decide) (by decide)
theorem Try_info25 : (Try.prog.info? 25).map (fun i => (i.zero, i.size, i.bytes)) = some (some (.agg #[.string ⟨#[]⟩, .string ⟨#[]⟩, .int .i64 0, .int .i64 0, .int .i64 0, .int .i64 0]), 6, 64) := by kernel_rfl
theorem Try_ln25 : Ln Try.prog 25 6 true := Ln.of Try_info25 Try.underlying25 rfl
theorem Try_lo25 : LnO Try.prog 25 6 [.string ⟨#[]⟩, .string ⟨#[]⟩, .int .i64 0, .int .i64 0, .int .i64 0, .int .i64 0] := LnO.of Try_info25 rfl rfl (by decide) (by decide)
theorem Try_info38 : (Try.prog.info? 38).map (fun i => (i.zero, i.size, i.bytes)) = some (some (.agg #[.string ⟨#[]⟩, .int .i64 0, .int .i64 0]), 3, 32) := by kernel_rfl
theorem Try_ln38 : Ln Try.prog 38 3 true := Ln.of Try_info38 Try.underlying38 rfl
theorem Try_lo38 : LnO Try.prog 38 3 [.string ⟨#[]⟩, .int .i64 0, .int .i64 0] := LnO.of Try_info38 rfl rfl (by decide) (by decide)
theorem Try_bld25 (pv : List (Nat × Value)) : Try.prog.built 25 pv = Instr.fill ((mkPlaces 0 [[.string ⟨#[]⟩], [.string ⟨#[]⟩], [.int .i64 0], [.int .i64 0], [.int .i64 0], [.int .i64 0]]).toArray[·]?) (List.flatten [[.string ⟨#[]⟩], [.string ⟨#[]⟩], [.int .i64 0], [.int .i64 0], [.int .i64 0], [.int .i64 0]]).toArray pv := by kernel_rfl
theorem Try_bld38 (pv : List (Nat × Value)) : Try.prog.built 38 pv = Instr.fill ((mkPlaces 0 [[.string ⟨#[]⟩], [.int .i64 0], [.int .i64 0]]).toArray[·]?) (List.flatten [[.string ⟨#[]⟩], [.int .i64 0], [.int .i64 0]]).toArray pv := by kernel_rfl
theorem Try_eq38 : EqT Try.prog 38 (TR.pair TR.str (TR.pair TR.int TR.int)) 2 := (EqT.struct Try.underlying38 Try.stoodInHeld38 rfl (EqF.cons (by decide) rfl Try_ln9 (EqT.str Try.underlying9) (EqF.cons (by decide) rfl Try_ln3 (EqT.int Try.underlying3) (EqF.last (by decide) rfl Try_ln3 (EqT.int Try.underlying3)))))
theorem Try_fit16 : Fit Try.prog 16 := Fit.of Try.func16 (by kernel_rfl) rfl
theorem Try_fit23 : Fit Try.prog 23 := Fit.of Try.func23 (by kernel_rfl) rfl
theorem Try_fit24 : Fit Try.prog 24 := Fit.of Try.func24 (by kernel_rfl) rfl
theorem Try_fit25 : Fit Try.prog 25 := Fit.of Try.func25 (by kernel_rfl) rfl
theorem Try_fit26 : Fit Try.prog 26 := Fit.of Try.func26 (by kernel_rfl) rfl
theorem Try_fit27 : Fit Try.prog 27 := Fit.of Try.func27 (by kernel_rfl) rfl
theorem Try_fit28 : Fit Try.prog 28 := Fit.of Try.func28 (by kernel_rfl) rfl
theorem Try_fit29 : Fit Try.prog 29 := Fit.of Try.func29 (by kernel_rfl) rfl
theorem Try_fit30 : Fit Try.prog 30 := Fit.of Try.func30 (by kernel_rfl) rfl
theorem Try_fit45 : Fit Try.prog 45 := Fit.of Try.func45 (by kernel_rfl) rfl
theorem Try_fit46 : Fit Try.prog 46 := Fit.of Try.func46 (by kernel_rfl) rfl
theorem Try_fit47 : Fit Try.prog 47 := Fit.of Try.func47 (by kernel_rfl) rfl
theorem Try_fit51 : Fit Try.prog 51 := Fit.of Try.func51 (by kernel_rfl) rfl
theorem Try_fit55 : Fit Try.prog 55 := Fit.of Try.func55 (by kernel_rfl) rfl
theorem Try_fit56 : Fit Try.prog 56 := Fit.of Try.func56 (by kernel_rfl) rfl
theorem Try_fit57 : Fit Try.prog 57 := Fit.of Try.func57 (by kernel_rfl) rfl
theorem Try_fit58 : Fit Try.prog 58 := Fit.of Try.func58 (by kernel_rfl) rfl
theorem Try_fit70 : Fit Try.prog 70 := Fit.of Try.func70 (by kernel_rfl) rfl
theorem Try_fit71 : Fit Try.prog 71 := Fit.of Try.func71 (by kernel_rfl) rfl
theorem Try_fit72 : Fit Try.prog 72 := Fit.of Try.func72 (by kernel_rfl) rfl
theorem Try_fit73 : Fit Try.prog 73 := Fit.of Try.func73 (by kernel_rfl) rfl
theorem Try_fld25_0 (ad : Addr) (w : World) : (Instr.fieldAt 25 (.pointer (some ad)) 0).run Try.prog w = .ok (.pointer (some (ad.add 0))) w := by
  simp [Instr.fieldAt, run_underlying Try.underlying25, Instr.sureAddr, fieldPlace, Fw.run_sizeOf Try_ln9]
theorem Try_fld25_1 (ad : Addr) (w : World) : (Instr.fieldAt 25 (.pointer (some ad)) 1).run Try.prog w = .ok (.pointer (some (ad.add 1))) w := by
  simp [Instr.fieldAt, run_underlying Try.underlying25, Instr.sureAddr, fieldPlace, Fw.run_sizeOf Try_ln9]
theorem Try_fld25_2 (ad : Addr) (w : World) : (Instr.fieldAt 25 (.pointer (some ad)) 2).run Try.prog w = .ok (.pointer (some (ad.add 2))) w := by
  simp [Instr.fieldAt, run_underlying Try.underlying25, Instr.sureAddr, fieldPlace, Fw.run_sizeOf Try_ln3]
theorem Try_fld25_3 (ad : Addr) (w : World) : (Instr.fieldAt 25 (.pointer (some ad)) 3).run Try.prog w = .ok (.pointer (some (ad.add 3))) w := by
  simp [Instr.fieldAt, run_underlying Try.underlying25, Instr.sureAddr, fieldPlace, Fw.run_sizeOf Try_ln3]
theorem Try_fld25_4 (ad : Addr) (w : World) : (Instr.fieldAt 25 (.pointer (some ad)) 4).run Try.prog w = .ok (.pointer (some (ad.add 4))) w := by
  simp [Instr.fieldAt, run_underlying Try.underlying25, Instr.sureAddr, fieldPlace, Fw.run_sizeOf Try_ln3]
theorem Try_fld25_5 (ad : Addr) (w : World) : (Instr.fieldAt 25 (.pointer (some ad)) 5).run Try.prog w = .ok (.pointer (some (ad.add 5))) w := by
  simp [Instr.fieldAt, run_underlying Try.underlying25, Instr.sureAddr, fieldPlace, Fw.run_sizeOf Try_ln3]
theorem Try_fld38_0 (ad : Addr) (w : World) : (Instr.fieldAt 38 (.pointer (some ad)) 0).run Try.prog w = .ok (.pointer (some (ad.add 0))) w := by
  simp [Instr.fieldAt, run_underlying Try.underlying38, Instr.sureAddr, fieldPlace, Fw.run_sizeOf Try_ln9]
theorem Try_fld38_1 (ad : Addr) (w : World) : (Instr.fieldAt 38 (.pointer (some ad)) 1).run Try.prog w = .ok (.pointer (some (ad.add 1))) w := by
  simp [Instr.fieldAt, run_underlying Try.underlying38, Instr.sureAddr, fieldPlace, Fw.run_sizeOf Try_ln3]
theorem Try_fld38_2 (ad : Addr) (w : World) : (Instr.fieldAt 38 (.pointer (some ad)) 2).run Try.prog w = .ok (.pointer (some (ad.add 2))) w := by
  simp [Instr.fieldAt, run_underlying Try.underlying38, Instr.sureAddr, fieldPlace, Fw.run_sizeOf Try_ln3]

set_option maxHeartbeats 4000000 in
theorem ledger_named_c (S : Hp) (w : World) (hS : S.sub w) (x0 : (List UInt8)) (res : Bool) (hm : ledger_named_m x0 = some res) : Calls Try.prog 70 #[.string ⟨(x0 : List UInt8).toArray⟩] w (PostV w (.bool res)) := by
 refine calls_enter 27 Try.func70 Try.ntmps70 rfl S false [(0, .string ⟨(x0 : List UInt8).toArray⟩)] [] rfl ⟨rfl, trivial⟩ hS trivial ?_
 unfold ledger_named_m at hm
 refine GL.seq ?_
 refine GL.region ?_
 refine RL.asg rfl rfl rfl ?_
 refine RL.finG ?_
 refine GL.seq ?_
 refine GL.seq ?_
 refine GL.region ?_
 refine RL.mv rfl rfl rfl ?_
 obtain ⟨y5, e6, hm⟩ := bind_some hm
 replace e6 := chk_some e6
 refine RL.cvSB Try.underlying9 Try.underlying100 Try.underlying5 rfl rfl rfl rfl e6 ?_
 intro v7
 refine RL.lenS 0 Try.underlying100 rfl rfl rfl rfl SlOf.imm ?_
 refine RL.mv rfl rfl rfl ?_
 refine RL.finG ?_
 refine GL.open_ 0 rfl (fun S h => len_imm S h) (fun n26 => ?_)
 obtain ⟨y27, K28, h29, h30, h31, h32, h33⟩ := bindR_K hm
 refine GL.join (ι := Unit) (fun (p : Unit) => [(0, .string ⟨(x0 : List UInt8).toArray⟩)]) (fun (p : Unit) => []) (fun (p : Unit) => K28 (.nx ())) ?_ ?_
 ·refine GL.block ?_
  refine GL.loop (ι := Nat × (List Int)) (fun (p : Nat × (List Int)) => [(0, .string ⟨(x0 : List UInt8).toArray⟩), (6, v7), (7, .int .i64 (((intsOf x0)).length : Int)), (8, .int .i64 (p.1 : Int))]) (fun (p : Nat × (List Int)) => [imm (TR.sl (TR.ik .u8)) v7 (intsOf x0)]) (fun (p : Nat × (List Int)) => p.1 + p.2.length = ((intsOf x0)).length ∧ List.drop p.1 (intsOf x0) = p.2 ∧ rangeL ledger_named_b1 p.2 p.1 () = some y27) (fun (p : Nat × (List Int)) => p.2.length) (0, (intsOf x0)) ⟨by simp, by simp, h29⟩ (fun a w st => St.cut [0] ⟨rfl, rfl, rfl, rfl, trivial⟩ (by decide) rfl st) ?_
  rintro ⟨i34, r35⟩ ⟨h40, h41, h39⟩
  try dsimp only at h40 h41 h39
  refine GL.weak (env' := [(0, .string ⟨(x0 : List UInt8).toArray⟩), (6, v7), (7, .int .i64 (((intsOf x0)).length : Int)), (8, .int .i64 (i34 : Int))]) (L' := [imm (TR.sl (TR.ik .u8)) v7 (intsOf x0)]) (fun _ _ st => st) ?_
  refine GL.seq ?_
  refine GL.region ?_
  refine RL.binI (v := .bool (decide ((i34 : Int) < (((intsOf x0)).length : Int)))) rfl rfl rfl rfl rfl ?_
  refine RL.finG ?_
  refine GL.seq ?_
  refine GL.cond rfl (fun b42 => ?_) (fun b42 => ?_)
  ·have h43 : i34 < ((intsOf x0)).length := by have := of_decide_eq_true b42; omega
   obtain ⟨y44, r46, hr, e45, h47⟩ := drop_cons h41 rfl h43
   subst hr
   obtain ⟨z36, h37, h38⟩ := rangeL_some h39
   unfold ledger_named_b1 at h37
   try dsimp only at h37
   refine GL.skip ?_
   refine GL.seq ?_
   refine GL.block ?_
   refine GL.seq ?_
   refine GL.region ?_
   refine RL.idxS (sz := 1) 0 Try.underlying100 Try_ln5 rfl rfl rfl rfl rfl SlOf.imm (by omega) (by omega) ?_
   refine RL.ldSx (i := i34) (e' := y44) 0 Ex.ik Try_ln5 rfl rfl rfl rfl SlOf.imm e45 Part.self ?_
   refine RL.asg rfl rfl rfl ?_
   refine RL.finG ?_
   refine GL.seq ?_
   obtain ⟨y51, K52, h53, h54, h55, h56, h57⟩ := bindF_K h37
   refine GL.join (ι := Bool) (fun (p : Bool) => [(0, .string ⟨(x0 : List UInt8).toArray⟩), (6, v7), (7, .int .i64 (((intsOf x0)).length : Int)), (8, .int .i64 (i34 : Int)), (17, .bool p)]) (fun (p : Bool) => [imm (TR.sl (TR.ik .u8)) v7 (intsOf x0)]) (fun (p : Bool) => K52 (.nx p)) ?_ ?_
   ·skip
    refine GL.region ?_
    refine RL.mv rfl rfl rfl ?_
    refine RL.binI (v := .bool (decide (y44 < (97 : Int)))) rfl rfl rfl rfl rfl ?_
    refine RL.mv rfl rfl rfl ?_
    refine RL.split (t := 14) rfl (fun b58 => ?_) (fun b58 => ?_)
    ·replace h53 := ite_t b58 h53
     refine RL.skip rfl rfl ?_
     refine RL.skip rfl rfl ?_
     refine RL.pickT rfl rfl rfl rfl ?_
     refine RL.fin ?_
     cases h53
     exact fun a w st => mid_intro true h54 (St.cut [0] ⟨rfl, rfl, rfl, rfl, rfl, trivial⟩ (by decide) rfl st)
    replace h53 := ite_f b58 h53
    refine RL.mv rfl rfl rfl ?_
    refine RL.binI (v := .bool (decide (y44 > (122 : Int)))) rfl rfl rfl rfl rfl ?_
    refine RL.pickF rfl rfl rfl rfl ?_
    refine RL.fin ?_
    cases h53
    exact fun a w st => mid_intro (decide (y44 > (122 : Int))) h54 (St.cut [0] ⟨rfl, rfl, rfl, rfl, rfl, trivial⟩ (by decide) rfl st)
   rintro x50 h59
   have h60 := h55 _ h59
   try dsimp only at h60
   refine GL.weak (env' := [(0, .string ⟨(x0 : List UInt8).toArray⟩), (6, v7), (7, .int .i64 (((intsOf x0)).length : Int)), (8, .int .i64 (i34 : Int)), (17, .bool x50)]) (L' := [imm (TR.sl (TR.ik .u8)) v7 (intsOf x0)]) (fun _ _ st => st) ?_
   refine GL.cond rfl (fun b61 => ?_) (fun b61 => ?_)
   ·replace h60 := ite_t b61 h60
    refine GL.seq ?_
    refine GL.region ?_
    refine RL.asg rfl rfl rfl ?_
    refine RL.finG ?_
    cases h60
    replace h38 : some (Fl.rt _) = some y27 := h38
    cases h38
    have hh := h32 _ h30
    subst hh
    exact GL.ret (Gx.ret (v := .bool false) (res1 rfl rfl) (fun a w st => st.toPostV))
   replace h60 := ite_f b61 h60
   refine GL.skip ?_
   refine GL.nilB ?_
   refine GL.region ?_
   refine RL.binI (v := .int .i64 ((i34 + 1 : Nat) : Int)) rfl rfl rfl rfl (binI_succ i34 (by omega)) ?_
   refine RL.mv rfl rfl rfl ?_
   refine RL.fin ?_
   cases h60
   exact fun a w st => lop_intro (i34 + 1, r46) ⟨by show i34 + 1 + r46.length = ((intsOf x0)).length; simp only [List.length_cons] at h40; omega, h47, h38⟩ (by simp) (St.cut [0] ⟨rfl, rfl, rfl, rfl, trivial⟩ (by decide) rfl st)
  have h43 : ¬ i34 < ((intsOf x0)).length := by have := of_decide_eq_false b42; omega
  obtain rfl : r35 = [] := by rw [← h41]; exact List.drop_of_length_le (by omega)
  replace h39 : some (Fl.nx _) = some y27 := h39
  cases h39
  exact GL.exit (fun a w st => mid_intro () h30 (St.cut [] ⟨rfl, trivial⟩ (by decide) rfl st))
 rintro ⟨⟩ h62
 have h63 := h31 _ h62
 try dsimp only at h63
 refine GL.weak (env' := [(0, .string ⟨(x0 : List UInt8).toArray⟩)]) (L' := []) (fun _ _ st => st) ?_
 refine GL.seq ?_
 obtain ⟨y67, K68, h69, h70, h71, h72, h73⟩ := bindR_K h63
 refine GL.join (ι := Bool) (fun (p : Bool) => [(2, .bool p)]) (fun (p : Bool) => []) (fun (p : Bool) => K68 (.nx p)) ?_ ?_
 ·skip
  refine GL.region ?_
  refine RL.mv rfl rfl rfl ?_
  refine RL.lenT Try.underlying9 rfl rfl rfl ?_
  refine RL.binI (v := .bool (decide (((x0).length : Int) > (0 : Int)))) rfl rfl rfl rfl rfl ?_
  refine RL.mv rfl rfl rfl ?_
  refine RL.split (t := 22) rfl (fun b74 => ?_) (fun b74 => ?_)
  ·replace h69 := ite_t b74 h69
   refine RL.mv rfl rfl rfl ?_
   refine RL.lenT Try.underlying9 rfl rfl rfl ?_
   refine RL.binI (v := .bool (decide (((x0).length : Int) ≤ (8 : Int)))) rfl rfl rfl rfl rfl ?_
   refine RL.pickT rfl rfl rfl rfl ?_
   refine RL.asg rfl rfl rfl ?_
   refine RL.fin ?_
   cases h69
   exact fun a w st => mid_intro (decide (((x0).length : Int) ≤ (8 : Int))) h70 (St.cut [] ⟨rfl, trivial⟩ (by decide) rfl st)
  replace h69 := ite_f b74 h69
  refine RL.skip rfl rfl ?_
  refine RL.skip rfl rfl ?_
  refine RL.skip rfl rfl ?_
  refine RL.pickF rfl rfl rfl rfl ?_
  refine RL.asg rfl rfl rfl ?_
  refine RL.fin ?_
  cases h69
  exact fun a w st => mid_intro false h70 (St.cut [] ⟨rfl, trivial⟩ (by decide) rfl st)
 rintro x66 h75
 have h76 := h71 _ h75
 try dsimp only at h76
 refine GL.weak (env' := [(2, .bool x66)]) (L' := []) (fun _ _ st => st) ?_
 have h76 := Option.some.inj h76
 subst h76
 exact GL.ret (Gx.ret (v := .bool x66) (res1 rfl rfl) (fun a w st => st.toPostV))

set_option maxHeartbeats 4000000 in
theorem ledger_Right_c (S : Hp) (w : World) (hS : S.sub w) (v0 : Value) (x0 : ((List UInt8) × ((List UInt8) × (Int × (Int × (Int × Int)))))) (k0 : ((TR.pair TR.str (TR.pair TR.str (TR.pair TR.int (TR.pair TR.int (TR.pair TR.int TR.int)))))).vrep S v0 x0) (res : Int) (hm : ledger_Right_m x0 = some res) : Calls Try.prog 46 #[v0] w (PostV w (.int .i64 res)) := by
 refine calls_enter 58 Try.func46 Try.ntmps46 rfl S false [(0, v0)] [imm (TR.pair TR.str (TR.pair TR.str (TR.pair TR.int (TR.pair TR.int (TR.pair TR.int TR.int))))) v0 x0] rfl ⟨rfl, trivial⟩ hS ⟨k0, trivial⟩ ?_
 unfold ledger_Right_m at hm
 refine GL.seq ?_
 refine GL.region ?_
 refine RL.box (t := (TR.pair TR.str (TR.pair TR.str (TR.pair TR.int (TR.pair TR.int (TR.pair TR.int TR.int)))))) (e := x0) rfl rfl rfl rfl (VR.item 0 rfl) ?_
 intro v3
 refine RL.asg rfl rfl rfl ?_
 refine RL.finG ?_
 refine GL.seq ?_
 refine GL.seq ?_
 obtain ⟨y17, K18, h19, h20, h21, h22, h23⟩ := bindR_K hm
 refine GL.join (ι := Bool) (fun (p : Bool) => [(1, v3), (19, .bool p)]) (fun (p : Bool) => [obox 25 (TR.pair TR.str (TR.pair TR.str (TR.pair TR.int (TR.pair TR.int (TR.pair TR.int TR.int))))) v3 x0]) (fun (p : Bool) => K18 (.nx p)) ?_ ?_
 ·skip
  refine GL.region ?_
  refine RL.fadr (off := 0) (fo := 0) 1 Try_fld25_0 rfl rfl rfl PtOf.obox (Or.inr ⟨rfl, rfl⟩) ?_
  refine RL.ldPx (off := (0 + 0)) (e' := x0.1) 1 Ex.str Try_ln9 rfl rfl (Or.inl rfl) rfl PtOf.obox (Part.fst Part.self) ?_
  obtain ⟨y24, e25, h19⟩ := bind_some h19
  refine RL.callV (v := .bool y24) (vs := [.string ⟨(x0.1 : List UInt8).toArray⟩]) Try_fit70 rfl (Or.inl rfl) rfl rfl rfl rfl (fun U w hU hW hL => ledger_named_c U w hU x0.1 _ e25) ?_
  refine RL.notB rfl rfl rfl ?_
  refine RL.mv rfl rfl rfl ?_
  refine RL.split (t := 7) rfl (fun b26 => ?_) (fun b26 => ?_)
  ·replace h19 := ite_t b26 h19
   refine RL.skip rfl rfl ?_
   refine RL.skip rfl rfl ?_
   refine RL.skip rfl rfl ?_
   refine RL.skip rfl rfl ?_
   refine RL.pickT rfl rfl rfl rfl ?_
   refine RL.mv rfl rfl rfl ?_
   refine RL.skip rfl rfl ?_
   refine RL.skip rfl rfl ?_
   refine RL.skip rfl rfl ?_
   refine RL.skip rfl rfl ?_
   refine RL.skip rfl rfl ?_
   refine RL.pickT rfl rfl rfl rfl ?_
   refine RL.fin ?_
   cases h19
   exact fun a w st => mid_intro true h20 (St.cut [1] ⟨rfl, rfl, trivial⟩ (by decide) rfl st)
  replace h19 := ite_f b26 h19
  refine RL.fadr (off := 0) (fo := 1) 1 Try_fld25_1 rfl rfl rfl PtOf.obox (Or.inr ⟨rfl, rfl⟩) ?_
  refine RL.ldPx (off := (0 + 1)) (e' := x0.2.1) 1 Ex.str Try_ln9 rfl rfl (Or.inl rfl) rfl PtOf.obox (Part.snd (Part.fst Part.self)) ?_
  obtain ⟨y27, e28, h19⟩ := bind_some h19
  refine RL.callV (v := .bool y27) (vs := [.string ⟨(x0.2.1 : List UInt8).toArray⟩]) Try_fit70 rfl (Or.inl rfl) rfl rfl rfl rfl (fun U w hU hW hL => ledger_named_c U w hU x0.2.1 _ e28) ?_
  refine RL.notB rfl rfl rfl ?_
  refine RL.pickF rfl rfl rfl rfl ?_
  refine RL.mv rfl rfl rfl ?_
  refine RL.split (t := 13) rfl (fun b29 => ?_) (fun b29 => ?_)
  ·replace h19 := ite_t b29 h19
   refine RL.skip rfl rfl ?_
   refine RL.skip rfl rfl ?_
   refine RL.skip rfl rfl ?_
   refine RL.skip rfl rfl ?_
   refine RL.skip rfl rfl ?_
   refine RL.pickT rfl rfl rfl rfl ?_
   refine RL.fin ?_
   cases h19
   exact fun a w st => mid_intro true h20 (St.cut [1] ⟨rfl, rfl, trivial⟩ (by decide) rfl st)
  replace h19 := ite_f b29 h19
  refine RL.fadr (off := 0) (fo := 0) 1 Try_fld25_0 rfl rfl rfl PtOf.obox (Or.inr ⟨rfl, rfl⟩) ?_
  refine RL.ldPx (off := (0 + 0)) (e' := x0.1) 1 Ex.str Try_ln9 rfl rfl (Or.inl rfl) rfl PtOf.obox (Part.fst Part.self) ?_
  refine RL.fadr (off := 0) (fo := 1) 1 Try_fld25_1 rfl rfl rfl PtOf.obox (Or.inr ⟨rfl, rfl⟩) ?_
  refine RL.ldPx (off := (0 + 1)) (e' := x0.2.1) 1 Ex.str Try_ln9 rfl rfl (Or.inl rfl) rfl PtOf.obox (Part.snd (Part.fst Part.self)) ?_
  refine RL.binS (v := .bool (x0.1 == x0.2.1)) rfl rfl rfl rfl rfl ?_
  refine RL.pickF rfl rfl rfl rfl ?_
  refine RL.fin ?_
  cases h19
  exact fun a w st => mid_intro (x0.1 == x0.2.1) h20 (St.cut [1] ⟨rfl, rfl, trivial⟩ (by decide) rfl st)
 rintro x16 h30
 have h31 := h21 _ h30
 try dsimp only at h31
 refine GL.weak (env' := [(1, v3), (19, .bool x16)]) (L' := [obox 25 (TR.pair TR.str (TR.pair TR.str (TR.pair TR.int (TR.pair TR.int (TR.pair TR.int TR.int))))) v3 x0]) (fun _ _ st => st) ?_
 refine GL.cond rfl (fun b32 => ?_) (fun b32 => ?_)
 ·replace h31 := ite_t b32 h31
  refine GL.seq ?_
  refine GL.region ?_
  refine RL.asg rfl rfl rfl ?_
  refine RL.finG ?_
  have h31 := Option.some.inj h31
  subst h31
  exact GL.ret (Gx.ret (v := .int .i64 (3 : Int)) (res1 rfl rfl) (fun a w st => st.toPostV))
 replace h31 := ite_f b32 h31
 refine GL.skip ?_
 refine GL.seq ?_
 refine GL.seq ?_
 obtain ⟨y48, K49, h50, h51, h52, h53, h54⟩ := bindR_K h31
 refine GL.join (ι := Bool) (fun (p : Bool) => [(57, .bool p)]) (fun (p : Bool) => []) (fun (p : Bool) => K49 (.nx p)) ?_ ?_
 ·skip
  refine GL.region ?_
  refine RL.fadr (off := 0) (fo := 2) 0 Try_fld25_2 rfl rfl rfl PtOf.obox (Or.inr ⟨rfl, rfl⟩) ?_
  refine RL.ldPx (off := (0 + 2)) (e' := x0.2.2.1) 0 Ex.ik Try_ln3 rfl rfl (Or.inl rfl) rfl PtOf.obox (Part.snd (Part.snd (Part.fst Part.self))) ?_
  refine RL.binI (v := .bool (decide (x0.2.2.1 < (0 : Int)))) rfl rfl rfl rfl rfl ?_
  refine RL.mv rfl rfl rfl ?_
  refine RL.split (t := 23) rfl (fun b55 => ?_) (fun b55 => ?_)
  ·replace h50 := ite_t b55 h50
   refine RL.skip rfl rfl ?_
   refine RL.skip rfl rfl ?_
   refine RL.skip rfl rfl ?_
   refine RL.pickT rfl rfl rfl rfl ?_
   refine RL.mv rfl rfl rfl ?_
   refine RL.skip rfl rfl ?_
   refine RL.skip rfl rfl ?_
   refine RL.skip rfl rfl ?_
   refine RL.pickT rfl rfl rfl rfl ?_
   refine RL.mv rfl rfl rfl ?_
   refine RL.skip rfl rfl ?_
   refine RL.skip rfl rfl ?_
   refine RL.skip rfl rfl ?_
   refine RL.pickT rfl rfl rfl rfl ?_
   refine RL.mv rfl rfl rfl ?_
   refine RL.skip rfl rfl ?_
   refine RL.skip rfl rfl ?_
   refine RL.skip rfl rfl ?_
   refine RL.pickT rfl rfl rfl rfl ?_
   refine RL.mv rfl rfl rfl ?_
   refine RL.skip rfl rfl ?_
   refine RL.skip rfl rfl ?_
   refine RL.skip rfl rfl ?_
   refine RL.pickT rfl rfl rfl rfl ?_
   refine RL.mv rfl rfl rfl ?_
   refine RL.skip rfl rfl ?_
   refine RL.skip rfl rfl ?_
   refine RL.skip rfl rfl ?_
   refine RL.pickT rfl rfl rfl rfl ?_
   refine RL.mv rfl rfl rfl ?_
   refine RL.skip rfl rfl ?_
   refine RL.skip rfl rfl ?_
   refine RL.skip rfl rfl ?_
   refine RL.pickT rfl rfl rfl rfl ?_
   refine RL.fin ?_
   cases h50
   exact fun a w st => mid_intro true h51 (St.cut [] ⟨rfl, trivial⟩ (by decide) rfl st)
  replace h50 := ite_f b55 h50
  refine RL.fadr (off := 0) (fo := 2) 0 Try_fld25_2 rfl rfl rfl PtOf.obox (Or.inr ⟨rfl, rfl⟩) ?_
  refine RL.ldPx (off := (0 + 2)) (e' := x0.2.2.1) 0 Ex.ik Try_ln3 rfl rfl (Or.inl rfl) rfl PtOf.obox (Part.snd (Part.snd (Part.fst Part.self))) ?_
  refine RL.binI (v := .bool (decide (x0.2.2.1 > (1000000 : Int)))) rfl rfl rfl rfl rfl ?_
  refine RL.pickF rfl rfl rfl rfl ?_
  refine RL.mv rfl rfl rfl ?_
  refine RL.split (t := 28) rfl (fun b56 => ?_) (fun b56 => ?_)
  ·replace h50 := ite_t b56 h50
   refine RL.skip rfl rfl ?_
   refine RL.skip rfl rfl ?_
   refine RL.skip rfl rfl ?_
   refine RL.pickT rfl rfl rfl rfl ?_
   refine RL.mv rfl rfl rfl ?_
   refine RL.skip rfl rfl ?_
   refine RL.skip rfl rfl ?_
   refine RL.skip rfl rfl ?_
   refine RL.pickT rfl rfl rfl rfl ?_
   refine RL.mv rfl rfl rfl ?_
   refine RL.skip rfl rfl ?_
   refine RL.skip rfl rfl ?_
   refine RL.skip rfl rfl ?_
   refine RL.pickT rfl rfl rfl rfl ?_
   refine RL.mv rfl rfl rfl ?_
   refine RL.skip rfl rfl ?_
   refine RL.skip rfl rfl ?_
   refine RL.skip rfl rfl ?_
   refine RL.pickT rfl rfl rfl rfl ?_
   refine RL.mv rfl rfl rfl ?_
   refine RL.skip rfl rfl ?_
   refine RL.skip rfl rfl ?_
   refine RL.skip rfl rfl ?_
   refine RL.pickT rfl rfl rfl rfl ?_
   refine RL.mv rfl rfl rfl ?_
   refine RL.skip rfl rfl ?_
   refine RL.skip rfl rfl ?_
   refine RL.skip rfl rfl ?_
   refine RL.pickT rfl rfl rfl rfl ?_
   refine RL.fin ?_
   cases h50
   exact fun a w st => mid_intro true h51 (St.cut [] ⟨rfl, trivial⟩ (by decide) rfl st)
  replace h50 := ite_f b56 h50
  refine RL.fadr (off := 0) (fo := 3) 0 Try_fld25_3 rfl rfl rfl PtOf.obox (Or.inr ⟨rfl, rfl⟩) ?_
  refine RL.ldPx (off := (0 + 3)) (e' := x0.2.2.2.1) 0 Ex.ik Try_ln3 rfl rfl (Or.inl rfl) rfl PtOf.obox (Part.snd (Part.snd (Part.snd (Part.fst Part.self)))) ?_
  refine RL.binI (v := .bool (decide (x0.2.2.2.1 < (0 : Int)))) rfl rfl rfl rfl rfl ?_
  refine RL.pickF rfl rfl rfl rfl ?_
  refine RL.mv rfl rfl rfl ?_
  refine RL.split (t := 33) rfl (fun b57 => ?_) (fun b57 => ?_)
  ·replace h50 := ite_t b57 h50
   refine RL.skip rfl rfl ?_
   refine RL.skip rfl rfl ?_
   refine RL.skip rfl rfl ?_
   refine RL.pickT rfl rfl rfl rfl ?_
   refine RL.mv rfl rfl rfl ?_
   refine RL.skip rfl rfl ?_
   refine RL.skip rfl rfl ?_
   refine RL.skip rfl rfl ?_
   refine RL.pickT rfl rfl rfl rfl ?_
   refine RL.mv rfl rfl rfl ?_
   refine RL.skip rfl rfl ?_
   refine RL.skip rfl rfl ?_
   refine RL.skip rfl rfl ?_
   refine RL.pickT rfl rfl rfl rfl ?_
   refine RL.mv rfl rfl rfl ?_
   refine RL.skip rfl rfl ?_
   refine RL.skip rfl rfl ?_
   refine RL.skip rfl rfl ?_
   refine RL.pickT rfl rfl rfl rfl ?_
   refine RL.mv rfl rfl rfl ?_
   refine RL.skip rfl rfl ?_
   refine RL.skip rfl rfl ?_
   refine RL.skip rfl rfl ?_
   refine RL.pickT rfl rfl rfl rfl ?_
   refine RL.fin ?_
   cases h50
   exact fun a w st => mid_intro true h51 (St.cut [] ⟨rfl, trivial⟩ (by decide) rfl st)
  replace h50 := ite_f b57 h50
  refine RL.fadr (off := 0) (fo := 3) 0 Try_fld25_3 rfl rfl rfl PtOf.obox (Or.inr ⟨rfl, rfl⟩) ?_
  refine RL.ldPx (off := (0 + 3)) (e' := x0.2.2.2.1) 0 Ex.ik Try_ln3 rfl rfl (Or.inl rfl) rfl PtOf.obox (Part.snd (Part.snd (Part.snd (Part.fst Part.self)))) ?_
  refine RL.binI (v := .bool (decide (x0.2.2.2.1 > (1000000 : Int)))) rfl rfl rfl rfl rfl ?_
  refine RL.pickF rfl rfl rfl rfl ?_
  refine RL.mv rfl rfl rfl ?_
  refine RL.split (t := 38) rfl (fun b58 => ?_) (fun b58 => ?_)
  ·replace h50 := ite_t b58 h50
   refine RL.skip rfl rfl ?_
   refine RL.skip rfl rfl ?_
   refine RL.skip rfl rfl ?_
   refine RL.pickT rfl rfl rfl rfl ?_
   refine RL.mv rfl rfl rfl ?_
   refine RL.skip rfl rfl ?_
   refine RL.skip rfl rfl ?_
   refine RL.skip rfl rfl ?_
   refine RL.pickT rfl rfl rfl rfl ?_
   refine RL.mv rfl rfl rfl ?_
   refine RL.skip rfl rfl ?_
   refine RL.skip rfl rfl ?_
   refine RL.skip rfl rfl ?_
   refine RL.pickT rfl rfl rfl rfl ?_
   refine RL.mv rfl rfl rfl ?_
   refine RL.skip rfl rfl ?_
   refine RL.skip rfl rfl ?_
   refine RL.skip rfl rfl ?_
   refine RL.pickT rfl rfl rfl rfl ?_
   refine RL.fin ?_
   cases h50
   exact fun a w st => mid_intro true h51 (St.cut [] ⟨rfl, trivial⟩ (by decide) rfl st)
  replace h50 := ite_f b58 h50
  refine RL.fadr (off := 0) (fo := 4) 0 Try_fld25_4 rfl rfl rfl PtOf.obox (Or.inr ⟨rfl, rfl⟩) ?_
  refine RL.ldPx (off := (0 + 4)) (e' := x0.2.2.2.2.1) 0 Ex.ik Try_ln3 rfl rfl (Or.inl rfl) rfl PtOf.obox (Part.snd (Part.snd (Part.snd (Part.snd (Part.fst Part.self))))) ?_
  refine RL.binI (v := .bool (decide (x0.2.2.2.2.1 < (0 : Int)))) rfl rfl rfl rfl rfl ?_
  refine RL.pickF rfl rfl rfl rfl ?_
  refine RL.mv rfl rfl rfl ?_
  refine RL.split (t := 43) rfl (fun b59 => ?_) (fun b59 => ?_)
  ·replace h50 := ite_t b59 h50
   refine RL.skip rfl rfl ?_
   refine RL.skip rfl rfl ?_
   refine RL.skip rfl rfl ?_
   refine RL.pickT rfl rfl rfl rfl ?_
   refine RL.mv rfl rfl rfl ?_
   refine RL.skip rfl rfl ?_
   refine RL.skip rfl rfl ?_
   refine RL.skip rfl rfl ?_
   refine RL.pickT rfl rfl rfl rfl ?_
   refine RL.mv rfl rfl rfl ?_
   refine RL.skip rfl rfl ?_
   refine RL.skip rfl rfl ?_
   refine RL.skip rfl rfl ?_
   refine RL.pickT rfl rfl rfl rfl ?_
   refine RL.fin ?_
   cases h50
   exact fun a w st => mid_intro true h51 (St.cut [] ⟨rfl, trivial⟩ (by decide) rfl st)
  replace h50 := ite_f b59 h50
  refine RL.fadr (off := 0) (fo := 4) 0 Try_fld25_4 rfl rfl rfl PtOf.obox (Or.inr ⟨rfl, rfl⟩) ?_
  refine RL.ldPx (off := (0 + 4)) (e' := x0.2.2.2.2.1) 0 Ex.ik Try_ln3 rfl rfl (Or.inl rfl) rfl PtOf.obox (Part.snd (Part.snd (Part.snd (Part.snd (Part.fst Part.self))))) ?_
  refine RL.binI (v := .bool (decide (x0.2.2.2.2.1 > (1000000 : Int)))) rfl rfl rfl rfl rfl ?_
  refine RL.pickF rfl rfl rfl rfl ?_
  refine RL.mv rfl rfl rfl ?_
  refine RL.split (t := 48) rfl (fun b60 => ?_) (fun b60 => ?_)
  ·replace h50 := ite_t b60 h50
   refine RL.skip rfl rfl ?_
   refine RL.skip rfl rfl ?_
   refine RL.skip rfl rfl ?_
   refine RL.pickT rfl rfl rfl rfl ?_
   refine RL.mv rfl rfl rfl ?_
   refine RL.skip rfl rfl ?_
   refine RL.skip rfl rfl ?_
   refine RL.skip rfl rfl ?_
   refine RL.pickT rfl rfl rfl rfl ?_
   refine RL.fin ?_
   cases h50
   exact fun a w st => mid_intro true h51 (St.cut [] ⟨rfl, trivial⟩ (by decide) rfl st)
  replace h50 := ite_f b60 h50
  refine RL.fadr (off := 0) (fo := 5) 0 Try_fld25_5 rfl rfl rfl PtOf.obox (Or.inr ⟨rfl, rfl⟩) ?_
  refine RL.ldPx (off := (0 + 5)) (e' := x0.2.2.2.2.2) 0 Ex.ik Try_ln3 rfl rfl (Or.inl rfl) rfl PtOf.obox (Part.snd (Part.snd (Part.snd (Part.snd (Part.snd Part.self))))) ?_
  refine RL.binI (v := .bool (decide (x0.2.2.2.2.2 < (1 : Int)))) rfl rfl rfl rfl rfl ?_
  refine RL.pickF rfl rfl rfl rfl ?_
  refine RL.mv rfl rfl rfl ?_
  refine RL.split (t := 53) rfl (fun b61 => ?_) (fun b61 => ?_)
  ·replace h50 := ite_t b61 h50
   refine RL.skip rfl rfl ?_
   refine RL.skip rfl rfl ?_
   refine RL.skip rfl rfl ?_
   refine RL.pickT rfl rfl rfl rfl ?_
   refine RL.fin ?_
   cases h50
   exact fun a w st => mid_intro true h51 (St.cut [] ⟨rfl, trivial⟩ (by decide) rfl st)
  replace h50 := ite_f b61 h50
  refine RL.fadr (off := 0) (fo := 5) 0 Try_fld25_5 rfl rfl rfl PtOf.obox (Or.inr ⟨rfl, rfl⟩) ?_
  refine RL.ldPx (off := (0 + 5)) (e' := x0.2.2.2.2.2) 0 Ex.ik Try_ln3 rfl rfl (Or.inl rfl) rfl PtOf.obox (Part.snd (Part.snd (Part.snd (Part.snd (Part.snd Part.self))))) ?_
  refine RL.binI (v := .bool (decide (x0.2.2.2.2.2 > (100 : Int)))) rfl rfl rfl rfl rfl ?_
  refine RL.pickF rfl rfl rfl rfl ?_
  refine RL.fin ?_
  cases h50
  exact fun a w st => mid_intro (decide (x0.2.2.2.2.2 > (100 : Int))) h51 (St.cut [] ⟨rfl, trivial⟩ (by decide) rfl st)
 rintro x47 h62
 have h63 := h52 _ h62
 try dsimp only at h63
 refine GL.weak (env' := [(57, .bool x47)]) (L' := []) (fun _ _ st => st) ?_
 refine GL.cond rfl (fun b64 => ?_) (fun b64 => ?_)
 ·replace h63 := ite_t b64 h63
  refine GL.seq ?_
  refine GL.region ?_
  refine RL.asg rfl rfl rfl ?_
  refine RL.finG ?_
  have h63 := Option.some.inj h63
  subst h63
  exact GL.ret (Gx.ret (v := .int .i64 (1 : Int)) (res1 rfl rfl) (fun a w st => st.toPostV))
 replace h63 := ite_f b64 h63
 refine GL.skip ?_
 refine GL.seq ?_
 refine GL.region ?_
 refine RL.asg rfl rfl rfl ?_
 refine RL.finG ?_
 have h63 := Option.some.inj h63
 subst h63
 exact GL.ret (Gx.ret (v := .int .i64 (0 : Int)) (res1 rfl rfl) (fun a w st => st.toPostV))

set_option maxHeartbeats 4000000 in
theorem slices_IndexFunc_api_Deal_api_Deal_c (S : Hp) (w : World) (hS : S.sub w) (v0 : Value) (x0 : (List ((List UInt8) × ((List UInt8) × (Int × (Int × (Int × Int))))))) (k0 : ((TR.sl (TR.pair TR.str (TR.pair TR.str (TR.pair TR.int (TR.pair TR.int (TR.pair TR.int TR.int))))))).vrep S v0 x0) (f1 : FuncId) (c1 : Array Value) (t1 : Fit Try.prog f1) (g1 : ((List UInt8) × ((List UInt8) × (Int × (Int × (Int × Int))))) → Option Bool) (k1 : ∀ (U : Hp) (w' : World), Hp.le S U → U.sub w' → ∀ (u0 : Value) (a0 : ((List UInt8) × ((List UInt8) × (Int × (Int × (Int × Int)))))) (_ : ((TR.pair TR.str (TR.pair TR.str (TR.pair TR.int (TR.pair TR.int (TR.pair TR.int TR.int)))))).vrep U u0 a0) (rr : Bool), g1 a0 = some rr → Calls Try.prog f1 (#[u0] ++ c1) w' (PostV w' (.bool rr))) (res : Int) (hm : slices_IndexFunc_api_Deal_api_Deal_m x0 g1 = some res) : Calls Try.prog 71 #[v0, .func (.func f1) #[] c1] w (PostV w (.int .i64 res)) := by
 refine calls_enter 19 Try.func71 Try.ntmps71 rfl S false [(0, v0), (1, .func (.func f1) #[] c1)] [imm (TR.sl (TR.pair TR.str (TR.pair TR.str (TR.pair TR.int (TR.pair TR.int (TR.pair TR.int TR.int)))))) v0 x0] rfl ⟨rfl, ⟨rfl, trivial⟩⟩ hS ⟨k0, trivial⟩ ?_
 unfold slices_IndexFunc_api_Deal_api_Deal_m at hm
 refine GL.seq ?_
 refine GL.region ?_
 refine RL.asg rfl rfl rfl ?_
 refine RL.finG ?_
 refine GL.seq ?_
 refine GL.seq ?_
 refine GL.region ?_
 refine RL.mv rfl rfl rfl ?_
 refine RL.lenS 0 Try.underlying22 rfl rfl rfl rfl SlOf.imm ?_
 refine RL.mv rfl rfl rfl ?_
 refine RL.finG ?_
 refine GL.open_ 0 rfl (fun S h => len_imm S h) (fun n14 => ?_)
 obtain ⟨y15, K16, h17, h18, h19, h20, h21⟩ := bindR_K hm
 refine GL.join (ι := Unit) (fun (p : Unit) => []) (fun (p : Unit) => []) (fun (p : Unit) => K16 (.nx ())) ?_ ?_
 ·refine GL.block ?_
  refine GL.loop (ι := Nat × (List ((List UInt8) × ((List UInt8) × (Int × (Int × (Int × Int))))))) (fun (p : Nat × (List ((List UInt8) × ((List UInt8) × (Int × (Int × (Int × Int))))))) => [(0, v0), (1, .func (.func f1) #[] c1), (7, .int .i64 ((x0).length : Int)), (8, .int .i64 (p.1 : Int))]) (fun (p : Nat × (List ((List UInt8) × ((List UInt8) × (Int × (Int × (Int × Int))))))) => [imm (TR.sl (TR.pair TR.str (TR.pair TR.str (TR.pair TR.int (TR.pair TR.int (TR.pair TR.int TR.int)))))) v0 x0]) (fun (p : Nat × (List ((List UInt8) × ((List UInt8) × (Int × (Int × (Int × Int))))))) => p.1 + p.2.length = (x0).length ∧ List.drop p.1 x0 = p.2 ∧ rangeL (slices_IndexFunc_api_Deal_api_Deal_b1 g1) p.2 p.1 () = some y15) (fun (p : Nat × (List ((List UInt8) × ((List UInt8) × (Int × (Int × (Int × Int))))))) => p.2.length) (0, x0) ⟨by simp, by simp, h17⟩ (fun a w st => St.cut [0] ⟨rfl, rfl, rfl, rfl, trivial⟩ (by decide) rfl st) ?_
  rintro ⟨i22, r23⟩ ⟨h28, h29, h27⟩
  try dsimp only at h28 h29 h27
  refine GL.weak (env' := [(0, v0), (1, .func (.func f1) #[] c1), (7, .int .i64 ((x0).length : Int)), (8, .int .i64 (i22 : Int))]) (L' := [imm (TR.sl (TR.pair TR.str (TR.pair TR.str (TR.pair TR.int (TR.pair TR.int (TR.pair TR.int TR.int)))))) v0 x0]) (fun _ _ st => st) ?_
  refine GL.seq ?_
  refine GL.region ?_
  refine RL.binI (v := .bool (decide ((i22 : Int) < ((x0).length : Int)))) rfl rfl rfl rfl rfl ?_
  refine RL.finG ?_
  refine GL.seq ?_
  refine GL.cond rfl (fun b30 => ?_) (fun b30 => ?_)
  ·have h31 : i22 < (x0).length := by have := of_decide_eq_true b30; omega
   obtain ⟨y32, r34, hr, e33, h35⟩ := drop_cons h29 rfl h31
   subst hr
   obtain ⟨z24, h25, h26⟩ := rangeL_some h27
   unfold slices_IndexFunc_api_Deal_api_Deal_b1 at h25
   try dsimp only at h25
   refine GL.skip ?_
   refine GL.seq ?_
   refine GL.block ?_
   refine GL.seq ?_
   refine GL.region ?_
   refine RL.mv rfl rfl rfl ?_
   refine RL.asg rfl rfl rfl ?_
   refine RL.finG ?_
   refine GL.seq ?_
   refine GL.region ?_
   refine RL.mv rfl rfl rfl ?_
   refine RL.mv rfl rfl rfl ?_
   refine RL.mv rfl rfl rfl ?_
   refine RL.idxS (sz := 6) 0 Try.underlying22 Try_ln25 rfl rfl rfl rfl rfl SlOf.imm (by omega) (by omega) ?_
   refine RL.ldS (i := i22) (r := (TR.pair TR.str (TR.pair TR.str (TR.pair TR.int (TR.pair TR.int (TR.pair TR.int TR.int)))))) (e' := y32) 0 Try_ln25 rfl rfl rfl rfl SlOf.imm e33 Part.self ?_
   intro v39
   obtain ⟨y40, e41, h25⟩ := bind_some h25
   refine RL.callV (v := .bool y40) (vs := [v39]) t1 rfl (Or.inl rfl) rfl rfl rfl rfl (fun U w hU hW hL => k1 U w hW hU _ _ (hL 1 _ _ rfl Seen.imm) _ e41) ?_
   refine RL.finG ?_
   refine GL.cond rfl (fun b42 => ?_) (fun b42 => ?_)
   ·replace h25 := ite_t b42 h25
    refine GL.seq ?_
    refine GL.region ?_
    refine RL.mv rfl rfl rfl ?_
    refine RL.asg rfl rfl rfl ?_
    refine RL.finG ?_
    cases h25
    replace h26 : some (Fl.rt _) = some y15 := h26
    cases h26
    have hh := h20 _ h18
    subst hh
    exact GL.ret (Gx.ret (v := .int .i64 (i22 : Int)) (res1 rfl rfl) (fun a w st => st.toPostV))
   replace h25 := ite_f b42 h25
   refine GL.skip ?_
   refine GL.nilB ?_
   refine GL.region ?_
   refine RL.binI (v := .int .i64 ((i22 + 1 : Nat) : Int)) rfl rfl rfl rfl (binI_succ i22 (by omega)) ?_
   refine RL.mv rfl rfl rfl ?_
   refine RL.fin ?_
   cases h25
   exact fun a w st => lop_intro (i22 + 1, r34) ⟨by show i22 + 1 + r34.length = (x0).length; simp only [List.length_cons] at h28; omega, h35, h26⟩ (by simp) (St.cut [0] ⟨rfl, rfl, rfl, rfl, trivial⟩ (by decide) rfl st)
  have h31 : ¬ i22 < (x0).length := by have := of_decide_eq_false b30; omega
  obtain rfl : r23 = [] := by rw [← h29]; exact List.drop_of_length_le (by omega)
  replace h27 : some (Fl.nx _) = some y15 := h27
  cases h27
  exact GL.exit (fun a w st => mid_intro () h18 (St.cut [] trivial (by decide) rfl st))
 rintro ⟨⟩ h43
 have h44 := h19 _ h43
 try dsimp only at h44
 refine GL.weak (env' := []) (L' := []) (fun _ _ st => st) ?_
 refine GL.seq ?_
 refine GL.region ?_
 refine RL.asg rfl rfl rfl ?_
 refine RL.finG ?_
 have h44 := Option.some.inj h44
 subst h44
 exact GL.ret (Gx.ret (v := .int .i64 (-1 : Int)) (res1 rfl rfl) (fun a w st => st.toPostV))

set_option maxHeartbeats 4000000 in
theorem queue_find_1_c (S : Hp) (w : World) (hS : S.sub w) (v0 : Value) (x0 : ((List UInt8) × ((List UInt8) × (Int × (Int × (Int × Int)))))) (k0 : ((TR.pair TR.str (TR.pair TR.str (TR.pair TR.int (TR.pair TR.int (TR.pair TR.int TR.int)))))).vrep S v0 x0) (v1 : Value) (x1 : (List UInt8)) (k1 : ((TR.ptr TR.str)).vrep S v1 x1) (v2 : Value) (x2 : Int) (k2 : ((TR.ptr TR.int)).vrep S v2 x2) (res : Bool) (hm : queue_find_1_m x0 x1 x2 = some res) : Calls Try.prog 72 #[v0, v1, v2] w (PostV w (.bool res)) := by
 refine calls_enter 15 Try.func72 Try.ntmps72 rfl S false [(0, v0), (1, v1), (2, v2)] [imm (TR.pair TR.str (TR.pair TR.str (TR.pair TR.int (TR.pair TR.int (TR.pair TR.int TR.int))))) v0 x0, imm (TR.ptr TR.str) v1 x1, imm (TR.ptr TR.int) v2 x2] rfl ⟨rfl, ⟨rfl, ⟨rfl, trivial⟩⟩⟩ hS ⟨k0, ⟨k1, ⟨k2, trivial⟩⟩⟩ ?_
 unfold queue_find_1_m at hm
 refine GL.seq ?_
 refine GL.region ?_
 refine RL.box (t := (TR.pair TR.str (TR.pair TR.str (TR.pair TR.int (TR.pair TR.int (TR.pair TR.int TR.int)))))) (e := x0) rfl rfl rfl rfl (VR.item 0 rfl) ?_
 intro v5
 refine RL.asg rfl rfl rfl ?_
 refine RL.finG ?_
 refine GL.seq ?_
 obtain ⟨y9, K10, h11, h12, h13, h14, h15⟩ := bindR_K hm
 refine GL.join (ι := Bool) (fun (p : Bool) => [(4, .bool p)]) (fun (p : Bool) => []) (fun (p : Bool) => K10 (.nx p)) ?_ ?_
 ·skip
  refine GL.region ?_
  refine RL.fadr (off := 0) (fo := 0) 3 Try_fld25_0 rfl rfl rfl PtOf.obox (Or.inr ⟨rfl, rfl⟩) ?_
  refine RL.ldPx (off := (0 + 0)) (e' := x0.1) 3 Ex.str Try_ln9 rfl rfl (Or.inl rfl) rfl PtOf.obox (Part.fst Part.self) ?_
  refine RL.ldPx (off := 0) (e' := x1) 1 Ex.str Try_ln9 rfl rfl (Or.inr ⟨rfl, rfl⟩) rfl PtOf.imm Part.self ?_
  refine RL.binS (v := .bool (x0.1 == x1)) rfl rfl rfl rfl rfl ?_
  refine RL.mv rfl rfl rfl ?_
  refine RL.split (t := 9) rfl (fun b16 => ?_) (fun b16 => ?_)
  ·replace h11 := ite_t b16 h11
   refine RL.fadr (off := 0) (fo := 2) 3 Try_fld25_2 rfl rfl rfl PtOf.obox (Or.inr ⟨rfl, rfl⟩) ?_
   refine RL.ldPx (off := (0 + 2)) (e' := x0.2.2.1) 3 Ex.ik Try_ln3 rfl rfl (Or.inl rfl) rfl PtOf.obox (Part.snd (Part.snd (Part.fst Part.self))) ?_
   refine RL.ldPx (off := 0) (e' := x2) 2 Ex.ik Try_ln3 rfl rfl (Or.inr ⟨rfl, rfl⟩) rfl PtOf.imm Part.self ?_
   refine RL.binI (v := .bool (x0.2.2.1 == x2)) rfl rfl rfl rfl rfl ?_
   refine RL.pickT rfl rfl rfl rfl ?_
   refine RL.asg rfl rfl rfl ?_
   refine RL.fin ?_
   cases h11
   exact fun a w st => mid_intro (x0.2.2.1 == x2) h12 (St.cut [] ⟨rfl, trivial⟩ (by decide) rfl st)
  replace h11 := ite_f b16 h11
  refine RL.skip rfl rfl ?_
  refine RL.skip rfl rfl ?_
  refine RL.skip rfl rfl ?_
  refine RL.skip rfl rfl ?_
  refine RL.pickF rfl rfl rfl rfl ?_
  refine RL.asg rfl rfl rfl ?_
  refine RL.fin ?_
  cases h11
  exact fun a w st => mid_intro false h12 (St.cut [] ⟨rfl, trivial⟩ (by decide) rfl st)
 rintro x8 h17
 have h18 := h13 _ h17
 try dsimp only at h18
 refine GL.weak (env' := [(4, .bool x8)]) (L' := []) (fun _ _ st => st) ?_
 have h18 := Option.some.inj h18
 subst h18
 exact GL.ret (Gx.ret (v := .bool x8) (res1 rfl rfl) (fun a w st => st.toPostV))

set_option maxHeartbeats 4000000 in
theorem queue_find_c (S : Hp) (w : World) (hS : S.sub w) (v0 : Value) (x0 : (List ((List UInt8) × ((List UInt8) × (Int × (Int × (Int × Int))))))) (k0 : ((TR.sl (TR.pair TR.str (TR.pair TR.str (TR.pair TR.int (TR.pair TR.int (TR.pair TR.int TR.int))))))).vrep S v0 x0) (x1 : (List UInt8)) (x2 : Int) (res : Int) (hm : queue_find_m x0 x1 x2 = some res) : Calls Try.prog 47 #[v0, .string ⟨(x1 : List UInt8).toArray⟩, .int .i64 x2] w (PostV w (.int .i64 res)) := by
 refine calls_enter 10 Try.func47 Try.ntmps47 rfl S false [(0, v0), (1, .string ⟨(x1 : List UInt8).toArray⟩), (2, .int .i64 x2)] [imm (TR.sl (TR.pair TR.str (TR.pair TR.str (TR.pair TR.int (TR.pair TR.int (TR.pair TR.int TR.int)))))) v0 x0] rfl ⟨rfl, ⟨rfl, ⟨rfl, trivial⟩⟩⟩ hS ⟨k0, trivial⟩ ?_
 unfold queue_find_m at hm
 refine GL.seq ?_
 refine GL.region ?_
 refine RL.box (t := TR.str) (e := x1) rfl rfl rfl rfl VR.str ?_
 intro v6
 refine RL.box (t := TR.int) (e := x2) rfl rfl rfl rfl VR.int ?_
 intro v7
 refine RL.reL (L' := [imm (TR.sl (TR.pair TR.str (TR.pair TR.str (TR.pair TR.int (TR.pair TR.int (TR.pair TR.int TR.int)))))) v0 x0, obox 9 TR.str v6 x1, obox 3 TR.int v7 x2]) rfl ?_
 refine RL.asg rfl rfl rfl ?_
 refine RL.finG ?_
 refine GL.seq ?_
 refine GL.region ?_
 refine RL.mv rfl rfl rfl ?_
 refine RL.mkF (vs := [v6, v7]) rfl rfl rfl ?_
 obtain ⟨y10, e11, hm⟩ := bind_some hm
 refine RL.callV (v := .int .i64 y10) (vs := [v0, .func (.func 72) #[] #[v6, v7]]) Try_fit71 rfl (Or.inl rfl) rfl rfl rfl rfl (fun U w hU hW hL => slices_IndexFunc_api_Deal_api_Deal_c U w hU _ _ (hL 0 _ _ rfl Seen.imm) 72 #[v6, v7] Try_fit72 (fun a0 => queue_find_1_m a0 x1 x2) (fun U' w' hle hU' u0 a0 q0 rr hr => (queue_find_1_c U' w' hU' u0 a0 q0 _ _ (TR.vrep_mono hle (hL 1 _ _ rfl Seen.obox)) _ _ (TR.vrep_mono hle (hL 2 _ _ rfl Seen.obox)) rr hr).mono (fun _ _ z => z)) _ e11) ?_
 refine RL.asg rfl rfl rfl ?_
 refine RL.finG ?_
 have hm := Option.some.inj hm
 subst hm
 exact GL.ret (Gx.ret (v := .int .i64 y10) (res1 rfl rfl) (fun a w st => st.toPostV))

set_option maxHeartbeats 4000000 in
theorem queue_Check_c (S : Hp) (w : World) (hS : S.sub w) (v0 : Value) (x0 : (List ((List UInt8) × ((List UInt8) × (Int × (Int × (Int × Int))))))) (k0 : ((TR.sl (TR.pair TR.str (TR.pair TR.str (TR.pair TR.int (TR.pair TR.int (TR.pair TR.int TR.int))))))).vrep S v0 x0) (res : Int) (hm : queue_Check_m x0 = some res) : Calls Try.prog 16 #[v0] w (PostV w (.int .i64 res)) := by
 refine calls_enter 31 Try.func16 Try.ntmps16 rfl S false [(0, v0)] [imm (TR.sl (TR.pair TR.str (TR.pair TR.str (TR.pair TR.int (TR.pair TR.int (TR.pair TR.int TR.int)))))) v0 x0] rfl ⟨rfl, trivial⟩ hS ⟨k0, trivial⟩ ?_
 unfold queue_Check_m at hm
 refine GL.seq ?_
 refine GL.region ?_
 refine RL.asg rfl rfl rfl ?_
 refine RL.finG ?_
 refine GL.seq ?_
 refine GL.seq ?_
 refine GL.region ?_
 refine RL.mv rfl rfl rfl ?_
 refine RL.lenS 0 Try.underlying22 rfl rfl rfl rfl SlOf.imm ?_
 refine RL.binI (v := .bool (decide (((x0).length : Int) > (20 : Int)))) rfl rfl rfl rfl rfl ?_
 refine RL.finG ?_
 refine GL.cond rfl (fun b2 => ?_) (fun b2 => ?_)
 ·replace hm := ite_t b2 hm
  refine GL.seq ?_
  refine GL.region ?_
  refine RL.asg rfl rfl rfl ?_
  refine RL.finG ?_
  have hm := Option.some.inj hm
  subst hm
  exact GL.ret (Gx.ret (v := .int .i64 (2 : Int)) (res1 rfl rfl) (fun a w st => st.toPostV))
 replace hm := ite_f b2 hm
 refine GL.skip ?_
 refine GL.seq ?_
 refine GL.seq ?_
 refine GL.region ?_
 refine RL.mv rfl rfl rfl ?_
 refine RL.lenS 0 Try.underlying22 rfl rfl rfl rfl SlOf.imm ?_
 refine RL.mv rfl rfl rfl ?_
 refine RL.finG ?_
 refine GL.open_ 0 rfl (fun S h => len_imm S h) (fun n29 => ?_)
 obtain ⟨y30, K31, h32, h33, h34, h35, h36⟩ := bindR_K hm
 refine GL.join (ι := Unit) (fun (p : Unit) => []) (fun (p : Unit) => []) (fun (p : Unit) => K31 (.nx ())) ?_ ?_
 ·refine GL.block ?_
  refine GL.loop (ι := Nat × (List ((List UInt8) × ((List UInt8) × (Int × (Int × (Int × Int))))))) (fun (p : Nat × (List ((List UInt8) × ((List UInt8) × (Int × (Int × (Int × Int))))))) => [(0, v0), (9, v0), (10, .int .i64 ((x0).length : Int)), (11, .int .i64 (p.1 : Int))]) (fun (p : Nat × (List ((List UInt8) × ((List UInt8) × (Int × (Int × (Int × Int))))))) => [imm (TR.sl (TR.pair TR.str (TR.pair TR.str (TR.pair TR.int (TR.pair TR.int (TR.pair TR.int TR.int)))))) v0 x0]) (fun (p : Nat × (List ((List UInt8) × ((List UInt8) × (Int × (Int × (Int × Int))))))) => p.1 + p.2.length = (x0).length ∧ List.drop p.1 x0 = p.2 ∧ rangeL (queue_Check_b1 x0) p.2 p.1 () = some y30) (fun (p : Nat × (List ((List UInt8) × ((List UInt8) × (Int × (Int × (Int × Int))))))) => p.2.length) (0, x0) ⟨by simp, by simp, h32⟩ (fun a w st => St.cut [0] ⟨rfl, rfl, rfl, rfl, trivial⟩ (by decide) rfl st) ?_
  rintro ⟨i37, r38⟩ ⟨h43, h44, h42⟩
  try dsimp only at h43 h44 h42
  refine GL.weak (env' := [(0, v0), (9, v0), (10, .int .i64 ((x0).length : Int)), (11, .int .i64 (i37 : Int))]) (L' := [imm (TR.sl (TR.pair TR.str (TR.pair TR.str (TR.pair TR.int (TR.pair TR.int (TR.pair TR.int TR.int)))))) v0 x0]) (fun _ _ st => st) ?_
  refine GL.seq ?_
  refine GL.region ?_
  refine RL.binI (v := .bool (decide ((i37 : Int) < ((x0).length : Int)))) rfl rfl rfl rfl rfl ?_
  refine RL.finG ?_
  refine GL.seq ?_
  refine GL.cond rfl (fun b45 => ?_) (fun b45 => ?_)
  ·have h46 : i37 < (x0).length := by have := of_decide_eq_true b45; omega
   obtain ⟨y47, r49, hr, e48, h50⟩ := drop_cons h44 rfl h46
   subst hr
   obtain ⟨z39, h40, h41⟩ := rangeL_some h42
   unfold queue_Check_b1 at h40
   try dsimp only at h40
   refine GL.skip ?_
   refine GL.seq ?_
   refine GL.block ?_
   refine GL.seq ?_
   refine GL.region ?_
   refine RL.mv rfl rfl rfl ?_
   refine RL.idxS (sz := 6) 0 Try.underlying22 Try_ln25 rfl rfl rfl rfl rfl SlOf.imm (by omega) (by omega) ?_
   refine RL.ldS (i := i37) (r := (TR.pair TR.str (TR.pair TR.str (TR.pair TR.int (TR.pair TR.int (TR.pair TR.int TR.int)))))) (e' := y47) 0 Try_ln25 rfl rfl rfl rfl SlOf.imm e48 Part.self ?_
   intro v53
   refine RL.alloc (t := (TR.pair TR.str (TR.pair TR.str (TR.pair TR.int (TR.pair TR.int (TR.pair TR.int TR.int)))))) (z := (([] : List UInt8), ([] : List UInt8), (0 : Int), (0 : Int), (0 : Int), (0 : Int))) Try_lo25 (fun S => ⟨[.string ⟨#[]⟩], _, rfl, rfl, ⟨[.string ⟨#[]⟩], _, rfl, rfl, ⟨[.int .i64 0], _, rfl, rfl, ⟨[.int .i64 0], _, rfl, rfl, ⟨[.int .i64 0], _, rfl, rfl, rfl⟩⟩⟩⟩⟩) rfl rfl rfl ?_
   intro v54
   refine RL.reL (L' := [imm (TR.sl (TR.pair TR.str (TR.pair TR.str (TR.pair TR.int (TR.pair TR.int (TR.pair TR.int TR.int)))))) v0 x0, imm (TR.pair TR.str (TR.pair TR.str (TR.pair TR.int (TR.pair TR.int (TR.pair TR.int TR.int))))) v53 y47, obox 25 (TR.pair TR.str (TR.pair TR.str (TR.pair TR.int (TR.pair TR.int (TR.pair TR.int TR.int))))) v54 (([] : List UInt8), ([] : List UInt8), (0 : Int), (0 : Int), (0 : Int), (0 : Int))]) rfl ?_
   refine RL.asg rfl rfl rfl ?_
   refine RL.stP (off := 0) (e' := y47) (d1 := y47) (r := (TR.pair TR.str (TR.pair TR.str (TR.pair TR.int (TR.pair TR.int (TR.pair TR.int TR.int)))))) 2 Try_ln25 rfl rfl (Or.inr ⟨rfl, rfl⟩) rfl (VR.item 1 rfl) rfl Upd.self ?_
   refine RL.finG ?_
   refine GL.seq ?_
   refine GL.seq ?_
   refine GL.region ?_
   refine RL.ldP (off := 0) (r := (TR.pair TR.str (TR.pair TR.str (TR.pair TR.int (TR.pair TR.int (TR.pair TR.int TR.int)))))) (e' := y47) 2 Try_ln25 rfl rfl (Or.inr ⟨rfl, rfl⟩) rfl PtOf.obox Part.self ?_
   intro v58
   refine RL.reL (L' := [imm (TR.sl (TR.pair TR.str (TR.pair TR.str (TR.pair TR.int (TR.pair TR.int (TR.pair TR.int TR.int)))))) v0 x0, imm (TR.pair TR.str (TR.pair TR.str (TR.pair TR.int (TR.pair TR.int (TR.pair TR.int TR.int))))) v53 y47, obox 25 (TR.pair TR.str (TR.pair TR.str (TR.pair TR.int (TR.pair TR.int (TR.pair TR.int TR.int))))) v54 y47, imm (TR.pair TR.str (TR.pair TR.str (TR.pair TR.int (TR.pair TR.int (TR.pair TR.int TR.int))))) v58 y47]) rfl ?_
   obtain ⟨y59, e60, h40⟩ := bind_some h40
   refine RL.callV (v := .int .i64 y59) (vs := [v58]) Try_fit46 rfl (Or.inl rfl) rfl rfl rfl rfl (fun U w hU hW hL => ledger_Right_c U w hU _ _ (hL 3 _ _ rfl Seen.imm) _ e60) ?_
   refine RL.asg rfl rfl rfl ?_
   refine RL.finG ?_
   refine GL.seq ?_
   refine GL.region ?_
   refine RL.mv rfl rfl rfl ?_
   refine RL.binI (v := .bool (y59 != (0 : Int))) rfl rfl rfl rfl rfl ?_
   refine RL.finG ?_
   refine GL.cond rfl (fun b61 => ?_) (fun b61 => ?_)
   ·replace h40 := ite_t b61 h40
    refine GL.seq ?_
    refine GL.region ?_
    refine RL.mv rfl rfl rfl ?_
    refine RL.asg rfl rfl rfl ?_
    refine RL.finG ?_
    cases h40
    replace h41 : some (Fl.rt _) = some y30 := h41
    cases h41
    have hh := h35 _ h33
    subst hh
    exact GL.ret (Gx.ret (v := .int .i64 y59) (res1 rfl rfl) (fun a w st => st.toPostV))
   replace h40 := ite_f b61 h40
   refine GL.skip ?_
   refine GL.seq ?_
   refine GL.regionQ rfl rfl (by kernel_rfl) ?_
   refine RL.mv rfl rfl rfl ?_
   refine RL.mv rfl rfl rfl ?_
   obtain ⟨y67, e68, h40⟩ := bind_some h40
   replace e68 := chk_some e68
   refine RL.slc (t := (TR.pair TR.str (TR.pair TR.str (TR.pair TR.int (TR.pair TR.int (TR.pair TR.int TR.int)))))) (i := 0) (j := ((i37 : Int)).toNat) (sz := 6) 0 Try.underlying22 Try_ln25 rfl rfl rfl rfl (Or.inl ⟨rfl, rfl⟩) (Or.inr ⟨_, _, rfl, by rw [Int.toNat_of_nonneg (by omega)]; rfl⟩) rfl (by omega) (by omega) ?_
   intro v69
   refine RL.fadr (off := 0) (fo := 0) 2 Try_fld25_0 rfl rfl rfl PtOf.obox (Or.inr ⟨rfl, rfl⟩) ?_
   refine RL.ldPx (off := (0 + 0)) (e' := y47.1) 2 Ex.str Try_ln9 rfl rfl (Or.inl rfl) rfl PtOf.obox (Part.fst Part.self) ?_
   refine RL.fadr (off := 0) (fo := 2) 2 Try_fld25_2 rfl rfl rfl PtOf.obox (Or.inr ⟨rfl, rfl⟩) ?_
   refine RL.ldPx (off := (0 + 2)) (e' := y47.2.2.1) 2 Ex.ik Try_ln3 rfl rfl (Or.inl rfl) rfl PtOf.obox (Part.snd (Part.snd (Part.fst Part.self))) ?_
   obtain ⟨y70, e71, h40⟩ := bind_some h40
   refine RL.callV (v := .int .i64 y70) (vs := [v69, .string ⟨(y47.1 : List UInt8).toArray⟩, .int .i64 y47.2.2.1]) Try_fit47 rfl (Or.inr ⟨_, rfl⟩) rfl rfl rfl rfl (fun U w hU hW hL => queue_find_c U w hU _ _ (hL 4 _ _ rfl Seen.imm) y47.1 y47.2.2.1 _ e71) ?_
   refine RL.binI (v := .bool (decide (y70 ≥ (0 : Int)))) rfl rfl rfl rfl rfl ?_
   refine RL.finQG ?_
   refine GL.cond rfl (fun b72 => ?_) (fun b72 => ?_)
   ·replace h40 := ite_t b72 h40
    refine GL.seq ?_
    refine GL.region ?_
    refine RL.asg rfl rfl rfl ?_
    refine RL.finG ?_
    cases h40
    replace h41 : some (Fl.rt _) = some y30 := h41
    cases h41
    have hh := h35 _ h33
    subst hh
    exact GL.ret (Gx.ret (v := .int .i64 (7 : Int)) (res1 rfl rfl) (fun a w st => st.toPostV))
   replace h40 := ite_f b72 h40
   refine GL.skip ?_
   refine GL.nilB ?_
   refine GL.region ?_
   refine RL.binI (v := .int .i64 ((i37 + 1 : Nat) : Int)) rfl rfl rfl rfl (binI_succ i37 (by omega)) ?_
   refine RL.mv rfl rfl rfl ?_
   refine RL.fin ?_
   cases h40
   exact fun a w st => lop_intro (i37 + 1, r49) ⟨by show i37 + 1 + r49.length = (x0).length; simp only [List.length_cons] at h43; omega, h50, h41⟩ (by simp) (St.cut [0] ⟨rfl, rfl, rfl, rfl, trivial⟩ (by decide) rfl st)
  have h46 : ¬ i37 < (x0).length := by have := of_decide_eq_false b45; omega
  obtain rfl : r38 = [] := by rw [← h44]; exact List.drop_of_length_le (by omega)
  replace h42 : some (Fl.nx _) = some y30 := h42
  cases h42
  exact GL.exit (fun a w st => mid_intro () h33 (St.cut [] trivial (by decide) rfl st))
 rintro ⟨⟩ h73
 have h74 := h34 _ h73
 try dsimp only at h74
 refine GL.weak (env' := []) (L' := []) (fun _ _ st => st) ?_
 refine GL.seq ?_
 refine GL.region ?_
 refine RL.asg rfl rfl rfl ?_
 refine RL.finG ?_
 have h74 := Option.some.inj h74
 subst h74
 exact GL.ret (Gx.ret (v := .int .i64 (0 : Int)) (res1 rfl rfl) (fun a w st => st.toPostV))

set_option maxHeartbeats 4000000 in
theorem ledger_Check_c (S : Hp) (w : World) (hS : S.sub w) (v0 : Value) (x0 : (List ((List UInt8) × (Int × Int)))) (k0 : ((TR.sl (TR.pair TR.str (TR.pair TR.int TR.int)))).vrep S v0 x0) (res : Int) (hm : ledger_Check_m x0 = some res) : Calls Try.prog 51 #[v0] w (PostV w (.int .i64 res)) := by
 refine calls_enter 53 Try.func51 Try.ntmps51 rfl S false [(0, v0)] [imm (TR.sl (TR.pair TR.str (TR.pair TR.int TR.int))) v0 x0] rfl ⟨rfl, trivial⟩ hS ⟨k0, trivial⟩ ?_
 unfold ledger_Check_m at hm
 refine GL.seq ?_
 refine GL.region ?_
 refine RL.asg rfl rfl rfl ?_
 refine RL.finG ?_
 refine GL.seq ?_
 refine GL.seq ?_
 refine GL.region ?_
 refine RL.mv rfl rfl rfl ?_
 refine RL.lenS 0 Try.underlying34 rfl rfl rfl rfl SlOf.imm ?_
 refine RL.binI (v := .bool (decide (((x0).length : Int) > (6 : Int)))) rfl rfl rfl rfl rfl ?_
 refine RL.finG ?_
 refine GL.cond rfl (fun b2 => ?_) (fun b2 => ?_)
 ·replace hm := ite_t b2 hm
  refine GL.seq ?_
  refine GL.region ?_
  refine RL.asg rfl rfl rfl ?_
  refine RL.finG ?_
  have hm := Option.some.inj hm
  subst hm
  exact GL.ret (Gx.ret (v := .int .i64 (2 : Int)) (res1 rfl rfl) (fun a w st => st.toPostV))
 replace hm := ite_f b2 hm
 refine GL.skip ?_
 refine GL.seq ?_
 refine GL.seq ?_
 refine GL.region ?_
 refine RL.mv rfl rfl rfl ?_
 refine RL.lenS 0 Try.underlying34 rfl rfl rfl rfl SlOf.imm ?_
 refine RL.mv rfl rfl rfl ?_
 refine RL.finG ?_
 refine GL.open_ 0 rfl (fun S h => len_imm S h) (fun n60 => ?_)
 obtain ⟨y61, K62, h63, h64, h65, h66, h67⟩ := bindR_K hm
 refine GL.join (ι := Unit) (fun (p : Unit) => []) (fun (p : Unit) => []) (fun (p : Unit) => K62 (.nx ())) ?_ ?_
 ·refine GL.block ?_
  refine GL.loop (ι := Nat × (List ((List UInt8) × (Int × Int)))) (fun (p : Nat × (List ((List UInt8) × (Int × Int)))) => [(0, v0), (8, v0), (9, .int .i64 ((x0).length : Int)), (10, .int .i64 (p.1 : Int))]) (fun (p : Nat × (List ((List UInt8) × (Int × Int)))) => [imm (TR.sl (TR.pair TR.str (TR.pair TR.int TR.int))) v0 x0]) (fun (p : Nat × (List ((List UInt8) × (Int × Int)))) => p.1 + p.2.length = (x0).length ∧ List.drop p.1 x0 = p.2 ∧ rangeL (ledger_Check_b1 x0) p.2 p.1 () = some y61) (fun (p : Nat × (List ((List UInt8) × (Int × Int)))) => p.2.length) (0, x0) ⟨by simp, by simp, h63⟩ (fun a w st => St.cut [0] ⟨rfl, rfl, rfl, rfl, trivial⟩ (by decide) rfl st) ?_
  rintro ⟨i68, r69⟩ ⟨h74, h75, h73⟩
  try dsimp only at h74 h75 h73
  refine GL.weak (env' := [(0, v0), (8, v0), (9, .int .i64 ((x0).length : Int)), (10, .int .i64 (i68 : Int))]) (L' := [imm (TR.sl (TR.pair TR.str (TR.pair TR.int TR.int))) v0 x0]) (fun _ _ st => st) ?_
  refine GL.seq ?_
  refine GL.region ?_
  refine RL.binI (v := .bool (decide ((i68 : Int) < ((x0).length : Int)))) rfl rfl rfl rfl rfl ?_
  refine RL.finG ?_
  refine GL.seq ?_
  refine GL.cond rfl (fun b76 => ?_) (fun b76 => ?_)
  ·have h77 : i68 < (x0).length := by have := of_decide_eq_true b76; omega
   obtain ⟨y78, r80, hr, e79, h81⟩ := drop_cons h75 rfl h77
   subst hr
   obtain ⟨z70, h71, h72⟩ := rangeL_some h73
   unfold ledger_Check_b1 at h71
   try dsimp only at h71
   refine GL.skip ?_
   refine GL.seq ?_
   refine GL.block ?_
   refine GL.seq ?_
   refine GL.region ?_
   refine RL.mv rfl rfl rfl ?_
   refine RL.idxS (sz := 3) 0 Try.underlying34 Try_ln38 rfl rfl rfl rfl rfl SlOf.imm (by omega) (by omega) ?_
   refine RL.ldS (i := i68) (r := (TR.pair TR.str (TR.pair TR.int TR.int))) (e' := y78) 0 Try_ln38 rfl rfl rfl rfl SlOf.imm e79 Part.self ?_
   intro v84
   refine RL.alloc (t := (TR.pair TR.str (TR.pair TR.int TR.int))) (z := (([] : List UInt8), (0 : Int), (0 : Int))) Try_lo38 (fun S => ⟨[.string ⟨#[]⟩], _, rfl, rfl, ⟨[.int .i64 0], _, rfl, rfl, rfl⟩⟩) rfl rfl rfl ?_
   intro v85
   refine RL.reL (L' := [imm (TR.sl (TR.pair TR.str (TR.pair TR.int TR.int))) v0 x0, imm (TR.pair TR.str (TR.pair TR.int TR.int)) v84 y78, obox 38 (TR.pair TR.str (TR.pair TR.int TR.int)) v85 (([] : List UInt8), (0 : Int), (0 : Int))]) rfl ?_
   refine RL.asg rfl rfl rfl ?_
   refine RL.stP (off := 0) (e' := y78) (d1 := y78) (r := (TR.pair TR.str (TR.pair TR.int TR.int))) 2 Try_ln38 rfl rfl (Or.inr ⟨rfl, rfl⟩) rfl (VR.item 1 rfl) rfl Upd.self ?_
   refine RL.finG ?_
   refine GL.seq ?_
   refine GL.seq ?_
   obtain ⟨y99, K100, h101, h102, h103, h104, h105⟩ := bindF_K h71
   refine GL.join (ι := Bool) (fun (p : Bool) => [(0, v0), (4, v85), (8, v0), (9, .int .i64 ((x0).length : Int)), (10, .int .i64 (i68 : Int)), (33, .bool p)]) (fun (p : Bool) => [imm (TR.sl (TR.pair TR.str (TR.pair TR.int TR.int))) v0 x0, obox 38 (TR.pair TR.str (TR.pair TR.int TR.int)) v85 y78]) (fun (p : Bool) => K100 (.nx p)) ?_ ?_
   ·skip
    refine GL.regionQ rfl rfl (by kernel_rfl) ?_
    refine RL.fadr (off := 0) (fo := 0) 2 Try_fld38_0 rfl rfl rfl PtOf.obox (Or.inr ⟨rfl, rfl⟩) ?_
    refine RL.ldPx (off := (0 + 0)) (e' := y78.1) 2 Ex.str Try_ln9 rfl rfl (Or.inl rfl) rfl PtOf.obox (Part.fst Part.self) ?_
    obtain ⟨y106, e107, h101⟩ := bind_some h101
    refine RL.callV (v := .bool y106) (vs := [.string ⟨(y78.1 : List UInt8).toArray⟩]) Try_fit70 rfl (Or.inr ⟨_, rfl⟩) rfl rfl rfl rfl (fun U w hU hW hL => ledger_named_c U w hU y78.1 _ e107) ?_
    refine RL.notB rfl rfl rfl ?_
    refine RL.mv rfl rfl rfl ?_
    refine RL.split (t := 19) rfl (fun b108 => ?_) (fun b108 => ?_)
    ·replace h101 := ite_t b108 h101
     refine RL.skip rfl rfl ?_
     refine RL.skip rfl rfl ?_
     refine RL.skip rfl rfl ?_
     refine RL.skip rfl rfl ?_
     refine RL.skip rfl rfl ?_
     refine RL.skip rfl rfl ?_
     refine RL.skip rfl rfl ?_
     refine RL.skip rfl rfl ?_
     refine RL.skip rfl rfl ?_
     refine RL.skip rfl rfl ?_
     refine RL.skip rfl rfl ?_
     refine RL.skip rfl rfl ?_
     refine RL.skip rfl rfl ?_
     refine RL.pickT rfl rfl rfl rfl ?_
     refine RL.finQ ?_
     cases h101
     exact fun a w st => mid_intro true h102 (St.cut [0, 2] ⟨rfl, rfl, rfl, rfl, rfl, rfl, trivial⟩ (by decide) rfl st)
    replace h101 := ite_f b108 h101
    refine RL.mv rfl rfl rfl ?_
    refine RL.binI (v := .bool (decide ((i68 : Int) > (0 : Int)))) rfl rfl rfl rfl rfl ?_
    refine RL.mv rfl rfl rfl ?_
    refine RL.split (t := 22) rfl (fun b109 => ?_) (fun b109 => ?_)
    ·replace h101 := ite_t b109 h101
     refine RL.fadr (off := 0) (fo := 0) 2 Try_fld38_0 rfl rfl rfl PtOf.obox (Or.inr ⟨rfl, rfl⟩) ?_
     refine RL.ldPx (off := (0 + 0)) (e' := y78.1) 2 Ex.str Try_ln9 rfl rfl (Or.inl rfl) rfl PtOf.obox (Part.fst Part.self) ?_
     refine RL.mv rfl rfl rfl ?_
     refine RL.mv rfl rfl rfl ?_
     refine RL.binI (v := .int .i64 (wsub (i68 : Int) (1 : Int))) rfl rfl rfl rfl rfl ?_
     obtain ⟨y110, e111, h101⟩ := bind_some h101
     refine RL.idxS (sz := 3) 0 Try.underlying34 Try_ln38 rfl rfl rfl rfl rfl SlOf.imm (idx_some e111).1 (idx_some e111).2.1 ?_
     refine RL.fadrS (off := ((wsub (i68 : Int) (1 : Int)).toNat * 3)) (fo := 0) 0 Try_fld38_0 rfl rfl rfl SlOf.imm (by have := (List.getElem?_eq_some_iff.1 (idx_some e111).2.2).1; omega) rfl ?_
     refine RL.ldSx (i := (wsub (i68 : Int) (1 : Int)).toNat) (e' := y110.1) 0 Ex.str Try_ln9 rfl rfl rfl rfl SlOf.imm (idx_some e111).2.2 (Part.fst Part.self) ?_
     refine RL.binS (v := .bool (bls y78.1 y110.1 || y78.1 == y110.1)) rfl rfl rfl rfl rfl ?_
     refine RL.pickT rfl rfl rfl rfl ?_
     refine RL.pickF rfl rfl rfl rfl ?_
     refine RL.finQ ?_
     cases h101
     exact fun a w st => mid_intro (bls y78.1 y110.1 || y78.1 == y110.1) h102 (St.cut [0, 2] ⟨rfl, rfl, rfl, rfl, rfl, rfl, trivial⟩ (by decide) rfl st)
    replace h101 := ite_f b109 h101
    refine RL.skip rfl rfl ?_
    refine RL.skip rfl rfl ?_
    refine RL.skip rfl rfl ?_
    refine RL.skip rfl rfl ?_
    refine RL.skip rfl rfl ?_
    refine RL.skip rfl rfl ?_
    refine RL.skip rfl rfl ?_
    refine RL.skip rfl rfl ?_
    refine RL.skip rfl rfl ?_
    refine RL.pickF rfl rfl rfl rfl ?_
    refine RL.pickF rfl rfl rfl rfl ?_
    refine RL.finQ ?_
    cases h101
    exact fun a w st => mid_intro false h102 (St.cut [0, 2] ⟨rfl, rfl, rfl, rfl, rfl, rfl, trivial⟩ (by decide) rfl st)
   rintro x98 h112
   have h113 := h103 _ h112
   try dsimp only at h113
   refine GL.weak (env' := [(0, v0), (4, v85), (8, v0), (9, .int .i64 ((x0).length : Int)), (10, .int .i64 (i68 : Int)), (33, .bool x98)]) (L' := [imm (TR.sl (TR.pair TR.str (TR.pair TR.int TR.int))) v0 x0, obox 38 (TR.pair TR.str (TR.pair TR.int TR.int)) v85 y78]) (fun _ _ st => st) ?_
   refine GL.cond rfl (fun b114 => ?_) (fun b114 => ?_)
   ·replace h113 := ite_t b114 h113
    refine GL.seq ?_
    refine GL.region ?_
    refine RL.asg rfl rfl rfl ?_
    refine RL.finG ?_
    cases h113
    replace h72 : some (Fl.rt _) = some y61 := h72
    cases h72
    have hh := h66 _ h64
    subst hh
    exact GL.ret (Gx.ret (v := .int .i64 (3 : Int)) (res1 rfl rfl) (fun a w st => st.toPostV))
   replace h113 := ite_f b114 h113
   refine GL.skip ?_
   refine GL.seq ?_
   obtain ⟨y122, K123, h124, h125, h126, h127, h128⟩ := bindF_K h113
   refine GL.join (ι := Bool) (fun (p : Bool) => [(0, v0), (8, v0), (9, .int .i64 ((x0).length : Int)), (10, .int .i64 (i68 : Int)), (51, .bool p)]) (fun (p : Bool) => [imm (TR.sl (TR.pair TR.str (TR.pair TR.int TR.int))) v0 x0]) (fun (p : Bool) => K123 (.nx p)) ?_ ?_
   ·skip
    refine GL.region ?_
    refine RL.fadr (off := 0) (fo := 1) 1 Try_fld38_1 rfl rfl rfl PtOf.obox (Or.inr ⟨rfl, rfl⟩) ?_
    refine RL.ldPx (off := (0 + 1)) (e' := y78.2.1) 1 Ex.ik Try_ln3 rfl rfl (Or.inl rfl) rfl PtOf.obox (Part.snd (Part.fst Part.self)) ?_
    refine RL.binI (v := .bool (decide (y78.2.1 < (0 : Int)))) rfl rfl rfl rfl rfl ?_
    refine RL.mv rfl rfl rfl ?_
    refine RL.split (t := 37) rfl (fun b129 => ?_) (fun b129 => ?_)
    ·replace h124 := ite_t b129 h124
     refine RL.skip rfl rfl ?_
     refine RL.skip rfl rfl ?_
     refine RL.skip rfl rfl ?_
     refine RL.pickT rfl rfl rfl rfl ?_
     refine RL.mv rfl rfl rfl ?_
     refine RL.skip rfl rfl ?_
     refine RL.skip rfl rfl ?_
     refine RL.skip rfl rfl ?_
     refine RL.pickT rfl rfl rfl rfl ?_
     refine RL.mv rfl rfl rfl ?_
     refine RL.skip rfl rfl ?_
     refine RL.skip rfl rfl ?_
     refine RL.skip rfl rfl ?_
     refine RL.pickT rfl rfl rfl rfl ?_
     refine RL.fin ?_
     cases h124
     exact fun a w st => mid_intro true h125 (St.cut [0] ⟨rfl, rfl, rfl, rfl, rfl, trivial⟩ (by decide) rfl st)
    replace h124 := ite_f b129 h124
    refine RL.fadr (off := 0) (fo := 1) 1 Try_fld38_1 rfl rfl rfl PtOf.obox (Or.inr ⟨rfl, rfl⟩) ?_
    refine RL.ldPx (off := (0 + 1)) (e' := y78.2.1) 1 Ex.ik Try_ln3 rfl rfl (Or.inl rfl) rfl PtOf.obox (Part.snd (Part.fst Part.self)) ?_
    refine RL.binI (v := .bool (decide (y78.2.1 > (1000000 : Int)))) rfl rfl rfl rfl rfl ?_
    refine RL.pickF rfl rfl rfl rfl ?_
    refine RL.mv rfl rfl rfl ?_
    refine RL.split (t := 42) rfl (fun b130 => ?_) (fun b130 => ?_)
    ·replace h124 := ite_t b130 h124
     refine RL.skip rfl rfl ?_
     refine RL.skip rfl rfl ?_
     refine RL.skip rfl rfl ?_
     refine RL.pickT rfl rfl rfl rfl ?_
     refine RL.mv rfl rfl rfl ?_
     refine RL.skip rfl rfl ?_
     refine RL.skip rfl rfl ?_
     refine RL.skip rfl rfl ?_
     refine RL.pickT rfl rfl rfl rfl ?_
     refine RL.fin ?_
     cases h124
     exact fun a w st => mid_intro true h125 (St.cut [0] ⟨rfl, rfl, rfl, rfl, rfl, trivial⟩ (by decide) rfl st)
    replace h124 := ite_f b130 h124
    refine RL.fadr (off := 0) (fo := 2) 1 Try_fld38_2 rfl rfl rfl PtOf.obox (Or.inr ⟨rfl, rfl⟩) ?_
    refine RL.ldPx (off := (0 + 2)) (e' := y78.2.2) 1 Ex.ik Try_ln3 rfl rfl (Or.inl rfl) rfl PtOf.obox (Part.snd (Part.snd Part.self)) ?_
    refine RL.binI (v := .bool (decide (y78.2.2 < (0 : Int)))) rfl rfl rfl rfl rfl ?_
    refine RL.pickF rfl rfl rfl rfl ?_
    refine RL.mv rfl rfl rfl ?_
    refine RL.split (t := 47) rfl (fun b131 => ?_) (fun b131 => ?_)
    ·replace h124 := ite_t b131 h124
     refine RL.skip rfl rfl ?_
     refine RL.skip rfl rfl ?_
     refine RL.skip rfl rfl ?_
     refine RL.pickT rfl rfl rfl rfl ?_
     refine RL.fin ?_
     cases h124
     exact fun a w st => mid_intro true h125 (St.cut [0] ⟨rfl, rfl, rfl, rfl, rfl, trivial⟩ (by decide) rfl st)
    replace h124 := ite_f b131 h124
    refine RL.fadr (off := 0) (fo := 2) 1 Try_fld38_2 rfl rfl rfl PtOf.obox (Or.inr ⟨rfl, rfl⟩) ?_
    refine RL.ldPx (off := (0 + 2)) (e' := y78.2.2) 1 Ex.ik Try_ln3 rfl rfl (Or.inl rfl) rfl PtOf.obox (Part.snd (Part.snd Part.self)) ?_
    refine RL.binI (v := .bool (decide (y78.2.2 > (1000000 : Int)))) rfl rfl rfl rfl rfl ?_
    refine RL.pickF rfl rfl rfl rfl ?_
    refine RL.fin ?_
    cases h124
    exact fun a w st => mid_intro (decide (y78.2.2 > (1000000 : Int))) h125 (St.cut [0] ⟨rfl, rfl, rfl, rfl, rfl, trivial⟩ (by decide) rfl st)
   rintro x121 h132
   have h133 := h126 _ h132
   try dsimp only at h133
   refine GL.weak (env' := [(0, v0), (8, v0), (9, .int .i64 ((x0).length : Int)), (10, .int .i64 (i68 : Int)), (51, .bool x121)]) (L' := [imm (TR.sl (TR.pair TR.str (TR.pair TR.int TR.int))) v0 x0]) (fun _ _ st => st) ?_
   refine GL.cond rfl (fun b134 => ?_) (fun b134 => ?_)
   ·replace h133 := ite_t b134 h133
    refine GL.seq ?_
    refine GL.region ?_
    refine RL.asg rfl rfl rfl ?_
    refine RL.finG ?_
    cases h133
    replace h72 : some (Fl.rt _) = some y61 := h72
    cases h72
    have hh := h66 _ h64
    subst hh
    exact GL.ret (Gx.ret (v := .int .i64 (1 : Int)) (res1 rfl rfl) (fun a w st => st.toPostV))
   replace h133 := ite_f b134 h133
   refine GL.skip ?_
   refine GL.nilB ?_
   refine GL.region ?_
   refine RL.binI (v := .int .i64 ((i68 + 1 : Nat) : Int)) rfl rfl rfl rfl (binI_succ i68 (by omega)) ?_
   refine RL.mv rfl rfl rfl ?_
   refine RL.fin ?_
   cases h133
   exact fun a w st => lop_intro (i68 + 1, r80) ⟨by show i68 + 1 + r80.length = (x0).length; simp only [List.length_cons] at h74; omega, h81, h72⟩ (by simp) (St.cut [0] ⟨rfl, rfl, rfl, rfl, trivial⟩ (by decide) rfl st)
  have h77 : ¬ i68 < (x0).length := by have := of_decide_eq_false b76; omega
  obtain rfl : r69 = [] := by rw [← h75]; exact List.drop_of_length_le (by omega)
  replace h73 : some (Fl.nx _) = some y61 := h73
  cases h73
  exact GL.exit (fun a w st => mid_intro () h64 (St.cut [] trivial (by decide) rfl st))
 rintro ⟨⟩ h135
 have h136 := h65 _ h135
 try dsimp only at h136
 refine GL.weak (env' := []) (L' := []) (fun _ _ st => st) ?_
 refine GL.seq ?_
 refine GL.region ?_
 refine RL.asg rfl rfl rfl ?_
 refine RL.finG ?_
 have h136 := Option.some.inj h136
 subst h136
 exact GL.ret (Gx.ret (v := .int .i64 (0 : Int)) (res1 rfl rfl) (fun a w st => st.toPostV))

set_option maxHeartbeats 4000000 in
theorem slices_IndexFunc_api_Account_api_Account_c (S : Hp) (w : World) (hS : S.sub w) (v0 : Value) (x0 : (List ((List UInt8) × (Int × Int)))) (k0 : ((TR.sl (TR.pair TR.str (TR.pair TR.int TR.int)))).vrep S v0 x0) (f1 : FuncId) (c1 : Array Value) (t1 : Fit Try.prog f1) (g1 : ((List UInt8) × (Int × Int)) → Option Bool) (k1 : ∀ (U : Hp) (w' : World), Hp.le S U → U.sub w' → ∀ (u0 : Value) (a0 : ((List UInt8) × (Int × Int))) (_ : ((TR.pair TR.str (TR.pair TR.int TR.int))).vrep U u0 a0) (rr : Bool), g1 a0 = some rr → Calls Try.prog f1 (#[u0] ++ c1) w' (PostV w' (.bool rr))) (res : Int) (hm : slices_IndexFunc_api_Account_api_Account_m x0 g1 = some res) : Calls Try.prog 55 #[v0, .func (.func f1) #[] c1] w (PostV w (.int .i64 res)) := by
 refine calls_enter 19 Try.func55 Try.ntmps55 rfl S false [(0, v0), (1, .func (.func f1) #[] c1)] [imm (TR.sl (TR.pair TR.str (TR.pair TR.int TR.int))) v0 x0] rfl ⟨rfl, ⟨rfl, trivial⟩⟩ hS ⟨k0, trivial⟩ ?_
 unfold slices_IndexFunc_api_Account_api_Account_m at hm
 refine GL.seq ?_
 refine GL.region ?_
 refine RL.asg rfl rfl rfl ?_
 refine RL.finG ?_
 refine GL.seq ?_
 refine GL.seq ?_
 refine GL.region ?_
 refine RL.mv rfl rfl rfl ?_
 refine RL.lenS 0 Try.underlying34 rfl rfl rfl rfl SlOf.imm ?_
 refine RL.mv rfl rfl rfl ?_
 refine RL.finG ?_
 refine GL.open_ 0 rfl (fun S h => len_imm S h) (fun n14 => ?_)
 obtain ⟨y15, K16, h17, h18, h19, h20, h21⟩ := bindR_K hm
 refine GL.join (ι := Unit) (fun (p : Unit) => []) (fun (p : Unit) => []) (fun (p : Unit) => K16 (.nx ())) ?_ ?_
 ·refine GL.block ?_
  refine GL.loop (ι := Nat × (List ((List UInt8) × (Int × Int)))) (fun (p : Nat × (List ((List UInt8) × (Int × Int)))) => [(0, v0), (1, .func (.func f1) #[] c1), (7, .int .i64 ((x0).length : Int)), (8, .int .i64 (p.1 : Int))]) (fun (p : Nat × (List ((List UInt8) × (Int × Int)))) => [imm (TR.sl (TR.pair TR.str (TR.pair TR.int TR.int))) v0 x0]) (fun (p : Nat × (List ((List UInt8) × (Int × Int)))) => p.1 + p.2.length = (x0).length ∧ List.drop p.1 x0 = p.2 ∧ rangeL (slices_IndexFunc_api_Account_api_Account_b1 g1) p.2 p.1 () = some y15) (fun (p : Nat × (List ((List UInt8) × (Int × Int)))) => p.2.length) (0, x0) ⟨by simp, by simp, h17⟩ (fun a w st => St.cut [0] ⟨rfl, rfl, rfl, rfl, trivial⟩ (by decide) rfl st) ?_
  rintro ⟨i22, r23⟩ ⟨h28, h29, h27⟩
  try dsimp only at h28 h29 h27
  refine GL.weak (env' := [(0, v0), (1, .func (.func f1) #[] c1), (7, .int .i64 ((x0).length : Int)), (8, .int .i64 (i22 : Int))]) (L' := [imm (TR.sl (TR.pair TR.str (TR.pair TR.int TR.int))) v0 x0]) (fun _ _ st => st) ?_
  refine GL.seq ?_
  refine GL.region ?_
  refine RL.binI (v := .bool (decide ((i22 : Int) < ((x0).length : Int)))) rfl rfl rfl rfl rfl ?_
  refine RL.finG ?_
  refine GL.seq ?_
  refine GL.cond rfl (fun b30 => ?_) (fun b30 => ?_)
  ·have h31 : i22 < (x0).length := by have := of_decide_eq_true b30; omega
   obtain ⟨y32, r34, hr, e33, h35⟩ := drop_cons h29 rfl h31
   subst hr
   obtain ⟨z24, h25, h26⟩ := rangeL_some h27
   unfold slices_IndexFunc_api_Account_api_Account_b1 at h25
   try dsimp only at h25
   refine GL.skip ?_
   refine GL.seq ?_
   refine GL.block ?_
   refine GL.seq ?_
   refine GL.region ?_
   refine RL.mv rfl rfl rfl ?_
   refine RL.asg rfl rfl rfl ?_
   refine RL.finG ?_
   refine GL.seq ?_
   refine GL.region ?_
   refine RL.mv rfl rfl rfl ?_
   refine RL.mv rfl rfl rfl ?_
   refine RL.mv rfl rfl rfl ?_
   refine RL.idxS (sz := 3) 0 Try.underlying34 Try_ln38 rfl rfl rfl rfl rfl SlOf.imm (by omega) (by omega) ?_
   refine RL.ldS (i := i22) (r := (TR.pair TR.str (TR.pair TR.int TR.int))) (e' := y32) 0 Try_ln38 rfl rfl rfl rfl SlOf.imm e33 Part.self ?_
   intro v39
   obtain ⟨y40, e41, h25⟩ := bind_some h25
   refine RL.callV (v := .bool y40) (vs := [v39]) t1 rfl (Or.inl rfl) rfl rfl rfl rfl (fun U w hU hW hL => k1 U w hW hU _ _ (hL 1 _ _ rfl Seen.imm) _ e41) ?_
   refine RL.finG ?_
   refine GL.cond rfl (fun b42 => ?_) (fun b42 => ?_)
   ·replace h25 := ite_t b42 h25
    refine GL.seq ?_
    refine GL.region ?_
    refine RL.mv rfl rfl rfl ?_
    refine RL.asg rfl rfl rfl ?_
    refine RL.finG ?_
    cases h25
    replace h26 : some (Fl.rt _) = some y15 := h26
    cases h26
    have hh := h20 _ h18
    subst hh
    exact GL.ret (Gx.ret (v := .int .i64 (i22 : Int)) (res1 rfl rfl) (fun a w st => st.toPostV))
   replace h25 := ite_f b42 h25
   refine GL.skip ?_
   refine GL.nilB ?_
   refine GL.region ?_
   refine RL.binI (v := .int .i64 ((i22 + 1 : Nat) : Int)) rfl rfl rfl rfl (binI_succ i22 (by omega)) ?_
   refine RL.mv rfl rfl rfl ?_
   refine RL.fin ?_
   cases h25
   exact fun a w st => lop_intro (i22 + 1, r34) ⟨by show i22 + 1 + r34.length = (x0).length; simp only [List.length_cons] at h28; omega, h35, h26⟩ (by simp) (St.cut [0] ⟨rfl, rfl, rfl, rfl, trivial⟩ (by decide) rfl st)
  have h31 : ¬ i22 < (x0).length := by have := of_decide_eq_false b30; omega
  obtain rfl : r23 = [] := by rw [← h29]; exact List.drop_of_length_le (by omega)
  replace h27 : some (Fl.nx _) = some y15 := h27
  cases h27
  exact GL.exit (fun a w st => mid_intro () h18 (St.cut [] trivial (by decide) rfl st))
 rintro ⟨⟩ h43
 have h44 := h19 _ h43
 try dsimp only at h44
 refine GL.weak (env' := []) (L' := []) (fun _ _ st => st) ?_
 refine GL.seq ?_
 refine GL.region ?_
 refine RL.asg rfl rfl rfl ?_
 refine RL.finG ?_
 have h44 := Option.some.inj h44
 subst h44
 exact GL.ret (Gx.ret (v := .int .i64 (-1 : Int)) (res1 rfl rfl) (fun a w st => st.toPostV))

set_option maxHeartbeats 4000000 in
theorem ledger_find_1_c (S : Hp) (w : World) (hS : S.sub w) (v0 : Value) (x0 : ((List UInt8) × (Int × Int))) (k0 : ((TR.pair TR.str (TR.pair TR.int TR.int))).vrep S v0 x0) (v1 : Value) (x1 : (List UInt8)) (k1 : ((TR.ptr TR.str)).vrep S v1 x1) (res : Bool) (hm : ledger_find_1_m x0 x1 = some res) : Calls Try.prog 73 #[v0, v1] w (PostV w (.bool res)) := by
 refine calls_enter 8 Try.func73 Try.ntmps73 rfl S false [(0, v0), (1, v1)] [imm (TR.pair TR.str (TR.pair TR.int TR.int)) v0 x0, imm (TR.ptr TR.str) v1 x1] rfl ⟨rfl, ⟨rfl, trivial⟩⟩ hS ⟨k0, ⟨k1, trivial⟩⟩ ?_
 unfold ledger_find_1_m at hm
 refine GL.seq ?_
 refine GL.region ?_
 refine RL.box (t := (TR.pair TR.str (TR.pair TR.int TR.int))) (e := x0) rfl rfl rfl rfl (VR.item 0 rfl) ?_
 intro v4
 refine RL.asg rfl rfl rfl ?_
 refine RL.finG ?_
 refine GL.seq ?_
 refine GL.region ?_
 refine RL.fadr (off := 0) (fo := 0) 2 Try_fld38_0 rfl rfl rfl PtOf.obox (Or.inr ⟨rfl, rfl⟩) ?_
 refine RL.ldPx (off := (0 + 0)) (e' := x0.1) 2 Ex.str Try_ln9 rfl rfl (Or.inl rfl) rfl PtOf.obox (Part.fst Part.self) ?_
 refine RL.ldPx (off := 0) (e' := x1) 1 Ex.str Try_ln9 rfl rfl (Or.inr ⟨rfl, rfl⟩) rfl PtOf.imm Part.self ?_
 refine RL.binS (v := .bool (x0.1 == x1)) rfl rfl rfl rfl rfl ?_
 refine RL.asg rfl rfl rfl ?_
 refine RL.finG ?_
 have hm := Option.some.inj hm
 subst hm
 exact GL.ret (Gx.ret (v := .bool (x0.1 == x1)) (res1 rfl rfl) (fun a w st => st.toPostV))

set_option maxHeartbeats 4000000 in
theorem ledger_find_c (S : Hp) (w : World) (hS : S.sub w) (v0 : Value) (x0 : (List ((List UInt8) × (Int × Int)))) (k0 : ((TR.sl (TR.pair TR.str (TR.pair TR.int TR.int)))).vrep S v0 x0) (x1 : (List UInt8)) (res : Int) (hm : ledger_find_m x0 x1 = some res) : Calls Try.prog 56 #[v0, .string ⟨(x1 : List UInt8).toArray⟩] w (PostV w (.int .i64 res)) := by
 refine calls_enter 8 Try.func56 Try.ntmps56 rfl S false [(0, v0), (1, .string ⟨(x1 : List UInt8).toArray⟩)] [imm (TR.sl (TR.pair TR.str (TR.pair TR.int TR.int))) v0 x0] rfl ⟨rfl, ⟨rfl, trivial⟩⟩ hS ⟨k0, trivial⟩ ?_
 unfold ledger_find_m at hm
 refine GL.seq ?_
 refine GL.region ?_
 refine RL.box (t := TR.str) (e := x1) rfl rfl rfl rfl VR.str ?_
 intro v4
 refine RL.asg rfl rfl rfl ?_
 refine RL.finG ?_
 refine GL.seq ?_
 refine GL.region ?_
 refine RL.mv rfl rfl rfl ?_
 refine RL.mkF (vs := [v4]) rfl rfl rfl ?_
 obtain ⟨y7, e8, hm⟩ := bind_some hm
 refine RL.callV (v := .int .i64 y7) (vs := [v0, .func (.func 73) #[] #[v4]]) Try_fit55 rfl (Or.inl rfl) rfl rfl rfl rfl (fun U w hU hW hL => slices_IndexFunc_api_Account_api_Account_c U w hU _ _ (hL 0 _ _ rfl Seen.imm) 73 #[v4] Try_fit73 (fun a0 => ledger_find_1_m a0 x1) (fun U' w' hle hU' u0 a0 q0 rr hr => (ledger_find_1_c U' w' hU' u0 a0 q0 _ _ (TR.vrep_mono hle (hL 1 _ _ rfl Seen.obox)) rr hr).mono (fun _ _ z => z)) _ e8) ?_
 refine RL.asg rfl rfl rfl ?_
 refine RL.finG ?_
 have hm := Option.some.inj hm
 subst hm
 exact GL.ret (Gx.ret (v := .int .i64 y7) (res1 rfl rfl) (fun a w st => st.toPostV))

set_option maxHeartbeats 4000000 in
theorem slices_Clone_api_Account_api_Account_c (S : Hp) (w : World) (hS : S.sub w) (v0 : Value) (x0 : List ((List UInt8) × (Int × Int))) (k0 : (TR.sl (TR.pair TR.str (TR.pair TR.int TR.int))).vrep S v0 x0) (res : List ((List UInt8) × (Int × Int))) (hm : slices_Clone_api_Account_api_Account_m x0 = some res) : Calls Try.prog 57 #[v0] w (Post w S (fun (o : Value) => o) (fun (o : Value) => [own 38 (TR.pair TR.str (TR.pair TR.int TR.int)) o res])) := by
  refine calls_enter 8 Try.func57 Try.ntmps57 rfl S false [(0, v0)] [imm (TR.sl (TR.pair TR.str (TR.pair TR.int TR.int))) v0 x0] rfl ⟨rfl, trivial⟩ hS ⟨k0, trivial⟩ ?_
  unfold slices_Clone_api_Account_api_Account_m at hm
  obtain ⟨_, hc, hm⟩ := bind_some hm
  replace hc := chk_some hc
  have hm := Option.some.inj hm
  subst hm
  refine GL.seq (GL.region (RL.asg rfl rfl rfl (RL.finG (GL.seq (GL.seq (GL.region ?_))))))
  refine RL.mv rfl rfl rfl ?_
  refine RL.eqNil 0 Try.underlying34 rfl rfl rfl rfl rfl SlOf.imm (fun b hb => ?_)
  refine RL.finG (GL.cond rfl (fun h => ?_) (fun h => ?_))
  · have := hb h
    subst this
    refine GL.seq (GL.region (RL.asg rfl rfl rfl (RL.finG ?_)))
    refine GL.weak (fun a w st => st.nilOwn 38 (TR.pair TR.str (TR.pair TR.int TR.int))) ?_
    exact GL.ret (Gx.ret (v := Value.slice none 0 0) (res1 rfl rfl) (fun a w st => (st.pick [1] (by decide) rfl).toPost (Value.slice none 0 0)))
  · refine GL.skip (GL.seq (GL.region ?_))
    refine RL.bS (t := (TR.pair TR.str (TR.pair TR.int TR.int))) (vs := []) ([] : List ((List UInt8) × (Int × Int))) Try.underlying34 Try_lo38 rfl rfl rfl rfl trivial rfl (by decide) ?_
    intro v1
    refine RL.mv rfl rfl rfl ?_
    refine RL.app 1 0 Try.underlying34 Try_lo38 rfl rfl rfl rfl rfl rfl rfl SlOf.imm (by simpa using hc) ?_
    intro v2
    refine RL.asg rfl rfl rfl (RL.finG ?_)
    exact GL.ret (Gx.ret (v := v2) (res1 rfl rfl) (fun a w st => (st.pick [1] (by decide) rfl).toPost v2))

set_option maxHeartbeats 4000000 in
theorem ledger_Take_c (S : Hp) (w : World) (hS : S.sub w) (v0 : Value) (x0 : (List ((List UInt8) × (Int × Int)))) (k0 : ((TR.sl (TR.pair TR.str (TR.pair TR.int TR.int)))).vrep S v0 x0) (v1 : Value) (x1 : ((List UInt8) × ((List UInt8) × (Int × (Int × (Int × Int)))))) (k1 : ((TR.pair TR.str (TR.pair TR.str (TR.pair TR.int (TR.pair TR.int (TR.pair TR.int TR.int)))))).vrep S v1 x1) (x2 : (List UInt8)) (res : (List ((List UInt8) × (Int × Int))) × Int) (hm : ledger_Take_m x0 x1 x2 = some res) : Calls Try.prog 26 #[v0, v1, .string ⟨(x2 : List UInt8).toArray⟩] w (Post w S (fun (o : Value) => .tuple #[o, .int .i64 res.2]) (fun (o : Value) => [own 38 (TR.pair TR.str (TR.pair TR.int TR.int)) o res.1])) := by
 refine calls_enter 111 Try.func26 Try.ntmps26 rfl S false [(0, v0), (1, v1), (2, .string ⟨(x2 : List UInt8).toArray⟩)] [imm (TR.sl (TR.pair TR.str (TR.pair TR.int TR.int))) v0 x0, imm (TR.pair TR.str (TR.pair TR.str (TR.pair TR.int (TR.pair TR.int (TR.pair TR.int TR.int))))) v1 x1] rfl ⟨rfl, ⟨rfl, ⟨rfl, trivial⟩⟩⟩ hS ⟨k0, ⟨k1, trivial⟩⟩ ?_
 unfold ledger_Take_m at hm
 refine GL.seq ?_
 refine GL.region ?_
 refine RL.box (t := (TR.pair TR.str (TR.pair TR.str (TR.pair TR.int (TR.pair TR.int (TR.pair TR.int TR.int)))))) (e := x1) rfl rfl rfl rfl (VR.item 1 rfl) ?_
 intro v5
 refine RL.asg rfl rfl rfl ?_
 refine RL.asg rfl rfl rfl ?_
 refine RL.finG ?_
 refine GL.seq ?_
 refine GL.seq ?_
 refine GL.region ?_
 refine RL.mv rfl rfl rfl ?_
 obtain ⟨y8, e9, hm⟩ := bind_some hm
 refine RL.callV (v := .int .i64 y8) (vs := [v0]) Try_fit51 rfl (Or.inl rfl) rfl rfl rfl rfl (fun U w hU hW hL => ledger_Check_c U w hU _ _ (hL 0 _ _ rfl Seen.imm) _ e9) ?_
 refine RL.asg rfl rfl rfl ?_
 refine RL.finG ?_
 refine GL.seq ?_
 refine GL.region ?_
 refine RL.mv rfl rfl rfl ?_
 refine RL.binI (v := .bool (y8 != (0 : Int))) rfl rfl rfl rfl rfl ?_
 refine RL.finG ?_
 refine GL.cond rfl (fun b10 => ?_) (fun b10 => ?_)
 ·replace hm := ite_t b10 hm
  refine GL.seq ?_
  refine GL.region ?_
  refine RL.mv rfl rfl rfl ?_
  refine RL.asg rfl rfl rfl ?_
  refine RL.asg rfl rfl rfl ?_
  refine RL.finG ?_
  refine GL.weak (fun a w st => st.nilOwn 38 (TR.pair TR.str (TR.pair TR.int TR.int))) ?_
  have hm := Option.some.inj hm
  subst hm
  exact GL.ret (Gx.ret (v := .tuple #[Value.slice none 0 0, .int .i64 y8]) (res2 rfl rfl rfl) (fun a w st => (st.pick [3] (by decide) rfl).toPost (Value.slice none 0 0)))
 replace hm := ite_f b10 hm
 refine GL.skip ?_
 refine GL.seq ?_
 refine GL.seq ?_
 refine GL.region ?_
 refine RL.ldP (off := 0) (r := (TR.pair TR.str (TR.pair TR.str (TR.pair TR.int (TR.pair TR.int (TR.pair TR.int TR.int)))))) (e' := x1) 2 Try_ln25 rfl rfl (Or.inr ⟨rfl, rfl⟩) rfl PtOf.obox Part.self ?_
 intro v14
 refine RL.reL (L' := [imm (TR.sl (TR.pair TR.str (TR.pair TR.int TR.int))) v0 x0, imm (TR.pair TR.str (TR.pair TR.str (TR.pair TR.int (TR.pair TR.int (TR.pair TR.int TR.int))))) v1 x1, obox 25 (TR.pair TR.str (TR.pair TR.str (TR.pair TR.int (TR.pair TR.int (TR.pair TR.int TR.int))))) v5 x1, imm (TR.pair TR.str (TR.pair TR.str (TR.pair TR.int (TR.pair TR.int (TR.pair TR.int TR.int))))) v14 x1]) rfl ?_
 obtain ⟨y15, e16, hm⟩ := bind_some hm
 refine RL.callV (v := .int .i64 y15) (vs := [v14]) Try_fit46 rfl (Or.inl rfl) rfl rfl rfl rfl (fun U w hU hW hL => ledger_Right_c U w hU _ _ (hL 3 _ _ rfl Seen.imm) _ e16) ?_
 refine RL.asg rfl rfl rfl ?_
 refine RL.finG ?_
 refine GL.seq ?_
 refine GL.region ?_
 refine RL.mv rfl rfl rfl ?_
 refine RL.binI (v := .bool (y15 != (0 : Int))) rfl rfl rfl rfl rfl ?_
 refine RL.finG ?_
 refine GL.cond rfl (fun b17 => ?_) (fun b17 => ?_)
 ·replace hm := ite_t b17 hm
  refine GL.seq ?_
  refine GL.region ?_
  refine RL.mv rfl rfl rfl ?_
  refine RL.asg rfl rfl rfl ?_
  refine RL.asg rfl rfl rfl ?_
  refine RL.finG ?_
  refine GL.weak (fun a w st => st.nilOwn 38 (TR.pair TR.str (TR.pair TR.int TR.int))) ?_
  have hm := Option.some.inj hm
  subst hm
  exact GL.ret (Gx.ret (v := .tuple #[Value.slice none 0 0, .int .i64 y15]) (res2 rfl rfl rfl) (fun a w st => (st.pick [4] (by decide) rfl).toPost (Value.slice none 0 0)))
 replace hm := ite_f b17 hm
 refine GL.skip ?_
 refine GL.seq ?_
 refine GL.regionQ rfl rfl (by kernel_rfl) ?_
 refine RL.mv rfl rfl rfl ?_
 refine RL.fadr (off := 0) (fo := 0) 2 Try_fld25_0 rfl rfl rfl PtOf.obox (Or.inr ⟨rfl, rfl⟩) ?_
 refine RL.ldPx (off := (0 + 0)) (e' := x1.1) 2 Ex.str Try_ln9 rfl rfl (Or.inl rfl) rfl PtOf.obox (Part.fst Part.self) ?_
 obtain ⟨y24, e25, hm⟩ := bind_some hm
 refine RL.callV (v := .int .i64 y24) (vs := [v0, .string ⟨(x1.1 : List UInt8).toArray⟩]) Try_fit56 rfl (Or.inr ⟨_, rfl⟩) rfl rfl rfl rfl (fun U w hU hW hL => ledger_find_c U w hU _ _ (hL 0 _ _ rfl Seen.imm) x1.1 _ e25) ?_
 refine RL.mv rfl rfl rfl ?_
 refine RL.fadr (off := 0) (fo := 1) 2 Try_fld25_1 rfl rfl rfl PtOf.obox (Or.inr ⟨rfl, rfl⟩) ?_
 refine RL.ldPx (off := (0 + 1)) (e' := x1.2.1) 2 Ex.str Try_ln9 rfl rfl (Or.inl rfl) rfl PtOf.obox (Part.snd (Part.fst Part.self)) ?_
 obtain ⟨y26, e27, hm⟩ := bind_some hm
 refine RL.callV (v := .int .i64 y26) (vs := [v0, .string ⟨(x1.2.1 : List UInt8).toArray⟩]) Try_fit56 rfl (Or.inr ⟨_, rfl⟩) rfl rfl rfl rfl (fun U w hU hW hL => ledger_find_c U w hU _ _ (hL 0 _ _ rfl Seen.imm) x1.2.1 _ e27) ?_
 refine RL.mv rfl rfl rfl ?_
 refine RL.mv rfl rfl rfl ?_
 obtain ⟨y28, e29, hm⟩ := bind_some hm
 refine RL.callV (v := .int .i64 y28) (vs := [v0, .string ⟨(x2 : List UInt8).toArray⟩]) Try_fit56 rfl (Or.inr ⟨_, rfl⟩) rfl rfl rfl rfl (fun U w hU hW hL => ledger_find_c U w hU _ _ (hL 0 _ _ rfl Seen.imm) x2 _ e29) ?_
 refine RL.asg rfl rfl rfl ?_
 refine RL.asg rfl rfl rfl ?_
 refine RL.asg rfl rfl rfl ?_
 refine RL.finQG ?_
 refine GL.seq ?_
 refine GL.seq ?_
 obtain ⟨y35, K36, h37, h38, h39, h40, h41⟩ := bindR_K hm
 refine GL.join (ι := Bool) (fun (p : Bool) => [(0, v0), (4, v5), (10, .int .i64 y24), (11, .int .i64 y26), (12, .int .i64 y28), (44, .bool p)]) (fun (p : Bool) => [imm (TR.sl (TR.pair TR.str (TR.pair TR.int TR.int))) v0 x0, obox 25 (TR.pair TR.str (TR.pair TR.str (TR.pair TR.int (TR.pair TR.int (TR.pair TR.int TR.int))))) v5 x1]) (fun (p : Bool) => K36 (.nx p)) ?_ ?_
 ·skip
  refine GL.region ?_
  refine RL.mv rfl rfl rfl ?_
  refine RL.binI (v := .bool (decide (y24 < (0 : Int)))) rfl rfl rfl rfl rfl ?_
  refine RL.mv rfl rfl rfl ?_
  refine RL.split (t := 37) rfl (fun b42 => ?_) (fun b42 => ?_)
  ·replace h37 := ite_t b42 h37
   refine RL.skip rfl rfl ?_
   refine RL.skip rfl rfl ?_
   refine RL.pickT rfl rfl rfl rfl ?_
   refine RL.mv rfl rfl rfl ?_
   refine RL.skip rfl rfl ?_
   refine RL.skip rfl rfl ?_
   refine RL.pickT rfl rfl rfl rfl ?_
   refine RL.fin ?_
   cases h37
   exact fun a w st => mid_intro true h38 (St.cut [0, 2] ⟨rfl, rfl, rfl, rfl, rfl, rfl, trivial⟩ (by decide) rfl st)
  replace h37 := ite_f b42 h37
  refine RL.mv rfl rfl rfl ?_
  refine RL.binI (v := .bool (decide (y26 < (0 : Int)))) rfl rfl rfl rfl rfl ?_
  refine RL.pickF rfl rfl rfl rfl ?_
  refine RL.mv rfl rfl rfl ?_
  refine RL.split (t := 41) rfl (fun b43 => ?_) (fun b43 => ?_)
  ·replace h37 := ite_t b43 h37
   refine RL.skip rfl rfl ?_
   refine RL.skip rfl rfl ?_
   refine RL.pickT rfl rfl rfl rfl ?_
   refine RL.fin ?_
   cases h37
   exact fun a w st => mid_intro true h38 (St.cut [0, 2] ⟨rfl, rfl, rfl, rfl, rfl, rfl, trivial⟩ (by decide) rfl st)
  replace h37 := ite_f b43 h37
  refine RL.mv rfl rfl rfl ?_
  refine RL.binI (v := .bool (decide (y28 < (0 : Int)))) rfl rfl rfl rfl rfl ?_
  refine RL.pickF rfl rfl rfl rfl ?_
  refine RL.fin ?_
  cases h37
  exact fun a w st => mid_intro (decide (y28 < (0 : Int))) h38 (St.cut [0, 2] ⟨rfl, rfl, rfl, rfl, rfl, rfl, trivial⟩ (by decide) rfl st)
 rintro x34 h44
 have h45 := h39 _ h44
 try dsimp only at h45
 refine GL.weak (env' := [(0, v0), (4, v5), (10, .int .i64 y24), (11, .int .i64 y26), (12, .int .i64 y28), (44, .bool x34)]) (L' := [imm (TR.sl (TR.pair TR.str (TR.pair TR.int TR.int))) v0 x0, obox 25 (TR.pair TR.str (TR.pair TR.str (TR.pair TR.int (TR.pair TR.int (TR.pair TR.int TR.int))))) v5 x1]) (fun _ _ st => st) ?_
 refine GL.cond rfl (fun b46 => ?_) (fun b46 => ?_)
 ·replace h45 := ite_t b46 h45
  refine GL.seq ?_
  refine GL.region ?_
  refine RL.asg rfl rfl rfl ?_
  refine RL.asg rfl rfl rfl ?_
  refine RL.finG ?_
  refine GL.weak (fun a w st => st.nilOwn 38 (TR.pair TR.str (TR.pair TR.int TR.int))) ?_
  have h45 := Option.some.inj h45
  subst h45
  exact GL.ret (Gx.ret (v := .tuple #[Value.slice none 0 0, .int .i64 (4 : Int)]) (res2 rfl rfl rfl) (fun a w st => (st.pick [2] (by decide) rfl).toPost (Value.slice none 0 0)))
 replace h45 := ite_f b46 h45
 refine GL.skip ?_
 refine GL.seq ?_
 refine GL.seq ?_
 refine GL.regionQ rfl rfl (by kernel_rfl) ?_
 refine RL.fadr (off := 0) (fo := 2) 1 Try_fld25_2 rfl rfl rfl PtOf.obox (Or.inr ⟨rfl, rfl⟩) ?_
 refine RL.ldPx (off := (0 + 2)) (e' := x1.2.2.1) 1 Ex.ik Try_ln3 rfl rfl (Or.inl rfl) rfl PtOf.obox (Part.snd (Part.snd (Part.fst Part.self))) ?_
 refine RL.mv rfl rfl rfl ?_
 refine RL.mv rfl rfl rfl ?_
 obtain ⟨y49, e50, h45⟩ := bind_some h45
 refine RL.idxS (sz := 3) 0 Try.underlying34 Try_ln38 rfl rfl rfl rfl rfl SlOf.imm (idx_some e50).1 (idx_some e50).2.1 ?_
 refine RL.fadrS (off := ((y24).toNat * 3)) (fo := 2) 0 Try_fld38_2 rfl rfl rfl SlOf.imm (by have := (List.getElem?_eq_some_iff.1 (idx_some e50).2.2).1; omega) rfl ?_
 refine RL.ldSx (i := (y24).toNat) (e' := y49.2.2) 0 Ex.ik Try_ln3 rfl rfl rfl rfl SlOf.imm (idx_some e50).2.2 (Part.snd (Part.snd Part.self)) ?_
 refine RL.binI (v := .bool (x1.2.2.1 != y49.2.2)) rfl rfl rfl rfl rfl ?_
 refine RL.finQG ?_
 refine GL.cond rfl (fun b51 => ?_) (fun b51 => ?_)
 ·replace h45 := ite_t b51 h45
  refine GL.seq ?_
  refine GL.region ?_
  refine RL.asg rfl rfl rfl ?_
  refine RL.asg rfl rfl rfl ?_
  refine RL.finG ?_
  refine GL.weak (fun a w st => st.nilOwn 38 (TR.pair TR.str (TR.pair TR.int TR.int))) ?_
  have h45 := Option.some.inj h45
  subst h45
  exact GL.ret (Gx.ret (v := .tuple #[Value.slice none 0 0, .int .i64 (6 : Int)]) (res2 rfl rfl rfl) (fun a w st => (st.pick [2] (by decide) rfl).toPost (Value.slice none 0 0)))
 replace h45 := ite_f b51 h45
 refine GL.skip ?_
 refine GL.seq ?_
 refine GL.seq ?_
 refine GL.regionQ rfl rfl (by kernel_rfl) ?_
 refine RL.mv rfl rfl rfl ?_
 refine RL.mv rfl rfl rfl ?_
 obtain ⟨y54, e55, h45⟩ := bind_some h45
 refine RL.idxS (sz := 3) 0 Try.underlying34 Try_ln38 rfl rfl rfl rfl rfl SlOf.imm (idx_some e55).1 (idx_some e55).2.1 ?_
 refine RL.fadrS (off := ((y24).toNat * 3)) (fo := 1) 0 Try_fld38_1 rfl rfl rfl SlOf.imm (by have := (List.getElem?_eq_some_iff.1 (idx_some e55).2.2).1; omega) rfl ?_
 refine RL.ldSx (i := (y24).toNat) (e' := y54.2.1) 0 Ex.ik Try_ln3 rfl rfl rfl rfl SlOf.imm (idx_some e55).2.2 (Part.snd (Part.fst Part.self)) ?_
 refine RL.fadr (off := 0) (fo := 3) 1 Try_fld25_3 rfl rfl rfl PtOf.obox (Or.inr ⟨rfl, rfl⟩) ?_
 refine RL.ldPx (off := (0 + 3)) (e' := x1.2.2.2.1) 1 Ex.ik Try_ln3 rfl rfl (Or.inl rfl) rfl PtOf.obox (Part.snd (Part.snd (Part.snd (Part.fst Part.self)))) ?_
 refine RL.fadr (off := 0) (fo := 4) 1 Try_fld25_4 rfl rfl rfl PtOf.obox (Or.inr ⟨rfl, rfl⟩) ?_
 refine RL.ldPx (off := (0 + 4)) (e' := x1.2.2.2.2.1) 1 Ex.ik Try_ln3 rfl rfl (Or.inl rfl) rfl PtOf.obox (Part.snd (Part.snd (Part.snd (Part.snd (Part.fst Part.self))))) ?_
 refine RL.binI (v := .int .i64 (wadd x1.2.2.2.1 x1.2.2.2.2.1)) rfl rfl rfl rfl rfl ?_
 refine RL.binI (v := .bool (decide (y54.2.1 < (wadd x1.2.2.2.1 x1.2.2.2.2.1)))) rfl rfl rfl rfl rfl ?_
 refine RL.finQG ?_
 refine GL.cond rfl (fun b56 => ?_) (fun b56 => ?_)
 ·replace h45 := ite_t b56 h45
  refine GL.seq ?_
  refine GL.region ?_
  refine RL.asg rfl rfl rfl ?_
  refine RL.asg rfl rfl rfl ?_
  refine RL.finG ?_
  refine GL.weak (fun a w st => st.nilOwn 38 (TR.pair TR.str (TR.pair TR.int TR.int))) ?_
  have h45 := Option.some.inj h45
  subst h45
  exact GL.ret (Gx.ret (v := .tuple #[Value.slice none 0 0, .int .i64 (11 : Int)]) (res2 rfl rfl rfl) (fun a w st => (st.pick [2] (by decide) rfl).toPost (Value.slice none 0 0)))
 replace h45 := ite_f b56 h45
 refine GL.skip ?_
 refine GL.seq ?_
 refine GL.region ?_
 refine RL.mv rfl rfl rfl ?_
 obtain ⟨y60, e61, h45⟩ := bind_some h45
 refine RL.call (vs := [v0]) Try_fit57 rfl rfl rfl rfl rfl (fun S f w hS hW hi => slices_Clone_api_Account_api_Account_c S w hS _ _ (hi 0 _ rfl) _ e61) ?_
 intro v62
 refine RL.asg rfl rfl rfl ?_
 refine RL.finG ?_
 refine GL.seq ?_
 refine GL.regionH 13 rfl rfl (by kernel_rfl) ?_
 simp only [List.take_succ_cons, List.take_zero, List.drop_succ_cons, List.drop_zero]
 refine RL.mv rfl rfl rfl ?_
 refine RL.mv rfl rfl rfl ?_
 obtain ⟨y67, e68, h45⟩ := bind_some h45
 refine RL.idxS (sz := 3) 2 Try.underlying34 Try_ln38 rfl rfl rfl rfl rfl SlOf.own (idx_some e68).1 (idx_some e68).2.1 ?_
 refine RL.fadrS (off := ((y24).toNat * 3)) (fo := 1) 2 Try_fld38_1 rfl rfl rfl SlOf.own (by have := (List.getElem?_eq_some_iff.1 (idx_some e68).2.2).1; omega) rfl ?_
 refine RL.ldSx (i := (y24).toNat) (e' := y67.2.1) 2 Ex.ik Try_ln3 rfl rfl rfl rfl SlOf.own (idx_some e68).2.2 (Part.snd (Part.fst Part.self)) ?_
 refine RL.fadr (off := 0) (fo := 3) 1 Try_fld25_3 rfl rfl rfl PtOf.obox (Or.inr ⟨rfl, rfl⟩) ?_
 refine RL.ldPx (off := (0 + 3)) (e' := x1.2.2.2.1) 1 Ex.ik Try_ln3 rfl rfl (Or.inl rfl) rfl PtOf.obox (Part.snd (Part.snd (Part.snd (Part.fst Part.self)))) ?_
 refine RL.fadr (off := 0) (fo := 4) 1 Try_fld25_4 rfl rfl rfl PtOf.obox (Or.inr ⟨rfl, rfl⟩) ?_
 refine RL.ldPx (off := (0 + 4)) (e' := x1.2.2.2.2.1) 1 Ex.ik Try_ln3 rfl rfl (Or.inl rfl) rfl PtOf.obox (Part.snd (Part.snd (Part.snd (Part.snd (Part.fst Part.self))))) ?_
 refine RL.binI (v := .int .i64 (wadd x1.2.2.2.1 x1.2.2.2.2.1)) rfl rfl rfl rfl rfl ?_
 refine RL.binI (v := .int .i64 (wsub y67.2.1 (wadd x1.2.2.2.1 x1.2.2.2.2.1))) rfl rfl rfl rfl rfl ?_
 obtain ⟨y69, e70, h45⟩ := bind_some h45
 refine RL.idxS (sz := 3) 2 Try.underlying34 Try_ln38 rfl rfl rfl rfl rfl SlOf.own (idx_some e70).1 (idx_some e70).2.1 ?_
 refine RL.fadrS (off := ((y24).toNat * 3)) (fo := 1) 2 Try_fld38_1 rfl rfl rfl SlOf.own (by have := (List.getElem?_eq_some_iff.1 (idx_some e70).2.2).1; omega) rfl ?_
 refine RL.finH ?_
 refine RL.stS (i := (y24).toNat) (e' := wsub y67.2.1 (wadd x1.2.2.2.1 x1.2.2.2.2.1)) (e1 := (y69.1, (wsub y67.2.1 (wadd x1.2.2.2.1 x1.2.2.2.2.1), y69.2.2))) (r := TR.int) 2 Try_ln3 rfl rfl rfl rfl VR.int rfl (idx_some e70).2.2 (Upd.snd (Upd.fst Upd.self)) ?_
 refine RL.reL (L' := [imm (TR.sl (TR.pair TR.str (TR.pair TR.int TR.int))) v0 x0, obox 25 (TR.pair TR.str (TR.pair TR.str (TR.pair TR.int (TR.pair TR.int (TR.pair TR.int TR.int))))) v5 x1, own 38 (TR.pair TR.str (TR.pair TR.int TR.int)) v62 (List.set y60 ((y24).toNat) (y69.1, (wsub y67.2.1 (wadd x1.2.2.2.1 x1.2.2.2.2.1), y69.2.2)))]) rfl ?_
 refine RL.finG ?_
 refine GL.seq ?_
 refine GL.region ?_
 refine RL.mv rfl rfl rfl ?_
 refine RL.mv rfl rfl rfl ?_
 obtain ⟨y75, e76, h45⟩ := bind_some h45
 refine RL.idxS (sz := 3) 2 Try.underlying34 Try_ln38 rfl rfl rfl rfl rfl SlOf.own (idx_some e76).1 (idx_some e76).2.1 ?_
 refine RL.fadrS (off := ((y24).toNat * 3)) (fo := 2) 2 Try_fld38_2 rfl rfl rfl SlOf.own (by have := (List.getElem?_eq_some_iff.1 (idx_some e76).2.2).1; omega) rfl ?_
 refine RL.ldSx (i := (y24).toNat) (e' := y75.2.2) 2 Ex.ik Try_ln3 rfl rfl rfl rfl SlOf.own (idx_some e76).2.2 (Part.snd (Part.snd Part.self)) ?_
 refine RL.binI (v := .int .i64 (wadd y75.2.2 (1 : Int))) rfl rfl rfl rfl rfl ?_
 obtain ⟨y77, e78, h45⟩ := bind_some h45
 refine RL.idxS (sz := 3) 2 Try.underlying34 Try_ln38 rfl rfl rfl rfl rfl SlOf.own (idx_some e78).1 (idx_some e78).2.1 ?_
 refine RL.fadrS (off := ((y24).toNat * 3)) (fo := 2) 2 Try_fld38_2 rfl rfl rfl SlOf.own (by have := (List.getElem?_eq_some_iff.1 (idx_some e78).2.2).1; omega) rfl ?_
 refine RL.stS (i := (y24).toNat) (e' := wadd y75.2.2 (1 : Int)) (e1 := (y77.1, (y77.2.1, wadd y75.2.2 (1 : Int)))) (r := TR.int) 2 Try_ln3 rfl rfl rfl rfl VR.int rfl (idx_some e78).2.2 (Upd.snd (Upd.snd Upd.self)) ?_
 refine RL.finG ?_
 refine GL.seq ?_
 refine GL.regionH 10 rfl rfl (by kernel_rfl) ?_
 simp only [List.take_succ_cons, List.take_zero, List.drop_succ_cons, List.drop_zero]
 refine RL.mv rfl rfl rfl ?_
 refine RL.mv rfl rfl rfl ?_
 obtain ⟨y83, e84, h45⟩ := bind_some h45
 refine RL.idxS (sz := 3) 2 Try.underlying34 Try_ln38 rfl rfl rfl rfl rfl SlOf.own (idx_some e84).1 (idx_some e84).2.1 ?_
 refine RL.fadrS (off := ((y26).toNat * 3)) (fo := 1) 2 Try_fld38_1 rfl rfl rfl SlOf.own (by have := (List.getElem?_eq_some_iff.1 (idx_some e84).2.2).1; omega) rfl ?_
 refine RL.ldSx (i := (y26).toNat) (e' := y83.2.1) 2 Ex.ik Try_ln3 rfl rfl rfl rfl SlOf.own (idx_some e84).2.2 (Part.snd (Part.fst Part.self)) ?_
 refine RL.fadr (off := 0) (fo := 3) 1 Try_fld25_3 rfl rfl rfl PtOf.obox (Or.inr ⟨rfl, rfl⟩) ?_
 refine RL.ldPx (off := (0 + 3)) (e' := x1.2.2.2.1) 1 Ex.ik Try_ln3 rfl rfl (Or.inl rfl) rfl PtOf.obox (Part.snd (Part.snd (Part.snd (Part.fst Part.self)))) ?_
 refine RL.binI (v := .int .i64 (wadd y83.2.1 x1.2.2.2.1)) rfl rfl rfl rfl rfl ?_
 obtain ⟨y85, e86, h45⟩ := bind_some h45
 refine RL.idxS (sz := 3) 2 Try.underlying34 Try_ln38 rfl rfl rfl rfl rfl SlOf.own (idx_some e86).1 (idx_some e86).2.1 ?_
 refine RL.fadrS (off := ((y26).toNat * 3)) (fo := 1) 2 Try_fld38_1 rfl rfl rfl SlOf.own (by have := (List.getElem?_eq_some_iff.1 (idx_some e86).2.2).1; omega) rfl ?_
 refine RL.finH ?_
 refine RL.stS (i := (y26).toNat) (e' := wadd y83.2.1 x1.2.2.2.1) (e1 := (y85.1, (wadd y83.2.1 x1.2.2.2.1, y85.2.2))) (r := TR.int) 2 Try_ln3 rfl rfl rfl rfl VR.int rfl (idx_some e86).2.2 (Upd.snd (Upd.fst Upd.self)) ?_
 refine RL.reL (L' := [imm (TR.sl (TR.pair TR.str (TR.pair TR.int TR.int))) v0 x0, obox 25 (TR.pair TR.str (TR.pair TR.str (TR.pair TR.int (TR.pair TR.int (TR.pair TR.int TR.int))))) v5 x1, own 38 (TR.pair TR.str (TR.pair TR.int TR.int)) v62 (List.set (List.set (List.set y60 ((y24).toNat) (y69.1, (wsub y67.2.1 (wadd x1.2.2.2.1 x1.2.2.2.2.1), y69.2.2))) ((y24).toNat) (y77.1, (y77.2.1, wadd y75.2.2 (1 : Int)))) ((y26).toNat) (y85.1, (wadd y83.2.1 x1.2.2.2.1, y85.2.2)))]) rfl ?_
 refine RL.finG ?_
 refine GL.seq ?_
 refine GL.regionH 10 rfl rfl (by kernel_rfl) ?_
 simp only [List.take_succ_cons, List.take_zero, List.drop_succ_cons, List.drop_zero]
 refine RL.mv rfl rfl rfl ?_
 refine RL.mv rfl rfl rfl ?_
 obtain ⟨y91, e92, h45⟩ := bind_some h45
 refine RL.idxS (sz := 3) 2 Try.underlying34 Try_ln38 rfl rfl rfl rfl rfl SlOf.own (idx_some e92).1 (idx_some e92).2.1 ?_
 refine RL.fadrS (off := ((y28).toNat * 3)) (fo := 1) 2 Try_fld38_1 rfl rfl rfl SlOf.own (by have := (List.getElem?_eq_some_iff.1 (idx_some e92).2.2).1; omega) rfl ?_
 refine RL.ldSx (i := (y28).toNat) (e' := y91.2.1) 2 Ex.ik Try_ln3 rfl rfl rfl rfl SlOf.own (idx_some e92).2.2 (Part.snd (Part.fst Part.self)) ?_
 refine RL.fadr (off := 0) (fo := 4) 1 Try_fld25_4 rfl rfl rfl PtOf.obox (Or.inr ⟨rfl, rfl⟩) ?_
 refine RL.ldPx (off := (0 + 4)) (e' := x1.2.2.2.2.1) 1 Ex.ik Try_ln3 rfl rfl (Or.inl rfl) rfl PtOf.obox (Part.snd (Part.snd (Part.snd (Part.snd (Part.fst Part.self))))) ?_
 refine RL.binI (v := .int .i64 (wadd y91.2.1 x1.2.2.2.2.1)) rfl rfl rfl rfl rfl ?_
 obtain ⟨y93, e94, h45⟩ := bind_some h45
 refine RL.idxS (sz := 3) 2 Try.underlying34 Try_ln38 rfl rfl rfl rfl rfl SlOf.own (idx_some e94).1 (idx_some e94).2.1 ?_
 refine RL.fadrS (off := ((y28).toNat * 3)) (fo := 1) 2 Try_fld38_1 rfl rfl rfl SlOf.own (by have := (List.getElem?_eq_some_iff.1 (idx_some e94).2.2).1; omega) rfl ?_
 refine RL.finH ?_
 refine RL.stS (i := (y28).toNat) (e' := wadd y91.2.1 x1.2.2.2.2.1) (e1 := (y93.1, (wadd y91.2.1 x1.2.2.2.2.1, y93.2.2))) (r := TR.int) 2 Try_ln3 rfl rfl rfl rfl VR.int rfl (idx_some e94).2.2 (Upd.snd (Upd.fst Upd.self)) ?_
 refine RL.finG ?_
 refine GL.seq ?_
 refine GL.seq ?_
 refine GL.region ?_
 refine RL.mv rfl rfl rfl ?_
 obtain ⟨y97, e98, h45⟩ := bind_some h45
 refine RL.callV (v := .int .i64 y97) (vs := [v62]) Try_fit51 rfl (Or.inl rfl) rfl rfl rfl rfl (fun U w hU hW hL => ledger_Check_c U w hU _ _ (hL 2 _ _ rfl Seen.own) _ e98) ?_
 refine RL.binI (v := .bool (y97 != (0 : Int))) rfl rfl rfl rfl rfl ?_
 refine RL.finG ?_
 refine GL.cond rfl (fun b99 => ?_) (fun b99 => ?_)
 ·replace h45 := ite_t b99 h45
  refine GL.seq ?_
  refine GL.region ?_
  refine RL.asg rfl rfl rfl ?_
  refine RL.asg rfl rfl rfl ?_
  refine RL.finG ?_
  refine GL.weak (fun a w st => st.nilOwn 38 (TR.pair TR.str (TR.pair TR.int TR.int))) ?_
  have h45 := Option.some.inj h45
  subst h45
  exact GL.ret (Gx.ret (v := .tuple #[Value.slice none 0 0, .int .i64 (8 : Int)]) (res2 rfl rfl rfl) (fun a w st => (st.pick [3] (by decide) rfl).toPost (Value.slice none 0 0)))
 replace h45 := ite_f b99 h45
 refine GL.skip ?_
 refine GL.seq ?_
 refine GL.region ?_
 refine RL.mv rfl rfl rfl ?_
 refine RL.asg rfl rfl rfl ?_
 refine RL.asg rfl rfl rfl ?_
 refine RL.finG ?_
 have h45 := Option.some.inj h45
 subst h45
 exact GL.ret (Gx.ret (v := .tuple #[v62, .int .i64 (0 : Int)]) (res2 rfl rfl rfl) (fun a w st => (st.pick [2] (by decide) rfl).toPost v62))

set_option maxHeartbeats 4000000 in
theorem pick_Next_c (S : Hp) (w : World) (hS : S.sub w) (v0 : Value) (x0 : (List ((List UInt8) × ((List UInt8) × (Int × (Int × (Int × Int))))))) (k0 : ((TR.sl (TR.pair TR.str (TR.pair TR.str (TR.pair TR.int (TR.pair TR.int (TR.pair TR.int TR.int))))))).vrep S v0 x0) (v1 : Value) (x1 : (List ((List UInt8) × (Int × Int)))) (k1 : ((TR.sl (TR.pair TR.str (TR.pair TR.int TR.int)))).vrep S v1 x1) (x2 : (List UInt8)) (x3 : Int) (res : Int × Int) (hm : pick_Next_m x0 x1 x2 x3 = some res) : Calls Try.prog 25 #[v0, v1, .string ⟨(x2 : List UInt8).toArray⟩, .int .i64 x3] w (PostV w (.tuple #[.int .i64 res.1, .int .i64 res.2])) := by
 refine calls_enter 79 Try.func25 Try.ntmps25 rfl S false [(0, v0), (1, v1), (2, .string ⟨(x2 : List UInt8).toArray⟩), (3, .int .i64 x3)] [imm (TR.sl (TR.pair TR.str (TR.pair TR.str (TR.pair TR.int (TR.pair TR.int (TR.pair TR.int TR.int)))))) v0 x0, imm (TR.sl (TR.pair TR.str (TR.pair TR.int TR.int))) v1 x1] rfl ⟨rfl, ⟨rfl, ⟨rfl, ⟨rfl, trivial⟩⟩⟩⟩ hS ⟨k0, ⟨k1, trivial⟩⟩ ?_
 unfold pick_Next_m at hm
 refine GL.seq ?_
 refine GL.region ?_
 refine RL.asg rfl rfl rfl ?_
 refine RL.asg rfl rfl rfl ?_
 refine RL.finG ?_
 refine GL.seq ?_
 refine GL.seq ?_
 refine GL.region ?_
 refine RL.mv rfl rfl rfl ?_
 obtain ⟨y7, e8, hm⟩ := bind_some hm
 refine RL.callV (v := .int .i64 y7) (vs := [v0]) Try_fit16 rfl (Or.inl rfl) rfl rfl rfl rfl (fun U w hU hW hL => queue_Check_c U w hU _ _ (hL 0 _ _ rfl Seen.imm) _ e8) ?_
 refine RL.asg rfl rfl rfl ?_
 refine RL.finG ?_
 refine GL.seq ?_
 refine GL.region ?_
 refine RL.mv rfl rfl rfl ?_
 refine RL.binI (v := .bool (y7 != (0 : Int))) rfl rfl rfl rfl rfl ?_
 refine RL.finG ?_
 refine GL.cond rfl (fun b9 => ?_) (fun b9 => ?_)
 ·replace hm := ite_t b9 hm
  refine GL.seq ?_
  refine GL.region ?_
  refine RL.mv rfl rfl rfl ?_
  refine RL.asg rfl rfl rfl ?_
  refine RL.asg rfl rfl rfl ?_
  refine RL.finG ?_
  have hm := Option.some.inj hm
  subst hm
  exact GL.ret (Gx.ret (v := .tuple #[.int .i64 (0 : Int), .int .i64 y7]) (res2 rfl rfl rfl) (fun a w st => st.toPostV))
 replace hm := ite_f b9 hm
 refine GL.skip ?_
 refine GL.seq ?_
 refine GL.seq ?_
 refine GL.region ?_
 refine RL.mv rfl rfl rfl ?_
 obtain ⟨y12, e13, hm⟩ := bind_some hm
 refine RL.callV (v := .int .i64 y12) (vs := [v1]) Try_fit51 rfl (Or.inl rfl) rfl rfl rfl rfl (fun U w hU hW hL => ledger_Check_c U w hU _ _ (hL 1 _ _ rfl Seen.imm) _ e13) ?_
 refine RL.asg rfl rfl rfl ?_
 refine RL.finG ?_
 refine GL.seq ?_
 refine GL.region ?_
 refine RL.mv rfl rfl rfl ?_
 refine RL.binI (v := .bool (y12 != (0 : Int))) rfl rfl rfl rfl rfl ?_
 refine RL.finG ?_
 refine GL.cond rfl (fun b14 => ?_) (fun b14 => ?_)
 ·replace hm := ite_t b14 hm
  refine GL.seq ?_
  refine GL.region ?_
  refine RL.mv rfl rfl rfl ?_
  refine RL.asg rfl rfl rfl ?_
  refine RL.asg rfl rfl rfl ?_
  refine RL.finG ?_
  have hm := Option.some.inj hm
  subst hm
  exact GL.ret (Gx.ret (v := .tuple #[.int .i64 (0 : Int), .int .i64 y12]) (res2 rfl rfl rfl) (fun a w st => st.toPostV))
 replace hm := ite_f b14 hm
 refine GL.skip ?_
 refine GL.seq ?_
 refine GL.seq ?_
 obtain ⟨y18, K19, h20, h21, h22, h23, h24⟩ := bindR_K hm
 refine GL.join (ι := Bool) (fun (p : Bool) => [(0, v0), (1, v1), (2, .string ⟨(x2 : List UInt8).toArray⟩), (3, .int .i64 x3), (32, .bool p)]) (fun (p : Bool) => [imm (TR.sl (TR.pair TR.str (TR.pair TR.str (TR.pair TR.int (TR.pair TR.int (TR.pair TR.int TR.int)))))) v0 x0, imm (TR.sl (TR.pair TR.str (TR.pair TR.int TR.int))) v1 x1]) (fun (p : Bool) => K19 (.nx p)) ?_ ?_
 ·skip
  refine GL.region ?_
  refine RL.mv rfl rfl rfl ?_
  refine RL.binI (v := .bool (decide (x3 < (0 : Int)))) rfl rfl rfl rfl rfl ?_
  refine RL.mv rfl rfl rfl ?_
  refine RL.split (t := 29) rfl (fun b25 => ?_) (fun b25 => ?_)
  ·replace h20 := ite_t b25 h20
   refine RL.skip rfl rfl ?_
   refine RL.skip rfl rfl ?_
   refine RL.pickT rfl rfl rfl rfl ?_
   refine RL.fin ?_
   cases h20
   exact fun a w st => mid_intro true h21 (St.cut [0, 1] ⟨rfl, rfl, rfl, rfl, rfl, trivial⟩ (by decide) rfl st)
  replace h20 := ite_f b25 h20
  refine RL.mv rfl rfl rfl ?_
  refine RL.binI (v := .bool (decide (x3 > (1000 : Int)))) rfl rfl rfl rfl rfl ?_
  refine RL.pickF rfl rfl rfl rfl ?_
  refine RL.fin ?_
  cases h20
  exact fun a w st => mid_intro (decide (x3 > (1000 : Int))) h21 (St.cut [0, 1] ⟨rfl, rfl, rfl, rfl, rfl, trivial⟩ (by decide) rfl st)
 rintro x17 h26
 have h27 := h22 _ h26
 try dsimp only at h27
 refine GL.weak (env' := [(0, v0), (1, v1), (2, .string ⟨(x2 : List UInt8).toArray⟩), (3, .int .i64 x3), (32, .bool x17)]) (L' := [imm (TR.sl (TR.pair TR.str (TR.pair TR.str (TR.pair TR.int (TR.pair TR.int (TR.pair TR.int TR.int)))))) v0 x0, imm (TR.sl (TR.pair TR.str (TR.pair TR.int TR.int))) v1 x1]) (fun _ _ st => st) ?_
 refine GL.cond rfl (fun b28 => ?_) (fun b28 => ?_)
 ·replace h27 := ite_t b28 h27
  refine GL.seq ?_
  refine GL.region ?_
  refine RL.asg rfl rfl rfl ?_
  refine RL.asg rfl rfl rfl ?_
  refine RL.finG ?_
  have h27 := Option.some.inj h27
  subst h27
  exact GL.ret (Gx.ret (v := .tuple #[.int .i64 (0 : Int), .int .i64 (1 : Int)]) (res2 rfl rfl rfl) (fun a w st => st.toPostV))
 replace h27 := ite_f b28 h27
 refine GL.skip ?_
 refine GL.seq ?_
 refine GL.region ?_
 refine RL.asg rfl rfl rfl ?_
 refine RL.finG ?_
 refine GL.seq ?_
 refine GL.seq ?_
 refine GL.region ?_
 refine RL.mv rfl rfl rfl ?_
 refine RL.lenS 0 Try.underlying22 rfl rfl rfl rfl SlOf.imm ?_
 refine RL.mv rfl rfl rfl ?_
 refine RL.finG ?_
 refine GL.open_ 0 rfl (fun S h => len_imm S h) (fun n74 => ?_)
 obtain ⟨y75, K76, h77, h78, h79, h80, h81⟩ := bindR_K h27
 refine GL.join (ι := Int) (fun (p : Int) => [(12, .int .i64 p)]) (fun (p : Int) => []) (fun (p : Int) => K76 (.nx p)) ?_ ?_
 ·refine GL.block ?_
  refine GL.loop (ι := Nat × (List ((List UInt8) × ((List UInt8) × (Int × (Int × (Int × Int)))))) × Int) (fun (p : Nat × (List ((List UInt8) × ((List UInt8) × (Int × (Int × (Int × Int)))))) × Int) => [(0, v0), (1, v1), (2, .string ⟨(x2 : List UInt8).toArray⟩), (3, .int .i64 x3), (12, .int .i64 p.2.2), (33, v0), (34, .int .i64 ((x0).length : Int)), (35, .int .i64 (p.1 : Int))]) (fun (p : Nat × (List ((List UInt8) × ((List UInt8) × (Int × (Int × (Int × Int)))))) × Int) => [imm (TR.sl (TR.pair TR.str (TR.pair TR.str (TR.pair TR.int (TR.pair TR.int (TR.pair TR.int TR.int)))))) v0 x0, imm (TR.sl (TR.pair TR.str (TR.pair TR.int TR.int))) v1 x1]) (fun (p : Nat × (List ((List UInt8) × ((List UInt8) × (Int × (Int × (Int × Int)))))) × Int) => p.1 + p.2.1.length = (x0).length ∧ List.drop p.1 x0 = p.2.1 ∧ rangeL (pick_Next_b1 x3 x1 x2 x0) p.2.1 p.1 p.2.2 = some y75) (fun (p : Nat × (List ((List UInt8) × ((List UInt8) × (Int × (Int × (Int × Int)))))) × Int) => p.2.1.length) (0, x0, (-1 : Int)) ⟨by simp, by simp, h77⟩ (fun a w st => St.cut [0, 1] ⟨rfl, rfl, rfl, rfl, rfl, rfl, rfl, rfl, trivial⟩ (by decide) rfl st) ?_
  rintro ⟨i82, r83, x29⟩ ⟨h88, h89, h87⟩
  try dsimp only at h88 h89 h87
  refine GL.weak (env' := [(0, v0), (1, v1), (2, .string ⟨(x2 : List UInt8).toArray⟩), (3, .int .i64 x3), (12, .int .i64 x29), (33, v0), (34, .int .i64 ((x0).length : Int)), (35, .int .i64 (i82 : Int))]) (L' := [imm (TR.sl (TR.pair TR.str (TR.pair TR.str (TR.pair TR.int (TR.pair TR.int (TR.pair TR.int TR.int)))))) v0 x0, imm (TR.sl (TR.pair TR.str (TR.pair TR.int TR.int))) v1 x1]) (fun _ _ st => st) ?_
  refine GL.seq ?_
  refine GL.region ?_
  refine RL.binI (v := .bool (decide ((i82 : Int) < ((x0).length : Int)))) rfl rfl rfl rfl rfl ?_
  refine RL.finG ?_
  refine GL.seq ?_
  refine GL.cond rfl (fun b90 => ?_) (fun b90 => ?_)
  ·have h91 : i82 < (x0).length := by have := of_decide_eq_true b90; omega
   obtain ⟨y92, r94, hr, e93, h95⟩ := drop_cons h89 rfl h91
   subst hr
   obtain ⟨z84, h85, h86⟩ := rangeL_some h87
   unfold pick_Next_b1 at h85
   try dsimp only at h85
   refine GL.skip ?_
   refine GL.seq ?_
   refine GL.block ?_
   refine GL.seq ?_
   refine GL.region ?_
   refine RL.mv rfl rfl rfl ?_
   refine RL.idxS (sz := 6) 0 Try.underlying22 Try_ln25 rfl rfl rfl rfl rfl SlOf.imm (by omega) (by omega) ?_
   refine RL.ldS (i := i82) (r := (TR.pair TR.str (TR.pair TR.str (TR.pair TR.int (TR.pair TR.int (TR.pair TR.int TR.int)))))) (e' := y92) 0 Try_ln25 rfl rfl rfl rfl SlOf.imm e93 Part.self ?_
   intro v98
   refine RL.alloc (t := (TR.pair TR.str (TR.pair TR.str (TR.pair TR.int (TR.pair TR.int (TR.pair TR.int TR.int)))))) (z := (([] : List UInt8), ([] : List UInt8), (0 : Int), (0 : Int), (0 : Int), (0 : Int))) Try_lo25 (fun S => ⟨[.string ⟨#[]⟩], _, rfl, rfl, ⟨[.string ⟨#[]⟩], _, rfl, rfl, ⟨[.int .i64 0], _, rfl, rfl, ⟨[.int .i64 0], _, rfl, rfl, ⟨[.int .i64 0], _, rfl, rfl, rfl⟩⟩⟩⟩⟩) rfl rfl rfl ?_
   intro v99
   refine RL.reL (L' := [imm (TR.sl (TR.pair TR.str (TR.pair TR.str (TR.pair TR.int (TR.pair TR.int (TR.pair TR.int TR.int)))))) v0 x0, imm (TR.sl (TR.pair TR.str (TR.pair TR.int TR.int))) v1 x1, imm (TR.pair TR.str (TR.pair TR.str (TR.pair TR.int (TR.pair TR.int (TR.pair TR.int TR.int))))) v98 y92, obox 25 (TR.pair TR.str (TR.pair TR.str (TR.pair TR.int (TR.pair TR.int (TR.pair TR.int TR.int))))) v99 (([] : List UInt8), ([] : List UInt8), (0 : Int), (0 : Int), (0 : Int), (0 : Int))]) rfl ?_
   refine RL.asg rfl rfl rfl ?_
   refine RL.stP (off := 0) (e' := y92) (d1 := y92) (r := (TR.pair TR.str (TR.pair TR.str (TR.pair TR.int (TR.pair TR.int (TR.pair TR.int TR.int)))))) 3 Try_ln25 rfl rfl (Or.inr ⟨rfl, rfl⟩) rfl (VR.item 2 rfl) rfl Upd.self ?_
   refine RL.finG ?_
   refine GL.seq ?_
   refine GL.seq ?_
   refine GL.region ?_
   refine RL.fadr (off := 0) (fo := 5) 3 Try_fld25_5 rfl rfl rfl PtOf.obox (Or.inr ⟨rfl, rfl⟩) ?_
   refine RL.ldPx (off := (0 + 5)) (e' := y92.2.2.2.2.2) 3 Ex.ik Try_ln3 rfl rfl (Or.inl rfl) rfl PtOf.obox (Part.snd (Part.snd (Part.snd (Part.snd (Part.snd Part.self))))) ?_
   refine RL.mv rfl rfl rfl ?_
   refine RL.binI (v := .bool (decide (y92.2.2.2.2.2 > x3))) rfl rfl rfl rfl rfl ?_
   refine RL.finG ?_
   refine GL.cond rfl (fun b100 => ?_) (fun b100 => ?_)
   ·replace h85 := ite_t b100 h85
    refine GL.exit ?_
    refine Gx.here ?_
    refine GL.region ?_
    refine RL.binI (v := .int .i64 ((i82 + 1 : Nat) : Int)) rfl rfl rfl rfl (binI_succ i82 (by omega)) ?_
    refine RL.mv rfl rfl rfl ?_
    refine RL.fin ?_
    cases h85
    exact fun a w st => lop_intro (i82 + 1, r94, x29) ⟨by show i82 + 1 + r94.length = (x0).length; simp only [List.length_cons] at h88; omega, h95, h86⟩ (by simp) (St.cut [0, 1] ⟨rfl, rfl, rfl, rfl, rfl, rfl, rfl, rfl, trivial⟩ (by decide) rfl st)
   replace h85 := ite_f b100 h85
   refine GL.skip ?_
   refine GL.seq ?_
   refine GL.seq ?_
   refine GL.region ?_
   refine RL.mv rfl rfl rfl ?_
   refine RL.ldP (off := 0) (r := (TR.pair TR.str (TR.pair TR.str (TR.pair TR.int (TR.pair TR.int (TR.pair TR.int TR.int)))))) (e' := y92) 3 Try_ln25 rfl rfl (Or.inr ⟨rfl, rfl⟩) rfl PtOf.obox Part.self ?_
   intro v105
   refine RL.reL (L' := [imm (TR.sl (TR.pair TR.str (TR.pair TR.str (TR.pair TR.int (TR.pair TR.int (TR.pair TR.int TR.int)))))) v0 x0, imm (TR.sl (TR.pair TR.str (TR.pair TR.int TR.int))) v1 x1, imm (TR.pair TR.str (TR.pair TR.str (TR.pair TR.int (TR.pair TR.int (TR.pair TR.int TR.int))))) v98 y92, obox 25 (TR.pair TR.str (TR.pair TR.str (TR.pair TR.int (TR.pair TR.int (TR.pair TR.int TR.int))))) v99 y92, imm (TR.pair TR.str (TR.pair TR.str (TR.pair TR.int (TR.pair TR.int (TR.pair TR.int TR.int))))) v105 y92]) rfl ?_
   refine RL.mv rfl rfl rfl ?_
   obtain ⟨y106, e107, h85⟩ := bind_some h85
   refine RL.call (vs := [v1, v105, .string ⟨(x2 : List UInt8).toArray⟩]) Try_fit26 rfl rfl rfl rfl rfl (fun S f w hS hW hi => ledger_Take_c S w hS _ _ (hi 1 _ rfl) _ _ (hi 4 _ rfl) x2 _ e107) ?_
   intro v108
   refine RL.mv rfl rfl rfl ?_
   refine RL.ext rfl rfl rfl rfl ?_
   refine RL.ext rfl rfl rfl rfl ?_
   refine RL.asg rfl rfl rfl ?_
   refine RL.asg rfl rfl rfl ?_
   refine RL.finG ?_
   refine GL.seq ?_
   refine GL.region ?_
   refine RL.mv rfl rfl rfl ?_
   refine RL.binI (v := .bool (y106.2 != (0 : Int))) rfl rfl rfl rfl rfl ?_
   refine RL.finG ?_
   refine GL.cond rfl (fun b109 => ?_) (fun b109 => ?_)
   ·replace h85 := ite_t b109 h85
    refine GL.exit ?_
    refine Gx.here ?_
    refine GL.region ?_
    refine RL.binI (v := .int .i64 ((i82 + 1 : Nat) : Int)) rfl rfl rfl rfl (binI_succ i82 (by omega)) ?_
    refine RL.mv rfl rfl rfl ?_
    refine RL.fin ?_
    cases h85
    exact fun a w st => lop_intro (i82 + 1, r94, x29) ⟨by show i82 + 1 + r94.length = (x0).length; simp only [List.length_cons] at h88; omega, h95, h86⟩ (by simp) (St.cut [0, 1] ⟨rfl, rfl, rfl, rfl, rfl, rfl, rfl, rfl, trivial⟩ (by decide) rfl st)
   replace h85 := ite_f b109 h85
   refine GL.skip ?_
   refine GL.seq ?_
   obtain ⟨y121, K122, h123, h124, h125, h126, h127⟩ := bindF_K h85
   refine GL.join (ι := Bool) (fun (p : Bool) => [(0, v0), (1, v1), (2, .string ⟨(x2 : List UInt8).toArray⟩), (3, .int .i64 x3), (12, .int .i64 x29), (13, .int .i64 (i82 : Int)), (33, v0), (34, .int .i64 ((x0).length : Int)), (35, .int .i64 (i82 : Int)), (73, .bool p)]) (fun (p : Bool) => [imm (TR.sl (TR.pair TR.str (TR.pair TR.str (TR.pair TR.int (TR.pair TR.int (TR.pair TR.int TR.int)))))) v0 x0, imm (TR.sl (TR.pair TR.str (TR.pair TR.int TR.int))) v1 x1]) (fun (p : Bool) => K122 (.nx p)) ?_ ?_
   ·skip
    refine GL.regionQ rfl rfl (by kernel_rfl) ?_
    refine RL.mv rfl rfl rfl ?_
    refine RL.binI (v := .bool (decide (x29 < (0 : Int)))) rfl rfl rfl rfl rfl ?_
    refine RL.mv rfl rfl rfl ?_
    refine RL.split (t := 55) rfl (fun b128 => ?_) (fun b128 => ?_)
    ·replace h123 := ite_t b128 h123
     refine RL.skip rfl rfl ?_
     refine RL.skip rfl rfl ?_
     refine RL.skip rfl rfl ?_
     refine RL.skip rfl rfl ?_
     refine RL.skip rfl rfl ?_
     refine RL.skip rfl rfl ?_
     refine RL.skip rfl rfl ?_
     refine RL.skip rfl rfl ?_
     refine RL.skip rfl rfl ?_
     refine RL.skip rfl rfl ?_
     refine RL.skip rfl rfl ?_
     refine RL.skip rfl rfl ?_
     refine RL.skip rfl rfl ?_
     refine RL.skip rfl rfl ?_
     refine RL.skip rfl rfl ?_
     refine RL.skip rfl rfl ?_
     refine RL.skip rfl rfl ?_
     refine RL.pickT rfl rfl rfl rfl ?_
     refine RL.finQ ?_
     cases h123
     exact fun a w st => mid_intro true h124 (St.cut [0, 1] ⟨rfl, rfl, rfl, rfl, rfl, rfl, rfl, rfl, rfl, rfl, trivial⟩ (by decide) rfl st)
    replace h123 := ite_f b128 h123
    refine RL.fadr (off := 0) (fo := 4) 3 Try_fld25_4 rfl rfl rfl PtOf.obox (Or.inr ⟨rfl, rfl⟩) ?_
    refine RL.ldPx (off := (0 + 4)) (e' := y92.2.2.2.2.1) 3 Ex.ik Try_ln3 rfl rfl (Or.inl rfl) rfl PtOf.obox (Part.snd (Part.snd (Part.snd (Part.snd (Part.fst Part.self))))) ?_
    refine RL.mv rfl rfl rfl ?_
    refine RL.mv rfl rfl rfl ?_
    obtain ⟨y129, e130, h123⟩ := bind_some h123
    refine RL.idxS (sz := 6) 0 Try.underlying22 Try_ln25 rfl rfl rfl rfl rfl SlOf.imm (idx_some e130).1 (idx_some e130).2.1 ?_
    refine RL.fadrS (off := ((x29).toNat * 6)) (fo := 5) 0 Try_fld25_5 rfl rfl rfl SlOf.imm (by have := (List.getElem?_eq_some_iff.1 (idx_some e130).2.2).1; omega) rfl ?_
    refine RL.ldSx (i := (x29).toNat) (e' := y129.2.2.2.2.2) 0 Ex.ik Try_ln3 rfl rfl rfl rfl SlOf.imm (idx_some e130).2.2 (Part.snd (Part.snd (Part.snd (Part.snd (Part.snd Part.self))))) ?_
    refine RL.binI (v := .int .i64 (wmul y92.2.2.2.2.1 y129.2.2.2.2.2)) rfl rfl rfl rfl rfl ?_
    refine RL.mv rfl rfl rfl ?_
    refine RL.mv rfl rfl rfl ?_
    obtain ⟨y131, e132, h123⟩ := bind_some h123
    refine RL.idxS (sz := 6) 0 Try.underlying22 Try_ln25 rfl rfl rfl rfl rfl SlOf.imm (idx_some e132).1 (idx_some e132).2.1 ?_
    refine RL.fadrS (off := ((x29).toNat * 6)) (fo := 4) 0 Try_fld25_4 rfl rfl rfl SlOf.imm (by have := (List.getElem?_eq_some_iff.1 (idx_some e132).2.2).1; omega) rfl ?_
    refine RL.ldSx (i := (x29).toNat) (e' := y131.2.2.2.2.1) 0 Ex.ik Try_ln3 rfl rfl rfl rfl SlOf.imm (idx_some e132).2.2 (Part.snd (Part.snd (Part.snd (Part.snd (Part.fst Part.self))))) ?_
    refine RL.fadr (off := 0) (fo := 5) 3 Try_fld25_5 rfl rfl rfl PtOf.obox (Or.inr ⟨rfl, rfl⟩) ?_
    refine RL.ldPx (off := (0 + 5)) (e' := y92.2.2.2.2.2) 3 Ex.ik Try_ln3 rfl rfl (Or.inl rfl) rfl PtOf.obox (Part.snd (Part.snd (Part.snd (Part.snd (Part.snd Part.self))))) ?_
    refine RL.binI (v := .int .i64 (wmul y131.2.2.2.2.1 y92.2.2.2.2.2)) rfl rfl rfl rfl rfl ?_
    refine RL.binI (v := .bool (decide ((wmul y92.2.2.2.2.1 y129.2.2.2.2.2) > (wmul y131.2.2.2.2.1 y92.2.2.2.2.2)))) rfl rfl rfl rfl rfl ?_
    refine RL.pickF rfl rfl rfl rfl ?_
    refine RL.finQ ?_
    cases h123
    exact fun a w st => mid_intro (decide ((wmul y92.2.2.2.2.1 y129.2.2.2.2.2) > (wmul y131.2.2.2.2.1 y92.2.2.2.2.2))) h124 (St.cut [0, 1] ⟨rfl, rfl, rfl, rfl, rfl, rfl, rfl, rfl, rfl, rfl, trivial⟩ (by decide) rfl st)
   rintro x120 h133
   have h134 := h125 _ h133
   try dsimp only at h134
   refine GL.weak (env' := [(0, v0), (1, v1), (2, .string ⟨(x2 : List UInt8).toArray⟩), (3, .int .i64 x3), (12, .int .i64 x29), (13, .int .i64 (i82 : Int)), (33, v0), (34, .int .i64 ((x0).length : Int)), (35, .int .i64 (i82 : Int)), (73, .bool x120)]) (L' := [imm (TR.sl (TR.pair TR.str (TR.pair TR.str (TR.pair TR.int (TR.pair TR.int (TR.pair TR.int TR.int)))))) v0 x0, imm (TR.sl (TR.pair TR.str (TR.pair TR.int TR.int))) v1 x1]) (fun _ _ st => st) ?_
   refine GL.cond rfl (fun b135 => ?_) (fun b135 => ?_)
   ·replace h134 := ite_t b135 h134
    refine GL.region ?_
    refine RL.mv rfl rfl rfl ?_
    refine RL.asg rfl rfl rfl ?_
    refine RL.finG ?_
    refine GL.nilB ?_
    refine GL.region ?_
    refine RL.binI (v := .int .i64 ((i82 + 1 : Nat) : Int)) rfl rfl rfl rfl (binI_succ i82 (by omega)) ?_
    refine RL.mv rfl rfl rfl ?_
    refine RL.fin ?_
    cases h134
    exact fun a w st => lop_intro (i82 + 1, r94, (i82 : Int)) ⟨by show i82 + 1 + r94.length = (x0).length; simp only [List.length_cons] at h88; omega, h95, h86⟩ (by simp) (St.cut [0, 1] ⟨rfl, rfl, rfl, rfl, rfl, rfl, rfl, rfl, trivial⟩ (by decide) rfl st)
   replace h134 := ite_f b135 h134
   refine GL.skip ?_
   refine GL.nilB ?_
   refine GL.region ?_
   refine RL.binI (v := .int .i64 ((i82 + 1 : Nat) : Int)) rfl rfl rfl rfl (binI_succ i82 (by omega)) ?_
   refine RL.mv rfl rfl rfl ?_
   refine RL.fin ?_
   cases h134
   exact fun a w st => lop_intro (i82 + 1, r94, x29) ⟨by show i82 + 1 + r94.length = (x0).length; simp only [List.length_cons] at h88; omega, h95, h86⟩ (by simp) (St.cut [0, 1] ⟨rfl, rfl, rfl, rfl, rfl, rfl, rfl, rfl, trivial⟩ (by decide) rfl st)
  have h91 : ¬ i82 < (x0).length := by have := of_decide_eq_false b90; omega
  obtain rfl : r83 = [] := by rw [← h89]; exact List.drop_of_length_le (by omega)
  replace h87 : some (Fl.nx _) = some y75 := h87
  cases h87
  exact GL.exit (fun a w st => mid_intro x29 h78 (St.cut [] ⟨rfl, trivial⟩ (by decide) rfl st))
 rintro x29 h136
 have h137 := h79 _ h136
 try dsimp only at h137
 refine GL.weak (env' := [(12, .int .i64 x29)]) (L' := []) (fun _ _ st => st) ?_
 refine GL.seq ?_
 refine GL.seq ?_
 refine GL.region ?_
 refine RL.mv rfl rfl rfl ?_
 refine RL.binI (v := .bool (decide (x29 < (0 : Int)))) rfl rfl rfl rfl rfl ?_
 refine RL.finG ?_
 refine GL.cond rfl (fun b138 => ?_) (fun b138 => ?_)
 ·replace h137 := ite_t b138 h137
  refine GL.seq ?_
  refine GL.region ?_
  refine RL.asg rfl rfl rfl ?_
  refine RL.asg rfl rfl rfl ?_
  refine RL.finG ?_
  have h137 := Option.some.inj h137
  subst h137
  exact GL.ret (Gx.ret (v := .tuple #[.int .i64 (0 : Int), .int .i64 (4 : Int)]) (res2 rfl rfl rfl) (fun a w st => st.toPostV))
 replace h137 := ite_f b138 h137
 refine GL.skip ?_
 refine GL.seq ?_
 refine GL.region ?_
 refine RL.mv rfl rfl rfl ?_
 refine RL.asg rfl rfl rfl ?_
 refine RL.asg rfl rfl rfl ?_
 refine RL.finG ?_
 have h137 := Option.some.inj h137
 subst h137
 exact GL.ret (Gx.ret (v := .tuple #[.int .i64 x29, .int .i64 (0 : Int)]) (res2 rfl rfl rfl) (fun a w st => st.toPostV))

set_option maxHeartbeats 4000000 in
theorem pick_Build_c (S : Hp) (w : World) (hS : S.sub w) (v0 : Value) (x0 : (List ((List UInt8) × ((List UInt8) × (Int × (Int × (Int × Int))))))) (k0 : ((TR.sl (TR.pair TR.str (TR.pair TR.str (TR.pair TR.int (TR.pair TR.int (TR.pair TR.int TR.int))))))).vrep S v0 x0) (v1 : Value) (x1 : (List ((List UInt8) × (Int × Int)))) (k1 : ((TR.sl (TR.pair TR.str (TR.pair TR.int TR.int)))).vrep S v1 x1) (x2 : (List UInt8)) (x3 : Int) (res : (List Int) × (List ((List UInt8) × (Int × Int))) × Int) (hm : pick_Build_m x0 x1 x2 x3 = some res) : Calls Try.prog 24 #[v0, v1, .string ⟨(x2 : List UInt8).toArray⟩, .int .i64 x3] w (Post w S (fun (o : Value × Value) => .tuple #[o.1, o.2, .int .i64 res.2.2]) (fun (o : Value × Value) => [own 3 TR.int o.1 res.1, own 38 (TR.pair TR.str (TR.pair TR.int TR.int)) o.2 res.2.1])) := by
 refine calls_enter 66 Try.func24 Try.ntmps24 rfl S false [(0, v0), (1, v1), (2, .string ⟨(x2 : List UInt8).toArray⟩), (3, .int .i64 x3)] [imm (TR.sl (TR.pair TR.str (TR.pair TR.str (TR.pair TR.int (TR.pair TR.int (TR.pair TR.int TR.int)))))) v0 x0, imm (TR.sl (TR.pair TR.str (TR.pair TR.int TR.int))) v1 x1] rfl ⟨rfl, ⟨rfl, ⟨rfl, ⟨rfl, trivial⟩⟩⟩⟩ hS ⟨k0, ⟨k1, trivial⟩⟩ ?_
 unfold pick_Build_m at hm
 refine GL.seq ?_
 refine GL.region ?_
 refine RL.asg rfl rfl rfl ?_
 refine RL.asg rfl rfl rfl ?_
 refine RL.asg rfl rfl rfl ?_
 refine RL.finG ?_
 refine GL.seq ?_
 refine GL.region ?_
 refine RL.mv rfl rfl rfl ?_
 refine RL.mv rfl rfl rfl ?_
 refine RL.mv rfl rfl rfl ?_
 refine RL.mv rfl rfl rfl ?_
 obtain ⟨y7, e8, hm⟩ := bind_some hm
 refine RL.callV (v := .tuple #[.int .i64 y7.1, .int .i64 y7.2]) (vs := [v0, v1, .string ⟨(x2 : List UInt8).toArray⟩, .int .i64 x3]) Try_fit25 rfl (Or.inl rfl) rfl rfl rfl rfl (fun U w hU hW hL => pick_Next_c U w hU _ _ (hL 0 _ _ rfl Seen.imm) _ _ (hL 1 _ _ rfl Seen.imm) x2 x3 _ e8) ?_
 refine RL.mv rfl rfl rfl ?_
 refine RL.ext rfl rfl rfl rfl ?_
 refine RL.ext rfl rfl rfl rfl ?_
 refine RL.asg rfl rfl rfl ?_
 refine RL.asg rfl rfl rfl ?_
 refine RL.finG ?_
 refine GL.seq ?_
 refine GL.seq ?_
 obtain ⟨y12, K13, h14, h15, h16, h17, h18⟩ := bindR_K hm
 refine GL.join (ι := Bool) (fun (p : Bool) => [(0, v0), (1, v1), (2, .string ⟨(x2 : List UInt8).toArray⟩), (3, .int .i64 x3), (11, .int .i64 y7.1), (12, .int .i64 y7.2), (28, .bool p)]) (fun (p : Bool) => [imm (TR.sl (TR.pair TR.str (TR.pair TR.str (TR.pair TR.int (TR.pair TR.int (TR.pair TR.int TR.int)))))) v0 x0, imm (TR.sl (TR.pair TR.str (TR.pair TR.int TR.int))) v1 x1]) (fun (p : Bool) => K13 (.nx p)) ?_ ?_
 ·skip
  refine GL.region ?_
  refine RL.mv rfl rfl rfl ?_
  refine RL.binI (v := .bool (y7.2 != (0 : Int))) rfl rfl rfl rfl rfl ?_
  refine RL.mv rfl rfl rfl ?_
  refine RL.split (t := 25) rfl (fun b19 => ?_) (fun b19 => ?_)
  ·replace h14 := ite_t b19 h14
   refine RL.mv rfl rfl rfl ?_
   refine RL.binI (v := .bool (y7.2 != (4 : Int))) rfl rfl rfl rfl rfl ?_
   refine RL.pickT rfl rfl rfl rfl ?_
   refine RL.fin ?_
   cases h14
   exact fun a w st => mid_intro (y7.2 != (4 : Int)) h15 (St.cut [0, 1] ⟨rfl, rfl, rfl, rfl, rfl, rfl, rfl, trivial⟩ (by decide) rfl st)
  replace h14 := ite_f b19 h14
  refine RL.skip rfl rfl ?_
  refine RL.skip rfl rfl ?_
  refine RL.pickF rfl rfl rfl rfl ?_
  refine RL.fin ?_
  cases h14
  exact fun a w st => mid_intro false h15 (St.cut [0, 1] ⟨rfl, rfl, rfl, rfl, rfl, rfl, rfl, trivial⟩ (by decide) rfl st)
 rintro x11 h20
 have h21 := h16 _ h20
 try dsimp only at h21
 refine GL.weak (env' := [(0, v0), (1, v1), (2, .string ⟨(x2 : List UInt8).toArray⟩), (3, .int .i64 x3), (11, .int .i64 y7.1), (12, .int .i64 y7.2), (28, .bool x11)]) (L' := [imm (TR.sl (TR.pair TR.str (TR.pair TR.str (TR.pair TR.int (TR.pair TR.int (TR.pair TR.int TR.int)))))) v0 x0, imm (TR.sl (TR.pair TR.str (TR.pair TR.int TR.int))) v1 x1]) (fun _ _ st => st) ?_
 refine GL.cond rfl (fun b22 => ?_) (fun b22 => ?_)
 ·replace h21 := ite_t b22 h21
  refine GL.seq ?_
  refine GL.region ?_
  refine RL.mv rfl rfl rfl ?_
  refine RL.asg rfl rfl rfl ?_
  refine RL.asg rfl rfl rfl ?_
  refine RL.asg rfl rfl rfl ?_
  refine RL.finG ?_
  refine GL.weak (fun a w st => st.nilOwn 3 TR.int) ?_
  refine GL.weak (fun a w st => st.nilOwn 38 (TR.pair TR.str (TR.pair TR.int TR.int))) ?_
  have h21 := Option.some.inj h21
  subst h21
  exact GL.ret (Gx.ret (v := .tuple #[Value.slice none 0 0, Value.slice none 0 0, .int .i64 y7.2]) (res3 rfl rfl rfl rfl) (fun a w st => (st.pick [2, 3] (by decide) rfl).toPost (Value.slice none 0 0, Value.slice none 0 0)))
 replace h21 := ite_f b22 h21
 refine GL.skip ?_
 refine GL.seq ?_
 refine GL.region ?_
 refine RL.bS (t := (TR.pair TR.str (TR.pair TR.int TR.int))) (vs := []) ([] : (List ((List UInt8) × (Int × Int)))) Try.underlying34 Try_lo38 rfl rfl rfl rfl trivial rfl (by decide) ?_
 intro v27
 refine RL.mv rfl rfl rfl ?_
 obtain ⟨y28, e29, h21⟩ := bind_some h21
 replace e29 := chk_some e29
 refine RL.app 2 1 Try.underlying34 Try_lo38 rfl rfl rfl rfl rfl rfl rfl SlOf.imm e29 ?_
 intro v30
 refine RL.reL (L' := [imm (TR.sl (TR.pair TR.str (TR.pair TR.str (TR.pair TR.int (TR.pair TR.int (TR.pair TR.int TR.int)))))) v0 x0, imm (TR.sl (TR.pair TR.str (TR.pair TR.int TR.int))) v1 x1, own 38 (TR.pair TR.str (TR.pair TR.int TR.int)) v30 (([] : (List ((List UInt8) × (Int × Int)))) ++ x1)]) rfl ?_
 refine RL.asg rfl rfl rfl ?_
 refine RL.finG ?_
 refine GL.seq ?_
 refine GL.region ?_
 refine RL.asg rfl rfl rfl ?_
 refine RL.finG ?_
 refine GL.seq ?_
 refine GL.weak (fun a w st => st.nilOwn 3 TR.int) ?_
 obtain ⟨y67, K68, h69, h70, h71, h72, h73⟩ := bindR_K h21
 refine GL.join (ι := Int × Int × Int × (List ((List UInt8) × (Int × Int))) × (List Int) × Value × Value) (fun (p : Int × Int × Int × (List ((List UInt8) × (Int × Int))) × (List Int) × Value × Value) => [(13, p.2.2.2.2.2.1), (14, p.2.2.2.2.2.2)]) (fun (p : Int × Int × Int × (List ((List UInt8) × (Int × Int))) × (List Int) × Value × Value) => [own 38 (TR.pair TR.str (TR.pair TR.int TR.int)) p.2.2.2.2.2.1 p.2.2.2.1, own 3 TR.int p.2.2.2.2.2.2 p.2.2.2.2.1]) (fun (p : Int × Int × Int × (List ((List UInt8) × (Int × Int))) × (List Int) × Value × Value) => K68 (.nx (p.1, p.2.1, p.2.2.1, p.2.2.2.1, p.2.2.2.2.1))) ?_ ?_
 ·refine GL.block ?_
  refine GL.loop (ι := Nat × Int × Int × Int × (List ((List UInt8) × (Int × Int))) × (List Int) × Value × Value) (fun (p : Nat × Int × Int × Int × (List ((List UInt8) × (Int × Int))) × (List Int) × Value × Value) => [(0, v0), (2, .string ⟨(x2 : List UInt8).toArray⟩), (3, .int .i64 p.2.1), (11, .int .i64 p.2.2.1), (12, .int .i64 p.2.2.2.1), (13, p.2.2.2.2.2.2.1), (14, p.2.2.2.2.2.2.2)]) (fun (p : Nat × Int × Int × Int × (List ((List UInt8) × (Int × Int))) × (List Int) × Value × Value) => [imm (TR.sl (TR.pair TR.str (TR.pair TR.str (TR.pair TR.int (TR.pair TR.int (TR.pair TR.int TR.int)))))) v0 x0, own 38 (TR.pair TR.str (TR.pair TR.int TR.int)) p.2.2.2.2.2.2.1 p.2.2.2.2.1, own 3 TR.int p.2.2.2.2.2.2.2 p.2.2.2.2.2.1]) (fun (p : Nat × Int × Int × Int × (List ((List UInt8) × (Int × Int))) × (List Int) × Value × Value) => loopM (pick_Build_b1 x0 x2) p.1 (p.2.1, p.2.2.1, p.2.2.2.1, p.2.2.2.2.1, p.2.2.2.2.2.1) = some y67) (fun (p : Nat × Int × Int × Int × (List ((List UInt8) × (Int × Int))) × (List Int) × Value × Value) => p.1) (1048576, x3, y7.1, y7.2, (([] : (List ((List UInt8) × (Int × Int)))) ++ x1), [], v30, Value.slice none 0 0) h69 (fun a w st => St.cut [0, 2, 3] ⟨rfl, rfl, rfl, rfl, rfl, rfl, rfl, trivial⟩ (by decide) rfl st) ?_
  rintro ⟨r75, x31, x32, x33, l34, l36, v35, v37⟩ h79
  try dsimp only at h79
  refine GL.weak (env' := [(0, v0), (2, .string ⟨(x2 : List UInt8).toArray⟩), (3, .int .i64 x31), (11, .int .i64 x32), (12, .int .i64 x33), (13, v35), (14, v37)]) (L' := [imm (TR.sl (TR.pair TR.str (TR.pair TR.str (TR.pair TR.int (TR.pair TR.int (TR.pair TR.int TR.int)))))) v0 x0, own 38 (TR.pair TR.str (TR.pair TR.int TR.int)) v35 l34, own 3 TR.int v37 l36]) (fun _ _ st => st) ?_
  obtain ⟨r82, z76, hr, h77, h78⟩ := loopM_some h79
  subst hr
  unfold pick_Build_b1 at h77
  try dsimp only at h77
  refine GL.seq ?_
  refine GL.seq ?_
  refine GL.region ?_
  refine RL.mv rfl rfl rfl ?_
  refine RL.binI (v := .bool (x33 == (0 : Int))) rfl rfl rfl rfl rfl ?_
  refine RL.finG ?_
  refine GL.cond rfl (fun b83 => ?_) (fun b83 => ?_)
  ·replace h77 := ite_t b83 h77
   refine GL.skip ?_
   refine GL.block ?_
   refine GL.seq ?_
   refine GL.region ?_
   refine RL.mv rfl rfl rfl ?_
   refine RL.mv rfl rfl rfl ?_
   refine RL.mv rfl rfl rfl ?_
   obtain ⟨y90, e91, h77⟩ := bind_some h77
   refine RL.idxS (sz := 6) 0 Try.underlying22 Try_ln25 rfl rfl rfl rfl rfl SlOf.imm (idx_some e91).1 (idx_some e91).2.1 ?_
   refine RL.ldS (i := (x32).toNat) (r := (TR.pair TR.str (TR.pair TR.str (TR.pair TR.int (TR.pair TR.int (TR.pair TR.int TR.int)))))) (e' := y90) 0 Try_ln25 rfl rfl rfl rfl SlOf.imm (idx_some e91).2.2 Part.self ?_
   intro v92
   refine RL.mv rfl rfl rfl ?_
   obtain ⟨y93, e94, h77⟩ := bind_some h77
   refine RL.callU (vs := [v35, v92, .string ⟨(x2 : List UInt8).toArray⟩]) (LR := fun (o : Value) => [own 38 (TR.pair TR.str (TR.pair TR.int TR.int)) o y93.1]) (fun o => ⟨Loc.own (TR.flatT_pair TR.flatT_str (TR.flatT_pair TR.flatT_ik TR.flatT_ik)), trivial⟩) Try_fit26 rfl rfl rfl rfl rfl (fun U w hU hW hL => ledger_Take_c U w hU _ _ (hL 1 _ _ rfl Seen.own) _ _ (hL 3 _ _ rfl Seen.imm) x2 _ e94) ?_
   intro v95
   refine RL.mv rfl rfl rfl ?_
   refine RL.ext rfl rfl rfl rfl ?_
   refine RL.ext rfl rfl rfl rfl ?_
   refine RL.asg rfl rfl rfl ?_
   refine RL.finG ?_
   refine GL.seq ?_
   refine GL.region ?_
   refine RL.mv rfl rfl rfl ?_
   refine RL.mv rfl rfl rfl ?_
   refine RL.mv rfl rfl rfl ?_
   obtain ⟨y98, e99, h77⟩ := bind_some h77
   refine RL.idxS (sz := 6) 0 Try.underlying22 Try_ln25 rfl rfl rfl rfl rfl SlOf.imm (idx_some e99).1 (idx_some e99).2.1 ?_
   refine RL.fadrS (off := ((x32).toNat * 6)) (fo := 5) 0 Try_fld25_5 rfl rfl rfl SlOf.imm (by have := (List.getElem?_eq_some_iff.1 (idx_some e99).2.2).1; omega) rfl ?_
   refine RL.ldSx (i := (x32).toNat) (e' := y98.2.2.2.2.2) 0 Ex.ik Try_ln3 rfl rfl rfl rfl SlOf.imm (idx_some e99).2.2 (Part.snd (Part.snd (Part.snd (Part.snd (Part.snd Part.self))))) ?_
   refine RL.binI (v := .int .i64 (wsub x31 y98.2.2.2.2.2)) rfl rfl rfl rfl rfl ?_
   refine RL.asg rfl rfl rfl ?_
   refine RL.finG ?_
   refine GL.seq ?_
   refine GL.region ?_
   refine RL.mv rfl rfl rfl ?_
   refine RL.mv rfl rfl rfl ?_
   refine RL.bS (t := TR.int) (vs := [.int .i64 x32]) ([x32] : (List Int)) Try.underlying41 Try_lo3 rfl rfl rfl rfl ⟨VR.int, trivial⟩ rfl (by decide) ?_
   intro v104
   refine RL.reL (L' := [imm (TR.sl (TR.pair TR.str (TR.pair TR.str (TR.pair TR.int (TR.pair TR.int (TR.pair TR.int TR.int)))))) v0 x0, own 38 (TR.pair TR.str (TR.pair TR.int TR.int)) v35 l34, own 3 TR.int v37 l36, imm (TR.pair TR.str (TR.pair TR.str (TR.pair TR.int (TR.pair TR.int (TR.pair TR.int TR.int))))) v92 y90, own 38 (TR.pair TR.str (TR.pair TR.int TR.int)) v95 y93.1, own 3 TR.int v104 ([x32] : (List Int))]) rfl ?_
   obtain ⟨y105, e106, h77⟩ := bind_some h77
   replace e106 := chk_some e106
   refine RL.app 2 5 Try.underlying41 Try_lo3 rfl rfl rfl rfl rfl rfl rfl SlOf.own e106 ?_
   intro v107
   refine RL.asg rfl rfl rfl ?_
   refine RL.finG ?_
   refine GL.region ?_
   refine RL.mv rfl rfl rfl ?_
   refine RL.mv rfl rfl rfl ?_
   refine RL.mv rfl rfl rfl ?_
   refine RL.mv rfl rfl rfl ?_
   obtain ⟨y110, e111, h77⟩ := bind_some h77
   refine RL.callV (v := .tuple #[.int .i64 y110.1, .int .i64 y110.2]) (vs := [v0, v95, .string ⟨(x2 : List UInt8).toArray⟩, .int .i64 (wsub x31 y98.2.2.2.2.2)]) Try_fit25 rfl (Or.inl rfl) rfl rfl rfl rfl (fun U w hU hW hL => pick_Next_c U w hU _ _ (hL 0 _ _ rfl Seen.imm) _ _ (hL 4 _ _ rfl Seen.own) x2 (wsub x31 y98.2.2.2.2.2) _ e111) ?_
   refine RL.mv rfl rfl rfl ?_
   refine RL.ext rfl rfl rfl rfl ?_
   refine RL.ext rfl rfl rfl rfl ?_
   refine RL.asg rfl rfl rfl ?_
   refine RL.asg rfl rfl rfl ?_
   refine RL.finG ?_
   refine GL.nilB ?_
   cases h77
   exact fun a w st => lop_intro (r82, wsub x31 y98.2.2.2.2.2, y110.1, y110.2, y93.1, (l36 ++ ([x32] : (List Int))), v95, v107) (by exact h78) (by simp) (St.cut [0, 4, 2] ⟨rfl, rfl, rfl, rfl, rfl, rfl, rfl, trivial⟩ (by decide) rfl st)
  replace h77 := ite_f b83 h77
  cases h77
  replace h78 : some (Fl.nx _) = some y67 := h78
  cases h78
  exact GL.exit (fun a w st => mid_intro (x31, x32, x33, l34, l36, v35, v37) h70 (St.cut [1, 2] ⟨rfl, rfl, trivial⟩ (by decide) rfl st))
 rintro ⟨x31, x32, x33, l34, l36, v35, v37⟩ h112
 have h113 := h71 _ h112
 try dsimp only at h113
 refine GL.weak (env' := [(13, v35), (14, v37)]) (L' := [own 38 (TR.pair TR.str (TR.pair TR.int TR.int)) v35 l34, own 3 TR.int v37 l36]) (fun _ _ st => st) ?_
 refine GL.seq ?_
 refine GL.region ?_
 refine RL.mv rfl rfl rfl ?_
 refine RL.mv rfl rfl rfl ?_
 refine RL.asg rfl rfl rfl ?_
 refine RL.asg rfl rfl rfl ?_
 refine RL.asg rfl rfl rfl ?_
 refine RL.finG ?_
 have h113 := Option.some.inj h113
 subst h113
 exact GL.ret (Gx.ret (v := .tuple #[v37, v35, .int .i64 (0 : Int)]) (res3 rfl rfl rfl rfl) (fun a w st => (st.pick [1, 0] (by decide) rfl).toPost (v37, v35)))

set_option maxHeartbeats 4000000 in
theorem slices_Equal_int_int_c (S : Hp) (w : World) (hS : S.sub w) (v0 : Value) (x0 : (List Int)) (k0 : ((TR.sl TR.int)).vrep S v0 x0) (v1 : Value) (x1 : (List Int)) (k1 : ((TR.sl TR.int)).vrep S v1 x1) (res : Bool) (hm : slices_Equal_int_int_m x0 x1 = some res) : Calls Try.prog 45 #[v0, v1] w (PostV w (.bool res)) := by
 refine calls_enter 26 Try.func45 Try.ntmps45 rfl S false [(0, v0), (1, v1)] [imm (TR.sl TR.int) v0 x0, imm (TR.sl TR.int) v1 x1] rfl ⟨rfl, ⟨rfl, trivial⟩⟩ hS ⟨k0, ⟨k1, trivial⟩⟩ ?_
 unfold slices_Equal_int_int_m at hm
 refine GL.seq ?_
 refine GL.region ?_
 refine RL.asg rfl rfl rfl ?_
 refine RL.finG ?_
 refine GL.seq ?_
 refine GL.seq ?_
 refine GL.region ?_
 refine RL.mv rfl rfl rfl ?_
 refine RL.lenS 0 Try.underlying41 rfl rfl rfl rfl SlOf.imm ?_
 refine RL.mv rfl rfl rfl ?_
 refine RL.lenS 1 Try.underlying41 rfl rfl rfl rfl SlOf.imm ?_
 refine RL.binI (v := .bool (((x0).length : Int) != ((x1).length : Int))) rfl rfl rfl rfl rfl ?_
 refine RL.finG ?_
 refine GL.cond rfl (fun b3 => ?_) (fun b3 => ?_)
 ·replace hm := ite_t b3 hm
  refine GL.seq ?_
  refine GL.region ?_
  refine RL.asg rfl rfl rfl ?_
  refine RL.finG ?_
  have hm := Option.some.inj hm
  subst hm
  exact GL.ret (Gx.ret (v := .bool false) (res1 rfl rfl) (fun a w st => st.toPostV))
 replace hm := ite_f b3 hm
 refine GL.skip ?_
 refine GL.seq ?_
 refine GL.seq ?_
 refine GL.region ?_
 refine RL.mv rfl rfl rfl ?_
 refine RL.lenS 0 Try.underlying41 rfl rfl rfl rfl SlOf.imm ?_
 refine RL.mv rfl rfl rfl ?_
 refine RL.finG ?_
 refine GL.open_ 0 rfl (fun S h => len_imm S h) (fun n13 => ?_)
 obtain ⟨y14, K15, h16, h17, h18, h19, h20⟩ := bindR_K hm
 refine GL.join (ι := Unit) (fun (p : Unit) => []) (fun (p : Unit) => []) (fun (p : Unit) => K15 (.nx ())) ?_ ?_
 ·refine GL.block ?_
  refine GL.loop (ι := Nat × (List Int)) (fun (p : Nat × (List Int)) => [(0, v0), (1, v1), (12, .int .i64 ((x0).length : Int)), (13, .int .i64 (p.1 : Int))]) (fun (p : Nat × (List Int)) => [imm (TR.sl TR.int) v0 x0, imm (TR.sl TR.int) v1 x1]) (fun (p : Nat × (List Int)) => p.1 + p.2.length = (x0).length ∧ List.drop p.1 x0 = p.2 ∧ rangeL (slices_Equal_int_int_b1 x1) p.2 p.1 () = some y14) (fun (p : Nat × (List Int)) => p.2.length) (0, x0) ⟨by simp, by simp, h16⟩ (fun a w st => St.cut [0, 1] ⟨rfl, rfl, rfl, rfl, trivial⟩ (by decide) rfl st) ?_
  rintro ⟨i21, r22⟩ ⟨h27, h28, h26⟩
  try dsimp only at h27 h28 h26
  refine GL.weak (env' := [(0, v0), (1, v1), (12, .int .i64 ((x0).length : Int)), (13, .int .i64 (i21 : Int))]) (L' := [imm (TR.sl TR.int) v0 x0, imm (TR.sl TR.int) v1 x1]) (fun _ _ st => st) ?_
  refine GL.seq ?_
  refine GL.region ?_
  refine RL.binI (v := .bool (decide ((i21 : Int) < ((x0).length : Int)))) rfl rfl rfl rfl rfl ?_
  refine RL.finG ?_
  refine GL.seq ?_
  refine GL.cond rfl (fun b29 => ?_) (fun b29 => ?_)
  ·have h30 : i21 < (x0).length := by have := of_decide_eq_true b29; omega
   obtain ⟨y31, r33, hr, e32, h34⟩ := drop_cons h28 rfl h30
   subst hr
   obtain ⟨z23, h24, h25⟩ := rangeL_some h26
   unfold slices_Equal_int_int_b1 at h24
   try dsimp only at h24
   refine GL.skip ?_
   refine GL.seq ?_
   refine GL.block ?_
   refine GL.seq ?_
   refine GL.region ?_
   refine RL.mv rfl rfl rfl ?_
   refine RL.asg rfl rfl rfl ?_
   refine RL.finG ?_
   refine GL.seq ?_
   refine GL.regionQ rfl rfl (by kernel_rfl) ?_
   refine RL.mv rfl rfl rfl ?_
   refine RL.mv rfl rfl rfl ?_
   refine RL.idxS (sz := 1) 0 Try.underlying41 Try_ln3 rfl rfl rfl rfl rfl SlOf.imm (by omega) (by omega) ?_
   refine RL.ldSx (i := i21) (e' := y31) 0 Ex.ik Try_ln3 rfl rfl rfl rfl SlOf.imm e32 Part.self ?_
   refine RL.mv rfl rfl rfl ?_
   refine RL.mv rfl rfl rfl ?_
   obtain ⟨y37, e38, h24⟩ := bind_some h24
   refine RL.idxS (sz := 1) 1 Try.underlying41 Try_ln3 rfl rfl rfl rfl rfl SlOf.imm (idx_some e38).1 (idx_some e38).2.1 ?_
   refine RL.ldSx (i := i21) (e' := y37) 1 Ex.ik Try_ln3 rfl rfl rfl rfl SlOf.imm (idx_some e38).2.2 Part.self ?_
   refine RL.binI (v := .bool (y31 != y37)) rfl rfl rfl rfl rfl ?_
   refine RL.finQG ?_
   refine GL.cond rfl (fun b39 => ?_) (fun b39 => ?_)
   ·replace h24 := ite_t b39 h24
    refine GL.seq ?_
    refine GL.region ?_
    refine RL.asg rfl rfl rfl ?_
    refine RL.finG ?_
    cases h24
    replace h25 : some (Fl.rt _) = some y14 := h25
    cases h25
    have hh := h19 _ h17
    subst hh
    exact GL.ret (Gx.ret (v := .bool false) (res1 rfl rfl) (fun a w st => st.toPostV))
   replace h24 := ite_f b39 h24
   refine GL.skip ?_
   refine GL.nilB ?_
   refine GL.region ?_
   refine RL.binI (v := .int .i64 ((i21 + 1 : Nat) : Int)) rfl rfl rfl rfl (binI_succ i21 (by omega)) ?_
   refine RL.mv rfl rfl rfl ?_
   refine RL.fin ?_
   cases h24
   exact fun a w st => lop_intro (i21 + 1, r33) ⟨by show i21 + 1 + r33.length = (x0).length; simp only [List.length_cons] at h27; omega, h34, h25⟩ (by simp) (St.cut [0, 1] ⟨rfl, rfl, rfl, rfl, trivial⟩ (by decide) rfl st)
  have h30 : ¬ i21 < (x0).length := by have := of_decide_eq_false b29; omega
  obtain rfl : r22 = [] := by rw [← h28]; exact List.drop_of_length_le (by omega)
  replace h26 : some (Fl.nx _) = some y14 := h26
  cases h26
  exact GL.exit (fun a w st => mid_intro () h17 (St.cut [] trivial (by decide) rfl st))
 rintro ⟨⟩ h40
 have h41 := h18 _ h40
 try dsimp only at h41
 refine GL.weak (env' := []) (L' := []) (fun _ _ st => st) ?_
 refine GL.seq ?_
 refine GL.region ?_
 refine RL.asg rfl rfl rfl ?_
 refine RL.finG ?_
 have h41 := Option.some.inj h41
 subst h41
 exact GL.ret (Gx.ret (v := .bool true) (res1 rfl rfl) (fun a w st => st.toPostV))

set_option maxHeartbeats 4000000 in
theorem slices_Equal_api_Account_api_Account_c (S : Hp) (w : World) (hS : S.sub w) (v0 : Value) (x0 : (List ((List UInt8) × (Int × Int)))) (k0 : ((TR.sl (TR.pair TR.str (TR.pair TR.int TR.int)))).vrep S v0 x0) (v1 : Value) (x1 : (List ((List UInt8) × (Int × Int)))) (k1 : ((TR.sl (TR.pair TR.str (TR.pair TR.int TR.int)))).vrep S v1 x1) (res : Bool) (hm : slices_Equal_api_Account_api_Account_m x0 x1 = some res) : Calls Try.prog 29 #[v0, v1] w (PostV w (.bool res)) := by
 refine calls_enter 26 Try.func29 Try.ntmps29 rfl S false [(0, v0), (1, v1)] [imm (TR.sl (TR.pair TR.str (TR.pair TR.int TR.int))) v0 x0, imm (TR.sl (TR.pair TR.str (TR.pair TR.int TR.int))) v1 x1] rfl ⟨rfl, ⟨rfl, trivial⟩⟩ hS ⟨k0, ⟨k1, trivial⟩⟩ ?_
 unfold slices_Equal_api_Account_api_Account_m at hm
 refine GL.seq ?_
 refine GL.region ?_
 refine RL.asg rfl rfl rfl ?_
 refine RL.finG ?_
 refine GL.seq ?_
 refine GL.seq ?_
 refine GL.region ?_
 refine RL.mv rfl rfl rfl ?_
 refine RL.lenS 0 Try.underlying34 rfl rfl rfl rfl SlOf.imm ?_
 refine RL.mv rfl rfl rfl ?_
 refine RL.lenS 1 Try.underlying34 rfl rfl rfl rfl SlOf.imm ?_
 refine RL.binI (v := .bool (((x0).length : Int) != ((x1).length : Int))) rfl rfl rfl rfl rfl ?_
 refine RL.finG ?_
 refine GL.cond rfl (fun b3 => ?_) (fun b3 => ?_)
 ·replace hm := ite_t b3 hm
  refine GL.seq ?_
  refine GL.region ?_
  refine RL.asg rfl rfl rfl ?_
  refine RL.finG ?_
  have hm := Option.some.inj hm
  subst hm
  exact GL.ret (Gx.ret (v := .bool false) (res1 rfl rfl) (fun a w st => st.toPostV))
 replace hm := ite_f b3 hm
 refine GL.skip ?_
 refine GL.seq ?_
 refine GL.seq ?_
 refine GL.region ?_
 refine RL.mv rfl rfl rfl ?_
 refine RL.lenS 0 Try.underlying34 rfl rfl rfl rfl SlOf.imm ?_
 refine RL.mv rfl rfl rfl ?_
 refine RL.finG ?_
 refine GL.open_ 0 rfl (fun S h => len_imm S h) (fun n17 => ?_)
 obtain ⟨y18, K19, h20, h21, h22, h23, h24⟩ := bindR_K hm
 refine GL.join (ι := Unit) (fun (p : Unit) => []) (fun (p : Unit) => []) (fun (p : Unit) => K19 (.nx ())) ?_ ?_
 ·refine GL.block ?_
  refine GL.loop (ι := Nat × (List ((List UInt8) × (Int × Int)))) (fun (p : Nat × (List ((List UInt8) × (Int × Int)))) => [(0, v0), (1, v1), (12, .int .i64 ((x0).length : Int)), (13, .int .i64 (p.1 : Int))]) (fun (p : Nat × (List ((List UInt8) × (Int × Int)))) => [imm (TR.sl (TR.pair TR.str (TR.pair TR.int TR.int))) v0 x0, imm (TR.sl (TR.pair TR.str (TR.pair TR.int TR.int))) v1 x1]) (fun (p : Nat × (List ((List UInt8) × (Int × Int)))) => p.1 + p.2.length = (x0).length ∧ List.drop p.1 x0 = p.2 ∧ rangeL (slices_Equal_api_Account_api_Account_b1 x1) p.2 p.1 () = some y18) (fun (p : Nat × (List ((List UInt8) × (Int × Int)))) => p.2.length) (0, x0) ⟨by simp, by simp, h20⟩ (fun a w st => St.cut [0, 1] ⟨rfl, rfl, rfl, rfl, trivial⟩ (by decide) rfl st) ?_
  rintro ⟨i25, r26⟩ ⟨h31, h32, h30⟩
  try dsimp only at h31 h32 h30
  refine GL.weak (env' := [(0, v0), (1, v1), (12, .int .i64 ((x0).length : Int)), (13, .int .i64 (i25 : Int))]) (L' := [imm (TR.sl (TR.pair TR.str (TR.pair TR.int TR.int))) v0 x0, imm (TR.sl (TR.pair TR.str (TR.pair TR.int TR.int))) v1 x1]) (fun _ _ st => st) ?_
  refine GL.seq ?_
  refine GL.region ?_
  refine RL.binI (v := .bool (decide ((i25 : Int) < ((x0).length : Int)))) rfl rfl rfl rfl rfl ?_
  refine RL.finG ?_
  refine GL.seq ?_
  refine GL.cond rfl (fun b33 => ?_) (fun b33 => ?_)
  ·have h34 : i25 < (x0).length := by have := of_decide_eq_true b33; omega
   obtain ⟨y35, r37, hr, e36, h38⟩ := drop_cons h32 rfl h34
   subst hr
   obtain ⟨z27, h28, h29⟩ := rangeL_some h30
   unfold slices_Equal_api_Account_api_Account_b1 at h28
   try dsimp only at h28
   refine GL.skip ?_
   refine GL.seq ?_
   refine GL.block ?_
   refine GL.seq ?_
   refine GL.region ?_
   refine RL.mv rfl rfl rfl ?_
   refine RL.asg rfl rfl rfl ?_
   refine RL.finG ?_
   refine GL.seq ?_
   refine GL.regionQ rfl rfl (by kernel_rfl) ?_
   refine RL.mv rfl rfl rfl ?_
   refine RL.mv rfl rfl rfl ?_
   refine RL.idxS (sz := 3) 0 Try.underlying34 Try_ln38 rfl rfl rfl rfl rfl SlOf.imm (by omega) (by omega) ?_
   refine RL.ldS (i := i25) (r := (TR.pair TR.str (TR.pair TR.int TR.int))) (e' := y35) 0 Try_ln38 rfl rfl rfl rfl SlOf.imm e36 Part.self ?_
   intro v43
   refine RL.mv rfl rfl rfl ?_
   refine RL.mv rfl rfl rfl ?_
   obtain ⟨y44, e45, h28⟩ := bind_some h28
   refine RL.idxS (sz := 3) 1 Try.underlying34 Try_ln38 rfl rfl rfl rfl rfl SlOf.imm (idx_some e45).1 (idx_some e45).2.1 ?_
   refine RL.ldS (i := i25) (r := (TR.pair TR.str (TR.pair TR.int TR.int))) (e' := y44) 1 Try_ln38 rfl rfl rfl rfl SlOf.imm (idx_some e45).2.2 Part.self ?_
   intro v46
   refine RL.reL (L' := [imm (TR.sl (TR.pair TR.str (TR.pair TR.int TR.int))) v0 x0, imm (TR.sl (TR.pair TR.str (TR.pair TR.int TR.int))) v1 x1, imm (TR.pair TR.str (TR.pair TR.int TR.int)) v43 y35, imm (TR.pair TR.str (TR.pair TR.int TR.int)) v46 y44]) rfl ?_
   refine RL.neG (t := (TR.pair TR.str (TR.pair TR.int TR.int))) (e := y35) (e' := y44) rfl Try_eq38 (by decide) Try.eqGuardType38 rfl rfl rfl rfl (VR.item 2 rfl) (VR.item 3 rfl) ?_
   refine RL.finQG ?_
   refine GL.cond rfl (fun b47 => ?_) (fun b47 => ?_)
   ·replace h28 := ite_t b47 h28
    refine GL.seq ?_
    refine GL.region ?_
    refine RL.asg rfl rfl rfl ?_
    refine RL.finG ?_
    cases h28
    replace h29 : some (Fl.rt _) = some y18 := h29
    cases h29
    have hh := h23 _ h21
    subst hh
    exact GL.ret (Gx.ret (v := .bool false) (res1 rfl rfl) (fun a w st => st.toPostV))
   replace h28 := ite_f b47 h28
   refine GL.skip ?_
   refine GL.nilB ?_
   refine GL.region ?_
   refine RL.binI (v := .int .i64 ((i25 + 1 : Nat) : Int)) rfl rfl rfl rfl (binI_succ i25 (by omega)) ?_
   refine RL.mv rfl rfl rfl ?_
   refine RL.fin ?_
   cases h28
   exact fun a w st => lop_intro (i25 + 1, r37) ⟨by show i25 + 1 + r37.length = (x0).length; simp only [List.length_cons] at h31; omega, h38, h29⟩ (by simp) (St.cut [0, 1] ⟨rfl, rfl, rfl, rfl, trivial⟩ (by decide) rfl st)
  have h34 : ¬ i25 < (x0).length := by have := of_decide_eq_false b33; omega
  obtain rfl : r26 = [] := by rw [← h32]; exact List.drop_of_length_le (by omega)
  replace h30 : some (Fl.nx _) = some y18 := h30
  cases h30
  exact GL.exit (fun a w st => mid_intro () h21 (St.cut [] trivial (by decide) rfl st))
 rintro ⟨⟩ h48
 have h49 := h22 _ h48
 try dsimp only at h49
 refine GL.weak (env' := []) (L' := []) (fun _ _ st => st) ?_
 refine GL.seq ?_
 refine GL.region ?_
 refine RL.asg rfl rfl rfl ?_
 refine RL.finG ?_
 have h49 := Option.some.inj h49
 subst h49
 exact GL.ret (Gx.ret (v := .bool true) (res1 rfl rfl) (fun a w st => st.toPostV))

set_option maxHeartbeats 4000000 in
theorem pk_picks_c (S : Hp) (w : World) (hS : S.sub w)  (res : Bool) (hm : pk_picks_m = some res) : Calls Try.prog 23 #[] w (PostV w (.bool res)) := by
 refine calls_enter 31 Try.func23 Try.ntmps23 rfl S false [] [] rfl trivial hS trivial ?_
 unfold pk_picks_m at hm
 refine GL.seq ?_
 refine GL.region ?_
 refine RL.asg rfl rfl rfl ?_
 refine RL.finG ?_
 refine GL.seq ?_
 refine GL.region ?_
 refine RL.bld (t := (TR.pair TR.str (TR.pair TR.str (TR.pair TR.int (TR.pair TR.int (TR.pair TR.int TR.int)))))) (d0 := ((([97] : List UInt8), ([98] : List UInt8), (0 : Int), (0 : Int), (1 : Int), (1 : Int)) : ((List UInt8) × ((List UInt8) × (Int × (Int × (Int × Int))))))) (pv := [(0, .string ⟨(([97] : List UInt8) : List UInt8).toArray⟩), (1, .string ⟨(([98] : List UInt8) : List UInt8).toArray⟩), (4, .int .i64 (1 : Int)), (5, .int .i64 (1 : Int))]) rfl Try_bld25 rfl rfl rfl ⟨⟨_, _, TR.str, ([97] : List UInt8), rfl, rfl, VR.str⟩, ⟨⟨_, _, TR.str, ([98] : List UInt8), rfl, rfl, VR.str⟩, ⟨⟨_, _, TR.int, (1 : Int), rfl, rfl, VR.int⟩, ⟨⟨_, _, TR.int, (1 : Int), rfl, rfl, VR.int⟩, trivial⟩⟩⟩⟩ (fun S f hi => by
   obtain ⟨c0, e0, r0⟩ := cells_vrep (t := TR.str) (u := .string ⟨(([97] : List UInt8) : List UInt8).toArray⟩) (e := ([97] : List UInt8)) (VR.str S f hi)
   obtain ⟨c1, e1, r1⟩ := cells_vrep (t := TR.str) (u := .string ⟨(([98] : List UInt8) : List UInt8).toArray⟩) (e := ([98] : List UInt8)) (VR.str S f hi)
   obtain ⟨c4, e4, r4⟩ := cells_vrep (t := TR.int) (u := .int .i64 (1 : Int)) (e := (1 : Int)) (VR.int S f hi)
   obtain ⟨c5, e5, r5⟩ := cells_vrep (t := TR.int) (u := .int .i64 (1 : Int)) (e := (1 : Int)) (VR.int S f hi)
   show TR.rep (TR.pair TR.str (TR.pair TR.str (TR.pair TR.int (TR.pair TR.int (TR.pair TR.int TR.int))))) S (List.flatten [(.string ⟨(([97] : List UInt8) : List UInt8).toArray⟩ : Value).cells.toList, (.string ⟨(([98] : List UInt8) : List UInt8).toArray⟩ : Value).cells.toList, [.int .i64 0], [.int .i64 0], (.int .i64 (1 : Int) : Value).cells.toList, (.int .i64 (1 : Int) : Value).cells.toList]) _
   simp only [e0, e1, e4, e5,  List.flatten_cons, List.flatten_nil, List.append_nil]
   exact ⟨_, _, rfl, r0, ⟨_, _, rfl, r1, ⟨_, _, rfl, rfl, ⟨_, _, rfl, rfl, ⟨_, _, rfl, r4, r4⟩⟩⟩⟩⟩) ?_
 intro v4
 refine RL.bld (t := (TR.pair TR.str (TR.pair TR.str (TR.pair TR.int (TR.pair TR.int (TR.pair TR.int TR.int)))))) (d0 := ((([98] : List UInt8), ([97] : List UInt8), (0 : Int), (0 : Int), (9 : Int), (3 : Int)) : ((List UInt8) × ((List UInt8) × (Int × (Int × (Int × Int))))))) (pv := [(0, .string ⟨(([98] : List UInt8) : List UInt8).toArray⟩), (1, .string ⟨(([97] : List UInt8) : List UInt8).toArray⟩), (4, .int .i64 (9 : Int)), (5, .int .i64 (3 : Int))]) rfl Try_bld25 rfl rfl rfl ⟨⟨_, _, TR.str, ([98] : List UInt8), rfl, rfl, VR.str⟩, ⟨⟨_, _, TR.str, ([97] : List UInt8), rfl, rfl, VR.str⟩, ⟨⟨_, _, TR.int, (9 : Int), rfl, rfl, VR.int⟩, ⟨⟨_, _, TR.int, (3 : Int), rfl, rfl, VR.int⟩, trivial⟩⟩⟩⟩ (fun S f hi => by
   obtain ⟨c0, e0, r0⟩ := cells_vrep (t := TR.str) (u := .string ⟨(([98] : List UInt8) : List UInt8).toArray⟩) (e := ([98] : List UInt8)) (VR.str S f hi)
   obtain ⟨c1, e1, r1⟩ := cells_vrep (t := TR.str) (u := .string ⟨(([97] : List UInt8) : List UInt8).toArray⟩) (e := ([97] : List UInt8)) (VR.str S f hi)
   obtain ⟨c4, e4, r4⟩ := cells_vrep (t := TR.int) (u := .int .i64 (9 : Int)) (e := (9 : Int)) (VR.int S f hi)
   obtain ⟨c5, e5, r5⟩ := cells_vrep (t := TR.int) (u := .int .i64 (3 : Int)) (e := (3 : Int)) (VR.int S f hi)
   show TR.rep (TR.pair TR.str (TR.pair TR.str (TR.pair TR.int (TR.pair TR.int (TR.pair TR.int TR.int))))) S (List.flatten [(.string ⟨(([98] : List UInt8) : List UInt8).toArray⟩ : Value).cells.toList, (.string ⟨(([97] : List UInt8) : List UInt8).toArray⟩ : Value).cells.toList, [.int .i64 0], [.int .i64 0], (.int .i64 (9 : Int) : Value).cells.toList, (.int .i64 (3 : Int) : Value).cells.toList]) _
   simp only [e0, e1, e4, e5,  List.flatten_cons, List.flatten_nil, List.append_nil]
   exact ⟨_, _, rfl, r0, ⟨_, _, rfl, r1, ⟨_, _, rfl, rfl, ⟨_, _, rfl, rfl, ⟨_, _, rfl, r4, r5⟩⟩⟩⟩⟩) ?_
 intro v5
 refine RL.reL (L' := [imm (TR.pair TR.str (TR.pair TR.str (TR.pair TR.int (TR.pair TR.int (TR.pair TR.int TR.int))))) v4 ((([97] : List UInt8), ([98] : List UInt8), (0 : Int), (0 : Int), (1 : Int), (1 : Int)) : ((List UInt8) × ((List UInt8) × (Int × (Int × (Int × Int)))))), imm (TR.pair TR.str (TR.pair TR.str (TR.pair TR.int (TR.pair TR.int (TR.pair TR.int TR.int))))) v5 ((([98] : List UInt8), ([97] : List UInt8), (0 : Int), (0 : Int), (9 : Int), (3 : Int)) : ((List UInt8) × ((List UInt8) × (Int × (Int × (Int × Int))))))]) rfl ?_
 refine RL.bS (t := (TR.pair TR.str (TR.pair TR.str (TR.pair TR.int (TR.pair TR.int (TR.pair TR.int TR.int)))))) (vs := [v4, v5]) ([((([97] : List UInt8), ([98] : List UInt8), (0 : Int), (0 : Int), (1 : Int), (1 : Int)) : ((List UInt8) × ((List UInt8) × (Int × (Int × (Int × Int)))))), ((([98] : List UInt8), ([97] : List UInt8), (0 : Int), (0 : Int), (9 : Int), (3 : Int)) : ((List UInt8) × ((List UInt8) × (Int × (Int × (Int × Int))))))] : (List ((List UInt8) × ((List UInt8) × (Int × (Int × (Int × Int))))))) Try.underlying22 Try_lo25 rfl rfl rfl rfl ⟨(VR.item 0 rfl), ⟨(VR.item 1 rfl), trivial⟩⟩ rfl (by decide) ?_
 intro v6
 refine RL.asg rfl rfl rfl ?_
 refine RL.finG ?_
 refine GL.seq ?_
 refine GL.region ?_
 refine RL.mv rfl rfl rfl ?_
 refine RL.bld (t := (TR.pair TR.str (TR.pair TR.int TR.int))) (d0 := ((([97] : List UInt8), (5 : Int), (0 : Int)) : ((List UInt8) × (Int × Int)))) (pv := [(0, .string ⟨(([97] : List UInt8) : List UInt8).toArray⟩), (1, .int .i64 (5 : Int))]) rfl Try_bld38 rfl rfl rfl ⟨⟨_, _, TR.str, ([97] : List UInt8), rfl, rfl, VR.str⟩, ⟨⟨_, _, TR.int, (5 : Int), rfl, rfl, VR.int⟩, trivial⟩⟩ (fun S f hi => by
   obtain ⟨c0, e0, r0⟩ := cells_vrep (t := TR.str) (u := .string ⟨(([97] : List UInt8) : List UInt8).toArray⟩) (e := ([97] : List UInt8)) (VR.str S f hi)
   obtain ⟨c1, e1, r1⟩ := cells_vrep (t := TR.int) (u := .int .i64 (5 : Int)) (e := (5 : Int)) (VR.int S f hi)
   show TR.rep (TR.pair TR.str (TR.pair TR.int TR.int)) S (List.flatten [(.string ⟨(([97] : List UInt8) : List UInt8).toArray⟩ : Value).cells.toList, (.int .i64 (5 : Int) : Value).cells.toList, [.int .i64 0]]) _
   simp only [e0, e1,  List.flatten_cons, List.flatten_nil, List.append_nil]
   exact ⟨_, _, rfl, r0, ⟨_, _, rfl, r1, rfl⟩⟩) ?_
 intro v14
 refine RL.reL (L' := [imm (TR.pair TR.str (TR.pair TR.str (TR.pair TR.int (TR.pair TR.int (TR.pair TR.int TR.int))))) v4 ((([97] : List UInt8), ([98] : List UInt8), (0 : Int), (0 : Int), (1 : Int), (1 : Int)) : ((List UInt8) × ((List UInt8) × (Int × (Int × (Int × Int)))))), imm (TR.pair TR.str (TR.pair TR.str (TR.pair TR.int (TR.pair TR.int (TR.pair TR.int TR.int))))) v5 ((([98] : List UInt8), ([97] : List UInt8), (0 : Int), (0 : Int), (9 : Int), (3 : Int)) : ((List UInt8) × ((List UInt8) × (Int × (Int × (Int × Int)))))), own 25 (TR.pair TR.str (TR.pair TR.str (TR.pair TR.int (TR.pair TR.int (TR.pair TR.int TR.int))))) v6 ([((([97] : List UInt8), ([98] : List UInt8), (0 : Int), (0 : Int), (1 : Int), (1 : Int)) : ((List UInt8) × ((List UInt8) × (Int × (Int × (Int × Int)))))), ((([98] : List UInt8), ([97] : List UInt8), (0 : Int), (0 : Int), (9 : Int), (3 : Int)) : ((List UInt8) × ((List UInt8) × (Int × (Int × (Int × Int))))))] : (List ((List UInt8) × ((List UInt8) × (Int × (Int × (Int × Int))))))), imm (TR.pair TR.str (TR.pair TR.int TR.int)) v14 ((([97] : List UInt8), (5 : Int), (0 : Int)) : ((List UInt8) × (Int × Int)))]) rfl ?_
 refine RL.bld (t := (TR.pair TR.str (TR.pair TR.int TR.int))) (d0 := ((([98] : List UInt8), (9 : Int), (0 : Int)) : ((List UInt8) × (Int × Int)))) (pv := [(0, .string ⟨(([98] : List UInt8) : List UInt8).toArray⟩), (1, .int .i64 (9 : Int))]) rfl Try_bld38 rfl rfl rfl ⟨⟨_, _, TR.str, ([98] : List UInt8), rfl, rfl, VR.str⟩, ⟨⟨_, _, TR.int, (9 : Int), rfl, rfl, VR.int⟩, trivial⟩⟩ (fun S f hi => by
   obtain ⟨c0, e0, r0⟩ := cells_vrep (t := TR.str) (u := .string ⟨(([98] : List UInt8) : List UInt8).toArray⟩) (e := ([98] : List UInt8)) (VR.str S f hi)
   obtain ⟨c1, e1, r1⟩ := cells_vrep (t := TR.int) (u := .int .i64 (9 : Int)) (e := (9 : Int)) (VR.int S f hi)
   show TR.rep (TR.pair TR.str (TR.pair TR.int TR.int)) S (List.flatten [(.string ⟨(([98] : List UInt8) : List UInt8).toArray⟩ : Value).cells.toList, (.int .i64 (9 : Int) : Value).cells.toList, [.int .i64 0]]) _
   simp only [e0, e1,  List.flatten_cons, List.flatten_nil, List.append_nil]
   exact ⟨_, _, rfl, r0, ⟨_, _, rfl, r1, rfl⟩⟩) ?_
 intro v15
 refine RL.bS (t := (TR.pair TR.str (TR.pair TR.int TR.int))) (vs := [v14, v15]) ([((([97] : List UInt8), (5 : Int), (0 : Int)) : ((List UInt8) × (Int × Int))), ((([98] : List UInt8), (9 : Int), (0 : Int)) : ((List UInt8) × (Int × Int)))] : (List ((List UInt8) × (Int × Int)))) Try.underlying34 Try_lo38 rfl rfl rfl rfl ⟨(VR.item 3 rfl), ⟨(VR.item 4 rfl), trivial⟩⟩ rfl (by decide) ?_
 intro v16
 refine RL.reL (L' := [imm (TR.pair TR.str (TR.pair TR.str (TR.pair TR.int (TR.pair TR.int (TR.pair TR.int TR.int))))) v4 ((([97] : List UInt8), ([98] : List UInt8), (0 : Int), (0 : Int), (1 : Int), (1 : Int)) : ((List UInt8) × ((List UInt8) × (Int × (Int × (Int × Int)))))), imm (TR.pair TR.str (TR.pair TR.str (TR.pair TR.int (TR.pair TR.int (TR.pair TR.int TR.int))))) v5 ((([98] : List UInt8), ([97] : List UInt8), (0 : Int), (0 : Int), (9 : Int), (3 : Int)) : ((List UInt8) × ((List UInt8) × (Int × (Int × (Int × Int)))))), own 25 (TR.pair TR.str (TR.pair TR.str (TR.pair TR.int (TR.pair TR.int (TR.pair TR.int TR.int))))) v6 ([((([97] : List UInt8), ([98] : List UInt8), (0 : Int), (0 : Int), (1 : Int), (1 : Int)) : ((List UInt8) × ((List UInt8) × (Int × (Int × (Int × Int)))))), ((([98] : List UInt8), ([97] : List UInt8), (0 : Int), (0 : Int), (9 : Int), (3 : Int)) : ((List UInt8) × ((List UInt8) × (Int × (Int × (Int × Int))))))] : (List ((List UInt8) × ((List UInt8) × (Int × (Int × (Int × Int))))))), imm (TR.pair TR.str (TR.pair TR.int TR.int)) v14 ((([97] : List UInt8), (5 : Int), (0 : Int)) : ((List UInt8) × (Int × Int))), imm (TR.pair TR.str (TR.pair TR.int TR.int)) v15 ((([98] : List UInt8), (9 : Int), (0 : Int)) : ((List UInt8) × (Int × Int))), own 38 (TR.pair TR.str (TR.pair TR.int TR.int)) v16 ([((([97] : List UInt8), (5 : Int), (0 : Int)) : ((List UInt8) × (Int × Int))), ((([98] : List UInt8), (9 : Int), (0 : Int)) : ((List UInt8) × (Int × Int)))] : (List ((List UInt8) × (Int × Int))))]) rfl ?_
 obtain ⟨y17, e18, hm⟩ := bind_some hm
 refine RL.callU (vs := [v6, v16, .string ⟨(([97] : List UInt8) : List UInt8).toArray⟩, .int .i64 (3 : Int)]) (LR := fun (o : Value × Value) => [own 3 TR.int o.1 y17.1, own 38 (TR.pair TR.str (TR.pair TR.int TR.int)) o.2 y17.2.1]) (fun o => ⟨Loc.own TR.flatT_ik, ⟨Loc.own (TR.flatT_pair TR.flatT_str (TR.flatT_pair TR.flatT_ik TR.flatT_ik)), trivial⟩⟩) Try_fit24 rfl rfl rfl rfl rfl (fun U w hU hW hL => pick_Build_c U w hU _ _ (hL 2 _ _ rfl Seen.own) _ _ (hL 5 _ _ rfl Seen.own) ([97] : List UInt8) (3 : Int) _ e18) ?_
 intro ⟨v19, v20⟩
 refine RL.mv rfl rfl rfl ?_
 refine RL.ext rfl rfl rfl rfl ?_
 refine RL.ext rfl rfl rfl rfl ?_
 refine RL.ext rfl rfl rfl rfl ?_
 refine RL.asg rfl rfl rfl ?_
 refine RL.asg rfl rfl rfl ?_
 refine RL.asg rfl rfl rfl ?_
 refine RL.finG ?_
 refine GL.seq ?_
 obtain ⟨y42, K43, h44, h45, h46, h47, h48⟩ := bindR_K hm
 refine GL.join (ι := Bool) (fun (p : Bool) => [(0, .bool p)]) (fun (p : Bool) => []) (fun (p : Bool) => K43 (.nx p)) ?_ ?_
 ·skip
  refine GL.region ?_
  refine RL.mv rfl rfl rfl ?_
  refine RL.binI (v := .bool (y17.2.2 == (0 : Int))) rfl rfl rfl rfl rfl ?_
  refine RL.mv rfl rfl rfl ?_
  refine RL.split (t := 19) rfl (fun b49 => ?_) (fun b49 => ?_)
  ·replace h44 := ite_t b49 h44
   refine RL.mv rfl rfl rfl ?_
   refine RL.bS (t := TR.int) (vs := [.int .i64 (1 : Int)]) ([(1 : Int)] : (List Int)) Try.underlying41 Try_lo3 rfl rfl rfl rfl ⟨VR.int, trivial⟩ rfl (by decide) ?_
   intro v50
   obtain ⟨y51, e52, h44⟩ := bind_some h44
   refine RL.callV (v := .bool y51) (vs := [v19, v50]) Try_fit45 rfl (Or.inl rfl) rfl rfl rfl rfl (fun U w hU hW hL => slices_Equal_int_int_c U w hU _ _ (hL 6 _ _ rfl Seen.own) _ _ (hL 8 _ _ rfl Seen.own) _ e52) ?_
   refine RL.pickT rfl rfl rfl rfl ?_
   refine RL.mv rfl rfl rfl ?_
   refine RL.split (t := 24) rfl (fun b53 => ?_) (fun b53 => ?_)
   ·replace h44 := ite_t b53 h44
    refine RL.mv rfl rfl rfl ?_
    refine RL.bld (t := (TR.pair TR.str (TR.pair TR.int TR.int))) (d0 := ((([97] : List UInt8), (14 : Int), (0 : Int)) : ((List UInt8) × (Int × Int)))) (pv := [(0, .string ⟨(([97] : List UInt8) : List UInt8).toArray⟩), (1, .int .i64 (14 : Int))]) rfl Try_bld38 rfl rfl rfl ⟨⟨_, _, TR.str, ([97] : List UInt8), rfl, rfl, VR.str⟩, ⟨⟨_, _, TR.int, (14 : Int), rfl, rfl, VR.int⟩, trivial⟩⟩ (fun S f hi => by
      obtain ⟨c0, e0, r0⟩ := cells_vrep (t := TR.str) (u := .string ⟨(([97] : List UInt8) : List UInt8).toArray⟩) (e := ([97] : List UInt8)) (VR.str S f hi)
      obtain ⟨c1, e1, r1⟩ := cells_vrep (t := TR.int) (u := .int .i64 (14 : Int)) (e := (14 : Int)) (VR.int S f hi)
      show TR.rep (TR.pair TR.str (TR.pair TR.int TR.int)) S (List.flatten [(.string ⟨(([97] : List UInt8) : List UInt8).toArray⟩ : Value).cells.toList, (.int .i64 (14 : Int) : Value).cells.toList, [.int .i64 0]]) _
      simp only [e0, e1,  List.flatten_cons, List.flatten_nil, List.append_nil]
      exact ⟨_, _, rfl, r0, ⟨_, _, rfl, r1, rfl⟩⟩) ?_
    intro v54
    refine RL.reL (L' := [imm (TR.pair TR.str (TR.pair TR.str (TR.pair TR.int (TR.pair TR.int (TR.pair TR.int TR.int))))) v4 ((([97] : List UInt8), ([98] : List UInt8), (0 : Int), (0 : Int), (1 : Int), (1 : Int)) : ((List UInt8) × ((List UInt8) × (Int × (Int × (Int × Int)))))), imm (TR.pair TR.str (TR.pair TR.str (TR.pair TR.int (TR.pair TR.int (TR.pair TR.int TR.int))))) v5 ((([98] : List UInt8), ([97] : List UInt8), (0 : Int), (0 : Int), (9 : Int), (3 : Int)) : ((List UInt8) × ((List UInt8) × (Int × (Int × (Int × Int)))))), own 25 (TR.pair TR.str (TR.pair TR.str (TR.pair TR.int (TR.pair TR.int (TR.pair TR.int TR.int))))) v6 ([((([97] : List UInt8), ([98] : List UInt8), (0 : Int), (0 : Int), (1 : Int), (1 : Int)) : ((List UInt8) × ((List UInt8) × (Int × (Int × (Int × Int)))))), ((([98] : List UInt8), ([97] : List UInt8), (0 : Int), (0 : Int), (9 : Int), (3 : Int)) : ((List UInt8) × ((List UInt8) × (Int × (Int × (Int × Int))))))] : (List ((List UInt8) × ((List UInt8) × (Int × (Int × (Int × Int))))))), imm (TR.pair TR.str (TR.pair TR.int TR.int)) v14 ((([97] : List UInt8), (5 : Int), (0 : Int)) : ((List UInt8) × (Int × Int))), imm (TR.pair TR.str (TR.pair TR.int TR.int)) v15 ((([98] : List UInt8), (9 : Int), (0 : Int)) : ((List UInt8) × (Int × Int))), own 38 (TR.pair TR.str (TR.pair TR.int TR.int)) v16 ([((([97] : List UInt8), (5 : Int), (0 : Int)) : ((List UInt8) × (Int × Int))), ((([98] : List UInt8), (9 : Int), (0 : Int)) : ((List UInt8) × (Int × Int)))] : (List ((List UInt8) × (Int × Int)))), own 3 TR.int v19 y17.1, own 38 (TR.pair TR.str (TR.pair TR.int TR.int)) v20 y17.2.1, own 3 TR.int v50 ([(1 : Int)] : (List Int)), imm (TR.pair TR.str (TR.pair TR.int TR.int)) v54 ((([97] : List UInt8), (14 : Int), (0 : Int)) : ((List UInt8) × (Int × Int)))]) rfl ?_
    refine RL.bld (t := (TR.pair TR.str (TR.pair TR.int TR.int))) (d0 := ((([98] : List UInt8), (0 : Int), (1 : Int)) : ((List UInt8) × (Int × Int)))) (pv := [(0, .string ⟨(([98] : List UInt8) : List UInt8).toArray⟩), (2, .int .i64 (1 : Int))]) rfl Try_bld38 rfl rfl rfl ⟨⟨_, _, TR.str, ([98] : List UInt8), rfl, rfl, VR.str⟩, ⟨⟨_, _, TR.int, (1 : Int), rfl, rfl, VR.int⟩, trivial⟩⟩ (fun S f hi => by
      obtain ⟨c0, e0, r0⟩ := cells_vrep (t := TR.str) (u := .string ⟨(([98] : List UInt8) : List UInt8).toArray⟩) (e := ([98] : List UInt8)) (VR.str S f hi)
      obtain ⟨c2, e2, r2⟩ := cells_vrep (t := TR.int) (u := .int .i64 (1 : Int)) (e := (1 : Int)) (VR.int S f hi)
      show TR.rep (TR.pair TR.str (TR.pair TR.int TR.int)) S (List.flatten [(.string ⟨(([98] : List UInt8) : List UInt8).toArray⟩ : Value).cells.toList, [.int .i64 0], (.int .i64 (1 : Int) : Value).cells.toList]) _
      simp only [e0, e2,  List.flatten_cons, List.flatten_nil, List.append_nil]
      exact ⟨_, _, rfl, r0, ⟨_, _, rfl, rfl, r2⟩⟩) ?_
    intro v55
    refine RL.bS (t := (TR.pair TR.str (TR.pair TR.int TR.int))) (vs := [v54, v55]) ([((([97] : List UInt8), (14 : Int), (0 : Int)) : ((List UInt8) × (Int × Int))), ((([98] : List UInt8), (0 : Int), (1 : Int)) : ((List UInt8) × (Int × Int)))] : (List ((List UInt8) × (Int × Int)))) Try.underlying34 Try_lo38 rfl rfl rfl rfl ⟨(VR.item 9 rfl), ⟨(VR.item 10 rfl), trivial⟩⟩ rfl (by decide) ?_
    intro v56
    refine RL.reL (L' := [imm (TR.pair TR.str (TR.pair TR.str (TR.pair TR.int (TR.pair TR.int (TR.pair TR.int TR.int))))) v4 ((([97] : List UInt8), ([98] : List UInt8), (0 : Int), (0 : Int), (1 : Int), (1 : Int)) : ((List UInt8) × ((List UInt8) × (Int × (Int × (Int × Int)))))), imm (TR.pair TR.str (TR.pair TR.str (TR.pair TR.int (TR.pair TR.int (TR.pair TR.int TR.int))))) v5 ((([98] : List UInt8), ([97] : List UInt8), (0 : Int), (0 : Int), (9 : Int), (3 : Int)) : ((List UInt8) × ((List UInt8) × (Int × (Int × (Int × Int)))))), own 25 (TR.pair TR.str (TR.pair TR.str (TR.pair TR.int (TR.pair TR.int (TR.pair TR.int TR.int))))) v6 ([((([97] : List UInt8), ([98] : List UInt8), (0 : Int), (0 : Int), (1 : Int), (1 : Int)) : ((List UInt8) × ((List UInt8) × (Int × (Int × (Int × Int)))))), ((([98] : List UInt8), ([97] : List UInt8), (0 : Int), (0 : Int), (9 : Int), (3 : Int)) : ((List UInt8) × ((List UInt8) × (Int × (Int × (Int × Int))))))] : (List ((List UInt8) × ((List UInt8) × (Int × (Int × (Int × Int))))))), imm (TR.pair TR.str (TR.pair TR.int TR.int)) v14 ((([97] : List UInt8), (5 : Int), (0 : Int)) : ((List UInt8) × (Int × Int))), imm (TR.pair TR.str (TR.pair TR.int TR.int)) v15 ((([98] : List UInt8), (9 : Int), (0 : Int)) : ((List UInt8) × (Int × Int))), own 38 (TR.pair TR.str (TR.pair TR.int TR.int)) v16 ([((([97] : List UInt8), (5 : Int), (0 : Int)) : ((List UInt8) × (Int × Int))), ((([98] : List UInt8), (9 : Int), (0 : Int)) : ((List UInt8) × (Int × Int)))] : (List ((List UInt8) × (Int × Int)))), own 3 TR.int v19 y17.1, own 38 (TR.pair TR.str (TR.pair TR.int TR.int)) v20 y17.2.1, own 3 TR.int v50 ([(1 : Int)] : (List Int)), imm (TR.pair TR.str (TR.pair TR.int TR.int)) v54 ((([97] : List UInt8), (14 : Int), (0 : Int)) : ((List UInt8) × (Int × Int))), imm (TR.pair TR.str (TR.pair TR.int TR.int)) v55 ((([98] : List UInt8), (0 : Int), (1 : Int)) : ((List UInt8) × (Int × Int))), own 38 (TR.pair TR.str (TR.pair TR.int TR.int)) v56 ([((([97] : List UInt8), (14 : Int), (0 : Int)) : ((List UInt8) × (Int × Int))), ((([98] : List UInt8), (0 : Int), (1 : Int)) : ((List UInt8) × (Int × Int)))] : (List ((List UInt8) × (Int × Int))))]) rfl ?_
    obtain ⟨y57, e58, h44⟩ := bind_some h44
    refine RL.callV (v := .bool y57) (vs := [v20, v56]) Try_fit29 rfl (Or.inl rfl) rfl rfl rfl rfl (fun U w hU hW hL => slices_Equal_api_Account_api_Account_c U w hU _ _ (hL 7 _ _ rfl Seen.own) _ _ (hL 11 _ _ rfl Seen.own) _ e58) ?_
    refine RL.pickT rfl rfl rfl rfl ?_
    refine RL.asg rfl rfl rfl ?_
    refine RL.fin ?_
    cases h44
    exact fun a w st => mid_intro y57 h45 (St.cut [] ⟨rfl, trivial⟩ (by decide) rfl st)
   replace h44 := ite_f b53 h44
   refine RL.skip rfl rfl ?_
   refine RL.skip rfl rfl ?_
   refine RL.skip rfl rfl ?_
   refine RL.skip rfl rfl ?_
   refine RL.skip rfl rfl ?_
   refine RL.pickF rfl rfl rfl rfl ?_
   refine RL.asg rfl rfl rfl ?_
   refine RL.fin ?_
   cases h44
   exact fun a w st => mid_intro false h45 (St.cut [] ⟨rfl, trivial⟩ (by decide) rfl st)
  replace h44 := ite_f b49 h44
  refine RL.skip rfl rfl ?_
  refine RL.skip rfl rfl ?_
  refine RL.skip rfl rfl ?_
  refine RL.pickF rfl rfl rfl rfl ?_
  refine RL.mv rfl rfl rfl ?_
  refine RL.skip rfl rfl ?_
  refine RL.skip rfl rfl ?_
  refine RL.skip rfl rfl ?_
  refine RL.skip rfl rfl ?_
  refine RL.skip rfl rfl ?_
  refine RL.pickF rfl rfl rfl rfl ?_
  refine RL.asg rfl rfl rfl ?_
  refine RL.fin ?_
  cases h44
  exact fun a w st => mid_intro false h45 (St.cut [] ⟨rfl, trivial⟩ (by decide) rfl st)
 rintro x41 h59
 have h60 := h46 _ h59
 try dsimp only at h60
 refine GL.weak (env' := [(0, .bool x41)]) (L' := []) (fun _ _ st => st) ?_
 have h60 := Option.some.inj h60
 subst h60
 exact GL.ret (Gx.ret (v := .bool x41) (res1 rfl rfl) (fun a w st => st.toPostV))

set_option maxHeartbeats 4000000 in
theorem slices_Index_int_int_c (S : Hp) (w : World) (hS : S.sub w) (v0 : Value) (x0 : (List Int)) (k0 : ((TR.sl TR.int)).vrep S v0 x0) (x1 : Int) (res : Int) (hm : slices_Index_int_int_m x0 x1 = some res) : Calls Try.prog 58 #[v0, .int .i64 x1] w (PostC w (.int .i64 res)) := by
 refine calls_enter 19 Try.func58 Try.ntmps58 rfl S true [(0, v0), (1, .int .i64 x1)] [imm (TR.sl TR.int) v0 x0] rfl ⟨rfl, ⟨rfl, trivial⟩⟩ hS ⟨k0, trivial⟩ ?_
 unfold slices_Index_int_int_m at hm
 refine GL.seq ?_
 refine GL.region ?_
 refine RL.asg rfl rfl rfl ?_
 refine RL.finG ?_
 refine GL.seq ?_
 refine GL.seq ?_
 refine GL.region ?_
 refine RL.mv rfl rfl rfl ?_
 refine RL.lenS 0 Try.underlying41 rfl rfl rfl rfl SlOf.imm ?_
 refine RL.mv rfl rfl rfl ?_
 refine RL.finG ?_
 refine GL.open_ 0 rfl (fun S h => len_imm S h) (fun n8 => ?_)
 obtain ⟨y9, K10, h11, h12, h13, h14, h15⟩ := bindR_K hm
 refine GL.join (ι := Unit) (fun (p : Unit) => []) (fun (p : Unit) => []) (fun (p : Unit) => K10 (.nx ())) ?_ ?_
 ·refine GL.block ?_
  refine GL.loop (ι := Nat × (List Int)) (fun (p : Nat × (List Int)) => [(0, v0), (1, .int .i64 x1), (7, .int .i64 ((x0).length : Int)), (8, .int .i64 (p.1 : Int))]) (fun (p : Nat × (List Int)) => [imm (TR.sl TR.int) v0 x0]) (fun (p : Nat × (List Int)) => p.1 + p.2.length = (x0).length ∧ List.drop p.1 x0 = p.2 ∧ rangeL (slices_Index_int_int_b1 x1) p.2 p.1 () = some y9) (fun (p : Nat × (List Int)) => p.2.length) (0, x0) ⟨by simp, by simp, h11⟩ (fun a w st => St.cut [0] ⟨rfl, rfl, rfl, rfl, trivial⟩ (by decide) rfl st) ?_
  rintro ⟨i17, r18⟩ ⟨h23, h24, h22⟩
  try dsimp only at h23 h24 h22
  refine GL.weak (env' := [(0, v0), (1, .int .i64 x1), (7, .int .i64 ((x0).length : Int)), (8, .int .i64 (i17 : Int))]) (L' := [imm (TR.sl TR.int) v0 x0]) (fun _ _ st => st) ?_
  refine GL.seq ?_
  refine GL.region ?_
  refine RL.binI (v := .bool (decide ((i17 : Int) < ((x0).length : Int)))) rfl rfl rfl rfl rfl ?_
  refine RL.finG ?_
  refine GL.seq ?_
  refine GL.cond rfl (fun b25 => ?_) (fun b25 => ?_)
  ·have h26 : i17 < (x0).length := by have := of_decide_eq_true b25; omega
   obtain ⟨y27, r29, hr, e28, h30⟩ := drop_cons h24 rfl h26
   subst hr
   obtain ⟨z19, h20, h21⟩ := rangeL_some h22
   unfold slices_Index_int_int_b1 at h20
   try dsimp only at h20
   refine GL.skip ?_
   refine GL.seq ?_
   refine GL.block ?_
   refine GL.seq ?_
   refine GL.region ?_
   refine RL.mv rfl rfl rfl ?_
   refine RL.asg rfl rfl rfl ?_
   refine RL.finG ?_
   refine GL.seq ?_
   refine GL.region ?_
   refine RL.mv rfl rfl rfl ?_
   refine RL.mv rfl rfl rfl ?_
   refine RL.mv rfl rfl rfl ?_
   refine RL.idxS (sz := 1) 0 Try.underlying41 Try_ln3 rfl rfl rfl rfl rfl SlOf.imm (by omega) (by omega) ?_
   refine RL.ldSx (i := i17) (e' := y27) 0 Ex.ik Try_ln3 rfl rfl rfl rfl SlOf.imm e28 Part.self ?_
   refine RL.binI (v := .bool (x1 == y27)) rfl rfl rfl rfl rfl ?_
   refine RL.finG ?_
   refine GL.cond rfl (fun b31 => ?_) (fun b31 => ?_)
   ·replace h20 := ite_t b31 h20
    refine GL.seq ?_
    refine GL.region ?_
    refine RL.mv rfl rfl rfl ?_
    refine RL.asg rfl rfl rfl ?_
    refine RL.finG ?_
    cases h20
    replace h21 : some (Fl.rt _) = some y9 := h21
    cases h21
    have hh := h14 _ h12
    subst hh
    exact GL.ret (Gx.ret (v := .int .i64 (i17 : Int)) (res1 rfl rfl) (fun a w st => st.toPostC rfl))
   replace h20 := ite_f b31 h20
   refine GL.skip ?_
   refine GL.nilB ?_
   refine GL.region ?_
   refine RL.binI (v := .int .i64 ((i17 + 1 : Nat) : Int)) rfl rfl rfl rfl (binI_succ i17 (by omega)) ?_
   refine RL.mv rfl rfl rfl ?_
   refine RL.fin ?_
   cases h20
   exact fun a w st => lop_intro (i17 + 1, r29) ⟨by show i17 + 1 + r29.length = (x0).length; simp only [List.length_cons] at h23; omega, h30, h21⟩ (by simp) (St.cut [0] ⟨rfl, rfl, rfl, rfl, trivial⟩ (by decide) rfl st)
  have h26 : ¬ i17 < (x0).length := by have := of_decide_eq_false b25; omega
  obtain rfl : r18 = [] := by rw [← h24]; exact List.drop_of_length_le (by omega)
  replace h22 : some (Fl.nx _) = some y9 := h22
  cases h22
  exact GL.exit (fun a w st => mid_intro () h12 (St.cut [] trivial (by decide) rfl st))
 rintro ⟨⟩ h32
 have h33 := h13 _ h32
 try dsimp only at h33
 refine GL.weak (env' := []) (L' := []) (fun _ _ st => st) ?_
 refine GL.seq ?_
 refine GL.region ?_
 refine RL.asg rfl rfl rfl ?_
 refine RL.finG ?_
 have h33 := Option.some.inj h33
 subst h33
 exact GL.ret (Gx.ret (v := .int .i64 (-1 : Int)) (res1 rfl rfl) (fun a w st => st.toPostC rfl))

set_option maxHeartbeats 4000000 in
theorem slices_Contains_int_int_c (S : Hp) (w : World) (hS : S.sub w) (v0 : Value) (x0 : (List Int)) (k0 : ((TR.sl TR.int)).vrep S v0 x0) (x1 : Int) (res : Bool) (hm : slices_Contains_int_int_m x0 x1 = some res) : Calls Try.prog 27 #[v0, .int .i64 x1] w (PostC w (.bool res)) := by
 refine calls_enter 9 Try.func27 Try.ntmps27 rfl S true [(0, v0), (1, .int .i64 x1)] [imm (TR.sl TR.int) v0 x0] rfl ⟨rfl, ⟨rfl, trivial⟩⟩ hS ⟨k0, trivial⟩ ?_
 unfold slices_Contains_int_int_m at hm
 refine GL.seq ?_
 refine GL.region ?_
 refine RL.asg rfl rfl rfl ?_
 refine RL.finG ?_
 refine GL.seq ?_
 refine GL.region ?_
 refine RL.mv rfl rfl rfl ?_
 refine RL.mv rfl rfl rfl ?_
 obtain ⟨y5, e6, hm⟩ := bind_some hm
 refine RL.callC (v := .int .i64 y5) (vs := [v0, .int .i64 x1]) Try_fit58 rfl rfl rfl rfl (fun U w hU hW hL => slices_Index_int_int_c U w hU _ _ (hL 0 _ _ rfl Seen.imm) x1 _ e6) ?_
 refine RL.binI (v := .bool (decide (y5 ≥ (0 : Int)))) rfl rfl rfl rfl rfl ?_
 refine RL.asg rfl rfl rfl ?_
 refine RL.finG ?_
 have hm := Option.some.inj hm
 subst hm
 exact GL.ret (Gx.ret (v := .bool (decide (y5 ≥ (0 : Int)))) (res1 rfl rfl) (fun a w st => st.toPostC rfl))

set_option maxHeartbeats 4000000 in
theorem pick_Replay_c (S : Hp) (w : World) (hS : S.sub w) (v0 : Value) (x0 : (List ((List UInt8) × ((List UInt8) × (Int × (Int × (Int × Int))))))) (k0 : ((TR.sl (TR.pair TR.str (TR.pair TR.str (TR.pair TR.int (TR.pair TR.int (TR.pair TR.int TR.int))))))).vrep S v0 x0) (v1 : Value) (x1 : (List ((List UInt8) × (Int × Int)))) (k1 : ((TR.sl (TR.pair TR.str (TR.pair TR.int TR.int)))).vrep S v1 x1) (x2 : (List UInt8)) (res : (List ((List UInt8) × (Int × Int))) × Int × Int) (hm : pick_Replay_m x0 x1 x2 = some res) : Calls Try.prog 28 #[v0, v1, .string ⟨(x2 : List UInt8).toArray⟩] w (Post w S (fun (o : Value) => .tuple #[o, .int .i64 res.2.1, .int .i64 res.2.2]) (fun (o : Value) => [own 38 (TR.pair TR.str (TR.pair TR.int TR.int)) o res.1])) := by
 refine calls_enter 46 Try.func28 Try.ntmps28 rfl S false [(0, v0), (1, v1), (2, .string ⟨(x2 : List UInt8).toArray⟩)] [imm (TR.sl (TR.pair TR.str (TR.pair TR.str (TR.pair TR.int (TR.pair TR.int (TR.pair TR.int TR.int)))))) v0 x0, imm (TR.sl (TR.pair TR.str (TR.pair TR.int TR.int))) v1 x1] rfl ⟨rfl, ⟨rfl, ⟨rfl, trivial⟩⟩⟩ hS ⟨k0, ⟨k1, trivial⟩⟩ ?_
 unfold pick_Replay_m at hm
 refine GL.seq ?_
 refine GL.region ?_
 refine RL.asg rfl rfl rfl ?_
 refine RL.asg rfl rfl rfl ?_
 refine RL.asg rfl rfl rfl ?_
 refine RL.finG ?_
 refine GL.seq ?_
 refine GL.seq ?_
 refine GL.region ?_
 refine RL.mv rfl rfl rfl ?_
 obtain ⟨y6, e7, hm⟩ := bind_some hm
 refine RL.callV (v := .int .i64 y6) (vs := [v1]) Try_fit51 rfl (Or.inl rfl) rfl rfl rfl rfl (fun U w hU hW hL => ledger_Check_c U w hU _ _ (hL 1 _ _ rfl Seen.imm) _ e7) ?_
 refine RL.asg rfl rfl rfl ?_
 refine RL.finG ?_
 refine GL.seq ?_
 refine GL.region ?_
 refine RL.mv rfl rfl rfl ?_
 refine RL.binI (v := .bool (y6 != (0 : Int))) rfl rfl rfl rfl rfl ?_
 refine RL.finG ?_
 refine GL.cond rfl (fun b8 => ?_) (fun b8 => ?_)
 ·replace hm := ite_t b8 hm
  refine GL.seq ?_
  refine GL.region ?_
  refine RL.mv rfl rfl rfl ?_
  refine RL.asg rfl rfl rfl ?_
  refine RL.asg rfl rfl rfl ?_
  refine RL.asg rfl rfl rfl ?_
  refine RL.finG ?_
  refine GL.weak (fun a w st => st.nilOwn 38 (TR.pair TR.str (TR.pair TR.int TR.int))) ?_
  have hm := Option.some.inj hm
  subst hm
  exact GL.ret (Gx.ret (v := .tuple #[Value.slice none 0 0, .int .i64 (0 : Int), .int .i64 y6]) (res3 rfl rfl rfl rfl) (fun a w st => (st.pick [2] (by decide) rfl).toPost (Value.slice none 0 0)))
 replace hm := ite_f b8 hm
 refine GL.skip ?_
 refine GL.seq ?_
 refine GL.region ?_
 refine RL.bS (t := (TR.pair TR.str (TR.pair TR.int TR.int))) (vs := []) ([] : (List ((List UInt8) × (Int × Int)))) Try.underlying34 Try_lo38 rfl rfl rfl rfl trivial rfl (by decide) ?_
 intro v13
 refine RL.mv rfl rfl rfl ?_
 obtain ⟨y14, e15, hm⟩ := bind_some hm
 replace e15 := chk_some e15
 refine RL.app 2 1 Try.underlying34 Try_lo38 rfl rfl rfl rfl rfl rfl rfl SlOf.imm e15 ?_
 intro v16
 refine RL.reL (L' := [imm (TR.sl (TR.pair TR.str (TR.pair TR.str (TR.pair TR.int (TR.pair TR.int (TR.pair TR.int TR.int)))))) v0 x0, imm (TR.sl (TR.pair TR.str (TR.pair TR.int TR.int))) v1 x1, own 38 (TR.pair TR.str (TR.pair TR.int TR.int)) v16 (([] : (List ((List UInt8) × (Int × Int)))) ++ x1)]) rfl ?_
 refine RL.asg rfl rfl rfl ?_
 refine RL.finG ?_
 refine GL.seq ?_
 refine GL.seq ?_
 refine GL.region ?_
 refine RL.mv rfl rfl rfl ?_
 refine RL.lenS 0 Try.underlying22 rfl rfl rfl rfl SlOf.imm ?_
 refine RL.mv rfl rfl rfl ?_
 refine RL.finG ?_
 refine GL.open_ 0 rfl (fun S h => len_imm S h) (fun n36 => ?_)
 obtain ⟨y37, K38, h39, h40, h41, h42, h43⟩ := bindR_K hm
 refine GL.join (ι := (List ((List UInt8) × (Int × Int))) × Value) (fun (p : (List ((List UInt8) × (Int × Int))) × Value) => [(0, v0), (10, p.2)]) (fun (p : (List ((List UInt8) × (Int × Int))) × Value) => [imm (TR.sl (TR.pair TR.str (TR.pair TR.str (TR.pair TR.int (TR.pair TR.int (TR.pair TR.int TR.int)))))) v0 x0, own 38 (TR.pair TR.str (TR.pair TR.int TR.int)) p.2 p.1]) (fun (p : (List ((List UInt8) × (Int × Int))) × Value) => K38 (.nx p.1)) ?_ ?_
 ·refine GL.block ?_
  refine GL.loop (ι := Nat × (List ((List UInt8) × ((List UInt8) × (Int × (Int × (Int × Int)))))) × (List ((List UInt8) × (Int × Int))) × Value) (fun (p : Nat × (List ((List UInt8) × ((List UInt8) × (Int × (Int × (Int × Int)))))) × (List ((List UInt8) × (Int × Int))) × Value) => [(0, v0), (2, .string ⟨(x2 : List UInt8).toArray⟩), (10, p.2.2.2), (23, v0), (24, .int .i64 ((x0).length : Int)), (25, .int .i64 (p.1 : Int))]) (fun (p : Nat × (List ((List UInt8) × ((List UInt8) × (Int × (Int × (Int × Int)))))) × (List ((List UInt8) × (Int × Int))) × Value) => [imm (TR.sl (TR.pair TR.str (TR.pair TR.str (TR.pair TR.int (TR.pair TR.int (TR.pair TR.int TR.int)))))) v0 x0, own 38 (TR.pair TR.str (TR.pair TR.int TR.int)) p.2.2.2 p.2.2.1]) (fun (p : Nat × (List ((List UInt8) × ((List UInt8) × (Int × (Int × (Int × Int)))))) × (List ((List UInt8) × (Int × Int))) × Value) => p.1 + p.2.1.length = (x0).length ∧ List.drop p.1 x0 = p.2.1 ∧ rangeL (pick_Replay_b1 x2) p.2.1 p.1 p.2.2.1 = some y37) (fun (p : Nat × (List ((List UInt8) × ((List UInt8) × (Int × (Int × (Int × Int)))))) × (List ((List UInt8) × (Int × Int))) × Value) => p.2.1.length) (0, x0, (([] : (List ((List UInt8) × (Int × Int)))) ++ x1), v16) ⟨by simp, by simp, h39⟩ (fun a w st => St.cut [0, 2] ⟨rfl, rfl, rfl, rfl, rfl, rfl, trivial⟩ (by decide) rfl st) ?_
  rintro ⟨i44, r45, l17, v18⟩ ⟨h50, h51, h49⟩
  try dsimp only at h50 h51 h49
  refine GL.weak (env' := [(0, v0), (2, .string ⟨(x2 : List UInt8).toArray⟩), (10, v18), (23, v0), (24, .int .i64 ((x0).length : Int)), (25, .int .i64 (i44 : Int))]) (L' := [imm (TR.sl (TR.pair TR.str (TR.pair TR.str (TR.pair TR.int (TR.pair TR.int (TR.pair TR.int TR.int)))))) v0 x0, own 38 (TR.pair TR.str (TR.pair TR.int TR.int)) v18 l17]) (fun _ _ st => st) ?_
  refine GL.seq ?_
  refine GL.region ?_
  refine RL.binI (v := .bool (decide ((i44 : Int) < ((x0).length : Int)))) rfl rfl rfl rfl rfl ?_
  refine RL.finG ?_
  refine GL.seq ?_
  refine GL.cond rfl (fun b52 => ?_) (fun b52 => ?_)
  ·have h53 : i44 < (x0).length := by have := of_decide_eq_true b52; omega
   obtain ⟨y54, r56, hr, e55, h57⟩ := drop_cons h51 rfl h53
   subst hr
   obtain ⟨z46, h47, h48⟩ := rangeL_some h49
   unfold pick_Replay_b1 at h47
   try dsimp only at h47
   refine GL.skip ?_
   refine GL.seq ?_
   refine GL.block ?_
   refine GL.seq ?_
   refine GL.region ?_
   refine RL.mv rfl rfl rfl ?_
   refine RL.idxS (sz := 6) 0 Try.underlying22 Try_ln25 rfl rfl rfl rfl rfl SlOf.imm (by omega) (by omega) ?_
   refine RL.ldS (i := i44) (r := (TR.pair TR.str (TR.pair TR.str (TR.pair TR.int (TR.pair TR.int (TR.pair TR.int TR.int)))))) (e' := y54) 0 Try_ln25 rfl rfl rfl rfl SlOf.imm e55 Part.self ?_
   intro v60
   refine RL.alloc (t := (TR.pair TR.str (TR.pair TR.str (TR.pair TR.int (TR.pair TR.int (TR.pair TR.int TR.int)))))) (z := (([] : List UInt8), ([] : List UInt8), (0 : Int), (0 : Int), (0 : Int), (0 : Int))) Try_lo25 (fun S => ⟨[.string ⟨#[]⟩], _, rfl, rfl, ⟨[.string ⟨#[]⟩], _, rfl, rfl, ⟨[.int .i64 0], _, rfl, rfl, ⟨[.int .i64 0], _, rfl, rfl, ⟨[.int .i64 0], _, rfl, rfl, rfl⟩⟩⟩⟩⟩) rfl rfl rfl ?_
   intro v61
   refine RL.reL (L' := [imm (TR.sl (TR.pair TR.str (TR.pair TR.str (TR.pair TR.int (TR.pair TR.int (TR.pair TR.int TR.int)))))) v0 x0, own 38 (TR.pair TR.str (TR.pair TR.int TR.int)) v18 l17, imm (TR.pair TR.str (TR.pair TR.str (TR.pair TR.int (TR.pair TR.int (TR.pair TR.int TR.int))))) v60 y54, obox 25 (TR.pair TR.str (TR.pair TR.str (TR.pair TR.int (TR.pair TR.int (TR.pair TR.int TR.int))))) v61 (([] : List UInt8), ([] : List UInt8), (0 : Int), (0 : Int), (0 : Int), (0 : Int))]) rfl ?_
   refine RL.asg rfl rfl rfl ?_
   refine RL.stP (off := 0) (e' := y54) (d1 := y54) (r := (TR.pair TR.str (TR.pair TR.str (TR.pair TR.int (TR.pair TR.int (TR.pair TR.int TR.int)))))) 3 Try_ln25 rfl rfl (Or.inr ⟨rfl, rfl⟩) rfl (VR.item 2 rfl) rfl Upd.self ?_
   refine RL.finG ?_
   refine GL.seq ?_
   refine GL.region ?_
   refine RL.mv rfl rfl rfl ?_
   refine RL.ldP (off := 0) (r := (TR.pair TR.str (TR.pair TR.str (TR.pair TR.int (TR.pair TR.int (TR.pair TR.int TR.int)))))) (e' := y54) 3 Try_ln25 rfl rfl (Or.inr ⟨rfl, rfl⟩) rfl PtOf.obox Part.self ?_
   intro v66
   refine RL.reL (L' := [imm (TR.sl (TR.pair TR.str (TR.pair TR.str (TR.pair TR.int (TR.pair TR.int (TR.pair TR.int TR.int)))))) v0 x0, own 38 (TR.pair TR.str (TR.pair TR.int TR.int)) v18 l17, imm (TR.pair TR.str (TR.pair TR.str (TR.pair TR.int (TR.pair TR.int (TR.pair TR.int TR.int))))) v60 y54, obox 25 (TR.pair TR.str (TR.pair TR.str (TR.pair TR.int (TR.pair TR.int (TR.pair TR.int TR.int))))) v61 y54, imm (TR.pair TR.str (TR.pair TR.str (TR.pair TR.int (TR.pair TR.int (TR.pair TR.int TR.int))))) v66 y54]) rfl ?_
   refine RL.mv rfl rfl rfl ?_
   obtain ⟨y67, e68, h47⟩ := bind_some h47
   refine RL.callU (vs := [v18, v66, .string ⟨(x2 : List UInt8).toArray⟩]) (LR := fun (o : Value) => [own 38 (TR.pair TR.str (TR.pair TR.int TR.int)) o y67.1]) (fun o => ⟨Loc.own (TR.flatT_pair TR.flatT_str (TR.flatT_pair TR.flatT_ik TR.flatT_ik)), trivial⟩) Try_fit26 rfl rfl rfl rfl rfl (fun U w hU hW hL => ledger_Take_c U w hU _ _ (hL 1 _ _ rfl Seen.own) _ _ (hL 4 _ _ rfl Seen.imm) x2 _ e68) ?_
   intro v69
   refine RL.mv rfl rfl rfl ?_
   refine RL.ext rfl rfl rfl rfl ?_
   refine RL.ext rfl rfl rfl rfl ?_
   refine RL.asg rfl rfl rfl ?_
   refine RL.asg rfl rfl rfl ?_
   refine RL.finG ?_
   refine GL.seq ?_
   refine GL.seq ?_
   refine GL.region ?_
   refine RL.mv rfl rfl rfl ?_
   refine RL.binI (v := .bool (y67.2 != (0 : Int))) rfl rfl rfl rfl rfl ?_
   refine RL.finG ?_
   refine GL.cond rfl (fun b70 => ?_) (fun b70 => ?_)
   ·replace h47 := ite_t b70 h47
    refine GL.seq ?_
    refine GL.region ?_
    refine RL.mv rfl rfl rfl ?_
    refine RL.mv rfl rfl rfl ?_
    refine RL.asg rfl rfl rfl ?_
    refine RL.asg rfl rfl rfl ?_
    refine RL.asg rfl rfl rfl ?_
    refine RL.finG ?_
    refine GL.weak (fun a w st => st.nilOwn 38 (TR.pair TR.str (TR.pair TR.int TR.int))) ?_
    cases h47
    replace h48 : some (Fl.rt _) = some y37 := h48
    cases h48
    have hh := h42 _ h40
    subst hh
    exact GL.ret (Gx.ret (v := .tuple #[Value.slice none 0 0, .int .i64 (i44 : Int), .int .i64 y67.2]) (res3 rfl rfl rfl rfl) (fun a w st => (st.pick [6] (by decide) rfl).toPost (Value.slice none 0 0)))
   replace h47 := ite_f b70 h47
   refine GL.skip ?_
   refine GL.region ?_
   refine RL.mv rfl rfl rfl ?_
   refine RL.asg rfl rfl rfl ?_
   refine RL.finG ?_
   refine GL.nilB ?_
   refine GL.region ?_
   refine RL.binI (v := .int .i64 ((i44 + 1 : Nat) : Int)) rfl rfl rfl rfl (binI_succ i44 (by omega)) ?_
   refine RL.mv rfl rfl rfl ?_
   refine RL.fin ?_
   cases h47
   exact fun a w st => lop_intro (i44 + 1, r56, y67.1, v69) ⟨by show i44 + 1 + r56.length = (x0).length; simp only [List.length_cons] at h50; omega, h57, h48⟩ (by simp) (St.cut [0, 5] ⟨rfl, rfl, rfl, rfl, rfl, rfl, trivial⟩ (by decide) rfl st)
  have h53 : ¬ i44 < (x0).length := by have := of_decide_eq_false b52; omega
  obtain rfl : r45 = [] := by rw [← h51]; exact List.drop_of_length_le (by omega)
  replace h49 : some (Fl.nx _) = some y37 := h49
  cases h49
  exact GL.exit (fun a w st => mid_intro (l17, v18) h40 (St.cut [0, 1] ⟨rfl, rfl, trivial⟩ (by decide) rfl st))
 rintro ⟨l17, v18⟩ h71
 have h72 := h41 _ h71
 try dsimp only at h72
 refine GL.weak (env' := [(0, v0), (10, v18)]) (L' := [imm (TR.sl (TR.pair TR.str (TR.pair TR.str (TR.pair TR.int (TR.pair TR.int (TR.pair TR.int TR.int)))))) v0 x0, own 38 (TR.pair TR.str (TR.pair TR.int TR.int)) v18 l17]) (fun _ _ st => st) ?_
 refine GL.seq ?_
 refine GL.region ?_
 refine RL.mv rfl rfl rfl ?_
 refine RL.mv rfl rfl rfl ?_
 refine RL.lenS 0 Try.underlying22 rfl rfl rfl rfl SlOf.imm ?_
 refine RL.asg rfl rfl rfl ?_
 refine RL.asg rfl rfl rfl ?_
 refine RL.asg rfl rfl rfl ?_
 refine RL.finG ?_
 have h72 := Option.some.inj h72
 subst h72
 exact GL.ret (Gx.ret (v := .tuple #[v18, .int .i64 ((x0).length : Int), .int .i64 (0 : Int)]) (res3 rfl rfl rfl rfl) (fun a w st => (st.pick [1] (by decide) rfl).toPost v18))

set_option maxHeartbeats 4000000 in
theorem pk_money_c (S : Hp) (w : World) (hS : S.sub w) (v0 : Value) (x0 : (List ((List UInt8) × (Int × Int)))) (k0 : ((TR.sl (TR.pair TR.str (TR.pair TR.int TR.int)))).vrep S v0 x0) (res : Int) (hm : pk_money_m x0 = some res) : Calls Try.prog 30 #[v0] w (PostV w (.int .i64 res)) := by
 refine calls_enter 18 Try.func30 Try.ntmps30 rfl S false [(0, v0)] [imm (TR.sl (TR.pair TR.str (TR.pair TR.int TR.int))) v0 x0] rfl ⟨rfl, trivial⟩ hS ⟨k0, trivial⟩ ?_
 unfold pk_money_m at hm
 refine GL.seq ?_
 refine GL.region ?_
 refine RL.asg rfl rfl rfl ?_
 refine RL.finG ?_
 refine GL.seq ?_
 refine GL.region ?_
 refine RL.asg rfl rfl rfl ?_
 refine RL.finG ?_
 refine GL.seq ?_
 refine GL.seq ?_
 refine GL.region ?_
 refine RL.mv rfl rfl rfl ?_
 refine RL.lenS 0 Try.underlying34 rfl rfl rfl rfl SlOf.imm ?_
 refine RL.mv rfl rfl rfl ?_
 refine RL.finG ?_
 refine GL.open_ 0 rfl (fun S h => len_imm S h) (fun n11 => ?_)
 obtain ⟨y12, K13, h14, h15, h16, h17, h18⟩ := bindR_K hm
 refine GL.join (ι := Int) (fun (p : Int) => [(3, .int .i64 p)]) (fun (p : Int) => []) (fun (p : Int) => K13 (.nx p)) ?_ ?_
 ·refine GL.block ?_
  refine GL.loop (ι := Nat × (List ((List UInt8) × (Int × Int))) × Int) (fun (p : Nat × (List ((List UInt8) × (Int × Int))) × Int) => [(3, .int .i64 p.2.2), (6, v0), (7, .int .i64 ((x0).length : Int)), (8, .int .i64 (p.1 : Int))]) (fun (p : Nat × (List ((List UInt8) × (Int × Int))) × Int) => [imm (TR.sl (TR.pair TR.str (TR.pair TR.int TR.int))) v0 x0]) (fun (p : Nat × (List ((List UInt8) × (Int × Int))) × Int) => p.1 + p.2.1.length = (x0).length ∧ List.drop p.1 x0 = p.2.1 ∧ rangeL pk_money_b1 p.2.1 p.1 p.2.2 = some y12) (fun (p : Nat × (List ((List UInt8) × (Int × Int))) × Int) => p.2.1.length) (0, x0, (0 : Int)) ⟨by simp, by simp, h14⟩ (fun a w st => St.cut [0] ⟨rfl, rfl, rfl, rfl, trivial⟩ (by decide) rfl st) ?_
  rintro ⟨i19, r20, x2⟩ ⟨h25, h26, h24⟩
  try dsimp only at h25 h26 h24
  refine GL.weak (env' := [(3, .int .i64 x2), (6, v0), (7, .int .i64 ((x0).length : Int)), (8, .int .i64 (i19 : Int))]) (L' := [imm (TR.sl (TR.pair TR.str (TR.pair TR.int TR.int))) v0 x0]) (fun _ _ st => st) ?_
  refine GL.seq ?_
  refine GL.region ?_
  refine RL.binI (v := .bool (decide ((i19 : Int) < ((x0).length : Int)))) rfl rfl rfl rfl rfl ?_
  refine RL.finG ?_
  refine GL.seq ?_
  refine GL.cond rfl (fun b27 => ?_) (fun b27 => ?_)
  ·have h28 : i19 < (x0).length := by have := of_decide_eq_true b27; omega
   obtain ⟨y29, r31, hr, e30, h32⟩ := drop_cons h26 rfl h28
   subst hr
   obtain ⟨z21, h22, h23⟩ := rangeL_some h24
   unfold pk_money_b1 at h22
   try dsimp only at h22
   refine GL.skip ?_
   refine GL.seq ?_
   refine GL.block ?_
   refine GL.seq ?_
   refine GL.region ?_
   refine RL.idxS (sz := 3) 0 Try.underlying34 Try_ln38 rfl rfl rfl rfl rfl SlOf.imm (by omega) (by omega) ?_
   refine RL.ldS (i := i19) (r := (TR.pair TR.str (TR.pair TR.int TR.int))) (e' := y29) 0 Try_ln38 rfl rfl rfl rfl SlOf.imm e30 Part.self ?_
   intro v35
   refine RL.alloc (t := (TR.pair TR.str (TR.pair TR.int TR.int))) (z := (([] : List UInt8), (0 : Int), (0 : Int))) Try_lo38 (fun S => ⟨[.string ⟨#[]⟩], _, rfl, rfl, ⟨[.int .i64 0], _, rfl, rfl, rfl⟩⟩) rfl rfl rfl ?_
   intro v36
   refine RL.reL (L' := [imm (TR.sl (TR.pair TR.str (TR.pair TR.int TR.int))) v0 x0, imm (TR.pair TR.str (TR.pair TR.int TR.int)) v35 y29, obox 38 (TR.pair TR.str (TR.pair TR.int TR.int)) v36 (([] : List UInt8), (0 : Int), (0 : Int))]) rfl ?_
   refine RL.stP (off := 0) (e' := y29) (d1 := y29) (r := (TR.pair TR.str (TR.pair TR.int TR.int))) 2 Try_ln38 rfl rfl (Or.inr ⟨rfl, rfl⟩) rfl (VR.item 1 rfl) rfl Upd.self ?_
   refine RL.finG ?_
   refine GL.region ?_
   refine RL.mv rfl rfl rfl ?_
   refine RL.fadr (off := 0) (fo := 1) 2 Try_fld38_1 rfl rfl rfl PtOf.obox (Or.inr ⟨rfl, rfl⟩) ?_
   refine RL.ldPx (off := (0 + 1)) (e' := y29.2.1) 2 Ex.ik Try_ln3 rfl rfl (Or.inl rfl) rfl PtOf.obox (Part.snd (Part.fst Part.self)) ?_
   refine RL.binI (v := .int .i64 (wadd x2 y29.2.1)) rfl rfl rfl rfl rfl ?_
   refine RL.asg rfl rfl rfl ?_
   refine RL.finG ?_
   refine GL.nilB ?_
   refine GL.region ?_
   refine RL.binI (v := .int .i64 ((i19 + 1 : Nat) : Int)) rfl rfl rfl rfl (binI_succ i19 (by omega)) ?_
   refine RL.mv rfl rfl rfl ?_
   refine RL.fin ?_
   cases h22
   exact fun a w st => lop_intro (i19 + 1, r31, wadd x2 y29.2.1) ⟨by show i19 + 1 + r31.length = (x0).length; simp only [List.length_cons] at h25; omega, h32, h23⟩ (by simp) (St.cut [0] ⟨rfl, rfl, rfl, rfl, trivial⟩ (by decide) rfl st)
  have h28 : ¬ i19 < (x0).length := by have := of_decide_eq_false b27; omega
  obtain rfl : r20 = [] := by rw [← h26]; exact List.drop_of_length_le (by omega)
  replace h24 : some (Fl.nx _) = some y12 := h24
  cases h24
  exact GL.exit (fun a w st => mid_intro x2 h15 (St.cut [] ⟨rfl, trivial⟩ (by decide) rfl st))
 rintro x2 h37
 have h38 := h16 _ h37
 try dsimp only at h38
 refine GL.weak (env' := [(3, .int .i64 x2)]) (L' := []) (fun _ _ st => st) ?_
 refine GL.seq ?_
 refine GL.region ?_
 refine RL.mv rfl rfl rfl ?_
 refine RL.asg rfl rfl rfl ?_
 refine RL.finG ?_
 have h38 := Option.some.inj h38
 subst h38
 exact GL.ret (Gx.ret (v := .int .i64 x2) (res1 rfl rfl) (fun a w st => st.toPostV))

set_option maxHeartbeats 4000000 in
theorem pk_PickReplay_c (S : Hp) (w : World) (hS : S.sub w) (v0 : Value) (x0 : (List ((List UInt8) × ((List UInt8) × (Int × (Int × (Int × Int))))))) (k0 : ((TR.sl (TR.pair TR.str (TR.pair TR.str (TR.pair TR.int (TR.pair TR.int (TR.pair TR.int TR.int))))))).vrep S v0 x0) (v1 : Value) (x1 : (List ((List UInt8) × (Int × Int)))) (k1 : ((TR.sl (TR.pair TR.str (TR.pair TR.int TR.int)))).vrep S v1 x1) (x2 : (List UInt8)) (x3 : Int) (res : Bool) (hm : pk_PickReplay_m x0 x1 x2 x3 = some res) : Calls Try.prog 8 #[v0, v1, .string ⟨(x2 : List UInt8).toArray⟩, .int .i64 x3] w (PostV w (.bool res)) := by
 refine calls_enter 108 Try.func8 Try.ntmps8 rfl S false [(0, v0), (1, v1), (2, .string ⟨(x2 : List UInt8).toArray⟩), (3, .int .i64 x3)] [imm (TR.sl (TR.pair TR.str (TR.pair TR.str (TR.pair TR.int (TR.pair TR.int (TR.pair TR.int TR.int)))))) v0 x0, imm (TR.sl (TR.pair TR.str (TR.pair TR.int TR.int))) v1 x1] rfl ⟨rfl, ⟨rfl, ⟨rfl, ⟨rfl, trivial⟩⟩⟩⟩ hS ⟨k0, ⟨k1, trivial⟩⟩ ?_
 unfold pk_PickReplay_m at hm
 refine GL.seq ?_
 refine GL.region ?_
 refine RL.asg rfl rfl rfl ?_
 refine RL.finG ?_
 refine GL.seq ?_
 refine GL.seq ?_
 refine GL.region ?_
 obtain ⟨y7, e8, hm⟩ := bind_some hm
 refine RL.callV (v := .bool y7) (vs := []) Try_fit23 rfl (Or.inl rfl) rfl rfl rfl rfl (fun U w hU hW hL => pk_picks_c U w hU  _ e8) ?_
 refine RL.notB rfl rfl rfl ?_
 refine RL.finG ?_
 refine GL.cond rfl (fun b9 => ?_) (fun b9 => ?_)
 ·replace hm := ite_t b9 hm
  refine GL.seq ?_
  refine GL.region ?_
  refine RL.asg rfl rfl rfl ?_
  refine RL.finG ?_
  have hm := Option.some.inj hm
  subst hm
  exact GL.ret (Gx.ret (v := .bool false) (res1 rfl rfl) (fun a w st => st.toPostV))
 replace hm := ite_f b9 hm
 refine GL.skip ?_
 refine GL.seq ?_
 refine GL.region ?_
 refine RL.mv rfl rfl rfl ?_
 refine RL.mv rfl rfl rfl ?_
 refine RL.mv rfl rfl rfl ?_
 refine RL.mv rfl rfl rfl ?_
 obtain ⟨y14, e15, hm⟩ := bind_some hm
 refine RL.call (vs := [v0, v1, .string ⟨(x2 : List UInt8).toArray⟩, .int .i64 x3]) Try_fit24 rfl rfl rfl rfl rfl (fun S f w hS hW hi => pick_Build_c S w hS _ _ (hi 0 _ rfl) _ _ (hi 1 _ rfl) x2 x3 _ e15) ?_
 intro ⟨v16, v17⟩
 refine RL.mv rfl rfl rfl ?_
 refine RL.ext rfl rfl rfl rfl ?_
 refine RL.ext rfl rfl rfl rfl ?_
 refine RL.ext rfl rfl rfl rfl ?_
 refine RL.asg rfl rfl rfl ?_
 refine RL.asg rfl rfl rfl ?_
 refine RL.asg rfl rfl rfl ?_
 refine RL.finG ?_
 refine GL.seq ?_
 refine GL.seq ?_
 refine GL.region ?_
 refine RL.mv rfl rfl rfl ?_
 refine RL.binI (v := .bool (y14.2.2 != (0 : Int))) rfl rfl rfl rfl rfl ?_
 refine RL.finG ?_
 refine GL.cond rfl (fun b18 => ?_) (fun b18 => ?_)
 ·replace hm := ite_t b18 hm
  refine GL.seq ?_
  refine GL.region ?_
  refine RL.mv rfl rfl rfl ?_
  refine RL.lenS 2 Try.underlying41 rfl rfl rfl rfl SlOf.own ?_
  refine RL.mv rfl rfl rfl ?_
  refine RL.lenS 3 Try.underlying34 rfl rfl rfl rfl SlOf.own ?_
  refine RL.binI (v := .int .i64 (wadd ((y14.1).length : Int) ((y14.2.1).length : Int))) rfl rfl rfl rfl rfl ?_
  refine RL.binI (v := .bool ((wadd ((y14.1).length : Int) ((y14.2.1).length : Int)) == (0 : Int))) rfl rfl rfl rfl rfl ?_
  refine RL.asg rfl rfl rfl ?_
  refine RL.finG ?_
  have hm := Option.some.inj hm
  subst hm
  exact GL.ret (Gx.ret (v := .bool ((wadd ((y14.1).length : Int) ((y14.2.1).length : Int)) == (0 : Int))) (res1 rfl rfl) (fun a w st => st.toPostV))
 replace hm := ite_f b18 hm
 refine GL.skip ?_
 refine GL.seq ?_
 refine GL.region ?_
 refine RL.asg rfl rfl rfl ?_
 refine RL.finG ?_
 refine GL.seq ?_
 refine GL.region ?_
 refine RL.asg rfl rfl rfl ?_
 refine RL.finG ?_
 refine GL.seq ?_
 refine GL.seq ?_
 refine GL.region ?_
 refine RL.mv rfl rfl rfl ?_
 refine RL.lenS 2 Try.underlying41 rfl rfl rfl rfl SlOf.own ?_
 refine RL.mv rfl rfl rfl ?_
 refine RL.finG ?_
 refine GL.weak (fun a w st => st.nilOwn 25 (TR.pair TR.str (TR.pair TR.str (TR.pair TR.int (TR.pair TR.int (TR.pair TR.int TR.int)))))) ?_
 refine GL.weak (fun a w st => st.freeze 2 rfl) ?_
 refine GL.open_ 2 rfl (fun S h => len_imm S h) (fun n133 => ?_)
 obtain ⟨y134, K135, h136, h137, h138, h139, h140⟩ := bindR_K hm
 refine GL.join (ι := (List ((List UInt8) × ((List UInt8) × (Int × (Int × (Int × Int)))))) × Int × Value) (fun (p : (List ((List UInt8) × ((List UInt8) × (Int × (Int × (Int × Int)))))) × Int × Value) => [(1, v1), (2, .string ⟨(x2 : List UInt8).toArray⟩), (3, .int .i64 x3), (10, v17), (12, p.2.2), (13, .int .i64 p.2.1)]) (fun (p : (List ((List UInt8) × ((List UInt8) × (Int × (Int × (Int × Int)))))) × Int × Value) => [imm (TR.sl (TR.pair TR.str (TR.pair TR.int TR.int))) v1 x1, own 38 (TR.pair TR.str (TR.pair TR.int TR.int)) v17 y14.2.1, own 25 (TR.pair TR.str (TR.pair TR.str (TR.pair TR.int (TR.pair TR.int (TR.pair TR.int TR.int))))) p.2.2 p.1]) (fun (p : (List ((List UInt8) × ((List UInt8) × (Int × (Int × (Int × Int)))))) × Int × Value) => K135 (.nx (p.1, p.2.1))) ?_ ?_
 ·refine GL.block ?_
  refine GL.loop (ι := Nat × (List Int) × (List ((List UInt8) × ((List UInt8) × (Int × (Int × (Int × Int)))))) × Int × Value) (fun (p : Nat × (List Int) × (List ((List UInt8) × ((List UInt8) × (Int × (Int × (Int × Int)))))) × Int × Value) => [(0, v0), (1, v1), (2, .string ⟨(x2 : List UInt8).toArray⟩), (3, .int .i64 x3), (9, v16), (10, v17), (12, p.2.2.2.2), (13, .int .i64 p.2.2.2.1), (38, v16), (39, .int .i64 ((y14.1).length : Int)), (40, .int .i64 (p.1 : Int))]) (fun (p : Nat × (List Int) × (List ((List UInt8) × ((List UInt8) × (Int × (Int × (Int × Int)))))) × Int × Value) => [imm (TR.sl (TR.pair TR.str (TR.pair TR.str (TR.pair TR.int (TR.pair TR.int (TR.pair TR.int TR.int)))))) v0 x0, imm (TR.sl (TR.pair TR.str (TR.pair TR.int TR.int))) v1 x1, imm (TR.sl TR.int) v16 y14.1, own 38 (TR.pair TR.str (TR.pair TR.int TR.int)) v17 y14.2.1, own 25 (TR.pair TR.str (TR.pair TR.str (TR.pair TR.int (TR.pair TR.int (TR.pair TR.int TR.int))))) p.2.2.2.2 p.2.2.1]) (fun (p : Nat × (List Int) × (List ((List UInt8) × ((List UInt8) × (Int × (Int × (Int × Int)))))) × Int × Value) => p.1 + p.2.1.length = (y14.1).length ∧ List.drop p.1 y14.1 = p.2.1 ∧ rangeL (pk_PickReplay_b1 x0 y14) p.2.1 p.1 (p.2.2.1, p.2.2.2.1) = some y134) (fun (p : Nat × (List Int) × (List ((List UInt8) × ((List UInt8) × (Int × (Int × (Int × Int)))))) × Int × Value) => p.2.1.length) (0, y14.1, [], (0 : Int), Value.slice none 0 0) ⟨by simp, by simp, h136⟩ (fun a w st => St.cut [0, 1, 2, 3, 4] ⟨rfl, rfl, rfl, rfl, rfl, rfl, rfl, rfl, rfl, rfl, rfl, trivial⟩ (by decide) rfl st) ?_
  rintro ⟨i141, r142, l76, x78, v77⟩ ⟨h147, h148, h146⟩
  try dsimp only at h147 h148 h146
  refine GL.weak (env' := [(0, v0), (1, v1), (2, .string ⟨(x2 : List UInt8).toArray⟩), (3, .int .i64 x3), (9, v16), (10, v17), (12, v77), (13, .int .i64 x78), (38, v16), (39, .int .i64 ((y14.1).length : Int)), (40, .int .i64 (i141 : Int))]) (L' := [imm (TR.sl (TR.pair TR.str (TR.pair TR.str (TR.pair TR.int (TR.pair TR.int (TR.pair TR.int TR.int)))))) v0 x0, imm (TR.sl (TR.pair TR.str (TR.pair TR.int TR.int))) v1 x1, imm (TR.sl TR.int) v16 y14.1, own 38 (TR.pair TR.str (TR.pair TR.int TR.int)) v17 y14.2.1, own 25 (TR.pair TR.str (TR.pair TR.str (TR.pair TR.int (TR.pair TR.int (TR.pair TR.int TR.int))))) v77 l76]) (fun _ _ st => st) ?_
  refine GL.seq ?_
  refine GL.region ?_
  refine RL.binI (v := .bool (decide ((i141 : Int) < ((y14.1).length : Int)))) rfl rfl rfl rfl rfl ?_
  refine RL.finG ?_
  refine GL.seq ?_
  refine GL.cond rfl (fun b149 => ?_) (fun b149 => ?_)
  ·have h150 : i141 < (y14.1).length := by have := of_decide_eq_true b149; omega
   obtain ⟨y151, r153, hr, e152, h154⟩ := drop_cons h148 rfl h150
   subst hr
   obtain ⟨z143, h144, h145⟩ := rangeL_some h146
   unfold pk_PickReplay_b1 at h144
   try dsimp only at h144
   refine GL.skip ?_
   refine GL.seq ?_
   refine GL.block ?_
   refine GL.seq ?_
   refine GL.region ?_
   refine RL.mv rfl rfl rfl ?_
   refine RL.idxS (sz := 1) 2 Try.underlying41 Try_ln3 rfl rfl rfl rfl rfl SlOf.imm (by omega) (by omega) ?_
   refine RL.ldSx (i := i141) (e' := y151) 2 Ex.ik Try_ln3 rfl rfl rfl rfl SlOf.imm e152 Part.self ?_
   refine RL.asg rfl rfl rfl ?_
   refine RL.asg rfl rfl rfl ?_
   refine RL.finG ?_
   refine GL.seq ?_
   refine GL.seq ?_
   obtain ⟨y170, K171, h172, h173, h174, h175, h176⟩ := bindF_K h144
   refine GL.join (ι := Bool) (fun (p : Bool) => [(0, v0), (1, v1), (2, .string ⟨(x2 : List UInt8).toArray⟩), (3, .int .i64 x3), (9, v16), (10, v17), (12, v77), (13, .int .i64 x78), (15, .int .i64 y151), (38, v16), (39, .int .i64 ((y14.1).length : Int)), (40, .int .i64 (i141 : Int)), (59, .bool p)]) (fun (p : Bool) => [imm (TR.sl (TR.pair TR.str (TR.pair TR.str (TR.pair TR.int (TR.pair TR.int (TR.pair TR.int TR.int)))))) v0 x0, imm (TR.sl (TR.pair TR.str (TR.pair TR.int TR.int))) v1 x1, imm (TR.sl TR.int) v16 y14.1, own 38 (TR.pair TR.str (TR.pair TR.int TR.int)) v17 y14.2.1, own 25 (TR.pair TR.str (TR.pair TR.str (TR.pair TR.int (TR.pair TR.int (TR.pair TR.int TR.int))))) v77 l76]) (fun (p : Bool) => K171 (.nx p)) ?_ ?_
   ·skip
    refine GL.region ?_
    refine RL.mv rfl rfl rfl ?_
    refine RL.binI (v := .bool (decide (y151 < (0 : Int)))) rfl rfl rfl rfl rfl ?_
    refine RL.mv rfl rfl rfl ?_
    refine RL.split (t := 47) rfl (fun b177 => ?_) (fun b177 => ?_)
    ·replace h172 := ite_t b177 h172
     refine RL.skip rfl rfl ?_
     refine RL.skip rfl rfl ?_
     refine RL.skip rfl rfl ?_
     refine RL.skip rfl rfl ?_
     refine RL.pickT rfl rfl rfl rfl ?_
     refine RL.mv rfl rfl rfl ?_
     refine RL.skip rfl rfl ?_
     refine RL.skip rfl rfl ?_
     refine RL.skip rfl rfl ?_
     refine RL.skip rfl rfl ?_
     refine RL.skip rfl rfl ?_
     refine RL.pickT rfl rfl rfl rfl ?_
     refine RL.fin ?_
     cases h172
     exact fun a w st => mid_intro true h173 (St.cut [0, 1, 2, 3, 4] ⟨rfl, rfl, rfl, rfl, rfl, rfl, rfl, rfl, rfl, rfl, rfl, rfl, rfl, trivial⟩ (by decide) rfl st)
    replace h172 := ite_f b177 h172
    refine RL.mv rfl rfl rfl ?_
    refine RL.mv rfl rfl rfl ?_
    refine RL.lenS 0 Try.underlying22 rfl rfl rfl rfl SlOf.imm ?_
    refine RL.binI (v := .bool (decide (y151 ≥ ((x0).length : Int)))) rfl rfl rfl rfl rfl ?_
    refine RL.pickF rfl rfl rfl rfl ?_
    refine RL.mv rfl rfl rfl ?_
    refine RL.split (t := 53) rfl (fun b178 => ?_) (fun b178 => ?_)
    ·replace h172 := ite_t b178 h172
     refine RL.skip rfl rfl ?_
     refine RL.skip rfl rfl ?_
     refine RL.skip rfl rfl ?_
     refine RL.skip rfl rfl ?_
     refine RL.skip rfl rfl ?_
     refine RL.pickT rfl rfl rfl rfl ?_
     refine RL.fin ?_
     cases h172
     exact fun a w st => mid_intro true h173 (St.cut [0, 1, 2, 3, 4] ⟨rfl, rfl, rfl, rfl, rfl, rfl, rfl, rfl, rfl, rfl, rfl, rfl, rfl, trivial⟩ (by decide) rfl st)
    replace h172 := ite_f b178 h172
    refine RL.mv rfl rfl rfl ?_
    refine RL.mv rfl rfl rfl ?_
    obtain ⟨y179, e180, h172⟩ := bind_some h172
    replace e180 := chk_some e180
    refine RL.slc (t := TR.int) (i := 0) (j := ((i141 : Int)).toNat) (sz := 1) 2 Try.underlying41 Try_ln3 rfl rfl rfl rfl (Or.inl ⟨rfl, rfl⟩) (Or.inr ⟨_, _, rfl, by rw [Int.toNat_of_nonneg (by omega)]; rfl⟩) rfl (by omega) (by omega) ?_
    intro v181
    refine RL.mv rfl rfl rfl ?_
    obtain ⟨y182, e183, h172⟩ := bind_some h172
    refine RL.callC (v := .bool y182) (vs := [v181, .int .i64 y151]) Try_fit27 rfl rfl rfl rfl (fun U w hU hW hL => slices_Contains_int_int_c U w hU _ _ (hL 5 _ _ rfl Seen.imm) y151 _ e183) ?_
    refine RL.pickF rfl rfl rfl rfl ?_
    refine RL.fin ?_
    cases h172
    exact fun a w st => mid_intro y182 h173 (St.cut [0, 1, 2, 3, 4] ⟨rfl, rfl, rfl, rfl, rfl, rfl, rfl, rfl, rfl, rfl, rfl, rfl, rfl, trivial⟩ (by decide) rfl st)
   rintro x169 h184
   have h185 := h174 _ h184
   try dsimp only at h185
   refine GL.weak (env' := [(0, v0), (1, v1), (2, .string ⟨(x2 : List UInt8).toArray⟩), (3, .int .i64 x3), (9, v16), (10, v17), (12, v77), (13, .int .i64 x78), (15, .int .i64 y151), (38, v16), (39, .int .i64 ((y14.1).length : Int)), (40, .int .i64 (i141 : Int)), (59, .bool x169)]) (L' := [imm (TR.sl (TR.pair TR.str (TR.pair TR.str (TR.pair TR.int (TR.pair TR.int (TR.pair TR.int TR.int)))))) v0 x0, imm (TR.sl (TR.pair TR.str (TR.pair TR.int TR.int))) v1 x1, imm (TR.sl TR.int) v16 y14.1, own 38 (TR.pair TR.str (TR.pair TR.int TR.int)) v17 y14.2.1, own 25 (TR.pair TR.str (TR.pair TR.str (TR.pair TR.int (TR.pair TR.int (TR.pair TR.int TR.int))))) v77 l76]) (fun _ _ st => st) ?_
   refine GL.cond rfl (fun b186 => ?_) (fun b186 => ?_)
   ·replace h185 := ite_t b186 h185
    refine GL.seq ?_
    refine GL.region ?_
    refine RL.asg rfl rfl rfl ?_
    refine RL.finG ?_
    cases h185
    replace h145 : some (Fl.rt _) = some y134 := h145
    cases h145
    have hh := h139 _ h137
    subst hh
    exact GL.ret (Gx.ret (v := .bool false) (res1 rfl rfl) (fun a w st => st.toPostV))
   replace h185 := ite_f b186 h185
   refine GL.skip ?_
   refine GL.seq ?_
   refine GL.region ?_
   refine RL.mv rfl rfl rfl ?_
   refine RL.mv rfl rfl rfl ?_
   refine RL.mv rfl rfl rfl ?_
   obtain ⟨y194, e195, h185⟩ := bind_some h185
   refine RL.idxS (sz := 6) 0 Try.underlying22 Try_ln25 rfl rfl rfl rfl rfl SlOf.imm (idx_some e195).1 (idx_some e195).2.1 ?_
   refine RL.ldS (i := (y151).toNat) (r := (TR.pair TR.str (TR.pair TR.str (TR.pair TR.int (TR.pair TR.int (TR.pair TR.int TR.int)))))) (e' := y194) 0 Try_ln25 rfl rfl rfl rfl SlOf.imm (idx_some e195).2.2 Part.self ?_
   intro v196
   refine RL.bS (t := (TR.pair TR.str (TR.pair TR.str (TR.pair TR.int (TR.pair TR.int (TR.pair TR.int TR.int)))))) (vs := [v196]) ([y194] : (List ((List UInt8) × ((List UInt8) × (Int × (Int × (Int × Int))))))) Try.underlying22 Try_lo25 rfl rfl rfl rfl ⟨(VR.item 5 rfl), trivial⟩ rfl (by decide) ?_
   intro v197
   refine RL.reL (L' := [imm (TR.sl (TR.pair TR.str (TR.pair TR.str (TR.pair TR.int (TR.pair TR.int (TR.pair TR.int TR.int)))))) v0 x0, imm (TR.sl (TR.pair TR.str (TR.pair TR.int TR.int))) v1 x1, imm (TR.sl TR.int) v16 y14.1, own 38 (TR.pair TR.str (TR.pair TR.int TR.int)) v17 y14.2.1, own 25 (TR.pair TR.str (TR.pair TR.str (TR.pair TR.int (TR.pair TR.int (TR.pair TR.int TR.int))))) v77 l76, imm (TR.pair TR.str (TR.pair TR.str (TR.pair TR.int (TR.pair TR.int (TR.pair TR.int TR.int))))) v196 y194, own 25 (TR.pair TR.str (TR.pair TR.str (TR.pair TR.int (TR.pair TR.int (TR.pair TR.int TR.int))))) v197 ([y194] : (List ((List UInt8) × ((List UInt8) × (Int × (Int × (Int × Int)))))))]) rfl ?_
   obtain ⟨y198, e199, h185⟩ := bind_some h185
   replace e199 := chk_some e199
   refine RL.app 4 6 Try.underlying22 Try_lo25 rfl rfl rfl rfl rfl rfl rfl SlOf.own e199 ?_
   intro v200
   refine RL.asg rfl rfl rfl ?_
   refine RL.finG ?_
   refine GL.region ?_
   refine RL.mv rfl rfl rfl ?_
   refine RL.mv rfl rfl rfl ?_
   refine RL.mv rfl rfl rfl ?_
   obtain ⟨y203, e204, h185⟩ := bind_some h185
   refine RL.idxS (sz := 6) 0 Try.underlying22 Try_ln25 rfl rfl rfl rfl rfl SlOf.imm (idx_some e204).1 (idx_some e204).2.1 ?_
   refine RL.fadrS (off := ((y151).toNat * 6)) (fo := 5) 0 Try_fld25_5 rfl rfl rfl SlOf.imm (by have := (List.getElem?_eq_some_iff.1 (idx_some e204).2.2).1; omega) rfl ?_
   refine RL.ldSx (i := (y151).toNat) (e' := y203.2.2.2.2.2) 0 Ex.ik Try_ln3 rfl rfl rfl rfl SlOf.imm (idx_some e204).2.2 (Part.snd (Part.snd (Part.snd (Part.snd (Part.snd Part.self))))) ?_
   refine RL.binI (v := .int .i64 (wadd x78 y203.2.2.2.2.2)) rfl rfl rfl rfl rfl ?_
   refine RL.asg rfl rfl rfl ?_
   refine RL.finG ?_
   refine GL.nilB ?_
   refine GL.region ?_
   refine RL.binI (v := .int .i64 ((i141 + 1 : Nat) : Int)) rfl rfl rfl rfl (binI_succ i141 (by omega)) ?_
   refine RL.mv rfl rfl rfl ?_
   refine RL.fin ?_
   cases h185
   exact fun a w st => lop_intro (i141 + 1, r153, (l76 ++ ([y194] : (List ((List UInt8) × ((List UInt8) × (Int × (Int × (Int × Int)))))))), wadd x78 y203.2.2.2.2.2, v200) ⟨by show i141 + 1 + r153.length = (y14.1).length; simp only [List.length_cons] at h147; omega, h154, h145⟩ (by simp) (St.cut [0, 1, 2, 3, 4] ⟨rfl, rfl, rfl, rfl, rfl, rfl, rfl, rfl, rfl, rfl, rfl, trivial⟩ (by decide) rfl st)
  have h150 : ¬ i141 < (y14.1).length := by have := of_decide_eq_false b149; omega
  obtain rfl : r142 = [] := by rw [← h148]; exact List.drop_of_length_le (by omega)
  replace h146 : some (Fl.nx _) = some y134 := h146
  cases h146
  exact GL.exit (fun a w st => mid_intro (l76, x78, v77) h137 (St.cut [1, 3, 4] ⟨rfl, rfl, rfl, rfl, rfl, rfl, trivial⟩ (by decide) rfl st))
 rintro ⟨l76, x78, v77⟩ h205
 have h206 := h138 _ h205
 try dsimp only at h206
 refine GL.weak (env' := [(1, v1), (2, .string ⟨(x2 : List UInt8).toArray⟩), (3, .int .i64 x3), (10, v17), (12, v77), (13, .int .i64 x78)]) (L' := [imm (TR.sl (TR.pair TR.str (TR.pair TR.int TR.int))) v1 x1, own 38 (TR.pair TR.str (TR.pair TR.int TR.int)) v17 y14.2.1, own 25 (TR.pair TR.str (TR.pair TR.str (TR.pair TR.int (TR.pair TR.int (TR.pair TR.int TR.int))))) v77 l76]) (fun _ _ st => st) ?_
 refine GL.seq ?_
 refine GL.region ?_
 refine RL.mv rfl rfl rfl ?_
 refine RL.mv rfl rfl rfl ?_
 refine RL.mv rfl rfl rfl ?_
 obtain ⟨y210, e211, h206⟩ := bind_some h206
 refine RL.callU (vs := [v77, v1, .string ⟨(x2 : List UInt8).toArray⟩]) (LR := fun (o : Value) => [own 38 (TR.pair TR.str (TR.pair TR.int TR.int)) o y210.1]) (fun o => ⟨Loc.own (TR.flatT_pair TR.flatT_str (TR.flatT_pair TR.flatT_ik TR.flatT_ik)), trivial⟩) Try_fit28 rfl rfl rfl rfl rfl (fun U w hU hW hL => pick_Replay_c U w hU _ _ (hL 2 _ _ rfl Seen.own) _ _ (hL 0 _ _ rfl Seen.imm) x2 _ e211) ?_
 intro v212
 refine RL.mv rfl rfl rfl ?_
 refine RL.ext rfl rfl rfl rfl ?_
 refine RL.ext rfl rfl rfl rfl ?_
 refine RL.ext rfl rfl rfl rfl ?_
 refine RL.asg rfl rfl rfl ?_
 refine RL.asg rfl rfl rfl ?_
 refine RL.asg rfl rfl rfl ?_
 refine RL.finG ?_
 refine GL.seq ?_
 obtain ⟨y234, K235, h236, h237, h238, h239, h240⟩ := bindR_K h206
 refine GL.join (ι := Bool) (fun (p : Bool) => [(8, .bool p)]) (fun (p : Bool) => []) (fun (p : Bool) => K235 (.nx p)) ?_ ?_
 ·skip
  refine GL.region ?_
  refine RL.mv rfl rfl rfl ?_
  refine RL.binI (v := .bool (y210.2.2 == (0 : Int))) rfl rfl rfl rfl rfl ?_
  refine RL.mv rfl rfl rfl ?_
  refine RL.split (t := 85) rfl (fun b241 => ?_) (fun b241 => ?_)
  ·replace h236 := ite_t b241 h236
   refine RL.mv rfl rfl rfl ?_
   refine RL.mv rfl rfl rfl ?_
   refine RL.lenS 2 Try.underlying22 rfl rfl rfl rfl SlOf.own ?_
   refine RL.binI (v := .bool (y210.2.1 == ((l76).length : Int))) rfl rfl rfl rfl rfl ?_
   refine RL.pickT rfl rfl rfl rfl ?_
   refine RL.mv rfl rfl rfl ?_
   refine RL.split (t := 91) rfl (fun b242 => ?_) (fun b242 => ?_)
   ·replace h236 := ite_t b242 h236
    refine RL.mv rfl rfl rfl ?_
    refine RL.mv rfl rfl rfl ?_
    obtain ⟨y243, e244, h236⟩ := bind_some h236
    refine RL.callV (v := .bool y243) (vs := [v17, v212]) Try_fit29 rfl (Or.inl rfl) rfl rfl rfl rfl (fun U w hU hW hL => slices_Equal_api_Account_api_Account_c U w hU _ _ (hL 1 _ _ rfl Seen.own) _ _ (hL 3 _ _ rfl Seen.own) _ e244) ?_
    refine RL.pickT rfl rfl rfl rfl ?_
    refine RL.mv rfl rfl rfl ?_
    refine RL.split (t := 96) rfl (fun b245 => ?_) (fun b245 => ?_)
    ·replace h236 := ite_t b245 h236
     refine RL.mv rfl rfl rfl ?_
     refine RL.mv rfl rfl rfl ?_
     refine RL.binI (v := .bool (decide (x78 ≤ x3))) rfl rfl rfl rfl rfl ?_
     refine RL.pickT rfl rfl rfl rfl ?_
     refine RL.mv rfl rfl rfl ?_
     refine RL.split (t := 101) rfl (fun b246 => ?_) (fun b246 => ?_)
     ·replace h236 := ite_t b246 h236
      refine RL.mv rfl rfl rfl ?_
      obtain ⟨y247, e248, h236⟩ := bind_some h236
      refine RL.callV (v := .int .i64 y247) (vs := [v17]) Try_fit30 rfl (Or.inl rfl) rfl rfl rfl rfl (fun U w hU hW hL => pk_money_c U w hU _ _ (hL 1 _ _ rfl Seen.own) _ e248) ?_
      refine RL.mv rfl rfl rfl ?_
      obtain ⟨y249, e250, h236⟩ := bind_some h236
      refine RL.callV (v := .int .i64 y249) (vs := [v1]) Try_fit30 rfl (Or.inl rfl) rfl rfl rfl rfl (fun U w hU hW hL => pk_money_c U w hU _ _ (hL 0 _ _ rfl Seen.imm) _ e250) ?_
      refine RL.binI (v := .bool (y247 == y249)) rfl rfl rfl rfl rfl ?_
      refine RL.pickT rfl rfl rfl rfl ?_
      refine RL.asg rfl rfl rfl ?_
      refine RL.fin ?_
      cases h236
      exact fun a w st => mid_intro (y247 == y249) h237 (St.cut [] ⟨rfl, trivial⟩ (by decide) rfl st)
     replace h236 := ite_f b246 h236
     refine RL.skip rfl rfl ?_
     refine RL.skip rfl rfl ?_
     refine RL.skip rfl rfl ?_
     refine RL.skip rfl rfl ?_
     refine RL.skip rfl rfl ?_
     refine RL.pickF rfl rfl rfl rfl ?_
     refine RL.asg rfl rfl rfl ?_
     refine RL.fin ?_
     cases h236
     exact fun a w st => mid_intro false h237 (St.cut [] ⟨rfl, trivial⟩ (by decide) rfl st)
    replace h236 := ite_f b245 h236
    refine RL.skip rfl rfl ?_
    refine RL.skip rfl rfl ?_
    refine RL.skip rfl rfl ?_
    refine RL.pickF rfl rfl rfl rfl ?_
    refine RL.mv rfl rfl rfl ?_
    refine RL.skip rfl rfl ?_
    refine RL.skip rfl rfl ?_
    refine RL.skip rfl rfl ?_
    refine RL.skip rfl rfl ?_
    refine RL.skip rfl rfl ?_
    refine RL.pickF rfl rfl rfl rfl ?_
    refine RL.asg rfl rfl rfl ?_
    refine RL.fin ?_
    cases h236
    exact fun a w st => mid_intro false h237 (St.cut [] ⟨rfl, trivial⟩ (by decide) rfl st)
   replace h236 := ite_f b242 h236
   refine RL.skip rfl rfl ?_
   refine RL.skip rfl rfl ?_
   refine RL.skip rfl rfl ?_
   refine RL.pickF rfl rfl rfl rfl ?_
   refine RL.mv rfl rfl rfl ?_
   refine RL.skip rfl rfl ?_
   refine RL.skip rfl rfl ?_
   refine RL.skip rfl rfl ?_
   refine RL.pickF rfl rfl rfl rfl ?_
   refine RL.mv rfl rfl rfl ?_
   refine RL.skip rfl rfl ?_
   refine RL.skip rfl rfl ?_
   refine RL.skip rfl rfl ?_
   refine RL.skip rfl rfl ?_
   refine RL.skip rfl rfl ?_
   refine RL.pickF rfl rfl rfl rfl ?_
   refine RL.asg rfl rfl rfl ?_
   refine RL.fin ?_
   cases h236
   exact fun a w st => mid_intro false h237 (St.cut [] ⟨rfl, trivial⟩ (by decide) rfl st)
  replace h236 := ite_f b241 h236
  refine RL.skip rfl rfl ?_
  refine RL.skip rfl rfl ?_
  refine RL.skip rfl rfl ?_
  refine RL.skip rfl rfl ?_
  refine RL.pickF rfl rfl rfl rfl ?_
  refine RL.mv rfl rfl rfl ?_
  refine RL.skip rfl rfl ?_
  refine RL.skip rfl rfl ?_
  refine RL.skip rfl rfl ?_
  refine RL.pickF rfl rfl rfl rfl ?_
  refine RL.mv rfl rfl rfl ?_
  refine RL.skip rfl rfl ?_
  refine RL.skip rfl rfl ?_
  refine RL.skip rfl rfl ?_
  refine RL.pickF rfl rfl rfl rfl ?_
  refine RL.mv rfl rfl rfl ?_
  refine RL.skip rfl rfl ?_
  refine RL.skip rfl rfl ?_
  refine RL.skip rfl rfl ?_
  refine RL.skip rfl rfl ?_
  refine RL.skip rfl rfl ?_
  refine RL.pickF rfl rfl rfl rfl ?_
  refine RL.asg rfl rfl rfl ?_
  refine RL.fin ?_
  cases h236
  exact fun a w st => mid_intro false h237 (St.cut [] ⟨rfl, trivial⟩ (by decide) rfl st)
 rintro x233 h251
 have h252 := h238 _ h251
 try dsimp only at h252
 refine GL.weak (env' := [(8, .bool x233)]) (L' := []) (fun _ _ st => st) ?_
 have h252 := Option.some.inj h252
 subst h252
 exact GL.ret (Gx.ret (v := .bool x233) (res1 rfl rfl) (fun a w st => st.toPostV))
end Go.Wk
