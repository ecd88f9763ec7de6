/- Each function comes to what its model says; printed by a program of this repository. -/
import Derived.Test.YtjhhkbkhijllfaaProg
import Derived.Test.YtjhhkbkhijllfaaWLedgerKeepsModels
namespace Go.Wk
open Go.Fw Go.Mo Go.Proofs Go.RowKit
set_option linter.all false
set_option maxRecDepth 100000
theorem loopNx {ρ σ β γ : Type} {body : σ → Option (Fl ρ β σ)} {n : Nat} {s : σ} {y : Fl ρ γ β} (h : stepM body n (.nx s) = some y) : loopM body n s = some y := h
theorem Try_info3 : (Try.prog.info? 3).map (fun i => (i.zero, i.size, i.bytes)) = some (some (.int .i64 0), 1, 8) := by kernel_rfl
theorem Try_ln3 : Ln Try.prog 3 1 false := Ln.of Try_info3 Try.underlying3 rfl
theorem Try_lo3 : LnO Try.prog 3 1 [.int .i64 0] := LnO.of Try_info3 rfl rfl (by decide) (by decide)
theorem Try_info5 : (Try.prog.info? 5).map (fun i => (i.zero, i.size, i.bytes)) = some (some (.int .u8 0), 1, 1) := by kernel_rfl
theorem Try_ln5 : Ln Try.prog 5 1 false := Ln.of Try_info5 Try.underlying5 rfl
theorem Try_lo5 : LnO Try.prog 5 1 [.int .u8 0] := LnO.of Try_info5 rfl rfl (by decide) (by decide)
theorem Try_info9 : (Try.prog.info? 9).map (fun i => (i.zero, i.size, i.bytes)) = some (some (.string ⟨#[]⟩), 1, 16) := by kernel_rfl
theorem Try_ln9 : Ln Try.prog 9 1 false := Ln.of Try_info9 Try.underlying9 rfl
theorem Try_lo9 : LnO Try.prog 9 1 [.string ⟨#[]⟩] := LnO.of Try_info9 rfl rfl (by decide) (by decide)
theorem Try_info28 : (Try.prog.info? 28).map (fun i => (i.zero, i.size, i.bytes)) = some (some (.int .i64 0), 1, 8) := by kernel_rfl
theorem Try_ln28 : Ln Try.prog 28 1 false := Ln.of Try_info28 Try.underlying28 rfl
theorem Try_lo28 : LnO Try.prog 28 1 [.int .i64 0] := LnO.of Try_info28 rfl rfl (by decide) (by decide)
theorem Try_info53 : (Try.prog.info? 53).map (fun i => (i.zero, i.size, i.bytes)) = some (some (.agg #[.string ⟨#[]⟩, .string ⟨#[]⟩, .int .i64 0, .int .i64 0, .int .i64 0, .int .i64 0]), 6, 64) := by kernel_rfl
theorem Try_ln53 : Ln Try.prog 53 6 true := Ln.of Try_info53 Try.underlying53 rfl
theorem Try_lo53 : LnO Try.prog 53 6 [.string ⟨#[]⟩, .string ⟨#[]⟩, .int .i64 0, .int .i64 0, .int .i64 0, .int .i64 0] := LnO.of Try_info53 rfl rfl (by decide) (by decide)
theorem Try_info59 : (Try.prog.info? 59).map (fun i => (i.zero, i.size, i.bytes)) = some (some (.agg #[.string ⟨#[]⟩, .int .i64 0, .int .i64 0]), 3, 32) := by kernel_rfl
theorem Try_ln59 : Ln Try.prog 59 3 true := Ln.of Try_info59 Try.underlying59 rfl
theorem Try_lo59 : LnO Try.prog 59 3 [.string ⟨#[]⟩, .int .i64 0, .int .i64 0] := LnO.of Try_info59 rfl rfl (by decide) (by decide)
theorem Try_bld53 (pv : List (Nat × Value)) : Try.prog.built 53 pv = Instr.fill ((mkPlaces 0 [[.string ⟨#[]⟩], [.string ⟨#[]⟩], [.int .i64 0], [.int .i64 0], [.int .i64 0], [.int .i64 0]]).toArray[·]?) (List.flatten [[.string ⟨#[]⟩], [.string ⟨#[]⟩], [.int .i64 0], [.int .i64 0], [.int .i64 0], [.int .i64 0]]).toArray pv := by kernel_rfl
theorem Try_bld59 (pv : List (Nat × Value)) : Try.prog.built 59 pv = Instr.fill ((mkPlaces 0 [[.string ⟨#[]⟩], [.int .i64 0], [.int .i64 0]]).toArray[·]?) (List.flatten [[.string ⟨#[]⟩], [.int .i64 0], [.int .i64 0]]).toArray pv := by kernel_rfl
theorem Try_eq59 : EqT Try.prog 59 (TR.pair TR.str (TR.pair TR.int TR.int)) 2 := (EqT.struct Try.underlying59 Try.stoodInHeld59 rfl (EqF.cons (by decide) rfl Try_ln9 (EqT.str Try.underlying9) (EqF.cons (by decide) rfl Try_ln3 (EqT.int Try.underlying3) (EqF.last (by decide) rfl Try_ln3 (EqT.int Try.underlying3)))))
theorem Try_fit100 : Fit Try.prog 100 := Fit.of Try.func100 (by kernel_rfl) rfl
theorem Try_fit101 : Fit Try.prog 101 := Fit.of Try.func101 (by kernel_rfl) rfl
theorem Try_fit102 : Fit Try.prog 102 := Fit.of Try.func102 (by kernel_rfl) rfl
theorem Try_fit118 : Fit Try.prog 118 := Fit.of Try.func118 (by kernel_rfl) rfl
theorem Try_fit119 : Fit Try.prog 119 := Fit.of Try.func119 (by kernel_rfl) rfl
theorem Try_fit122 : Fit Try.prog 122 := Fit.of Try.func122 (by kernel_rfl) rfl
theorem Try_fit123 : Fit Try.prog 123 := Fit.of Try.func123 (by kernel_rfl) rfl
theorem Try_fit124 : Fit Try.prog 124 := Fit.of Try.func124 (by kernel_rfl) rfl
theorem Try_fit125 : Fit Try.prog 125 := Fit.of Try.func125 (by kernel_rfl) rfl
theorem Try_fit131 : Fit Try.prog 131 := Fit.of Try.func131 (by kernel_rfl) rfl
theorem Try_fit132 : Fit Try.prog 132 := Fit.of Try.func132 (by kernel_rfl) rfl
theorem Try_fit140 : Fit Try.prog 140 := Fit.of Try.func140 (by kernel_rfl) rfl
theorem Try_fit141 : Fit Try.prog 141 := Fit.of Try.func141 (by kernel_rfl) rfl
theorem Try_fit36 : Fit Try.prog 36 := Fit.of Try.func36 (by kernel_rfl) rfl
theorem Try_fit37 : Fit Try.prog 37 := Fit.of Try.func37 (by kernel_rfl) rfl
theorem Try_fit38 : Fit Try.prog 38 := Fit.of Try.func38 (by kernel_rfl) rfl
theorem Try_fit39 : Fit Try.prog 39 := Fit.of Try.func39 (by kernel_rfl) rfl
theorem Try_fit40 : Fit Try.prog 40 := Fit.of Try.func40 (by kernel_rfl) rfl
theorem Try_fit41 : Fit Try.prog 41 := Fit.of Try.func41 (by kernel_rfl) rfl
theorem Try_fit42 : Fit Try.prog 42 := Fit.of Try.func42 (by kernel_rfl) rfl
theorem Try_fit68 : Fit Try.prog 68 := Fit.of Try.func68 (by kernel_rfl) rfl
theorem Try_fit96 : Fit Try.prog 96 := Fit.of Try.func96 (by kernel_rfl) rfl
theorem Try_fit97 : Fit Try.prog 97 := Fit.of Try.func97 (by kernel_rfl) rfl
theorem Try_fit98 : Fit Try.prog 98 := Fit.of Try.func98 (by kernel_rfl) rfl
theorem Try_fit99 : Fit Try.prog 99 := Fit.of Try.func99 (by kernel_rfl) rfl
theorem Try_fld53_0 (ad : Addr) (w : World) : (Instr.fieldAt 53 (.pointer (some ad)) 0).run Try.prog w = .ok (.pointer (some (ad.add 0))) w := by
  simp [Instr.fieldAt, run_underlying Try.underlying53, Instr.sureAddr, fieldPlace, Fw.run_sizeOf Try_ln9]
theorem Try_fld53_1 (ad : Addr) (w : World) : (Instr.fieldAt 53 (.pointer (some ad)) 1).run Try.prog w = .ok (.pointer (some (ad.add 1))) w := by
  simp [Instr.fieldAt, run_underlying Try.underlying53, Instr.sureAddr, fieldPlace, Fw.run_sizeOf Try_ln9]
theorem Try_fld53_2 (ad : Addr) (w : World) : (Instr.fieldAt 53 (.pointer (some ad)) 2).run Try.prog w = .ok (.pointer (some (ad.add 2))) w := by
  simp [Instr.fieldAt, run_underlying Try.underlying53, Instr.sureAddr, fieldPlace, Fw.run_sizeOf Try_ln3]
theorem Try_fld53_3 (ad : Addr) (w : World) : (Instr.fieldAt 53 (.pointer (some ad)) 3).run Try.prog w = .ok (.pointer (some (ad.add 3))) w := by
  simp [Instr.fieldAt, run_underlying Try.underlying53, Instr.sureAddr, fieldPlace, Fw.run_sizeOf Try_ln3]
theorem Try_fld53_4 (ad : Addr) (w : World) : (Instr.fieldAt 53 (.pointer (some ad)) 4).run Try.prog w = .ok (.pointer (some (ad.add 4))) w := by
  simp [Instr.fieldAt, run_underlying Try.underlying53, Instr.sureAddr, fieldPlace, Fw.run_sizeOf Try_ln3]
theorem Try_fld53_5 (ad : Addr) (w : World) : (Instr.fieldAt 53 (.pointer (some ad)) 5).run Try.prog w = .ok (.pointer (some (ad.add 5))) w := by
  simp [Instr.fieldAt, run_underlying Try.underlying53, Instr.sureAddr, fieldPlace, Fw.run_sizeOf Try_ln3]
theorem Try_fld59_0 (ad : Addr) (w : World) : (Instr.fieldAt 59 (.pointer (some ad)) 0).run Try.prog w = .ok (.pointer (some (ad.add 0))) w := by
  simp [Instr.fieldAt, run_underlying Try.underlying59, Instr.sureAddr, fieldPlace, Fw.run_sizeOf Try_ln9]
theorem Try_fld59_1 (ad : Addr) (w : World) : (Instr.fieldAt 59 (.pointer (some ad)) 1).run Try.prog w = .ok (.pointer (some (ad.add 1))) w := by
  simp [Instr.fieldAt, run_underlying Try.underlying59, Instr.sureAddr, fieldPlace, Fw.run_sizeOf Try_ln3]
theorem Try_fld59_2 (ad : Addr) (w : World) : (Instr.fieldAt 59 (.pointer (some ad)) 2).run Try.prog w = .ok (.pointer (some (ad.add 2))) w := by
  simp [Instr.fieldAt, run_underlying Try.underlying59, Instr.sureAddr, fieldPlace, Fw.run_sizeOf Try_ln3]

set_option maxHeartbeats 4000000 in
theorem ledger_named_c (S : Hp) (w : World) (hS : S.sub w) (x0 : (List UInt8)) (res : Bool) (hm : ledger_named_m x0 = some res) : Calls Try.prog 99 #[.string ⟨(x0 : List UInt8).toArray⟩] w (PostV w (.bool res)) := by
 refine calls_enter 27 Try.func99 Try.ntmps99 rfl S false [(0, .string ⟨(x0 : List UInt8).toArray⟩)] [] rfl ⟨rfl, trivial⟩ hS trivial ?_
 unfold ledger_named_m at hm
 refine GL.seq ?_
 refine GL.region ?_
 refine RL.asg rfl rfl rfl ?_
 refine RL.finG ?_
 refine GL.seq ?_
 refine GL.seq ?_
 refine GL.region ?_
 refine RL.mv rfl rfl rfl ?_
 obtain ⟨y5, e6, hm⟩ := bind_some hm
 replace e6 := chk_some e6
 refine RL.cvSB Try.underlying9 Try.underlying136 Try.underlying5 rfl rfl rfl rfl e6 ?_
 intro v7
 refine RL.lenS 0 Try.underlying136 rfl rfl rfl rfl SlOf.imm ?_
 refine RL.mv rfl rfl rfl ?_
 refine RL.finG ?_
 refine GL.open_ 0 rfl (fun S h => len_imm S h) (fun n26 => ?_)
 obtain ⟨y27, K28, h29, h30, h31, h32, h33⟩ := bindR_K hm
 refine GL.join (ι := Unit) (fun (p : Unit) => [(0, .string ⟨(x0 : List UInt8).toArray⟩)]) (fun (p : Unit) => []) (fun (p : Unit) => K28 (.nx ())) ?_ ?_
 ·refine GL.block ?_
  refine GL.loop (ι := Nat × (List Int)) (fun (p : Nat × (List Int)) => [(0, .string ⟨(x0 : List UInt8).toArray⟩), (6, v7), (7, .int .i64 (((intsOf x0)).length : Int)), (8, .int .i64 (p.1 : Int))]) (fun (p : Nat × (List Int)) => [imm (TR.sl (TR.ik .u8)) v7 (intsOf x0)]) (fun (p : Nat × (List Int)) => p.1 + p.2.length = ((intsOf x0)).length ∧ List.drop p.1 (intsOf x0) = p.2 ∧ rangeL ledger_named_b1 p.2 p.1 () = some y27) (fun (p : Nat × (List Int)) => p.2.length) (0, (intsOf x0)) ⟨by simp, by simp, h29⟩ (fun a w st => St.cut [0] ⟨rfl, rfl, rfl, rfl, trivial⟩ (by decide) rfl st) ?_
  rintro ⟨i34, r35⟩ ⟨h40, h41, h39⟩
  try dsimp only at h40 h41 h39
  refine GL.weak (env' := [(0, .string ⟨(x0 : List UInt8).toArray⟩), (6, v7), (7, .int .i64 (((intsOf x0)).length : Int)), (8, .int .i64 (i34 : Int))]) (L' := [imm (TR.sl (TR.ik .u8)) v7 (intsOf x0)]) (fun _ _ st => st) ?_
  refine GL.seq ?_
  refine GL.region ?_
  refine RL.binI (v := .bool (decide ((i34 : Int) < (((intsOf x0)).length : Int)))) rfl rfl rfl rfl rfl ?_
  refine RL.finG ?_
  refine GL.seq ?_
  refine GL.cond rfl (fun b42 => ?_) (fun b42 => ?_)
  ·have h43 : i34 < ((intsOf x0)).length := by have := of_decide_eq_true b42; omega
   obtain ⟨y44, r46, hr, e45, h47⟩ := drop_cons h41 rfl h43
   subst hr
   obtain ⟨z36, h37, h38⟩ := rangeL_some h39
   unfold ledger_named_b1 at h37
   try dsimp only at h37
   refine GL.skip ?_
   refine GL.seq ?_
   refine GL.block ?_
   refine GL.seq ?_
   refine GL.region ?_
   refine RL.idxS (sz := 1) 0 Try.underlying136 Try_ln5 rfl rfl rfl rfl rfl SlOf.imm (by omega) (by omega) ?_
   refine RL.ldSx (i := i34) (e' := y44) 0 Ex.ik Try_ln5 rfl rfl rfl rfl SlOf.imm e45 Part.self ?_
   refine RL.asg rfl rfl rfl ?_
   refine RL.finG ?_
   refine GL.seq ?_
   obtain ⟨y51, K52, h53, h54, h55, h56, h57⟩ := bindF_K h37
   refine GL.join (ι := Bool) (fun (p : Bool) => [(0, .string ⟨(x0 : List UInt8).toArray⟩), (6, v7), (7, .int .i64 (((intsOf x0)).length : Int)), (8, .int .i64 (i34 : Int)), (17, .bool p)]) (fun (p : Bool) => [imm (TR.sl (TR.ik .u8)) v7 (intsOf x0)]) (fun (p : Bool) => K52 (.nx p)) ?_ ?_
   ·skip
    refine GL.region ?_
    refine RL.mv rfl rfl rfl ?_
    refine RL.binI (v := .bool (decide (y44 < (97 : Int)))) rfl rfl rfl rfl rfl ?_
    refine RL.mv rfl rfl rfl ?_
    refine RL.split (t := 14) rfl (fun b58 => ?_) (fun b58 => ?_)
    ·replace h53 := ite_t b58 h53
     refine RL.skip rfl rfl ?_
     refine RL.skip rfl rfl ?_
     refine RL.pickT rfl rfl rfl rfl ?_
     refine RL.fin ?_
     cases h53
     exact fun a w st => mid_intro true h54 (St.cut [0] ⟨rfl, rfl, rfl, rfl, rfl, trivial⟩ (by decide) rfl st)
    replace h53 := ite_f b58 h53
    refine RL.mv rfl rfl rfl ?_
    refine RL.binI (v := .bool (decide (y44 > (122 : Int)))) rfl rfl rfl rfl rfl ?_
    refine RL.pickF rfl rfl rfl rfl ?_
    refine RL.fin ?_
    cases h53
    exact fun a w st => mid_intro (decide (y44 > (122 : Int))) h54 (St.cut [0] ⟨rfl, rfl, rfl, rfl, rfl, trivial⟩ (by decide) rfl st)
   rintro x50 h59
   have h60 := h55 _ h59
   try dsimp only at h60
   refine GL.weak (env' := [(0, .string ⟨(x0 : List UInt8).toArray⟩), (6, v7), (7, .int .i64 (((intsOf x0)).length : Int)), (8, .int .i64 (i34 : Int)), (17, .bool x50)]) (L' := [imm (TR.sl (TR.ik .u8)) v7 (intsOf x0)]) (fun _ _ st => st) ?_
   refine GL.cond rfl (fun b61 => ?_) (fun b61 => ?_)
   ·replace h60 := ite_t b61 h60
    refine GL.seq ?_
    refine GL.region ?_
    refine RL.asg rfl rfl rfl ?_
    refine RL.finG ?_
    cases h60
    replace h38 : some (Fl.rt _) = some y27 := h38
    cases h38
    have hh := h32 _ h30
    subst hh
    exact GL.ret (Gx.ret (v := .bool false) (res1 rfl rfl) (fun a w st => st.toPostV))
   replace h60 := ite_f b61 h60
   refine GL.skip ?_
   refine GL.nilB ?_
   refine GL.region ?_
   refine RL.binI (v := .int .i64 ((i34 + 1 : Nat) : Int)) rfl rfl rfl rfl (binI_succ i34 (by omega)) ?_
   refine RL.mv rfl rfl rfl ?_
   refine RL.fin ?_
   cases h60
   exact fun a w st => lop_intro (i34 + 1, r46) ⟨by show i34 + 1 + r46.length = ((intsOf x0)).length; simp only [List.length_cons] at h40; omega, h47, h38⟩ (by simp) (St.cut [0] ⟨rfl, rfl, rfl, rfl, trivial⟩ (by decide) rfl st)
  have h43 : ¬ i34 < ((intsOf x0)).length := by have := of_decide_eq_false b42; omega
  obtain rfl : r35 = [] := by rw [← h41]; exact List.drop_of_length_le (by omega)
  replace h39 : some (Fl.nx _) = some y27 := h39
  cases h39
  exact GL.exit (fun a w st => mid_intro () h30 (St.cut [] ⟨rfl, trivial⟩ (by decide) rfl st))
 rintro ⟨⟩ h62
 have h63 := h31 _ h62
 try dsimp only at h63
 refine GL.weak (env' := [(0, .string ⟨(x0 : List UInt8).toArray⟩)]) (L' := []) (fun _ _ st => st) ?_
 refine GL.seq ?_
 obtain ⟨y67, K68, h69, h70, h71, h72, h73⟩ := bindR_K h63
 refine GL.join (ι := Bool) (fun (p : Bool) => [(2, .bool p)]) (fun (p : Bool) => []) (fun (p : Bool) => K68 (.nx p)) ?_ ?_
 ·skip
  refine GL.region ?_
  refine RL.mv rfl rfl rfl ?_
  refine RL.lenT Try.underlying9 rfl rfl rfl ?_
  refine RL.binI (v := .bool (decide (((x0).length : Int) > (0 : Int)))) rfl rfl rfl rfl rfl ?_
  refine RL.mv rfl rfl rfl ?_
  refine RL.split (t := 22) rfl (fun b74 => ?_) (fun b74 => ?_)
  ·replace h69 := ite_t b74 h69
   refine RL.mv rfl rfl rfl ?_
   refine RL.lenT Try.underlying9 rfl rfl rfl ?_
   refine RL.binI (v := .bool (decide (((x0).length : Int) ≤ (8 : Int)))) rfl rfl rfl rfl rfl ?_
   refine RL.pickT rfl rfl rfl rfl ?_
   refine RL.asg rfl rfl rfl ?_
   refine RL.fin ?_
   cases h69
   exact fun a w st => mid_intro (decide (((x0).length : Int) ≤ (8 : Int))) h70 (St.cut [] ⟨rfl, trivial⟩ (by decide) rfl st)
  replace h69 := ite_f b74 h69
  refine RL.skip rfl rfl ?_
  refine RL.skip rfl rfl ?_
  refine RL.skip rfl rfl ?_
  refine RL.pickF rfl rfl rfl rfl ?_
  refine RL.asg rfl rfl rfl ?_
  refine RL.fin ?_
  cases h69
  exact fun a w st => mid_intro false h70 (St.cut [] ⟨rfl, trivial⟩ (by decide) rfl st)
 rintro x66 h75
 have h76 := h71 _ h75
 try dsimp only at h76
 refine GL.weak (env' := [(2, .bool x66)]) (L' := []) (fun _ _ st => st) ?_
 have h76 := Option.some.inj h76
 subst h76
 exact GL.ret (Gx.ret (v := .bool x66) (res1 rfl rfl) (fun a w st => st.toPostV))

set_option maxHeartbeats 4000000 in
theorem ledger_Check_c (S : Hp) (w : World) (hS : S.sub w) (v0 : Value) (x0 : (List ((List UInt8) × (Int × Int)))) (k0 : ((TR.sl (TR.pair TR.str (TR.pair TR.int TR.int)))).vrep S v0 x0) (res : Int) (hm : ledger_Check_m x0 = some res) : Calls Try.prog 40 #[v0] w (PostV w (.int .i64 res)) := by
 refine calls_enter 53 Try.func40 Try.ntmps40 rfl S false [(0, v0)] [imm (TR.sl (TR.pair TR.str (TR.pair TR.int TR.int))) v0 x0] rfl ⟨rfl, trivial⟩ hS ⟨k0, trivial⟩ ?_
 unfold ledger_Check_m at hm
 refine GL.seq ?_
 refine GL.region ?_
 refine RL.asg rfl rfl rfl ?_
 refine RL.finG ?_
 refine GL.seq ?_
 refine GL.seq ?_
 refine GL.region ?_
 refine RL.mv rfl rfl rfl ?_
 refine RL.lenS 0 Try.underlying51 rfl rfl rfl rfl SlOf.imm ?_
 refine RL.binI (v := .bool (decide (((x0).length : Int) > (6 : Int)))) rfl rfl rfl rfl rfl ?_
 refine RL.finG ?_
 refine GL.cond rfl (fun b2 => ?_) (fun b2 => ?_)
 ·replace hm := ite_t b2 hm
  refine GL.seq ?_
  refine GL.region ?_
  refine RL.asg rfl rfl rfl ?_
  refine RL.finG ?_
  have hm := Option.some.inj hm
  subst hm
  exact GL.ret (Gx.ret (v := .int .i64 (2 : Int)) (res1 rfl rfl) (fun a w st => st.toPostV))
 replace hm := ite_f b2 hm
 refine GL.skip ?_
 refine GL.seq ?_
 refine GL.seq ?_
 refine GL.region ?_
 refine RL.mv rfl rfl rfl ?_
 refine RL.lenS 0 Try.underlying51 rfl rfl rfl rfl SlOf.imm ?_
 refine RL.mv rfl rfl rfl ?_
 refine RL.finG ?_
 refine GL.open_ 0 rfl (fun S h => len_imm S h) (fun n60 => ?_)
 obtain ⟨y61, K62, h63, h64, h65, h66, h67⟩ := bindR_K hm
 refine GL.join (ι := Unit) (fun (p : Unit) => []) (fun (p : Unit) => []) (fun (p : Unit) => K62 (.nx ())) ?_ ?_
 ·refine GL.block ?_
  refine GL.loop (ι := Nat × (List ((List UInt8) × (Int × Int)))) (fun (p : Nat × (List ((List UInt8) × (Int × Int)))) => [(0, v0), (8, v0), (9, .int .i64 ((x0).length : Int)), (10, .int .i64 (p.1 : Int))]) (fun (p : Nat × (List ((List UInt8) × (Int × Int)))) => [imm (TR.sl (TR.pair TR.str (TR.pair TR.int TR.int))) v0 x0]) (fun (p : Nat × (List ((List UInt8) × (Int × Int)))) => p.1 + p.2.length = (x0).length ∧ List.drop p.1 x0 = p.2 ∧ rangeL (ledger_Check_b1 x0) p.2 p.1 () = some y61) (fun (p : Nat × (List ((List UInt8) × (Int × Int)))) => p.2.length) (0, x0) ⟨by simp, by simp, h63⟩ (fun a w st => St.cut [0] ⟨rfl, rfl, rfl, rfl, trivial⟩ (by decide) rfl st) ?_
  rintro ⟨i68, r69⟩ ⟨h74, h75, h73⟩
  try dsimp only at h74 h75 h73
  refine GL.weak (env' := [(0, v0), (8, v0), (9, .int .i64 ((x0).length : Int)), (10, .int .i64 (i68 : Int))]) (L' := [imm (TR.sl (TR.pair TR.str (TR.pair TR.int TR.int))) v0 x0]) (fun _ _ st => st) ?_
  refine GL.seq ?_
  refine GL.region ?_
  refine RL.binI (v := .bool (decide ((i68 : Int) < ((x0).length : Int)))) rfl rfl rfl rfl rfl ?_
  refine RL.finG ?_
  refine GL.seq ?_
  refine GL.cond rfl (fun b76 => ?_) (fun b76 => ?_)
  ·have h77 : i68 < (x0).length := by have := of_decide_eq_true b76; omega
   obtain ⟨y78, r80, hr, e79, h81⟩ := drop_cons h75 rfl h77
   subst hr
   obtain ⟨z70, h71, h72⟩ := rangeL_some h73
   unfold ledger_Check_b1 at h71
   try dsimp only at h71
   refine GL.skip ?_
   refine GL.seq ?_
   refine GL.block ?_
   refine GL.seq ?_
   refine GL.region ?_
   refine RL.mv rfl rfl rfl ?_
   refine RL.idxS (sz := 3) 0 Try.underlying51 Try_ln59 rfl rfl rfl rfl rfl SlOf.imm (by omega) (by omega) ?_
   refine RL.ldS (i := i68) (r := (TR.pair TR.str (TR.pair TR.int TR.int))) (e' := y78) 0 Try_ln59 rfl rfl rfl rfl SlOf.imm e79 Part.self ?_
   intro v84
   refine RL.alloc (t := (TR.pair TR.str (TR.pair TR.int TR.int))) (z := (([] : List UInt8), (0 : Int), (0 : Int))) Try_lo59 (fun S => ⟨[.string ⟨#[]⟩], _, rfl, rfl, ⟨[.int .i64 0], _, rfl, rfl, rfl⟩⟩) rfl rfl rfl ?_
   intro v85
   refine RL.reL (L' := [imm (TR.sl (TR.pair TR.str (TR.pair TR.int TR.int))) v0 x0, imm (TR.pair TR.str (TR.pair TR.int TR.int)) v84 y78, obox 59 (TR.pair TR.str (TR.pair TR.int TR.int)) v85 (([] : List UInt8), (0 : Int), (0 : Int))]) rfl ?_
   refine RL.asg rfl rfl rfl ?_
   refine RL.stP (off := 0) (e' := y78) (d1 := y78) (r := (TR.pair TR.str (TR.pair TR.int TR.int))) 2 Try_ln59 rfl rfl (Or.inr ⟨rfl, rfl⟩) rfl (VR.item 1 rfl) rfl Upd.self ?_
   refine RL.finG ?_
   refine GL.seq ?_
   refine GL.seq ?_
   obtain ⟨y99, K100, h101, h102, h103, h104, h105⟩ := bindF_K h71
   refine GL.join (ι := Bool) (fun (p : Bool) => [(0, v0), (4, v85), (8, v0), (9, .int .i64 ((x0).length : Int)), (10, .int .i64 (i68 : Int)), (33, .bool p)]) (fun (p : Bool) => [imm (TR.sl (TR.pair TR.str (TR.pair TR.int TR.int))) v0 x0, obox 59 (TR.pair TR.str (TR.pair TR.int TR.int)) v85 y78]) (fun (p : Bool) => K100 (.nx p)) ?_ ?_
   ·skip
    refine GL.regionQ rfl rfl (by kernel_rfl) ?_
    refine RL.fadr (off := 0) (fo := 0) 2 Try_fld59_0 rfl rfl rfl PtOf.obox (Or.inr ⟨rfl, rfl⟩) ?_
    refine RL.ldPx (off := (0 + 0)) (e' := y78.1) 2 Ex.str Try_ln9 rfl rfl (Or.inl rfl) rfl PtOf.obox (Part.fst Part.self) ?_
    obtain ⟨y106, e107, h101⟩ := bind_some h101
    refine RL.callV (v := .bool y106) (vs := [.string ⟨(y78.1 : List UInt8).toArray⟩]) Try_fit99 rfl (Or.inr ⟨_, rfl⟩) rfl rfl rfl rfl (fun U w hU hW hL => ledger_named_c U w hU y78.1 _ e107) ?_
    refine RL.notB rfl rfl rfl ?_
    refine RL.mv rfl rfl rfl ?_
    refine RL.split (t := 19) rfl (fun b108 => ?_) (fun b108 => ?_)
    ·replace h101 := ite_t b108 h101
     refine RL.skip rfl rfl ?_
     refine RL.skip rfl rfl ?_
     refine RL.skip rfl rfl ?_
     refine RL.skip rfl rfl ?_
     refine RL.skip rfl rfl ?_
     refine RL.skip rfl rfl ?_
     refine RL.skip rfl rfl ?_
     refine RL.skip rfl rfl ?_
     refine RL.skip rfl rfl ?_
     refine RL.skip rfl rfl ?_
     refine RL.skip rfl rfl ?_
     refine RL.skip rfl rfl ?_
     refine RL.skip rfl rfl ?_
     refine RL.pickT rfl rfl rfl rfl ?_
     refine RL.finQ ?_
     cases h101
     exact fun a w st => mid_intro true h102 (St.cut [0, 2] ⟨rfl, rfl, rfl, rfl, rfl, rfl, trivial⟩ (by decide) rfl st)
    replace h101 := ite_f b108 h101
    refine RL.mv rfl rfl rfl ?_
    refine RL.binI (v := .bool (decide ((i68 : Int) > (0 : Int)))) rfl rfl rfl rfl rfl ?_
    refine RL.mv rfl rfl rfl ?_
    refine RL.split (t := 22) rfl (fun b109 => ?_) (fun b109 => ?_)
    ·replace h101 := ite_t b109 h101
     refine RL.fadr (off := 0) (fo := 0) 2 Try_fld59_0 rfl rfl rfl PtOf.obox (Or.inr ⟨rfl, rfl⟩) ?_
     refine RL.ldPx (off := (0 + 0)) (e' := y78.1) 2 Ex.str Try_ln9 rfl rfl (Or.inl rfl) rfl PtOf.obox (Part.fst Part.self) ?_
     refine RL.mv rfl rfl rfl ?_
     refine RL.mv rfl rfl rfl ?_
     refine RL.binI (v := .int .i64 (wsub (i68 : Int) (1 : Int))) rfl rfl rfl rfl rfl ?_
     obtain ⟨y110, e111, h101⟩ := bind_some h101
     refine RL.idxS (sz := 3) 0 Try.underlying51 Try_ln59 rfl rfl rfl rfl rfl SlOf.imm (idx_some e111).1 (idx_some e111).2.1 ?_
     refine RL.fadrS (off := ((wsub (i68 : Int) (1 : Int)).toNat * 3)) (fo := 0) 0 Try_fld59_0 rfl rfl rfl SlOf.imm (by have := (List.getElem?_eq_some_iff.1 (idx_some e111).2.2).1; omega) rfl ?_
     refine RL.ldSx (i := (wsub (i68 : Int) (1 : Int)).toNat) (e' := y110.1) 0 Ex.str Try_ln9 rfl rfl rfl rfl SlOf.imm (idx_some e111).2.2 (Part.fst Part.self) ?_
     refine RL.binS (v := .bool (bls y78.1 y110.1 || y78.1 == y110.1)) rfl rfl rfl rfl rfl ?_
     refine RL.pickT rfl rfl rfl rfl ?_
     refine RL.pickF rfl rfl rfl rfl ?_
     refine RL.finQ ?_
     cases h101
     exact fun a w st => mid_intro (bls y78.1 y110.1 || y78.1 == y110.1) h102 (St.cut [0, 2] ⟨rfl, rfl, rfl, rfl, rfl, rfl, trivial⟩ (by decide) rfl st)
    replace h101 := ite_f b109 h101
    refine RL.skip rfl rfl ?_
    refine RL.skip rfl rfl ?_
    refine RL.skip rfl rfl ?_
    refine RL.skip rfl rfl ?_
    refine RL.skip rfl rfl ?_
    refine RL.skip rfl rfl ?_
    refine RL.skip rfl rfl ?_
    refine RL.skip rfl rfl ?_
    refine RL.skip rfl rfl ?_
    refine RL.pickF rfl rfl rfl rfl ?_
    refine RL.pickF rfl rfl rfl rfl ?_
    refine RL.finQ ?_
    cases h101
    exact fun a w st => mid_intro false h102 (St.cut [0, 2] ⟨rfl, rfl, rfl, rfl, rfl, rfl, trivial⟩ (by decide) rfl st)
   rintro x98 h112
   have h113 := h103 _ h112
   try dsimp only at h113
   refine GL.weak (env' := [(0, v0), (4, v85), (8, v0), (9, .int .i64 ((x0).length : Int)), (10, .int .i64 (i68 : Int)), (33, .bool x98)]) (L' := [imm (TR.sl (TR.pair TR.str (TR.pair TR.int TR.int))) v0 x0, obox 59 (TR.pair TR.str (TR.pair TR.int TR.int)) v85 y78]) (fun _ _ st => st) ?_
   refine GL.cond rfl (fun b114 => ?_) (fun b114 => ?_)
   ·replace h113 := ite_t b114 h113
    refine GL.seq ?_
    refine GL.region ?_
    refine RL.asg rfl rfl rfl ?_
    refine RL.finG ?_
    cases h113
    replace h72 : some (Fl.rt _) = some y61 := h72
    cases h72
    have hh := h66 _ h64
    subst hh
    exact GL.ret (Gx.ret (v := .int .i64 (3 : Int)) (res1 rfl rfl) (fun a w st => st.toPostV))
   replace h113 := ite_f b114 h113
   refine GL.skip ?_
   refine GL.seq ?_
   obtain ⟨y122, K123, h124, h125, h126, h127, h128⟩ := bindF_K h113
   refine GL.join (ι := Bool) (fun (p : Bool) => [(0, v0), (8, v0), (9, .int .i64 ((x0).length : Int)), (10, .int .i64 (i68 : Int)), (51, .bool p)]) (fun (p : Bool) => [imm (TR.sl (TR.pair TR.str (TR.pair TR.int TR.int))) v0 x0]) (fun (p : Bool) => K123 (.nx p)) ?_ ?_
   ·skip
    refine GL.region ?_
    refine RL.fadr (off := 0) (fo := 1) 1 Try_fld59_1 rfl rfl rfl PtOf.obox (Or.inr ⟨rfl, rfl⟩) ?_
    refine RL.ldPx (off := (0 + 1)) (e' := y78.2.1) 1 Ex.ik Try_ln3 rfl rfl (Or.inl rfl) rfl PtOf.obox (Part.snd (Part.fst Part.self)) ?_
    refine RL.binI (v := .bool (decide (y78.2.1 < (0 : Int)))) rfl rfl rfl rfl rfl ?_
    refine RL.mv rfl rfl rfl ?_
    refine RL.split (t := 37) rfl (fun b129 => ?_) (fun b129 => ?_)
    ·replace h124 := ite_t b129 h124
     refine RL.skip rfl rfl ?_
     refine RL.skip rfl rfl ?_
     refine RL.skip rfl rfl ?_
     refine RL.pickT rfl rfl rfl rfl ?_
     refine RL.mv rfl rfl rfl ?_
     refine RL.skip rfl rfl ?_
     refine RL.skip rfl rfl ?_
     refine RL.skip rfl rfl ?_
     refine RL.pickT rfl rfl rfl rfl ?_
     refine RL.mv rfl rfl rfl ?_
     refine RL.skip rfl rfl ?_
     refine RL.skip rfl rfl ?_
     refine RL.skip rfl rfl ?_
     refine RL.pickT rfl rfl rfl rfl ?_
     refine RL.fin ?_
     cases h124
     exact fun a w st => mid_intro true h125 (St.cut [0] ⟨rfl, rfl, rfl, rfl, rfl, trivial⟩ (by decide) rfl st)
    replace h124 := ite_f b129 h124
    refine RL.fadr (off := 0) (fo := 1) 1 Try_fld59_1 rfl rfl rfl PtOf.obox (Or.inr ⟨rfl, rfl⟩) ?_
    refine RL.ldPx (off := (0 + 1)) (e' := y78.2.1) 1 Ex.ik Try_ln3 rfl rfl (Or.inl rfl) rfl PtOf.obox (Part.snd (Part.fst Part.self)) ?_
    refine RL.binI (v := .bool (decide (y78.2.1 > (1000000 : Int)))) rfl rfl rfl rfl rfl ?_
    refine RL.pickF rfl rfl rfl rfl ?_
    refine RL.mv rfl rfl rfl ?_
    refine RL.split (t := 42) rfl (fun b130 => ?_) (fun b130 => ?_)
    ·replace h124 := ite_t b130 h124
     refine RL.skip rfl rfl ?_
     refine RL.skip rfl rfl ?_
     refine RL.skip rfl rfl ?_
     refine RL.pickT rfl rfl rfl rfl ?_
     refine RL.mv rfl rfl rfl ?_
     refine RL.skip rfl rfl ?_
     refine RL.skip rfl rfl ?_
     refine RL.skip rfl rfl ?_
     refine RL.pickT rfl rfl rfl rfl ?_
     refine RL.fin ?_
     cases h124
     exact fun a w st => mid_intro true h125 (St.cut [0] ⟨rfl, rfl, rfl, rfl, rfl, trivial⟩ (by decide) rfl st)
    replace h124 := ite_f b130 h124
    refine RL.fadr (off := 0) (fo := 2) 1 Try_fld59_2 rfl rfl rfl PtOf.obox (Or.inr ⟨rfl, rfl⟩) ?_
    refine RL.ldPx (off := (0 + 2)) (e' := y78.2.2) 1 Ex.ik Try_ln3 rfl rfl (Or.inl rfl) rfl PtOf.obox (Part.snd (Part.snd Part.self)) ?_
    refine RL.binI (v := .bool (decide (y78.2.2 < (0 : Int)))) rfl rfl rfl rfl rfl ?_
    refine RL.pickF rfl rfl rfl rfl ?_
    refine RL.mv rfl rfl rfl ?_
    refine RL.split (t := 47) rfl (fun b131 => ?_) (fun b131 => ?_)
    ·replace h124 := ite_t b131 h124
     refine RL.skip rfl rfl ?_
     refine RL.skip rfl rfl ?_
     refine RL.skip rfl rfl ?_
     refine RL.pickT rfl rfl rfl rfl ?_
     refine RL.fin ?_
     cases h124
     exact fun a w st => mid_intro true h125 (St.cut [0] ⟨rfl, rfl, rfl, rfl, rfl, trivial⟩ (by decide) rfl st)
    replace h124 := ite_f b131 h124
    refine RL.fadr (off := 0) (fo := 2) 1 Try_fld59_2 rfl rfl rfl PtOf.obox (Or.inr ⟨rfl, rfl⟩) ?_
    refine RL.ldPx (off := (0 + 2)) (e' := y78.2.2) 1 Ex.ik Try_ln3 rfl rfl (Or.inl rfl) rfl PtOf.obox (Part.snd (Part.snd Part.self)) ?_
    refine RL.binI (v := .bool (decide (y78.2.2 > (1000000 : Int)))) rfl rfl rfl rfl rfl ?_
    refine RL.pickF rfl rfl rfl rfl ?_
    refine RL.fin ?_
    cases h124
    exact fun a w st => mid_intro (decide (y78.2.2 > (1000000 : Int))) h125 (St.cut [0] ⟨rfl, rfl, rfl, rfl, rfl, trivial⟩ (by decide) rfl st)
   rintro x121 h132
   have h133 := h126 _ h132
   try dsimp only at h133
   refine GL.weak (env' := [(0, v0), (8, v0), (9, .int .i64 ((x0).length : Int)), (10, .int .i64 (i68 : Int)), (51, .bool x121)]) (L' := [imm (TR.sl (TR.pair TR.str (TR.pair TR.int TR.int))) v0 x0]) (fun _ _ st => st) ?_
   refine GL.cond rfl (fun b134 => ?_) (fun b134 => ?_)
   ·replace h133 := ite_t b134 h133
    refine GL.seq ?_
    refine GL.region ?_
    refine RL.asg rfl rfl rfl ?_
    refine RL.finG ?_
    cases h133
    replace h72 : some (Fl.rt _) = some y61 := h72
    cases h72
    have hh := h66 _ h64
    subst hh
    exact GL.ret (Gx.ret (v := .int .i64 (1 : Int)) (res1 rfl rfl) (fun a w st => st.toPostV))
   replace h133 := ite_f b134 h133
   refine GL.skip ?_
   refine GL.nilB ?_
   refine GL.region ?_
   refine RL.binI (v := .int .i64 ((i68 + 1 : Nat) : Int)) rfl rfl rfl rfl (binI_succ i68 (by omega)) ?_
   refine RL.mv rfl rfl rfl ?_
   refine RL.fin ?_
   cases h133
   exact fun a w st => lop_intro (i68 + 1, r80) ⟨by show i68 + 1 + r80.length = (x0).length; simp only [List.length_cons] at h74; omega, h81, h72⟩ (by simp) (St.cut [0] ⟨rfl, rfl, rfl, rfl, trivial⟩ (by decide) rfl st)
  have h77 : ¬ i68 < (x0).length := by have := of_decide_eq_false b76; omega
  obtain rfl : r69 = [] := by rw [← h75]; exact List.drop_of_length_le (by omega)
  replace h73 : some (Fl.nx _) = some y61 := h73
  cases h73
  exact GL.exit (fun a w st => mid_intro () h64 (St.cut [] trivial (by decide) rfl st))
 rintro ⟨⟩ h135
 have h136 := h65 _ h135
 try dsimp only at h136
 refine GL.weak (env' := []) (L' := []) (fun _ _ st => st) ?_
 refine GL.seq ?_
 refine GL.region ?_
 refine RL.asg rfl rfl rfl ?_
 refine RL.finG ?_
 have h136 := Option.some.inj h136
 subst h136
 exact GL.ret (Gx.ret (v := .int .i64 (0 : Int)) (res1 rfl rfl) (fun a w st => st.toPostV))

set_option maxHeartbeats 4000000 in
theorem slices_IndexFunc_api_Account_api_Account_c (S : Hp) (w : World) (hS : S.sub w) (v0 : Value) (x0 : (List ((List UInt8) × (Int × Int)))) (k0 : ((TR.sl (TR.pair TR.str (TR.pair TR.int TR.int)))).vrep S v0 x0) (f1 : FuncId) (c1 : Array Value) (t1 : Fit Try.prog f1) (g1 : ((List UInt8) × (Int × Int)) → Option Bool) (k1 : ∀ (U : Hp) (w' : World), Hp.le S U → U.sub w' → ∀ (u0 : Value) (a0 : ((List UInt8) × (Int × Int))) (_ : ((TR.pair TR.str (TR.pair TR.int TR.int))).vrep U u0 a0) (rr : Bool), g1 a0 = some rr → Calls Try.prog f1 (#[u0] ++ c1) w' (PostV w' (.bool rr))) (res : Int) (hm : slices_IndexFunc_api_Account_api_Account_m x0 g1 = some res) : Calls Try.prog 122 #[v0, .func (.func f1) #[] c1] w (PostV w (.int .i64 res)) := by
 refine calls_enter 19 Try.func122 Try.ntmps122 rfl S false [(0, v0), (1, .func (.func f1) #[] c1)] [imm (TR.sl (TR.pair TR.str (TR.pair TR.int TR.int))) v0 x0] rfl ⟨rfl, ⟨rfl, trivial⟩⟩ hS ⟨k0, trivial⟩ ?_
 unfold slices_IndexFunc_api_Account_api_Account_m at hm
 refine GL.seq ?_
 refine GL.region ?_
 refine RL.asg rfl rfl rfl ?_
 refine RL.finG ?_
 refine GL.seq ?_
 refine GL.seq ?_
 refine GL.region ?_
 refine RL.mv rfl rfl rfl ?_
 refine RL.lenS 0 Try.underlying51 rfl rfl rfl rfl SlOf.imm ?_
 refine RL.mv rfl rfl rfl ?_
 refine RL.finG ?_
 refine GL.open_ 0 rfl (fun S h => len_imm S h) (fun n14 => ?_)
 obtain ⟨y15, K16, h17, h18, h19, h20, h21⟩ := bindR_K hm
 refine GL.join (ι := Unit) (fun (p : Unit) => []) (fun (p : Unit) => []) (fun (p : Unit) => K16 (.nx ())) ?_ ?_
 ·refine GL.block ?_
  refine GL.loop (ι := Nat × (List ((List UInt8) × (Int × Int)))) (fun (p : Nat × (List ((List UInt8) × (Int × Int)))) => [(0, v0), (1, .func (.func f1) #[] c1), (7, .int .i64 ((x0).length : Int)), (8, .int .i64 (p.1 : Int))]) (fun (p : Nat × (List ((List UInt8) × (Int × Int)))) => [imm (TR.sl (TR.pair TR.str (TR.pair TR.int TR.int))) v0 x0]) (fun (p : Nat × (List ((List UInt8) × (Int × Int)))) => p.1 + p.2.length = (x0).length ∧ List.drop p.1 x0 = p.2 ∧ rangeL (slices_IndexFunc_api_Account_api_Account_b1 g1) p.2 p.1 () = some y15) (fun (p : Nat × (List ((List UInt8) × (Int × Int)))) => p.2.length) (0, x0) ⟨by simp, by simp, h17⟩ (fun a w st => St.cut [0] ⟨rfl, rfl, rfl, rfl, trivial⟩ (by decide) rfl st) ?_
  rintro ⟨i22, r23⟩ ⟨h28, h29, h27⟩
  try dsimp only at h28 h29 h27
  refine GL.weak (env' := [(0, v0), (1, .func (.func f1) #[] c1), (7, .int .i64 ((x0).length : Int)), (8, .int .i64 (i22 : Int))]) (L' := [imm (TR.sl (TR.pair TR.str (TR.pair TR.int TR.int))) v0 x0]) (fun _ _ st => st) ?_
  refine GL.seq ?_
  refine GL.region ?_
  refine RL.binI (v := .bool (decide ((i22 : Int) < ((x0).length : Int)))) rfl rfl rfl rfl rfl ?_
  refine RL.finG ?_
  refine GL.seq ?_
  refine GL.cond rfl (fun b30 => ?_) (fun b30 => ?_)
  ·have h31 : i22 < (x0).length := by have := of_decide_eq_true b30; omega
   obtain ⟨y32, r34, hr, e33, h35⟩ := drop_cons h29 rfl h31
   subst hr
   obtain ⟨z24, h25, h26⟩ := rangeL_some h27
   unfold slices_IndexFunc_api_Account_api_Account_b1 at h25
   try dsimp only at h25
   refine GL.skip ?_
   refine GL.seq ?_
   refine GL.block ?_
   refine GL.seq ?_
   refine GL.region ?_
   refine RL.mv rfl rfl rfl ?_
   refine RL.asg rfl rfl rfl ?_
   refine RL.finG ?_
   refine GL.seq ?_
   refine GL.region ?_
   refine RL.mv rfl rfl rfl ?_
   refine RL.mv rfl rfl rfl ?_
   refine RL.mv rfl rfl rfl ?_
   refine RL.idxS (sz := 3) 0 Try.underlying51 Try_ln59 rfl rfl rfl rfl rfl SlOf.imm (by omega) (by omega) ?_
   refine RL.ldS (i := i22) (r := (TR.pair TR.str (TR.pair TR.int TR.int))) (e' := y32) 0 Try_ln59 rfl rfl rfl rfl SlOf.imm e33 Part.self ?_
   intro v39
   obtain ⟨y40, e41, h25⟩ := bind_some h25
   refine RL.callV (v := .bool y40) (vs := [v39]) t1 rfl (Or.inl rfl) rfl rfl rfl rfl (fun U w hU hW hL => k1 U w hW hU _ _ (hL 1 _ _ rfl Seen.imm) _ e41) ?_
   refine RL.finG ?_
   refine GL.cond rfl (fun b42 => ?_) (fun b42 => ?_)
   ·replace h25 := ite_t b42 h25
    refine GL.seq ?_
    refine GL.region ?_
    refine RL.mv rfl rfl rfl ?_
    refine RL.asg rfl rfl rfl ?_
    refine RL.finG ?_
    cases h25
    replace h26 : some (Fl.rt _) = some y15 := h26
    cases h26
    have hh := h20 _ h18
    subst hh
    exact GL.ret (Gx.ret (v := .int .i64 (i22 : Int)) (res1 rfl rfl) (fun a w st => st.toPostV))
   replace h25 := ite_f b42 h25
   refine GL.skip ?_
   refine GL.nilB ?_
   refine GL.region ?_
   refine RL.binI (v := .int .i64 ((i22 + 1 : Nat) : Int)) rfl rfl rfl rfl (binI_succ i22 (by omega)) ?_
   refine RL.mv rfl rfl rfl ?_
   refine RL.fin ?_
   cases h25
   exact fun a w st => lop_intro (i22 + 1, r34) ⟨by show i22 + 1 + r34.length = (x0).length; simp only [List.length_cons] at h28; omega, h35, h26⟩ (by simp) (St.cut [0] ⟨rfl, rfl, rfl, rfl, trivial⟩ (by decide) rfl st)
  have h31 : ¬ i22 < (x0).length := by have := of_decide_eq_false b30; omega
  obtain rfl : r23 = [] := by rw [← h29]; exact List.drop_of_length_le (by omega)
  replace h27 : some (Fl.nx _) = some y15 := h27
  cases h27
  exact GL.exit (fun a w st => mid_intro () h18 (St.cut [] trivial (by decide) rfl st))
 rintro ⟨⟩ h43
 have h44 := h19 _ h43
 try dsimp only at h44
 refine GL.weak (env' := []) (L' := []) (fun _ _ st => st) ?_
 refine GL.seq ?_
 refine GL.region ?_
 refine RL.asg rfl rfl rfl ?_
 refine RL.finG ?_
 have h44 := Option.some.inj h44
 subst h44
 exact GL.ret (Gx.ret (v := .int .i64 (-1 : Int)) (res1 rfl rfl) (fun a w st => st.toPostV))

set_option maxHeartbeats 4000000 in
theorem ledger_find_1_c (S : Hp) (w : World) (hS : S.sub w) (v0 : Value) (x0 : ((List UInt8) × (Int × Int))) (k0 : ((TR.pair TR.str (TR.pair TR.int TR.int))).vrep S v0 x0) (v1 : Value) (x1 : (List UInt8)) (k1 : ((TR.ptr TR.str)).vrep S v1 x1) (res : Bool) (hm : ledger_find_1_m x0 x1 = some res) : Calls Try.prog 123 #[v0, v1] w (PostV w (.bool res)) := by
 refine calls_enter 8 Try.func123 Try.ntmps123 rfl S false [(0, v0), (1, v1)] [imm (TR.pair TR.str (TR.pair TR.int TR.int)) v0 x0, imm (TR.ptr TR.str) v1 x1] rfl ⟨rfl, ⟨rfl, trivial⟩⟩ hS ⟨k0, ⟨k1, trivial⟩⟩ ?_
 unfold ledger_find_1_m at hm
 refine GL.seq ?_
 refine GL.region ?_
 refine RL.box (t := (TR.pair TR.str (TR.pair TR.int TR.int))) (e := x0) rfl rfl rfl rfl (VR.item 0 rfl) ?_
 intro v4
 refine RL.asg rfl rfl rfl ?_
 refine RL.finG ?_
 refine GL.seq ?_
 refine GL.region ?_
 refine RL.fadr (off := 0) (fo := 0) 2 Try_fld59_0 rfl rfl rfl PtOf.obox (Or.inr ⟨rfl, rfl⟩) ?_
 refine RL.ldPx (off := (0 + 0)) (e' := x0.1) 2 Ex.str Try_ln9 rfl rfl (Or.inl rfl) rfl PtOf.obox (Part.fst Part.self) ?_
 refine RL.ldPx (off := 0) (e' := x1) 1 Ex.str Try_ln9 rfl rfl (Or.inr ⟨rfl, rfl⟩) rfl PtOf.imm Part.self ?_
 refine RL.binS (v := .bool (x0.1 == x1)) rfl rfl rfl rfl rfl ?_
 refine RL.asg rfl rfl rfl ?_
 refine RL.finG ?_
 have hm := Option.some.inj hm
 subst hm
 exact GL.ret (Gx.ret (v := .bool (x0.1 == x1)) (res1 rfl rfl) (fun a w st => st.toPostV))

set_option maxHeartbeats 4000000 in
theorem ledger_find_c (S : Hp) (w : World) (hS : S.sub w) (v0 : Value) (x0 : (List ((List UInt8) × (Int × Int)))) (k0 : ((TR.sl (TR.pair TR.str (TR.pair TR.int TR.int)))).vrep S v0 x0) (x1 : (List UInt8)) (res : Int) (hm : ledger_find_m x0 x1 = some res) : Calls Try.prog 97 #[v0, .string ⟨(x1 : List UInt8).toArray⟩] w (PostV w (.int .i64 res)) := by
 refine calls_enter 8 Try.func97 Try.ntmps97 rfl S false [(0, v0), (1, .string ⟨(x1 : List UInt8).toArray⟩)] [imm (TR.sl (TR.pair TR.str (TR.pair TR.int TR.int))) v0 x0] rfl ⟨rfl, ⟨rfl, trivial⟩⟩ hS ⟨k0, trivial⟩ ?_
 unfold ledger_find_m at hm
 refine GL.seq ?_
 refine GL.region ?_
 refine RL.box (t := TR.str) (e := x1) rfl rfl rfl rfl VR.str ?_
 intro v4
 refine RL.asg rfl rfl rfl ?_
 refine RL.finG ?_
 refine GL.seq ?_
 refine GL.region ?_
 refine RL.mv rfl rfl rfl ?_
 refine RL.mkF (vs := [v4]) rfl rfl rfl ?_
 obtain ⟨y7, e8, hm⟩ := bind_some hm
 refine RL.callV (v := .int .i64 y7) (vs := [v0, .func (.func 123) #[] #[v4]]) Try_fit122 rfl (Or.inl rfl) rfl rfl rfl rfl (fun U w hU hW hL => slices_IndexFunc_api_Account_api_Account_c U w hU _ _ (hL 0 _ _ rfl Seen.imm) 123 #[v4] Try_fit123 (fun a0 => ledger_find_1_m a0 x1) (fun U' w' hle hU' u0 a0 q0 rr hr => (ledger_find_1_c U' w' hU' u0 a0 q0 _ _ (TR.vrep_mono hle (hL 1 _ _ rfl Seen.obox)) rr hr).mono (fun _ _ z => z)) _ e8) ?_
 refine RL.asg rfl rfl rfl ?_
 refine RL.finG ?_
 have hm := Option.some.inj hm
 subst hm
 exact GL.ret (Gx.ret (v := .int .i64 y7) (res1 rfl rfl) (fun a w st => st.toPostV))

set_option maxHeartbeats 4000000 in
theorem slices_Clone_api_Account_api_Account_c (S : Hp) (w : World) (hS : S.sub w) (v0 : Value) (x0 : List ((List UInt8) × (Int × Int))) (k0 : (TR.sl (TR.pair TR.str (TR.pair TR.int TR.int))).vrep S v0 x0) (res : List ((List UInt8) × (Int × Int))) (hm : slices_Clone_api_Account_api_Account_m x0 = some res) : Calls Try.prog 98 #[v0] w (Post w S (fun (o : Value) => o) (fun (o : Value) => [own 59 (TR.pair TR.str (TR.pair TR.int TR.int)) o res])) := by
  refine calls_enter 8 Try.func98 Try.ntmps98 rfl S false [(0, v0)] [imm (TR.sl (TR.pair TR.str (TR.pair TR.int TR.int))) v0 x0] rfl ⟨rfl, trivial⟩ hS ⟨k0, trivial⟩ ?_
  unfold slices_Clone_api_Account_api_Account_m at hm
  obtain ⟨_, hc, hm⟩ := bind_some hm
  replace hc := chk_some hc
  have hm := Option.some.inj hm
  subst hm
  refine GL.seq (GL.region (RL.asg rfl rfl rfl (RL.finG (GL.seq (GL.seq (GL.region ?_))))))
  refine RL.mv rfl rfl rfl ?_
  refine RL.eqNil 0 Try.underlying51 rfl rfl rfl rfl rfl SlOf.imm (fun b hb => ?_)
  refine RL.finG (GL.cond rfl (fun h => ?_) (fun h => ?_))
  · have := hb h
    subst this
    refine GL.seq (GL.region (RL.asg rfl rfl rfl (RL.finG ?_)))
    refine GL.weak (fun a w st => st.nilOwn 59 (TR.pair TR.str (TR.pair TR.int TR.int))) ?_
    exact GL.ret (Gx.ret (v := Value.slice none 0 0) (res1 rfl rfl) (fun a w st => (st.pick [1] (by decide) rfl).toPost (Value.slice none 0 0)))
  · refine GL.skip (GL.seq (GL.region ?_))
    refine RL.bS (t := (TR.pair TR.str (TR.pair TR.int TR.int))) (vs := []) ([] : List ((List UInt8) × (Int × Int))) Try.underlying51 Try_lo59 rfl rfl rfl rfl trivial rfl (by decide) ?_
    intro v1
    refine RL.mv rfl rfl rfl ?_
    refine RL.app 1 0 Try.underlying51 Try_lo59 rfl rfl rfl rfl rfl rfl rfl SlOf.imm (by simpa using hc) ?_
    intro v2
    refine RL.asg rfl rfl rfl (RL.finG ?_)
    exact GL.ret (Gx.ret (v := v2) (res1 rfl rfl) (fun a w st => (st.pick [1] (by decide) rfl).toPost v2))

set_option maxHeartbeats 4000000 in
theorem math_bits_Len32_c (S : Hp) (w : World) (hS : S.sub w) (x0 : Int) (res : Int) (hm : math_bits_Len32_m x0 = some res) : Calls Try.prog 140 #[.int .u32 x0] w (PostC w (.int .i64 res)) := by
 refine calls_enter 19 Try.func140 Try.ntmps140 rfl S true [(0, .int .u32 x0)] [] rfl ⟨rfl, trivial⟩ hS trivial ?_
 unfold math_bits_Len32_m at hm
 refine GL.seq ?_
 refine GL.region ?_
 refine RL.asg rfl rfl rfl ?_
 refine RL.finG ?_
 refine GL.seq ?_
 refine GL.seq ?_
 refine GL.region ?_
 refine RL.mv rfl rfl rfl ?_
 refine RL.binI (v := .bool (decide (x0 ≥ (65536 : Int)))) rfl rfl rfl rfl rfl ?_
 refine RL.finG ?_
 obtain ⟨y9, K10, h11, h12, h13, h14, h15⟩ := bindR_K hm
 refine GL.join (ι := Int × Int) (fun (p : Int × Int) => [(0, .int .u32 p.1), (2, .int .i64 p.2)]) (fun (p : Int × Int) => []) (fun (p : Int × Int) => K10 (.nx (p.1, p.2))) ?_ ?_
 ·skip
  refine GL.cond rfl (fun b16 => ?_) (fun b16 => ?_)
  ·replace h11 := ite_t b16 h11
   refine GL.seq ?_
   refine GL.region ?_
   refine RL.mv rfl rfl rfl ?_
   obtain ⟨y19, e20, h11⟩ := bind_some h11
   replace e20 := chk_some e20
   refine RL.sh (by simp) rfl rfl rfl rfl e20 ?_
   refine RL.asg rfl rfl rfl ?_
   refine RL.finG ?_
   refine GL.region ?_
   refine RL.asg rfl rfl rfl ?_
   refine RL.finG ?_
   cases h11
   exact fun a w st => mid_intro (Int.fdiv x0 (2 ^ (min (16 : Int).toNat (IntKind.bits .u32))), (16 : Int)) h12 (St.cut [] ⟨rfl, rfl, trivial⟩ (by decide) rfl st)
  replace h11 := ite_f b16 h11
  refine GL.skip ?_
  cases h11
  exact fun a w st => mid_intro (x0, (0 : Int)) h12 (St.cut [] ⟨rfl, rfl, trivial⟩ (by decide) rfl st)
 rintro ⟨x7, x8⟩ h21
 have h22 := h13 _ h21
 try dsimp only at h22
 refine GL.weak (env' := [(0, .int .u32 x7), (2, .int .i64 x8)]) (L' := []) (fun _ _ st => st) ?_
 refine GL.seq ?_
 refine GL.seq ?_
 refine GL.region ?_
 refine RL.mv rfl rfl rfl ?_
 refine RL.binI (v := .bool (decide (x7 ≥ (256 : Int)))) rfl rfl rfl rfl rfl ?_
 refine RL.finG ?_
 obtain ⟨y30, K31, h32, h33, h34, h35, h36⟩ := bindR_K h22
 refine GL.join (ι := Int × Int) (fun (p : Int × Int) => [(0, .int .u32 p.1), (2, .int .i64 p.2)]) (fun (p : Int × Int) => []) (fun (p : Int × Int) => K31 (.nx (p.1, p.2))) ?_ ?_
 ·skip
  refine GL.cond rfl (fun b37 => ?_) (fun b37 => ?_)
  ·replace h32 := ite_t b37 h32
   refine GL.seq ?_
   refine GL.region ?_
   refine RL.mv rfl rfl rfl ?_
   obtain ⟨y40, e41, h32⟩ := bind_some h32
   replace e41 := chk_some e41
   refine RL.sh (by simp) rfl rfl rfl rfl e41 ?_
   refine RL.asg rfl rfl rfl ?_
   refine RL.finG ?_
   refine GL.region ?_
   refine RL.mv rfl rfl rfl ?_
   refine RL.binI (v := .int .i64 (wadd x8 (8 : Int))) rfl rfl rfl rfl rfl ?_
   refine RL.asg rfl rfl rfl ?_
   refine RL.finG ?_
   cases h32
   exact fun a w st => mid_intro (Int.fdiv x7 (2 ^ (min (8 : Int).toNat (IntKind.bits .u32))), wadd x8 (8 : Int)) h33 (St.cut [] ⟨rfl, rfl, trivial⟩ (by decide) rfl st)
  replace h32 := ite_f b37 h32
  refine GL.skip ?_
  cases h32
  exact fun a w st => mid_intro (x7, x8) h33 (St.cut [] ⟨rfl, rfl, trivial⟩ (by decide) rfl st)
 rintro ⟨x28, x29⟩ h42
 have h43 := h34 _ h42
 try dsimp only at h43
 refine GL.weak (env' := [(0, .int .u32 x28), (2, .int .i64 x29)]) (L' := []) (fun _ _ st => st) ?_
 refine GL.seq ?_
 refine GL.region ?_
 refine RL.mv rfl rfl rfl ?_
 refine RL.mv rfl rfl rfl ?_
 refine RL.cvI Try.underlying153 Try.underlying5 rfl rfl rfl ?_
 obtain ⟨y46, e47, h43⟩ := bind_some h43
 refine RL.idxT Try.underlying9 rfl rfl rfl rfl (idx_some e47).1 (idx_some e47).2.2 ?_
 refine RL.cvI Try.underlying5 Try.underlying3 rfl rfl rfl ?_
 refine RL.binI (v := .int .i64 (wadd x29 (IntKind.wrap .i64 (y46.toNat : Int)))) rfl rfl rfl rfl rfl ?_
 refine RL.asg rfl rfl rfl ?_
 refine RL.finG ?_
 have h43 := Option.some.inj h43
 subst h43
 exact GL.ret (Gx.ret (v := .int .i64 (wadd x29 (IntKind.wrap .i64 (y46.toNat : Int)))) (res1 rfl rfl) (fun a w st => st.toPostC rfl))

set_option maxHeartbeats 4000000 in
theorem math_bits_Len64_c (S : Hp) (w : World) (hS : S.sub w) (x0 : Int) (res : Int) (hm : math_bits_Len64_m x0 = some res) : Calls Try.prog 141 #[.int .u64 x0] w (PostC w (.int .i64 res)) := by
 refine calls_enter 25 Try.func141 Try.ntmps141 rfl S true [(0, .int .u64 x0)] [] rfl ⟨rfl, trivial⟩ hS trivial ?_
 unfold math_bits_Len64_m at hm
 refine GL.seq ?_
 refine GL.region ?_
 refine RL.asg rfl rfl rfl ?_
 refine RL.finG ?_
 refine GL.seq ?_
 refine GL.seq ?_
 refine GL.region ?_
 refine RL.mv rfl rfl rfl ?_
 refine RL.binI (v := .bool (decide (x0 ≥ (4294967296 : Int)))) rfl rfl rfl rfl rfl ?_
 refine RL.finG ?_
 obtain ⟨y9, K10, h11, h12, h13, h14, h15⟩ := bindR_K hm
 refine GL.join (ι := Int × Int) (fun (p : Int × Int) => [(0, .int .u64 p.1), (2, .int .i64 p.2)]) (fun (p : Int × Int) => []) (fun (p : Int × Int) => K10 (.nx (p.1, p.2))) ?_ ?_
 ·skip
  refine GL.cond rfl (fun b16 => ?_) (fun b16 => ?_)
  ·replace h11 := ite_t b16 h11
   refine GL.seq ?_
   refine GL.region ?_
   refine RL.mv rfl rfl rfl ?_
   obtain ⟨y19, e20, h11⟩ := bind_some h11
   replace e20 := chk_some e20
   refine RL.sh (by simp) rfl rfl rfl rfl e20 ?_
   refine RL.asg rfl rfl rfl ?_
   refine RL.finG ?_
   refine GL.region ?_
   refine RL.asg rfl rfl rfl ?_
   refine RL.finG ?_
   cases h11
   exact fun a w st => mid_intro (Int.fdiv x0 (2 ^ (min (32 : Int).toNat (IntKind.bits .u64))), (32 : Int)) h12 (St.cut [] ⟨rfl, rfl, trivial⟩ (by decide) rfl st)
  replace h11 := ite_f b16 h11
  refine GL.skip ?_
  cases h11
  exact fun a w st => mid_intro (x0, (0 : Int)) h12 (St.cut [] ⟨rfl, rfl, trivial⟩ (by decide) rfl st)
 rintro ⟨x7, x8⟩ h21
 have h22 := h13 _ h21
 try dsimp only at h22
 refine GL.weak (env' := [(0, .int .u64 x7), (2, .int .i64 x8)]) (L' := []) (fun _ _ st => st) ?_
 refine GL.seq ?_
 refine GL.seq ?_
 refine GL.region ?_
 refine RL.mv rfl rfl rfl ?_
 refine RL.binI (v := .bool (decide (x7 ≥ (65536 : Int)))) rfl rfl rfl rfl rfl ?_
 refine RL.finG ?_
 obtain ⟨y30, K31, h32, h33, h34, h35, h36⟩ := bindR_K h22
 refine GL.join (ι := Int × Int) (fun (p : Int × Int) => [(0, .int .u64 p.1), (2, .int .i64 p.2)]) (fun (p : Int × Int) => []) (fun (p : Int × Int) => K31 (.nx (p.1, p.2))) ?_ ?_
 ·skip
  refine GL.cond rfl (fun b37 => ?_) (fun b37 => ?_)
  ·replace h32 := ite_t b37 h32
   refine GL.seq ?_
   refine GL.region ?_
   refine RL.mv rfl rfl rfl ?_
   obtain ⟨y40, e41, h32⟩ := bind_some h32
   replace e41 := chk_some e41
   refine RL.sh (by simp) rfl rfl rfl rfl e41 ?_
   refine RL.asg rfl rfl rfl ?_
   refine RL.finG ?_
   refine GL.region ?_
   refine RL.mv rfl rfl rfl ?_
   refine RL.binI (v := .int .i64 (wadd x8 (16 : Int))) rfl rfl rfl rfl rfl ?_
   refine RL.asg rfl rfl rfl ?_
   refine RL.finG ?_
   cases h32
   exact fun a w st => mid_intro (Int.fdiv x7 (2 ^ (min (16 : Int).toNat (IntKind.bits .u64))), wadd x8 (16 : Int)) h33 (St.cut [] ⟨rfl, rfl, trivial⟩ (by decide) rfl st)
  replace h32 := ite_f b37 h32
  refine GL.skip ?_
  cases h32
  exact fun a w st => mid_intro (x7, x8) h33 (St.cut [] ⟨rfl, rfl, trivial⟩ (by decide) rfl st)
 rintro ⟨x28, x29⟩ h42
 have h43 := h34 _ h42
 try dsimp only at h43
 refine GL.weak (env' := [(0, .int .u64 x28), (2, .int .i64 x29)]) (L' := []) (fun _ _ st => st) ?_
 refine GL.seq ?_
 refine GL.seq ?_
 refine GL.region ?_
 refine RL.mv rfl rfl rfl ?_
 refine RL.binI (v := .bool (decide (x28 ≥ (256 : Int)))) rfl rfl rfl rfl rfl ?_
 refine RL.finG ?_
 obtain ⟨y51, K52, h53, h54, h55, h56, h57⟩ := bindR_K h43
 refine GL.join (ι := Int × Int) (fun (p : Int × Int) => [(0, .int .u64 p.1), (2, .int .i64 p.2)]) (fun (p : Int × Int) => []) (fun (p : Int × Int) => K52 (.nx (p.1, p.2))) ?_ ?_
 ·skip
  refine GL.cond rfl (fun b58 => ?_) (fun b58 => ?_)
  ·replace h53 := ite_t b58 h53
   refine GL.seq ?_
   refine GL.region ?_
   refine RL.mv rfl rfl rfl ?_
   obtain ⟨y61, e62, h53⟩ := bind_some h53
   replace e62 := chk_some e62
   refine RL.sh (by simp) rfl rfl rfl rfl e62 ?_
   refine RL.asg rfl rfl rfl ?_
   refine RL.finG ?_
   refine GL.region ?_
   refine RL.mv rfl rfl rfl ?_
   refine RL.binI (v := .int .i64 (wadd x29 (8 : Int))) rfl rfl rfl rfl rfl ?_
   refine RL.asg rfl rfl rfl ?_
   refine RL.finG ?_
   cases h53
   exact fun a w st => mid_intro (Int.fdiv x28 (2 ^ (min (8 : Int).toNat (IntKind.bits .u64))), wadd x29 (8 : Int)) h54 (St.cut [] ⟨rfl, rfl, trivial⟩ (by decide) rfl st)
  replace h53 := ite_f b58 h53
  refine GL.skip ?_
  cases h53
  exact fun a w st => mid_intro (x28, x29) h54 (St.cut [] ⟨rfl, rfl, trivial⟩ (by decide) rfl st)
 rintro ⟨x49, x50⟩ h63
 have h64 := h55 _ h63
 try dsimp only at h64
 refine GL.weak (env' := [(0, .int .u64 x49), (2, .int .i64 x50)]) (L' := []) (fun _ _ st => st) ?_
 refine GL.seq ?_
 refine GL.region ?_
 refine RL.mv rfl rfl rfl ?_
 refine RL.mv rfl rfl rfl ?_
 refine RL.cvI Try.underlying155 Try.underlying5 rfl rfl rfl ?_
 obtain ⟨y67, e68, h64⟩ := bind_some h64
 refine RL.idxT Try.underlying9 rfl rfl rfl rfl (idx_some e68).1 (idx_some e68).2.2 ?_
 refine RL.cvI Try.underlying5 Try.underlying3 rfl rfl rfl ?_
 refine RL.binI (v := .int .i64 (wadd x50 (IntKind.wrap .i64 (y67.toNat : Int)))) rfl rfl rfl rfl rfl ?_
 refine RL.asg rfl rfl rfl ?_
 refine RL.finG ?_
 have h64 := Option.some.inj h64
 subst h64
 exact GL.ret (Gx.ret (v := .int .i64 (wadd x50 (IntKind.wrap .i64 (y67.toNat : Int)))) (res1 rfl rfl) (fun a w st => st.toPostC rfl))

set_option maxHeartbeats 4000000 in
theorem math_bits_Len_c (S : Hp) (w : World) (hS : S.sub w) (x0 : Int) (res : Int) (hm : math_bits_Len_m x0 = some res) : Calls Try.prog 125 #[.int .u64 x0] w (PostC w (.int .i64 res)) := by
 refine calls_enter 8 Try.func125 Try.ntmps125 rfl S true [(0, .int .u64 x0)] [] rfl ⟨rfl, trivial⟩ hS trivial ?_
 unfold math_bits_Len_m at hm
 refine GL.seq ?_
 refine GL.region ?_
 refine RL.asg rfl rfl rfl ?_
 refine RL.finG ?_
 refine GL.seq ?_
 refine GL.cond rfl (fun b2 => ?_) (fun b2 => ?_)
 ·replace hm := ite_t b2 hm
  refine GL.seq ?_
  refine GL.region ?_
  refine RL.mv rfl rfl rfl ?_
  refine RL.cvI Try.underlying139 Try.underlying153 rfl rfl rfl ?_
  obtain ⟨y5, e6, hm⟩ := bind_some hm
  refine RL.callC (v := .int .i64 y5) (vs := [.int .u32 (IntKind.wrap .u32 x0)]) Try_fit140 rfl rfl rfl rfl (fun U w hU hW hL => math_bits_Len32_c U w hU (IntKind.wrap .u32 x0) _ e6) ?_
  refine RL.asg rfl rfl rfl ?_
  refine RL.finG ?_
  have hm := Option.some.inj hm
  subst hm
  exact GL.ret (Gx.ret (v := .int .i64 y5) (res1 rfl rfl) (fun a w st => st.toPostC rfl))
 replace hm := ite_f b2 hm
 refine GL.skip ?_
 refine GL.seq ?_
 refine GL.region ?_
 refine RL.mv rfl rfl rfl ?_
 obtain ⟨y9, e10, hm⟩ := bind_some hm
 refine RL.callC (v := .int .i64 y9) (vs := [.int .u64 x0]) Try_fit141 rfl rfl rfl rfl (fun U w hU hW hL => math_bits_Len64_c U w hU x0 _ e10) ?_
 refine RL.asg rfl rfl rfl ?_
 refine RL.finG ?_
 have hm := Option.some.inj hm
 subst hm
 exact GL.ret (Gx.ret (v := .int .i64 y9) (res1 rfl rfl) (fun a w st => st.toPostC rfl))

set_option maxHeartbeats 4000000 in
theorem slices_insertionSortCmpFunc_api_Account_c (B : World) (S X : Hp) (f : Nat → Hp) (w : World) (v0 : Value) (x0 : (List ((List UInt8) × (Int × Int)))) (hO : HeapOk B.heap.size S f [own 59 (TR.pair TR.str (TR.pair TR.int TR.int)) v0 x0, keep X].length w) (hB : Below B.heap.size B w) (hI : Its [own 59 (TR.pair TR.str (TR.pair TR.int TR.int)) v0 x0, keep X] S f) (x1 : Int) (x2 : Int) (f3 : FuncId) (c3 : Array Value) (t3 : Fit Try.prog f3) (g3 : ((List UInt8) × (Int × Int)) → ((List UInt8) × (Int × Int)) → Option Int) (k3 : ∀ (U : Hp) (w' : World), Hp.le S U → U.sub w' → ∀ (u0 : Value) (a0 : ((List UInt8) × (Int × Int))) (_ : ((TR.pair TR.str (TR.pair TR.int TR.int))).vrep U u0 a0) (u1 : Value) (a1 : ((List UInt8) × (Int × Int))) (_ : ((TR.pair TR.str (TR.pair TR.int TR.int))).vrep U u1 a1) (rr : Int), g3 a0 a1 = some rr → Calls Try.prog f3 (#[u0, u1] ++ c3) w' (PostV w' (.int .i64 rr))) (res : (List ((List UInt8) × (Int × Int)))) (hm : slices_insertionSortCmpFunc_api_Account_m x0 x1 x2 g3 = some res) : Calls Try.prog 132 #[v0, .int .i64 x1, .int .i64 x2, .func (.func f3) #[] c3] w (PostM B S (fun (o : Unit) => .tuple #[]) (fun (o : Unit) => [own 59 (TR.pair TR.str (TR.pair TR.int TR.int)) v0 res, keep X])) := by
 refine calls_enterM 53 Try.func132 Try.ntmps132 rfl B S f [(0, v0), (1, .int .i64 x1), (2, .int .i64 x2), (3, .func (.func f3) #[] c3)] [own 59 (TR.pair TR.str (TR.pair TR.int TR.int)) v0 x0, keep X] [] rfl ⟨rfl, ⟨rfl, ⟨rfl, ⟨rfl, trivial⟩⟩⟩⟩ hB hO hI trivial ?_
 unfold slices_insertionSortCmpFunc_api_Account_m at hm
 refine GL.seq ?_
 refine GL.region ?_
 refine RL.mv rfl rfl rfl ?_
 refine RL.binI (v := .int .i64 (wadd x1 (1 : Int))) rfl rfl rfl rfl rfl ?_
 refine RL.asg rfl rfl rfl ?_
 refine RL.finG ?_
 obtain ⟨y400, K401, h402, h403, h404, h405, h406⟩ := bindR_K hm
 refine GL.join (ι := (List ((List UInt8) × (Int × Int))) × Int) (fun (p : (List ((List UInt8) × (Int × Int))) × Int) => []) (fun (p : (List ((List UInt8) × (Int × Int))) × Int) => [own 59 (TR.pair TR.str (TR.pair TR.int TR.int)) v0 p.1, keep X]) (fun (p : (List ((List UInt8) × (Int × Int))) × Int) => K401 (.nx (p.1, p.2))) ?_ ?_
 ·refine GL.block ?_
  refine GL.loop (ι := Nat × (List ((List UInt8) × (Int × Int))) × Int) (fun (p : Nat × (List ((List UInt8) × (Int × Int))) × Int) => [(0, v0), (1, .int .i64 x1), (2, .int .i64 x2), (3, .func (.func f3) #[] c3), (8, .int .i64 p.2.2)]) (fun (p : Nat × (List ((List UInt8) × (Int × Int))) × Int) => [own 59 (TR.pair TR.str (TR.pair TR.int TR.int)) v0 p.2.1, keep X]) (fun (p : Nat × (List ((List UInt8) × (Int × Int))) × Int) => loopM (slices_insertionSortCmpFunc_api_Account_b1 x2 x1 g3) p.1 (p.2.1, p.2.2) = some y400) (fun (p : Nat × (List ((List UInt8) × (Int × Int))) × Int) => p.1) (1048576, x0, wadd x1 (1 : Int)) h402 (fun a w st => St.cut [0, 1] ⟨rfl, rfl, rfl, rfl, rfl, trivial⟩ (by decide) rfl st) ?_
  rintro ⟨r408, l202, x203⟩ h412
  try dsimp only at h412
  refine GL.weak (env' := [(0, v0), (1, .int .i64 x1), (2, .int .i64 x2), (3, .func (.func f3) #[] c3), (8, .int .i64 x203)]) (L' := [own 59 (TR.pair TR.str (TR.pair TR.int TR.int)) v0 l202, keep X]) (fun _ _ st => st) ?_
  obtain ⟨r415, z409, hr, h410, h411⟩ := loopM_some h412
  subst hr
  unfold slices_insertionSortCmpFunc_api_Account_b1 at h410
  try dsimp only at h410
  refine GL.seq ?_
  refine GL.seq ?_
  refine GL.region ?_
  refine RL.mv rfl rfl rfl ?_
  refine RL.mv rfl rfl rfl ?_
  refine RL.binI (v := .bool (decide (x203 < x2))) rfl rfl rfl rfl rfl ?_
  refine RL.finG ?_
  refine GL.cond rfl (fun b416 => ?_) (fun b416 => ?_)
  ·replace h410 := ite_t b416 h410
   refine GL.skip ?_
   refine GL.seq ?_
   refine GL.block ?_
   refine GL.seq ?_
   refine GL.region ?_
   refine RL.mv rfl rfl rfl ?_
   refine RL.asg rfl rfl rfl ?_
   refine RL.finG ?_
   obtain ⟨y536, K537, h538, h539, h540, h541, h542⟩ := bindF_K h410
   refine GL.join (ι := (List ((List UInt8) × (Int × Int))) × Int) (fun (p : (List ((List UInt8) × (Int × Int))) × Int) => [(0, v0), (1, .int .i64 x1), (2, .int .i64 x2), (3, .func (.func f3) #[] c3), (8, .int .i64 x203)]) (fun (p : (List ((List UInt8) × (Int × Int))) × Int) => [own 59 (TR.pair TR.str (TR.pair TR.int TR.int)) v0 p.1, keep X]) (fun (p : (List ((List UInt8) × (Int × Int))) × Int) => K537 (.nx (p.1, p.2))) ?_ ?_
   ·refine GL.block ?_
    refine GL.loop (ι := Nat × (List ((List UInt8) × (Int × Int))) × Int) (fun (p : Nat × (List ((List UInt8) × (Int × Int))) × Int) => [(0, v0), (1, .int .i64 x1), (2, .int .i64 x2), (3, .func (.func f3) #[] c3), (8, .int .i64 x203), (9, .int .i64 p.2.2)]) (fun (p : Nat × (List ((List UInt8) × (Int × Int))) × Int) => [own 59 (TR.pair TR.str (TR.pair TR.int TR.int)) v0 p.2.1, keep X]) (fun (p : Nat × (List ((List UInt8) × (Int × Int))) × Int) => loopM (slices_insertionSortCmpFunc_api_Account_b2 x1 g3) p.1 (p.2.1, p.2.2) = some y536) (fun (p : Nat × (List ((List UInt8) × (Int × Int))) × Int) => p.1) (1048576, l202, x203) h538 (fun a w st => St.cut [0, 1] ⟨rfl, rfl, rfl, rfl, rfl, rfl, trivial⟩ (by decide) rfl st) ?_
    rintro ⟨r544, l476, x477⟩ h548
    try dsimp only at h548
    refine GL.weak (env' := [(0, v0), (1, .int .i64 x1), (2, .int .i64 x2), (3, .func (.func f3) #[] c3), (8, .int .i64 x203), (9, .int .i64 x477)]) (L' := [own 59 (TR.pair TR.str (TR.pair TR.int TR.int)) v0 l476, keep X]) (fun _ _ st => st) ?_
    obtain ⟨r551, z545, hr, h546, h547⟩ := loopM_some h548
    subst hr
    unfold slices_insertionSortCmpFunc_api_Account_b2 at h546
    try dsimp only at h546
    refine GL.seq ?_
    refine GL.seq ?_
    obtain ⟨y571, K572, h573, h574, h575, h576, h577⟩ := bindF_K h546
    refine GL.join (ι := Bool) (fun (p : Bool) => [(0, v0), (1, .int .i64 x1), (2, .int .i64 x2), (3, .func (.func f3) #[] c3), (8, .int .i64 x203), (9, .int .i64 x477), (34, .bool p)]) (fun (p : Bool) => [own 59 (TR.pair TR.str (TR.pair TR.int TR.int)) v0 l476, keep X]) (fun (p : Bool) => K572 (.nx p)) ?_ ?_
    ·skip
     refine GL.regionQ rfl rfl (by kernel_rfl) ?_
     refine RL.mv rfl rfl rfl ?_
     refine RL.mv rfl rfl rfl ?_
     refine RL.binI (v := .bool (decide (x477 > x1))) rfl rfl rfl rfl rfl ?_
     refine RL.mv rfl rfl rfl ?_
     refine RL.split (t := 21) rfl (fun b578 => ?_) (fun b578 => ?_)
     ·replace h573 := ite_t b578 h573
      refine RL.mv rfl rfl rfl ?_
      refine RL.mv rfl rfl rfl ?_
      refine RL.mv rfl rfl rfl ?_
      obtain ⟨y579, e580, h573⟩ := bind_some h573
      refine RL.idxS (sz := 3) 0 Try.underlying51 Try_ln59 rfl rfl rfl rfl rfl SlOf.own (idx_some e580).1 (idx_some e580).2.1 ?_
      refine RL.ldS (i := (x477).toNat) (r := (TR.pair TR.str (TR.pair TR.int TR.int))) (e' := y579) 0 Try_ln59 rfl rfl rfl rfl SlOf.own (idx_some e580).2.2 Part.self ?_
      intro v581
      refine RL.mv rfl rfl rfl ?_
      refine RL.mv rfl rfl rfl ?_
      refine RL.binI (v := .int .i64 (wsub x477 (1 : Int))) rfl rfl rfl rfl rfl ?_
      obtain ⟨y582, e583, h573⟩ := bind_some h573
      refine RL.idxS (sz := 3) 0 Try.underlying51 Try_ln59 rfl rfl rfl rfl rfl SlOf.own (idx_some e583).1 (idx_some e583).2.1 ?_
      refine RL.ldS (i := (wsub x477 (1 : Int)).toNat) (r := (TR.pair TR.str (TR.pair TR.int TR.int))) (e' := y582) 0 Try_ln59 rfl rfl rfl rfl SlOf.own (idx_some e583).2.2 Part.self ?_
      intro v584
      refine RL.reL (L' := [own 59 (TR.pair TR.str (TR.pair TR.int TR.int)) v0 l476, keep X, imm (TR.pair TR.str (TR.pair TR.int TR.int)) v581 y579, imm (TR.pair TR.str (TR.pair TR.int TR.int)) v584 y582]) rfl ?_
      obtain ⟨y585, e586, h573⟩ := bind_some h573
      refine RL.callV (v := .int .i64 y585) (vs := [v581, v584]) t3 rfl (Or.inr ⟨_, rfl⟩) rfl rfl rfl rfl (fun U w hU hW hL => k3 U w hW hU _ _ (hL 2 _ _ rfl Seen.imm) _ _ (hL 3 _ _ rfl Seen.imm) _ e586) ?_
      refine RL.binI (v := .bool (decide (y585 < (0 : Int)))) rfl rfl rfl rfl rfl ?_
      refine RL.pickT rfl rfl rfl rfl ?_
      refine RL.finQ ?_
      cases h573
      exact fun a w st => mid_intro (decide (y585 < (0 : Int))) h574 (St.cut [0, 1] ⟨rfl, rfl, rfl, rfl, rfl, rfl, rfl, trivial⟩ (by decide) rfl st)
     replace h573 := ite_f b578 h573
     refine RL.skip rfl rfl ?_
     refine RL.skip rfl rfl ?_
     refine RL.skip rfl rfl ?_
     refine RL.skip rfl rfl ?_
     refine RL.skip rfl rfl ?_
     refine RL.skip rfl rfl ?_
     refine RL.skip rfl rfl ?_
     refine RL.skip rfl rfl ?_
     refine RL.skip rfl rfl ?_
     refine RL.skip rfl rfl ?_
     refine RL.skip rfl rfl ?_
     refine RL.skip rfl rfl ?_
     refine RL.pickF rfl rfl rfl rfl ?_
     refine RL.finQ ?_
     cases h573
     exact fun a w st => mid_intro false h574 (St.cut [0, 1] ⟨rfl, rfl, rfl, rfl, rfl, rfl, rfl, trivial⟩ (by decide) rfl st)
    rintro x570 h587
    have h588 := h575 _ h587
    try dsimp only at h588
    refine GL.weak (env' := [(0, v0), (1, .int .i64 x1), (2, .int .i64 x2), (3, .func (.func f3) #[] c3), (8, .int .i64 x203), (9, .int .i64 x477), (34, .bool x570)]) (L' := [own 59 (TR.pair TR.str (TR.pair TR.int TR.int)) v0 l476, keep X]) (fun _ _ st => st) ?_
    refine GL.cond rfl (fun b589 => ?_) (fun b589 => ?_)
    ·replace h588 := ite_t b589 h588
     refine GL.skip ?_
     refine GL.seq ?_
     refine GL.block ?_
     refine GL.regionA rfl rfl ?_
     refine RA.mv 0 rfl (by kernel_rfl) rfl rfl rfl ?_
     refine RA.mv 1 rfl (by kernel_rfl) rfl rfl rfl ?_
     refine RA.mv 2 rfl (by kernel_rfl) rfl rfl rfl ?_
     refine RA.mv 3 rfl (by kernel_rfl) rfl rfl rfl ?_
     refine RA.binI (v := .int .i64 (wsub x477 (1 : Int))) 4 rfl (by kernel_rfl) rfl rfl rfl rfl rfl ?_
     refine RA.mv 5 rfl (by kernel_rfl) rfl rfl rfl ?_
     refine RA.mv 6 rfl (by kernel_rfl) rfl rfl rfl ?_
     refine RA.binI (v := .int .i64 (wsub x477 (1 : Int))) 7 rfl (by kernel_rfl) rfl rfl rfl rfl rfl ?_
     obtain ⟨y600, e601, h588⟩ := bind_some h588
     refine RA.idxS (sz := 3) 0 Try.underlying51 Try_ln59 8 rfl (by kernel_rfl) rfl rfl rfl rfl rfl SlOf.own (idx_some e601).1 (idx_some e601).2.1 ?_
     refine RA.mv 10 rfl (by kernel_rfl) rfl rfl rfl ?_
     refine RA.mv 11 rfl (by kernel_rfl) rfl rfl rfl ?_
     obtain ⟨y602, e603, h588⟩ := bind_some h588
     refine RA.idxS (sz := 3) 0 Try.underlying51 Try_ln59 12 rfl (by kernel_rfl) rfl rfl rfl rfl rfl SlOf.own (idx_some e603).1 (idx_some e603).2.1 ?_
     refine RA.still (le := #[true, true, true, true, true, true, true, true, true, true, true, true, true, true, true, false, false, false]) (f := 3) [9, 13, 14] 15 rfl (by kernel_rfl) ?_
     simp only [pickOps, List.getElem?_toArray, List.getElem?_cons_succ, List.getElem?_cons_zero]
     refine RL.ldS (i := (wsub x477 (1 : Int)).toNat) (r := (TR.pair TR.str (TR.pair TR.int TR.int))) (e' := y600) 0 Try_ln59 rfl rfl rfl rfl SlOf.own (idx_some e601).2.2 Part.self ?_
     intro v604
     refine RL.ldS (i := (x477).toNat) (r := (TR.pair TR.str (TR.pair TR.int TR.int))) (e' := y602) 0 Try_ln59 rfl rfl rfl rfl SlOf.own (idx_some e603).2.2 Part.self ?_
     intro v605
     obtain ⟨y606, e607, h588⟩ := bind_some h588
     refine RL.idxS (sz := 3) 0 Try.underlying51 Try_ln59 rfl rfl rfl rfl rfl SlOf.own (idx_some e607).1 (idx_some e607).2.1 ?_
     refine RL.finH ?_
     refine RL.fin ?_
     refine RA.next ?_
     refine RA.seq 15 rfl (by kernel_rfl) ?_
     refine RL.stS (i := (x477).toNat) (e' := y600) (e1 := y600) (r := (TR.pair TR.str (TR.pair TR.int TR.int))) 0 Try_ln59 rfl rfl rfl rfl (VR.item 2 rfl) rfl (idx_some e607).2.2 Upd.self ?_
     refine RL.fin ?_
     refine RA.next ?_
     obtain ⟨y608, e609, h588⟩ := bind_some h588
     refine RA.idxS (sz := 3) 0 Try.underlying51 Try_ln59 16 rfl (by kernel_rfl) rfl rfl rfl rfl rfl SlOf.own (idx_some e609).1 (idx_some e609).2.1 ?_
     refine RA.seq 17 rfl (by kernel_rfl) ?_
     refine RL.stS (i := (wsub x477 (1 : Int)).toNat) (e' := y602) (e1 := y602) (r := (TR.pair TR.str (TR.pair TR.int TR.int))) 0 Try_ln59 rfl rfl rfl rfl (VR.item 3 rfl) rfl (idx_some e609).2.2 Upd.self ?_
     refine RL.fin ?_
     refine RA.next ?_
     refine RA.doneG (by kernel_rfl) ?_
     refine GL.weak (env' := [(0, v0), (1, .int .i64 x1), (2, .int .i64 x2), (3, .func (.func f3) #[] c3), (8, .int .i64 x203), (9, .int .i64 x477)]) (L' := [own 59 (TR.pair TR.str (TR.pair TR.int TR.int)) v0 (List.set (List.set l476 ((x477).toNat) y600) ((wsub x477 (1 : Int)).toNat) y602), keep X]) (fun a w st => St.cut [0, 1] ⟨rfl, rfl, rfl, rfl, rfl, rfl, trivial⟩ (by decide) rfl st) ?_
     refine GL.nilB ?_
     refine GL.region ?_
     refine RL.mv rfl rfl rfl ?_
     refine RL.binI (v := .int .i64 (wsub x477 (1 : Int))) rfl rfl rfl rfl rfl ?_
     refine RL.asg rfl rfl rfl ?_
     refine RL.finG ?_
     cases h588
     exact fun a w st => lop_intro (r551, (List.set (List.set l476 ((x477).toNat) y600) ((wsub x477 (1 : Int)).toNat) y602), wsub x477 (1 : Int)) (by exact h547) (by simp) (St.cut [0, 1] ⟨rfl, rfl, rfl, rfl, rfl, rfl, trivial⟩ (by decide) rfl st)
    replace h588 := ite_f b589 h588
    cases h588
    replace h547 : some (Fl.nx _) = some y536 := h547
    cases h547
    exact GL.exit (fun a w st => mid_intro (l476, x477) h539 (St.cut [0, 1] ⟨rfl, rfl, rfl, rfl, rfl, trivial⟩ (by decide) rfl st))
   rintro ⟨l476, x477⟩ h610
   have h611 := h540 _ h610
   try dsimp only at h611
   refine GL.weak (env' := [(0, v0), (1, .int .i64 x1), (2, .int .i64 x2), (3, .func (.func f3) #[] c3), (8, .int .i64 x203)]) (L' := [own 59 (TR.pair TR.str (TR.pair TR.int TR.int)) v0 l476, keep X]) (fun _ _ st => st) ?_
   refine GL.nilB ?_
   refine GL.region ?_
   refine RL.mv rfl rfl rfl ?_
   refine RL.binI (v := .int .i64 (wadd x203 (1 : Int))) rfl rfl rfl rfl rfl ?_
   refine RL.asg rfl rfl rfl ?_
   refine RL.finG ?_
   cases h611
   exact fun a w st => lop_intro (r415, l476, wadd x203 (1 : Int)) (by exact h411) (by simp) (St.cut [0, 1] ⟨rfl, rfl, rfl, rfl, rfl, trivial⟩ (by decide) rfl st)
  replace h410 := ite_f b416 h410
  cases h410
  replace h411 : some (Fl.nx _) = some y400 := h411
  cases h411
  exact GL.exit (fun a w st => mid_intro (l202, x203) h403 (St.cut [0, 1] trivial (by decide) rfl st))
 rintro ⟨l202, x203⟩ h612
 have h613 := h404 _ h612
 try dsimp only at h613
 refine GL.weak (env' := []) (L' := [own 59 (TR.pair TR.str (TR.pair TR.int TR.int)) v0 l202, keep X]) (fun _ _ st => st) ?_
 have h613 := Option.some.inj h613
 subst h613
 exact GL.nil (Gx.retN (v := .tuple #[]) (res0 rfl) (fun a w st => (st.pick [0, 1] (by decide) rfl).toPostM (V := fun (o : Unit) => .tuple #[]) (LR := fun (o : Unit) => [own 59 (TR.pair TR.str (TR.pair TR.int TR.int)) v0 l202, keep X]) ()))

set_option maxHeartbeats 4000000 in
theorem slices_pdqsortCmpFunc_api_Account_c (B : World) (S X : Hp) (f : Nat → Hp) (w : World) (v0 : Value) (x0 : (List ((List UInt8) × (Int × Int)))) (hO : HeapOk B.heap.size S f [own 59 (TR.pair TR.str (TR.pair TR.int TR.int)) v0 x0, keep X].length w) (hB : Below B.heap.size B w) (hI : Its [own 59 (TR.pair TR.str (TR.pair TR.int TR.int)) v0 x0, keep X] S f) (x1 : Int) (x2 : Int) (x3 : Int) (f4 : FuncId) (c4 : Array Value) (t4 : Fit Try.prog f4) (g4 : ((List UInt8) × (Int × Int)) → ((List UInt8) × (Int × Int)) → Option Int) (k4 : ∀ (U : Hp) (w' : World), Hp.le S U → U.sub w' → ∀ (u0 : Value) (a0 : ((List UInt8) × (Int × Int))) (_ : ((TR.pair TR.str (TR.pair TR.int TR.int))).vrep U u0 a0) (u1 : Value) (a1 : ((List UInt8) × (Int × Int))) (_ : ((TR.pair TR.str (TR.pair TR.int TR.int))).vrep U u1 a1) (rr : Int), g4 a0 a1 = some rr → Calls Try.prog f4 (#[u0, u1] ++ c4) w' (PostV w' (.int .i64 rr))) (res : (List ((List UInt8) × (Int × Int)))) (hm : slices_pdqsortCmpFunc_api_Account_m x0 x1 x2 x3 g4 = some res) : Calls Try.prog 124 #[v0, .int .i64 x1, .int .i64 x2, .int .i64 x3, .func (.func f4) #[] c4] w (PostM B S (fun (o : Unit) => .tuple #[]) (fun (o : Unit) => [own 59 (TR.pair TR.str (TR.pair TR.int TR.int)) v0 res, keep X])) := by
 refine calls_enterM 148 Try.func124 Try.ntmps124 rfl B S f [(0, v0), (1, .int .i64 x1), (2, .int .i64 x2), (3, .int .i64 x3), (4, .func (.func f4) #[] c4)] [own 59 (TR.pair TR.str (TR.pair TR.int TR.int)) v0 x0, keep X] [] rfl ⟨rfl, ⟨rfl, ⟨rfl, ⟨rfl, ⟨rfl, trivial⟩⟩⟩⟩⟩ hB hO hI trivial ?_
 unfold slices_pdqsortCmpFunc_api_Account_m at hm
 refine GL.seq ?_
 refine GL.region ?_
 refine RL.asg rfl rfl rfl ?_
 refine RL.finG ?_
 refine GL.seq ?_
 refine GL.region ?_
 refine RL.asg rfl rfl rfl ?_
 refine RL.finG ?_
 obtain ⟨y83, K84, h85, h86, h87, h88, h89⟩ := bindR_K hm
 refine GL.join (ι := (List ((List UInt8) × (Int × Int))) × Int × Int × Int × Bool × Bool) (fun (p : (List ((List UInt8) × (Int × Int))) × Int × Int × Int × Bool × Bool) => []) (fun (p : (List ((List UInt8) × (Int × Int))) × Int × Int × Int × Bool × Bool) => [own 59 (TR.pair TR.str (TR.pair TR.int TR.int)) v0 p.1, keep X]) (fun (p : (List ((List UInt8) × (Int × Int))) × Int × Int × Int × Bool × Bool) => K84 (.nx (p.1, p.2.1, p.2.2.1, p.2.2.2.1, p.2.2.2.2.1, p.2.2.2.2.2))) ?_ ?_
 ·refine GL.block ?_
  refine GL.loop (ι := Nat × (List ((List UInt8) × (Int × Int))) × Int × Int × Int × Bool × Bool) (fun (p : Nat × (List ((List UInt8) × (Int × Int))) × Int × Int × Int × Bool × Bool) => [(0, v0), (1, .int .i64 p.2.2.1), (2, .int .i64 p.2.2.2.1), (3, .int .i64 p.2.2.2.2.1), (4, .func (.func f4) #[] c4), (10, .bool p.2.2.2.2.2.1), (11, .bool p.2.2.2.2.2.2)]) (fun (p : Nat × (List ((List UInt8) × (Int × Int))) × Int × Int × Int × Bool × Bool) => [own 59 (TR.pair TR.str (TR.pair TR.int TR.int)) v0 p.2.1, keep X]) (fun (p : Nat × (List ((List UInt8) × (Int × Int))) × Int × Int × Int × Bool × Bool) => loopM (slices_pdqsortCmpFunc_api_Account_b1 g4) p.1 (p.2.1, p.2.2.1, p.2.2.2.1, p.2.2.2.2.1, p.2.2.2.2.2.1, p.2.2.2.2.2.2) = some y83) (fun (p : Nat × (List ((List UInt8) × (Int × Int))) × Int × Int × Int × Bool × Bool) => p.1) (1048576, x0, x1, x2, x3, true, true) h85 (fun a w st => St.cut [0, 1] ⟨rfl, rfl, rfl, rfl, rfl, rfl, rfl, trivial⟩ (by decide) rfl st) ?_
  rintro ⟨r91, l44, x45, x46, x47, x48, x49⟩ h95
  try dsimp only at h95
  refine GL.weak (env' := [(0, v0), (1, .int .i64 x45), (2, .int .i64 x46), (3, .int .i64 x47), (4, .func (.func f4) #[] c4), (10, .bool x48), (11, .bool x49)]) (L' := [own 59 (TR.pair TR.str (TR.pair TR.int TR.int)) v0 l44, keep X]) (fun _ _ st => st) ?_
  obtain ⟨r98, z92, hr, h93, h94⟩ := loopM_some h95
  subst hr
  unfold slices_pdqsortCmpFunc_api_Account_b1 at h93
  try dsimp only at h93
  refine GL.block ?_
  refine GL.seq ?_
  refine GL.region ?_
  refine RL.mv rfl rfl rfl ?_
  refine RL.mv rfl rfl rfl ?_
  refine RL.binI (v := .int .i64 (wsub x46 x45)) rfl rfl rfl rfl rfl ?_
  refine RL.asg rfl rfl rfl ?_
  refine RL.finG ?_
  refine GL.seq ?_
  refine GL.seq ?_
  refine GL.region ?_
  refine RL.mv rfl rfl rfl ?_
  refine RL.binI (v := .bool (decide ((wsub x46 x45) ≤ (12 : Int)))) rfl rfl rfl rfl rfl ?_
  refine RL.finG ?_
  refine GL.cond rfl (fun b99 => ?_) (fun b99 => ?_)
  ·replace h93 := ite_t b99 h93
   refine GL.seq ?_
   refine GL.region ?_
   refine RL.mv rfl rfl rfl ?_
   refine RL.mv rfl rfl rfl ?_
   refine RL.mv rfl rfl rfl ?_
   refine RL.mv rfl rfl rfl ?_
   obtain ⟨y106, e107, h93⟩ := bind_some h93
   refine RL.callK (vs := [v0, .int .i64 x45, .int .i64 x46, .func (.func f4) #[] c4]) (V := fun (o : Unit) => .tuple #[]) (LR := fun (o : Unit) => [own 59 (TR.pair TR.str (TR.pair TR.int TR.int)) v0 y106]) (Ls := [own 59 (TR.pair TR.str (TR.pair TR.int TR.int)) v0 l44]) [0] (by decide) Try_fit132 rfl rfl rfl rfl rfl rfl (fun S f X w hO hB hW hI hL => slices_insertionSortCmpFunc_api_Account_c _ S X f w _ _ hO hB hI x45 x46 f4 c4 t4 g4 (fun U' w' hle => k4 U' w' (Hp.le_trans hW hle)) _ e107) ?_
   intro _
   refine RL.reL (L' := [gone, keep X, own 59 (TR.pair TR.str (TR.pair TR.int TR.int)) v0 y106]) rfl ?_
   refine RL.finG ?_
   cases h93
   replace h94 : some (Fl.rt _) = some y83 := h94
   cases h94
   have hh := h88 _ h86
   subst hh
   exact GL.ret (Gx.ret (v := .tuple #[]) (res0 rfl) (fun a w st => (st.pick [2, 1] (by decide) rfl).toPostM (V := fun (o : Unit) => .tuple #[]) (LR := fun (o : Unit) => [own 59 (TR.pair TR.str (TR.pair TR.int TR.int)) v0 y106, keep X]) ()))
  replace h93 := ite_f b99 h93
  refine GL.skip ?_
  refine GL.seq ?_
  refine GL.seq ?_
  refine GL.region ?_
  refine RL.mv rfl rfl rfl ?_
  refine RL.binI (v := .bool (x47 == (0 : Int))) rfl rfl rfl rfl rfl ?_
  refine RL.finG ?_
  refine GL.cond rfl (fun b120 => ?_) (fun b120 => ?_)
  ·replace h93 := ite_t b120 h93
   cases h93
  replace h93 := ite_f b120 h93
  cases h93
 rintro ⟨l44, x45, x46, x47, x48, x49⟩ h132
 have h133 := h87 _ h132
 try dsimp only at h133
 cases h133

set_option maxHeartbeats 4000000 in
theorem slices_SortFunc_api_Account_api_Account_c (B : World) (S X : Hp) (f : Nat → Hp) (w : World) (v0 : Value) (x0 : (List ((List UInt8) × (Int × Int)))) (hO : HeapOk B.heap.size S f [own 59 (TR.pair TR.str (TR.pair TR.int TR.int)) v0 x0, keep X].length w) (hB : Below B.heap.size B w) (hI : Its [own 59 (TR.pair TR.str (TR.pair TR.int TR.int)) v0 x0, keep X] S f) (f1 : FuncId) (c1 : Array Value) (t1 : Fit Try.prog f1) (g1 : ((List UInt8) × (Int × Int)) → ((List UInt8) × (Int × Int)) → Option Int) (k1 : ∀ (U : Hp) (w' : World), Hp.le S U → U.sub w' → ∀ (u0 : Value) (a0 : ((List UInt8) × (Int × Int))) (_ : ((TR.pair TR.str (TR.pair TR.int TR.int))).vrep U u0 a0) (u1 : Value) (a1 : ((List UInt8) × (Int × Int))) (_ : ((TR.pair TR.str (TR.pair TR.int TR.int))).vrep U u1 a1) (rr : Int), g1 a0 a1 = some rr → Calls Try.prog f1 (#[u0, u1] ++ c1) w' (PostV w' (.int .i64 rr))) (res : (List ((List UInt8) × (Int × Int)))) (hm : slices_SortFunc_api_Account_api_Account_m x0 g1 = some res) : Calls Try.prog 100 #[v0, .func (.func f1) #[] c1] w (PostM B S (fun (o : Unit) => .tuple #[]) (fun (o : Unit) => [own 59 (TR.pair TR.str (TR.pair TR.int TR.int)) v0 res, keep X])) := by
 refine calls_enterM 14 Try.func100 Try.ntmps100 rfl B S f [(0, v0), (1, .func (.func f1) #[] c1)] [own 59 (TR.pair TR.str (TR.pair TR.int TR.int)) v0 x0, keep X] [] rfl ⟨rfl, ⟨rfl, trivial⟩⟩ hB hO hI trivial ?_
 unfold slices_SortFunc_api_Account_api_Account_m at hm
 refine GL.seq ?_
 refine GL.region ?_
 refine RL.mv rfl rfl rfl ?_
 refine RL.lenS 0 Try.underlying51 rfl rfl rfl rfl SlOf.own ?_
 refine RL.asg rfl rfl rfl ?_
 refine RL.finG ?_
 refine GL.region ?_
 refine RL.mv rfl rfl rfl ?_
 refine RL.mv rfl rfl rfl ?_
 refine RL.mv rfl rfl rfl ?_
 refine RL.cvI Try.underlying3 Try.underlying139 rfl rfl rfl ?_
 obtain ⟨y7, e8, hm⟩ := bind_some hm
 refine RL.callC (v := .int .i64 y7) (vs := [.int .u64 (IntKind.wrap .u64 ((x0).length : Int))]) Try_fit125 rfl rfl rfl rfl (fun U w hU hW hL => math_bits_Len_c U w hU (IntKind.wrap .u64 ((x0).length : Int)) _ e8) ?_
 refine RL.mv rfl rfl rfl ?_
 obtain ⟨y9, e10, hm⟩ := bind_some hm
 refine RL.callK (vs := [v0, .int .i64 (0 : Int), .int .i64 ((x0).length : Int), .int .i64 y7, .func (.func f1) #[] c1]) (V := fun (o : Unit) => .tuple #[]) (LR := fun (o : Unit) => [own 59 (TR.pair TR.str (TR.pair TR.int TR.int)) v0 y9]) (Ls := [own 59 (TR.pair TR.str (TR.pair TR.int TR.int)) v0 x0]) [0] (by decide) Try_fit124 rfl rfl rfl rfl rfl rfl (fun S f X w hO hB hW hI hL => slices_pdqsortCmpFunc_api_Account_c _ S X f w _ _ hO hB hI (0 : Int) ((x0).length : Int) y7 f1 c1 t1 g1 (fun U' w' hle => k1 U' w' (Hp.le_trans hW hle)) _ e10) ?_
 intro _
 refine RL.reL (L' := [gone, keep X, own 59 (TR.pair TR.str (TR.pair TR.int TR.int)) v0 y9]) rfl ?_
 refine RL.finG ?_
 have hm := Option.some.inj hm
 subst hm
 exact GL.nil (Gx.retN (v := .tuple #[]) (res0 rfl) (fun a w st => (st.pick [2, 1] (by decide) rfl).toPostM (V := fun (o : Unit) => .tuple #[]) (LR := fun (o : Unit) => [own 59 (TR.pair TR.str (TR.pair TR.int TR.int)) v0 y9, keep X]) ()))

set_option maxHeartbeats 4000000 in
theorem ledger_Open_1_c (S : Hp) (w : World) (hS : S.sub w) (v0 : Value) (x0 : ((List UInt8) × (Int × Int))) (k0 : ((TR.pair TR.str (TR.pair TR.int TR.int))).vrep S v0 x0) (v1 : Value) (x1 : ((List UInt8) × (Int × Int))) (k1 : ((TR.pair TR.str (TR.pair TR.int TR.int))).vrep S v1 x1) (res : Int) (hm : ledger_Open_1_m x0 x1 = some res) : Calls Try.prog 101 #[v0, v1] w (PostV w (.int .i64 res)) := by
 refine calls_enter 10 Try.func101 Try.ntmps101 rfl S false [(0, v0), (1, v1)] [imm (TR.pair TR.str (TR.pair TR.int TR.int)) v0 x0, imm (TR.pair TR.str (TR.pair TR.int TR.int)) v1 x1] rfl ⟨rfl, ⟨rfl, trivial⟩⟩ hS ⟨k0, ⟨k1, trivial⟩⟩ ?_
 unfold ledger_Open_1_m at hm
 refine GL.seq ?_
 refine GL.region ?_
 refine RL.box (t := (TR.pair TR.str (TR.pair TR.int TR.int))) (e := x0) rfl rfl rfl rfl (VR.item 0 rfl) ?_
 intro v5
 refine RL.box (t := (TR.pair TR.str (TR.pair TR.int TR.int))) (e := x1) rfl rfl rfl rfl (VR.item 1 rfl) ?_
 intro v6
 refine RL.reL (L' := [imm (TR.pair TR.str (TR.pair TR.int TR.int)) v0 x0, imm (TR.pair TR.str (TR.pair TR.int TR.int)) v1 x1, obox 59 (TR.pair TR.str (TR.pair TR.int TR.int)) v5 x0, obox 59 (TR.pair TR.str (TR.pair TR.int TR.int)) v6 x1]) rfl ?_
 refine RL.asg rfl rfl rfl ?_
 refine RL.finG ?_
 refine GL.seq ?_
 refine GL.seq ?_
 refine GL.region ?_
 refine RL.fadr (off := 0) (fo := 0) 2 Try_fld59_0 rfl rfl rfl PtOf.obox (Or.inr ⟨rfl, rfl⟩) ?_
 refine RL.ldPx (off := (0 + 0)) (e' := x0.1) 2 Ex.str Try_ln9 rfl rfl (Or.inl rfl) rfl PtOf.obox (Part.fst Part.self) ?_
 refine RL.fadr (off := 0) (fo := 0) 3 Try_fld59_0 rfl rfl rfl PtOf.obox (Or.inr ⟨rfl, rfl⟩) ?_
 refine RL.ldPx (off := (0 + 0)) (e' := x1.1) 3 Ex.str Try_ln9 rfl rfl (Or.inl rfl) rfl PtOf.obox (Part.fst Part.self) ?_
 refine RL.binS (v := .bool (bls x0.1 x1.1)) rfl rfl rfl rfl rfl ?_
 refine RL.finG ?_
 refine GL.cond rfl (fun b7 => ?_) (fun b7 => ?_)
 ·replace hm := ite_t b7 hm
  refine GL.seq ?_
  refine GL.region ?_
  refine RL.asg rfl rfl rfl ?_
  refine RL.finG ?_
  have hm := Option.some.inj hm
  subst hm
  exact GL.ret (Gx.ret (v := .int .i64 (-1 : Int)) (res1 rfl rfl) (fun a w st => st.toPostV))
 replace hm := ite_f b7 hm
 refine GL.skip ?_
 refine GL.seq ?_
 refine GL.region ?_
 refine RL.asg rfl rfl rfl ?_
 refine RL.finG ?_
 have hm := Option.some.inj hm
 subst hm
 exact GL.ret (Gx.ret (v := .int .i64 (1 : Int)) (res1 rfl rfl) (fun a w st => st.toPostV))

set_option maxHeartbeats 4000000 in
theorem ledger_Open_c (S : Hp) (w : World) (hS : S.sub w) (v0 : Value) (x0 : (List ((List UInt8) × (Int × Int)))) (k0 : ((TR.sl (TR.pair TR.str (TR.pair TR.int TR.int)))).vrep S v0 x0) (x1 : (List UInt8)) (x2 : Int) (res : (List ((List UInt8) × (Int × Int))) × Int) (hm : ledger_Open_m x0 x1 x2 = some res) : Calls Try.prog 41 #[v0, .string ⟨(x1 : List UInt8).toArray⟩, .int .i64 x2] w (Post w S (fun (o : Value) => .tuple #[o, .int .i64 res.2]) (fun (o : Value) => [own 59 (TR.pair TR.str (TR.pair TR.int TR.int)) o res.1])) := by
 refine calls_enter 45 Try.func41 Try.ntmps41 rfl S false [(0, v0), (1, .string ⟨(x1 : List UInt8).toArray⟩), (2, .int .i64 x2)] [imm (TR.sl (TR.pair TR.str (TR.pair TR.int TR.int))) v0 x0] rfl ⟨rfl, ⟨rfl, ⟨rfl, trivial⟩⟩⟩ hS ⟨k0, trivial⟩ ?_
 unfold ledger_Open_m at hm
 refine GL.seq ?_
 refine GL.region ?_
 refine RL.asg rfl rfl rfl ?_
 refine RL.asg rfl rfl rfl ?_
 refine RL.finG ?_
 refine GL.seq ?_
 refine GL.seq ?_
 refine GL.region ?_
 refine RL.mv rfl rfl rfl ?_
 obtain ⟨y6, e7, hm⟩ := bind_some hm
 refine RL.callV (v := .int .i64 y6) (vs := [v0]) Try_fit40 rfl (Or.inl rfl) rfl rfl rfl rfl (fun U w hU hW hL => ledger_Check_c U w hU _ _ (hL 0 _ _ rfl Seen.imm) _ e7) ?_
 refine RL.asg rfl rfl rfl ?_
 refine RL.finG ?_
 refine GL.seq ?_
 refine GL.region ?_
 refine RL.mv rfl rfl rfl ?_
 refine RL.binI (v := .bool (y6 != (0 : Int))) rfl rfl rfl rfl rfl ?_
 refine RL.finG ?_
 refine GL.cond rfl (fun b8 => ?_) (fun b8 => ?_)
 ·replace hm := ite_t b8 hm
  refine GL.seq ?_
  refine GL.region ?_
  refine RL.mv rfl rfl rfl ?_
  refine RL.asg rfl rfl rfl ?_
  refine RL.asg rfl rfl rfl ?_
  refine RL.finG ?_
  refine GL.weak (fun a w st => st.nilOwn 59 (TR.pair TR.str (TR.pair TR.int TR.int))) ?_
  have hm := Option.some.inj hm
  subst hm
  exact GL.ret (Gx.ret (v := .tuple #[Value.slice none 0 0, .int .i64 y6]) (res2 rfl rfl rfl) (fun a w st => (st.pick [1] (by decide) rfl).toPost (Value.slice none 0 0)))
 replace hm := ite_f b8 hm
 refine GL.skip ?_
 refine GL.seq ?_
 refine GL.block ?_
 refine GL.seq ?_
 refine GL.region ?_
 refine RL.mv rfl rfl rfl ?_
 obtain ⟨y11, e12, hm⟩ := bind_some hm
 refine RL.callV (v := .bool y11) (vs := [.string ⟨(x1 : List UInt8).toArray⟩]) Try_fit99 rfl (Or.inl rfl) rfl rfl rfl rfl (fun U w hU hW hL => ledger_named_c U w hU x1 _ e12) ?_
 refine RL.notB rfl rfl rfl ?_
 refine RL.asg rfl rfl rfl ?_
 refine RL.finG ?_
 refine GL.cond rfl (fun b13 => ?_) (fun b13 => ?_)
 ·replace hm := ite_t b13 hm
  refine GL.seq ?_
  refine GL.region ?_
  refine RL.asg rfl rfl rfl ?_
  refine RL.asg rfl rfl rfl ?_
  refine RL.finG ?_
  refine GL.weak (fun a w st => st.nilOwn 59 (TR.pair TR.str (TR.pair TR.int TR.int))) ?_
  have hm := Option.some.inj hm
  subst hm
  exact GL.ret (Gx.ret (v := .tuple #[Value.slice none 0 0, .int .i64 (3 : Int)]) (res2 rfl rfl rfl) (fun a w st => (st.pick [1] (by decide) rfl).toPost (Value.slice none 0 0)))
 replace hm := ite_f b13 hm
 refine GL.seq ?_
 obtain ⟨y17, K18, h19, h20, h21, h22, h23⟩ := bindR_K hm
 refine GL.join (ι := Bool) (fun (p : Bool) => [(0, v0), (1, .string ⟨(x1 : List UInt8).toArray⟩), (2, .int .i64 x2), (19, .bool p)]) (fun (p : Bool) => [imm (TR.sl (TR.pair TR.str (TR.pair TR.int TR.int))) v0 x0]) (fun (p : Bool) => K18 (.nx p)) ?_ ?_
 ·skip
  refine GL.region ?_
  refine RL.mv rfl rfl rfl ?_
  refine RL.binI (v := .bool (decide (x2 < (0 : Int)))) rfl rfl rfl rfl rfl ?_
  refine RL.mv rfl rfl rfl ?_
  refine RL.split (t := 22) rfl (fun b24 => ?_) (fun b24 => ?_)
  ·replace h19 := ite_t b24 h19
   refine RL.skip rfl rfl ?_
   refine RL.skip rfl rfl ?_
   refine RL.pickT rfl rfl rfl rfl ?_
   refine RL.asg rfl rfl rfl ?_
   refine RL.fin ?_
   cases h19
   exact fun a w st => mid_intro true h20 (St.cut [0] ⟨rfl, rfl, rfl, rfl, trivial⟩ (by decide) rfl st)
  replace h19 := ite_f b24 h19
  refine RL.mv rfl rfl rfl ?_
  refine RL.binI (v := .bool (decide (x2 > (1000000 : Int)))) rfl rfl rfl rfl rfl ?_
  refine RL.pickF rfl rfl rfl rfl ?_
  refine RL.asg rfl rfl rfl ?_
  refine RL.fin ?_
  cases h19
  exact fun a w st => mid_intro (decide (x2 > (1000000 : Int))) h20 (St.cut [0] ⟨rfl, rfl, rfl, rfl, trivial⟩ (by decide) rfl st)
 rintro x16 h25
 have h26 := h21 _ h25
 try dsimp only at h26
 refine GL.weak (env' := [(0, v0), (1, .string ⟨(x1 : List UInt8).toArray⟩), (2, .int .i64 x2), (19, .bool x16)]) (L' := [imm (TR.sl (TR.pair TR.str (TR.pair TR.int TR.int))) v0 x0]) (fun _ _ st => st) ?_
 refine GL.cond rfl (fun b27 => ?_) (fun b27 => ?_)
 ·replace h26 := ite_t b27 h26
  refine GL.seq ?_
  refine GL.region ?_
  refine RL.asg rfl rfl rfl ?_
  refine RL.asg rfl rfl rfl ?_
  refine RL.finG ?_
  refine GL.weak (fun a w st => st.nilOwn 59 (TR.pair TR.str (TR.pair TR.int TR.int))) ?_
  have h26 := Option.some.inj h26
  subst h26
  exact GL.ret (Gx.ret (v := .tuple #[Value.slice none 0 0, .int .i64 (1 : Int)]) (res2 rfl rfl rfl) (fun a w st => (st.pick [1] (by decide) rfl).toPost (Value.slice none 0 0)))
 replace h26 := ite_f b27 h26
 refine GL.seq ?_
 refine GL.region ?_
 refine RL.mv rfl rfl rfl ?_
 refine RL.mv rfl rfl rfl ?_
 obtain ⟨y30, e31, h26⟩ := bind_some h26
 refine RL.callV (v := .int .i64 y30) (vs := [v0, .string ⟨(x1 : List UInt8).toArray⟩]) Try_fit97 rfl (Or.inl rfl) rfl rfl rfl rfl (fun U w hU hW hL => ledger_find_c U w hU _ _ (hL 0 _ _ rfl Seen.imm) x1 _ e31) ?_
 refine RL.binI (v := .bool (decide (y30 ≥ (0 : Int)))) rfl rfl rfl rfl rfl ?_
 refine RL.asg rfl rfl rfl ?_
 refine RL.finG ?_
 refine GL.cond rfl (fun b32 => ?_) (fun b32 => ?_)
 ·replace h26 := ite_t b32 h26
  refine GL.seq ?_
  refine GL.region ?_
  refine RL.asg rfl rfl rfl ?_
  refine RL.asg rfl rfl rfl ?_
  refine RL.finG ?_
  refine GL.weak (fun a w st => st.nilOwn 59 (TR.pair TR.str (TR.pair TR.int TR.int))) ?_
  have h26 := Option.some.inj h26
  subst h26
  exact GL.ret (Gx.ret (v := .tuple #[Value.slice none 0 0, .int .i64 (7 : Int)]) (res2 rfl rfl rfl) (fun a w st => (st.pick [1] (by decide) rfl).toPost (Value.slice none 0 0)))
 replace h26 := ite_f b32 h26
 refine GL.seq ?_
 refine GL.region ?_
 refine RL.mv rfl rfl rfl ?_
 refine RL.lenS 0 Try.underlying51 rfl rfl rfl rfl SlOf.imm ?_
 refine RL.binI (v := .bool (((x0).length : Int) == (6 : Int))) rfl rfl rfl rfl rfl ?_
 refine RL.asg rfl rfl rfl ?_
 refine RL.finG ?_
 refine GL.cond rfl (fun b33 => ?_) (fun b33 => ?_)
 ·replace h26 := ite_t b33 h26
  refine GL.seq ?_
  refine GL.region ?_
  refine RL.asg rfl rfl rfl ?_
  refine RL.asg rfl rfl rfl ?_
  refine RL.finG ?_
  refine GL.weak (fun a w st => st.nilOwn 59 (TR.pair TR.str (TR.pair TR.int TR.int))) ?_
  have h26 := Option.some.inj h26
  subst h26
  exact GL.ret (Gx.ret (v := .tuple #[Value.slice none 0 0, .int .i64 (8 : Int)]) (res2 rfl rfl rfl) (fun a w st => (st.pick [1] (by decide) rfl).toPost (Value.slice none 0 0)))
 replace h26 := ite_f b33 h26
 refine GL.skip ?_
 refine GL.nilB ?_
 refine GL.seq ?_
 refine GL.region ?_
 refine RL.mv rfl rfl rfl ?_
 obtain ⟨y42, e43, h26⟩ := bind_some h26
 refine RL.call (vs := [v0]) Try_fit98 rfl rfl rfl rfl rfl (fun S f w hS hW hi => slices_Clone_api_Account_api_Account_c S w hS _ _ (hi 0 _ rfl) _ e43) ?_
 intro v44
 refine RL.mv rfl rfl rfl ?_
 refine RL.mv rfl rfl rfl ?_
 refine RL.bld (t := (TR.pair TR.str (TR.pair TR.int TR.int))) (d0 := ((x1, x2, (0 : Int)) : ((List UInt8) × (Int × Int)))) (pv := [(0, .string ⟨(x1 : List UInt8).toArray⟩), (1, .int .i64 x2)]) rfl Try_bld59 rfl rfl rfl ⟨⟨_, _, TR.str, x1, rfl, rfl, VR.str⟩, ⟨⟨_, _, TR.int, x2, rfl, rfl, VR.int⟩, trivial⟩⟩ (fun S f hi => by
   obtain ⟨c0, e0, r0⟩ := cells_vrep (t := TR.str) (u := .string ⟨(x1 : List UInt8).toArray⟩) (e := x1) (VR.str S f hi)
   obtain ⟨c1, e1, r1⟩ := cells_vrep (t := TR.int) (u := .int .i64 x2) (e := x2) (VR.int S f hi)
   show TR.rep (TR.pair TR.str (TR.pair TR.int TR.int)) S (List.flatten [(.string ⟨(x1 : List UInt8).toArray⟩ : Value).cells.toList, (.int .i64 x2 : Value).cells.toList, [.int .i64 0]]) _
   simp only [e0, e1,  List.flatten_cons, List.flatten_nil, List.append_nil]
   exact ⟨_, _, rfl, r0, ⟨_, _, rfl, r1, rfl⟩⟩) ?_
 intro v45
 refine RL.reL (L' := [imm (TR.sl (TR.pair TR.str (TR.pair TR.int TR.int))) v0 x0, own 59 (TR.pair TR.str (TR.pair TR.int TR.int)) v44 y42, imm (TR.pair TR.str (TR.pair TR.int TR.int)) v45 ((x1, x2, (0 : Int)) : ((List UInt8) × (Int × Int)))]) rfl ?_
 refine RL.bS (t := (TR.pair TR.str (TR.pair TR.int TR.int))) (vs := [v45]) ([((x1, x2, (0 : Int)) : ((List UInt8) × (Int × Int)))] : (List ((List UInt8) × (Int × Int)))) Try.underlying51 Try_lo59 rfl rfl rfl rfl ⟨(VR.item 2 rfl), trivial⟩ rfl (by decide) ?_
 intro v46
 obtain ⟨y47, e48, h26⟩ := bind_some h26
 replace e48 := chk_some e48
 refine RL.app 1 3 Try.underlying51 Try_lo59 rfl rfl rfl rfl rfl rfl rfl SlOf.own e48 ?_
 intro v49
 refine RL.reL (L' := [imm (TR.sl (TR.pair TR.str (TR.pair TR.int TR.int))) v0 x0, own 59 (TR.pair TR.str (TR.pair TR.int TR.int)) v49 (y42 ++ ([((x1, x2, (0 : Int)) : ((List UInt8) × (Int × Int)))] : (List ((List UInt8) × (Int × Int))))), imm (TR.pair TR.str (TR.pair TR.int TR.int)) v45 ((x1, x2, (0 : Int)) : ((List UInt8) × (Int × Int))), own 59 (TR.pair TR.str (TR.pair TR.int TR.int)) v46 ([((x1, x2, (0 : Int)) : ((List UInt8) × (Int × Int)))] : (List ((List UInt8) × (Int × Int))))]) rfl ?_
 refine RL.asg rfl rfl rfl ?_
 refine RL.finG ?_
 refine GL.seq ?_
 refine GL.region ?_
 refine RL.mv rfl rfl rfl ?_
 obtain ⟨y52, e53, h26⟩ := bind_some h26
 refine RL.callK (vs := [v49, .func (.func 101) #[] #[]]) (V := fun (o : Unit) => .tuple #[]) (LR := fun (o : Unit) => [own 59 (TR.pair TR.str (TR.pair TR.int TR.int)) v49 y52]) (Ls := [own 59 (TR.pair TR.str (TR.pair TR.int TR.int)) v49 (y42 ++ ([((x1, x2, (0 : Int)) : ((List UInt8) × (Int × Int)))] : (List ((List UInt8) × (Int × Int)))))]) [1] (by decide) Try_fit100 rfl rfl rfl rfl rfl rfl (fun S f X w hO hB hW hI hL => slices_SortFunc_api_Account_api_Account_c _ S X f w _ _ hO hB hI 101 #[] Try_fit101 (fun a0 a1 => ledger_Open_1_m a0 a1) (fun U' w' hle hU' u0 a0 q0 u1 a1 q1 rr hr => (ledger_Open_1_c U' w' hU' u0 a0 q0 u1 a1 q1 rr hr).mono (fun _ _ z => z)) _ e53) ?_
 intro _
 refine RL.reL (L' := [imm (TR.sl (TR.pair TR.str (TR.pair TR.int TR.int))) v0 x0, gone, imm (TR.pair TR.str (TR.pair TR.int TR.int)) v45 ((x1, x2, (0 : Int)) : ((List UInt8) × (Int × Int))), own 59 (TR.pair TR.str (TR.pair TR.int TR.int)) v46 ([((x1, x2, (0 : Int)) : ((List UInt8) × (Int × Int)))] : (List ((List UInt8) × (Int × Int)))), own 59 (TR.pair TR.str (TR.pair TR.int TR.int)) v49 y52]) rfl ?_
 refine RL.finG ?_
 refine GL.seq ?_
 refine GL.region ?_
 refine RL.mv rfl rfl rfl ?_
 refine RL.asg rfl rfl rfl ?_
 refine RL.asg rfl rfl rfl ?_
 refine RL.finG ?_
 have h26 := Option.some.inj h26
 subst h26
 exact GL.ret (Gx.ret (v := .tuple #[v49, .int .i64 (0 : Int)]) (res2 rfl rfl rfl) (fun a w st => (st.pick [4] (by decide) rfl).toPost v49))

set_option maxHeartbeats 4000000 in
theorem ledger_Right_c (S : Hp) (w : World) (hS : S.sub w) (v0 : Value) (x0 : ((List UInt8) × ((List UInt8) × (Int × (Int × (Int × Int)))))) (k0 : ((TR.pair TR.str (TR.pair TR.str (TR.pair TR.int (TR.pair TR.int (TR.pair TR.int TR.int)))))).vrep S v0 x0) (res : Int) (hm : ledger_Right_m x0 = some res) : Calls Try.prog 96 #[v0] w (PostV w (.int .i64 res)) := by
 refine calls_enter 58 Try.func96 Try.ntmps96 rfl S false [(0, v0)] [imm (TR.pair TR.str (TR.pair TR.str (TR.pair TR.int (TR.pair TR.int (TR.pair TR.int TR.int))))) v0 x0] rfl ⟨rfl, trivial⟩ hS ⟨k0, trivial⟩ ?_
 unfold ledger_Right_m at hm
 refine GL.seq ?_
 refine GL.region ?_
 refine RL.box (t := (TR.pair TR.str (TR.pair TR.str (TR.pair TR.int (TR.pair TR.int (TR.pair TR.int TR.int)))))) (e := x0) rfl rfl rfl rfl (VR.item 0 rfl) ?_
 intro v3
 refine RL.asg rfl rfl rfl ?_
 refine RL.finG ?_
 refine GL.seq ?_
 refine GL.seq ?_
 obtain ⟨y17, K18, h19, h20, h21, h22, h23⟩ := bindR_K hm
 refine GL.join (ι := Bool) (fun (p : Bool) => [(1, v3), (19, .bool p)]) (fun (p : Bool) => [obox 53 (TR.pair TR.str (TR.pair TR.str (TR.pair TR.int (TR.pair TR.int (TR.pair TR.int TR.int))))) v3 x0]) (fun (p : Bool) => K18 (.nx p)) ?_ ?_
 ·skip
  refine GL.region ?_
  refine RL.fadr (off := 0) (fo := 0) 1 Try_fld53_0 rfl rfl rfl PtOf.obox (Or.inr ⟨rfl, rfl⟩) ?_
  refine RL.ldPx (off := (0 + 0)) (e' := x0.1) 1 Ex.str Try_ln9 rfl rfl (Or.inl rfl) rfl PtOf.obox (Part.fst Part.self) ?_
  obtain ⟨y24, e25, h19⟩ := bind_some h19
  refine RL.callV (v := .bool y24) (vs := [.string ⟨(x0.1 : List UInt8).toArray⟩]) Try_fit99 rfl (Or.inl rfl) rfl rfl rfl rfl (fun U w hU hW hL => ledger_named_c U w hU x0.1 _ e25) ?_
  refine RL.notB rfl rfl rfl ?_
  refine RL.mv rfl rfl rfl ?_
  refine RL.split (t := 7) rfl (fun b26 => ?_) (fun b26 => ?_)
  ·replace h19 := ite_t b26 h19
   refine RL.skip rfl rfl ?_
   refine RL.skip rfl rfl ?_
   refine RL.skip rfl rfl ?_
   refine RL.skip rfl rfl ?_
   refine RL.pickT rfl rfl rfl rfl ?_
   refine RL.mv rfl rfl rfl ?_
   refine RL.skip rfl rfl ?_
   refine RL.skip rfl rfl ?_
   refine RL.skip rfl rfl ?_
   refine RL.skip rfl rfl ?_
   refine RL.skip rfl rfl ?_
   refine RL.pickT rfl rfl rfl rfl ?_
   refine RL.fin ?_
   cases h19
   exact fun a w st => mid_intro true h20 (St.cut [1] ⟨rfl, rfl, trivial⟩ (by decide) rfl st)
  replace h19 := ite_f b26 h19
  refine RL.fadr (off := 0) (fo := 1) 1 Try_fld53_1 rfl rfl rfl PtOf.obox (Or.inr ⟨rfl, rfl⟩) ?_
  refine RL.ldPx (off := (0 + 1)) (e' := x0.2.1) 1 Ex.str Try_ln9 rfl rfl (Or.inl rfl) rfl PtOf.obox (Part.snd (Part.fst Part.self)) ?_
  obtain ⟨y27, e28, h19⟩ := bind_some h19
  refine RL.callV (v := .bool y27) (vs := [.string ⟨(x0.2.1 : List UInt8).toArray⟩]) Try_fit99 rfl (Or.inl rfl) rfl rfl rfl rfl (fun U w hU hW hL => ledger_named_c U w hU x0.2.1 _ e28) ?_
  refine RL.notB rfl rfl rfl ?_
  refine RL.pickF rfl rfl rfl rfl ?_
  refine RL.mv rfl rfl rfl ?_
  refine RL.split (t := 13) rfl (fun b29 => ?_) (fun b29 => ?_)
  ·replace h19 := ite_t b29 h19
   refine RL.skip rfl rfl ?_
   refine RL.skip rfl rfl ?_
   refine RL.skip rfl rfl ?_
   refine RL.skip rfl rfl ?_
   refine RL.skip rfl rfl ?_
   refine RL.pickT rfl rfl rfl rfl ?_
   refine RL.fin ?_
   cases h19
   exact fun a w st => mid_intro true h20 (St.cut [1] ⟨rfl, rfl, trivial⟩ (by decide) rfl st)
  replace h19 := ite_f b29 h19
  refine RL.fadr (off := 0) (fo := 0) 1 Try_fld53_0 rfl rfl rfl PtOf.obox (Or.inr ⟨rfl, rfl⟩) ?_
  refine RL.ldPx (off := (0 + 0)) (e' := x0.1) 1 Ex.str Try_ln9 rfl rfl (Or.inl rfl) rfl PtOf.obox (Part.fst Part.self) ?_
  refine RL.fadr (off := 0) (fo := 1) 1 Try_fld53_1 rfl rfl rfl PtOf.obox (Or.inr ⟨rfl, rfl⟩) ?_
  refine RL.ldPx (off := (0 + 1)) (e' := x0.2.1) 1 Ex.str Try_ln9 rfl rfl (Or.inl rfl) rfl PtOf.obox (Part.snd (Part.fst Part.self)) ?_
  refine RL.binS (v := .bool (x0.1 == x0.2.1)) rfl rfl rfl rfl rfl ?_
  refine RL.pickF rfl rfl rfl rfl ?_
  refine RL.fin ?_
  cases h19
  exact fun a w st => mid_intro (x0.1 == x0.2.1) h20 (St.cut [1] ⟨rfl, rfl, trivial⟩ (by decide) rfl st)
 rintro x16 h30
 have h31 := h21 _ h30
 try dsimp only at h31
 refine GL.weak (env' := [(1, v3), (19, .bool x16)]) (L' := [obox 53 (TR.pair TR.str (TR.pair TR.str (TR.pair TR.int (TR.pair TR.int (TR.pair TR.int TR.int))))) v3 x0]) (fun _ _ st => st) ?_
 refine GL.cond rfl (fun b32 => ?_) (fun b32 => ?_)
 ·replace h31 := ite_t b32 h31
  refine GL.seq ?_
  refine GL.region ?_
  refine RL.asg rfl rfl rfl ?_
  refine RL.finG ?_
  have h31 := Option.some.inj h31
  subst h31
  exact GL.ret (Gx.ret (v := .int .i64 (3 : Int)) (res1 rfl rfl) (fun a w st => st.toPostV))
 replace h31 := ite_f b32 h31
 refine GL.skip ?_
 refine GL.seq ?_
 refine GL.seq ?_
 obtain ⟨y48, K49, h50, h51, h52, h53, h54⟩ := bindR_K h31
 refine GL.join (ι := Bool) (fun (p : Bool) => [(57, .bool p)]) (fun (p : Bool) => []) (fun (p : Bool) => K49 (.nx p)) ?_ ?_
 ·skip
  refine GL.region ?_
  refine RL.fadr (off := 0) (fo := 2) 0 Try_fld53_2 rfl rfl rfl PtOf.obox (Or.inr ⟨rfl, rfl⟩) ?_
  refine RL.ldPx (off := (0 + 2)) (e' := x0.2.2.1) 0 Ex.ik Try_ln3 rfl rfl (Or.inl rfl) rfl PtOf.obox (Part.snd (Part.snd (Part.fst Part.self))) ?_
  refine RL.binI (v := .bool (decide (x0.2.2.1 < (0 : Int)))) rfl rfl rfl rfl rfl ?_
  refine RL.mv rfl rfl rfl ?_
  refine RL.split (t := 23) rfl (fun b55 => ?_) (fun b55 => ?_)
  ·replace h50 := ite_t b55 h50
   refine RL.skip rfl rfl ?_
   refine RL.skip rfl rfl ?_
   refine RL.skip rfl rfl ?_
   refine RL.pickT rfl rfl rfl rfl ?_
   refine RL.mv rfl rfl rfl ?_
   refine RL.skip rfl rfl ?_
   refine RL.skip rfl rfl ?_
   refine RL.skip rfl rfl ?_
   refine RL.pickT rfl rfl rfl rfl ?_
   refine RL.mv rfl rfl rfl ?_
   refine RL.skip rfl rfl ?_
   refine RL.skip rfl rfl ?_
   refine RL.skip rfl rfl ?_
   refine RL.pickT rfl rfl rfl rfl ?_
   refine RL.mv rfl rfl rfl ?_
   refine RL.skip rfl rfl ?_
   refine RL.skip rfl rfl ?_
   refine RL.skip rfl rfl ?_
   refine RL.pickT rfl rfl rfl rfl ?_
   refine RL.mv rfl rfl rfl ?_
   refine RL.skip rfl rfl ?_
   refine RL.skip rfl rfl ?_
   refine RL.skip rfl rfl ?_
   refine RL.pickT rfl rfl rfl rfl ?_
   refine RL.mv rfl rfl rfl ?_
   refine RL.skip rfl rfl ?_
   refine RL.skip rfl rfl ?_
   refine RL.skip rfl rfl ?_
   refine RL.pickT rfl rfl rfl rfl ?_
   refine RL.mv rfl rfl rfl ?_
   refine RL.skip rfl rfl ?_
   refine RL.skip rfl rfl ?_
   refine RL.skip rfl rfl ?_
   refine RL.pickT rfl rfl rfl rfl ?_
   refine RL.fin ?_
   cases h50
   exact fun a w st => mid_intro true h51 (St.cut [] ⟨rfl, trivial⟩ (by decide) rfl st)
  replace h50 := ite_f b55 h50
  refine RL.fadr (off := 0) (fo := 2) 0 Try_fld53_2 rfl rfl rfl PtOf.obox (Or.inr ⟨rfl, rfl⟩) ?_
  refine RL.ldPx (off := (0 + 2)) (e' := x0.2.2.1) 0 Ex.ik Try_ln3 rfl rfl (Or.inl rfl) rfl PtOf.obox (Part.snd (Part.snd (Part.fst Part.self))) ?_
  refine RL.binI (v := .bool (decide (x0.2.2.1 > (1000000 : Int)))) rfl rfl rfl rfl rfl ?_
  refine RL.pickF rfl rfl rfl rfl ?_
  refine RL.mv rfl rfl rfl ?_
  refine RL.split (t := 28) rfl (fun b56 => ?_) (fun b56 => ?_)
  ·replace h50 := ite_t b56 h50
   refine RL.skip rfl rfl ?_
   refine RL.skip rfl rfl ?_
   refine RL.skip rfl rfl ?_
   refine RL.pickT rfl rfl rfl rfl ?_
   refine RL.mv rfl rfl rfl ?_
   refine RL.skip rfl rfl ?_
   refine RL.skip rfl rfl ?_
   refine RL.skip rfl rfl ?_
   refine RL.pickT rfl rfl rfl rfl ?_
   refine RL.mv rfl rfl rfl ?_
   refine RL.skip rfl rfl ?_
   refine RL.skip rfl rfl ?_
   refine RL.skip rfl rfl ?_
   refine RL.pickT rfl rfl rfl rfl ?_
   refine RL.mv rfl rfl rfl ?_
   refine RL.skip rfl rfl ?_
   refine RL.skip rfl rfl ?_
   refine RL.skip rfl rfl ?_
   refine RL.pickT rfl rfl rfl rfl ?_
   refine RL.mv rfl rfl rfl ?_
   refine RL.skip rfl rfl ?_
   refine RL.skip rfl rfl ?_
   refine RL.skip rfl rfl ?_
   refine RL.pickT rfl rfl rfl rfl ?_
   refine RL.mv rfl rfl rfl ?_
   refine RL.skip rfl rfl ?_
   refine RL.skip rfl rfl ?_
   refine RL.skip rfl rfl ?_
   refine RL.pickT rfl rfl rfl rfl ?_
   refine RL.fin ?_
   cases h50
   exact fun a w st => mid_intro true h51 (St.cut [] ⟨rfl, trivial⟩ (by decide) rfl st)
  replace h50 := ite_f b56 h50
  refine RL.fadr (off := 0) (fo := 3) 0 Try_fld53_3 rfl rfl rfl PtOf.obox (Or.inr ⟨rfl, rfl⟩) ?_
  refine RL.ldPx (off := (0 + 3)) (e' := x0.2.2.2.1) 0 Ex.ik Try_ln3 rfl rfl (Or.inl rfl) rfl PtOf.obox (Part.snd (Part.snd (Part.snd (Part.fst Part.self)))) ?_
  refine RL.binI (v := .bool (decide (x0.2.2.2.1 < (0 : Int)))) rfl rfl rfl rfl rfl ?_
  refine RL.pickF rfl rfl rfl rfl ?_
  refine RL.mv rfl rfl rfl ?_
  refine RL.split (t := 33) rfl (fun b57 => ?_) (fun b57 => ?_)
  ·replace h50 := ite_t b57 h50
   refine RL.skip rfl rfl ?_
   refine RL.skip rfl rfl ?_
   refine RL.skip rfl rfl ?_
   refine RL.pickT rfl rfl rfl rfl ?_
   refine RL.mv rfl rfl rfl ?_
   refine RL.skip rfl rfl ?_
   refine RL.skip rfl rfl ?_
   refine RL.skip rfl rfl ?_
   refine RL.pickT rfl rfl rfl rfl ?_
   refine RL.mv rfl rfl rfl ?_
   refine RL.skip rfl rfl ?_
   refine RL.skip rfl rfl ?_
   refine RL.skip rfl rfl ?_
   refine RL.pickT rfl rfl rfl rfl ?_
   refine RL.mv rfl rfl rfl ?_
   refine RL.skip rfl rfl ?_
   refine RL.skip rfl rfl ?_
   refine RL.skip rfl rfl ?_
   refine RL.pickT rfl rfl rfl rfl ?_
   refine RL.mv rfl rfl rfl ?_
   refine RL.skip rfl rfl ?_
   refine RL.skip rfl rfl ?_
   refine RL.skip rfl rfl ?_
   refine RL.pickT rfl rfl rfl rfl ?_
   refine RL.fin ?_
   cases h50
   exact fun a w st => mid_intro true h51 (St.cut [] ⟨rfl, trivial⟩ (by decide) rfl st)
  replace h50 := ite_f b57 h50
  refine RL.fadr (off := 0) (fo := 3) 0 Try_fld53_3 rfl rfl rfl PtOf.obox (Or.inr ⟨rfl, rfl⟩) ?_
  refine RL.ldPx (off := (0 + 3)) (e' := x0.2.2.2.1) 0 Ex.ik Try_ln3 rfl rfl (Or.inl rfl) rfl PtOf.obox (Part.snd (Part.snd (Part.snd (Part.fst Part.self)))) ?_
  refine RL.binI (v := .bool (decide (x0.2.2.2.1 > (1000000 : Int)))) rfl rfl rfl rfl rfl ?_
  refine RL.pickF rfl rfl rfl rfl ?_
  refine RL.mv rfl rfl rfl ?_
  refine RL.split (t := 38) rfl (fun b58 => ?_) (fun b58 => ?_)
  ·replace h50 := ite_t b58 h50
   refine RL.skip rfl rfl ?_
   refine RL.skip rfl rfl ?_
   refine RL.skip rfl rfl ?_
   refine RL.pickT rfl rfl rfl rfl ?_
   refine RL.mv rfl rfl rfl ?_
   refine RL.skip rfl rfl ?_
   refine RL.skip rfl rfl ?_
   refine RL.skip rfl rfl ?_
   refine RL.pickT rfl rfl rfl rfl ?_
   refine RL.mv rfl rfl rfl ?_
   refine RL.skip rfl rfl ?_
   refine RL.skip rfl rfl ?_
   refine RL.skip rfl rfl ?_
   refine RL.pickT rfl rfl rfl rfl ?_
   refine RL.mv rfl rfl rfl ?_
   refine RL.skip rfl rfl ?_
   refine RL.skip rfl rfl ?_
   refine RL.skip rfl rfl ?_
   refine RL.pickT rfl rfl rfl rfl ?_
   refine RL.fin ?_
   cases h50
   exact fun a w st => mid_intro true h51 (St.cut [] ⟨rfl, trivial⟩ (by decide) rfl st)
  replace h50 := ite_f b58 h50
  refine RL.fadr (off := 0) (fo := 4) 0 Try_fld53_4 rfl rfl rfl PtOf.obox (Or.inr ⟨rfl, rfl⟩) ?_
  refine RL.ldPx (off := (0 + 4)) (e' := x0.2.2.2.2.1) 0 Ex.ik Try_ln3 rfl rfl (Or.inl rfl) rfl PtOf.obox (Part.snd (Part.snd (Part.snd (Part.snd (Part.fst Part.self))))) ?_
  refine RL.binI (v := .bool (decide (x0.2.2.2.2.1 < (0 : Int)))) rfl rfl rfl rfl rfl ?_
  refine RL.pickF rfl rfl rfl rfl ?_
  refine RL.mv rfl rfl rfl ?_
  refine RL.split (t := 43) rfl (fun b59 => ?_) (fun b59 => ?_)
  ·replace h50 := ite_t b59 h50
   refine RL.skip rfl rfl ?_
   refine RL.skip rfl rfl ?_
   refine RL.skip rfl rfl ?_
   refine RL.pickT rfl rfl rfl rfl ?_
   refine RL.mv rfl rfl rfl ?_
   refine RL.skip rfl rfl ?_
   refine RL.skip rfl rfl ?_
   refine RL.skip rfl rfl ?_
   refine RL.pickT rfl rfl rfl rfl ?_
   refine RL.mv rfl rfl rfl ?_
   refine RL.skip rfl rfl ?_
   refine RL.skip rfl rfl ?_
   refine RL.skip rfl rfl ?_
   refine RL.pickT rfl rfl rfl rfl ?_
   refine RL.fin ?_
   cases h50
   exact fun a w st => mid_intro true h51 (St.cut [] ⟨rfl, trivial⟩ (by decide) rfl st)
  replace h50 := ite_f b59 h50
  refine RL.fadr (off := 0) (fo := 4) 0 Try_fld53_4 rfl rfl rfl PtOf.obox (Or.inr ⟨rfl, rfl⟩) ?_
  refine RL.ldPx (off := (0 + 4)) (e' := x0.2.2.2.2.1) 0 Ex.ik Try_ln3 rfl rfl (Or.inl rfl) rfl PtOf.obox (Part.snd (Part.snd (Part.snd (Part.snd (Part.fst Part.self))))) ?_
  refine RL.binI (v := .bool (decide (x0.2.2.2.2.1 > (1000000 : Int)))) rfl rfl rfl rfl rfl ?_
  refine RL.pickF rfl rfl rfl rfl ?_
  refine RL.mv rfl rfl rfl ?_
  refine RL.split (t := 48) rfl (fun b60 => ?_) (fun b60 => ?_)
  ·replace h50 := ite_t b60 h50
   refine RL.skip rfl rfl ?_
   refine RL.skip rfl rfl ?_
   refine RL.skip rfl rfl ?_
   refine RL.pickT rfl rfl rfl rfl ?_
   refine RL.mv rfl rfl rfl ?_
   refine RL.skip rfl rfl ?_
   refine RL.skip rfl rfl ?_
   refine RL.skip rfl rfl ?_
   refine RL.pickT rfl rfl rfl rfl ?_
   refine RL.fin ?_
   cases h50
   exact fun a w st => mid_intro true h51 (St.cut [] ⟨rfl, trivial⟩ (by decide) rfl st)
  replace h50 := ite_f b60 h50
  refine RL.fadr (off := 0) (fo := 5) 0 Try_fld53_5 rfl rfl rfl PtOf.obox (Or.inr ⟨rfl, rfl⟩) ?_
  refine RL.ldPx (off := (0 + 5)) (e' := x0.2.2.2.2.2) 0 Ex.ik Try_ln3 rfl rfl (Or.inl rfl) rfl PtOf.obox (Part.snd (Part.snd (Part.snd (Part.snd (Part.snd Part.self))))) ?_
  refine RL.binI (v := .bool (decide (x0.2.2.2.2.2 < (1 : Int)))) rfl rfl rfl rfl rfl ?_
  refine RL.pickF rfl rfl rfl rfl ?_
  refine RL.mv rfl rfl rfl ?_
  refine RL.split (t := 53) rfl (fun b61 => ?_) (fun b61 => ?_)
  ·replace h50 := ite_t b61 h50
   refine RL.skip rfl rfl ?_
   refine RL.skip rfl rfl ?_
   refine RL.skip rfl rfl ?_
   refine RL.pickT rfl rfl rfl rfl ?_
   refine RL.fin ?_
   cases h50
   exact fun a w st => mid_intro true h51 (St.cut [] ⟨rfl, trivial⟩ (by decide) rfl st)
  replace h50 := ite_f b61 h50
  refine RL.fadr (off := 0) (fo := 5) 0 Try_fld53_5 rfl rfl rfl PtOf.obox (Or.inr ⟨rfl, rfl⟩) ?_
  refine RL.ldPx (off := (0 + 5)) (e' := x0.2.2.2.2.2) 0 Ex.ik Try_ln3 rfl rfl (Or.inl rfl) rfl PtOf.obox (Part.snd (Part.snd (Part.snd (Part.snd (Part.snd Part.self))))) ?_
  refine RL.binI (v := .bool (decide (x0.2.2.2.2.2 > (100 : Int)))) rfl rfl rfl rfl rfl ?_
  refine RL.pickF rfl rfl rfl rfl ?_
  refine RL.fin ?_
  cases h50
  exact fun a w st => mid_intro (decide (x0.2.2.2.2.2 > (100 : Int))) h51 (St.cut [] ⟨rfl, trivial⟩ (by decide) rfl st)
 rintro x47 h62
 have h63 := h52 _ h62
 try dsimp only at h63
 refine GL.weak (env' := [(57, .bool x47)]) (L' := []) (fun _ _ st => st) ?_
 refine GL.cond rfl (fun b64 => ?_) (fun b64 => ?_)
 ·replace h63 := ite_t b64 h63
  refine GL.seq ?_
  refine GL.region ?_
  refine RL.asg rfl rfl rfl ?_
  refine RL.finG ?_
  have h63 := Option.some.inj h63
  subst h63
  exact GL.ret (Gx.ret (v := .int .i64 (1 : Int)) (res1 rfl rfl) (fun a w st => st.toPostV))
 replace h63 := ite_f b64 h63
 refine GL.skip ?_
 refine GL.seq ?_
 refine GL.region ?_
 refine RL.asg rfl rfl rfl ?_
 refine RL.finG ?_
 have h63 := Option.some.inj h63
 subst h63
 exact GL.ret (Gx.ret (v := .int .i64 (0 : Int)) (res1 rfl rfl) (fun a w st => st.toPostV))

set_option maxHeartbeats 4000000 in
theorem ledger_Take_c (S : Hp) (w : World) (hS : S.sub w) (v0 : Value) (x0 : (List ((List UInt8) × (Int × Int)))) (k0 : ((TR.sl (TR.pair TR.str (TR.pair TR.int TR.int)))).vrep S v0 x0) (v1 : Value) (x1 : ((List UInt8) × ((List UInt8) × (Int × (Int × (Int × Int)))))) (k1 : ((TR.pair TR.str (TR.pair TR.str (TR.pair TR.int (TR.pair TR.int (TR.pair TR.int TR.int)))))).vrep S v1 x1) (x2 : (List UInt8)) (res : (List ((List UInt8) × (Int × Int))) × Int) (hm : ledger_Take_m x0 x1 x2 = some res) : Calls Try.prog 37 #[v0, v1, .string ⟨(x2 : List UInt8).toArray⟩] w (Post w S (fun (o : Value) => .tuple #[o, .int .i64 res.2]) (fun (o : Value) => [own 59 (TR.pair TR.str (TR.pair TR.int TR.int)) o res.1])) := by
 refine calls_enter 111 Try.func37 Try.ntmps37 rfl S false [(0, v0), (1, v1), (2, .string ⟨(x2 : List UInt8).toArray⟩)] [imm (TR.sl (TR.pair TR.str (TR.pair TR.int TR.int))) v0 x0, imm (TR.pair TR.str (TR.pair TR.str (TR.pair TR.int (TR.pair TR.int (TR.pair TR.int TR.int))))) v1 x1] rfl ⟨rfl, ⟨rfl, ⟨rfl, trivial⟩⟩⟩ hS ⟨k0, ⟨k1, trivial⟩⟩ ?_
 unfold ledger_Take_m at hm
 refine GL.seq ?_
 refine GL.region ?_
 refine RL.box (t := (TR.pair TR.str (TR.pair TR.str (TR.pair TR.int (TR.pair TR.int (TR.pair TR.int TR.int)))))) (e := x1) rfl rfl rfl rfl (VR.item 1 rfl) ?_
 intro v5
 refine RL.asg rfl rfl rfl ?_
 refine RL.asg rfl rfl rfl ?_
 refine RL.finG ?_
 refine GL.seq ?_
 refine GL.seq ?_
 refine GL.region ?_
 refine RL.mv rfl rfl rfl ?_
 obtain ⟨y8, e9, hm⟩ := bind_some hm
 refine RL.callV (v := .int .i64 y8) (vs := [v0]) Try_fit40 rfl (Or.inl rfl) rfl rfl rfl rfl (fun U w hU hW hL => ledger_Check_c U w hU _ _ (hL 0 _ _ rfl Seen.imm) _ e9) ?_
 refine RL.asg rfl rfl rfl ?_
 refine RL.finG ?_
 refine GL.seq ?_
 refine GL.region ?_
 refine RL.mv rfl rfl rfl ?_
 refine RL.binI (v := .bool (y8 != (0 : Int))) rfl rfl rfl rfl rfl ?_
 refine RL.finG ?_
 refine GL.cond rfl (fun b10 => ?_) (fun b10 => ?_)
 ·replace hm := ite_t b10 hm
  refine GL.seq ?_
  refine GL.region ?_
  refine RL.mv rfl rfl rfl ?_
  refine RL.asg rfl rfl rfl ?_
  refine RL.asg rfl rfl rfl ?_
  refine RL.finG ?_
  refine GL.weak (fun a w st => st.nilOwn 59 (TR.pair TR.str (TR.pair TR.int TR.int))) ?_
  have hm := Option.some.inj hm
  subst hm
  exact GL.ret (Gx.ret (v := .tuple #[Value.slice none 0 0, .int .i64 y8]) (res2 rfl rfl rfl) (fun a w st => (st.pick [3] (by decide) rfl).toPost (Value.slice none 0 0)))
 replace hm := ite_f b10 hm
 refine GL.skip ?_
 refine GL.seq ?_
 refine GL.seq ?_
 refine GL.region ?_
 refine RL.ldP (off := 0) (r := (TR.pair TR.str (TR.pair TR.str (TR.pair TR.int (TR.pair TR.int (TR.pair TR.int TR.int)))))) (e' := x1) 2 Try_ln53 rfl rfl (Or.inr ⟨rfl, rfl⟩) rfl PtOf.obox Part.self ?_
 intro v14
 refine RL.reL (L' := [imm (TR.sl (TR.pair TR.str (TR.pair TR.int TR.int))) v0 x0, imm (TR.pair TR.str (TR.pair TR.str (TR.pair TR.int (TR.pair TR.int (TR.pair TR.int TR.int))))) v1 x1, obox 53 (TR.pair TR.str (TR.pair TR.str (TR.pair TR.int (TR.pair TR.int (TR.pair TR.int TR.int))))) v5 x1, imm (TR.pair TR.str (TR.pair TR.str (TR.pair TR.int (TR.pair TR.int (TR.pair TR.int TR.int))))) v14 x1]) rfl ?_
 obtain ⟨y15, e16, hm⟩ := bind_some hm
 refine RL.callV (v := .int .i64 y15) (vs := [v14]) Try_fit96 rfl (Or.inl rfl) rfl rfl rfl rfl (fun U w hU hW hL => ledger_Right_c U w hU _ _ (hL 3 _ _ rfl Seen.imm) _ e16) ?_
 refine RL.asg rfl rfl rfl ?_
 refine RL.finG ?_
 refine GL.seq ?_
 refine GL.region ?_
 refine RL.mv rfl rfl rfl ?_
 refine RL.binI (v := .bool (y15 != (0 : Int))) rfl rfl rfl rfl rfl ?_
 refine RL.finG ?_
 refine GL.cond rfl (fun b17 => ?_) (fun b17 => ?_)
 ·replace hm := ite_t b17 hm
  refine GL.seq ?_
  refine GL.region ?_
  refine RL.mv rfl rfl rfl ?_
  refine RL.asg rfl rfl rfl ?_
  refine RL.asg rfl rfl rfl ?_
  refine RL.finG ?_
  refine GL.weak (fun a w st => st.nilOwn 59 (TR.pair TR.str (TR.pair TR.int TR.int))) ?_
  have hm := Option.some.inj hm
  subst hm
  exact GL.ret (Gx.ret (v := .tuple #[Value.slice none 0 0, .int .i64 y15]) (res2 rfl rfl rfl) (fun a w st => (st.pick [4] (by decide) rfl).toPost (Value.slice none 0 0)))
 replace hm := ite_f b17 hm
 refine GL.skip ?_
 refine GL.seq ?_
 refine GL.regionQ rfl rfl (by kernel_rfl) ?_
 refine RL.mv rfl rfl rfl ?_
 refine RL.fadr (off := 0) (fo := 0) 2 Try_fld53_0 rfl rfl rfl PtOf.obox (Or.inr ⟨rfl, rfl⟩) ?_
 refine RL.ldPx (off := (0 + 0)) (e' := x1.1) 2 Ex.str Try_ln9 rfl rfl (Or.inl rfl) rfl PtOf.obox (Part.fst Part.self) ?_
 obtain ⟨y24, e25, hm⟩ := bind_some hm
 refine RL.callV (v := .int .i64 y24) (vs := [v0, .string ⟨(x1.1 : List UInt8).toArray⟩]) Try_fit97 rfl (Or.inr ⟨_, rfl⟩) rfl rfl rfl rfl (fun U w hU hW hL => ledger_find_c U w hU _ _ (hL 0 _ _ rfl Seen.imm) x1.1 _ e25) ?_
 refine RL.mv rfl rfl rfl ?_
 refine RL.fadr (off := 0) (fo := 1) 2 Try_fld53_1 rfl rfl rfl PtOf.obox (Or.inr ⟨rfl, rfl⟩) ?_
 refine RL.ldPx (off := (0 + 1)) (e' := x1.2.1) 2 Ex.str Try_ln9 rfl rfl (Or.inl rfl) rfl PtOf.obox (Part.snd (Part.fst Part.self)) ?_
 obtain ⟨y26, e27, hm⟩ := bind_some hm
 refine RL.callV (v := .int .i64 y26) (vs := [v0, .string ⟨(x1.2.1 : List UInt8).toArray⟩]) Try_fit97 rfl (Or.inr ⟨_, rfl⟩) rfl rfl rfl rfl (fun U w hU hW hL => ledger_find_c U w hU _ _ (hL 0 _ _ rfl Seen.imm) x1.2.1 _ e27) ?_
 refine RL.mv rfl rfl rfl ?_
 refine RL.mv rfl rfl rfl ?_
 obtain ⟨y28, e29, hm⟩ := bind_some hm
 refine RL.callV (v := .int .i64 y28) (vs := [v0, .string ⟨(x2 : List UInt8).toArray⟩]) Try_fit97 rfl (Or.inr ⟨_, rfl⟩) rfl rfl rfl rfl (fun U w hU hW hL => ledger_find_c U w hU _ _ (hL 0 _ _ rfl Seen.imm) x2 _ e29) ?_
 refine RL.asg rfl rfl rfl ?_
 refine RL.asg rfl rfl rfl ?_
 refine RL.asg rfl rfl rfl ?_
 refine RL.finQG ?_
 refine GL.seq ?_
 refine GL.seq ?_
 obtain ⟨y35, K36, h37, h38, h39, h40, h41⟩ := bindR_K hm
 refine GL.join (ι := Bool) (fun (p : Bool) => [(0, v0), (4, v5), (10, .int .i64 y24), (11, .int .i64 y26), (12, .int .i64 y28), (44, .bool p)]) (fun (p : Bool) => [imm (TR.sl (TR.pair TR.str (TR.pair TR.int TR.int))) v0 x0, obox 53 (TR.pair TR.str (TR.pair TR.str (TR.pair TR.int (TR.pair TR.int (TR.pair TR.int TR.int))))) v5 x1]) (fun (p : Bool) => K36 (.nx p)) ?_ ?_
 ·skip
  refine GL.region ?_
  refine RL.mv rfl rfl rfl ?_
  refine RL.binI (v := .bool (decide (y24 < (0 : Int)))) rfl rfl rfl rfl rfl ?_
  refine RL.mv rfl rfl rfl ?_
  refine RL.split (t := 37) rfl (fun b42 => ?_) (fun b42 => ?_)
  ·replace h37 := ite_t b42 h37
   refine RL.skip rfl rfl ?_
   refine RL.skip rfl rfl ?_
   refine RL.pickT rfl rfl rfl rfl ?_
   refine RL.mv rfl rfl rfl ?_
   refine RL.skip rfl rfl ?_
   refine RL.skip rfl rfl ?_
   refine RL.pickT rfl rfl rfl rfl ?_
   refine RL.fin ?_
   cases h37
   exact fun a w st => mid_intro true h38 (St.cut [0, 2] ⟨rfl, rfl, rfl, rfl, rfl, rfl, trivial⟩ (by decide) rfl st)
  replace h37 := ite_f b42 h37
  refine RL.mv rfl rfl rfl ?_
  refine RL.binI (v := .bool (decide (y26 < (0 : Int)))) rfl rfl rfl rfl rfl ?_
  refine RL.pickF rfl rfl rfl rfl ?_
  refine RL.mv rfl rfl rfl ?_
  refine RL.split (t := 41) rfl (fun b43 => ?_) (fun b43 => ?_)
  ·replace h37 := ite_t b43 h37
   refine RL.skip rfl rfl ?_
   refine RL.skip rfl rfl ?_
   refine RL.pickT rfl rfl rfl rfl ?_
   refine RL.fin ?_
   cases h37
   exact fun a w st => mid_intro true h38 (St.cut [0, 2] ⟨rfl, rfl, rfl, rfl, rfl, rfl, trivial⟩ (by decide) rfl st)
  replace h37 := ite_f b43 h37
  refine RL.mv rfl rfl rfl ?_
  refine RL.binI (v := .bool (decide (y28 < (0 : Int)))) rfl rfl rfl rfl rfl ?_
  refine RL.pickF rfl rfl rfl rfl ?_
  refine RL.fin ?_
  cases h37
  exact fun a w st => mid_intro (decide (y28 < (0 : Int))) h38 (St.cut [0, 2] ⟨rfl, rfl, rfl, rfl, rfl, rfl, trivial⟩ (by decide) rfl st)
 rintro x34 h44
 have h45 := h39 _ h44
 try dsimp only at h45
 refine GL.weak (env' := [(0, v0), (4, v5), (10, .int .i64 y24), (11, .int .i64 y26), (12, .int .i64 y28), (44, .bool x34)]) (L' := [imm (TR.sl (TR.pair TR.str (TR.pair TR.int TR.int))) v0 x0, obox 53 (TR.pair TR.str (TR.pair TR.str (TR.pair TR.int (TR.pair TR.int (TR.pair TR.int TR.int))))) v5 x1]) (fun _ _ st => st) ?_
 refine GL.cond rfl (fun b46 => ?_) (fun b46 => ?_)
 ·replace h45 := ite_t b46 h45
  refine GL.seq ?_
  refine GL.region ?_
  refine RL.asg rfl rfl rfl ?_
  refine RL.asg rfl rfl rfl ?_
  refine RL.finG ?_
  refine GL.weak (fun a w st => st.nilOwn 59 (TR.pair TR.str (TR.pair TR.int TR.int))) ?_
  have h45 := Option.some.inj h45
  subst h45
  exact GL.ret (Gx.ret (v := .tuple #[Value.slice none 0 0, .int .i64 (4 : Int)]) (res2 rfl rfl rfl) (fun a w st => (st.pick [2] (by decide) rfl).toPost (Value.slice none 0 0)))
 replace h45 := ite_f b46 h45
 refine GL.skip ?_
 refine GL.seq ?_
 refine GL.seq ?_
 refine GL.regionQ rfl rfl (by kernel_rfl) ?_
 refine RL.fadr (off := 0) (fo := 2) 1 Try_fld53_2 rfl rfl rfl PtOf.obox (Or.inr ⟨rfl, rfl⟩) ?_
 refine RL.ldPx (off := (0 + 2)) (e' := x1.2.2.1) 1 Ex.ik Try_ln3 rfl rfl (Or.inl rfl) rfl PtOf.obox (Part.snd (Part.snd (Part.fst Part.self))) ?_
 refine RL.mv rfl rfl rfl ?_
 refine RL.mv rfl rfl rfl ?_
 obtain ⟨y49, e50, h45⟩ := bind_some h45
 refine RL.idxS (sz := 3) 0 Try.underlying51 Try_ln59 rfl rfl rfl rfl rfl SlOf.imm (idx_some e50).1 (idx_some e50).2.1 ?_
 refine RL.fadrS (off := ((y24).toNat * 3)) (fo := 2) 0 Try_fld59_2 rfl rfl rfl SlOf.imm (by have := (List.getElem?_eq_some_iff.1 (idx_some e50).2.2).1; omega) rfl ?_
 refine RL.ldSx (i := (y24).toNat) (e' := y49.2.2) 0 Ex.ik Try_ln3 rfl rfl rfl rfl SlOf.imm (idx_some e50).2.2 (Part.snd (Part.snd Part.self)) ?_
 refine RL.binI (v := .bool (x1.2.2.1 != y49.2.2)) rfl rfl rfl rfl rfl ?_
 refine RL.finQG ?_
 refine GL.cond rfl (fun b51 => ?_) (fun b51 => ?_)
 ·replace h45 := ite_t b51 h45
  refine GL.seq ?_
  refine GL.region ?_
  refine RL.asg rfl rfl rfl ?_
  refine RL.asg rfl rfl rfl ?_
  refine RL.finG ?_
  refine GL.weak (fun a w st => st.nilOwn 59 (TR.pair TR.str (TR.pair TR.int TR.int))) ?_
  have h45 := Option.some.inj h45
  subst h45
  exact GL.ret (Gx.ret (v := .tuple #[Value.slice none 0 0, .int .i64 (6 : Int)]) (res2 rfl rfl rfl) (fun a w st => (st.pick [2] (by decide) rfl).toPost (Value.slice none 0 0)))
 replace h45 := ite_f b51 h45
 refine GL.skip ?_
 refine GL.seq ?_
 refine GL.seq ?_
 refine GL.regionQ rfl rfl (by kernel_rfl) ?_
 refine RL.mv rfl rfl rfl ?_
 refine RL.mv rfl rfl rfl ?_
 obtain ⟨y54, e55, h45⟩ := bind_some h45
 refine RL.idxS (sz := 3) 0 Try.underlying51 Try_ln59 rfl rfl rfl rfl rfl SlOf.imm (idx_some e55).1 (idx_some e55).2.1 ?_
 refine RL.fadrS (off := ((y24).toNat * 3)) (fo := 1) 0 Try_fld59_1 rfl rfl rfl SlOf.imm (by have := (List.getElem?_eq_some_iff.1 (idx_some e55).2.2).1; omega) rfl ?_
 refine RL.ldSx (i := (y24).toNat) (e' := y54.2.1) 0 Ex.ik Try_ln3 rfl rfl rfl rfl SlOf.imm (idx_some e55).2.2 (Part.snd (Part.fst Part.self)) ?_
 refine RL.fadr (off := 0) (fo := 3) 1 Try_fld53_3 rfl rfl rfl PtOf.obox (Or.inr ⟨rfl, rfl⟩) ?_
 refine RL.ldPx (off := (0 + 3)) (e' := x1.2.2.2.1) 1 Ex.ik Try_ln3 rfl rfl (Or.inl rfl) rfl PtOf.obox (Part.snd (Part.snd (Part.snd (Part.fst Part.self)))) ?_
 refine RL.fadr (off := 0) (fo := 4) 1 Try_fld53_4 rfl rfl rfl PtOf.obox (Or.inr ⟨rfl, rfl⟩) ?_
 refine RL.ldPx (off := (0 + 4)) (e' := x1.2.2.2.2.1) 1 Ex.ik Try_ln3 rfl rfl (Or.inl rfl) rfl PtOf.obox (Part.snd (Part.snd (Part.snd (Part.snd (Part.fst Part.self))))) ?_
 refine RL.binI (v := .int .i64 (wadd x1.2.2.2.1 x1.2.2.2.2.1)) rfl rfl rfl rfl rfl ?_
 refine RL.binI (v := .bool (decide (y54.2.1 < (wadd x1.2.2.2.1 x1.2.2.2.2.1)))) rfl rfl rfl rfl rfl ?_
 refine RL.finQG ?_
 refine GL.cond rfl (fun b56 => ?_) (fun b56 => ?_)
 ·replace h45 := ite_t b56 h45
  refine GL.seq ?_
  refine GL.region ?_
  refine RL.asg rfl rfl rfl ?_
  refine RL.asg rfl rfl rfl ?_
  refine RL.finG ?_
  refine GL.weak (fun a w st => st.nilOwn 59 (TR.pair TR.str (TR.pair TR.int TR.int))) ?_
  have h45 := Option.some.inj h45
  subst h45
  exact GL.ret (Gx.ret (v := .tuple #[Value.slice none 0 0, .int .i64 (11 : Int)]) (res2 rfl rfl rfl) (fun a w st => (st.pick [2] (by decide) rfl).toPost (Value.slice none 0 0)))
 replace h45 := ite_f b56 h45
 refine GL.skip ?_
 refine GL.seq ?_
 refine GL.region ?_
 refine RL.mv rfl rfl rfl ?_
 obtain ⟨y60, e61, h45⟩ := bind_some h45
 refine RL.call (vs := [v0]) Try_fit98 rfl rfl rfl rfl rfl (fun S f w hS hW hi => slices_Clone_api_Account_api_Account_c S w hS _ _ (hi 0 _ rfl) _ e61) ?_
 intro v62
 refine RL.asg rfl rfl rfl ?_
 refine RL.finG ?_
 refine GL.seq ?_
 refine GL.regionH 13 rfl rfl (by kernel_rfl) ?_
 simp only [List.take_succ_cons, List.take_zero, List.drop_succ_cons, List.drop_zero]
 refine RL.mv rfl rfl rfl ?_
 refine RL.mv rfl rfl rfl ?_
 obtain ⟨y67, e68, h45⟩ := bind_some h45
 refine RL.idxS (sz := 3) 2 Try.underlying51 Try_ln59 rfl rfl rfl rfl rfl SlOf.own (idx_some e68).1 (idx_some e68).2.1 ?_
 refine RL.fadrS (off := ((y24).toNat * 3)) (fo := 1) 2 Try_fld59_1 rfl rfl rfl SlOf.own (by have := (List.getElem?_eq_some_iff.1 (idx_some e68).2.2).1; omega) rfl ?_
 refine RL.ldSx (i := (y24).toNat) (e' := y67.2.1) 2 Ex.ik Try_ln3 rfl rfl rfl rfl SlOf.own (idx_some e68).2.2 (Part.snd (Part.fst Part.self)) ?_
 refine RL.fadr (off := 0) (fo := 3) 1 Try_fld53_3 rfl rfl rfl PtOf.obox (Or.inr ⟨rfl, rfl⟩) ?_
 refine RL.ldPx (off := (0 + 3)) (e' := x1.2.2.2.1) 1 Ex.ik Try_ln3 rfl rfl (Or.inl rfl) rfl PtOf.obox (Part.snd (Part.snd (Part.snd (Part.fst Part.self)))) ?_
 refine RL.fadr (off := 0) (fo := 4) 1 Try_fld53_4 rfl rfl rfl PtOf.obox (Or.inr ⟨rfl, rfl⟩) ?_
 refine RL.ldPx (off := (0 + 4)) (e' := x1.2.2.2.2.1) 1 Ex.ik Try_ln3 rfl rfl (Or.inl rfl) rfl PtOf.obox (Part.snd (Part.snd (Part.snd (Part.snd (Part.fst Part.self))))) ?_
 refine RL.binI (v := .int .i64 (wadd x1.2.2.2.1 x1.2.2.2.2.1)) rfl rfl rfl rfl rfl ?_
 refine RL.binI (v := .int .i64 (wsub y67.2.1 (wadd x1.2.2.2.1 x1.2.2.2.2.1))) rfl rfl rfl rfl rfl ?_
 obtain ⟨y69, e70, h45⟩ := bind_some h45
 refine RL.idxS (sz := 3) 2 Try.underlying51 Try_ln59 rfl rfl rfl rfl rfl SlOf.own (idx_some e70).1 (idx_some e70).2.1 ?_
 refine RL.fadrS (off := ((y24).toNat * 3)) (fo := 1) 2 Try_fld59_1 rfl rfl rfl SlOf.own (by have := (List.getElem?_eq_some_iff.1 (idx_some e70).2.2).1; omega) rfl ?_
 refine RL.finH ?_
 refine RL.stS (i := (y24).toNat) (e' := wsub y67.2.1 (wadd x1.2.2.2.1 x1.2.2.2.2.1)) (e1 := (y69.1, (wsub y67.2.1 (wadd x1.2.2.2.1 x1.2.2.2.2.1), y69.2.2))) (r := TR.int) 2 Try_ln3 rfl rfl rfl rfl VR.int rfl (idx_some e70).2.2 (Upd.snd (Upd.fst Upd.self)) ?_
 refine RL.reL (L' := [imm (TR.sl (TR.pair TR.str (TR.pair TR.int TR.int))) v0 x0, obox 53 (TR.pair TR.str (TR.pair TR.str (TR.pair TR.int (TR.pair TR.int (TR.pair TR.int TR.int))))) v5 x1, own 59 (TR.pair TR.str (TR.pair TR.int TR.int)) v62 (List.set y60 ((y24).toNat) (y69.1, (wsub y67.2.1 (wadd x1.2.2.2.1 x1.2.2.2.2.1), y69.2.2)))]) rfl ?_
 refine RL.finG ?_
 refine GL.seq ?_
 refine GL.region ?_
 refine RL.mv rfl rfl rfl ?_
 refine RL.mv rfl rfl rfl ?_
 obtain ⟨y75, e76, h45⟩ := bind_some h45
 refine RL.idxS (sz := 3) 2 Try.underlying51 Try_ln59 rfl rfl rfl rfl rfl SlOf.own (idx_some e76).1 (idx_some e76).2.1 ?_
 refine RL.fadrS (off := ((y24).toNat * 3)) (fo := 2) 2 Try_fld59_2 rfl rfl rfl SlOf.own (by have := (List.getElem?_eq_some_iff.1 (idx_some e76).2.2).1; omega) rfl ?_
 refine RL.ldSx (i := (y24).toNat) (e' := y75.2.2) 2 Ex.ik Try_ln3 rfl rfl rfl rfl SlOf.own (idx_some e76).2.2 (Part.snd (Part.snd Part.self)) ?_
 refine RL.binI (v := .int .i64 (wadd y75.2.2 (1 : Int))) rfl rfl rfl rfl rfl ?_
 obtain ⟨y77, e78, h45⟩ := bind_some h45
 refine RL.idxS (sz := 3) 2 Try.underlying51 Try_ln59 rfl rfl rfl rfl rfl SlOf.own (idx_some e78).1 (idx_some e78).2.1 ?_
 refine RL.fadrS (off := ((y24).toNat * 3)) (fo := 2) 2 Try_fld59_2 rfl rfl rfl SlOf.own (by have := (List.getElem?_eq_some_iff.1 (idx_some e78).2.2).1; omega) rfl ?_
 refine RL.stS (i := (y24).toNat) (e' := wadd y75.2.2 (1 : Int)) (e1 := (y77.1, (y77.2.1, wadd y75.2.2 (1 : Int)))) (r := TR.int) 2 Try_ln3 rfl rfl rfl rfl VR.int rfl (idx_some e78).2.2 (Upd.snd (Upd.snd Upd.self)) ?_
 refine RL.finG ?_
 refine GL.seq ?_
 refine GL.regionH 10 rfl rfl (by kernel_rfl) ?_
 simp only [List.take_succ_cons, List.take_zero, List.drop_succ_cons, List.drop_zero]
 refine RL.mv rfl rfl rfl ?_
 refine RL.mv rfl rfl rfl ?_
 obtain ⟨y83, e84, h45⟩ := bind_some h45
 refine RL.idxS (sz := 3) 2 Try.underlying51 Try_ln59 rfl rfl rfl rfl rfl SlOf.own (idx_some e84).1 (idx_some e84).2.1 ?_
 refine RL.fadrS (off := ((y26).toNat * 3)) (fo := 1) 2 Try_fld59_1 rfl rfl rfl SlOf.own (by have := (List.getElem?_eq_some_iff.1 (idx_some e84).2.2).1; omega) rfl ?_
 refine RL.ldSx (i := (y26).toNat) (e' := y83.2.1) 2 Ex.ik Try_ln3 rfl rfl rfl rfl SlOf.own (idx_some e84).2.2 (Part.snd (Part.fst Part.self)) ?_
 refine RL.fadr (off := 0) (fo := 3) 1 Try_fld53_3 rfl rfl rfl PtOf.obox (Or.inr ⟨rfl, rfl⟩) ?_
 refine RL.ldPx (off := (0 + 3)) (e' := x1.2.2.2.1) 1 Ex.ik Try_ln3 rfl rfl (Or.inl rfl) rfl PtOf.obox (Part.snd (Part.snd (Part.snd (Part.fst Part.self)))) ?_
 refine RL.binI (v := .int .i64 (wadd y83.2.1 x1.2.2.2.1)) rfl rfl rfl rfl rfl ?_
 obtain ⟨y85, e86, h45⟩ := bind_some h45
 refine RL.idxS (sz := 3) 2 Try.underlying51 Try_ln59 rfl rfl rfl rfl rfl SlOf.own (idx_some e86).1 (idx_some e86).2.1 ?_
 refine RL.fadrS (off := ((y26).toNat * 3)) (fo := 1) 2 Try_fld59_1 rfl rfl rfl SlOf.own (by have := (List.getElem?_eq_some_iff.1 (idx_some e86).2.2).1; omega) rfl ?_
 refine RL.finH ?_
 refine RL.stS (i := (y26).toNat) (e' := wadd y83.2.1 x1.2.2.2.1) (e1 := (y85.1, (wadd y83.2.1 x1.2.2.2.1, y85.2.2))) (r := TR.int) 2 Try_ln3 rfl rfl rfl rfl VR.int rfl (idx_some e86).2.2 (Upd.snd (Upd.fst Upd.self)) ?_
 refine RL.reL (L' := [imm (TR.sl (TR.pair TR.str (TR.pair TR.int TR.int))) v0 x0, obox 53 (TR.pair TR.str (TR.pair TR.str (TR.pair TR.int (TR.pair TR.int (TR.pair TR.int TR.int))))) v5 x1, own 59 (TR.pair TR.str (TR.pair TR.int TR.int)) v62 (List.set (List.set (List.set y60 ((y24).toNat) (y69.1, (wsub y67.2.1 (wadd x1.2.2.2.1 x1.2.2.2.2.1), y69.2.2))) ((y24).toNat) (y77.1, (y77.2.1, wadd y75.2.2 (1 : Int)))) ((y26).toNat) (y85.1, (wadd y83.2.1 x1.2.2.2.1, y85.2.2)))]) rfl ?_
 refine RL.finG ?_
 refine GL.seq ?_
 refine GL.regionH 10 rfl rfl (by kernel_rfl) ?_
 simp only [List.take_succ_cons, List.take_zero, List.drop_succ_cons, List.drop_zero]
 refine RL.mv rfl rfl rfl ?_
 refine RL.mv rfl rfl rfl ?_
 obtain ⟨y91, e92, h45⟩ := bind_some h45
 refine RL.idxS (sz := 3) 2 Try.underlying51 Try_ln59 rfl rfl rfl rfl rfl SlOf.own (idx_some e92).1 (idx_some e92).2.1 ?_
 refine RL.fadrS (off := ((y28).toNat * 3)) (fo := 1) 2 Try_fld59_1 rfl rfl rfl SlOf.own (by have := (List.getElem?_eq_some_iff.1 (idx_some e92).2.2).1; omega) rfl ?_
 refine RL.ldSx (i := (y28).toNat) (e' := y91.2.1) 2 Ex.ik Try_ln3 rfl rfl rfl rfl SlOf.own (idx_some e92).2.2 (Part.snd (Part.fst Part.self)) ?_
 refine RL.fadr (off := 0) (fo := 4) 1 Try_fld53_4 rfl rfl rfl PtOf.obox (Or.inr ⟨rfl, rfl⟩) ?_
 refine RL.ldPx (off := (0 + 4)) (e' := x1.2.2.2.2.1) 1 Ex.ik Try_ln3 rfl rfl (Or.inl rfl) rfl PtOf.obox (Part.snd (Part.snd (Part.snd (Part.snd (Part.fst Part.self))))) ?_
 refine RL.binI (v := .int .i64 (wadd y91.2.1 x1.2.2.2.2.1)) rfl rfl rfl rfl rfl ?_
 obtain ⟨y93, e94, h45⟩ := bind_some h45
 refine RL.idxS (sz := 3) 2 Try.underlying51 Try_ln59 rfl rfl rfl rfl rfl SlOf.own (idx_some e94).1 (idx_some e94).2.1 ?_
 refine RL.fadrS (off := ((y28).toNat * 3)) (fo := 1) 2 Try_fld59_1 rfl rfl rfl SlOf.own (by have := (List.getElem?_eq_some_iff.1 (idx_some e94).2.2).1; omega) rfl ?_
 refine RL.finH ?_
 refine RL.stS (i := (y28).toNat) (e' := wadd y91.2.1 x1.2.2.2.2.1) (e1 := (y93.1, (wadd y91.2.1 x1.2.2.2.2.1, y93.2.2))) (r := TR.int) 2 Try_ln3 rfl rfl rfl rfl VR.int rfl (idx_some e94).2.2 (Upd.snd (Upd.fst Upd.self)) ?_
 refine RL.finG ?_
 refine GL.seq ?_
 refine GL.seq ?_
 refine GL.region ?_
 refine RL.mv rfl rfl rfl ?_
 obtain ⟨y97, e98, h45⟩ := bind_some h45
 refine RL.callV (v := .int .i64 y97) (vs := [v62]) Try_fit40 rfl (Or.inl rfl) rfl rfl rfl rfl (fun U w hU hW hL => ledger_Check_c U w hU _ _ (hL 2 _ _ rfl Seen.own) _ e98) ?_
 refine RL.binI (v := .bool (y97 != (0 : Int))) rfl rfl rfl rfl rfl ?_
 refine RL.finG ?_
 refine GL.cond rfl (fun b99 => ?_) (fun b99 => ?_)
 ·replace h45 := ite_t b99 h45
  refine GL.seq ?_
  refine GL.region ?_
  refine RL.asg rfl rfl rfl ?_
  refine RL.asg rfl rfl rfl ?_
  refine RL.finG ?_
  refine GL.weak (fun a w st => st.nilOwn 59 (TR.pair TR.str (TR.pair TR.int TR.int))) ?_
  have h45 := Option.some.inj h45
  subst h45
  exact GL.ret (Gx.ret (v := .tuple #[Value.slice none 0 0, .int .i64 (8 : Int)]) (res2 rfl rfl rfl) (fun a w st => (st.pick [3] (by decide) rfl).toPost (Value.slice none 0 0)))
 replace h45 := ite_f b99 h45
 refine GL.skip ?_
 refine GL.seq ?_
 refine GL.region ?_
 refine RL.mv rfl rfl rfl ?_
 refine RL.asg rfl rfl rfl ?_
 refine RL.asg rfl rfl rfl ?_
 refine RL.finG ?_
 have h45 := Option.some.inj h45
 subst h45
 exact GL.ret (Gx.ret (v := .tuple #[v62, .int .i64 (0 : Int)]) (res2 rfl rfl rfl) (fun a w st => (st.pick [2] (by decide) rfl).toPost v62))

set_option maxHeartbeats 4000000 in
theorem slices_IndexFunc_api_Errno_api_Errno_c (S : Hp) (w : World) (hS : S.sub w) (v0 : Value) (x0 : (List Int)) (k0 : ((TR.sl TR.int)).vrep S v0 x0) (f1 : FuncId) (c1 : Array Value) (t1 : Fit Try.prog f1) (g1 : Int → Option Bool) (k1 : ∀ (U : Hp) (w' : World), Hp.le S U → U.sub w' → ∀ (a0 : Int) (rr : Bool), g1 a0 = some rr → Calls Try.prog f1 (#[.int .i64 a0] ++ c1) w' (PostV w' (.bool rr))) (res : Int) (hm : slices_IndexFunc_api_Errno_api_Errno_m x0 g1 = some res) : Calls Try.prog 131 #[v0, .func (.func f1) #[] c1] w (PostV w (.int .i64 res)) := by
 refine calls_enter 19 Try.func131 Try.ntmps131 rfl S false [(0, v0), (1, .func (.func f1) #[] c1)] [imm (TR.sl TR.int) v0 x0] rfl ⟨rfl, ⟨rfl, trivial⟩⟩ hS ⟨k0, trivial⟩ ?_
 unfold slices_IndexFunc_api_Errno_api_Errno_m at hm
 refine GL.seq ?_
 refine GL.region ?_
 refine RL.asg rfl rfl rfl ?_
 refine RL.finG ?_
 refine GL.seq ?_
 refine GL.seq ?_
 refine GL.region ?_
 refine RL.mv rfl rfl rfl ?_
 refine RL.lenS 0 Try.underlying130 rfl rfl rfl rfl SlOf.imm ?_
 refine RL.mv rfl rfl rfl ?_
 refine RL.finG ?_
 refine GL.open_ 0 rfl (fun S h => len_imm S h) (fun n12 => ?_)
 obtain ⟨y13, K14, h15, h16, h17, h18, h19⟩ := bindR_K hm
 refine GL.join (ι := Unit) (fun (p : Unit) => []) (fun (p : Unit) => []) (fun (p : Unit) => K14 (.nx ())) ?_ ?_
 ·refine GL.block ?_
  refine GL.loop (ι := Nat × (List Int)) (fun (p : Nat × (List Int)) => [(0, v0), (1, .func (.func f1) #[] c1), (7, .int .i64 ((x0).length : Int)), (8, .int .i64 (p.1 : Int))]) (fun (p : Nat × (List Int)) => [imm (TR.sl TR.int) v0 x0]) (fun (p : Nat × (List Int)) => p.1 + p.2.length = (x0).length ∧ List.drop p.1 x0 = p.2 ∧ rangeL (slices_IndexFunc_api_Errno_api_Errno_b1 g1) p.2 p.1 () = some y13) (fun (p : Nat × (List Int)) => p.2.length) (0, x0) ⟨by simp, by simp, h15⟩ (fun a w st => St.cut [0] ⟨rfl, rfl, rfl, rfl, trivial⟩ (by decide) rfl st) ?_
  rintro ⟨i20, r21⟩ ⟨h26, h27, h25⟩
  try dsimp only at h26 h27 h25
  refine GL.weak (env' := [(0, v0), (1, .func (.func f1) #[] c1), (7, .int .i64 ((x0).length : Int)), (8, .int .i64 (i20 : Int))]) (L' := [imm (TR.sl TR.int) v0 x0]) (fun _ _ st => st) ?_
  refine GL.seq ?_
  refine GL.region ?_
  refine RL.binI (v := .bool (decide ((i20 : Int) < ((x0).length : Int)))) rfl rfl rfl rfl rfl ?_
  refine RL.finG ?_
  refine GL.seq ?_
  refine GL.cond rfl (fun b28 => ?_) (fun b28 => ?_)
  ·have h29 : i20 < (x0).length := by have := of_decide_eq_true b28; omega
   obtain ⟨y30, r32, hr, e31, h33⟩ := drop_cons h27 rfl h29
   subst hr
   obtain ⟨z22, h23, h24⟩ := rangeL_some h25
   unfold slices_IndexFunc_api_Errno_api_Errno_b1 at h23
   try dsimp only at h23
   refine GL.skip ?_
   refine GL.seq ?_
   refine GL.block ?_
   refine GL.seq ?_
   refine GL.region ?_
   refine RL.mv rfl rfl rfl ?_
   refine RL.asg rfl rfl rfl ?_
   refine RL.finG ?_
   refine GL.seq ?_
   refine GL.region ?_
   refine RL.mv rfl rfl rfl ?_
   refine RL.mv rfl rfl rfl ?_
   refine RL.mv rfl rfl rfl ?_
   refine RL.idxS (sz := 1) 0 Try.underlying130 Try_ln28 rfl rfl rfl rfl rfl SlOf.imm (by omega) (by omega) ?_
   refine RL.ldSx (i := i20) (e' := y30) 0 Ex.ik Try_ln28 rfl rfl rfl rfl SlOf.imm e31 Part.self ?_
   obtain ⟨y36, e37, h23⟩ := bind_some h23
   refine RL.callV (v := .bool y36) (vs := [.int .i64 y30]) t1 rfl (Or.inl rfl) rfl rfl rfl rfl (fun U w hU hW hL => k1 U w hW hU y30 _ e37) ?_
   refine RL.finG ?_
   refine GL.cond rfl (fun b38 => ?_) (fun b38 => ?_)
   ·replace h23 := ite_t b38 h23
    refine GL.seq ?_
    refine GL.region ?_
    refine RL.mv rfl rfl rfl ?_
    refine RL.asg rfl rfl rfl ?_
    refine RL.finG ?_
    cases h23
    replace h24 : some (Fl.rt _) = some y13 := h24
    cases h24
    have hh := h18 _ h16
    subst hh
    exact GL.ret (Gx.ret (v := .int .i64 (i20 : Int)) (res1 rfl rfl) (fun a w st => st.toPostV))
   replace h23 := ite_f b38 h23
   refine GL.skip ?_
   refine GL.nilB ?_
   refine GL.region ?_
   refine RL.binI (v := .int .i64 ((i20 + 1 : Nat) : Int)) rfl rfl rfl rfl (binI_succ i20 (by omega)) ?_
   refine RL.mv rfl rfl rfl ?_
   refine RL.fin ?_
   cases h23
   exact fun a w st => lop_intro (i20 + 1, r32) ⟨by show i20 + 1 + r32.length = (x0).length; simp only [List.length_cons] at h26; omega, h33, h24⟩ (by simp) (St.cut [0] ⟨rfl, rfl, rfl, rfl, trivial⟩ (by decide) rfl st)
  have h29 : ¬ i20 < (x0).length := by have := of_decide_eq_false b28; omega
  obtain rfl : r21 = [] := by rw [← h27]; exact List.drop_of_length_le (by omega)
  replace h25 : some (Fl.nx _) = some y13 := h25
  cases h25
  exact GL.exit (fun a w st => mid_intro () h16 (St.cut [] trivial (by decide) rfl st))
 rintro ⟨⟩ h39
 have h40 := h17 _ h39
 try dsimp only at h40
 refine GL.weak (env' := []) (L' := []) (fun _ _ st => st) ?_
 refine GL.seq ?_
 refine GL.region ?_
 refine RL.asg rfl rfl rfl ?_
 refine RL.finG ?_
 have h40 := Option.some.inj h40
 subst h40
 exact GL.ret (Gx.ret (v := .int .i64 (-1 : Int)) (res1 rfl rfl) (fun a w st => st.toPostV))

set_option maxHeartbeats 4000000 in
theorem slices_ContainsFunc_api_Errno_api_Errno_c (S : Hp) (w : World) (hS : S.sub w) (v0 : Value) (x0 : (List Int)) (k0 : ((TR.sl TR.int)).vrep S v0 x0) (f1 : FuncId) (c1 : Array Value) (t1 : Fit Try.prog f1) (g1 : Int → Option Bool) (k1 : ∀ (U : Hp) (w' : World), Hp.le S U → U.sub w' → ∀ (a0 : Int) (rr : Bool), g1 a0 = some rr → Calls Try.prog f1 (#[.int .i64 a0] ++ c1) w' (PostV w' (.bool rr))) (res : Bool) (hm : slices_ContainsFunc_api_Errno_api_Errno_m x0 g1 = some res) : Calls Try.prog 118 #[v0, .func (.func f1) #[] c1] w (PostV w (.bool res)) := by
 refine calls_enter 9 Try.func118 Try.ntmps118 rfl S false [(0, v0), (1, .func (.func f1) #[] c1)] [imm (TR.sl TR.int) v0 x0] rfl ⟨rfl, ⟨rfl, trivial⟩⟩ hS ⟨k0, trivial⟩ ?_
 unfold slices_ContainsFunc_api_Errno_api_Errno_m at hm
 refine GL.seq ?_
 refine GL.region ?_
 refine RL.asg rfl rfl rfl ?_
 refine RL.finG ?_
 refine GL.seq ?_
 refine GL.region ?_
 refine RL.mv rfl rfl rfl ?_
 refine RL.mv rfl rfl rfl ?_
 obtain ⟨y5, e6, hm⟩ := bind_some hm
 refine RL.callV (v := .int .i64 y5) (vs := [v0, .func (.func f1) #[] c1]) Try_fit131 rfl (Or.inl rfl) rfl rfl rfl rfl (fun U w hU hW hL => slices_IndexFunc_api_Errno_api_Errno_c U w hU _ _ (hL 0 _ _ rfl Seen.imm) f1 c1 t1 g1 (fun U' w' hle => k1 U' w' (Hp.le_trans hW hle)) _ e6) ?_
 refine RL.binI (v := .bool (decide (y5 ≥ (0 : Int)))) rfl rfl rfl rfl rfl ?_
 refine RL.asg rfl rfl rfl ?_
 refine RL.finG ?_
 have hm := Option.some.inj hm
 subst hm
 exact GL.ret (Gx.ret (v := .bool (decide (y5 ≥ (0 : Int)))) (res1 rfl rfl) (fun a w st => st.toPostV))

set_option maxHeartbeats 4000000 in
theorem pk_good_1_c (S : Hp) (w : World) (hS : S.sub w) (x0 : Int) (res : Bool) (hm : pk_good_1_m x0 = some res) : Calls Try.prog 119 #[.int .i64 x0] w (PostC w (.bool res)) := by
 refine calls_enter 5 Try.func119 Try.ntmps119 rfl S true [(0, .int .i64 x0)] [] rfl ⟨rfl, trivial⟩ hS trivial ?_
 unfold pk_good_1_m at hm
 refine GL.seq ?_
 refine GL.region ?_
 refine RL.asg rfl rfl rfl ?_
 refine RL.finG ?_
 refine GL.seq ?_
 refine GL.region ?_
 refine RL.mv rfl rfl rfl ?_
 refine RL.binI (v := .bool (x0 != (0 : Int))) rfl rfl rfl rfl rfl ?_
 refine RL.asg rfl rfl rfl ?_
 refine RL.finG ?_
 have hm := Option.some.inj hm
 subst hm
 exact GL.ret (Gx.ret (v := .bool (x0 != (0 : Int))) (res1 rfl rfl) (fun a w st => st.toPostC rfl))

set_option maxHeartbeats 4000000 in
theorem pk_good_c (S : Hp) (w : World) (hS : S.sub w) (v0 : Value) (x0 : (List Int)) (k0 : ((TR.sl TR.int)).vrep S v0 x0) (res : Bool) (hm : pk_good_m x0 = some res) : Calls Try.prog 68 #[v0] w (PostV w (.bool res)) := by
 refine calls_enter 6 Try.func68 Try.ntmps68 rfl S false [(0, v0)] [imm (TR.sl TR.int) v0 x0] rfl ⟨rfl, trivial⟩ hS ⟨k0, trivial⟩ ?_
 unfold pk_good_m at hm
 refine GL.seq ?_
 refine GL.region ?_
 refine RL.asg rfl rfl rfl ?_
 refine RL.finG ?_
 refine GL.seq ?_
 refine GL.region ?_
 refine RL.mv rfl rfl rfl ?_
 obtain ⟨y4, e5, hm⟩ := bind_some hm
 refine RL.callV (v := .bool y4) (vs := [v0, .func (.func 119) #[] #[]]) Try_fit118 rfl (Or.inl rfl) rfl rfl rfl rfl (fun U w hU hW hL => slices_ContainsFunc_api_Errno_api_Errno_c U w hU _ _ (hL 0 _ _ rfl Seen.imm) 119 #[] Try_fit119 (fun a0 => pk_good_1_m a0) (fun U' w' hle hU' a0 rr hr => (pk_good_1_c U' w' hU' a0 rr hr).mono (fun _ _ z => z.toV)) _ e5) ?_
 refine RL.notB rfl rfl rfl ?_
 refine RL.asg rfl rfl rfl ?_
 refine RL.finG ?_
 have hm := Option.some.inj hm
 subst hm
 exact GL.ret (Gx.ret (v := .bool (!y4)) (res1 rfl rfl) (fun a w st => st.toPostV))

set_option maxHeartbeats 4000000 in
theorem slices_Equal_api_Account_api_Account_c (S : Hp) (w : World) (hS : S.sub w) (v0 : Value) (x0 : (List ((List UInt8) × (Int × Int)))) (k0 : ((TR.sl (TR.pair TR.str (TR.pair TR.int TR.int)))).vrep S v0 x0) (v1 : Value) (x1 : (List ((List UInt8) × (Int × Int)))) (k1 : ((TR.sl (TR.pair TR.str (TR.pair TR.int TR.int)))).vrep S v1 x1) (res : Bool) (hm : slices_Equal_api_Account_api_Account_m x0 x1 = some res) : Calls Try.prog 38 #[v0, v1] w (PostV w (.bool res)) := by
 refine calls_enter 26 Try.func38 Try.ntmps38 rfl S false [(0, v0), (1, v1)] [imm (TR.sl (TR.pair TR.str (TR.pair TR.int TR.int))) v0 x0, imm (TR.sl (TR.pair TR.str (TR.pair TR.int TR.int))) v1 x1] rfl ⟨rfl, ⟨rfl, trivial⟩⟩ hS ⟨k0, ⟨k1, trivial⟩⟩ ?_
 unfold slices_Equal_api_Account_api_Account_m at hm
 refine GL.seq ?_
 refine GL.region ?_
 refine RL.asg rfl rfl rfl ?_
 refine RL.finG ?_
 refine GL.seq ?_
 refine GL.seq ?_
 refine GL.region ?_
 refine RL.mv rfl rfl rfl ?_
 refine RL.lenS 0 Try.underlying51 rfl rfl rfl rfl SlOf.imm ?_
 refine RL.mv rfl rfl rfl ?_
 refine RL.lenS 1 Try.underlying51 rfl rfl rfl rfl SlOf.imm ?_
 refine RL.binI (v := .bool (((x0).length : Int) != ((x1).length : Int))) rfl rfl rfl rfl rfl ?_
 refine RL.finG ?_
 refine GL.cond rfl (fun b3 => ?_) (fun b3 => ?_)
 ·replace hm := ite_t b3 hm
  refine GL.seq ?_
  refine GL.region ?_
  refine RL.asg rfl rfl rfl ?_
  refine RL.finG ?_
  have hm := Option.some.inj hm
  subst hm
  exact GL.ret (Gx.ret (v := .bool false) (res1 rfl rfl) (fun a w st => st.toPostV))
 replace hm := ite_f b3 hm
 refine GL.skip ?_
 refine GL.seq ?_
 refine GL.seq ?_
 refine GL.region ?_
 refine RL.mv rfl rfl rfl ?_
 refine RL.lenS 0 Try.underlying51 rfl rfl rfl rfl SlOf.imm ?_
 refine RL.mv rfl rfl rfl ?_
 refine RL.finG ?_
 refine GL.open_ 0 rfl (fun S h => len_imm S h) (fun n17 => ?_)
 obtain ⟨y18, K19, h20, h21, h22, h23, h24⟩ := bindR_K hm
 refine GL.join (ι := Unit) (fun (p : Unit) => []) (fun (p : Unit) => []) (fun (p : Unit) => K19 (.nx ())) ?_ ?_
 ·refine GL.block ?_
  refine GL.loop (ι := Nat × (List ((List UInt8) × (Int × Int)))) (fun (p : Nat × (List ((List UInt8) × (Int × Int)))) => [(0, v0), (1, v1), (12, .int .i64 ((x0).length : Int)), (13, .int .i64 (p.1 : Int))]) (fun (p : Nat × (List ((List UInt8) × (Int × Int)))) => [imm (TR.sl (TR.pair TR.str (TR.pair TR.int TR.int))) v0 x0, imm (TR.sl (TR.pair TR.str (TR.pair TR.int TR.int))) v1 x1]) (fun (p : Nat × (List ((List UInt8) × (Int × Int)))) => p.1 + p.2.length = (x0).length ∧ List.drop p.1 x0 = p.2 ∧ rangeL (slices_Equal_api_Account_api_Account_b1 x1) p.2 p.1 () = some y18) (fun (p : Nat × (List ((List UInt8) × (Int × Int)))) => p.2.length) (0, x0) ⟨by simp, by simp, h20⟩ (fun a w st => St.cut [0, 1] ⟨rfl, rfl, rfl, rfl, trivial⟩ (by decide) rfl st) ?_
  rintro ⟨i25, r26⟩ ⟨h31, h32, h30⟩
  try dsimp only at h31 h32 h30
  refine GL.weak (env' := [(0, v0), (1, v1), (12, .int .i64 ((x0).length : Int)), (13, .int .i64 (i25 : Int))]) (L' := [imm (TR.sl (TR.pair TR.str (TR.pair TR.int TR.int))) v0 x0, imm (TR.sl (TR.pair TR.str (TR.pair TR.int TR.int))) v1 x1]) (fun _ _ st => st) ?_
  refine GL.seq ?_
  refine GL.region ?_
  refine RL.binI (v := .bool (decide ((i25 : Int) < ((x0).length : Int)))) rfl rfl rfl rfl rfl ?_
  refine RL.finG ?_
  refine GL.seq ?_
  refine GL.cond rfl (fun b33 => ?_) (fun b33 => ?_)
  ·have h34 : i25 < (x0).length := by have := of_decide_eq_true b33; omega
   obtain ⟨y35, r37, hr, e36, h38⟩ := drop_cons h32 rfl h34
   subst hr
   obtain ⟨z27, h28, h29⟩ := rangeL_some h30
   unfold slices_Equal_api_Account_api_Account_b1 at h28
   try dsimp only at h28
   refine GL.skip ?_
   refine GL.seq ?_
   refine GL.block ?_
   refine GL.seq ?_
   refine GL.region ?_
   refine RL.mv rfl rfl rfl ?_
   refine RL.asg rfl rfl rfl ?_
   refine RL.finG ?_
   refine GL.seq ?_
   refine GL.regionQ rfl rfl (by kernel_rfl) ?_
   refine RL.mv rfl rfl rfl ?_
   refine RL.mv rfl rfl rfl ?_
   refine RL.idxS (sz := 3) 0 Try.underlying51 Try_ln59 rfl rfl rfl rfl rfl SlOf.imm (by omega) (by omega) ?_
   refine RL.ldS (i := i25) (r := (TR.pair TR.str (TR.pair TR.int TR.int))) (e' := y35) 0 Try_ln59 rfl rfl rfl rfl SlOf.imm e36 Part.self ?_
   intro v43
   refine RL.mv rfl rfl rfl ?_
   refine RL.mv rfl rfl rfl ?_
   obtain ⟨y44, e45, h28⟩ := bind_some h28
   refine RL.idxS (sz := 3) 1 Try.underlying51 Try_ln59 rfl rfl rfl rfl rfl SlOf.imm (idx_some e45).1 (idx_some e45).2.1 ?_
   refine RL.ldS (i := i25) (r := (TR.pair TR.str (TR.pair TR.int TR.int))) (e' := y44) 1 Try_ln59 rfl rfl rfl rfl SlOf.imm (idx_some e45).2.2 Part.self ?_
   intro v46
   refine RL.reL (L' := [imm (TR.sl (TR.pair TR.str (TR.pair TR.int TR.int))) v0 x0, imm (TR.sl (TR.pair TR.str (TR.pair TR.int TR.int))) v1 x1, imm (TR.pair TR.str (TR.pair TR.int TR.int)) v43 y35, imm (TR.pair TR.str (TR.pair TR.int TR.int)) v46 y44]) rfl ?_
   refine RL.neG (t := (TR.pair TR.str (TR.pair TR.int TR.int))) (e := y35) (e' := y44) rfl Try_eq59 (by decide) Try.eqGuardType59 rfl rfl rfl rfl (VR.item 2 rfl) (VR.item 3 rfl) ?_
   refine RL.finQG ?_
   refine GL.cond rfl (fun b47 => ?_) (fun b47 => ?_)
   ·replace h28 := ite_t b47 h28
    refine GL.seq ?_
    refine GL.region ?_
    refine RL.asg rfl rfl rfl ?_
    refine RL.finG ?_
    cases h28
    replace h29 : some (Fl.rt _) = some y18 := h29
    cases h29
    have hh := h23 _ h21
    subst hh
    exact GL.ret (Gx.ret (v := .bool false) (res1 rfl rfl) (fun a w st => st.toPostV))
   replace h28 := ite_f b47 h28
   refine GL.skip ?_
   refine GL.nilB ?_
   refine GL.region ?_
   refine RL.binI (v := .int .i64 ((i25 + 1 : Nat) : Int)) rfl rfl rfl rfl (binI_succ i25 (by omega)) ?_
   refine RL.mv rfl rfl rfl ?_
   refine RL.fin ?_
   cases h28
   exact fun a w st => lop_intro (i25 + 1, r37) ⟨by show i25 + 1 + r37.length = (x0).length; simp only [List.length_cons] at h31; omega, h38, h29⟩ (by simp) (St.cut [0, 1] ⟨rfl, rfl, rfl, rfl, trivial⟩ (by decide) rfl st)
  have h34 : ¬ i25 < (x0).length := by have := of_decide_eq_false b33; omega
  obtain rfl : r26 = [] := by rw [← h32]; exact List.drop_of_length_le (by omega)
  replace h30 : some (Fl.nx _) = some y18 := h30
  cases h30
  exact GL.exit (fun a w st => mid_intro () h21 (St.cut [] trivial (by decide) rfl st))
 rintro ⟨⟩ h48
 have h49 := h22 _ h48
 try dsimp only at h49
 refine GL.weak (env' := []) (L' := []) (fun _ _ st => st) ?_
 refine GL.seq ?_
 refine GL.region ?_
 refine RL.asg rfl rfl rfl ?_
 refine RL.finG ?_
 have h49 := Option.some.inj h49
 subst h49
 exact GL.ret (Gx.ret (v := .bool true) (res1 rfl rfl) (fun a w st => st.toPostV))

set_option maxHeartbeats 4000000 in
theorem pk_ledgers_c (S : Hp) (w : World) (hS : S.sub w)  (res : Bool) (hm : pk_ledgers_m = some res) : Calls Try.prog 36 #[] w (PostV w (.bool res)) := by
 refine calls_enter 28 Try.func36 Try.ntmps36 rfl S false [] [] rfl trivial hS trivial ?_
 unfold pk_ledgers_m at hm
 refine GL.seq ?_
 refine GL.region ?_
 refine RL.asg rfl rfl rfl ?_
 refine RL.finG ?_
 refine GL.seq ?_
 refine GL.region ?_
 refine RL.bld (t := (TR.pair TR.str (TR.pair TR.int TR.int))) (d0 := ((([98] : List UInt8), (9 : Int), (0 : Int)) : ((List UInt8) × (Int × Int)))) (pv := [(0, .string ⟨(([98] : List UInt8) : List UInt8).toArray⟩), (1, .int .i64 (9 : Int))]) rfl Try_bld59 rfl rfl rfl ⟨⟨_, _, TR.str, ([98] : List UInt8), rfl, rfl, VR.str⟩, ⟨⟨_, _, TR.int, (9 : Int), rfl, rfl, VR.int⟩, trivial⟩⟩ (fun S f hi => by
   obtain ⟨c0, e0, r0⟩ := cells_vrep (t := TR.str) (u := .string ⟨(([98] : List UInt8) : List UInt8).toArray⟩) (e := ([98] : List UInt8)) (VR.str S f hi)
   obtain ⟨c1, e1, r1⟩ := cells_vrep (t := TR.int) (u := .int .i64 (9 : Int)) (e := (9 : Int)) (VR.int S f hi)
   show TR.rep (TR.pair TR.str (TR.pair TR.int TR.int)) S (List.flatten [(.string ⟨(([98] : List UInt8) : List UInt8).toArray⟩ : Value).cells.toList, (.int .i64 (9 : Int) : Value).cells.toList, [.int .i64 0]]) _
   simp only [e0, e1,  List.flatten_cons, List.flatten_nil, List.append_nil]
   exact ⟨_, _, rfl, r0, ⟨_, _, rfl, r1, rfl⟩⟩) ?_
 intro v6
 refine RL.bS (t := (TR.pair TR.str (TR.pair TR.int TR.int))) (vs := [v6]) ([((([98] : List UInt8), (9 : Int), (0 : Int)) : ((List UInt8) × (Int × Int)))] : (List ((List UInt8) × (Int × Int)))) Try.underlying51 Try_lo59 rfl rfl rfl rfl ⟨(VR.item 0 rfl), trivial⟩ rfl (by decide) ?_
 intro v7
 refine RL.reL (L' := [imm (TR.pair TR.str (TR.pair TR.int TR.int)) v6 ((([98] : List UInt8), (9 : Int), (0 : Int)) : ((List UInt8) × (Int × Int))), own 59 (TR.pair TR.str (TR.pair TR.int TR.int)) v7 ([((([98] : List UInt8), (9 : Int), (0 : Int)) : ((List UInt8) × (Int × Int)))] : (List ((List UInt8) × (Int × Int))))]) rfl ?_
 obtain ⟨y8, e9, hm⟩ := bind_some hm
 refine RL.callU (vs := [v7, .string ⟨(([97] : List UInt8) : List UInt8).toArray⟩, .int .i64 (5 : Int)]) (LR := fun (o : Value) => [own 59 (TR.pair TR.str (TR.pair TR.int TR.int)) o y8.1]) (fun o => ⟨Loc.own (TR.flatT_pair TR.flatT_str (TR.flatT_pair TR.flatT_ik TR.flatT_ik)), trivial⟩) Try_fit41 rfl rfl rfl rfl rfl (fun U w hU hW hL => ledger_Open_c U w hU _ _ (hL 1 _ _ rfl Seen.own) ([97] : List UInt8) (5 : Int) _ e9) ?_
 intro v10
 refine RL.mv rfl rfl rfl ?_
 refine RL.ext rfl rfl rfl rfl ?_
 refine RL.ext rfl rfl rfl rfl ?_
 refine RL.asg rfl rfl rfl ?_
 refine RL.asg rfl rfl rfl ?_
 refine RL.finG ?_
 refine GL.seq ?_
 refine GL.region ?_
 refine RL.mv rfl rfl rfl ?_
 refine RL.bld (t := (TR.pair TR.str (TR.pair TR.str (TR.pair TR.int (TR.pair TR.int (TR.pair TR.int TR.int)))))) (d0 := ((([98] : List UInt8), ([97] : List UInt8), (0 : Int), (3 : Int), (1 : Int), (1 : Int)) : ((List UInt8) × ((List UInt8) × (Int × (Int × (Int × Int))))))) (pv := [(0, .string ⟨(([98] : List UInt8) : List UInt8).toArray⟩), (1, .string ⟨(([97] : List UInt8) : List UInt8).toArray⟩), (3, .int .i64 (3 : Int)), (4, .int .i64 (1 : Int)), (5, .int .i64 (1 : Int))]) rfl Try_bld53 rfl rfl rfl ⟨⟨_, _, TR.str, ([98] : List UInt8), rfl, rfl, VR.str⟩, ⟨⟨_, _, TR.str, ([97] : List UInt8), rfl, rfl, VR.str⟩, ⟨⟨_, _, TR.int, (3 : Int), rfl, rfl, VR.int⟩, ⟨⟨_, _, TR.int, (1 : Int), rfl, rfl, VR.int⟩, ⟨⟨_, _, TR.int, (1 : Int), rfl, rfl, VR.int⟩, trivial⟩⟩⟩⟩⟩ (fun S f hi => by
   obtain ⟨c0, e0, r0⟩ := cells_vrep (t := TR.str) (u := .string ⟨(([98] : List UInt8) : List UInt8).toArray⟩) (e := ([98] : List UInt8)) (VR.str S f hi)
   obtain ⟨c1, e1, r1⟩ := cells_vrep (t := TR.str) (u := .string ⟨(([97] : List UInt8) : List UInt8).toArray⟩) (e := ([97] : List UInt8)) (VR.str S f hi)
   obtain ⟨c3, e3, r3⟩ := cells_vrep (t := TR.int) (u := .int .i64 (3 : Int)) (e := (3 : Int)) (VR.int S f hi)
   obtain ⟨c4, e4, r4⟩ := cells_vrep (t := TR.int) (u := .int .i64 (1 : Int)) (e := (1 : Int)) (VR.int S f hi)
   obtain ⟨c5, e5, r5⟩ := cells_vrep (t := TR.int) (u := .int .i64 (1 : Int)) (e := (1 : Int)) (VR.int S f hi)
   show TR.rep (TR.pair TR.str (TR.pair TR.str (TR.pair TR.int (TR.pair TR.int (TR.pair TR.int TR.int))))) S (List.flatten [(.string ⟨(([98] : List UInt8) : List UInt8).toArray⟩ : Value).cells.toList, (.string ⟨(([97] : List UInt8) : List UInt8).toArray⟩ : Value).cells.toList, [.int .i64 0], (.int .i64 (3 : Int) : Value).cells.toList, (.int .i64 (1 : Int) : Value).cells.toList, (.int .i64 (1 : Int) : Value).cells.toList]) _
   simp only [e0, e1, e3, e4, e5,  List.flatten_cons, List.flatten_nil, List.append_nil]
   exact ⟨_, _, rfl, r0, ⟨_, _, rfl, r1, ⟨_, _, rfl, rfl, ⟨_, _, rfl, r3, ⟨_, _, rfl, r4, r4⟩⟩⟩⟩⟩) ?_
 intro v15
 obtain ⟨y16, e17, hm⟩ := bind_some hm
 refine RL.callU (vs := [v10, v15, .string ⟨(([97] : List UInt8) : List UInt8).toArray⟩]) (LR := fun (o : Value) => [own 59 (TR.pair TR.str (TR.pair TR.int TR.int)) o y16.1]) (fun o => ⟨Loc.own (TR.flatT_pair TR.flatT_str (TR.flatT_pair TR.flatT_ik TR.flatT_ik)), trivial⟩) Try_fit37 rfl rfl rfl rfl rfl (fun U w hU hW hL => ledger_Take_c U w hU _ _ (hL 2 _ _ rfl Seen.own) _ _ (hL 3 _ _ rfl Seen.imm) ([97] : List UInt8) _ e17) ?_
 intro v18
 refine RL.mv rfl rfl rfl ?_
 refine RL.ext rfl rfl rfl rfl ?_
 refine RL.ext rfl rfl rfl rfl ?_
 refine RL.asg rfl rfl rfl ?_
 refine RL.asg rfl rfl rfl ?_
 refine RL.finG ?_
 refine GL.seq ?_
 obtain ⟨y38, K39, h40, h41, h42, h43, h44⟩ := bindR_K hm
 refine GL.join (ι := Bool) (fun (p : Bool) => [(0, .bool p)]) (fun (p : Bool) => []) (fun (p : Bool) => K39 (.nx p)) ?_ ?_
 ·skip
  refine GL.region ?_
  refine RL.mv rfl rfl rfl ?_
  refine RL.mv rfl rfl rfl ?_
  refine RL.bS (t := TR.int) (vs := [.int .i64 y8.2, .int .i64 y16.2]) ([y8.2, y16.2] : (List Int)) Try.underlying130 Try_lo28 rfl rfl rfl rfl ⟨VR.int, ⟨VR.int, trivial⟩⟩ rfl (by decide) ?_
  intro v45
  refine RL.reL (L' := [imm (TR.pair TR.str (TR.pair TR.int TR.int)) v6 ((([98] : List UInt8), (9 : Int), (0 : Int)) : ((List UInt8) × (Int × Int))), own 59 (TR.pair TR.str (TR.pair TR.int TR.int)) v7 ([((([98] : List UInt8), (9 : Int), (0 : Int)) : ((List UInt8) × (Int × Int)))] : (List ((List UInt8) × (Int × Int)))), own 59 (TR.pair TR.str (TR.pair TR.int TR.int)) v10 y8.1, imm (TR.pair TR.str (TR.pair TR.str (TR.pair TR.int (TR.pair TR.int (TR.pair TR.int TR.int))))) v15 ((([98] : List UInt8), ([97] : List UInt8), (0 : Int), (3 : Int), (1 : Int), (1 : Int)) : ((List UInt8) × ((List UInt8) × (Int × (Int × (Int × Int)))))), own 59 (TR.pair TR.str (TR.pair TR.int TR.int)) v18 y16.1, own 28 TR.int v45 ([y8.2, y16.2] : (List Int))]) rfl ?_
  obtain ⟨y46, e47, h40⟩ := bind_some h40
  refine RL.callV (v := .bool y46) (vs := [v45]) Try_fit68 rfl (Or.inl rfl) rfl rfl rfl rfl (fun U w hU hW hL => pk_good_c U w hU _ _ (hL 5 _ _ rfl Seen.own) _ e47) ?_
  refine RL.mv rfl rfl rfl ?_
  refine RL.split (t := 21) rfl (fun b48 => ?_) (fun b48 => ?_)
  ·replace h40 := ite_t b48 h40
   refine RL.mv rfl rfl rfl ?_
   refine RL.bld (t := (TR.pair TR.str (TR.pair TR.int TR.int))) (d0 := ((([97] : List UInt8), (9 : Int), (0 : Int)) : ((List UInt8) × (Int × Int)))) (pv := [(0, .string ⟨(([97] : List UInt8) : List UInt8).toArray⟩), (1, .int .i64 (9 : Int))]) rfl Try_bld59 rfl rfl rfl ⟨⟨_, _, TR.str, ([97] : List UInt8), rfl, rfl, VR.str⟩, ⟨⟨_, _, TR.int, (9 : Int), rfl, rfl, VR.int⟩, trivial⟩⟩ (fun S f hi => by
     obtain ⟨c0, e0, r0⟩ := cells_vrep (t := TR.str) (u := .string ⟨(([97] : List UInt8) : List UInt8).toArray⟩) (e := ([97] : List UInt8)) (VR.str S f hi)
     obtain ⟨c1, e1, r1⟩ := cells_vrep (t := TR.int) (u := .int .i64 (9 : Int)) (e := (9 : Int)) (VR.int S f hi)
     show TR.rep (TR.pair TR.str (TR.pair TR.int TR.int)) S (List.flatten [(.string ⟨(([97] : List UInt8) : List UInt8).toArray⟩ : Value).cells.toList, (.int .i64 (9 : Int) : Value).cells.toList, [.int .i64 0]]) _
     simp only [e0, e1,  List.flatten_cons, List.flatten_nil, List.append_nil]
     exact ⟨_, _, rfl, r0, ⟨_, _, rfl, r1, rfl⟩⟩) ?_
   intro v49
   refine RL.bld (t := (TR.pair TR.str (TR.pair TR.int TR.int))) (d0 := ((([98] : List UInt8), (5 : Int), (1 : Int)) : ((List UInt8) × (Int × Int)))) (pv := [(0, .string ⟨(([98] : List UInt8) : List UInt8).toArray⟩), (1, .int .i64 (5 : Int)), (2, .int .i64 (1 : Int))]) rfl Try_bld59 rfl rfl rfl ⟨⟨_, _, TR.str, ([98] : List UInt8), rfl, rfl, VR.str⟩, ⟨⟨_, _, TR.int, (5 : Int), rfl, rfl, VR.int⟩, ⟨⟨_, _, TR.int, (1 : Int), rfl, rfl, VR.int⟩, trivial⟩⟩⟩ (fun S f hi => by
     obtain ⟨c0, e0, r0⟩ := cells_vrep (t := TR.str) (u := .string ⟨(([98] : List UInt8) : List UInt8).toArray⟩) (e := ([98] : List UInt8)) (VR.str S f hi)
     obtain ⟨c1, e1, r1⟩ := cells_vrep (t := TR.int) (u := .int .i64 (5 : Int)) (e := (5 : Int)) (VR.int S f hi)
     obtain ⟨c2, e2, r2⟩ := cells_vrep (t := TR.int) (u := .int .i64 (1 : Int)) (e := (1 : Int)) (VR.int S f hi)
     show TR.rep (TR.pair TR.str (TR.pair TR.int TR.int)) S (List.flatten [(.string ⟨(([98] : List UInt8) : List UInt8).toArray⟩ : Value).cells.toList, (.int .i64 (5 : Int) : Value).cells.toList, (.int .i64 (1 : Int) : Value).cells.toList]) _
     simp only [e0, e1, e2,  List.flatten_cons, List.flatten_nil, List.append_nil]
     exact ⟨_, _, rfl, r0, ⟨_, _, rfl, r1, r2⟩⟩) ?_
   intro v50
   refine RL.reL (L' := [imm (TR.pair TR.str (TR.pair TR.int TR.int)) v6 ((([98] : List UInt8), (9 : Int), (0 : Int)) : ((List UInt8) × (Int × Int))), own 59 (TR.pair TR.str (TR.pair TR.int TR.int)) v7 ([((([98] : List UInt8), (9 : Int), (0 : Int)) : ((List UInt8) × (Int × Int)))] : (List ((List UInt8) × (Int × Int)))), own 59 (TR.pair TR.str (TR.pair TR.int TR.int)) v10 y8.1, imm (TR.pair TR.str (TR.pair TR.str (TR.pair TR.int (TR.pair TR.int (TR.pair TR.int TR.int))))) v15 ((([98] : List UInt8), ([97] : List UInt8), (0 : Int), (3 : Int), (1 : Int), (1 : Int)) : ((List UInt8) × ((List UInt8) × (Int × (Int × (Int × Int)))))), own 59 (TR.pair TR.str (TR.pair TR.int TR.int)) v18 y16.1, own 28 TR.int v45 ([y8.2, y16.2] : (List Int)), imm (TR.pair TR.str (TR.pair TR.int TR.int)) v49 ((([97] : List UInt8), (9 : Int), (0 : Int)) : ((List UInt8) × (Int × Int))), imm (TR.pair TR.str (TR.pair TR.int TR.int)) v50 ((([98] : List UInt8), (5 : Int), (1 : Int)) : ((List UInt8) × (Int × Int)))]) rfl ?_
   refine RL.bS (t := (TR.pair TR.str (TR.pair TR.int TR.int))) (vs := [v49, v50]) ([((([97] : List UInt8), (9 : Int), (0 : Int)) : ((List UInt8) × (Int × Int))), ((([98] : List UInt8), (5 : Int), (1 : Int)) : ((List UInt8) × (Int × Int)))] : (List ((List UInt8) × (Int × Int)))) Try.underlying51 Try_lo59 rfl rfl rfl rfl ⟨(VR.item 6 rfl), ⟨(VR.item 7 rfl), trivial⟩⟩ rfl (by decide) ?_
   intro v51
   obtain ⟨y52, e53, h40⟩ := bind_some h40
   refine RL.callV (v := .bool y52) (vs := [v18, v51]) Try_fit38 rfl (Or.inl rfl) rfl rfl rfl rfl (fun U w hU hW hL => slices_Equal_api_Account_api_Account_c U w hU _ _ (hL 4 _ _ rfl Seen.own) _ _ (hL 8 _ _ rfl Seen.own) _ e53) ?_
   refine RL.pickT rfl rfl rfl rfl ?_
   refine RL.asg rfl rfl rfl ?_
   refine RL.fin ?_
   cases h40
   exact fun a w st => mid_intro y52 h41 (St.cut [] ⟨rfl, trivial⟩ (by decide) rfl st)
  replace h40 := ite_f b48 h40
  refine RL.skip rfl rfl ?_
  refine RL.skip rfl rfl ?_
  refine RL.skip rfl rfl ?_
  refine RL.skip rfl rfl ?_
  refine RL.skip rfl rfl ?_
  refine RL.pickF rfl rfl rfl rfl ?_
  refine RL.asg rfl rfl rfl ?_
  refine RL.fin ?_
  cases h40
  exact fun a w st => mid_intro false h41 (St.cut [] ⟨rfl, trivial⟩ (by decide) rfl st)
 rintro x37 h54
 have h55 := h42 _ h54
 try dsimp only at h55
 refine GL.weak (env' := [(0, .bool x37)]) (L' := []) (fun _ _ st => st) ?_
 have h55 := Option.some.inj h55
 subst h55
 exact GL.ret (Gx.ret (v := .bool x37) (res1 rfl rfl) (fun a w st => st.toPostV))

set_option maxHeartbeats 4000000 in
theorem pk_money_c (S : Hp) (w : World) (hS : S.sub w) (v0 : Value) (x0 : (List ((List UInt8) × (Int × Int)))) (k0 : ((TR.sl (TR.pair TR.str (TR.pair TR.int TR.int)))).vrep S v0 x0) (res : Int) (hm : pk_money_m x0 = some res) : Calls Try.prog 39 #[v0] w (PostV w (.int .i64 res)) := by
 refine calls_enter 18 Try.func39 Try.ntmps39 rfl S false [(0, v0)] [imm (TR.sl (TR.pair TR.str (TR.pair TR.int TR.int))) v0 x0] rfl ⟨rfl, trivial⟩ hS ⟨k0, trivial⟩ ?_
 unfold pk_money_m at hm
 refine GL.seq ?_
 refine GL.region ?_
 refine RL.asg rfl rfl rfl ?_
 refine RL.finG ?_
 refine GL.seq ?_
 refine GL.region ?_
 refine RL.asg rfl rfl rfl ?_
 refine RL.finG ?_
 refine GL.seq ?_
 refine GL.seq ?_
 refine GL.region ?_
 refine RL.mv rfl rfl rfl ?_
 refine RL.lenS 0 Try.underlying51 rfl rfl rfl rfl SlOf.imm ?_
 refine RL.mv rfl rfl rfl ?_
 refine RL.finG ?_
 refine GL.open_ 0 rfl (fun S h => len_imm S h) (fun n11 => ?_)
 obtain ⟨y12, K13, h14, h15, h16, h17, h18⟩ := bindR_K hm
 refine GL.join (ι := Int) (fun (p : Int) => [(3, .int .i64 p)]) (fun (p : Int) => []) (fun (p : Int) => K13 (.nx p)) ?_ ?_
 ·refine GL.block ?_
  refine GL.loop (ι := Nat × (List ((List UInt8) × (Int × Int))) × Int) (fun (p : Nat × (List ((List UInt8) × (Int × Int))) × Int) => [(3, .int .i64 p.2.2), (6, v0), (7, .int .i64 ((x0).length : Int)), (8, .int .i64 (p.1 : Int))]) (fun (p : Nat × (List ((List UInt8) × (Int × Int))) × Int) => [imm (TR.sl (TR.pair TR.str (TR.pair TR.int TR.int))) v0 x0]) (fun (p : Nat × (List ((List UInt8) × (Int × Int))) × Int) => p.1 + p.2.1.length = (x0).length ∧ List.drop p.1 x0 = p.2.1 ∧ rangeL pk_money_b1 p.2.1 p.1 p.2.2 = some y12) (fun (p : Nat × (List ((List UInt8) × (Int × Int))) × Int) => p.2.1.length) (0, x0, (0 : Int)) ⟨by simp, by simp, h14⟩ (fun a w st => St.cut [0] ⟨rfl, rfl, rfl, rfl, trivial⟩ (by decide) rfl st) ?_
  rintro ⟨i19, r20, x2⟩ ⟨h25, h26, h24⟩
  try dsimp only at h25 h26 h24
  refine GL.weak (env' := [(3, .int .i64 x2), (6, v0), (7, .int .i64 ((x0).length : Int)), (8, .int .i64 (i19 : Int))]) (L' := [imm (TR.sl (TR.pair TR.str (TR.pair TR.int TR.int))) v0 x0]) (fun _ _ st => st) ?_
  refine GL.seq ?_
  refine GL.region ?_
  refine RL.binI (v := .bool (decide ((i19 : Int) < ((x0).length : Int)))) rfl rfl rfl rfl rfl ?_
  refine RL.finG ?_
  refine GL.seq ?_
  refine GL.cond rfl (fun b27 => ?_) (fun b27 => ?_)
  ·have h28 : i19 < (x0).length := by have := of_decide_eq_true b27; omega
   obtain ⟨y29, r31, hr, e30, h32⟩ := drop_cons h26 rfl h28
   subst hr
   obtain ⟨z21, h22, h23⟩ := rangeL_some h24
   unfold pk_money_b1 at h22
   try dsimp only at h22
   refine GL.skip ?_
   refine GL.seq ?_
   refine GL.block ?_
   refine GL.seq ?_
   refine GL.region ?_
   refine RL.idxS (sz := 3) 0 Try.underlying51 Try_ln59 rfl rfl rfl rfl rfl SlOf.imm (by omega) (by omega) ?_
   refine RL.ldS (i := i19) (r := (TR.pair TR.str (TR.pair TR.int TR.int))) (e' := y29) 0 Try_ln59 rfl rfl rfl rfl SlOf.imm e30 Part.self ?_
   intro v35
   refine RL.alloc (t := (TR.pair TR.str (TR.pair TR.int TR.int))) (z := (([] : List UInt8), (0 : Int), (0 : Int))) Try_lo59 (fun S => ⟨[.string ⟨#[]⟩], _, rfl, rfl, ⟨[.int .i64 0], _, rfl, rfl, rfl⟩⟩) rfl rfl rfl ?_
   intro v36
   refine RL.reL (L' := [imm (TR.sl (TR.pair TR.str (TR.pair TR.int TR.int))) v0 x0, imm (TR.pair TR.str (TR.pair TR.int TR.int)) v35 y29, obox 59 (TR.pair TR.str (TR.pair TR.int TR.int)) v36 (([] : List UInt8), (0 : Int), (0 : Int))]) rfl ?_
   refine RL.stP (off := 0) (e' := y29) (d1 := y29) (r := (TR.pair TR.str (TR.pair TR.int TR.int))) 2 Try_ln59 rfl rfl (Or.inr ⟨rfl, rfl⟩) rfl (VR.item 1 rfl) rfl Upd.self ?_
   refine RL.finG ?_
   refine GL.region ?_
   refine RL.mv rfl rfl rfl ?_
   refine RL.fadr (off := 0) (fo := 1) 2 Try_fld59_1 rfl rfl rfl PtOf.obox (Or.inr ⟨rfl, rfl⟩) ?_
   refine RL.ldPx (off := (0 + 1)) (e' := y29.2.1) 2 Ex.ik Try_ln3 rfl rfl (Or.inl rfl) rfl PtOf.obox (Part.snd (Part.fst Part.self)) ?_
   refine RL.binI (v := .int .i64 (wadd x2 y29.2.1)) rfl rfl rfl rfl rfl ?_
   refine RL.asg rfl rfl rfl ?_
   refine RL.finG ?_
   refine GL.nilB ?_
   refine GL.region ?_
   refine RL.binI (v := .int .i64 ((i19 + 1 : Nat) : Int)) rfl rfl rfl rfl (binI_succ i19 (by omega)) ?_
   refine RL.mv rfl rfl rfl ?_
   refine RL.fin ?_
   cases h22
   exact fun a w st => lop_intro (i19 + 1, r31, wadd x2 y29.2.1) ⟨by show i19 + 1 + r31.length = (x0).length; simp only [List.length_cons] at h25; omega, h32, h23⟩ (by simp) (St.cut [0] ⟨rfl, rfl, rfl, rfl, trivial⟩ (by decide) rfl st)
  have h28 : ¬ i19 < (x0).length := by have := of_decide_eq_false b27; omega
  obtain rfl : r20 = [] := by rw [← h26]; exact List.drop_of_length_le (by omega)
  replace h24 : some (Fl.nx _) = some y12 := h24
  cases h24
  exact GL.exit (fun a w st => mid_intro x2 h15 (St.cut [] ⟨rfl, trivial⟩ (by decide) rfl st))
 rintro x2 h37
 have h38 := h16 _ h37
 try dsimp only at h38
 refine GL.weak (env' := [(3, .int .i64 x2)]) (L' := []) (fun _ _ st => st) ?_
 refine GL.seq ?_
 refine GL.region ?_
 refine RL.mv rfl rfl rfl ?_
 refine RL.asg rfl rfl rfl ?_
 refine RL.finG ?_
 have h38 := Option.some.inj h38
 subst h38
 exact GL.ret (Gx.ret (v := .int .i64 x2) (res1 rfl rfl) (fun a w st => st.toPostV))

set_option maxHeartbeats 4000000 in
theorem slices_Index_api_Account_api_Account_c (S : Hp) (w : World) (hS : S.sub w) (v0 : Value) (x0 : (List ((List UInt8) × (Int × Int)))) (k0 : ((TR.sl (TR.pair TR.str (TR.pair TR.int TR.int)))).vrep S v0 x0) (v1 : Value) (x1 : ((List UInt8) × (Int × Int))) (k1 : ((TR.pair TR.str (TR.pair TR.int TR.int))).vrep S v1 x1) (res : Int) (hm : slices_Index_api_Account_api_Account_m x0 x1 = some res) : Calls Try.prog 102 #[v0, v1] w (PostV w (.int .i64 res)) := by
 refine calls_enter 19 Try.func102 Try.ntmps102 rfl S false [(0, v0), (1, v1)] [imm (TR.sl (TR.pair TR.str (TR.pair TR.int TR.int))) v0 x0, imm (TR.pair TR.str (TR.pair TR.int TR.int)) v1 x1] rfl ⟨rfl, ⟨rfl, trivial⟩⟩ hS ⟨k0, ⟨k1, trivial⟩⟩ ?_
 unfold slices_Index_api_Account_api_Account_m at hm
 refine GL.seq ?_
 refine GL.region ?_
 refine RL.box (t := (TR.pair TR.str (TR.pair TR.int TR.int))) (e := x1) rfl rfl rfl rfl (VR.item 1 rfl) ?_
 intro v4
 refine RL.asg rfl rfl rfl ?_
 refine RL.finG ?_
 refine GL.seq ?_
 refine GL.seq ?_
 refine GL.region ?_
 refine RL.mv rfl rfl rfl ?_
 refine RL.lenS 0 Try.underlying51 rfl rfl rfl rfl SlOf.imm ?_
 refine RL.mv rfl rfl rfl ?_
 refine RL.finG ?_
 refine GL.open_ 0 rfl (fun S h => len_imm S h) (fun n14 => ?_)
 obtain ⟨y15, K16, h17, h18, h19, h20, h21⟩ := bindR_K hm
 refine GL.join (ι := Unit) (fun (p : Unit) => []) (fun (p : Unit) => []) (fun (p : Unit) => K16 (.nx ())) ?_ ?_
 ·refine GL.block ?_
  refine GL.loop (ι := Nat × (List ((List UInt8) × (Int × Int)))) (fun (p : Nat × (List ((List UInt8) × (Int × Int)))) => [(0, v0), (3, v4), (7, .int .i64 ((x0).length : Int)), (8, .int .i64 (p.1 : Int))]) (fun (p : Nat × (List ((List UInt8) × (Int × Int)))) => [imm (TR.sl (TR.pair TR.str (TR.pair TR.int TR.int))) v0 x0, obox 59 (TR.pair TR.str (TR.pair TR.int TR.int)) v4 x1]) (fun (p : Nat × (List ((List UInt8) × (Int × Int)))) => p.1 + p.2.length = (x0).length ∧ List.drop p.1 x0 = p.2 ∧ rangeL (slices_Index_api_Account_api_Account_b1 x1) p.2 p.1 () = some y15) (fun (p : Nat × (List ((List UInt8) × (Int × Int)))) => p.2.length) (0, x0) ⟨by simp, by simp, h17⟩ (fun a w st => St.cut [0, 2] ⟨rfl, rfl, rfl, rfl, trivial⟩ (by decide) rfl st) ?_
  rintro ⟨i22, r23⟩ ⟨h28, h29, h27⟩
  try dsimp only at h28 h29 h27
  refine GL.weak (env' := [(0, v0), (3, v4), (7, .int .i64 ((x0).length : Int)), (8, .int .i64 (i22 : Int))]) (L' := [imm (TR.sl (TR.pair TR.str (TR.pair TR.int TR.int))) v0 x0, obox 59 (TR.pair TR.str (TR.pair TR.int TR.int)) v4 x1]) (fun _ _ st => st) ?_
  refine GL.seq ?_
  refine GL.region ?_
  refine RL.binI (v := .bool (decide ((i22 : Int) < ((x0).length : Int)))) rfl rfl rfl rfl rfl ?_
  refine RL.finG ?_
  refine GL.seq ?_
  refine GL.cond rfl (fun b30 => ?_) (fun b30 => ?_)
  ·have h31 : i22 < (x0).length := by have := of_decide_eq_true b30; omega
   obtain ⟨y32, r34, hr, e33, h35⟩ := drop_cons h29 rfl h31
   subst hr
   obtain ⟨z24, h25, h26⟩ := rangeL_some h27
   unfold slices_Index_api_Account_api_Account_b1 at h25
   try dsimp only at h25
   refine GL.skip ?_
   refine GL.seq ?_
   refine GL.block ?_
   refine GL.seq ?_
   refine GL.region ?_
   refine RL.mv rfl rfl rfl ?_
   refine RL.asg rfl rfl rfl ?_
   refine RL.finG ?_
   refine GL.seq ?_
   refine GL.regionQ rfl rfl (by kernel_rfl) ?_
   refine RL.ldP (off := 0) (r := (TR.pair TR.str (TR.pair TR.int TR.int))) (e' := x1) 1 Try_ln59 rfl rfl (Or.inr ⟨rfl, rfl⟩) rfl PtOf.obox Part.self ?_
   intro v38
   refine RL.mv rfl rfl rfl ?_
   refine RL.mv rfl rfl rfl ?_
   refine RL.idxS (sz := 3) 0 Try.underlying51 Try_ln59 rfl rfl rfl rfl rfl SlOf.imm (by omega) (by omega) ?_
   refine RL.ldS (i := i22) (r := (TR.pair TR.str (TR.pair TR.int TR.int))) (e' := y32) 0 Try_ln59 rfl rfl rfl rfl SlOf.imm e33 Part.self ?_
   intro v39
   refine RL.reL (L' := [imm (TR.sl (TR.pair TR.str (TR.pair TR.int TR.int))) v0 x0, obox 59 (TR.pair TR.str (TR.pair TR.int TR.int)) v4 x1, imm (TR.pair TR.str (TR.pair TR.int TR.int)) v38 x1, imm (TR.pair TR.str (TR.pair TR.int TR.int)) v39 y32]) rfl ?_
   refine RL.eqG (t := (TR.pair TR.str (TR.pair TR.int TR.int))) (e := x1) (e' := y32) rfl Try_eq59 (by decide) Try.eqGuardType59 rfl rfl rfl rfl (VR.item 2 rfl) (VR.item 3 rfl) ?_
   refine RL.finQG ?_
   refine GL.cond rfl (fun b40 => ?_) (fun b40 => ?_)
   ·replace h25 := ite_t b40 h25
    refine GL.seq ?_
    refine GL.region ?_
    refine RL.mv rfl rfl rfl ?_
    refine RL.asg rfl rfl rfl ?_
    refine RL.finG ?_
    cases h25
    replace h26 : some (Fl.rt _) = some y15 := h26
    cases h26
    have hh := h20 _ h18
    subst hh
    exact GL.ret (Gx.ret (v := .int .i64 (i22 : Int)) (res1 rfl rfl) (fun a w st => st.toPostV))
   replace h25 := ite_f b40 h25
   refine GL.skip ?_
   refine GL.nilB ?_
   refine GL.region ?_
   refine RL.binI (v := .int .i64 ((i22 + 1 : Nat) : Int)) rfl rfl rfl rfl (binI_succ i22 (by omega)) ?_
   refine RL.mv rfl rfl rfl ?_
   refine RL.fin ?_
   cases h25
   exact fun a w st => lop_intro (i22 + 1, r34) ⟨by show i22 + 1 + r34.length = (x0).length; simp only [List.length_cons] at h28; omega, h35, h26⟩ (by simp) (St.cut [0, 1] ⟨rfl, rfl, rfl, rfl, trivial⟩ (by decide) rfl st)
  have h31 : ¬ i22 < (x0).length := by have := of_decide_eq_false b30; omega
  obtain rfl : r23 = [] := by rw [← h29]; exact List.drop_of_length_le (by omega)
  replace h27 : some (Fl.nx _) = some y15 := h27
  cases h27
  exact GL.exit (fun a w st => mid_intro () h18 (St.cut [] trivial (by decide) rfl st))
 rintro ⟨⟩ h41
 have h42 := h19 _ h41
 try dsimp only at h42
 refine GL.weak (env' := []) (L' := []) (fun _ _ st => st) ?_
 refine GL.seq ?_
 refine GL.region ?_
 refine RL.asg rfl rfl rfl ?_
 refine RL.finG ?_
 have h42 := Option.some.inj h42
 subst h42
 exact GL.ret (Gx.ret (v := .int .i64 (-1 : Int)) (res1 rfl rfl) (fun a w st => st.toPostV))

set_option maxHeartbeats 4000000 in
theorem slices_Contains_api_Account_api_Account_c (S : Hp) (w : World) (hS : S.sub w) (v0 : Value) (x0 : (List ((List UInt8) × (Int × Int)))) (k0 : ((TR.sl (TR.pair TR.str (TR.pair TR.int TR.int)))).vrep S v0 x0) (v1 : Value) (x1 : ((List UInt8) × (Int × Int))) (k1 : ((TR.pair TR.str (TR.pair TR.int TR.int))).vrep S v1 x1) (res : Bool) (hm : slices_Contains_api_Account_api_Account_m x0 x1 = some res) : Calls Try.prog 42 #[v0, v1] w (PostV w (.bool res)) := by
 refine calls_enter 9 Try.func42 Try.ntmps42 rfl S false [(0, v0), (1, v1)] [imm (TR.sl (TR.pair TR.str (TR.pair TR.int TR.int))) v0 x0, imm (TR.pair TR.str (TR.pair TR.int TR.int)) v1 x1] rfl ⟨rfl, ⟨rfl, trivial⟩⟩ hS ⟨k0, ⟨k1, trivial⟩⟩ ?_
 unfold slices_Contains_api_Account_api_Account_m at hm
 refine GL.seq ?_
 refine GL.region ?_
 refine RL.box (t := (TR.pair TR.str (TR.pair TR.int TR.int))) (e := x1) rfl rfl rfl rfl (VR.item 1 rfl) ?_
 intro v4
 refine RL.asg rfl rfl rfl ?_
 refine RL.finG ?_
 refine GL.seq ?_
 refine GL.region ?_
 refine RL.mv rfl rfl rfl ?_
 refine RL.ldP (off := 0) (r := (TR.pair TR.str (TR.pair TR.int TR.int))) (e' := x1) 2 Try_ln59 rfl rfl (Or.inr ⟨rfl, rfl⟩) rfl PtOf.obox Part.self ?_
 intro v8
 refine RL.reL (L' := [imm (TR.sl (TR.pair TR.str (TR.pair TR.int TR.int))) v0 x0, imm (TR.pair TR.str (TR.pair TR.int TR.int)) v1 x1, obox 59 (TR.pair TR.str (TR.pair TR.int TR.int)) v4 x1, imm (TR.pair TR.str (TR.pair TR.int TR.int)) v8 x1]) rfl ?_
 obtain ⟨y9, e10, hm⟩ := bind_some hm
 refine RL.callV (v := .int .i64 y9) (vs := [v0, v8]) Try_fit102 rfl (Or.inl rfl) rfl rfl rfl rfl (fun U w hU hW hL => slices_Index_api_Account_api_Account_c U w hU _ _ (hL 0 _ _ rfl Seen.imm) _ _ (hL 3 _ _ rfl Seen.imm) _ e10) ?_
 refine RL.binI (v := .bool (decide (y9 ≥ (0 : Int)))) rfl rfl rfl rfl rfl ?_
 refine RL.asg rfl rfl rfl ?_
 refine RL.finG ?_
 have hm := Option.some.inj hm
 subst hm
 exact GL.ret (Gx.ret (v := .bool (decide (y9 ≥ (0 : Int)))) (res1 rfl rfl) (fun a w st => st.toPostV))

set_option maxHeartbeats 4000000 in
theorem pk_LedgerKeeps_c (S : Hp) (w : World) (hS : S.sub w) (v0 : Value) (x0 : (List ((List UInt8) × (Int × Int)))) (k0 : ((TR.sl (TR.pair TR.str (TR.pair TR.int TR.int)))).vrep S v0 x0) (v1 : Value) (x1 : ((List UInt8) × ((List UInt8) × (Int × (Int × (Int × Int)))))) (k1 : ((TR.pair TR.str (TR.pair TR.str (TR.pair TR.int (TR.pair TR.int (TR.pair TR.int TR.int)))))).vrep S v1 x1) (x2 : (List UInt8)) (x3 : (List UInt8)) (x4 : Int) (res : Bool) (hm : pk_LedgerKeeps_m x0 x1 x2 x3 x4 = some res) : Calls Try.prog 7 #[v0, v1, .string ⟨(x2 : List UInt8).toArray⟩, .string ⟨(x3 : List UInt8).toArray⟩, .int .i64 x4] w (PostV w (.bool res)) := by
 refine calls_enter 127 Try.func7 Try.ntmps7 rfl S false [(0, v0), (1, v1), (2, .string ⟨(x2 : List UInt8).toArray⟩), (3, .string ⟨(x3 : List UInt8).toArray⟩), (4, .int .i64 x4)] [imm (TR.sl (TR.pair TR.str (TR.pair TR.int TR.int))) v0 x0, imm (TR.pair TR.str (TR.pair TR.str (TR.pair TR.int (TR.pair TR.int (TR.pair TR.int TR.int))))) v1 x1] rfl ⟨rfl, ⟨rfl, ⟨rfl, ⟨rfl, ⟨rfl, trivial⟩⟩⟩⟩⟩ hS ⟨k0, ⟨k1, trivial⟩⟩ ?_
 unfold pk_LedgerKeeps_m at hm
 refine GL.seq ?_
 refine GL.region ?_
 refine RL.box (t := (TR.pair TR.str (TR.pair TR.str (TR.pair TR.int (TR.pair TR.int (TR.pair TR.int TR.int)))))) (e := x1) rfl rfl rfl rfl (VR.item 1 rfl) ?_
 intro v7
 refine RL.asg rfl rfl rfl ?_
 refine RL.finG ?_
 refine GL.seq ?_
 refine GL.seq ?_
 refine GL.region ?_
 obtain ⟨y10, e11, hm⟩ := bind_some hm
 refine RL.callV (v := .bool y10) (vs := []) Try_fit36 rfl (Or.inl rfl) rfl rfl rfl rfl (fun U w hU hW hL => pk_ledgers_c U w hU  _ e11) ?_
 refine RL.notB rfl rfl rfl ?_
 refine RL.finG ?_
 refine GL.cond rfl (fun b12 => ?_) (fun b12 => ?_)
 ·replace hm := ite_t b12 hm
  refine GL.seq ?_
  refine GL.region ?_
  refine RL.asg rfl rfl rfl ?_
  refine RL.finG ?_
  have hm := Option.some.inj hm
  subst hm
  exact GL.ret (Gx.ret (v := .bool false) (res1 rfl rfl) (fun a w st => st.toPostV))
 replace hm := ite_f b12 hm
 refine GL.skip ?_
 refine GL.seq ?_
 refine GL.region ?_
 refine RL.mv rfl rfl rfl ?_
 refine RL.ldP (off := 0) (r := (TR.pair TR.str (TR.pair TR.str (TR.pair TR.int (TR.pair TR.int (TR.pair TR.int TR.int)))))) (e' := x1) 2 Try_ln53 rfl rfl (Or.inr ⟨rfl, rfl⟩) rfl PtOf.obox Part.self ?_
 intro v17
 refine RL.reL (L' := [imm (TR.sl (TR.pair TR.str (TR.pair TR.int TR.int))) v0 x0, imm (TR.pair TR.str (TR.pair TR.str (TR.pair TR.int (TR.pair TR.int (TR.pair TR.int TR.int))))) v1 x1, obox 53 (TR.pair TR.str (TR.pair TR.str (TR.pair TR.int (TR.pair TR.int (TR.pair TR.int TR.int))))) v7 x1, imm (TR.pair TR.str (TR.pair TR.str (TR.pair TR.int (TR.pair TR.int (TR.pair TR.int TR.int))))) v17 x1]) rfl ?_
 refine RL.mv rfl rfl rfl ?_
 obtain ⟨y18, e19, hm⟩ := bind_some hm
 refine RL.call (vs := [v0, v17, .string ⟨(x2 : List UInt8).toArray⟩]) Try_fit37 rfl rfl rfl rfl rfl (fun S f w hS hW hi => ledger_Take_c S w hS _ _ (hi 0 _ rfl) _ _ (hi 3 _ rfl) x2 _ e19) ?_
 intro v20
 refine RL.mv rfl rfl rfl ?_
 refine RL.ext rfl rfl rfl rfl ?_
 refine RL.ext rfl rfl rfl rfl ?_
 refine RL.asg rfl rfl rfl ?_
 refine RL.asg rfl rfl rfl ?_
 refine RL.finG ?_
 refine GL.seq ?_
 refine GL.seq ?_
 refine GL.region ?_
 refine RL.mv rfl rfl rfl ?_
 refine RL.binI (v := .bool (y18.2 == (0 : Int))) rfl rfl rfl rfl rfl ?_
 refine RL.finG ?_
 obtain ⟨y184, K185, h186, h187, h188, h189, h190⟩ := bindR_K hm
 refine GL.join (ι := Unit) (fun (p : Unit) => [(0, v0), (3, .string ⟨(x3 : List UInt8).toArray⟩), (4, .int .i64 x4)]) (fun (p : Unit) => [imm (TR.sl (TR.pair TR.str (TR.pair TR.int TR.int))) v0 x0]) (fun (p : Unit) => K185 (.nx ())) ?_ ?_
 ·skip
  refine GL.cond rfl (fun b191 => ?_) (fun b191 => ?_)
  ·replace h186 := ite_t b191 h186
   refine GL.seq ?_
   refine GL.seq ?_
   obtain ⟨y209, K210, h211, h212, h213, h214, h215⟩ := bindF_K h186
   refine GL.join (ι := Bool) (fun (p : Bool) => [(0, v0), (3, .string ⟨(x3 : List UInt8).toArray⟩), (4, .int .i64 x4), (11, v20), (43, .bool p)]) (fun (p : Bool) => [imm (TR.sl (TR.pair TR.str (TR.pair TR.int TR.int))) v0 x0, own 59 (TR.pair TR.str (TR.pair TR.int TR.int)) v20 y18.1]) (fun (p : Bool) => K210 (.nx p)) ?_ ?_
   ·skip
    refine GL.region ?_
    refine RL.mv rfl rfl rfl ?_
    obtain ⟨y216, e217, h211⟩ := bind_some h211
    refine RL.callV (v := .int .i64 y216) (vs := [v20]) Try_fit39 rfl (Or.inl rfl) rfl rfl rfl rfl (fun U w hU hW hL => pk_money_c U w hU _ _ (hL 4 _ _ rfl Seen.own) _ e217) ?_
    refine RL.mv rfl rfl rfl ?_
    obtain ⟨y218, e219, h211⟩ := bind_some h211
    refine RL.callV (v := .int .i64 y218) (vs := [v0]) Try_fit39 rfl (Or.inl rfl) rfl rfl rfl rfl (fun U w hU hW hL => pk_money_c U w hU _ _ (hL 0 _ _ rfl Seen.imm) _ e219) ?_
    refine RL.binI (v := .bool (y216 != y218)) rfl rfl rfl rfl rfl ?_
    refine RL.mv rfl rfl rfl ?_
    refine RL.split (t := 32) rfl (fun b220 => ?_) (fun b220 => ?_)
    ·replace h211 := ite_t b220 h211
     refine RL.skip rfl rfl ?_
     refine RL.skip rfl rfl ?_
     refine RL.skip rfl rfl ?_
     refine RL.skip rfl rfl ?_
     refine RL.skip rfl rfl ?_
     refine RL.pickT rfl rfl rfl rfl ?_
     refine RL.mv rfl rfl rfl ?_
     refine RL.skip rfl rfl ?_
     refine RL.skip rfl rfl ?_
     refine RL.skip rfl rfl ?_
     refine RL.pickT rfl rfl rfl rfl ?_
     refine RL.fin ?_
     cases h211
     exact fun a w st => mid_intro true h212 (St.cut [0, 4] ⟨rfl, rfl, rfl, rfl, rfl, trivial⟩ (by decide) rfl st)
    replace h211 := ite_f b220 h211
    refine RL.mv rfl rfl rfl ?_
    refine RL.lenS 4 Try.underlying51 rfl rfl rfl rfl SlOf.own ?_
    refine RL.mv rfl rfl rfl ?_
    refine RL.lenS 0 Try.underlying51 rfl rfl rfl rfl SlOf.imm ?_
    refine RL.binI (v := .bool (((y18.1).length : Int) != ((x0).length : Int))) rfl rfl rfl rfl rfl ?_
    refine RL.pickF rfl rfl rfl rfl ?_
    refine RL.mv rfl rfl rfl ?_
    refine RL.split (t := 39) rfl (fun b221 => ?_) (fun b221 => ?_)
    ·replace h211 := ite_t b221 h211
     refine RL.skip rfl rfl ?_
     refine RL.skip rfl rfl ?_
     refine RL.skip rfl rfl ?_
     refine RL.pickT rfl rfl rfl rfl ?_
     refine RL.fin ?_
     cases h211
     exact fun a w st => mid_intro true h212 (St.cut [0, 4] ⟨rfl, rfl, rfl, rfl, rfl, trivial⟩ (by decide) rfl st)
    replace h211 := ite_f b221 h211
    refine RL.mv rfl rfl rfl ?_
    obtain ⟨y222, e223, h211⟩ := bind_some h211
    refine RL.callV (v := .int .i64 y222) (vs := [v20]) Try_fit40 rfl (Or.inl rfl) rfl rfl rfl rfl (fun U w hU hW hL => ledger_Check_c U w hU _ _ (hL 4 _ _ rfl Seen.own) _ e223) ?_
    refine RL.binI (v := .bool (y222 != (0 : Int))) rfl rfl rfl rfl rfl ?_
    refine RL.pickF rfl rfl rfl rfl ?_
    refine RL.fin ?_
    cases h211
    exact fun a w st => mid_intro (y222 != (0 : Int)) h212 (St.cut [0, 4] ⟨rfl, rfl, rfl, rfl, rfl, trivial⟩ (by decide) rfl st)
   rintro x208 h224
   have h225 := h213 _ h224
   try dsimp only at h225
   refine GL.weak (env' := [(0, v0), (3, .string ⟨(x3 : List UInt8).toArray⟩), (4, .int .i64 x4), (11, v20), (43, .bool x208)]) (L' := [imm (TR.sl (TR.pair TR.str (TR.pair TR.int TR.int))) v0 x0, own 59 (TR.pair TR.str (TR.pair TR.int TR.int)) v20 y18.1]) (fun _ _ st => st) ?_
   refine GL.cond rfl (fun b226 => ?_) (fun b226 => ?_)
   ·replace h225 := ite_t b226 h225
    refine GL.seq ?_
    refine GL.region ?_
    refine RL.asg rfl rfl rfl ?_
    refine RL.finG ?_
    cases h225
    have hh := h189 _ h187
    subst hh
    exact GL.ret (Gx.ret (v := .bool false) (res1 rfl rfl) (fun a w st => st.toPostV))
   replace h225 := ite_f b226 h225
   refine GL.skip ?_
   refine GL.seq ?_
   refine GL.region ?_
   refine RL.mv rfl rfl rfl ?_
   refine RL.lenS 1 Try.underlying51 rfl rfl rfl rfl SlOf.own ?_
   refine RL.mv rfl rfl rfl ?_
   refine RL.finG ?_
   refine GL.lenOwn 1 rfl (fun n280 => ?_)
   obtain ⟨y281, K282, h283, h284, h285, h286, h287⟩ := bindF_K h225
   refine GL.join (ι := Unit) (fun (p : Unit) => [(0, v0), (3, .string ⟨(x3 : List UInt8).toArray⟩), (4, .int .i64 x4)]) (fun (p : Unit) => [imm (TR.sl (TR.pair TR.str (TR.pair TR.int TR.int))) v0 x0]) (fun (p : Unit) => K282 (.nx ())) ?_ ?_
   ·refine GL.block ?_
    refine GL.loop (ι := Nat × Nat) (fun (p : Nat × Nat) => [(0, v0), (3, .string ⟨(x3 : List UInt8).toArray⟩), (4, .int .i64 x4), (11, v20), (45, .int .i64 ((y18.1).length : Int)), (46, .int .i64 (p.1 : Int))]) (fun (p : Nat × Nat) => [imm (TR.sl (TR.pair TR.str (TR.pair TR.int TR.int))) v0 x0, own 59 (TR.pair TR.str (TR.pair TR.int TR.int)) v20 y18.1]) (fun (p : Nat × Nat) => p.1 + p.2 = (y18.1).length ∧ rangeN (pk_LedgerKeeps_b1 y18 x0) p.2 p.1 () = some y281) (fun (p : Nat × Nat) => p.2) (0, (y18.1).length) ⟨by simp, h283⟩ (fun a w st => St.cut [0, 1] ⟨rfl, rfl, rfl, rfl, rfl, rfl, trivial⟩ (by decide) rfl st) ?_
    rintro ⟨i288, r289⟩ ⟨h294, h293⟩
    try dsimp only at h294 h293
    refine GL.weak (env' := [(0, v0), (3, .string ⟨(x3 : List UInt8).toArray⟩), (4, .int .i64 x4), (11, v20), (45, .int .i64 ((y18.1).length : Int)), (46, .int .i64 (i288 : Int))]) (L' := [imm (TR.sl (TR.pair TR.str (TR.pair TR.int TR.int))) v0 x0, own 59 (TR.pair TR.str (TR.pair TR.int TR.int)) v20 y18.1]) (fun _ _ st => st) ?_
    refine GL.seq ?_
    refine GL.region ?_
    refine RL.binI (v := .bool (decide ((i288 : Int) < ((y18.1).length : Int)))) rfl rfl rfl rfl rfl ?_
    refine RL.finG ?_
    refine GL.seq ?_
    refine GL.cond rfl (fun b296 => ?_) (fun b296 => ?_)
    ·have h297 : i288 < (y18.1).length := by have := of_decide_eq_true b296; omega
     obtain ⟨r298, hr⟩ : ∃ m, r289 = m + 1 := ⟨r289 - 1, by omega⟩
     subst hr
     obtain ⟨z290, h291, h292⟩ := rangeN_some h293
     unfold pk_LedgerKeeps_b1 at h291
     try dsimp only at h291
     refine GL.skip ?_
     refine GL.seq ?_
     refine GL.block ?_
     refine GL.seq ?_
     refine GL.region ?_
     refine RL.mv rfl rfl rfl ?_
     refine RL.asg rfl rfl rfl ?_
     refine RL.finG ?_
     refine GL.seq ?_
     obtain ⟨y328, K329, h330, h331, h332, h333, h334⟩ := bindF_K h291
     refine GL.join (ι := Bool) (fun (p : Bool) => [(0, v0), (3, .string ⟨(x3 : List UInt8).toArray⟩), (4, .int .i64 x4), (11, v20), (45, .int .i64 ((y18.1).length : Int)), (46, .int .i64 (i288 : Int)), (86, .bool p)]) (fun (p : Bool) => [imm (TR.sl (TR.pair TR.str (TR.pair TR.int TR.int))) v0 x0, own 59 (TR.pair TR.str (TR.pair TR.int TR.int)) v20 y18.1]) (fun (p : Bool) => K329 (.nx p)) ?_ ?_
     ·skip
      refine GL.regionQ rfl rfl (by kernel_rfl) ?_
      refine RL.mv rfl rfl rfl ?_
      refine RL.mv rfl rfl rfl ?_
      obtain ⟨y335, e336, h330⟩ := bind_some h330
      refine RL.idxS (sz := 3) 1 Try.underlying51 Try_ln59 rfl rfl rfl rfl rfl SlOf.own (idx_some e336).1 (idx_some e336).2.1 ?_
      refine RL.fadrS (off := (i288 * 3)) (fo := 0) 1 Try_fld59_0 rfl rfl rfl SlOf.own (by have := (List.getElem?_eq_some_iff.1 (idx_some e336).2.2).1; omega) rfl ?_
      refine RL.ldSx (i := i288) (e' := y335.1) 1 Ex.str Try_ln9 rfl rfl rfl rfl SlOf.own (idx_some e336).2.2 (Part.fst Part.self) ?_
      refine RL.mv rfl rfl rfl ?_
      refine RL.mv rfl rfl rfl ?_
      obtain ⟨y337, e338, h330⟩ := bind_some h330
      refine RL.idxS (sz := 3) 0 Try.underlying51 Try_ln59 rfl rfl rfl rfl rfl SlOf.imm (idx_some e338).1 (idx_some e338).2.1 ?_
      refine RL.fadrS (off := (i288 * 3)) (fo := 0) 0 Try_fld59_0 rfl rfl rfl SlOf.imm (by have := (List.getElem?_eq_some_iff.1 (idx_some e338).2.2).1; omega) rfl ?_
      refine RL.ldSx (i := i288) (e' := y337.1) 0 Ex.str Try_ln9 rfl rfl rfl rfl SlOf.imm (idx_some e338).2.2 (Part.fst Part.self) ?_
      refine RL.binS (v := .bool (!(y335.1 == y337.1))) rfl rfl rfl rfl rfl ?_
      refine RL.mv rfl rfl rfl ?_
      refine RL.split (t := 60) rfl (fun b339 => ?_) (fun b339 => ?_)
      ·replace h330 := ite_t b339 h330
       refine RL.skip rfl rfl ?_
       refine RL.skip rfl rfl ?_
       refine RL.skip rfl rfl ?_
       refine RL.skip rfl rfl ?_
       refine RL.skip rfl rfl ?_
       refine RL.skip rfl rfl ?_
       refine RL.skip rfl rfl ?_
       refine RL.skip rfl rfl ?_
       refine RL.skip rfl rfl ?_
       refine RL.skip rfl rfl ?_
       refine RL.skip rfl rfl ?_
       refine RL.pickT rfl rfl rfl rfl ?_
       refine RL.mv rfl rfl rfl ?_
       refine RL.skip rfl rfl ?_
       refine RL.skip rfl rfl ?_
       refine RL.skip rfl rfl ?_
       refine RL.skip rfl rfl ?_
       refine RL.skip rfl rfl ?_
       refine RL.skip rfl rfl ?_
       refine RL.skip rfl rfl ?_
       refine RL.skip rfl rfl ?_
       refine RL.skip rfl rfl ?_
       refine RL.skip rfl rfl ?_
       refine RL.skip rfl rfl ?_
       refine RL.skip rfl rfl ?_
       refine RL.pickT rfl rfl rfl rfl ?_
       refine RL.finQ ?_
       cases h330
       exact fun a w st => mid_intro true h331 (St.cut [0, 1] ⟨rfl, rfl, rfl, rfl, rfl, rfl, rfl, trivial⟩ (by decide) rfl st)
      replace h330 := ite_f b339 h330
      refine RL.mv rfl rfl rfl ?_
      refine RL.mv rfl rfl rfl ?_
      obtain ⟨y340, e341, h330⟩ := bind_some h330
      refine RL.idxS (sz := 3) 1 Try.underlying51 Try_ln59 rfl rfl rfl rfl rfl SlOf.own (idx_some e341).1 (idx_some e341).2.1 ?_
      refine RL.fadrS (off := (i288 * 3)) (fo := 2) 1 Try_fld59_2 rfl rfl rfl SlOf.own (by have := (List.getElem?_eq_some_iff.1 (idx_some e341).2.2).1; omega) rfl ?_
      refine RL.ldSx (i := i288) (e' := y340.2.2) 1 Ex.ik Try_ln3 rfl rfl rfl rfl SlOf.own (idx_some e341).2.2 (Part.snd (Part.snd Part.self)) ?_
      refine RL.mv rfl rfl rfl ?_
      refine RL.mv rfl rfl rfl ?_
      obtain ⟨y342, e343, h330⟩ := bind_some h330
      refine RL.idxS (sz := 3) 0 Try.underlying51 Try_ln59 rfl rfl rfl rfl rfl SlOf.imm (idx_some e343).1 (idx_some e343).2.1 ?_
      refine RL.fadrS (off := (i288 * 3)) (fo := 2) 0 Try_fld59_2 rfl rfl rfl SlOf.imm (by have := (List.getElem?_eq_some_iff.1 (idx_some e343).2.2).1; omega) rfl ?_
      refine RL.ldSx (i := i288) (e' := y342.2.2) 0 Ex.ik Try_ln3 rfl rfl rfl rfl SlOf.imm (idx_some e343).2.2 (Part.snd (Part.snd Part.self)) ?_
      refine RL.binI (v := .bool (decide (y340.2.2 < y342.2.2))) rfl rfl rfl rfl rfl ?_
      refine RL.pickF rfl rfl rfl rfl ?_
      refine RL.mv rfl rfl rfl ?_
      refine RL.split (t := 73) rfl (fun b344 => ?_) (fun b344 => ?_)
      ·replace h330 := ite_t b344 h330
       refine RL.skip rfl rfl ?_
       refine RL.skip rfl rfl ?_
       refine RL.skip rfl rfl ?_
       refine RL.skip rfl rfl ?_
       refine RL.skip rfl rfl ?_
       refine RL.skip rfl rfl ?_
       refine RL.skip rfl rfl ?_
       refine RL.skip rfl rfl ?_
       refine RL.skip rfl rfl ?_
       refine RL.skip rfl rfl ?_
       refine RL.skip rfl rfl ?_
       refine RL.skip rfl rfl ?_
       refine RL.pickT rfl rfl rfl rfl ?_
       refine RL.finQ ?_
       cases h330
       exact fun a w st => mid_intro true h331 (St.cut [0, 1] ⟨rfl, rfl, rfl, rfl, rfl, rfl, rfl, trivial⟩ (by decide) rfl st)
      replace h330 := ite_f b344 h330
      refine RL.mv rfl rfl rfl ?_
      refine RL.mv rfl rfl rfl ?_
      obtain ⟨y345, e346, h330⟩ := bind_some h330
      refine RL.idxS (sz := 3) 1 Try.underlying51 Try_ln59 rfl rfl rfl rfl rfl SlOf.own (idx_some e346).1 (idx_some e346).2.1 ?_
      refine RL.fadrS (off := (i288 * 3)) (fo := 2) 1 Try_fld59_2 rfl rfl rfl SlOf.own (by have := (List.getElem?_eq_some_iff.1 (idx_some e346).2.2).1; omega) rfl ?_
      refine RL.ldSx (i := i288) (e' := y345.2.2) 1 Ex.ik Try_ln3 rfl rfl rfl rfl SlOf.own (idx_some e346).2.2 (Part.snd (Part.snd Part.self)) ?_
      refine RL.mv rfl rfl rfl ?_
      refine RL.mv rfl rfl rfl ?_
      obtain ⟨y347, e348, h330⟩ := bind_some h330
      refine RL.idxS (sz := 3) 0 Try.underlying51 Try_ln59 rfl rfl rfl rfl rfl SlOf.imm (idx_some e348).1 (idx_some e348).2.1 ?_
      refine RL.fadrS (off := (i288 * 3)) (fo := 2) 0 Try_fld59_2 rfl rfl rfl SlOf.imm (by have := (List.getElem?_eq_some_iff.1 (idx_some e348).2.2).1; omega) rfl ?_
      refine RL.ldSx (i := i288) (e' := y347.2.2) 0 Ex.ik Try_ln3 rfl rfl rfl rfl SlOf.imm (idx_some e348).2.2 (Part.snd (Part.snd Part.self)) ?_
      refine RL.binI (v := .int .i64 (wadd y347.2.2 (1 : Int))) rfl rfl rfl rfl rfl ?_
      refine RL.binI (v := .bool (decide (y345.2.2 > (wadd y347.2.2 (1 : Int))))) rfl rfl rfl rfl rfl ?_
      refine RL.pickF rfl rfl rfl rfl ?_
      refine RL.finQ ?_
      cases h330
      exact fun a w st => mid_intro (decide (y345.2.2 > (wadd y347.2.2 (1 : Int)))) h331 (St.cut [0, 1] ⟨rfl, rfl, rfl, rfl, rfl, rfl, rfl, trivial⟩ (by decide) rfl st)
     rintro x327 h349
     have h350 := h332 _ h349
     try dsimp only at h350
     refine GL.weak (env' := [(0, v0), (3, .string ⟨(x3 : List UInt8).toArray⟩), (4, .int .i64 x4), (11, v20), (45, .int .i64 ((y18.1).length : Int)), (46, .int .i64 (i288 : Int)), (86, .bool x327)]) (L' := [imm (TR.sl (TR.pair TR.str (TR.pair TR.int TR.int))) v0 x0, own 59 (TR.pair TR.str (TR.pair TR.int TR.int)) v20 y18.1]) (fun _ _ st => st) ?_
     refine GL.cond rfl (fun b351 => ?_) (fun b351 => ?_)
     ·replace h350 := ite_t b351 h350
      refine GL.seq ?_
      refine GL.region ?_
      refine RL.asg rfl rfl rfl ?_
      refine RL.finG ?_
      cases h350
      replace h292 : some (Fl.rt _) = some y281 := h292
      cases h292
      have hh := h286 _ h284
      subst hh
      have hh := h189 _ h187
      subst hh
      exact GL.ret (Gx.ret (v := .bool false) (res1 rfl rfl) (fun a w st => st.toPostV))
     replace h350 := ite_f b351 h350
     refine GL.skip ?_
     refine GL.nilB ?_
     refine GL.region ?_
     refine RL.binI (v := .int .i64 ((i288 + 1 : Nat) : Int)) rfl rfl rfl rfl (binI_succ i288 (by omega)) ?_
     refine RL.mv rfl rfl rfl ?_
     refine RL.fin ?_
     cases h350
     exact fun a w st => lop_intro (i288 + 1, r298) ⟨by show i288 + 1 + r298 = (y18.1).length; omega, h292⟩ (by simp) (St.cut [0, 1] ⟨rfl, rfl, rfl, rfl, rfl, rfl, trivial⟩ (by decide) rfl st)
    have h297 : ¬ i288 < (y18.1).length := by have := of_decide_eq_false b296; omega
    obtain rfl : r289 = 0 := by omega
    replace h293 : some (Fl.nx _) = some y281 := h293
    cases h293
    exact GL.exit (fun a w st => mid_intro () h284 (St.cut [0] ⟨rfl, rfl, rfl, trivial⟩ (by decide) rfl st))
   rintro ⟨⟩ h352
   have h353 := h285 _ h352
   try dsimp only at h353
   refine GL.weak (env' := [(0, v0), (3, .string ⟨(x3 : List UInt8).toArray⟩), (4, .int .i64 x4)]) (L' := [imm (TR.sl (TR.pair TR.str (TR.pair TR.int TR.int))) v0 x0]) (fun _ _ st => st) ?_
   cases h353
   exact fun a w st => mid_intro () h187 (St.cut [0] ⟨rfl, rfl, rfl, trivial⟩ (by decide) rfl st)
  replace h186 := ite_f b191 h186
  refine GL.skip ?_
  cases h186
  exact fun a w st => mid_intro () h187 (St.cut [0] ⟨rfl, rfl, rfl, trivial⟩ (by decide) rfl st)
 rintro ⟨⟩ h354
 have h355 := h188 _ h354
 try dsimp only at h355
 refine GL.weak (env' := [(0, v0), (3, .string ⟨(x3 : List UInt8).toArray⟩), (4, .int .i64 x4)]) (L' := [imm (TR.sl (TR.pair TR.str (TR.pair TR.int TR.int))) v0 x0]) (fun _ _ st => st) ?_
 refine GL.seq ?_
 refine GL.region ?_
 refine RL.mv rfl rfl rfl ?_
 refine RL.mv rfl rfl rfl ?_
 refine RL.mv rfl rfl rfl ?_
 obtain ⟨y359, e360, h355⟩ := bind_some h355
 refine RL.call (vs := [v0, .string ⟨(x3 : List UInt8).toArray⟩, .int .i64 x4]) Try_fit41 rfl rfl rfl rfl rfl (fun S f w hS hW hi => ledger_Open_c S w hS _ _ (hi 0 _ rfl) x3 x4 _ e360) ?_
 intro v361
 refine RL.mv rfl rfl rfl ?_
 refine RL.ext rfl rfl rfl rfl ?_
 refine RL.ext rfl rfl rfl rfl ?_
 refine RL.asg rfl rfl rfl ?_
 refine RL.asg rfl rfl rfl ?_
 refine RL.finG ?_
 refine GL.seq ?_
 refine GL.seq ?_
 refine GL.region ?_
 refine RL.mv rfl rfl rfl ?_
 refine RL.binI (v := .bool (y359.2 != (0 : Int))) rfl rfl rfl rfl rfl ?_
 refine RL.finG ?_
 refine GL.cond rfl (fun b362 => ?_) (fun b362 => ?_)
 ·replace h355 := ite_t b362 h355
  refine GL.seq ?_
  refine GL.region ?_
  refine RL.mv rfl rfl rfl ?_
  refine RL.lenS 1 Try.underlying51 rfl rfl rfl rfl SlOf.own ?_
  refine RL.binI (v := .bool (((y359.1).length : Int) == (0 : Int))) rfl rfl rfl rfl rfl ?_
  refine RL.asg rfl rfl rfl ?_
  refine RL.finG ?_
  have h355 := Option.some.inj h355
  subst h355
  exact GL.ret (Gx.ret (v := .bool (((y359.1).length : Int) == (0 : Int))) (res1 rfl rfl) (fun a w st => st.toPostV))
 replace h355 := ite_f b362 h355
 refine GL.skip ?_
 refine GL.seq ?_
 obtain ⟨y388, K389, h390, h391, h392, h393, h394⟩ := bindR_K h355
 refine GL.join (ι := Bool) (fun (p : Bool) => [(10, .bool p)]) (fun (p : Bool) => []) (fun (p : Bool) => K389 (.nx p)) ?_ ?_
 ·skip
  refine GL.region ?_
  refine RL.mv rfl rfl rfl ?_
  obtain ⟨y395, e396, h390⟩ := bind_some h390
  refine RL.callV (v := .int .i64 y395) (vs := [v361]) Try_fit39 rfl (Or.inl rfl) rfl rfl rfl rfl (fun U w hU hW hL => pk_money_c U w hU _ _ (hL 1 _ _ rfl Seen.own) _ e396) ?_
  refine RL.mv rfl rfl rfl ?_
  obtain ⟨y397, e398, h390⟩ := bind_some h390
  refine RL.callV (v := .int .i64 y397) (vs := [v0]) Try_fit39 rfl (Or.inl rfl) rfl rfl rfl rfl (fun U w hU hW hL => pk_money_c U w hU _ _ (hL 0 _ _ rfl Seen.imm) _ e398) ?_
  refine RL.mv rfl rfl rfl ?_
  refine RL.binI (v := .int .i64 (wadd y397 x4)) rfl rfl rfl rfl rfl ?_
  refine RL.binI (v := .bool (y395 == (wadd y397 x4))) rfl rfl rfl rfl rfl ?_
  refine RL.mv rfl rfl rfl ?_
  refine RL.split (t := 107) rfl (fun b399 => ?_) (fun b399 => ?_)
  ·replace h390 := ite_t b399 h390
   refine RL.mv rfl rfl rfl ?_
   refine RL.lenS 1 Try.underlying51 rfl rfl rfl rfl SlOf.own ?_
   refine RL.mv rfl rfl rfl ?_
   refine RL.lenS 0 Try.underlying51 rfl rfl rfl rfl SlOf.imm ?_
   refine RL.binI (v := .int .i64 (wadd ((x0).length : Int) (1 : Int))) rfl rfl rfl rfl rfl ?_
   refine RL.binI (v := .bool (((y359.1).length : Int) == (wadd ((x0).length : Int) (1 : Int)))) rfl rfl rfl rfl rfl ?_
   refine RL.pickT rfl rfl rfl rfl ?_
   refine RL.mv rfl rfl rfl ?_
   refine RL.split (t := 115) rfl (fun b400 => ?_) (fun b400 => ?_)
   ·replace h390 := ite_t b400 h390
    refine RL.mv rfl rfl rfl ?_
    obtain ⟨y401, e402, h390⟩ := bind_some h390
    refine RL.callV (v := .int .i64 y401) (vs := [v361]) Try_fit40 rfl (Or.inl rfl) rfl rfl rfl rfl (fun U w hU hW hL => ledger_Check_c U w hU _ _ (hL 1 _ _ rfl Seen.own) _ e402) ?_
    refine RL.binI (v := .bool (y401 == (0 : Int))) rfl rfl rfl rfl rfl ?_
    refine RL.pickT rfl rfl rfl rfl ?_
    refine RL.mv rfl rfl rfl ?_
    refine RL.split (t := 120) rfl (fun b403 => ?_) (fun b403 => ?_)
    ·replace h390 := ite_t b403 h390
     refine RL.mv rfl rfl rfl ?_
     refine RL.mv rfl rfl rfl ?_
     refine RL.mv rfl rfl rfl ?_
     refine RL.bld (t := (TR.pair TR.str (TR.pair TR.int TR.int))) (d0 := ((x3, x4, (0 : Int)) : ((List UInt8) × (Int × Int)))) (pv := [(0, .string ⟨(x3 : List UInt8).toArray⟩), (1, .int .i64 x4)]) rfl Try_bld59 rfl rfl rfl ⟨⟨_, _, TR.str, x3, rfl, rfl, VR.str⟩, ⟨⟨_, _, TR.int, x4, rfl, rfl, VR.int⟩, trivial⟩⟩ (fun S f hi => by
       obtain ⟨c0, e0, r0⟩ := cells_vrep (t := TR.str) (u := .string ⟨(x3 : List UInt8).toArray⟩) (e := x3) (VR.str S f hi)
       obtain ⟨c1, e1, r1⟩ := cells_vrep (t := TR.int) (u := .int .i64 x4) (e := x4) (VR.int S f hi)
       show TR.rep (TR.pair TR.str (TR.pair TR.int TR.int)) S (List.flatten [(.string ⟨(x3 : List UInt8).toArray⟩ : Value).cells.toList, (.int .i64 x4 : Value).cells.toList, [.int .i64 0]]) _
       simp only [e0, e1,  List.flatten_cons, List.flatten_nil, List.append_nil]
       exact ⟨_, _, rfl, r0, ⟨_, _, rfl, r1, rfl⟩⟩) ?_
     intro v404
     refine RL.reL (L' := [imm (TR.sl (TR.pair TR.str (TR.pair TR.int TR.int))) v0 x0, own 59 (TR.pair TR.str (TR.pair TR.int TR.int)) v361 y359.1, imm (TR.pair TR.str (TR.pair TR.int TR.int)) v404 ((x3, x4, (0 : Int)) : ((List UInt8) × (Int × Int)))]) rfl ?_
     obtain ⟨y405, e406, h390⟩ := bind_some h390
     refine RL.callV (v := .bool y405) (vs := [v361, v404]) Try_fit42 rfl (Or.inl rfl) rfl rfl rfl rfl (fun U w hU hW hL => slices_Contains_api_Account_api_Account_c U w hU _ _ (hL 1 _ _ rfl Seen.own) _ _ (hL 2 _ _ rfl Seen.imm) _ e406) ?_
     refine RL.pickT rfl rfl rfl rfl ?_
     refine RL.asg rfl rfl rfl ?_
     refine RL.fin ?_
     cases h390
     exact fun a w st => mid_intro y405 h391 (St.cut [] ⟨rfl, trivial⟩ (by decide) rfl st)
    replace h390 := ite_f b403 h390
    refine RL.skip rfl rfl ?_
    refine RL.skip rfl rfl ?_
    refine RL.skip rfl rfl ?_
    refine RL.skip rfl rfl ?_
    refine RL.skip rfl rfl ?_
    refine RL.pickF rfl rfl rfl rfl ?_
    refine RL.asg rfl rfl rfl ?_
    refine RL.fin ?_
    cases h390
    exact fun a w st => mid_intro false h391 (St.cut [] ⟨rfl, trivial⟩ (by decide) rfl st)
   replace h390 := ite_f b400 h390
   refine RL.skip rfl rfl ?_
   refine RL.skip rfl rfl ?_
   refine RL.skip rfl rfl ?_
   refine RL.pickF rfl rfl rfl rfl ?_
   refine RL.mv rfl rfl rfl ?_
   refine RL.skip rfl rfl ?_
   refine RL.skip rfl rfl ?_
   refine RL.skip rfl rfl ?_
   refine RL.skip rfl rfl ?_
   refine RL.skip rfl rfl ?_
   refine RL.pickF rfl rfl rfl rfl ?_
   refine RL.asg rfl rfl rfl ?_
   refine RL.fin ?_
   cases h390
   exact fun a w st => mid_intro false h391 (St.cut [] ⟨rfl, trivial⟩ (by decide) rfl st)
  replace h390 := ite_f b399 h390
  refine RL.skip rfl rfl ?_
  refine RL.skip rfl rfl ?_
  refine RL.skip rfl rfl ?_
  refine RL.skip rfl rfl ?_
  refine RL.skip rfl rfl ?_
  refine RL.skip rfl rfl ?_
  refine RL.pickF rfl rfl rfl rfl ?_
  refine RL.mv rfl rfl rfl ?_
  refine RL.skip rfl rfl ?_
  refine RL.skip rfl rfl ?_
  refine RL.skip rfl rfl ?_
  refine RL.pickF rfl rfl rfl rfl ?_
  refine RL.mv rfl rfl rfl ?_
  refine RL.skip rfl rfl ?_
  refine RL.skip rfl rfl ?_
  refine RL.skip rfl rfl ?_
  refine RL.skip rfl rfl ?_
  refine RL.skip rfl rfl ?_
  refine RL.pickF rfl rfl rfl rfl ?_
  refine RL.asg rfl rfl rfl ?_
  refine RL.fin ?_
  cases h390
  exact fun a w st => mid_intro false h391 (St.cut [] ⟨rfl, trivial⟩ (by decide) rfl st)
 rintro x387 h407
 have h408 := h392 _ h407
 try dsimp only at h408
 refine GL.weak (env' := [(10, .bool x387)]) (L' := []) (fun _ _ st => st) ?_
 have h408 := Option.some.inj h408
 subst h408
 exact GL.ret (Gx.ret (v := .bool x387) (res1 rfl rfl) (fun a w st => st.toPostV))
end Go.Wk
