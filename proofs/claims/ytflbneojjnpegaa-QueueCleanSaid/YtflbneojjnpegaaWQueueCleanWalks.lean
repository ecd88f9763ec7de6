/- Each function comes to what its model says; printed by a program of this repository. -/
import Derived.Test.YtflbneojjnpegaaProg
import Derived.Test.YtflbneojjnpegaaWQueueCleanModels
namespace Go.Wk
open Go.Fw Go.Mo Go.Proofs Go.RowKit
set_option linter.all false
set_option maxRecDepth 100000
theorem loopNx {ρ σ β γ : Type} {body : σ → Option (Fl ρ β σ)} {n : Nat} {s : σ} {y : Fl ρ γ β} (h : stepM body n (.nx s) = some y) : loopM body n s = some y := h
theorem Try_info3 : (Try.prog.info? 3).map (fun i => (i.zero, i.size, i.bytes)) = some (some (.int .i64 0), 1, 8) := by kernel_rfl
theorem Try_ln3 : Ln Try.prog 3 1 false := Ln.of Try_info3 Try.underlying3 rfl
theorem Try_lo3 : LnO Try.prog 3 1 [.int .i64 0] := LnO.of Try_info3 rfl rfl (by decide) (by decide)
theorem Try_info5 : (Try.prog.info? 5).map (fun i => (i.zero, i.size, i.bytes)) = some (some (.int .u8 0), 1, 1) := by kernel_rfl
theorem Try_ln5 : Ln Try.prog 5 1 false := Ln.of Try_info5 Try.underlying5 rfl
theorem Try_lo5 : LnO Try.prog 5 1 [.int .u8 0] := LnO.of Try_info5 rfl rfl (by decide) (by decide)
theorem Try_info9 : (Try.prog.info? 9).map (fun i => (i.zero, i.size, i.bytes)) = some (some (.string ⟨#[]⟩), 1, 16) := by kernel_rfl
theorem Try_ln9 : Ln Try.prog 9 1 false := Ln.of Try_info9 Try.underlying9 rfl
theorem Try_lo9 : LnO Try.prog 9 1 [.string ⟨#[]⟩] := LnO.of Try_info9 rfl rfl (by decide) (by decide)
theorem Try_info25 : (Try.prog.info? 25).map (fun i => (i.zero, i.size, i.bytes)) = some (some (.agg #[.string ⟨#[]⟩, .string ⟨#[]⟩, .int .i64 0, .int .i64 0, .int .i64 0, .int .i64 0]), 6, 64) := by kernel_rfl
theorem Try_ln25 : Ln Try.prog 25 6 true := Ln.of Try_info25 Try.underlying25 rfl
theorem Try_lo25 : LnO Try.prog 25 6 [.string ⟨#[]⟩, .string ⟨#[]⟩, .int .i64 0, .int .i64 0, .int .i64 0, .int .i64 0] := LnO.of Try_info25 rfl rfl (by decide) (by decide)
theorem Try_info26 : (Try.prog.info? 26).map (fun i => (i.zero, i.size, i.bytes)) = some (some (.int .i64 0), 1, 8) := by kernel_rfl
theorem Try_ln26 : Ln Try.prog 26 1 false := Ln.of Try_info26 Try.underlying26 rfl
theorem Try_lo26 : LnO Try.prog 26 1 [.int .i64 0] := LnO.of Try_info26 rfl rfl (by decide) (by decide)
theorem Try_info34 : (Try.prog.info? 34).map (fun i => (i.zero, i.size, i.bytes)) = some (some (.slice none 0 0), 1, 24) := by kernel_rfl
theorem Try_ln34 : Ln Try.prog 34 1 false := Ln.of Try_info34 Try.underlying34 rfl
theorem Try_lo34 : LnO Try.prog 34 1 [.slice none 0 0] := LnO.of Try_info34 rfl rfl (by decide) (by decide)
theorem Try_info38 : (Try.prog.info? 38).map (fun i => (i.zero, i.size, i.bytes)) = some (some (.agg #[.string ⟨#[]⟩, .int .i64 0, .int .i64 0]), 3, 32) := by kernel_rfl
theorem Try_ln38 : Ln Try.prog 38 3 true := Ln.of Try_info38 Try.underlying38 rfl
theorem Try_lo38 : LnO Try.prog 38 3 [.string ⟨#[]⟩, .int .i64 0, .int .i64 0] := LnO.of Try_info38 rfl rfl (by decide) (by decide)
theorem Try_bld25 (pv : List (Nat × Value)) : Try.prog.built 25 pv = Instr.fill ((mkPlaces 0 [[.string ⟨#[]⟩], [.string ⟨#[]⟩], [.int .i64 0], [.int .i64 0], [.int .i64 0], [.int .i64 0]]).toArray[·]?) (List.flatten [[.string ⟨#[]⟩], [.string ⟨#[]⟩], [.int .i64 0], [.int .i64 0], [.int .i64 0], [.int .i64 0]]).toArray pv := by kernel_rfl
theorem Try_eq25 : EqT Try.prog 25 (TR.pair TR.str (TR.pair TR.str (TR.pair TR.int (TR.pair TR.int (TR.pair TR.int TR.int))))) 2 := (EqT.struct Try.underlying25 Try.stoodInHeld25 rfl (EqF.cons (by decide) rfl Try_ln9 (EqT.str Try.underlying9) (EqF.cons (by decide) rfl Try_ln9 (EqT.str Try.underlying9) (EqF.cons (by decide) rfl Try_ln3 (EqT.int Try.underlying3) (EqF.cons (by decide) rfl Try_ln3 (EqT.int Try.underlying3) (EqF.cons (by decide) rfl Try_ln3 (EqT.int Try.underlying3) (EqF.last (by decide) rfl Try_ln3 (EqT.int Try.underlying3))))))))
theorem Try_fit14 : Fit Try.prog 14 := Fit.of Try.func14 (by kernel_rfl) rfl
theorem Try_fit15 : Fit Try.prog 15 := Fit.of Try.func15 (by kernel_rfl) rfl
theorem Try_fit16 : Fit Try.prog 16 := Fit.of Try.func16 (by kernel_rfl) rfl
theorem Try_fit19 : Fit Try.prog 19 := Fit.of Try.func19 (by kernel_rfl) rfl
theorem Try_fit20 : Fit Try.prog 20 := Fit.of Try.func20 (by kernel_rfl) rfl
theorem Try_fit21 : Fit Try.prog 21 := Fit.of Try.func21 (by kernel_rfl) rfl
theorem Try_fit22 : Fit Try.prog 22 := Fit.of Try.func22 (by kernel_rfl) rfl
theorem Try_fit44 : Fit Try.prog 44 := Fit.of Try.func44 (by kernel_rfl) rfl
theorem Try_fit46 : Fit Try.prog 46 := Fit.of Try.func46 (by kernel_rfl) rfl
theorem Try_fit47 : Fit Try.prog 47 := Fit.of Try.func47 (by kernel_rfl) rfl
theorem Try_fit48 : Fit Try.prog 48 := Fit.of Try.func48 (by kernel_rfl) rfl
theorem Try_fit51 : Fit Try.prog 51 := Fit.of Try.func51 (by kernel_rfl) rfl
theorem Try_fit52 : Fit Try.prog 52 := Fit.of Try.func52 (by kernel_rfl) rfl
theorem Try_fit53 : Fit Try.prog 53 := Fit.of Try.func53 (by kernel_rfl) rfl
theorem Try_fit54 : Fit Try.prog 54 := Fit.of Try.func54 (by kernel_rfl) rfl
theorem Try_fit55 : Fit Try.prog 55 := Fit.of Try.func55 (by kernel_rfl) rfl
theorem Try_fit68 : Fit Try.prog 68 := Fit.of Try.func68 (by kernel_rfl) rfl
theorem Try_fit69 : Fit Try.prog 69 := Fit.of Try.func69 (by kernel_rfl) rfl
theorem Try_fit70 : Fit Try.prog 70 := Fit.of Try.func70 (by kernel_rfl) rfl
theorem Try_fit71 : Fit Try.prog 71 := Fit.of Try.func71 (by kernel_rfl) rfl
theorem Try_fit72 : Fit Try.prog 72 := Fit.of Try.func72 (by kernel_rfl) rfl
theorem Try_fit79 : Fit Try.prog 79 := Fit.of Try.func79 (by kernel_rfl) rfl
theorem Try_fld25_0 (ad : Addr) (w : World) : (Instr.fieldAt 25 (.pointer (some ad)) 0).run Try.prog w = .ok (.pointer (some (ad.add 0))) w := by
  simp [Instr.fieldAt, run_underlying Try.underlying25, Instr.sureAddr, fieldPlace, Fw.run_sizeOf Try_ln9]
theorem Try_fld25_1 (ad : Addr) (w : World) : (Instr.fieldAt 25 (.pointer (some ad)) 1).run Try.prog w = .ok (.pointer (some (ad.add 1))) w := by
  simp [Instr.fieldAt, run_underlying Try.underlying25, Instr.sureAddr, fieldPlace, Fw.run_sizeOf Try_ln9]
theorem Try_fld25_2 (ad : Addr) (w : World) : (Instr.fieldAt 25 (.pointer (some ad)) 2).run Try.prog w = .ok (.pointer (some (ad.add 2))) w := by
  simp [Instr.fieldAt, run_underlying Try.underlying25, Instr.sureAddr, fieldPlace, Fw.run_sizeOf Try_ln3]
theorem Try_fld25_3 (ad : Addr) (w : World) : (Instr.fieldAt 25 (.pointer (some ad)) 3).run Try.prog w = .ok (.pointer (some (ad.add 3))) w := by
  simp [Instr.fieldAt, run_underlying Try.underlying25, Instr.sureAddr, fieldPlace, Fw.run_sizeOf Try_ln3]
theorem Try_fld25_4 (ad : Addr) (w : World) : (Instr.fieldAt 25 (.pointer (some ad)) 4).run Try.prog w = .ok (.pointer (some (ad.add 4))) w := by
  simp [Instr.fieldAt, run_underlying Try.underlying25, Instr.sureAddr, fieldPlace, Fw.run_sizeOf Try_ln3]
theorem Try_fld25_5 (ad : Addr) (w : World) : (Instr.fieldAt 25 (.pointer (some ad)) 5).run Try.prog w = .ok (.pointer (some (ad.add 5))) w := by
  simp [Instr.fieldAt, run_underlying Try.underlying25, Instr.sureAddr, fieldPlace, Fw.run_sizeOf Try_ln3]
theorem Try_fld38_0 (ad : Addr) (w : World) : (Instr.fieldAt 38 (.pointer (some ad)) 0).run Try.prog w = .ok (.pointer (some (ad.add 0))) w := by
  simp [Instr.fieldAt, run_underlying Try.underlying38, Instr.sureAddr, fieldPlace, Fw.run_sizeOf Try_ln9]
theorem Try_fld38_1 (ad : Addr) (w : World) : (Instr.fieldAt 38 (.pointer (some ad)) 1).run Try.prog w = .ok (.pointer (some (ad.add 1))) w := by
  simp [Instr.fieldAt, run_underlying Try.underlying38, Instr.sureAddr, fieldPlace, Fw.run_sizeOf Try_ln3]
theorem Try_fld38_2 (ad : Addr) (w : World) : (Instr.fieldAt 38 (.pointer (some ad)) 2).run Try.prog w = .ok (.pointer (some (ad.add 2))) w := by
  simp [Instr.fieldAt, run_underlying Try.underlying38, Instr.sureAddr, fieldPlace, Fw.run_sizeOf Try_ln3]

set_option maxHeartbeats 4000000 in
theorem ledger_named_c (S : Hp) (w : World) (hS : S.sub w) (x0 : (List UInt8)) (res : Bool) (hm : ledger_named_m x0 = some res) : Calls Try.prog 70 #[.string ⟨(x0 : List UInt8).toArray⟩] w (PostV w (.bool res)) := by
 refine calls_enter 27 Try.func70 Try.ntmps70 rfl S false [(0, .string ⟨(x0 : List UInt8).toArray⟩)] [] rfl ⟨rfl, trivial⟩ hS trivial ?_
 unfold ledger_named_m at hm
 refine GL.seq ?_
 refine GL.region ?_
 refine RL.asg rfl rfl rfl ?_
 refine RL.finG ?_
 refine GL.seq ?_
 refine GL.seq ?_
 refine GL.region ?_
 refine RL.mv rfl rfl rfl ?_
 obtain ⟨y5, e6, hm⟩ := bind_some hm
 replace e6 := chk_some e6
 refine RL.cvSB Try.underlying9 Try.underlying100 Try.underlying5 rfl rfl rfl rfl e6 ?_
 intro v7
 refine RL.lenS 0 Try.underlying100 rfl rfl rfl rfl SlOf.imm ?_
 refine RL.mv rfl rfl rfl ?_
 refine RL.finG ?_
 refine GL.open_ 0 rfl (fun S h => len_imm S h) (fun n26 => ?_)
 obtain ⟨y27, K28, h29, h30, h31, h32, h33⟩ := bindR_K hm
 refine GL.join (ι := Unit) (fun (p : Unit) => [(0, .string ⟨(x0 : List UInt8).toArray⟩)]) (fun (p : Unit) => []) (fun (p : Unit) => K28 (.nx ())) ?_ ?_
 ·refine GL.block ?_
  refine GL.loop (ι := Nat × (List Int)) (fun (p : Nat × (List Int)) => [(0, .string ⟨(x0 : List UInt8).toArray⟩), (6, v7), (7, .int .i64 (((intsOf x0)).length : Int)), (8, .int .i64 (p.1 : Int))]) (fun (p : Nat × (List Int)) => [imm (TR.sl (TR.ik .u8)) v7 (intsOf x0)]) (fun (p : Nat × (List Int)) => p.1 + p.2.length = ((intsOf x0)).length ∧ List.drop p.1 (intsOf x0) = p.2 ∧ rangeL ledger_named_b1 p.2 p.1 () = some y27) (fun (p : Nat × (List Int)) => p.2.length) (0, (intsOf x0)) ⟨by simp, by simp, h29⟩ (fun a w st => St.cut [0] ⟨rfl, rfl, rfl, rfl, trivial⟩ (by decide) rfl st) ?_
  rintro ⟨i34, r35⟩ ⟨h40, h41, h39⟩
  try dsimp only at h40 h41 h39
  refine GL.weak (env' := [(0, .string ⟨(x0 : List UInt8).toArray⟩), (6, v7), (7, .int .i64 (((intsOf x0)).length : Int)), (8, .int .i64 (i34 : Int))]) (L' := [imm (TR.sl (TR.ik .u8)) v7 (intsOf x0)]) (fun _ _ st => st) ?_
  refine GL.seq ?_
  refine GL.region ?_
  refine RL.binI (v := .bool (decide ((i34 : Int) < (((intsOf x0)).length : Int)))) rfl rfl rfl rfl rfl ?_
  refine RL.finG ?_
  refine GL.seq ?_
  refine GL.cond rfl (fun b42 => ?_) (fun b42 => ?_)
  ·have h43 : i34 < ((intsOf x0)).length := by have := of_decide_eq_true b42; omega
   obtain ⟨y44, r46, hr, e45, h47⟩ := drop_cons h41 rfl h43
   subst hr
   obtain ⟨z36, h37, h38⟩ := rangeL_some h39
   unfold ledger_named_b1 at h37
   try dsimp only at h37
   refine GL.skip ?_
   refine GL.seq ?_
   refine GL.block ?_
   refine GL.seq ?_
   refine GL.region ?_
   refine RL.idxS (sz := 1) 0 Try.underlying100 Try_ln5 rfl rfl rfl rfl rfl SlOf.imm (by omega) (by omega) ?_
   refine RL.ldSx (i := i34) (e' := y44) 0 Ex.ik Try_ln5 rfl rfl rfl rfl SlOf.imm e45 Part.self ?_
   refine RL.asg rfl rfl rfl ?_
   refine RL.finG ?_
   refine GL.seq ?_
   obtain ⟨y51, K52, h53, h54, h55, h56, h57⟩ := bindF_K h37
   refine GL.join (ι := Bool) (fun (p : Bool) => [(0, .string ⟨(x0 : List UInt8).toArray⟩), (6, v7), (7, .int .i64 (((intsOf x0)).length : Int)), (8, .int .i64 (i34 : Int)), (17, .bool p)]) (fun (p : Bool) => [imm (TR.sl (TR.ik .u8)) v7 (intsOf x0)]) (fun (p : Bool) => K52 (.nx p)) ?_ ?_
   ·skip
    refine GL.region ?_
    refine RL.mv rfl rfl rfl ?_
    refine RL.binI (v := .bool (decide (y44 < (97 : Int)))) rfl rfl rfl rfl rfl ?_
    refine RL.mv rfl rfl rfl ?_
    refine RL.split (t := 14) rfl (fun b58 => ?_) (fun b58 => ?_)
    ·replace h53 := ite_t b58 h53
     refine RL.skip rfl rfl ?_
     refine RL.skip rfl rfl ?_
     refine RL.pickT rfl rfl rfl rfl ?_
     refine RL.fin ?_
     cases h53
     exact fun a w st => mid_intro true h54 (St.cut [0] ⟨rfl, rfl, rfl, rfl, rfl, trivial⟩ (by decide) rfl st)
    replace h53 := ite_f b58 h53
    refine RL.mv rfl rfl rfl ?_
    refine RL.binI (v := .bool (decide (y44 > (122 : Int)))) rfl rfl rfl rfl rfl ?_
    refine RL.pickF rfl rfl rfl rfl ?_
    refine RL.fin ?_
    cases h53
    exact fun a w st => mid_intro (decide (y44 > (122 : Int))) h54 (St.cut [0] ⟨rfl, rfl, rfl, rfl, rfl, trivial⟩ (by decide) rfl st)
   rintro x50 h59
   have h60 := h55 _ h59
   try dsimp only at h60
   refine GL.weak (env' := [(0, .string ⟨(x0 : List UInt8).toArray⟩), (6, v7), (7, .int .i64 (((intsOf x0)).length : Int)), (8, .int .i64 (i34 : Int)), (17, .bool x50)]) (L' := [imm (TR.sl (TR.ik .u8)) v7 (intsOf x0)]) (fun _ _ st => st) ?_
   refine GL.cond rfl (fun b61 => ?_) (fun b61 => ?_)
   ·replace h60 := ite_t b61 h60
    refine GL.seq ?_
    refine GL.region ?_
    refine RL.asg rfl rfl rfl ?_
    refine RL.finG ?_
    cases h60
    replace h38 : some (Fl.rt _) = some y27 := h38
    cases h38
    have hh := h32 _ h30
    subst hh
    exact GL.ret (Gx.ret (v := .bool false) (res1 rfl rfl) (fun a w st => st.toPostV))
   replace h60 := ite_f b61 h60
   refine GL.skip ?_
   refine GL.nilB ?_
   refine GL.region ?_
   refine RL.binI (v := .int .i64 ((i34 + 1 : Nat) : Int)) rfl rfl rfl rfl (binI_succ i34 (by omega)) ?_
   refine RL.mv rfl rfl rfl ?_
   refine RL.fin ?_
   cases h60
   exact fun a w st => lop_intro (i34 + 1, r46) ⟨by show i34 + 1 + r46.length = ((intsOf x0)).length; simp only [List.length_cons] at h40; omega, h47, h38⟩ (by simp) (St.cut [0] ⟨rfl, rfl, rfl, rfl, trivial⟩ (by decide) rfl st)
  have h43 : ¬ i34 < ((intsOf x0)).length := by have := of_decide_eq_false b42; omega
  obtain rfl : r35 = [] := by rw [← h41]; exact List.drop_of_length_le (by omega)
  replace h39 : some (Fl.nx _) = some y27 := h39
  cases h39
  exact GL.exit (fun a w st => mid_intro () h30 (St.cut [] ⟨rfl, trivial⟩ (by decide) rfl st))
 rintro ⟨⟩ h62
 have h63 := h31 _ h62
 try dsimp only at h63
 refine GL.weak (env' := [(0, .string ⟨(x0 : List UInt8).toArray⟩)]) (L' := []) (fun _ _ st => st) ?_
 refine GL.seq ?_
 obtain ⟨y67, K68, h69, h70, h71, h72, h73⟩ := bindR_K h63
 refine GL.join (ι := Bool) (fun (p : Bool) => [(2, .bool p)]) (fun (p : Bool) => []) (fun (p : Bool) => K68 (.nx p)) ?_ ?_
 ·skip
  refine GL.region ?_
  refine RL.mv rfl rfl rfl ?_
  refine RL.lenT Try.underlying9 rfl rfl rfl ?_
  refine RL.binI (v := .bool (decide (((x0).length : Int) > (0 : Int)))) rfl rfl rfl rfl rfl ?_
  refine RL.mv rfl rfl rfl ?_
  refine RL.split (t := 22) rfl (fun b74 => ?_) (fun b74 => ?_)
  ·replace h69 := ite_t b74 h69
   refine RL.mv rfl rfl rfl ?_
   refine RL.lenT Try.underlying9 rfl rfl rfl ?_
   refine RL.binI (v := .bool (decide (((x0).length : Int) ≤ (8 : Int)))) rfl rfl rfl rfl rfl ?_
   refine RL.pickT rfl rfl rfl rfl ?_
   refine RL.asg rfl rfl rfl ?_
   refine RL.fin ?_
   cases h69
   exact fun a w st => mid_intro (decide (((x0).length : Int) ≤ (8 : Int))) h70 (St.cut [] ⟨rfl, trivial⟩ (by decide) rfl st)
  replace h69 := ite_f b74 h69
  refine RL.skip rfl rfl ?_
  refine RL.skip rfl rfl ?_
  refine RL.skip rfl rfl ?_
  refine RL.pickF rfl rfl rfl rfl ?_
  refine RL.asg rfl rfl rfl ?_
  refine RL.fin ?_
  cases h69
  exact fun a w st => mid_intro false h70 (St.cut [] ⟨rfl, trivial⟩ (by decide) rfl st)
 rintro x66 h75
 have h76 := h71 _ h75
 try dsimp only at h76
 refine GL.weak (env' := [(2, .bool x66)]) (L' := []) (fun _ _ st => st) ?_
 have h76 := Option.some.inj h76
 subst h76
 exact GL.ret (Gx.ret (v := .bool x66) (res1 rfl rfl) (fun a w st => st.toPostV))

set_option maxHeartbeats 4000000 in
theorem ledger_Right_c (S : Hp) (w : World) (hS : S.sub w) (v0 : Value) (x0 : ((List UInt8) × ((List UInt8) × (Int × (Int × (Int × Int)))))) (k0 : ((TR.pair TR.str (TR.pair TR.str (TR.pair TR.int (TR.pair TR.int (TR.pair TR.int TR.int)))))).vrep S v0 x0) (res : Int) (hm : ledger_Right_m x0 = some res) : Calls Try.prog 46 #[v0] w (PostV w (.int .i64 res)) := by
 refine calls_enter 58 Try.func46 Try.ntmps46 rfl S false [(0, v0)] [imm (TR.pair TR.str (TR.pair TR.str (TR.pair TR.int (TR.pair TR.int (TR.pair TR.int TR.int))))) v0 x0] rfl ⟨rfl, trivial⟩ hS ⟨k0, trivial⟩ ?_
 unfold ledger_Right_m at hm
 refine GL.seq ?_
 refine GL.region ?_
 refine RL.box (t := (TR.pair TR.str (TR.pair TR.str (TR.pair TR.int (TR.pair TR.int (TR.pair TR.int TR.int)))))) (e := x0) rfl rfl rfl rfl (VR.item 0 rfl) ?_
 intro v3
 refine RL.asg rfl rfl rfl ?_
 refine RL.finG ?_
 refine GL.seq ?_
 refine GL.seq ?_
 obtain ⟨y17, K18, h19, h20, h21, h22, h23⟩ := bindR_K hm
 refine GL.join (ι := Bool) (fun (p : Bool) => [(1, v3), (19, .bool p)]) (fun (p : Bool) => [obox 25 (TR.pair TR.str (TR.pair TR.str (TR.pair TR.int (TR.pair TR.int (TR.pair TR.int TR.int))))) v3 x0]) (fun (p : Bool) => K18 (.nx p)) ?_ ?_
 ·skip
  refine GL.region ?_
  refine RL.fadr (off := 0) (fo := 0) 1 Try_fld25_0 rfl rfl rfl PtOf.obox (Or.inr ⟨rfl, rfl⟩) ?_
  refine RL.ldPx (off := (0 + 0)) (e' := x0.1) 1 Ex.str Try_ln9 rfl rfl (Or.inl rfl) rfl PtOf.obox (Part.fst Part.self) ?_
  obtain ⟨y24, e25, h19⟩ := bind_some h19
  refine RL.callV (v := .bool y24) (vs := [.string ⟨(x0.1 : List UInt8).toArray⟩]) Try_fit70 rfl (Or.inl rfl) rfl rfl rfl rfl (fun U w hU hW hL => ledger_named_c U w hU x0.1 _ e25) ?_
  refine RL.notB rfl rfl rfl ?_
  refine RL.mv rfl rfl rfl ?_
  refine RL.split (t := 7) rfl (fun b26 => ?_) (fun b26 => ?_)
  ·replace h19 := ite_t b26 h19
   refine RL.skip rfl rfl ?_
   refine RL.skip rfl rfl ?_
   refine RL.skip rfl rfl ?_
   refine RL.skip rfl rfl ?_
   refine RL.pickT rfl rfl rfl rfl ?_
   refine RL.mv rfl rfl rfl ?_
   refine RL.skip rfl rfl ?_
   refine RL.skip rfl rfl ?_
   refine RL.skip rfl rfl ?_
   refine RL.skip rfl rfl ?_
   refine RL.skip rfl rfl ?_
   refine RL.pickT rfl rfl rfl rfl ?_
   refine RL.fin ?_
   cases h19
   exact fun a w st => mid_intro true h20 (St.cut [1] ⟨rfl, rfl, trivial⟩ (by decide) rfl st)
  replace h19 := ite_f b26 h19
  refine RL.fadr (off := 0) (fo := 1) 1 Try_fld25_1 rfl rfl rfl PtOf.obox (Or.inr ⟨rfl, rfl⟩) ?_
  refine RL.ldPx (off := (0 + 1)) (e' := x0.2.1) 1 Ex.str Try_ln9 rfl rfl (Or.inl rfl) rfl PtOf.obox (Part.snd (Part.fst Part.self)) ?_
  obtain ⟨y27, e28, h19⟩ := bind_some h19
  refine RL.callV (v := .bool y27) (vs := [.string ⟨(x0.2.1 : List UInt8).toArray⟩]) Try_fit70 rfl (Or.inl rfl) rfl rfl rfl rfl (fun U w hU hW hL => ledger_named_c U w hU x0.2.1 _ e28) ?_
  refine RL.notB rfl rfl rfl ?_
  refine RL.pickF rfl rfl rfl rfl ?_
  refine RL.mv rfl rfl rfl ?_
  refine RL.split (t := 13) rfl (fun b29 => ?_) (fun b29 => ?_)
  ·replace h19 := ite_t b29 h19
   refine RL.skip rfl rfl ?_
   refine RL.skip rfl rfl ?_
   refine RL.skip rfl rfl ?_
   refine RL.skip rfl rfl ?_
   refine RL.skip rfl rfl ?_
   refine RL.pickT rfl rfl rfl rfl ?_
   refine RL.fin ?_
   cases h19
   exact fun a w st => mid_intro true h20 (St.cut [1] ⟨rfl, rfl, trivial⟩ (by decide) rfl st)
  replace h19 := ite_f b29 h19
  refine RL.fadr (off := 0) (fo := 0) 1 Try_fld25_0 rfl rfl rfl PtOf.obox (Or.inr ⟨rfl, rfl⟩) ?_
  refine RL.ldPx (off := (0 + 0)) (e' := x0.1) 1 Ex.str Try_ln9 rfl rfl (Or.inl rfl) rfl PtOf.obox (Part.fst Part.self) ?_
  refine RL.fadr (off := 0) (fo := 1) 1 Try_fld25_1 rfl rfl rfl PtOf.obox (Or.inr ⟨rfl, rfl⟩) ?_
  refine RL.ldPx (off := (0 + 1)) (e' := x0.2.1) 1 Ex.str Try_ln9 rfl rfl (Or.inl rfl) rfl PtOf.obox (Part.snd (Part.fst Part.self)) ?_
  refine RL.binS (v := .bool (x0.1 == x0.2.1)) rfl rfl rfl rfl rfl ?_
  refine RL.pickF rfl rfl rfl rfl ?_
  refine RL.fin ?_
  cases h19
  exact fun a w st => mid_intro (x0.1 == x0.2.1) h20 (St.cut [1] ⟨rfl, rfl, trivial⟩ (by decide) rfl st)
 rintro x16 h30
 have h31 := h21 _ h30
 try dsimp only at h31
 refine GL.weak (env' := [(1, v3), (19, .bool x16)]) (L' := [obox 25 (TR.pair TR.str (TR.pair TR.str (TR.pair TR.int (TR.pair TR.int (TR.pair TR.int TR.int))))) v3 x0]) (fun _ _ st => st) ?_
 refine GL.cond rfl (fun b32 => ?_) (fun b32 => ?_)
 ·replace h31 := ite_t b32 h31
  refine GL.seq ?_
  refine GL.region ?_
  refine RL.asg rfl rfl rfl ?_
  refine RL.finG ?_
  have h31 := Option.some.inj h31
  subst h31
  exact GL.ret (Gx.ret (v := .int .i64 (3 : Int)) (res1 rfl rfl) (fun a w st => st.toPostV))
 replace h31 := ite_f b32 h31
 refine GL.skip ?_
 refine GL.seq ?_
 refine GL.seq ?_
 obtain ⟨y48, K49, h50, h51, h52, h53, h54⟩ := bindR_K h31
 refine GL.join (ι := Bool) (fun (p : Bool) => [(57, .bool p)]) (fun (p : Bool) => []) (fun (p : Bool) => K49 (.nx p)) ?_ ?_
 ·skip
  refine GL.region ?_
  refine RL.fadr (off := 0) (fo := 2) 0 Try_fld25_2 rfl rfl rfl PtOf.obox (Or.inr ⟨rfl, rfl⟩) ?_
  refine RL.ldPx (off := (0 + 2)) (e' := x0.2.2.1) 0 Ex.ik Try_ln3 rfl rfl (Or.inl rfl) rfl PtOf.obox (Part.snd (Part.snd (Part.fst Part.self))) ?_
  refine RL.binI (v := .bool (decide (x0.2.2.1 < (0 : Int)))) rfl rfl rfl rfl rfl ?_
  refine RL.mv rfl rfl rfl ?_
  refine RL.split (t := 23) rfl (fun b55 => ?_) (fun b55 => ?_)
  ·replace h50 := ite_t b55 h50
   refine RL.skip rfl rfl ?_
   refine RL.skip rfl rfl ?_
   refine RL.skip rfl rfl ?_
   refine RL.pickT rfl rfl rfl rfl ?_
   refine RL.mv rfl rfl rfl ?_
   refine RL.skip rfl rfl ?_
   refine RL.skip rfl rfl ?_
   refine RL.skip rfl rfl ?_
   refine RL.pickT rfl rfl rfl rfl ?_
   refine RL.mv rfl rfl rfl ?_
   refine RL.skip rfl rfl ?_
   refine RL.skip rfl rfl ?_
   refine RL.skip rfl rfl ?_
   refine RL.pickT rfl rfl rfl rfl ?_
   refine RL.mv rfl rfl rfl ?_
   refine RL.skip rfl rfl ?_
   refine RL.skip rfl rfl ?_
   refine RL.skip rfl rfl ?_
   refine RL.pickT rfl rfl rfl rfl ?_
   refine RL.mv rfl rfl rfl ?_
   refine RL.skip rfl rfl ?_
   refine RL.skip rfl rfl ?_
   refine RL.skip rfl rfl ?_
   refine RL.pickT rfl rfl rfl rfl ?_
   refine RL.mv rfl rfl rfl ?_
   refine RL.skip rfl rfl ?_
   refine RL.skip rfl rfl ?_
   refine RL.skip rfl rfl ?_
   refine RL.pickT rfl rfl rfl rfl ?_
   refine RL.mv rfl rfl rfl ?_
   refine RL.skip rfl rfl ?_
   refine RL.skip rfl rfl ?_
   refine RL.skip rfl rfl ?_
   refine RL.pickT rfl rfl rfl rfl ?_
   refine RL.fin ?_
   cases h50
   exact fun a w st => mid_intro true h51 (St.cut [] ⟨rfl, trivial⟩ (by decide) rfl st)
  replace h50 := ite_f b55 h50
  refine RL.fadr (off := 0) (fo := 2) 0 Try_fld25_2 rfl rfl rfl PtOf.obox (Or.inr ⟨rfl, rfl⟩) ?_
  refine RL.ldPx (off := (0 + 2)) (e' := x0.2.2.1) 0 Ex.ik Try_ln3 rfl rfl (Or.inl rfl) rfl PtOf.obox (Part.snd (Part.snd (Part.fst Part.self))) ?_
  refine RL.binI (v := .bool (decide (x0.2.2.1 > (1000000 : Int)))) rfl rfl rfl rfl rfl ?_
  refine RL.pickF rfl rfl rfl rfl ?_
  refine RL.mv rfl rfl rfl ?_
  refine RL.split (t := 28) rfl (fun b56 => ?_) (fun b56 => ?_)
  ·replace h50 := ite_t b56 h50
   refine RL.skip rfl rfl ?_
   refine RL.skip rfl rfl ?_
   refine RL.skip rfl rfl ?_
   refine RL.pickT rfl rfl rfl rfl ?_
   refine RL.mv rfl rfl rfl ?_
   refine RL.skip rfl rfl ?_
   refine RL.skip rfl rfl ?_
   refine RL.skip rfl rfl ?_
   refine RL.pickT rfl rfl rfl rfl ?_
   refine RL.mv rfl rfl rfl ?_
   refine RL.skip rfl rfl ?_
   refine RL.skip rfl rfl ?_
   refine RL.skip rfl rfl ?_
   refine RL.pickT rfl rfl rfl rfl ?_
   refine RL.mv rfl rfl rfl ?_
   refine RL.skip rfl rfl ?_
   refine RL.skip rfl rfl ?_
   refine RL.skip rfl rfl ?_
   refine RL.pickT rfl rfl rfl rfl ?_
   refine RL.mv rfl rfl rfl ?_
   refine RL.skip rfl rfl ?_
   refine RL.skip rfl rfl ?_
   refine RL.skip rfl rfl ?_
   refine RL.pickT rfl rfl rfl rfl ?_
   refine RL.mv rfl rfl rfl ?_
   refine RL.skip rfl rfl ?_
   refine RL.skip rfl rfl ?_
   refine RL.skip rfl rfl ?_
   refine RL.pickT rfl rfl rfl rfl ?_
   refine RL.fin ?_
   cases h50
   exact fun a w st => mid_intro true h51 (St.cut [] ⟨rfl, trivial⟩ (by decide) rfl st)
  replace h50 := ite_f b56 h50
  refine RL.fadr (off := 0) (fo := 3) 0 Try_fld25_3 rfl rfl rfl PtOf.obox (Or.inr ⟨rfl, rfl⟩) ?_
  refine RL.ldPx (off := (0 + 3)) (e' := x0.2.2.2.1) 0 Ex.ik Try_ln3 rfl rfl (Or.inl rfl) rfl PtOf.obox (Part.snd (Part.snd (Part.snd (Part.fst Part.self)))) ?_
  refine RL.binI (v := .bool (decide (x0.2.2.2.1 < (0 : Int)))) rfl rfl rfl rfl rfl ?_
  refine RL.pickF rfl rfl rfl rfl ?_
  refine RL.mv rfl rfl rfl ?_
  refine RL.split (t := 33) rfl (fun b57 => ?_) (fun b57 => ?_)
  ·replace h50 := ite_t b57 h50
   refine RL.skip rfl rfl ?_
   refine RL.skip rfl rfl ?_
   refine RL.skip rfl rfl ?_
   refine RL.pickT rfl rfl rfl rfl ?_
   refine RL.mv rfl rfl rfl ?_
   refine RL.skip rfl rfl ?_
   refine RL.skip rfl rfl ?_
   refine RL.skip rfl rfl ?_
   refine RL.pickT rfl rfl rfl rfl ?_
   refine RL.mv rfl rfl rfl ?_
   refine RL.skip rfl rfl ?_
   refine RL.skip rfl rfl ?_
   refine RL.skip rfl rfl ?_
   refine RL.pickT rfl rfl rfl rfl ?_
   refine RL.mv rfl rfl rfl ?_
   refine RL.skip rfl rfl ?_
   refine RL.skip rfl rfl ?_
   refine RL.skip rfl rfl ?_
   refine RL.pickT rfl rfl rfl rfl ?_
   refine RL.mv rfl rfl rfl ?_
   refine RL.skip rfl rfl ?_
   refine RL.skip rfl rfl ?_
   refine RL.skip rfl rfl ?_
   refine RL.pickT rfl rfl rfl rfl ?_
   refine RL.fin ?_
   cases h50
   exact fun a w st => mid_intro true h51 (St.cut [] ⟨rfl, trivial⟩ (by decide) rfl st)
  replace h50 := ite_f b57 h50
  refine RL.fadr (off := 0) (fo := 3) 0 Try_fld25_3 rfl rfl rfl PtOf.obox (Or.inr ⟨rfl, rfl⟩) ?_
  refine RL.ldPx (off := (0 + 3)) (e' := x0.2.2.2.1) 0 Ex.ik Try_ln3 rfl rfl (Or.inl rfl) rfl PtOf.obox (Part.snd (Part.snd (Part.snd (Part.fst Part.self)))) ?_
  refine RL.binI (v := .bool (decide (x0.2.2.2.1 > (1000000 : Int)))) rfl rfl rfl rfl rfl ?_
  refine RL.pickF rfl rfl rfl rfl ?_
  refine RL.mv rfl rfl rfl ?_
  refine RL.split (t := 38) rfl (fun b58 => ?_) (fun b58 => ?_)
  ·replace h50 := ite_t b58 h50
   refine RL.skip rfl rfl ?_
   refine RL.skip rfl rfl ?_
   refine RL.skip rfl rfl ?_
   refine RL.pickT rfl rfl rfl rfl ?_
   refine RL.mv rfl rfl rfl ?_
   refine RL.skip rfl rfl ?_
   refine RL.skip rfl rfl ?_
   refine RL.skip rfl rfl ?_
   refine RL.pickT rfl rfl rfl rfl ?_
   refine RL.mv rfl rfl rfl ?_
   refine RL.skip rfl rfl ?_
   refine RL.skip rfl rfl ?_
   refine RL.skip rfl rfl ?_
   refine RL.pickT rfl rfl rfl rfl ?_
   refine RL.mv rfl rfl rfl ?_
   refine RL.skip rfl rfl ?_
   refine RL.skip rfl rfl ?_
   refine RL.skip rfl rfl ?_
   refine RL.pickT rfl rfl rfl rfl ?_
   refine RL.fin ?_
   cases h50
   exact fun a w st => mid_intro true h51 (St.cut [] ⟨rfl, trivial⟩ (by decide) rfl st)
  replace h50 := ite_f b58 h50
  refine RL.fadr (off := 0) (fo := 4) 0 Try_fld25_4 rfl rfl rfl PtOf.obox (Or.inr ⟨rfl, rfl⟩) ?_
  refine RL.ldPx (off := (0 + 4)) (e' := x0.2.2.2.2.1) 0 Ex.ik Try_ln3 rfl rfl (Or.inl rfl) rfl PtOf.obox (Part.snd (Part.snd (Part.snd (Part.snd (Part.fst Part.self))))) ?_
  refine RL.binI (v := .bool (decide (x0.2.2.2.2.1 < (0 : Int)))) rfl rfl rfl rfl rfl ?_
  refine RL.pickF rfl rfl rfl rfl ?_
  refine RL.mv rfl rfl rfl ?_
  refine RL.split (t := 43) rfl (fun b59 => ?_) (fun b59 => ?_)
  ·replace h50 := ite_t b59 h50
   refine RL.skip rfl rfl ?_
   refine RL.skip rfl rfl ?_
   refine RL.skip rfl rfl ?_
   refine RL.pickT rfl rfl rfl rfl ?_
   refine RL.mv rfl rfl rfl ?_
   refine RL.skip rfl rfl ?_
   refine RL.skip rfl rfl ?_
   refine RL.skip rfl rfl ?_
   refine RL.pickT rfl rfl rfl rfl ?_
   refine RL.mv rfl rfl rfl ?_
   refine RL.skip rfl rfl ?_
   refine RL.skip rfl rfl ?_
   refine RL.skip rfl rfl ?_
   refine RL.pickT rfl rfl rfl rfl ?_
   refine RL.fin ?_
   cases h50
   exact fun a w st => mid_intro true h51 (St.cut [] ⟨rfl, trivial⟩ (by decide) rfl st)
  replace h50 := ite_f b59 h50
  refine RL.fadr (off := 0) (fo := 4) 0 Try_fld25_4 rfl rfl rfl PtOf.obox (Or.inr ⟨rfl, rfl⟩) ?_
  refine RL.ldPx (off := (0 + 4)) (e' := x0.2.2.2.2.1) 0 Ex.ik Try_ln3 rfl rfl (Or.inl rfl) rfl PtOf.obox (Part.snd (Part.snd (Part.snd (Part.snd (Part.fst Part.self))))) ?_
  refine RL.binI (v := .bool (decide (x0.2.2.2.2.1 > (1000000 : Int)))) rfl rfl rfl rfl rfl ?_
  refine RL.pickF rfl rfl rfl rfl ?_
  refine RL.mv rfl rfl rfl ?_
  refine RL.split (t := 48) rfl (fun b60 => ?_) (fun b60 => ?_)
  ·replace h50 := ite_t b60 h50
   refine RL.skip rfl rfl ?_
   refine RL.skip rfl rfl ?_
   refine RL.skip rfl rfl ?_
   refine RL.pickT rfl rfl rfl rfl ?_
   refine RL.mv rfl rfl rfl ?_
   refine RL.skip rfl rfl ?_
   refine RL.skip rfl rfl ?_
   refine RL.skip rfl rfl ?_
   refine RL.pickT rfl rfl rfl rfl ?_
   refine RL.fin ?_
   cases h50
   exact fun a w st => mid_intro true h51 (St.cut [] ⟨rfl, trivial⟩ (by decide) rfl st)
  replace h50 := ite_f b60 h50
  refine RL.fadr (off := 0) (fo := 5) 0 Try_fld25_5 rfl rfl rfl PtOf.obox (Or.inr ⟨rfl, rfl⟩) ?_
  refine RL.ldPx (off := (0 + 5)) (e' := x0.2.2.2.2.2) 0 Ex.ik Try_ln3 rfl rfl (Or.inl rfl) rfl PtOf.obox (Part.snd (Part.snd (Part.snd (Part.snd (Part.snd Part.self))))) ?_
  refine RL.binI (v := .bool (decide (x0.2.2.2.2.2 < (1 : Int)))) rfl rfl rfl rfl rfl ?_
  refine RL.pickF rfl rfl rfl rfl ?_
  refine RL.mv rfl rfl rfl ?_
  refine RL.split (t := 53) rfl (fun b61 => ?_) (fun b61 => ?_)
  ·replace h50 := ite_t b61 h50
   refine RL.skip rfl rfl ?_
   refine RL.skip rfl rfl ?_
   refine RL.skip rfl rfl ?_
   refine RL.pickT rfl rfl rfl rfl ?_
   refine RL.fin ?_
   cases h50
   exact fun a w st => mid_intro true h51 (St.cut [] ⟨rfl, trivial⟩ (by decide) rfl st)
  replace h50 := ite_f b61 h50
  refine RL.fadr (off := 0) (fo := 5) 0 Try_fld25_5 rfl rfl rfl PtOf.obox (Or.inr ⟨rfl, rfl⟩) ?_
  refine RL.ldPx (off := (0 + 5)) (e' := x0.2.2.2.2.2) 0 Ex.ik Try_ln3 rfl rfl (Or.inl rfl) rfl PtOf.obox (Part.snd (Part.snd (Part.snd (Part.snd (Part.snd Part.self))))) ?_
  refine RL.binI (v := .bool (decide (x0.2.2.2.2.2 > (100 : Int)))) rfl rfl rfl rfl rfl ?_
  refine RL.pickF rfl rfl rfl rfl ?_
  refine RL.fin ?_
  cases h50
  exact fun a w st => mid_intro (decide (x0.2.2.2.2.2 > (100 : Int))) h51 (St.cut [] ⟨rfl, trivial⟩ (by decide) rfl st)
 rintro x47 h62
 have h63 := h52 _ h62
 try dsimp only at h63
 refine GL.weak (env' := [(57, .bool x47)]) (L' := []) (fun _ _ st => st) ?_
 refine GL.cond rfl (fun b64 => ?_) (fun b64 => ?_)
 ·replace h63 := ite_t b64 h63
  refine GL.seq ?_
  refine GL.region ?_
  refine RL.asg rfl rfl rfl ?_
  refine RL.finG ?_
  have h63 := Option.some.inj h63
  subst h63
  exact GL.ret (Gx.ret (v := .int .i64 (1 : Int)) (res1 rfl rfl) (fun a w st => st.toPostV))
 replace h63 := ite_f b64 h63
 refine GL.skip ?_
 refine GL.seq ?_
 refine GL.region ?_
 refine RL.asg rfl rfl rfl ?_
 refine RL.finG ?_
 have h63 := Option.some.inj h63
 subst h63
 exact GL.ret (Gx.ret (v := .int .i64 (0 : Int)) (res1 rfl rfl) (fun a w st => st.toPostV))

set_option maxHeartbeats 4000000 in
theorem slices_IndexFunc_api_Deal_api_Deal_c (S : Hp) (w : World) (hS : S.sub w) (v0 : Value) (x0 : (List ((List UInt8) × ((List UInt8) × (Int × (Int × (Int × Int))))))) (k0 : ((TR.sl (TR.pair TR.str (TR.pair TR.str (TR.pair TR.int (TR.pair TR.int (TR.pair TR.int TR.int))))))).vrep S v0 x0) (f1 : FuncId) (c1 : Array Value) (t1 : Fit Try.prog f1) (g1 : ((List UInt8) × ((List UInt8) × (Int × (Int × (Int × Int))))) → Option Bool) (k1 : ∀ (U : Hp) (w' : World), Hp.le S U → U.sub w' → ∀ (u0 : Value) (a0 : ((List UInt8) × ((List UInt8) × (Int × (Int × (Int × Int)))))) (_ : ((TR.pair TR.str (TR.pair TR.str (TR.pair TR.int (TR.pair TR.int (TR.pair TR.int TR.int)))))).vrep U u0 a0) (rr : Bool), g1 a0 = some rr → Calls Try.prog f1 (#[u0] ++ c1) w' (PostV w' (.bool rr))) (res : Int) (hm : slices_IndexFunc_api_Deal_api_Deal_m x0 g1 = some res) : Calls Try.prog 71 #[v0, .func (.func f1) #[] c1] w (PostV w (.int .i64 res)) := by
 refine calls_enter 19 Try.func71 Try.ntmps71 rfl S false [(0, v0), (1, .func (.func f1) #[] c1)] [imm (TR.sl (TR.pair TR.str (TR.pair TR.str (TR.pair TR.int (TR.pair TR.int (TR.pair TR.int TR.int)))))) v0 x0] rfl ⟨rfl, ⟨rfl, trivial⟩⟩ hS ⟨k0, trivial⟩ ?_
 unfold slices_IndexFunc_api_Deal_api_Deal_m at hm
 refine GL.seq ?_
 refine GL.region ?_
 refine RL.asg rfl rfl rfl ?_
 refine RL.finG ?_
 refine GL.seq ?_
 refine GL.seq ?_
 refine GL.region ?_
 refine RL.mv rfl rfl rfl ?_
 refine RL.lenS 0 Try.underlying22 rfl rfl rfl rfl SlOf.imm ?_
 refine RL.mv rfl rfl rfl ?_
 refine RL.finG ?_
 refine GL.open_ 0 rfl (fun S h => len_imm S h) (fun n14 => ?_)
 obtain ⟨y15, K16, h17, h18, h19, h20, h21⟩ := bindR_K hm
 refine GL.join (ι := Unit) (fun (p : Unit) => []) (fun (p : Unit) => []) (fun (p : Unit) => K16 (.nx ())) ?_ ?_
 ·refine GL.block ?_
  refine GL.loop (ι := Nat × (List ((List UInt8) × ((List UInt8) × (Int × (Int × (Int × Int))))))) (fun (p : Nat × (List ((List UInt8) × ((List UInt8) × (Int × (Int × (Int × Int))))))) => [(0, v0), (1, .func (.func f1) #[] c1), (7, .int .i64 ((x0).length : Int)), (8, .int .i64 (p.1 : Int))]) (fun (p : Nat × (List ((List UInt8) × ((List UInt8) × (Int × (Int × (Int × Int))))))) => [imm (TR.sl (TR.pair TR.str (TR.pair TR.str (TR.pair TR.int (TR.pair TR.int (TR.pair TR.int TR.int)))))) v0 x0]) (fun (p : Nat × (List ((List UInt8) × ((List UInt8) × (Int × (Int × (Int × Int))))))) => p.1 + p.2.length = (x0).length ∧ List.drop p.1 x0 = p.2 ∧ rangeL (slices_IndexFunc_api_Deal_api_Deal_b1 g1) p.2 p.1 () = some y15) (fun (p : Nat × (List ((List UInt8) × ((List UInt8) × (Int × (Int × (Int × Int))))))) => p.2.length) (0, x0) ⟨by simp, by simp, h17⟩ (fun a w st => St.cut [0] ⟨rfl, rfl, rfl, rfl, trivial⟩ (by decide) rfl st) ?_
  rintro ⟨i22, r23⟩ ⟨h28, h29, h27⟩
  try dsimp only at h28 h29 h27
  refine GL.weak (env' := [(0, v0), (1, .func (.func f1) #[] c1), (7, .int .i64 ((x0).length : Int)), (8, .int .i64 (i22 : Int))]) (L' := [imm (TR.sl (TR.pair TR.str (TR.pair TR.str (TR.pair TR.int (TR.pair TR.int (TR.pair TR.int TR.int)))))) v0 x0]) (fun _ _ st => st) ?_
  refine GL.seq ?_
  refine GL.region ?_
  refine RL.binI (v := .bool (decide ((i22 : Int) < ((x0).length : Int)))) rfl rfl rfl rfl rfl ?_
  refine RL.finG ?_
  refine GL.seq ?_
  refine GL.cond rfl (fun b30 => ?_) (fun b30 => ?_)
  ·have h31 : i22 < (x0).length := by have := of_decide_eq_true b30; omega
   obtain ⟨y32, r34, hr, e33, h35⟩ := drop_cons h29 rfl h31
   subst hr
   obtain ⟨z24, h25, h26⟩ := rangeL_some h27
   unfold slices_IndexFunc_api_Deal_api_Deal_b1 at h25
   try dsimp only at h25
   refine GL.skip ?_
   refine GL.seq ?_
   refine GL.block ?_
   refine GL.seq ?_
   refine GL.region ?_
   refine RL.mv rfl rfl rfl ?_
   refine RL.asg rfl rfl rfl ?_
   refine RL.finG ?_
   refine GL.seq ?_
   refine GL.region ?_
   refine RL.mv rfl rfl rfl ?_
   refine RL.mv rfl rfl rfl ?_
   refine RL.mv rfl rfl rfl ?_
   refine RL.idxS (sz := 6) 0 Try.underlying22 Try_ln25 rfl rfl rfl rfl rfl SlOf.imm (by omega) (by omega) ?_
   refine RL.ldS (i := i22) (r := (TR.pair TR.str (TR.pair TR.str (TR.pair TR.int (TR.pair TR.int (TR.pair TR.int TR.int)))))) (e' := y32) 0 Try_ln25 rfl rfl rfl rfl SlOf.imm e33 Part.self ?_
   intro v39
   obtain ⟨y40, e41, h25⟩ := bind_some h25
   refine RL.callV (v := .bool y40) (vs := [v39]) t1 rfl (Or.inl rfl) rfl rfl rfl rfl (fun U w hU hW hL => k1 U w hW hU _ _ (hL 1 _ _ rfl Seen.imm) _ e41) ?_
   refine RL.finG ?_
   refine GL.cond rfl (fun b42 => ?_) (fun b42 => ?_)
   ·replace h25 := ite_t b42 h25
    refine GL.seq ?_
    refine GL.region ?_
    refine RL.mv rfl rfl rfl ?_
    refine RL.asg rfl rfl rfl ?_
    refine RL.finG ?_
    cases h25
    replace h26 : some (Fl.rt _) = some y15 := h26
    cases h26
    have hh := h20 _ h18
    subst hh
    exact GL.ret (Gx.ret (v := .int .i64 (i22 : Int)) (res1 rfl rfl) (fun a w st => st.toPostV))
   replace h25 := ite_f b42 h25
   refine GL.skip ?_
   refine GL.nilB ?_
   refine GL.region ?_
   refine RL.binI (v := .int .i64 ((i22 + 1 : Nat) : Int)) rfl rfl rfl rfl (binI_succ i22 (by omega)) ?_
   refine RL.mv rfl rfl rfl ?_
   refine RL.fin ?_
   cases h25
   exact fun a w st => lop_intro (i22 + 1, r34) ⟨by show i22 + 1 + r34.length = (x0).length; simp only [List.length_cons] at h28; omega, h35, h26⟩ (by simp) (St.cut [0] ⟨rfl, rfl, rfl, rfl, trivial⟩ (by decide) rfl st)
  have h31 : ¬ i22 < (x0).length := by have := of_decide_eq_false b30; omega
  obtain rfl : r23 = [] := by rw [← h29]; exact List.drop_of_length_le (by omega)
  replace h27 : some (Fl.nx _) = some y15 := h27
  cases h27
  exact GL.exit (fun a w st => mid_intro () h18 (St.cut [] trivial (by decide) rfl st))
 rintro ⟨⟩ h43
 have h44 := h19 _ h43
 try dsimp only at h44
 refine GL.weak (env' := []) (L' := []) (fun _ _ st => st) ?_
 refine GL.seq ?_
 refine GL.region ?_
 refine RL.asg rfl rfl rfl ?_
 refine RL.finG ?_
 have h44 := Option.some.inj h44
 subst h44
 exact GL.ret (Gx.ret (v := .int .i64 (-1 : Int)) (res1 rfl rfl) (fun a w st => st.toPostV))

set_option maxHeartbeats 4000000 in
theorem queue_find_1_c (S : Hp) (w : World) (hS : S.sub w) (v0 : Value) (x0 : ((List UInt8) × ((List UInt8) × (Int × (Int × (Int × Int)))))) (k0 : ((TR.pair TR.str (TR.pair TR.str (TR.pair TR.int (TR.pair TR.int (TR.pair TR.int TR.int)))))).vrep S v0 x0) (v1 : Value) (x1 : (List UInt8)) (k1 : ((TR.ptr TR.str)).vrep S v1 x1) (v2 : Value) (x2 : Int) (k2 : ((TR.ptr TR.int)).vrep S v2 x2) (res : Bool) (hm : queue_find_1_m x0 x1 x2 = some res) : Calls Try.prog 72 #[v0, v1, v2] w (PostV w (.bool res)) := by
 refine calls_enter 15 Try.func72 Try.ntmps72 rfl S false [(0, v0), (1, v1), (2, v2)] [imm (TR.pair TR.str (TR.pair TR.str (TR.pair TR.int (TR.pair TR.int (TR.pair TR.int TR.int))))) v0 x0, imm (TR.ptr TR.str) v1 x1, imm (TR.ptr TR.int) v2 x2] rfl ⟨rfl, ⟨rfl, ⟨rfl, trivial⟩⟩⟩ hS ⟨k0, ⟨k1, ⟨k2, trivial⟩⟩⟩ ?_
 unfold queue_find_1_m at hm
 refine GL.seq ?_
 refine GL.region ?_
 refine RL.box (t := (TR.pair TR.str (TR.pair TR.str (TR.pair TR.int (TR.pair TR.int (TR.pair TR.int TR.int)))))) (e := x0) rfl rfl rfl rfl (VR.item 0 rfl) ?_
 intro v5
 refine RL.asg rfl rfl rfl ?_
 refine RL.finG ?_
 refine GL.seq ?_
 obtain ⟨y9, K10, h11, h12, h13, h14, h15⟩ := bindR_K hm
 refine GL.join (ι := Bool) (fun (p : Bool) => [(4, .bool p)]) (fun (p : Bool) => []) (fun (p : Bool) => K10 (.nx p)) ?_ ?_
 ·skip
  refine GL.region ?_
  refine RL.fadr (off := 0) (fo := 0) 3 Try_fld25_0 rfl rfl rfl PtOf.obox (Or.inr ⟨rfl, rfl⟩) ?_
  refine RL.ldPx (off := (0 + 0)) (e' := x0.1) 3 Ex.str Try_ln9 rfl rfl (Or.inl rfl) rfl PtOf.obox (Part.fst Part.self) ?_
  refine RL.ldPx (off := 0) (e' := x1) 1 Ex.str Try_ln9 rfl rfl (Or.inr ⟨rfl, rfl⟩) rfl PtOf.imm Part.self ?_
  refine RL.binS (v := .bool (x0.1 == x1)) rfl rfl rfl rfl rfl ?_
  refine RL.mv rfl rfl rfl ?_
  refine RL.split (t := 9) rfl (fun b16 => ?_) (fun b16 => ?_)
  ·replace h11 := ite_t b16 h11
   refine RL.fadr (off := 0) (fo := 2) 3 Try_fld25_2 rfl rfl rfl PtOf.obox (Or.inr ⟨rfl, rfl⟩) ?_
   refine RL.ldPx (off := (0 + 2)) (e' := x0.2.2.1) 3 Ex.ik Try_ln3 rfl rfl (Or.inl rfl) rfl PtOf.obox (Part.snd (Part.snd (Part.fst Part.self))) ?_
   refine RL.ldPx (off := 0) (e' := x2) 2 Ex.ik Try_ln3 rfl rfl (Or.inr ⟨rfl, rfl⟩) rfl PtOf.imm Part.self ?_
   refine RL.binI (v := .bool (x0.2.2.1 == x2)) rfl rfl rfl rfl rfl ?_
   refine RL.pickT rfl rfl rfl rfl ?_
   refine RL.asg rfl rfl rfl ?_
   refine RL.fin ?_
   cases h11
   exact fun a w st => mid_intro (x0.2.2.1 == x2) h12 (St.cut [] ⟨rfl, trivial⟩ (by decide) rfl st)
  replace h11 := ite_f b16 h11
  refine RL.skip rfl rfl ?_
  refine RL.skip rfl rfl ?_
  refine RL.skip rfl rfl ?_
  refine RL.skip rfl rfl ?_
  refine RL.pickF rfl rfl rfl rfl ?_
  refine RL.asg rfl rfl rfl ?_
  refine RL.fin ?_
  cases h11
  exact fun a w st => mid_intro false h12 (St.cut [] ⟨rfl, trivial⟩ (by decide) rfl st)
 rintro x8 h17
 have h18 := h13 _ h17
 try dsimp only at h18
 refine GL.weak (env' := [(4, .bool x8)]) (L' := []) (fun _ _ st => st) ?_
 have h18 := Option.some.inj h18
 subst h18
 exact GL.ret (Gx.ret (v := .bool x8) (res1 rfl rfl) (fun a w st => st.toPostV))

set_option maxHeartbeats 4000000 in
theorem queue_find_c (S : Hp) (w : World) (hS : S.sub w) (v0 : Value) (x0 : (List ((List UInt8) × ((List UInt8) × (Int × (Int × (Int × Int))))))) (k0 : ((TR.sl (TR.pair TR.str (TR.pair TR.str (TR.pair TR.int (TR.pair TR.int (TR.pair TR.int TR.int))))))).vrep S v0 x0) (x1 : (List UInt8)) (x2 : Int) (res : Int) (hm : queue_find_m x0 x1 x2 = some res) : Calls Try.prog 47 #[v0, .string ⟨(x1 : List UInt8).toArray⟩, .int .i64 x2] w (PostV w (.int .i64 res)) := by
 refine calls_enter 10 Try.func47 Try.ntmps47 rfl S false [(0, v0), (1, .string ⟨(x1 : List UInt8).toArray⟩), (2, .int .i64 x2)] [imm (TR.sl (TR.pair TR.str (TR.pair TR.str (TR.pair TR.int (TR.pair TR.int (TR.pair TR.int TR.int)))))) v0 x0] rfl ⟨rfl, ⟨rfl, ⟨rfl, trivial⟩⟩⟩ hS ⟨k0, trivial⟩ ?_
 unfold queue_find_m at hm
 refine GL.seq ?_
 refine GL.region ?_
 refine RL.box (t := TR.str) (e := x1) rfl rfl rfl rfl VR.str ?_
 intro v6
 refine RL.box (t := TR.int) (e := x2) rfl rfl rfl rfl VR.int ?_
 intro v7
 refine RL.reL (L' := [imm (TR.sl (TR.pair TR.str (TR.pair TR.str (TR.pair TR.int (TR.pair TR.int (TR.pair TR.int TR.int)))))) v0 x0, obox 9 TR.str v6 x1, obox 3 TR.int v7 x2]) rfl ?_
 refine RL.asg rfl rfl rfl ?_
 refine RL.finG ?_
 refine GL.seq ?_
 refine GL.region ?_
 refine RL.mv rfl rfl rfl ?_
 refine RL.mkF (vs := [v6, v7]) rfl rfl rfl ?_
 obtain ⟨y10, e11, hm⟩ := bind_some hm
 refine RL.callV (v := .int .i64 y10) (vs := [v0, .func (.func 72) #[] #[v6, v7]]) Try_fit71 rfl (Or.inl rfl) rfl rfl rfl rfl (fun U w hU hW hL => slices_IndexFunc_api_Deal_api_Deal_c U w hU _ _ (hL 0 _ _ rfl Seen.imm) 72 #[v6, v7] Try_fit72 (fun a0 => queue_find_1_m a0 x1 x2) (fun U' w' hle hU' u0 a0 q0 rr hr => (queue_find_1_c U' w' hU' u0 a0 q0 _ _ (TR.vrep_mono hle (hL 1 _ _ rfl Seen.obox)) _ _ (TR.vrep_mono hle (hL 2 _ _ rfl Seen.obox)) rr hr).mono (fun _ _ z => z)) _ e11) ?_
 refine RL.asg rfl rfl rfl ?_
 refine RL.finG ?_
 have hm := Option.some.inj hm
 subst hm
 exact GL.ret (Gx.ret (v := .int .i64 y10) (res1 rfl rfl) (fun a w st => st.toPostV))

set_option maxHeartbeats 4000000 in
theorem queue_Check_c (S : Hp) (w : World) (hS : S.sub w) (v0 : Value) (x0 : (List ((List UInt8) × ((List UInt8) × (Int × (Int × (Int × Int))))))) (k0 : ((TR.sl (TR.pair TR.str (TR.pair TR.str (TR.pair TR.int (TR.pair TR.int (TR.pair TR.int TR.int))))))).vrep S v0 x0) (res : Int) (hm : queue_Check_m x0 = some res) : Calls Try.prog 16 #[v0] w (PostV w (.int .i64 res)) := by
 refine calls_enter 31 Try.func16 Try.ntmps16 rfl S false [(0, v0)] [imm (TR.sl (TR.pair TR.str (TR.pair TR.str (TR.pair TR.int (TR.pair TR.int (TR.pair TR.int TR.int)))))) v0 x0] rfl ⟨rfl, trivial⟩ hS ⟨k0, trivial⟩ ?_
 unfold queue_Check_m at hm
 refine GL.seq ?_
 refine GL.region ?_
 refine RL.asg rfl rfl rfl ?_
 refine RL.finG ?_
 refine GL.seq ?_
 refine GL.seq ?_
 refine GL.region ?_
 refine RL.mv rfl rfl rfl ?_
 refine RL.lenS 0 Try.underlying22 rfl rfl rfl rfl SlOf.imm ?_
 refine RL.binI (v := .bool (decide (((x0).length : Int) > (20 : Int)))) rfl rfl rfl rfl rfl ?_
 refine RL.finG ?_
 refine GL.cond rfl (fun b2 => ?_) (fun b2 => ?_)
 ·replace hm := ite_t b2 hm
  refine GL.seq ?_
  refine GL.region ?_
  refine RL.asg rfl rfl rfl ?_
  refine RL.finG ?_
  have hm := Option.some.inj hm
  subst hm
  exact GL.ret (Gx.ret (v := .int .i64 (2 : Int)) (res1 rfl rfl) (fun a w st => st.toPostV))
 replace hm := ite_f b2 hm
 refine GL.skip ?_
 refine GL.seq ?_
 refine GL.seq ?_
 refine GL.region ?_
 refine RL.mv rfl rfl rfl ?_
 refine RL.lenS 0 Try.underlying22 rfl rfl rfl rfl SlOf.imm ?_
 refine RL.mv rfl rfl rfl ?_
 refine RL.finG ?_
 refine GL.open_ 0 rfl (fun S h => len_imm S h) (fun n29 => ?_)
 obtain ⟨y30, K31, h32, h33, h34, h35, h36⟩ := bindR_K hm
 refine GL.join (ι := Unit) (fun (p : Unit) => []) (fun (p : Unit) => []) (fun (p : Unit) => K31 (.nx ())) ?_ ?_
 ·refine GL.block ?_
  refine GL.loop (ι := Nat × (List ((List UInt8) × ((List UInt8) × (Int × (Int × (Int × Int))))))) (fun (p : Nat × (List ((List UInt8) × ((List UInt8) × (Int × (Int × (Int × Int))))))) => [(0, v0), (9, v0), (10, .int .i64 ((x0).length : Int)), (11, .int .i64 (p.1 : Int))]) (fun (p : Nat × (List ((List UInt8) × ((List UInt8) × (Int × (Int × (Int × Int))))))) => [imm (TR.sl (TR.pair TR.str (TR.pair TR.str (TR.pair TR.int (TR.pair TR.int (TR.pair TR.int TR.int)))))) v0 x0]) (fun (p : Nat × (List ((List UInt8) × ((List UInt8) × (Int × (Int × (Int × Int))))))) => p.1 + p.2.length = (x0).length ∧ List.drop p.1 x0 = p.2 ∧ rangeL (queue_Check_b1 x0) p.2 p.1 () = some y30) (fun (p : Nat × (List ((List UInt8) × ((List UInt8) × (Int × (Int × (Int × Int))))))) => p.2.length) (0, x0) ⟨by simp, by simp, h32⟩ (fun a w st => St.cut [0] ⟨rfl, rfl, rfl, rfl, trivial⟩ (by decide) rfl st) ?_
  rintro ⟨i37, r38⟩ ⟨h43, h44, h42⟩
  try dsimp only at h43 h44 h42
  refine GL.weak (env' := [(0, v0), (9, v0), (10, .int .i64 ((x0).length : Int)), (11, .int .i64 (i37 : Int))]) (L' := [imm (TR.sl (TR.pair TR.str (TR.pair TR.str (TR.pair TR.int (TR.pair TR.int (TR.pair TR.int TR.int)))))) v0 x0]) (fun _ _ st => st) ?_
  refine GL.seq ?_
  refine GL.region ?_
  refine RL.binI (v := .bool (decide ((i37 : Int) < ((x0).length : Int)))) rfl rfl rfl rfl rfl ?_
  refine RL.finG ?_
  refine GL.seq ?_
  refine GL.cond rfl (fun b45 => ?_) (fun b45 => ?_)
  ·have h46 : i37 < (x0).length := by have := of_decide_eq_true b45; omega
   obtain ⟨y47, r49, hr, e48, h50⟩ := drop_cons h44 rfl h46
   subst hr
   obtain ⟨z39, h40, h41⟩ := rangeL_some h42
   unfold queue_Check_b1 at h40
   try dsimp only at h40
   refine GL.skip ?_
   refine GL.seq ?_
   refine GL.block ?_
   refine GL.seq ?_
   refine GL.region ?_
   refine RL.mv rfl rfl rfl ?_
   refine RL.idxS (sz := 6) 0 Try.underlying22 Try_ln25 rfl rfl rfl rfl rfl SlOf.imm (by omega) (by omega) ?_
   refine RL.ldS (i := i37) (r := (TR.pair TR.str (TR.pair TR.str (TR.pair TR.int (TR.pair TR.int (TR.pair TR.int TR.int)))))) (e' := y47) 0 Try_ln25 rfl rfl rfl rfl SlOf.imm e48 Part.self ?_
   intro v53
   refine RL.alloc (t := (TR.pair TR.str (TR.pair TR.str (TR.pair TR.int (TR.pair TR.int (TR.pair TR.int TR.int)))))) (z := (([] : List UInt8), ([] : List UInt8), (0 : Int), (0 : Int), (0 : Int), (0 : Int))) Try_lo25 (fun S => ⟨[.string ⟨#[]⟩], _, rfl, rfl, ⟨[.string ⟨#[]⟩], _, rfl, rfl, ⟨[.int .i64 0], _, rfl, rfl, ⟨[.int .i64 0], _, rfl, rfl, ⟨[.int .i64 0], _, rfl, rfl, rfl⟩⟩⟩⟩⟩) rfl rfl rfl ?_
   intro v54
   refine RL.reL (L' := [imm (TR.sl (TR.pair TR.str (TR.pair TR.str (TR.pair TR.int (TR.pair TR.int (TR.pair TR.int TR.int)))))) v0 x0, imm (TR.pair TR.str (TR.pair TR.str (TR.pair TR.int (TR.pair TR.int (TR.pair TR.int TR.int))))) v53 y47, obox 25 (TR.pair TR.str (TR.pair TR.str (TR.pair TR.int (TR.pair TR.int (TR.pair TR.int TR.int))))) v54 (([] : List UInt8), ([] : List UInt8), (0 : Int), (0 : Int), (0 : Int), (0 : Int))]) rfl ?_
   refine RL.asg rfl rfl rfl ?_
   refine RL.stP (off := 0) (e' := y47) (d1 := y47) (r := (TR.pair TR.str (TR.pair TR.str (TR.pair TR.int (TR.pair TR.int (TR.pair TR.int TR.int)))))) 2 Try_ln25 rfl rfl (Or.inr ⟨rfl, rfl⟩) rfl (VR.item 1 rfl) rfl Upd.self ?_
   refine RL.finG ?_
   refine GL.seq ?_
   refine GL.seq ?_
   refine GL.region ?_
   refine RL.ldP (off := 0) (r := (TR.pair TR.str (TR.pair TR.str (TR.pair TR.int (TR.pair TR.int (TR.pair TR.int TR.int)))))) (e' := y47) 2 Try_ln25 rfl rfl (Or.inr ⟨rfl, rfl⟩) rfl PtOf.obox Part.self ?_
   intro v58
   refine RL.reL (L' := [imm (TR.sl (TR.pair TR.str (TR.pair TR.str (TR.pair TR.int (TR.pair TR.int (TR.pair TR.int TR.int)))))) v0 x0, imm (TR.pair TR.str (TR.pair TR.str (TR.pair TR.int (TR.pair TR.int (TR.pair TR.int TR.int))))) v53 y47, obox 25 (TR.pair TR.str (TR.pair TR.str (TR.pair TR.int (TR.pair TR.int (TR.pair TR.int TR.int))))) v54 y47, imm (TR.pair TR.str (TR.pair TR.str (TR.pair TR.int (TR.pair TR.int (TR.pair TR.int TR.int))))) v58 y47]) rfl ?_
   obtain ⟨y59, e60, h40⟩ := bind_some h40
   refine RL.callV (v := .int .i64 y59) (vs := [v58]) Try_fit46 rfl (Or.inl rfl) rfl rfl rfl rfl (fun U w hU hW hL => ledger_Right_c U w hU _ _ (hL 3 _ _ rfl Seen.imm) _ e60) ?_
   refine RL.asg rfl rfl rfl ?_
   refine RL.finG ?_
   refine GL.seq ?_
   refine GL.region ?_
   refine RL.mv rfl rfl rfl ?_
   refine RL.binI (v := .bool (y59 != (0 : Int))) rfl rfl rfl rfl rfl ?_
   refine RL.finG ?_
   refine GL.cond rfl (fun b61 => ?_) (fun b61 => ?_)
   ·replace h40 := ite_t b61 h40
    refine GL.seq ?_
    refine GL.region ?_
    refine RL.mv rfl rfl rfl ?_
    refine RL.asg rfl rfl rfl ?_
    refine RL.finG ?_
    cases h40
    replace h41 : some (Fl.rt _) = some y30 := h41
    cases h41
    have hh := h35 _ h33
    subst hh
    exact GL.ret (Gx.ret (v := .int .i64 y59) (res1 rfl rfl) (fun a w st => st.toPostV))
   replace h40 := ite_f b61 h40
   refine GL.skip ?_
   refine GL.seq ?_
   refine GL.regionQ rfl rfl (by kernel_rfl) ?_
   refine RL.mv rfl rfl rfl ?_
   refine RL.mv rfl rfl rfl ?_
   obtain ⟨y67, e68, h40⟩ := bind_some h40
   replace e68 := chk_some e68
   refine RL.slc (t := (TR.pair TR.str (TR.pair TR.str (TR.pair TR.int (TR.pair TR.int (TR.pair TR.int TR.int)))))) (i := 0) (j := ((i37 : Int)).toNat) (sz := 6) 0 Try.underlying22 Try_ln25 rfl rfl rfl rfl (Or.inl ⟨rfl, rfl⟩) (Or.inr ⟨_, _, rfl, by rw [Int.toNat_of_nonneg (by omega)]; rfl⟩) rfl (by omega) (by omega) ?_
   intro v69
   refine RL.fadr (off := 0) (fo := 0) 2 Try_fld25_0 rfl rfl rfl PtOf.obox (Or.inr ⟨rfl, rfl⟩) ?_
   refine RL.ldPx (off := (0 + 0)) (e' := y47.1) 2 Ex.str Try_ln9 rfl rfl (Or.inl rfl) rfl PtOf.obox (Part.fst Part.self) ?_
   refine RL.fadr (off := 0) (fo := 2) 2 Try_fld25_2 rfl rfl rfl PtOf.obox (Or.inr ⟨rfl, rfl⟩) ?_
   refine RL.ldPx (off := (0 + 2)) (e' := y47.2.2.1) 2 Ex.ik Try_ln3 rfl rfl (Or.inl rfl) rfl PtOf.obox (Part.snd (Part.snd (Part.fst Part.self))) ?_
   obtain ⟨y70, e71, h40⟩ := bind_some h40
   refine RL.callV (v := .int .i64 y70) (vs := [v69, .string ⟨(y47.1 : List UInt8).toArray⟩, .int .i64 y47.2.2.1]) Try_fit47 rfl (Or.inr ⟨_, rfl⟩) rfl rfl rfl rfl (fun U w hU hW hL => queue_find_c U w hU _ _ (hL 4 _ _ rfl Seen.imm) y47.1 y47.2.2.1 _ e71) ?_
   refine RL.binI (v := .bool (decide (y70 ≥ (0 : Int)))) rfl rfl rfl rfl rfl ?_
   refine RL.finQG ?_
   refine GL.cond rfl (fun b72 => ?_) (fun b72 => ?_)
   ·replace h40 := ite_t b72 h40
    refine GL.seq ?_
    refine GL.region ?_
    refine RL.asg rfl rfl rfl ?_
    refine RL.finG ?_
    cases h40
    replace h41 : some (Fl.rt _) = some y30 := h41
    cases h41
    have hh := h35 _ h33
    subst hh
    exact GL.ret (Gx.ret (v := .int .i64 (7 : Int)) (res1 rfl rfl) (fun a w st => st.toPostV))
   replace h40 := ite_f b72 h40
   refine GL.skip ?_
   refine GL.nilB ?_
   refine GL.region ?_
   refine RL.binI (v := .int .i64 ((i37 + 1 : Nat) : Int)) rfl rfl rfl rfl (binI_succ i37 (by omega)) ?_
   refine RL.mv rfl rfl rfl ?_
   refine RL.fin ?_
   cases h40
   exact fun a w st => lop_intro (i37 + 1, r49) ⟨by show i37 + 1 + r49.length = (x0).length; simp only [List.length_cons] at h43; omega, h50, h41⟩ (by simp) (St.cut [0] ⟨rfl, rfl, rfl, rfl, trivial⟩ (by decide) rfl st)
  have h46 : ¬ i37 < (x0).length := by have := of_decide_eq_false b45; omega
  obtain rfl : r38 = [] := by rw [← h44]; exact List.drop_of_length_le (by omega)
  replace h42 : some (Fl.nx _) = some y30 := h42
  cases h42
  exact GL.exit (fun a w st => mid_intro () h33 (St.cut [] trivial (by decide) rfl st))
 rintro ⟨⟩ h73
 have h74 := h34 _ h73
 try dsimp only at h74
 refine GL.weak (env' := []) (L' := []) (fun _ _ st => st) ?_
 refine GL.seq ?_
 refine GL.region ?_
 refine RL.asg rfl rfl rfl ?_
 refine RL.finG ?_
 have h74 := Option.some.inj h74
 subst h74
 exact GL.ret (Gx.ret (v := .int .i64 (0 : Int)) (res1 rfl rfl) (fun a w st => st.toPostV))

set_option maxHeartbeats 4000000 in
theorem slices_Clone_api_Deal_api_Deal_c (S : Hp) (w : World) (hS : S.sub w) (v0 : Value) (x0 : List ((List UInt8) × ((List UInt8) × (Int × (Int × (Int × Int)))))) (k0 : (TR.sl (TR.pair TR.str (TR.pair TR.str (TR.pair TR.int (TR.pair TR.int (TR.pair TR.int TR.int)))))).vrep S v0 x0) (res : List ((List UInt8) × ((List UInt8) × (Int × (Int × (Int × Int)))))) (hm : slices_Clone_api_Deal_api_Deal_m x0 = some res) : Calls Try.prog 48 #[v0] w (Post w S (fun (o : Value) => o) (fun (o : Value) => [own 25 (TR.pair TR.str (TR.pair TR.str (TR.pair TR.int (TR.pair TR.int (TR.pair TR.int TR.int))))) o res])) := by
  refine calls_enter 8 Try.func48 Try.ntmps48 rfl S false [(0, v0)] [imm (TR.sl (TR.pair TR.str (TR.pair TR.str (TR.pair TR.int (TR.pair TR.int (TR.pair TR.int TR.int)))))) v0 x0] rfl ⟨rfl, trivial⟩ hS ⟨k0, trivial⟩ ?_
  unfold slices_Clone_api_Deal_api_Deal_m at hm
  obtain ⟨_, hc, hm⟩ := bind_some hm
  replace hc := chk_some hc
  have hm := Option.some.inj hm
  subst hm
  refine GL.seq (GL.region (RL.asg rfl rfl rfl (RL.finG (GL.seq (GL.seq (GL.region ?_))))))
  refine RL.mv rfl rfl rfl ?_
  refine RL.eqNil 0 Try.underlying22 rfl rfl rfl rfl rfl SlOf.imm (fun b hb => ?_)
  refine RL.finG (GL.cond rfl (fun h => ?_) (fun h => ?_))
  · have := hb h
    subst this
    refine GL.seq (GL.region (RL.asg rfl rfl rfl (RL.finG ?_)))
    refine GL.weak (fun a w st => st.nilOwn 25 (TR.pair TR.str (TR.pair TR.str (TR.pair TR.int (TR.pair TR.int (TR.pair TR.int TR.int)))))) ?_
    exact GL.ret (Gx.ret (v := Value.slice none 0 0) (res1 rfl rfl) (fun a w st => (st.pick [1] (by decide) rfl).toPost (Value.slice none 0 0)))
  · refine GL.skip (GL.seq (GL.region ?_))
    refine RL.bS (t := (TR.pair TR.str (TR.pair TR.str (TR.pair TR.int (TR.pair TR.int (TR.pair TR.int TR.int)))))) (vs := []) ([] : List ((List UInt8) × ((List UInt8) × (Int × (Int × (Int × Int)))))) Try.underlying22 Try_lo25 rfl rfl rfl rfl trivial rfl (by decide) ?_
    intro v1
    refine RL.mv rfl rfl rfl ?_
    refine RL.app 1 0 Try.underlying22 Try_lo25 rfl rfl rfl rfl rfl rfl rfl SlOf.imm (by simpa using hc) ?_
    intro v2
    refine RL.asg rfl rfl rfl (RL.finG ?_)
    exact GL.ret (Gx.ret (v := v2) (res1 rfl rfl) (fun a w st => (st.pick [1] (by decide) rfl).toPost v2))

set_option maxHeartbeats 4000000 in
theorem queue_Add_c (S : Hp) (w : World) (hS : S.sub w) (v0 : Value) (x0 : (List ((List UInt8) × ((List UInt8) × (Int × (Int × (Int × Int))))))) (k0 : ((TR.sl (TR.pair TR.str (TR.pair TR.str (TR.pair TR.int (TR.pair TR.int (TR.pair TR.int TR.int))))))).vrep S v0 x0) (v1 : Value) (x1 : ((List UInt8) × ((List UInt8) × (Int × (Int × (Int × Int)))))) (k1 : ((TR.pair TR.str (TR.pair TR.str (TR.pair TR.int (TR.pair TR.int (TR.pair TR.int TR.int)))))).vrep S v1 x1) (res : (List ((List UInt8) × ((List UInt8) × (Int × (Int × (Int × Int)))))) × Int) (hm : queue_Add_m x0 x1 = some res) : Calls Try.prog 15 #[v0, v1] w (Post w S (fun (o : Value) => .tuple #[o, .int .i64 res.2]) (fun (o : Value) => [own 25 (TR.pair TR.str (TR.pair TR.str (TR.pair TR.int (TR.pair TR.int (TR.pair TR.int TR.int))))) o res.1])) := by
 refine calls_enter 51 Try.func15 Try.ntmps15 rfl S false [(0, v0), (1, v1)] [imm (TR.sl (TR.pair TR.str (TR.pair TR.str (TR.pair TR.int (TR.pair TR.int (TR.pair TR.int TR.int)))))) v0 x0, imm (TR.pair TR.str (TR.pair TR.str (TR.pair TR.int (TR.pair TR.int (TR.pair TR.int TR.int))))) v1 x1] rfl ⟨rfl, ⟨rfl, trivial⟩⟩ hS ⟨k0, ⟨k1, trivial⟩⟩ ?_
 unfold queue_Add_m at hm
 refine GL.seq ?_
 refine GL.region ?_
 refine RL.box (t := (TR.pair TR.str (TR.pair TR.str (TR.pair TR.int (TR.pair TR.int (TR.pair TR.int TR.int)))))) (e := x1) rfl rfl rfl rfl (VR.item 1 rfl) ?_
 intro v4
 refine RL.asg rfl rfl rfl ?_
 refine RL.asg rfl rfl rfl ?_
 refine RL.finG ?_
 refine GL.seq ?_
 refine GL.seq ?_
 refine GL.region ?_
 refine RL.mv rfl rfl rfl ?_
 obtain ⟨y7, e8, hm⟩ := bind_some hm
 refine RL.callV (v := .int .i64 y7) (vs := [v0]) Try_fit16 rfl (Or.inl rfl) rfl rfl rfl rfl (fun U w hU hW hL => queue_Check_c U w hU _ _ (hL 0 _ _ rfl Seen.imm) _ e8) ?_
 refine RL.asg rfl rfl rfl ?_
 refine RL.finG ?_
 refine GL.seq ?_
 refine GL.region ?_
 refine RL.mv rfl rfl rfl ?_
 refine RL.binI (v := .bool (y7 != (0 : Int))) rfl rfl rfl rfl rfl ?_
 refine RL.finG ?_
 refine GL.cond rfl (fun b9 => ?_) (fun b9 => ?_)
 ·replace hm := ite_t b9 hm
  refine GL.seq ?_
  refine GL.region ?_
  refine RL.mv rfl rfl rfl ?_
  refine RL.asg rfl rfl rfl ?_
  refine RL.asg rfl rfl rfl ?_
  refine RL.finG ?_
  refine GL.weak (fun a w st => st.nilOwn 25 (TR.pair TR.str (TR.pair TR.str (TR.pair TR.int (TR.pair TR.int (TR.pair TR.int TR.int)))))) ?_
  have hm := Option.some.inj hm
  subst hm
  exact GL.ret (Gx.ret (v := .tuple #[Value.slice none 0 0, .int .i64 y7]) (res2 rfl rfl rfl) (fun a w st => (st.pick [3] (by decide) rfl).toPost (Value.slice none 0 0)))
 replace hm := ite_f b9 hm
 refine GL.skip ?_
 refine GL.seq ?_
 refine GL.seq ?_
 refine GL.region ?_
 refine RL.ldP (off := 0) (r := (TR.pair TR.str (TR.pair TR.str (TR.pair TR.int (TR.pair TR.int (TR.pair TR.int TR.int)))))) (e' := x1) 2 Try_ln25 rfl rfl (Or.inr ⟨rfl, rfl⟩) rfl PtOf.obox Part.self ?_
 intro v13
 refine RL.reL (L' := [imm (TR.sl (TR.pair TR.str (TR.pair TR.str (TR.pair TR.int (TR.pair TR.int (TR.pair TR.int TR.int)))))) v0 x0, imm (TR.pair TR.str (TR.pair TR.str (TR.pair TR.int (TR.pair TR.int (TR.pair TR.int TR.int))))) v1 x1, obox 25 (TR.pair TR.str (TR.pair TR.str (TR.pair TR.int (TR.pair TR.int (TR.pair TR.int TR.int))))) v4 x1, imm (TR.pair TR.str (TR.pair TR.str (TR.pair TR.int (TR.pair TR.int (TR.pair TR.int TR.int))))) v13 x1]) rfl ?_
 obtain ⟨y14, e15, hm⟩ := bind_some hm
 refine RL.callV (v := .int .i64 y14) (vs := [v13]) Try_fit46 rfl (Or.inl rfl) rfl rfl rfl rfl (fun U w hU hW hL => ledger_Right_c U w hU _ _ (hL 3 _ _ rfl Seen.imm) _ e15) ?_
 refine RL.asg rfl rfl rfl ?_
 refine RL.finG ?_
 refine GL.seq ?_
 refine GL.region ?_
 refine RL.mv rfl rfl rfl ?_
 refine RL.binI (v := .bool (y14 != (0 : Int))) rfl rfl rfl rfl rfl ?_
 refine RL.finG ?_
 refine GL.cond rfl (fun b16 => ?_) (fun b16 => ?_)
 ·replace hm := ite_t b16 hm
  refine GL.seq ?_
  refine GL.region ?_
  refine RL.mv rfl rfl rfl ?_
  refine RL.asg rfl rfl rfl ?_
  refine RL.asg rfl rfl rfl ?_
  refine RL.finG ?_
  refine GL.weak (fun a w st => st.nilOwn 25 (TR.pair TR.str (TR.pair TR.str (TR.pair TR.int (TR.pair TR.int (TR.pair TR.int TR.int)))))) ?_
  have hm := Option.some.inj hm
  subst hm
  exact GL.ret (Gx.ret (v := .tuple #[Value.slice none 0 0, .int .i64 y14]) (res2 rfl rfl rfl) (fun a w st => (st.pick [4] (by decide) rfl).toPost (Value.slice none 0 0)))
 replace hm := ite_f b16 hm
 refine GL.skip ?_
 refine GL.seq ?_
 refine GL.seq ?_
 refine GL.region ?_
 refine RL.mv rfl rfl rfl ?_
 refine RL.fadr (off := 0) (fo := 0) 2 Try_fld25_0 rfl rfl rfl PtOf.obox (Or.inr ⟨rfl, rfl⟩) ?_
 refine RL.ldPx (off := (0 + 0)) (e' := x1.1) 2 Ex.str Try_ln9 rfl rfl (Or.inl rfl) rfl PtOf.obox (Part.fst Part.self) ?_
 refine RL.fadr (off := 0) (fo := 2) 2 Try_fld25_2 rfl rfl rfl PtOf.obox (Or.inr ⟨rfl, rfl⟩) ?_
 refine RL.ldPx (off := (0 + 2)) (e' := x1.2.2.1) 2 Ex.ik Try_ln3 rfl rfl (Or.inl rfl) rfl PtOf.obox (Part.snd (Part.snd (Part.fst Part.self))) ?_
 obtain ⟨y19, e20, hm⟩ := bind_some hm
 refine RL.callV (v := .int .i64 y19) (vs := [v0, .string ⟨(x1.1 : List UInt8).toArray⟩, .int .i64 x1.2.2.1]) Try_fit47 rfl (Or.inl rfl) rfl rfl rfl rfl (fun U w hU hW hL => queue_find_c U w hU _ _ (hL 0 _ _ rfl Seen.imm) x1.1 x1.2.2.1 _ e20) ?_
 refine RL.asg rfl rfl rfl ?_
 refine RL.finG ?_
 refine GL.seq ?_
 refine GL.region ?_
 refine RL.mv rfl rfl rfl ?_
 refine RL.binI (v := .bool (decide (y19 ≥ (0 : Int)))) rfl rfl rfl rfl rfl ?_
 refine RL.finG ?_
 refine GL.cond rfl (fun b21 => ?_) (fun b21 => ?_)
 ·replace hm := ite_t b21 hm
  refine GL.seq ?_
  refine GL.seq ?_
  refine GL.regionQ rfl rfl (by kernel_rfl) ?_
  refine RL.fadr (off := 0) (fo := 4) 2 Try_fld25_4 rfl rfl rfl PtOf.obox (Or.inr ⟨rfl, rfl⟩) ?_
  refine RL.ldPx (off := (0 + 4)) (e' := x1.2.2.2.2.1) 2 Ex.ik Try_ln3 rfl rfl (Or.inl rfl) rfl PtOf.obox (Part.snd (Part.snd (Part.snd (Part.snd (Part.fst Part.self))))) ?_
  refine RL.mv rfl rfl rfl ?_
  refine RL.mv rfl rfl rfl ?_
  obtain ⟨y24, e25, hm⟩ := bind_some hm
  refine RL.idxS (sz := 6) 0 Try.underlying22 Try_ln25 rfl rfl rfl rfl rfl SlOf.imm (idx_some e25).1 (idx_some e25).2.1 ?_
  refine RL.fadrS (off := ((y19).toNat * 6)) (fo := 4) 0 Try_fld25_4 rfl rfl rfl SlOf.imm (by have := (List.getElem?_eq_some_iff.1 (idx_some e25).2.2).1; omega) rfl ?_
  refine RL.ldSx (i := (y19).toNat) (e' := y24.2.2.2.2.1) 0 Ex.ik Try_ln3 rfl rfl rfl rfl SlOf.imm (idx_some e25).2.2 (Part.snd (Part.snd (Part.snd (Part.snd (Part.fst Part.self))))) ?_
  refine RL.binI (v := .bool (decide (x1.2.2.2.2.1 ≤ y24.2.2.2.2.1))) rfl rfl rfl rfl rfl ?_
  refine RL.finQG ?_
  refine GL.cond rfl (fun b26 => ?_) (fun b26 => ?_)
  ·replace hm := ite_t b26 hm
   refine GL.seq ?_
   refine GL.region ?_
   refine RL.asg rfl rfl rfl ?_
   refine RL.asg rfl rfl rfl ?_
   refine RL.finG ?_
   refine GL.weak (fun a w st => st.nilOwn 25 (TR.pair TR.str (TR.pair TR.str (TR.pair TR.int (TR.pair TR.int (TR.pair TR.int TR.int)))))) ?_
   have hm := Option.some.inj hm
   subst hm
   exact GL.ret (Gx.ret (v := .tuple #[Value.slice none 0 0, .int .i64 (7 : Int)]) (res2 rfl rfl rfl) (fun a w st => (st.pick [4] (by decide) rfl).toPost (Value.slice none 0 0)))
  replace hm := ite_f b26 hm
  refine GL.skip ?_
  refine GL.seq ?_
  refine GL.region ?_
  refine RL.mv rfl rfl rfl ?_
  obtain ⟨y30, e31, hm⟩ := bind_some hm
  refine RL.call (vs := [v0]) Try_fit48 rfl rfl rfl rfl rfl (fun S f w hS hW hi => slices_Clone_api_Deal_api_Deal_c S w hS _ _ (hi 0 _ rfl) _ e31) ?_
  intro v32
  refine RL.asg rfl rfl rfl ?_
  refine RL.finG ?_
  refine GL.seq ?_
  refine GL.region ?_
  refine RL.mv rfl rfl rfl ?_
  refine RL.mv rfl rfl rfl ?_
  refine RL.ldP (off := 0) (r := (TR.pair TR.str (TR.pair TR.str (TR.pair TR.int (TR.pair TR.int (TR.pair TR.int TR.int)))))) (e' := x1) 2 Try_ln25 rfl rfl (Or.inr ⟨rfl, rfl⟩) rfl PtOf.obox Part.self ?_
  intro v36
  refine RL.reL (L' := [imm (TR.sl (TR.pair TR.str (TR.pair TR.str (TR.pair TR.int (TR.pair TR.int (TR.pair TR.int TR.int)))))) v0 x0, imm (TR.pair TR.str (TR.pair TR.str (TR.pair TR.int (TR.pair TR.int (TR.pair TR.int TR.int))))) v1 x1, obox 25 (TR.pair TR.str (TR.pair TR.str (TR.pair TR.int (TR.pair TR.int (TR.pair TR.int TR.int))))) v4 x1, imm (TR.pair TR.str (TR.pair TR.str (TR.pair TR.int (TR.pair TR.int (TR.pair TR.int TR.int))))) v13 x1, own 25 (TR.pair TR.str (TR.pair TR.str (TR.pair TR.int (TR.pair TR.int (TR.pair TR.int TR.int))))) v32 y30, imm (TR.pair TR.str (TR.pair TR.str (TR.pair TR.int (TR.pair TR.int (TR.pair TR.int TR.int))))) v36 x1]) rfl ?_
  obtain ⟨y37, e38, hm⟩ := bind_some hm
  refine RL.idxS (sz := 6) 4 Try.underlying22 Try_ln25 rfl rfl rfl rfl rfl SlOf.own (idx_some e38).1 (idx_some e38).2.1 ?_
  refine RL.stS (i := (y19).toNat) (e' := x1) (e1 := x1) (r := (TR.pair TR.str (TR.pair TR.str (TR.pair TR.int (TR.pair TR.int (TR.pair TR.int TR.int)))))) 4 Try_ln25 rfl rfl rfl rfl (VR.item 5 rfl) rfl (idx_some e38).2.2 Upd.self ?_
  refine RL.finG ?_
  refine GL.seq ?_
  refine GL.region ?_
  refine RL.mv rfl rfl rfl ?_
  refine RL.asg rfl rfl rfl ?_
  refine RL.asg rfl rfl rfl ?_
  refine RL.finG ?_
  have hm := Option.some.inj hm
  subst hm
  exact GL.ret (Gx.ret (v := .tuple #[v32, .int .i64 (0 : Int)]) (res2 rfl rfl rfl) (fun a w st => (st.pick [4] (by decide) rfl).toPost v32))
 replace hm := ite_f b21 hm
 refine GL.skip ?_
 refine GL.seq ?_
 refine GL.seq ?_
 refine GL.region ?_
 refine RL.mv rfl rfl rfl ?_
 refine RL.lenS 0 Try.underlying22 rfl rfl rfl rfl SlOf.imm ?_
 refine RL.binI (v := .bool (((x0).length : Int) == (20 : Int))) rfl rfl rfl rfl rfl ?_
 refine RL.finG ?_
 refine GL.cond rfl (fun b39 => ?_) (fun b39 => ?_)
 ·replace hm := ite_t b39 hm
  refine GL.seq ?_
  refine GL.region ?_
  refine RL.asg rfl rfl rfl ?_
  refine RL.asg rfl rfl rfl ?_
  refine RL.finG ?_
  refine GL.weak (fun a w st => st.nilOwn 25 (TR.pair TR.str (TR.pair TR.str (TR.pair TR.int (TR.pair TR.int (TR.pair TR.int TR.int)))))) ?_
  have hm := Option.some.inj hm
  subst hm
  exact GL.ret (Gx.ret (v := .tuple #[Value.slice none 0 0, .int .i64 (8 : Int)]) (res2 rfl rfl rfl) (fun a w st => (st.pick [4] (by decide) rfl).toPost (Value.slice none 0 0)))
 replace hm := ite_f b39 hm
 refine GL.skip ?_
 refine GL.seq ?_
 refine GL.regionA rfl rfl ?_
 refine RA.mv 0 rfl (by kernel_rfl) rfl rfl rfl ?_
 obtain ⟨y65, e66, hm⟩ := bind_some hm
 refine RA.meet (ι := Value × Value) (fun (p : Value × Value) => [(47, p.1), (49, p.2)]) (fun (p : Value × Value) => [own 25 (TR.pair TR.str (TR.pair TR.str (TR.pair TR.int (TR.pair TR.int (TR.pair TR.int TR.int))))) p.1 y65, own 25 (TR.pair TR.str (TR.pair TR.str (TR.pair TR.int (TR.pair TR.int (TR.pair TR.int TR.int))))) p.2 ([x1] : (List ((List UInt8) × ((List UInt8) × (Int × (Int × (Int × Int)))))))]) 3 #[true, true, true, true, false, false, false] (fun h75 => ?_) ?_
 ·skip
  refine RA.meet (ι := Value) (fun (p : Value) => [(46, v0), (49, p)]) (fun (p : Value) => [imm (TR.sl (TR.pair TR.str (TR.pair TR.str (TR.pair TR.int (TR.pair TR.int (TR.pair TR.int TR.int)))))) v0 x0, own 25 (TR.pair TR.str (TR.pair TR.str (TR.pair TR.int (TR.pair TR.int (TR.pair TR.int TR.int))))) p ([x1] : (List ((List UInt8) × ((List UInt8) × (Int × (Int × (Int × Int)))))))]) 4 #[true, false, true, true, false, false, false] (fun h76 => ?_) ?_
  rotate_left
  ·rintro v73
   refine RA.weak (env' := [(46, v0), (49, v73)]) (L' := [imm (TR.sl (TR.pair TR.str (TR.pair TR.str (TR.pair TR.int (TR.pair TR.int (TR.pair TR.int TR.int)))))) v0 x0, own 25 (TR.pair TR.str (TR.pair TR.str (TR.pair TR.int (TR.pair TR.int (TR.pair TR.int TR.int))))) v73 ([x1] : (List ((List UInt8) × ((List UInt8) × (Int × (Int × (Int × Int)))))))]) (fun _ _ st => st) ?_
   refine RA.seq 1 rfl (by kernel_rfl) ?_
   refine RL.call (vs := [v0]) Try_fit48 rfl rfl rfl rfl rfl (fun S f w hS hW hi => slices_Clone_api_Deal_api_Deal_c S w hS _ _ (hi 0 _ rfl) _ e66) ?_
   intro v86
   refine RL.fin ?_
   refine RA.next ?_
   refine RA.relist 3 #[true, true, true, true, false, false, false] rfl (by kernel_rfl) ?_
   exact fun a w st => h75 (v86, v73) a w (St.cut [2, 1] ⟨rfl, rfl, trivial⟩ (by decide) rfl st)
  refine RA.meet (ι := Value × Value) (fun (p : Value × Value) => [(47, p.1), (48, p.2)]) (fun (p : Value × Value) => [own 25 (TR.pair TR.str (TR.pair TR.str (TR.pair TR.int (TR.pair TR.int (TR.pair TR.int TR.int))))) p.1 y65, imm (TR.pair TR.str (TR.pair TR.str (TR.pair TR.int (TR.pair TR.int (TR.pair TR.int TR.int))))) p.2 x1]) 4 #[true, true, true, false, false, false, false] (fun h77 => ?_) ?_
  rotate_left
  ·rintro ⟨v70, v72⟩
   refine RA.weak (env' := [(47, v70), (48, v72)]) (L' := [own 25 (TR.pair TR.str (TR.pair TR.str (TR.pair TR.int (TR.pair TR.int (TR.pair TR.int TR.int))))) v70 y65, imm (TR.pair TR.str (TR.pair TR.str (TR.pair TR.int (TR.pair TR.int (TR.pair TR.int TR.int))))) v72 x1]) (fun _ _ st => st) ?_
   refine RA.seq 3 rfl (by kernel_rfl) ?_
   refine RL.bS (t := (TR.pair TR.str (TR.pair TR.str (TR.pair TR.int (TR.pair TR.int (TR.pair TR.int TR.int)))))) (vs := [v72]) ([x1] : (List ((List UInt8) × ((List UInt8) × (Int × (Int × (Int × Int))))))) Try.underlying22 Try_lo25 rfl rfl rfl rfl ⟨(VR.item 1 rfl), trivial⟩ rfl (by decide) ?_
   intro v85
   refine RL.fin ?_
   refine RA.next ?_
   refine RA.relist 3 #[true, true, true, true, false, false, false] rfl (by kernel_rfl) ?_
   exact fun a w st => h75 (v70, v85) a w (St.cut [0, 2] ⟨rfl, rfl, trivial⟩ (by decide) rfl st)
  refine RA.meet (ι := Value) (fun (p : Value) => [(3, v4), (47, p)]) (fun (p : Value) => [obox 25 (TR.pair TR.str (TR.pair TR.str (TR.pair TR.int (TR.pair TR.int (TR.pair TR.int TR.int))))) v4 x1, own 25 (TR.pair TR.str (TR.pair TR.str (TR.pair TR.int (TR.pair TR.int (TR.pair TR.int TR.int))))) p y65]) 5 #[true, true, false, false, false, false, false] (fun h78 => ?_) ?_
  rotate_left
  ·rintro v70
   refine RA.weak (env' := [(3, v4), (47, v70)]) (L' := [obox 25 (TR.pair TR.str (TR.pair TR.str (TR.pair TR.int (TR.pair TR.int (TR.pair TR.int TR.int))))) v4 x1, own 25 (TR.pair TR.str (TR.pair TR.str (TR.pair TR.int (TR.pair TR.int (TR.pair TR.int TR.int))))) v70 y65]) (fun _ _ st => st) ?_
   refine RA.seq 2 rfl (by kernel_rfl) ?_
   refine RL.ldP (off := 0) (r := (TR.pair TR.str (TR.pair TR.str (TR.pair TR.int (TR.pair TR.int (TR.pair TR.int TR.int)))))) (e' := x1) 0 Try_ln25 rfl rfl (Or.inr ⟨rfl, rfl⟩) rfl PtOf.obox Part.self ?_
   intro v84
   refine RL.fin ?_
   refine RA.next ?_
   refine RA.relist 4 #[true, true, true, false, false, false, false] rfl (by kernel_rfl) ?_
   exact fun a w st => h77 (v70, v84) a w (St.cut [1, 2] ⟨rfl, rfl, trivial⟩ (by decide) rfl st)
  refine RA.meet (ι := Value) (fun (p : Value) => [(46, v0), (48, p)]) (fun (p : Value) => [imm (TR.sl (TR.pair TR.str (TR.pair TR.str (TR.pair TR.int (TR.pair TR.int (TR.pair TR.int TR.int)))))) v0 x0, imm (TR.pair TR.str (TR.pair TR.str (TR.pair TR.int (TR.pair TR.int (TR.pair TR.int TR.int))))) p x1]) 5 #[true, false, true, false, false, false, false] (fun h79 => ?_) ?_
  rotate_left
  ·rintro v71
   refine RA.weak (env' := [(46, v0), (48, v71)]) (L' := [imm (TR.sl (TR.pair TR.str (TR.pair TR.str (TR.pair TR.int (TR.pair TR.int (TR.pair TR.int TR.int)))))) v0 x0, imm (TR.pair TR.str (TR.pair TR.str (TR.pair TR.int (TR.pair TR.int (TR.pair TR.int TR.int))))) v71 x1]) (fun _ _ st => st) ?_
   refine RA.many [1, 3] (by kernel_rfl) ⟨⟨_, rfl, ?_⟩, ⟨_, rfl, ?_⟩, trivial⟩
   ·skip
    refine RL.call (vs := [v0]) Try_fit48 rfl rfl rfl rfl rfl (fun S f w hS hW hi => slices_Clone_api_Deal_api_Deal_c S w hS _ _ (hi 0 _ rfl) _ e66) ?_
    intro v82
    refine RL.fin ?_
    refine RA.next ?_
    refine RA.relist 4 #[true, true, true, false, false, false, false] rfl (by kernel_rfl) ?_
    exact fun a w st => h77 (v82, v71) a w (St.cut [2, 1] ⟨rfl, rfl, trivial⟩ (by decide) rfl st)
   refine RL.bS (t := (TR.pair TR.str (TR.pair TR.str (TR.pair TR.int (TR.pair TR.int (TR.pair TR.int TR.int)))))) (vs := [v71]) ([x1] : (List ((List UInt8) × ((List UInt8) × (Int × (Int × (Int × Int))))))) Try.underlying22 Try_lo25 rfl rfl rfl rfl ⟨(VR.item 1 rfl), trivial⟩ rfl (by decide) ?_
   intro v83
   refine RL.fin ?_
   refine RA.next ?_
   refine RA.relist 4 #[true, false, true, true, false, false, false] rfl (by kernel_rfl) ?_
   exact fun a w st => h76 v83 a w (St.cut [0, 2] ⟨rfl, rfl, trivial⟩ (by decide) rfl st)
  refine RA.many [1, 2] (by kernel_rfl) ⟨⟨_, rfl, ?_⟩, ⟨_, rfl, ?_⟩, trivial⟩
  ·skip
   refine RL.call (vs := [v0]) Try_fit48 rfl rfl rfl rfl rfl (fun S f w hS hW hi => slices_Clone_api_Deal_api_Deal_c S w hS _ _ (hi 0 _ rfl) _ e66) ?_
   intro v80
   refine RL.fin ?_
   refine RA.next ?_
   refine RA.relist 5 #[true, true, false, false, false, false, false] rfl (by kernel_rfl) ?_
   exact fun a w st => h78 v80 a w (St.cut [2, 4] ⟨rfl, rfl, trivial⟩ (by decide) rfl st)
  refine RL.ldP (off := 0) (r := (TR.pair TR.str (TR.pair TR.str (TR.pair TR.int (TR.pair TR.int (TR.pair TR.int TR.int)))))) (e' := x1) 2 Try_ln25 rfl rfl (Or.inr ⟨rfl, rfl⟩) rfl PtOf.obox Part.self ?_
  intro v81
  refine RL.fin ?_
  refine RA.next ?_
  refine RA.relist 5 #[true, false, true, false, false, false, false] rfl (by kernel_rfl) ?_
  exact fun a w st => h79 v81 a w (St.cut [0, 4] ⟨rfl, rfl, trivial⟩ (by decide) rfl st)
 rintro ⟨v74, v73⟩
 refine RA.weak (env' := [(47, v74), (49, v73)]) (L' := [own 25 (TR.pair TR.str (TR.pair TR.str (TR.pair TR.int (TR.pair TR.int (TR.pair TR.int TR.int))))) v74 y65, own 25 (TR.pair TR.str (TR.pair TR.str (TR.pair TR.int (TR.pair TR.int (TR.pair TR.int TR.int))))) v73 ([x1] : (List ((List UInt8) × ((List UInt8) × (Int × (Int × (Int × Int)))))))]) (fun _ _ st => st) ?_
 refine RA.seq 4 rfl (by kernel_rfl) ?_
 obtain ⟨y87, e88, hm⟩ := bind_some hm
 replace e88 := chk_some e88
 refine RL.app 0 1 Try.underlying22 Try_lo25 rfl rfl rfl rfl rfl rfl rfl SlOf.own e88 ?_
 intro v89
 refine RL.fin ?_
 refine RA.next ?_
 refine RA.quiet 5 rfl rfl (by kernel_rfl) ?_
 simp only [List.drop_succ_cons, List.drop_zero]
 refine RL.asg rfl rfl rfl ?_
 refine RL.asg rfl rfl rfl ?_
 refine RL.finQ ?_
 refine RA.outQ ?_
 refine GL.weak (env' := [(4, v89), (5, .int .i64 (0 : Int))]) (L' := [own 25 (TR.pair TR.str (TR.pair TR.str (TR.pair TR.int (TR.pair TR.int (TR.pair TR.int TR.int))))) v89 (y65 ++ ([x1] : (List ((List UInt8) × ((List UInt8) × (Int × (Int × (Int × Int))))))))]) (fun a w st => St.cut [0] ⟨rfl, rfl, trivial⟩ (by decide) rfl st) ?_
 have hm := Option.some.inj hm
 subst hm
 exact GL.ret (Gx.ret (v := .tuple #[v89, .int .i64 (0 : Int)]) (res2 rfl rfl rfl) (fun a w st => (st.pick [0] (by decide) rfl).toPost v89))

set_option maxHeartbeats 4000000 in
theorem slices_IndexFunc_api_Errno_api_Errno_c (S : Hp) (w : World) (hS : S.sub w) (v0 : Value) (x0 : (List Int)) (k0 : ((TR.sl TR.int)).vrep S v0 x0) (f1 : FuncId) (c1 : Array Value) (t1 : Fit Try.prog f1) (g1 : Int → Option Bool) (k1 : ∀ (U : Hp) (w' : World), Hp.le S U → U.sub w' → ∀ (a0 : Int) (rr : Bool), g1 a0 = some rr → Calls Try.prog f1 (#[.int .i64 a0] ++ c1) w' (PostV w' (.bool rr))) (res : Int) (hm : slices_IndexFunc_api_Errno_api_Errno_m x0 g1 = some res) : Calls Try.prog 79 #[v0, .func (.func f1) #[] c1] w (PostV w (.int .i64 res)) := by
 refine calls_enter 19 Try.func79 Try.ntmps79 rfl S false [(0, v0), (1, .func (.func f1) #[] c1)] [imm (TR.sl TR.int) v0 x0] rfl ⟨rfl, ⟨rfl, trivial⟩⟩ hS ⟨k0, trivial⟩ ?_
 unfold slices_IndexFunc_api_Errno_api_Errno_m at hm
 refine GL.seq ?_
 refine GL.region ?_
 refine RL.asg rfl rfl rfl ?_
 refine RL.finG ?_
 refine GL.seq ?_
 refine GL.seq ?_
 refine GL.region ?_
 refine RL.mv rfl rfl rfl ?_
 refine RL.lenS 0 Try.underlying89 rfl rfl rfl rfl SlOf.imm ?_
 refine RL.mv rfl rfl rfl ?_
 refine RL.finG ?_
 refine GL.open_ 0 rfl (fun S h => len_imm S h) (fun n12 => ?_)
 obtain ⟨y13, K14, h15, h16, h17, h18, h19⟩ := bindR_K hm
 refine GL.join (ι := Unit) (fun (p : Unit) => []) (fun (p : Unit) => []) (fun (p : Unit) => K14 (.nx ())) ?_ ?_
 ·refine GL.block ?_
  refine GL.loop (ι := Nat × (List Int)) (fun (p : Nat × (List Int)) => [(0, v0), (1, .func (.func f1) #[] c1), (7, .int .i64 ((x0).length : Int)), (8, .int .i64 (p.1 : Int))]) (fun (p : Nat × (List Int)) => [imm (TR.sl TR.int) v0 x0]) (fun (p : Nat × (List Int)) => p.1 + p.2.length = (x0).length ∧ List.drop p.1 x0 = p.2 ∧ rangeL (slices_IndexFunc_api_Errno_api_Errno_b1 g1) p.2 p.1 () = some y13) (fun (p : Nat × (List Int)) => p.2.length) (0, x0) ⟨by simp, by simp, h15⟩ (fun a w st => St.cut [0] ⟨rfl, rfl, rfl, rfl, trivial⟩ (by decide) rfl st) ?_
  rintro ⟨i20, r21⟩ ⟨h26, h27, h25⟩
  try dsimp only at h26 h27 h25
  refine GL.weak (env' := [(0, v0), (1, .func (.func f1) #[] c1), (7, .int .i64 ((x0).length : Int)), (8, .int .i64 (i20 : Int))]) (L' := [imm (TR.sl TR.int) v0 x0]) (fun _ _ st => st) ?_
  refine GL.seq ?_
  refine GL.region ?_
  refine RL.binI (v := .bool (decide ((i20 : Int) < ((x0).length : Int)))) rfl rfl rfl rfl rfl ?_
  refine RL.finG ?_
  refine GL.seq ?_
  refine GL.cond rfl (fun b28 => ?_) (fun b28 => ?_)
  ·have h29 : i20 < (x0).length := by have := of_decide_eq_true b28; omega
   obtain ⟨y30, r32, hr, e31, h33⟩ := drop_cons h27 rfl h29
   subst hr
   obtain ⟨z22, h23, h24⟩ := rangeL_some h25
   unfold slices_IndexFunc_api_Errno_api_Errno_b1 at h23
   try dsimp only at h23
   refine GL.skip ?_
   refine GL.seq ?_
   refine GL.block ?_
   refine GL.seq ?_
   refine GL.region ?_
   refine RL.mv rfl rfl rfl ?_
   refine RL.asg rfl rfl rfl ?_
   refine RL.finG ?_
   refine GL.seq ?_
   refine GL.region ?_
   refine RL.mv rfl rfl rfl ?_
   refine RL.mv rfl rfl rfl ?_
   refine RL.mv rfl rfl rfl ?_
   refine RL.idxS (sz := 1) 0 Try.underlying89 Try_ln26 rfl rfl rfl rfl rfl SlOf.imm (by omega) (by omega) ?_
   refine RL.ldSx (i := i20) (e' := y30) 0 Ex.ik Try_ln26 rfl rfl rfl rfl SlOf.imm e31 Part.self ?_
   obtain ⟨y36, e37, h23⟩ := bind_some h23
   refine RL.callV (v := .bool y36) (vs := [.int .i64 y30]) t1 rfl (Or.inl rfl) rfl rfl rfl rfl (fun U w hU hW hL => k1 U w hW hU y30 _ e37) ?_
   refine RL.finG ?_
   refine GL.cond rfl (fun b38 => ?_) (fun b38 => ?_)
   ·replace h23 := ite_t b38 h23
    refine GL.seq ?_
    refine GL.region ?_
    refine RL.mv rfl rfl rfl ?_
    refine RL.asg rfl rfl rfl ?_
    refine RL.finG ?_
    cases h23
    replace h24 : some (Fl.rt _) = some y13 := h24
    cases h24
    have hh := h18 _ h16
    subst hh
    exact GL.ret (Gx.ret (v := .int .i64 (i20 : Int)) (res1 rfl rfl) (fun a w st => st.toPostV))
   replace h23 := ite_f b38 h23
   refine GL.skip ?_
   refine GL.nilB ?_
   refine GL.region ?_
   refine RL.binI (v := .int .i64 ((i20 + 1 : Nat) : Int)) rfl rfl rfl rfl (binI_succ i20 (by omega)) ?_
   refine RL.mv rfl rfl rfl ?_
   refine RL.fin ?_
   cases h23
   exact fun a w st => lop_intro (i20 + 1, r32) ⟨by show i20 + 1 + r32.length = (x0).length; simp only [List.length_cons] at h26; omega, h33, h24⟩ (by simp) (St.cut [0] ⟨rfl, rfl, rfl, rfl, trivial⟩ (by decide) rfl st)
  have h29 : ¬ i20 < (x0).length := by have := of_decide_eq_false b28; omega
  obtain rfl : r21 = [] := by rw [← h27]; exact List.drop_of_length_le (by omega)
  replace h25 : some (Fl.nx _) = some y13 := h25
  cases h25
  exact GL.exit (fun a w st => mid_intro () h16 (St.cut [] trivial (by decide) rfl st))
 rintro ⟨⟩ h39
 have h40 := h17 _ h39
 try dsimp only at h40
 refine GL.weak (env' := []) (L' := []) (fun _ _ st => st) ?_
 refine GL.seq ?_
 refine GL.region ?_
 refine RL.asg rfl rfl rfl ?_
 refine RL.finG ?_
 have h40 := Option.some.inj h40
 subst h40
 exact GL.ret (Gx.ret (v := .int .i64 (-1 : Int)) (res1 rfl rfl) (fun a w st => st.toPostV))

set_option maxHeartbeats 4000000 in
theorem slices_ContainsFunc_api_Errno_api_Errno_c (S : Hp) (w : World) (hS : S.sub w) (v0 : Value) (x0 : (List Int)) (k0 : ((TR.sl TR.int)).vrep S v0 x0) (f1 : FuncId) (c1 : Array Value) (t1 : Fit Try.prog f1) (g1 : Int → Option Bool) (k1 : ∀ (U : Hp) (w' : World), Hp.le S U → U.sub w' → ∀ (a0 : Int) (rr : Bool), g1 a0 = some rr → Calls Try.prog f1 (#[.int .i64 a0] ++ c1) w' (PostV w' (.bool rr))) (res : Bool) (hm : slices_ContainsFunc_api_Errno_api_Errno_m x0 g1 = some res) : Calls Try.prog 68 #[v0, .func (.func f1) #[] c1] w (PostV w (.bool res)) := by
 refine calls_enter 9 Try.func68 Try.ntmps68 rfl S false [(0, v0), (1, .func (.func f1) #[] c1)] [imm (TR.sl TR.int) v0 x0] rfl ⟨rfl, ⟨rfl, trivial⟩⟩ hS ⟨k0, trivial⟩ ?_
 unfold slices_ContainsFunc_api_Errno_api_Errno_m at hm
 refine GL.seq ?_
 refine GL.region ?_
 refine RL.asg rfl rfl rfl ?_
 refine RL.finG ?_
 refine GL.seq ?_
 refine GL.region ?_
 refine RL.mv rfl rfl rfl ?_
 refine RL.mv rfl rfl rfl ?_
 obtain ⟨y5, e6, hm⟩ := bind_some hm
 refine RL.callV (v := .int .i64 y5) (vs := [v0, .func (.func f1) #[] c1]) Try_fit79 rfl (Or.inl rfl) rfl rfl rfl rfl (fun U w hU hW hL => slices_IndexFunc_api_Errno_api_Errno_c U w hU _ _ (hL 0 _ _ rfl Seen.imm) f1 c1 t1 g1 (fun U' w' hle => k1 U' w' (Hp.le_trans hW hle)) _ e6) ?_
 refine RL.binI (v := .bool (decide (y5 ≥ (0 : Int)))) rfl rfl rfl rfl rfl ?_
 refine RL.asg rfl rfl rfl ?_
 refine RL.finG ?_
 have hm := Option.some.inj hm
 subst hm
 exact GL.ret (Gx.ret (v := .bool (decide (y5 ≥ (0 : Int)))) (res1 rfl rfl) (fun a w st => st.toPostV))

set_option maxHeartbeats 4000000 in
theorem pk_good_1_c (S : Hp) (w : World) (hS : S.sub w) (x0 : Int) (res : Bool) (hm : pk_good_1_m x0 = some res) : Calls Try.prog 69 #[.int .i64 x0] w (PostC w (.bool res)) := by
 refine calls_enter 5 Try.func69 Try.ntmps69 rfl S true [(0, .int .i64 x0)] [] rfl ⟨rfl, trivial⟩ hS trivial ?_
 unfold pk_good_1_m at hm
 refine GL.seq ?_
 refine GL.region ?_
 refine RL.asg rfl rfl rfl ?_
 refine RL.finG ?_
 refine GL.seq ?_
 refine GL.region ?_
 refine RL.mv rfl rfl rfl ?_
 refine RL.binI (v := .bool (x0 != (0 : Int))) rfl rfl rfl rfl rfl ?_
 refine RL.asg rfl rfl rfl ?_
 refine RL.finG ?_
 have hm := Option.some.inj hm
 subst hm
 exact GL.ret (Gx.ret (v := .bool (x0 != (0 : Int))) (res1 rfl rfl) (fun a w st => st.toPostC rfl))

set_option maxHeartbeats 4000000 in
theorem pk_good_c (S : Hp) (w : World) (hS : S.sub w) (v0 : Value) (x0 : (List Int)) (k0 : ((TR.sl TR.int)).vrep S v0 x0) (res : Bool) (hm : pk_good_m x0 = some res) : Calls Try.prog 44 #[v0] w (PostV w (.bool res)) := by
 refine calls_enter 6 Try.func44 Try.ntmps44 rfl S false [(0, v0)] [imm (TR.sl TR.int) v0 x0] rfl ⟨rfl, trivial⟩ hS ⟨k0, trivial⟩ ?_
 unfold pk_good_m at hm
 refine GL.seq ?_
 refine GL.region ?_
 refine RL.asg rfl rfl rfl ?_
 refine RL.finG ?_
 refine GL.seq ?_
 refine GL.region ?_
 refine RL.mv rfl rfl rfl ?_
 obtain ⟨y4, e5, hm⟩ := bind_some hm
 refine RL.callV (v := .bool y4) (vs := [v0, .func (.func 69) #[] #[]]) Try_fit68 rfl (Or.inl rfl) rfl rfl rfl rfl (fun U w hU hW hL => slices_ContainsFunc_api_Errno_api_Errno_c U w hU _ _ (hL 0 _ _ rfl Seen.imm) 69 #[] Try_fit69 (fun a0 => pk_good_1_m a0) (fun U' w' hle hU' a0 rr hr => (pk_good_1_c U' w' hU' a0 rr hr).mono (fun _ _ z => z.toV)) _ e5) ?_
 refine RL.notB rfl rfl rfl ?_
 refine RL.asg rfl rfl rfl ?_
 refine RL.finG ?_
 have hm := Option.some.inj hm
 subst hm
 exact GL.ret (Gx.ret (v := .bool (!y4)) (res1 rfl rfl) (fun a w st => st.toPostV))

set_option maxHeartbeats 4000000 in
theorem pk_queues_c (S : Hp) (w : World) (hS : S.sub w)  (res : Bool) (hm : pk_queues_m = some res) : Calls Try.prog 14 #[] w (PostV w (.bool res)) := by
 refine calls_enter 44 Try.func14 Try.ntmps14 rfl S false [] [] rfl trivial hS trivial ?_
 unfold pk_queues_m at hm
 refine GL.seq ?_
 refine GL.region ?_
 refine RL.asg rfl rfl rfl ?_
 refine RL.finG ?_
 refine GL.seq ?_
 refine GL.region ?_
 refine RL.bld (t := (TR.pair TR.str (TR.pair TR.str (TR.pair TR.int (TR.pair TR.int (TR.pair TR.int TR.int)))))) (d0 := ((([97] : List UInt8), ([98] : List UInt8), (0 : Int), (0 : Int), (1 : Int), (1 : Int)) : ((List UInt8) × ((List UInt8) × (Int × (Int × (Int × Int))))))) (pv := [(0, .string ⟨(([97] : List UInt8) : List UInt8).toArray⟩), (1, .string ⟨(([98] : List UInt8) : List UInt8).toArray⟩), (4, .int .i64 (1 : Int)), (5, .int .i64 (1 : Int))]) rfl Try_bld25 rfl rfl rfl ⟨⟨_, _, TR.str, ([97] : List UInt8), rfl, rfl, VR.str⟩, ⟨⟨_, _, TR.str, ([98] : List UInt8), rfl, rfl, VR.str⟩, ⟨⟨_, _, TR.int, (1 : Int), rfl, rfl, VR.int⟩, ⟨⟨_, _, TR.int, (1 : Int), rfl, rfl, VR.int⟩, trivial⟩⟩⟩⟩ (fun S f hi => by
   obtain ⟨c0, e0, r0⟩ := cells_vrep (t := TR.str) (u := .string ⟨(([97] : List UInt8) : List UInt8).toArray⟩) (e := ([97] : List UInt8)) (VR.str S f hi)
   obtain ⟨c1, e1, r1⟩ := cells_vrep (t := TR.str) (u := .string ⟨(([98] : List UInt8) : List UInt8).toArray⟩) (e := ([98] : List UInt8)) (VR.str S f hi)
   obtain ⟨c4, e4, r4⟩ := cells_vrep (t := TR.int) (u := .int .i64 (1 : Int)) (e := (1 : Int)) (VR.int S f hi)
   obtain ⟨c5, e5, r5⟩ := cells_vrep (t := TR.int) (u := .int .i64 (1 : Int)) (e := (1 : Int)) (VR.int S f hi)
   show TR.rep (TR.pair TR.str (TR.pair TR.str (TR.pair TR.int (TR.pair TR.int (TR.pair TR.int TR.int))))) S (List.flatten [(.string ⟨(([97] : List UInt8) : List UInt8).toArray⟩ : Value).cells.toList, (.string ⟨(([98] : List UInt8) : List UInt8).toArray⟩ : Value).cells.toList, [.int .i64 0], [.int .i64 0], (.int .i64 (1 : Int) : Value).cells.toList, (.int .i64 (1 : Int) : Value).cells.toList]) _
   simp only [e0, e1, e4, e5,  List.flatten_cons, List.flatten_nil, List.append_nil]
   exact ⟨_, _, rfl, r0, ⟨_, _, rfl, r1, ⟨_, _, rfl, rfl, ⟨_, _, rfl, rfl, ⟨_, _, rfl, r4, r4⟩⟩⟩⟩⟩) ?_
 intro v5
 obtain ⟨y6, e7, hm⟩ := bind_some hm
 refine RL.call (vs := [Value.slice none 0 0, v5]) Try_fit15 rfl rfl rfl rfl rfl (fun S f w hS hW hi => queue_Add_c S w hS _ _ (VR.nil (L := []) S (fun _ => Hp.emp) (fun i A hA => by simp at hA)) _ _ (hi 0 _ rfl) _ e7) ?_
 intro v8
 refine RL.reL (L' := [imm (TR.pair TR.str (TR.pair TR.str (TR.pair TR.int (TR.pair TR.int (TR.pair TR.int TR.int))))) v5 ((([97] : List UInt8), ([98] : List UInt8), (0 : Int), (0 : Int), (1 : Int), (1 : Int)) : ((List UInt8) × ((List UInt8) × (Int × (Int × (Int × Int)))))), own 25 (TR.pair TR.str (TR.pair TR.str (TR.pair TR.int (TR.pair TR.int (TR.pair TR.int TR.int))))) v8 y6.1]) rfl ?_
 refine RL.mv rfl rfl rfl ?_
 refine RL.ext rfl rfl rfl rfl ?_
 refine RL.ext rfl rfl rfl rfl ?_
 refine RL.asg rfl rfl rfl ?_
 refine RL.asg rfl rfl rfl ?_
 refine RL.finG ?_
 refine GL.seq ?_
 refine GL.region ?_
 refine RL.mv rfl rfl rfl ?_
 refine RL.bld (t := (TR.pair TR.str (TR.pair TR.str (TR.pair TR.int (TR.pair TR.int (TR.pair TR.int TR.int)))))) (d0 := ((([97] : List UInt8), ([98] : List UInt8), (0 : Int), (0 : Int), (2 : Int), (1 : Int)) : ((List UInt8) × ((List UInt8) × (Int × (Int × (Int × Int))))))) (pv := [(0, .string ⟨(([97] : List UInt8) : List UInt8).toArray⟩), (1, .string ⟨(([98] : List UInt8) : List UInt8).toArray⟩), (4, .int .i64 (2 : Int)), (5, .int .i64 (1 : Int))]) rfl Try_bld25 rfl rfl rfl ⟨⟨_, _, TR.str, ([97] : List UInt8), rfl, rfl, VR.str⟩, ⟨⟨_, _, TR.str, ([98] : List UInt8), rfl, rfl, VR.str⟩, ⟨⟨_, _, TR.int, (2 : Int), rfl, rfl, VR.int⟩, ⟨⟨_, _, TR.int, (1 : Int), rfl, rfl, VR.int⟩, trivial⟩⟩⟩⟩ (fun S f hi => by
   obtain ⟨c0, e0, r0⟩ := cells_vrep (t := TR.str) (u := .string ⟨(([97] : List UInt8) : List UInt8).toArray⟩) (e := ([97] : List UInt8)) (VR.str S f hi)
   obtain ⟨c1, e1, r1⟩ := cells_vrep (t := TR.str) (u := .string ⟨(([98] : List UInt8) : List UInt8).toArray⟩) (e := ([98] : List UInt8)) (VR.str S f hi)
   obtain ⟨c4, e4, r4⟩ := cells_vrep (t := TR.int) (u := .int .i64 (2 : Int)) (e := (2 : Int)) (VR.int S f hi)
   obtain ⟨c5, e5, r5⟩ := cells_vrep (t := TR.int) (u := .int .i64 (1 : Int)) (e := (1 : Int)) (VR.int S f hi)
   show TR.rep (TR.pair TR.str (TR.pair TR.str (TR.pair TR.int (TR.pair TR.int (TR.pair TR.int TR.int))))) S (List.flatten [(.string ⟨(([97] : List UInt8) : List UInt8).toArray⟩ : Value).cells.toList, (.string ⟨(([98] : List UInt8) : List UInt8).toArray⟩ : Value).cells.toList, [.int .i64 0], [.int .i64 0], (.int .i64 (2 : Int) : Value).cells.toList, (.int .i64 (1 : Int) : Value).cells.toList]) _
   simp only [e0, e1, e4, e5,  List.flatten_cons, List.flatten_nil, List.append_nil]
   exact ⟨_, _, rfl, r0, ⟨_, _, rfl, r1, ⟨_, _, rfl, rfl, ⟨_, _, rfl, rfl, ⟨_, _, rfl, r4, r5⟩⟩⟩⟩⟩) ?_
 intro v13
 obtain ⟨y14, e15, hm⟩ := bind_some hm
 refine RL.callU (vs := [v8, v13]) (LR := fun (o : Value) => [own 25 (TR.pair TR.str (TR.pair TR.str (TR.pair TR.int (TR.pair TR.int (TR.pair TR.int TR.int))))) o y14.1]) (fun o => ⟨Loc.own (TR.flatT_pair TR.flatT_str (TR.flatT_pair TR.flatT_str (TR.flatT_pair TR.flatT_ik (TR.flatT_pair TR.flatT_ik (TR.flatT_pair TR.flatT_ik TR.flatT_ik))))), trivial⟩) Try_fit15 rfl rfl rfl rfl rfl (fun U w hU hW hL => queue_Add_c U w hU _ _ (hL 1 _ _ rfl Seen.own) _ _ (hL 2 _ _ rfl Seen.imm) _ e15) ?_
 intro v16
 refine RL.mv rfl rfl rfl ?_
 refine RL.ext rfl rfl rfl rfl ?_
 refine RL.ext rfl rfl rfl rfl ?_
 refine RL.asg rfl rfl rfl ?_
 refine RL.asg rfl rfl rfl ?_
 refine RL.finG ?_
 refine GL.seq ?_
 refine GL.region ?_
 refine RL.mv rfl rfl rfl ?_
 refine RL.bld (t := (TR.pair TR.str (TR.pair TR.str (TR.pair TR.int (TR.pair TR.int (TR.pair TR.int TR.int)))))) (d0 := ((([97] : List UInt8), ([98] : List UInt8), (0 : Int), (0 : Int), (2 : Int), (3 : Int)) : ((List UInt8) × ((List UInt8) × (Int × (Int × (Int × Int))))))) (pv := [(0, .string ⟨(([97] : List UInt8) : List UInt8).toArray⟩), (1, .string ⟨(([98] : List UInt8) : List UInt8).toArray⟩), (4, .int .i64 (2 : Int)), (5, .int .i64 (3 : Int))]) rfl Try_bld25 rfl rfl rfl ⟨⟨_, _, TR.str, ([97] : List UInt8), rfl, rfl, VR.str⟩, ⟨⟨_, _, TR.str, ([98] : List UInt8), rfl, rfl, VR.str⟩, ⟨⟨_, _, TR.int, (2 : Int), rfl, rfl, VR.int⟩, ⟨⟨_, _, TR.int, (3 : Int), rfl, rfl, VR.int⟩, trivial⟩⟩⟩⟩ (fun S f hi => by
   obtain ⟨c0, e0, r0⟩ := cells_vrep (t := TR.str) (u := .string ⟨(([97] : List UInt8) : List UInt8).toArray⟩) (e := ([97] : List UInt8)) (VR.str S f hi)
   obtain ⟨c1, e1, r1⟩ := cells_vrep (t := TR.str) (u := .string ⟨(([98] : List UInt8) : List UInt8).toArray⟩) (e := ([98] : List UInt8)) (VR.str S f hi)
   obtain ⟨c4, e4, r4⟩ := cells_vrep (t := TR.int) (u := .int .i64 (2 : Int)) (e := (2 : Int)) (VR.int S f hi)
   obtain ⟨c5, e5, r5⟩ := cells_vrep (t := TR.int) (u := .int .i64 (3 : Int)) (e := (3 : Int)) (VR.int S f hi)
   show TR.rep (TR.pair TR.str (TR.pair TR.str (TR.pair TR.int (TR.pair TR.int (TR.pair TR.int TR.int))))) S (List.flatten [(.string ⟨(([97] : List UInt8) : List UInt8).toArray⟩ : Value).cells.toList, (.string ⟨(([98] : List UInt8) : List UInt8).toArray⟩ : Value).cells.toList, [.int .i64 0], [.int .i64 0], (.int .i64 (2 : Int) : Value).cells.toList, (.int .i64 (3 : Int) : Value).cells.toList]) _
   simp only [e0, e1, e4, e5,  List.flatten_cons, List.flatten_nil, List.append_nil]
   exact ⟨_, _, rfl, r0, ⟨_, _, rfl, r1, ⟨_, _, rfl, rfl, ⟨_, _, rfl, rfl, ⟨_, _, rfl, r4, r5⟩⟩⟩⟩⟩) ?_
 intro v21
 refine RL.reL (L' := [imm (TR.pair TR.str (TR.pair TR.str (TR.pair TR.int (TR.pair TR.int (TR.pair TR.int TR.int))))) v5 ((([97] : List UInt8), ([98] : List UInt8), (0 : Int), (0 : Int), (1 : Int), (1 : Int)) : ((List UInt8) × ((List UInt8) × (Int × (Int × (Int × Int)))))), own 25 (TR.pair TR.str (TR.pair TR.str (TR.pair TR.int (TR.pair TR.int (TR.pair TR.int TR.int))))) v8 y6.1, imm (TR.pair TR.str (TR.pair TR.str (TR.pair TR.int (TR.pair TR.int (TR.pair TR.int TR.int))))) v13 ((([97] : List UInt8), ([98] : List UInt8), (0 : Int), (0 : Int), (2 : Int), (1 : Int)) : ((List UInt8) × ((List UInt8) × (Int × (Int × (Int × Int)))))), own 25 (TR.pair TR.str (TR.pair TR.str (TR.pair TR.int (TR.pair TR.int (TR.pair TR.int TR.int))))) v16 y14.1, imm (TR.pair TR.str (TR.pair TR.str (TR.pair TR.int (TR.pair TR.int (TR.pair TR.int TR.int))))) v21 ((([97] : List UInt8), ([98] : List UInt8), (0 : Int), (0 : Int), (2 : Int), (3 : Int)) : ((List UInt8) × ((List UInt8) × (Int × (Int × (Int × Int))))))]) rfl ?_
 obtain ⟨y22, e23, hm⟩ := bind_some hm
 refine RL.callU (vs := [v16, v21]) (LR := fun (o : Value) => [own 25 (TR.pair TR.str (TR.pair TR.str (TR.pair TR.int (TR.pair TR.int (TR.pair TR.int TR.int))))) o y22.1]) (fun o => ⟨Loc.own (TR.flatT_pair TR.flatT_str (TR.flatT_pair TR.flatT_str (TR.flatT_pair TR.flatT_ik (TR.flatT_pair TR.flatT_ik (TR.flatT_pair TR.flatT_ik TR.flatT_ik))))), trivial⟩) Try_fit15 rfl rfl rfl rfl rfl (fun U w hU hW hL => queue_Add_c U w hU _ _ (hL 3 _ _ rfl Seen.own) _ _ (hL 4 _ _ rfl Seen.imm) _ e23) ?_
 intro v24
 refine RL.mv rfl rfl rfl ?_
 refine RL.ext rfl rfl rfl rfl ?_
 refine RL.ext rfl rfl rfl rfl ?_
 refine RL.asg rfl rfl rfl ?_
 refine RL.asg rfl rfl rfl ?_
 refine RL.finG ?_
 refine GL.seq ?_
 obtain ⟨y42, K43, h44, h45, h46, h47, h48⟩ := bindR_K hm
 refine GL.join (ι := Bool) (fun (p : Bool) => [(0, .bool p)]) (fun (p : Bool) => []) (fun (p : Bool) => K43 (.nx p)) ?_ ?_
 ·skip
  refine GL.region ?_
  refine RL.mv rfl rfl rfl ?_
  refine RL.mv rfl rfl rfl ?_
  refine RL.bS (t := TR.int) (vs := [.int .i64 y6.2, .int .i64 y14.2]) ([y6.2, y14.2] : (List Int)) Try.underlying89 Try_lo26 rfl rfl rfl rfl ⟨VR.int, ⟨VR.int, trivial⟩⟩ rfl (by decide) ?_
  intro v49
  obtain ⟨y50, e51, h44⟩ := bind_some h44
  refine RL.callV (v := .bool y50) (vs := [v49]) Try_fit44 rfl (Or.inl rfl) rfl rfl rfl rfl (fun U w hU hW hL => pk_good_c U w hU _ _ (hL 6 _ _ rfl Seen.own) _ e51) ?_
  refine RL.mv rfl rfl rfl ?_
  refine RL.split (t := 28) rfl (fun b52 => ?_) (fun b52 => ?_)
  ·replace h44 := ite_t b52 h44
   refine RL.mv rfl rfl rfl ?_
   refine RL.binI (v := .bool (y22.2 == (7 : Int))) rfl rfl rfl rfl rfl ?_
   refine RL.pickT rfl rfl rfl rfl ?_
   refine RL.mv rfl rfl rfl ?_
   refine RL.split (t := 32) rfl (fun b53 => ?_) (fun b53 => ?_)
   ·replace h44 := ite_t b53 h44
    refine RL.mv rfl rfl rfl ?_
    refine RL.lenS 3 Try.underlying22 rfl rfl rfl rfl SlOf.own ?_
    refine RL.binI (v := .bool (((y14.1).length : Int) == (1 : Int))) rfl rfl rfl rfl rfl ?_
    refine RL.pickT rfl rfl rfl rfl ?_
    refine RL.mv rfl rfl rfl ?_
    refine RL.split (t := 37) rfl (fun b54 => ?_) (fun b54 => ?_)
    ·replace h44 := ite_t b54 h44
     refine RL.mv rfl rfl rfl ?_
     obtain ⟨y55, e56, h44⟩ := bind_some h44
     refine RL.idxS (sz := 6) 3 Try.underlying22 Try_ln25 rfl rfl rfl rfl rfl SlOf.own (idx_some e56).1 (idx_some e56).2.1 ?_
     refine RL.fadrS (off := (((0 : Int)).toNat * 6)) (fo := 4) 3 Try_fld25_4 rfl rfl rfl SlOf.own (by have := (List.getElem?_eq_some_iff.1 (idx_some e56).2.2).1; omega) rfl ?_
     refine RL.ldSx (i := ((0 : Int)).toNat) (e' := y55.2.2.2.2.1) 3 Ex.ik Try_ln3 rfl rfl rfl rfl SlOf.own (idx_some e56).2.2 (Part.snd (Part.snd (Part.snd (Part.snd (Part.fst Part.self))))) ?_
     refine RL.binI (v := .bool (y55.2.2.2.2.1 == (2 : Int))) rfl rfl rfl rfl rfl ?_
     refine RL.pickT rfl rfl rfl rfl ?_
     refine RL.asg rfl rfl rfl ?_
     refine RL.fin ?_
     cases h44
     exact fun a w st => mid_intro (y55.2.2.2.2.1 == (2 : Int)) h45 (St.cut [] ⟨rfl, trivial⟩ (by decide) rfl st)
    replace h44 := ite_f b54 h44
    refine RL.skip rfl rfl ?_
    refine RL.skip rfl rfl ?_
    refine RL.skip rfl rfl ?_
    refine RL.skip rfl rfl ?_
    refine RL.skip rfl rfl ?_
    refine RL.pickF rfl rfl rfl rfl ?_
    refine RL.asg rfl rfl rfl ?_
    refine RL.fin ?_
    cases h44
    exact fun a w st => mid_intro false h45 (St.cut [] ⟨rfl, trivial⟩ (by decide) rfl st)
   replace h44 := ite_f b53 h44
   refine RL.skip rfl rfl ?_
   refine RL.skip rfl rfl ?_
   refine RL.skip rfl rfl ?_
   refine RL.pickF rfl rfl rfl rfl ?_
   refine RL.mv rfl rfl rfl ?_
   refine RL.skip rfl rfl ?_
   refine RL.skip rfl rfl ?_
   refine RL.skip rfl rfl ?_
   refine RL.skip rfl rfl ?_
   refine RL.skip rfl rfl ?_
   refine RL.pickF rfl rfl rfl rfl ?_
   refine RL.asg rfl rfl rfl ?_
   refine RL.fin ?_
   cases h44
   exact fun a w st => mid_intro false h45 (St.cut [] ⟨rfl, trivial⟩ (by decide) rfl st)
  replace h44 := ite_f b52 h44
  refine RL.skip rfl rfl ?_
  refine RL.skip rfl rfl ?_
  refine RL.pickF rfl rfl rfl rfl ?_
  refine RL.mv rfl rfl rfl ?_
  refine RL.skip rfl rfl ?_
  refine RL.skip rfl rfl ?_
  refine RL.skip rfl rfl ?_
  refine RL.pickF rfl rfl rfl rfl ?_
  refine RL.mv rfl rfl rfl ?_
  refine RL.skip rfl rfl ?_
  refine RL.skip rfl rfl ?_
  refine RL.skip rfl rfl ?_
  refine RL.skip rfl rfl ?_
  refine RL.skip rfl rfl ?_
  refine RL.pickF rfl rfl rfl rfl ?_
  refine RL.asg rfl rfl rfl ?_
  refine RL.fin ?_
  cases h44
  exact fun a w st => mid_intro false h45 (St.cut [] ⟨rfl, trivial⟩ (by decide) rfl st)
 rintro x41 h57
 have h58 := h46 _ h57
 try dsimp only at h58
 refine GL.weak (env' := [(0, .bool x41)]) (L' := []) (fun _ _ st => st) ?_
 have h58 := Option.some.inj h58
 subst h58
 exact GL.ret (Gx.ret (v := .bool x41) (res1 rfl rfl) (fun a w st => st.toPostV))

set_option maxHeartbeats 4000000 in
theorem ledger_Check_c (S : Hp) (w : World) (hS : S.sub w) (v0 : Value) (x0 : (List ((List UInt8) × (Int × Int)))) (k0 : ((TR.sl (TR.pair TR.str (TR.pair TR.int TR.int)))).vrep S v0 x0) (res : Int) (hm : ledger_Check_m x0 = some res) : Calls Try.prog 51 #[v0] w (PostV w (.int .i64 res)) := by
 refine calls_enter 53 Try.func51 Try.ntmps51 rfl S false [(0, v0)] [imm (TR.sl (TR.pair TR.str (TR.pair TR.int TR.int))) v0 x0] rfl ⟨rfl, trivial⟩ hS ⟨k0, trivial⟩ ?_
 unfold ledger_Check_m at hm
 refine GL.seq ?_
 refine GL.region ?_
 refine RL.asg rfl rfl rfl ?_
 refine RL.finG ?_
 refine GL.seq ?_
 refine GL.seq ?_
 refine GL.region ?_
 refine RL.mv rfl rfl rfl ?_
 refine RL.lenS 0 Try.underlying34 rfl rfl rfl rfl SlOf.imm ?_
 refine RL.binI (v := .bool (decide (((x0).length : Int) > (6 : Int)))) rfl rfl rfl rfl rfl ?_
 refine RL.finG ?_
 refine GL.cond rfl (fun b2 => ?_) (fun b2 => ?_)
 ·replace hm := ite_t b2 hm
  refine GL.seq ?_
  refine GL.region ?_
  refine RL.asg rfl rfl rfl ?_
  refine RL.finG ?_
  have hm := Option.some.inj hm
  subst hm
  exact GL.ret (Gx.ret (v := .int .i64 (2 : Int)) (res1 rfl rfl) (fun a w st => st.toPostV))
 replace hm := ite_f b2 hm
 refine GL.skip ?_
 refine GL.seq ?_
 refine GL.seq ?_
 refine GL.region ?_
 refine RL.mv rfl rfl rfl ?_
 refine RL.lenS 0 Try.underlying34 rfl rfl rfl rfl SlOf.imm ?_
 refine RL.mv rfl rfl rfl ?_
 refine RL.finG ?_
 refine GL.open_ 0 rfl (fun S h => len_imm S h) (fun n60 => ?_)
 obtain ⟨y61, K62, h63, h64, h65, h66, h67⟩ := bindR_K hm
 refine GL.join (ι := Unit) (fun (p : Unit) => []) (fun (p : Unit) => []) (fun (p : Unit) => K62 (.nx ())) ?_ ?_
 ·refine GL.block ?_
  refine GL.loop (ι := Nat × (List ((List UInt8) × (Int × Int)))) (fun (p : Nat × (List ((List UInt8) × (Int × Int)))) => [(0, v0), (8, v0), (9, .int .i64 ((x0).length : Int)), (10, .int .i64 (p.1 : Int))]) (fun (p : Nat × (List ((List UInt8) × (Int × Int)))) => [imm (TR.sl (TR.pair TR.str (TR.pair TR.int TR.int))) v0 x0]) (fun (p : Nat × (List ((List UInt8) × (Int × Int)))) => p.1 + p.2.length = (x0).length ∧ List.drop p.1 x0 = p.2 ∧ rangeL (ledger_Check_b1 x0) p.2 p.1 () = some y61) (fun (p : Nat × (List ((List UInt8) × (Int × Int)))) => p.2.length) (0, x0) ⟨by simp, by simp, h63⟩ (fun a w st => St.cut [0] ⟨rfl, rfl, rfl, rfl, trivial⟩ (by decide) rfl st) ?_
  rintro ⟨i68, r69⟩ ⟨h74, h75, h73⟩
  try dsimp only at h74 h75 h73
  refine GL.weak (env' := [(0, v0), (8, v0), (9, .int .i64 ((x0).length : Int)), (10, .int .i64 (i68 : Int))]) (L' := [imm (TR.sl (TR.pair TR.str (TR.pair TR.int TR.int))) v0 x0]) (fun _ _ st => st) ?_
  refine GL.seq ?_
  refine GL.region ?_
  refine RL.binI (v := .bool (decide ((i68 : Int) < ((x0).length : Int)))) rfl rfl rfl rfl rfl ?_
  refine RL.finG ?_
  refine GL.seq ?_
  refine GL.cond rfl (fun b76 => ?_) (fun b76 => ?_)
  ·have h77 : i68 < (x0).length := by have := of_decide_eq_true b76; omega
   obtain ⟨y78, r80, hr, e79, h81⟩ := drop_cons h75 rfl h77
   subst hr
   obtain ⟨z70, h71, h72⟩ := rangeL_some h73
   unfold ledger_Check_b1 at h71
   try dsimp only at h71
   refine GL.skip ?_
   refine GL.seq ?_
   refine GL.block ?_
   refine GL.seq ?_
   refine GL.region ?_
   refine RL.mv rfl rfl rfl ?_
   refine RL.idxS (sz := 3) 0 Try.underlying34 Try_ln38 rfl rfl rfl rfl rfl SlOf.imm (by omega) (by omega) ?_
   refine RL.ldS (i := i68) (r := (TR.pair TR.str (TR.pair TR.int TR.int))) (e' := y78) 0 Try_ln38 rfl rfl rfl rfl SlOf.imm e79 Part.self ?_
   intro v84
   refine RL.alloc (t := (TR.pair TR.str (TR.pair TR.int TR.int))) (z := (([] : List UInt8), (0 : Int), (0 : Int))) Try_lo38 (fun S => ⟨[.string ⟨#[]⟩], _, rfl, rfl, ⟨[.int .i64 0], _, rfl, rfl, rfl⟩⟩) rfl rfl rfl ?_
   intro v85
   refine RL.reL (L' := [imm (TR.sl (TR.pair TR.str (TR.pair TR.int TR.int))) v0 x0, imm (TR.pair TR.str (TR.pair TR.int TR.int)) v84 y78, obox 38 (TR.pair TR.str (TR.pair TR.int TR.int)) v85 (([] : List UInt8), (0 : Int), (0 : Int))]) rfl ?_
   refine RL.asg rfl rfl rfl ?_
   refine RL.stP (off := 0) (e' := y78) (d1 := y78) (r := (TR.pair TR.str (TR.pair TR.int TR.int))) 2 Try_ln38 rfl rfl (Or.inr ⟨rfl, rfl⟩) rfl (VR.item 1 rfl) rfl Upd.self ?_
   refine RL.finG ?_
   refine GL.seq ?_
   refine GL.seq ?_
   obtain ⟨y99, K100, h101, h102, h103, h104, h105⟩ := bindF_K h71
   refine GL.join (ι := Bool) (fun (p : Bool) => [(0, v0), (4, v85), (8, v0), (9, .int .i64 ((x0).length : Int)), (10, .int .i64 (i68 : Int)), (33, .bool p)]) (fun (p : Bool) => [imm (TR.sl (TR.pair TR.str (TR.pair TR.int TR.int))) v0 x0, obox 38 (TR.pair TR.str (TR.pair TR.int TR.int)) v85 y78]) (fun (p : Bool) => K100 (.nx p)) ?_ ?_
   ·skip
    refine GL.regionQ rfl rfl (by kernel_rfl) ?_
    refine RL.fadr (off := 0) (fo := 0) 2 Try_fld38_0 rfl rfl rfl PtOf.obox (Or.inr ⟨rfl, rfl⟩) ?_
    refine RL.ldPx (off := (0 + 0)) (e' := y78.1) 2 Ex.str Try_ln9 rfl rfl (Or.inl rfl) rfl PtOf.obox (Part.fst Part.self) ?_
    obtain ⟨y106, e107, h101⟩ := bind_some h101
    refine RL.callV (v := .bool y106) (vs := [.string ⟨(y78.1 : List UInt8).toArray⟩]) Try_fit70 rfl (Or.inr ⟨_, rfl⟩) rfl rfl rfl rfl (fun U w hU hW hL => ledger_named_c U w hU y78.1 _ e107) ?_
    refine RL.notB rfl rfl rfl ?_
    refine RL.mv rfl rfl rfl ?_
    refine RL.split (t := 19) rfl (fun b108 => ?_) (fun b108 => ?_)
    ·replace h101 := ite_t b108 h101
     refine RL.skip rfl rfl ?_
     refine RL.skip rfl rfl ?_
     refine RL.skip rfl rfl ?_
     refine RL.skip rfl rfl ?_
     refine RL.skip rfl rfl ?_
     refine RL.skip rfl rfl ?_
     refine RL.skip rfl rfl ?_
     refine RL.skip rfl rfl ?_
     refine RL.skip rfl rfl ?_
     refine RL.skip rfl rfl ?_
     refine RL.skip rfl rfl ?_
     refine RL.skip rfl rfl ?_
     refine RL.skip rfl rfl ?_
     refine RL.pickT rfl rfl rfl rfl ?_
     refine RL.finQ ?_
     cases h101
     exact fun a w st => mid_intro true h102 (St.cut [0, 2] ⟨rfl, rfl, rfl, rfl, rfl, rfl, trivial⟩ (by decide) rfl st)
    replace h101 := ite_f b108 h101
    refine RL.mv rfl rfl rfl ?_
    refine RL.binI (v := .bool (decide ((i68 : Int) > (0 : Int)))) rfl rfl rfl rfl rfl ?_
    refine RL.mv rfl rfl rfl ?_
    refine RL.split (t := 22) rfl (fun b109 => ?_) (fun b109 => ?_)
    ·replace h101 := ite_t b109 h101
     refine RL.fadr (off := 0) (fo := 0) 2 Try_fld38_0 rfl rfl rfl PtOf.obox (Or.inr ⟨rfl, rfl⟩) ?_
     refine RL.ldPx (off := (0 + 0)) (e' := y78.1) 2 Ex.str Try_ln9 rfl rfl (Or.inl rfl) rfl PtOf.obox (Part.fst Part.self) ?_
     refine RL.mv rfl rfl rfl ?_
     refine RL.mv rfl rfl rfl ?_
     refine RL.binI (v := .int .i64 (wsub (i68 : Int) (1 : Int))) rfl rfl rfl rfl rfl ?_
     obtain ⟨y110, e111, h101⟩ := bind_some h101
     refine RL.idxS (sz := 3) 0 Try.underlying34 Try_ln38 rfl rfl rfl rfl rfl SlOf.imm (idx_some e111).1 (idx_some e111).2.1 ?_
     refine RL.fadrS (off := ((wsub (i68 : Int) (1 : Int)).toNat * 3)) (fo := 0) 0 Try_fld38_0 rfl rfl rfl SlOf.imm (by have := (List.getElem?_eq_some_iff.1 (idx_some e111).2.2).1; omega) rfl ?_
     refine RL.ldSx (i := (wsub (i68 : Int) (1 : Int)).toNat) (e' := y110.1) 0 Ex.str Try_ln9 rfl rfl rfl rfl SlOf.imm (idx_some e111).2.2 (Part.fst Part.self) ?_
     refine RL.binS (v := .bool (bls y78.1 y110.1 || y78.1 == y110.1)) rfl rfl rfl rfl rfl ?_
     refine RL.pickT rfl rfl rfl rfl ?_
     refine RL.pickF rfl rfl rfl rfl ?_
     refine RL.finQ ?_
     cases h101
     exact fun a w st => mid_intro (bls y78.1 y110.1 || y78.1 == y110.1) h102 (St.cut [0, 2] ⟨rfl, rfl, rfl, rfl, rfl, rfl, trivial⟩ (by decide) rfl st)
    replace h101 := ite_f b109 h101
    refine RL.skip rfl rfl ?_
    refine RL.skip rfl rfl ?_
    refine RL.skip rfl rfl ?_
    refine RL.skip rfl rfl ?_
    refine RL.skip rfl rfl ?_
    refine RL.skip rfl rfl ?_
    refine RL.skip rfl rfl ?_
    refine RL.skip rfl rfl ?_
    refine RL.skip rfl rfl ?_
    refine RL.pickF rfl rfl rfl rfl ?_
    refine RL.pickF rfl rfl rfl rfl ?_
    refine RL.finQ ?_
    cases h101
    exact fun a w st => mid_intro false h102 (St.cut [0, 2] ⟨rfl, rfl, rfl, rfl, rfl, rfl, trivial⟩ (by decide) rfl st)
   rintro x98 h112
   have h113 := h103 _ h112
   try dsimp only at h113
   refine GL.weak (env' := [(0, v0), (4, v85), (8, v0), (9, .int .i64 ((x0).length : Int)), (10, .int .i64 (i68 : Int)), (33, .bool x98)]) (L' := [imm (TR.sl (TR.pair TR.str (TR.pair TR.int TR.int))) v0 x0, obox 38 (TR.pair TR.str (TR.pair TR.int TR.int)) v85 y78]) (fun _ _ st => st) ?_
   refine GL.cond rfl (fun b114 => ?_) (fun b114 => ?_)
   ·replace h113 := ite_t b114 h113
    refine GL.seq ?_
    refine GL.region ?_
    refine RL.asg rfl rfl rfl ?_
    refine RL.finG ?_
    cases h113
    replace h72 : some (Fl.rt _) = some y61 := h72
    cases h72
    have hh := h66 _ h64
    subst hh
    exact GL.ret (Gx.ret (v := .int .i64 (3 : Int)) (res1 rfl rfl) (fun a w st => st.toPostV))
   replace h113 := ite_f b114 h113
   refine GL.skip ?_
   refine GL.seq ?_
   obtain ⟨y122, K123, h124, h125, h126, h127, h128⟩ := bindF_K h113
   refine GL.join (ι := Bool) (fun (p : Bool) => [(0, v0), (8, v0), (9, .int .i64 ((x0).length : Int)), (10, .int .i64 (i68 : Int)), (51, .bool p)]) (fun (p : Bool) => [imm (TR.sl (TR.pair TR.str (TR.pair TR.int TR.int))) v0 x0]) (fun (p : Bool) => K123 (.nx p)) ?_ ?_
   ·skip
    refine GL.region ?_
    refine RL.fadr (off := 0) (fo := 1) 1 Try_fld38_1 rfl rfl rfl PtOf.obox (Or.inr ⟨rfl, rfl⟩) ?_
    refine RL.ldPx (off := (0 + 1)) (e' := y78.2.1) 1 Ex.ik Try_ln3 rfl rfl (Or.inl rfl) rfl PtOf.obox (Part.snd (Part.fst Part.self)) ?_
    refine RL.binI (v := .bool (decide (y78.2.1 < (0 : Int)))) rfl rfl rfl rfl rfl ?_
    refine RL.mv rfl rfl rfl ?_
    refine RL.split (t := 37) rfl (fun b129 => ?_) (fun b129 => ?_)
    ·replace h124 := ite_t b129 h124
     refine RL.skip rfl rfl ?_
     refine RL.skip rfl rfl ?_
     refine RL.skip rfl rfl ?_
     refine RL.pickT rfl rfl rfl rfl ?_
     refine RL.mv rfl rfl rfl ?_
     refine RL.skip rfl rfl ?_
     refine RL.skip rfl rfl ?_
     refine RL.skip rfl rfl ?_
     refine RL.pickT rfl rfl rfl rfl ?_
     refine RL.mv rfl rfl rfl ?_
     refine RL.skip rfl rfl ?_
     refine RL.skip rfl rfl ?_
     refine RL.skip rfl rfl ?_
     refine RL.pickT rfl rfl rfl rfl ?_
     refine RL.fin ?_
     cases h124
     exact fun a w st => mid_intro true h125 (St.cut [0] ⟨rfl, rfl, rfl, rfl, rfl, trivial⟩ (by decide) rfl st)
    replace h124 := ite_f b129 h124
    refine RL.fadr (off := 0) (fo := 1) 1 Try_fld38_1 rfl rfl rfl PtOf.obox (Or.inr ⟨rfl, rfl⟩) ?_
    refine RL.ldPx (off := (0 + 1)) (e' := y78.2.1) 1 Ex.ik Try_ln3 rfl rfl (Or.inl rfl) rfl PtOf.obox (Part.snd (Part.fst Part.self)) ?_
    refine RL.binI (v := .bool (decide (y78.2.1 > (1000000 : Int)))) rfl rfl rfl rfl rfl ?_
    refine RL.pickF rfl rfl rfl rfl ?_
    refine RL.mv rfl rfl rfl ?_
    refine RL.split (t := 42) rfl (fun b130 => ?_) (fun b130 => ?_)
    ·replace h124 := ite_t b130 h124
     refine RL.skip rfl rfl ?_
     refine RL.skip rfl rfl ?_
     refine RL.skip rfl rfl ?_
     refine RL.pickT rfl rfl rfl rfl ?_
     refine RL.mv rfl rfl rfl ?_
     refine RL.skip rfl rfl ?_
     refine RL.skip rfl rfl ?_
     refine RL.skip rfl rfl ?_
     refine RL.pickT rfl rfl rfl rfl ?_
     refine RL.fin ?_
     cases h124
     exact fun a w st => mid_intro true h125 (St.cut [0] ⟨rfl, rfl, rfl, rfl, rfl, trivial⟩ (by decide) rfl st)
    replace h124 := ite_f b130 h124
    refine RL.fadr (off := 0) (fo := 2) 1 Try_fld38_2 rfl rfl rfl PtOf.obox (Or.inr ⟨rfl, rfl⟩) ?_
    refine RL.ldPx (off := (0 + 2)) (e' := y78.2.2) 1 Ex.ik Try_ln3 rfl rfl (Or.inl rfl) rfl PtOf.obox (Part.snd (Part.snd Part.self)) ?_
    refine RL.binI (v := .bool (decide (y78.2.2 < (0 : Int)))) rfl rfl rfl rfl rfl ?_
    refine RL.pickF rfl rfl rfl rfl ?_
    refine RL.mv rfl rfl rfl ?_
    refine RL.split (t := 47) rfl (fun b131 => ?_) (fun b131 => ?_)
    ·replace h124 := ite_t b131 h124
     refine RL.skip rfl rfl ?_
     refine RL.skip rfl rfl ?_
     refine RL.skip rfl rfl ?_
     refine RL.pickT rfl rfl rfl rfl ?_
     refine RL.fin ?_
     cases h124
     exact fun a w st => mid_intro true h125 (St.cut [0] ⟨rfl, rfl, rfl, rfl, rfl, trivial⟩ (by decide) rfl st)
    replace h124 := ite_f b131 h124
    refine RL.fadr (off := 0) (fo := 2) 1 Try_fld38_2 rfl rfl rfl PtOf.obox (Or.inr ⟨rfl, rfl⟩) ?_
    refine RL.ldPx (off := (0 + 2)) (e' := y78.2.2) 1 Ex.ik Try_ln3 rfl rfl (Or.inl rfl) rfl PtOf.obox (Part.snd (Part.snd Part.self)) ?_
    refine RL.binI (v := .bool (decide (y78.2.2 > (1000000 : Int)))) rfl rfl rfl rfl rfl ?_
    refine RL.pickF rfl rfl rfl rfl ?_
    refine RL.fin ?_
    cases h124
    exact fun a w st => mid_intro (decide (y78.2.2 > (1000000 : Int))) h125 (St.cut [0] ⟨rfl, rfl, rfl, rfl, rfl, trivial⟩ (by decide) rfl st)
   rintro x121 h132
   have h133 := h126 _ h132
   try dsimp only at h133
   refine GL.weak (env' := [(0, v0), (8, v0), (9, .int .i64 ((x0).length : Int)), (10, .int .i64 (i68 : Int)), (51, .bool x121)]) (L' := [imm (TR.sl (TR.pair TR.str (TR.pair TR.int TR.int))) v0 x0]) (fun _ _ st => st) ?_
   refine GL.cond rfl (fun b134 => ?_) (fun b134 => ?_)
   ·replace h133 := ite_t b134 h133
    refine GL.seq ?_
    refine GL.region ?_
    refine RL.asg rfl rfl rfl ?_
    refine RL.finG ?_
    cases h133
    replace h72 : some (Fl.rt _) = some y61 := h72
    cases h72
    have hh := h66 _ h64
    subst hh
    exact GL.ret (Gx.ret (v := .int .i64 (1 : Int)) (res1 rfl rfl) (fun a w st => st.toPostV))
   replace h133 := ite_f b134 h133
   refine GL.skip ?_
   refine GL.nilB ?_
   refine GL.region ?_
   refine RL.binI (v := .int .i64 ((i68 + 1 : Nat) : Int)) rfl rfl rfl rfl (binI_succ i68 (by omega)) ?_
   refine RL.mv rfl rfl rfl ?_
   refine RL.fin ?_
   cases h133
   exact fun a w st => lop_intro (i68 + 1, r80) ⟨by show i68 + 1 + r80.length = (x0).length; simp only [List.length_cons] at h74; omega, h81, h72⟩ (by simp) (St.cut [0] ⟨rfl, rfl, rfl, rfl, trivial⟩ (by decide) rfl st)
  have h77 : ¬ i68 < (x0).length := by have := of_decide_eq_false b76; omega
  obtain rfl : r69 = [] := by rw [← h75]; exact List.drop_of_length_le (by omega)
  replace h73 : some (Fl.nx _) = some y61 := h73
  cases h73
  exact GL.exit (fun a w st => mid_intro () h64 (St.cut [] trivial (by decide) rfl st))
 rintro ⟨⟩ h135
 have h136 := h65 _ h135
 try dsimp only at h136
 refine GL.weak (env' := []) (L' := []) (fun _ _ st => st) ?_
 refine GL.seq ?_
 refine GL.region ?_
 refine RL.asg rfl rfl rfl ?_
 refine RL.finG ?_
 have h136 := Option.some.inj h136
 subst h136
 exact GL.ret (Gx.ret (v := .int .i64 (0 : Int)) (res1 rfl rfl) (fun a w st => st.toPostV))

set_option maxHeartbeats 4000000 in
theorem slices_DeleteFunc_api_Deal_api_Deal_c (B : World) (S X : Hp) (f : Nat → Hp) (w : World) (v0 : Value) (x0 : (List ((List UInt8) × ((List UInt8) × (Int × (Int × (Int × Int))))))) (hO : HeapOk B.heap.size S f [own 25 (TR.pair TR.str (TR.pair TR.str (TR.pair TR.int (TR.pair TR.int (TR.pair TR.int TR.int))))) v0 x0, keep X].length w) (hB : Below B.heap.size B w) (hI : Its [own 25 (TR.pair TR.str (TR.pair TR.str (TR.pair TR.int (TR.pair TR.int (TR.pair TR.int TR.int))))) v0 x0, keep X] S f) (f1 : FuncId) (c1 : Array Value) (t1 : Fit Try.prog f1) (g1 : ((List UInt8) × ((List UInt8) × (Int × (Int × (Int × Int))))) → Option Bool) (k1 : ∀ (U : Hp) (w' : World), Hp.le S U → U.sub w' → ∀ (u0 : Value) (a0 : ((List UInt8) × ((List UInt8) × (Int × (Int × (Int × Int)))))) (_ : ((TR.pair TR.str (TR.pair TR.str (TR.pair TR.int (TR.pair TR.int (TR.pair TR.int TR.int)))))).vrep U u0 a0) (rr : Bool), g1 a0 = some rr → Calls Try.prog f1 (#[u0] ++ c1) w' (PostV w' (.bool rr))) (res : (List ((List UInt8) × ((List UInt8) × (Int × (Int × (Int × Int))))))) (hm : slices_DeleteFunc_api_Deal_api_Deal_m x0 g1 = some res) : Calls Try.prog 52 #[v0, .func (.func f1) #[] c1] w (PostM B S (fun (o : Value) => o) (fun (o : Value) => [own 25 (TR.pair TR.str (TR.pair TR.str (TR.pair TR.int (TR.pair TR.int (TR.pair TR.int TR.int))))) o res, keep X])) := by
 refine calls_enterM 42 Try.func52 Try.ntmps52 rfl B S f [(0, v0), (1, .func (.func f1) #[] c1)] [own 25 (TR.pair TR.str (TR.pair TR.str (TR.pair TR.int (TR.pair TR.int (TR.pair TR.int TR.int))))) v0 x0, keep X] [] rfl ⟨rfl, ⟨rfl, trivial⟩⟩ hB hO hI trivial ?_
 unfold slices_DeleteFunc_api_Deal_api_Deal_m at hm
 refine GL.seq ?_
 refine GL.region ?_
 refine RL.asg rfl rfl rfl ?_
 refine RL.finG ?_
 refine GL.seq ?_
 refine GL.region ?_
 refine RL.mv rfl rfl rfl ?_
 refine RL.mv rfl rfl rfl ?_
 obtain ⟨y5, e6, hm⟩ := bind_some hm
 refine RL.callV (v := .int .i64 y5) (vs := [v0, .func (.func f1) #[] c1]) Try_fit71 rfl (Or.inl rfl) rfl rfl rfl rfl (fun U w hU hW hL => slices_IndexFunc_api_Deal_api_Deal_c U w hU _ _ (hL 0 _ _ rfl Seen.own) f1 c1 t1 g1 (fun U' w' hle => k1 U' w' (Hp.le_trans hW hle)) _ e6) ?_
 refine RL.asg rfl rfl rfl ?_
 refine RL.finG ?_
 refine GL.seq ?_
 refine GL.seq ?_
 refine GL.region ?_
 refine RL.mv rfl rfl rfl ?_
 refine RL.binI (v := .bool (y5 == (-1 : Int))) rfl rfl rfl rfl rfl ?_
 refine RL.finG ?_
 refine GL.cond rfl (fun b7 => ?_) (fun b7 => ?_)
 ·replace hm := ite_t b7 hm
  refine GL.seq ?_
  refine GL.region ?_
  refine RL.mv rfl rfl rfl ?_
  refine RL.asg rfl rfl rfl ?_
  refine RL.finG ?_
  have hm := Option.some.inj hm
  subst hm
  exact GL.ret (Gx.ret (v := v0) (res1 rfl rfl) (fun a w st => (st.pick [0, 1] (by decide) rfl).toPostM (V := fun (o : Value) => o) (LR := fun (o : Value) => [own 25 (TR.pair TR.str (TR.pair TR.str (TR.pair TR.int (TR.pair TR.int (TR.pair TR.int TR.int))))) o x0, keep X]) v0))
 replace hm := ite_f b7 hm
 refine GL.skip ?_
 refine GL.seq ?_
 refine GL.seq ?_
 refine GL.region ?_
 refine RL.mv rfl rfl rfl ?_
 refine RL.binI (v := .int .i64 (wadd y5 (1 : Int))) rfl rfl rfl rfl rfl ?_
 refine RL.asg rfl rfl rfl ?_
 refine RL.finG ?_
 obtain ⟨y57, K58, h59, h60, h61, h62, h63⟩ := bindR_K hm
 refine GL.join (ι := (List ((List UInt8) × ((List UInt8) × (Int × (Int × (Int × Int)))))) × Int × Int) (fun (p : (List ((List UInt8) × ((List UInt8) × (Int × (Int × (Int × Int)))))) × Int × Int) => [(0, v0), (5, .int .i64 p.2.1)]) (fun (p : (List ((List UInt8) × ((List UInt8) × (Int × (Int × (Int × Int)))))) × Int × Int) => [own 25 (TR.pair TR.str (TR.pair TR.str (TR.pair TR.int (TR.pair TR.int (TR.pair TR.int TR.int))))) v0 p.1, keep X]) (fun (p : (List ((List UInt8) × ((List UInt8) × (Int × (Int × (Int × Int)))))) × Int × Int) => K58 (.nx (p.1, p.2.1, p.2.2))) ?_ ?_
 ·refine GL.block ?_
  refine GL.loop (ι := Nat × (List ((List UInt8) × ((List UInt8) × (Int × (Int × (Int × Int)))))) × Int × Int) (fun (p : Nat × (List ((List UInt8) × ((List UInt8) × (Int × (Int × (Int × Int)))))) × Int × Int) => [(0, v0), (1, .func (.func f1) #[] c1), (5, .int .i64 p.2.2.1), (6, .int .i64 p.2.2.2)]) (fun (p : Nat × (List ((List UInt8) × ((List UInt8) × (Int × (Int × (Int × Int)))))) × Int × Int) => [own 25 (TR.pair TR.str (TR.pair TR.str (TR.pair TR.int (TR.pair TR.int (TR.pair TR.int TR.int))))) v0 p.2.1, keep X]) (fun (p : Nat × (List ((List UInt8) × ((List UInt8) × (Int × (Int × (Int × Int)))))) × Int × Int) => loopM (slices_DeleteFunc_api_Deal_api_Deal_b1 g1) p.1 (p.2.1, p.2.2.1, p.2.2.2) = some y57) (fun (p : Nat × (List ((List UInt8) × ((List UInt8) × (Int × (Int × (Int × Int)))))) × Int × Int) => p.1) (1048576, x0, y5, wadd y5 (1 : Int)) h59 (fun a w st => St.cut [0, 1] ⟨rfl, rfl, rfl, rfl, trivial⟩ (by decide) rfl st) ?_
  rintro ⟨r66, l32, x33, x34⟩ h70
  try dsimp only at h70
  refine GL.weak (env' := [(0, v0), (1, .func (.func f1) #[] c1), (5, .int .i64 x33), (6, .int .i64 x34)]) (L' := [own 25 (TR.pair TR.str (TR.pair TR.str (TR.pair TR.int (TR.pair TR.int (TR.pair TR.int TR.int))))) v0 l32, keep X]) (fun _ _ st => st) ?_
  obtain ⟨r73, z67, hr, h68, h69⟩ := loopM_some h70
  subst hr
  unfold slices_DeleteFunc_api_Deal_api_Deal_b1 at h68
  try dsimp only at h68
  refine GL.seq ?_
  refine GL.seq ?_
  refine GL.region ?_
  refine RL.mv rfl rfl rfl ?_
  refine RL.mv rfl rfl rfl ?_
  refine RL.lenS 0 Try.underlying22 rfl rfl rfl rfl SlOf.own ?_
  refine RL.binI (v := .bool (decide (x34 < ((l32).length : Int)))) rfl rfl rfl rfl rfl ?_
  refine RL.finG ?_
  refine GL.cond rfl (fun b74 => ?_) (fun b74 => ?_)
  ·replace h68 := ite_t b74 h68
   refine GL.skip ?_
   refine GL.seq ?_
   refine GL.block ?_
   refine GL.seq ?_
   refine GL.region ?_
   refine RL.mv rfl rfl rfl ?_
   refine RL.mv rfl rfl rfl ?_
   obtain ⟨y79, e80, h68⟩ := bind_some h68
   refine RL.idxS (sz := 6) 0 Try.underlying22 Try_ln25 rfl rfl rfl rfl rfl SlOf.own (idx_some e80).1 (idx_some e80).2.1 ?_
   refine RL.ldS (i := (x34).toNat) (r := (TR.pair TR.str (TR.pair TR.str (TR.pair TR.int (TR.pair TR.int (TR.pair TR.int TR.int)))))) (e' := y79) 0 Try_ln25 rfl rfl rfl rfl SlOf.own (idx_some e80).2.2 Part.self ?_
   intro v81
   refine RL.alloc (t := (TR.pair TR.str (TR.pair TR.str (TR.pair TR.int (TR.pair TR.int (TR.pair TR.int TR.int)))))) (z := (([] : List UInt8), ([] : List UInt8), (0 : Int), (0 : Int), (0 : Int), (0 : Int))) Try_lo25 (fun S => ⟨[.string ⟨#[]⟩], _, rfl, rfl, ⟨[.string ⟨#[]⟩], _, rfl, rfl, ⟨[.int .i64 0], _, rfl, rfl, ⟨[.int .i64 0], _, rfl, rfl, ⟨[.int .i64 0], _, rfl, rfl, rfl⟩⟩⟩⟩⟩) rfl rfl rfl ?_
   intro v82
   refine RL.reL (L' := [own 25 (TR.pair TR.str (TR.pair TR.str (TR.pair TR.int (TR.pair TR.int (TR.pair TR.int TR.int))))) v0 l32, keep X, imm (TR.pair TR.str (TR.pair TR.str (TR.pair TR.int (TR.pair TR.int (TR.pair TR.int TR.int))))) v81 y79, obox 25 (TR.pair TR.str (TR.pair TR.str (TR.pair TR.int (TR.pair TR.int (TR.pair TR.int TR.int))))) v82 (([] : List UInt8), ([] : List UInt8), (0 : Int), (0 : Int), (0 : Int), (0 : Int))]) rfl ?_
   refine RL.stP (off := 0) (e' := y79) (d1 := y79) (r := (TR.pair TR.str (TR.pair TR.str (TR.pair TR.int (TR.pair TR.int (TR.pair TR.int TR.int)))))) 3 Try_ln25 rfl rfl (Or.inr ⟨rfl, rfl⟩) rfl (VR.item 2 rfl) rfl Upd.self ?_
   refine RL.finG ?_
   refine GL.seq ?_
   refine GL.region ?_
   refine RL.mv rfl rfl rfl ?_
   refine RL.ldP (off := 0) (r := (TR.pair TR.str (TR.pair TR.str (TR.pair TR.int (TR.pair TR.int (TR.pair TR.int TR.int)))))) (e' := y79) 3 Try_ln25 rfl rfl (Or.inr ⟨rfl, rfl⟩) rfl PtOf.obox Part.self ?_
   intro v86
   refine RL.reL (L' := [own 25 (TR.pair TR.str (TR.pair TR.str (TR.pair TR.int (TR.pair TR.int (TR.pair TR.int TR.int))))) v0 l32, keep X, imm (TR.pair TR.str (TR.pair TR.str (TR.pair TR.int (TR.pair TR.int (TR.pair TR.int TR.int))))) v81 y79, obox 25 (TR.pair TR.str (TR.pair TR.str (TR.pair TR.int (TR.pair TR.int (TR.pair TR.int TR.int))))) v82 y79, imm (TR.pair TR.str (TR.pair TR.str (TR.pair TR.int (TR.pair TR.int (TR.pair TR.int TR.int))))) v86 y79]) rfl ?_
   obtain ⟨y87, e88, h68⟩ := bind_some h68
   refine RL.callV (v := .bool y87) (vs := [v86]) t1 rfl (Or.inl rfl) rfl rfl rfl rfl (fun U w hU hW hL => k1 U w hW hU _ _ (hL 4 _ _ rfl Seen.imm) _ e88) ?_
   refine RL.notB rfl rfl rfl ?_
   refine RL.finG ?_
   refine GL.cond rfl (fun b89 => ?_) (fun b89 => ?_)
   ·replace h68 := ite_t b89 h68
    refine GL.seq ?_
    refine GL.region ?_
    refine RL.mv rfl rfl rfl ?_
    refine RL.mv rfl rfl rfl ?_
    refine RL.ldP (off := 0) (r := (TR.pair TR.str (TR.pair TR.str (TR.pair TR.int (TR.pair TR.int (TR.pair TR.int TR.int)))))) (e' := y79) 3 Try_ln25 rfl rfl (Or.inr ⟨rfl, rfl⟩) rfl PtOf.obox Part.self ?_
    intro v93
    obtain ⟨y94, e95, h68⟩ := bind_some h68
    refine RL.idxS (sz := 6) 0 Try.underlying22 Try_ln25 rfl rfl rfl rfl rfl SlOf.own (idx_some e95).1 (idx_some e95).2.1 ?_
    refine RL.stS (i := (x33).toNat) (e' := y79) (e1 := y79) (r := (TR.pair TR.str (TR.pair TR.str (TR.pair TR.int (TR.pair TR.int (TR.pair TR.int TR.int)))))) 0 Try_ln25 rfl rfl rfl rfl (VR.item 5 rfl) rfl (idx_some e95).2.2 Upd.self ?_
    refine RL.reL (L' := [own 25 (TR.pair TR.str (TR.pair TR.str (TR.pair TR.int (TR.pair TR.int (TR.pair TR.int TR.int))))) v0 (List.set l32 ((x33).toNat) y79), keep X, imm (TR.pair TR.str (TR.pair TR.str (TR.pair TR.int (TR.pair TR.int (TR.pair TR.int TR.int))))) v81 y79, obox 25 (TR.pair TR.str (TR.pair TR.str (TR.pair TR.int (TR.pair TR.int (TR.pair TR.int TR.int))))) v82 y79, imm (TR.pair TR.str (TR.pair TR.str (TR.pair TR.int (TR.pair TR.int (TR.pair TR.int TR.int))))) v86 y79, imm (TR.pair TR.str (TR.pair TR.str (TR.pair TR.int (TR.pair TR.int (TR.pair TR.int TR.int))))) v93 y79]) rfl ?_
    refine RL.finG ?_
    refine GL.region ?_
    refine RL.mv rfl rfl rfl ?_
    refine RL.binI (v := .int .i64 (wadd x33 (1 : Int))) rfl rfl rfl rfl rfl ?_
    refine RL.asg rfl rfl rfl ?_
    refine RL.finG ?_
    refine GL.nilB ?_
    refine GL.region ?_
    refine RL.mv rfl rfl rfl ?_
    refine RL.binI (v := .int .i64 (wadd x34 (1 : Int))) rfl rfl rfl rfl rfl ?_
    refine RL.asg rfl rfl rfl ?_
    refine RL.finG ?_
    cases h68
    exact fun a w st => lop_intro (r73, (List.set l32 ((x33).toNat) y79), wadd x33 (1 : Int), wadd x34 (1 : Int)) (by exact h69) (by simp) (St.cut [0, 1] ⟨rfl, rfl, rfl, rfl, trivial⟩ (by decide) rfl st)
   replace h68 := ite_f b89 h68
   refine GL.skip ?_
   refine GL.nilB ?_
   refine GL.region ?_
   refine RL.mv rfl rfl rfl ?_
   refine RL.binI (v := .int .i64 (wadd x34 (1 : Int))) rfl rfl rfl rfl rfl ?_
   refine RL.asg rfl rfl rfl ?_
   refine RL.finG ?_
   cases h68
   exact fun a w st => lop_intro (r73, l32, x33, wadd x34 (1 : Int)) (by exact h69) (by simp) (St.cut [0, 1] ⟨rfl, rfl, rfl, rfl, trivial⟩ (by decide) rfl st)
  replace h68 := ite_f b74 h68
  cases h68
  replace h69 : some (Fl.nx _) = some y57 := h69
  cases h69
  exact GL.exit (fun a w st => mid_intro (l32, x33, x34) h60 (St.cut [0, 1] ⟨rfl, rfl, trivial⟩ (by decide) rfl st))
 rintro ⟨l32, x33, x34⟩ h96
 have h97 := h61 _ h96
 try dsimp only at h97
 refine GL.weak (env' := [(0, v0), (5, .int .i64 x33)]) (L' := [own 25 (TR.pair TR.str (TR.pair TR.str (TR.pair TR.int (TR.pair TR.int (TR.pair TR.int TR.int))))) v0 l32, keep X]) (fun _ _ st => st) ?_
 refine GL.seq ?_
 refine GL.region ?_
 refine RL.mv rfl rfl rfl ?_
 refine RL.mv rfl rfl rfl ?_
 obtain ⟨y100, e101, h97⟩ := bind_some h97
 replace e101 := chk_some e101
 refine RL.cutL (t := (TR.pair TR.str (TR.pair TR.str (TR.pair TR.int (TR.pair TR.int (TR.pair TR.int TR.int)))))) (i := (x33).toNat) (kd := .i64) 0 Try.underlying22 Try_ln25 rfl rfl rfl (by rw [Int.toNat_of_nonneg (by omega)]; rfl) rfl (by omega) ?_
 refine RL.clrL (t := (TR.pair TR.str (TR.pair TR.str (TR.pair TR.int (TR.pair TR.int (TR.pair TR.int TR.int)))))) (i := (x33).toNat) 0 Try.underlying22 Try_lo25 (by decide) rfl rfl rfl rfl (by omega) ?_
 refine RL.reL (L' := [own 25 (TR.pair TR.str (TR.pair TR.str (TR.pair TR.int (TR.pair TR.int (TR.pair TR.int TR.int))))) (relen v0 ((x33).toNat)) (List.take ((x33).toNat) l32), keep X]) rfl ?_
 refine RL.finG ?_
 refine GL.seq ?_
 refine GL.region ?_
 refine RL.mv rfl rfl rfl ?_
 refine RL.mv rfl rfl rfl ?_
 obtain ⟨y104, e105, h97⟩ := bind_some h97
 replace e105 := chk_some e105
 refine RL.cutP (t := (TR.pair TR.str (TR.pair TR.str (TR.pair TR.int (TR.pair TR.int (TR.pair TR.int TR.int)))))) (i := (x33).toNat) (kd := .i64) 0 Try.underlying22 Try_ln25 rfl rfl rfl (by rw [Int.toNat_of_nonneg (by omega)]; rfl) rfl (by rw [List.length_take]; omega) ?_
 refine RL.asg rfl rfl rfl ?_
 refine RL.finG ?_
 have h97 := Option.some.inj h97
 subst h97
 exact GL.ret (Gx.ret (v := relen v0 ((x33).toNat)) (res1 rfl rfl) (fun a w st => (st.pick [0, 1] (by decide) rfl).toPostM (V := fun (o : Value) => o) (LR := fun (o : Value) => [own 25 (TR.pair TR.str (TR.pair TR.str (TR.pair TR.int (TR.pair TR.int (TR.pair TR.int TR.int))))) o (List.take ((x33).toNat) l32), keep X]) (relen v0 ((x33).toNat))))

set_option maxHeartbeats 4000000 in
theorem slices_IndexFunc_api_Account_api_Account_c (S : Hp) (w : World) (hS : S.sub w) (v0 : Value) (x0 : (List ((List UInt8) × (Int × Int)))) (k0 : ((TR.sl (TR.pair TR.str (TR.pair TR.int TR.int)))).vrep S v0 x0) (f1 : FuncId) (c1 : Array Value) (t1 : Fit Try.prog f1) (g1 : ((List UInt8) × (Int × Int)) → Option Bool) (k1 : ∀ (U : Hp) (w' : World), Hp.le S U → U.sub w' → ∀ (u0 : Value) (a0 : ((List UInt8) × (Int × Int))) (_ : ((TR.pair TR.str (TR.pair TR.int TR.int))).vrep U u0 a0) (rr : Bool), g1 a0 = some rr → Calls Try.prog f1 (#[u0] ++ c1) w' (PostV w' (.bool rr))) (res : Int) (hm : slices_IndexFunc_api_Account_api_Account_m x0 g1 = some res) : Calls Try.prog 55 #[v0, .func (.func f1) #[] c1] w (PostV w (.int .i64 res)) := by
 refine calls_enter 19 Try.func55 Try.ntmps55 rfl S false [(0, v0), (1, .func (.func f1) #[] c1)] [imm (TR.sl (TR.pair TR.str (TR.pair TR.int TR.int))) v0 x0] rfl ⟨rfl, ⟨rfl, trivial⟩⟩ hS ⟨k0, trivial⟩ ?_
 unfold slices_IndexFunc_api_Account_api_Account_m at hm
 refine GL.seq ?_
 refine GL.region ?_
 refine RL.asg rfl rfl rfl ?_
 refine RL.finG ?_
 refine GL.seq ?_
 refine GL.seq ?_
 refine GL.region ?_
 refine RL.mv rfl rfl rfl ?_
 refine RL.lenS 0 Try.underlying34 rfl rfl rfl rfl SlOf.imm ?_
 refine RL.mv rfl rfl rfl ?_
 refine RL.finG ?_
 refine GL.open_ 0 rfl (fun S h => len_imm S h) (fun n14 => ?_)
 obtain ⟨y15, K16, h17, h18, h19, h20, h21⟩ := bindR_K hm
 refine GL.join (ι := Unit) (fun (p : Unit) => []) (fun (p : Unit) => []) (fun (p : Unit) => K16 (.nx ())) ?_ ?_
 ·refine GL.block ?_
  refine GL.loop (ι := Nat × (List ((List UInt8) × (Int × Int)))) (fun (p : Nat × (List ((List UInt8) × (Int × Int)))) => [(0, v0), (1, .func (.func f1) #[] c1), (7, .int .i64 ((x0).length : Int)), (8, .int .i64 (p.1 : Int))]) (fun (p : Nat × (List ((List UInt8) × (Int × Int)))) => [imm (TR.sl (TR.pair TR.str (TR.pair TR.int TR.int))) v0 x0]) (fun (p : Nat × (List ((List UInt8) × (Int × Int)))) => p.1 + p.2.length = (x0).length ∧ List.drop p.1 x0 = p.2 ∧ rangeL (slices_IndexFunc_api_Account_api_Account_b1 g1) p.2 p.1 () = some y15) (fun (p : Nat × (List ((List UInt8) × (Int × Int)))) => p.2.length) (0, x0) ⟨by simp, by simp, h17⟩ (fun a w st => St.cut [0] ⟨rfl, rfl, rfl, rfl, trivial⟩ (by decide) rfl st) ?_
  rintro ⟨i22, r23⟩ ⟨h28, h29, h27⟩
  try dsimp only at h28 h29 h27
  refine GL.weak (env' := [(0, v0), (1, .func (.func f1) #[] c1), (7, .int .i64 ((x0).length : Int)), (8, .int .i64 (i22 : Int))]) (L' := [imm (TR.sl (TR.pair TR.str (TR.pair TR.int TR.int))) v0 x0]) (fun _ _ st => st) ?_
  refine GL.seq ?_
  refine GL.region ?_
  refine RL.binI (v := .bool (decide ((i22 : Int) < ((x0).length : Int)))) rfl rfl rfl rfl rfl ?_
  refine RL.finG ?_
  refine GL.seq ?_
  refine GL.cond rfl (fun b30 => ?_) (fun b30 => ?_)
  ·have h31 : i22 < (x0).length := by have := of_decide_eq_true b30; omega
   obtain ⟨y32, r34, hr, e33, h35⟩ := drop_cons h29 rfl h31
   subst hr
   obtain ⟨z24, h25, h26⟩ := rangeL_some h27
   unfold slices_IndexFunc_api_Account_api_Account_b1 at h25
   try dsimp only at h25
   refine GL.skip ?_
   refine GL.seq ?_
   refine GL.block ?_
   refine GL.seq ?_
   refine GL.region ?_
   refine RL.mv rfl rfl rfl ?_
   refine RL.asg rfl rfl rfl ?_
   refine RL.finG ?_
   refine GL.seq ?_
   refine GL.region ?_
   refine RL.mv rfl rfl rfl ?_
   refine RL.mv rfl rfl rfl ?_
   refine RL.mv rfl rfl rfl ?_
   refine RL.idxS (sz := 3) 0 Try.underlying34 Try_ln38 rfl rfl rfl rfl rfl SlOf.imm (by omega) (by omega) ?_
   refine RL.ldS (i := i22) (r := (TR.pair TR.str (TR.pair TR.int TR.int))) (e' := y32) 0 Try_ln38 rfl rfl rfl rfl SlOf.imm e33 Part.self ?_
   intro v39
   obtain ⟨y40, e41, h25⟩ := bind_some h25
   refine RL.callV (v := .bool y40) (vs := [v39]) t1 rfl (Or.inl rfl) rfl rfl rfl rfl (fun U w hU hW hL => k1 U w hW hU _ _ (hL 1 _ _ rfl Seen.imm) _ e41) ?_
   refine RL.finG ?_
   refine GL.cond rfl (fun b42 => ?_) (fun b42 => ?_)
   ·replace h25 := ite_t b42 h25
    refine GL.seq ?_
    refine GL.region ?_
    refine RL.mv rfl rfl rfl ?_
    refine RL.asg rfl rfl rfl ?_
    refine RL.finG ?_
    cases h25
    replace h26 : some (Fl.rt _) = some y15 := h26
    cases h26
    have hh := h20 _ h18
    subst hh
    exact GL.ret (Gx.ret (v := .int .i64 (i22 : Int)) (res1 rfl rfl) (fun a w st => st.toPostV))
   replace h25 := ite_f b42 h25
   refine GL.skip ?_
   refine GL.nilB ?_
   refine GL.region ?_
   refine RL.binI (v := .int .i64 ((i22 + 1 : Nat) : Int)) rfl rfl rfl rfl (binI_succ i22 (by omega)) ?_
   refine RL.mv rfl rfl rfl ?_
   refine RL.fin ?_
   cases h25
   exact fun a w st => lop_intro (i22 + 1, r34) ⟨by show i22 + 1 + r34.length = (x0).length; simp only [List.length_cons] at h28; omega, h35, h26⟩ (by simp) (St.cut [0] ⟨rfl, rfl, rfl, rfl, trivial⟩ (by decide) rfl st)
  have h31 : ¬ i22 < (x0).length := by have := of_decide_eq_false b30; omega
  obtain rfl : r23 = [] := by rw [← h29]; exact List.drop_of_length_le (by omega)
  replace h27 : some (Fl.nx _) = some y15 := h27
  cases h27
  exact GL.exit (fun a w st => mid_intro () h18 (St.cut [] trivial (by decide) rfl st))
 rintro ⟨⟩ h43
 have h44 := h19 _ h43
 try dsimp only at h44
 refine GL.weak (env' := []) (L' := []) (fun _ _ st => st) ?_
 refine GL.seq ?_
 refine GL.region ?_
 refine RL.asg rfl rfl rfl ?_
 refine RL.finG ?_
 have h44 := Option.some.inj h44
 subst h44
 exact GL.ret (Gx.ret (v := .int .i64 (-1 : Int)) (res1 rfl rfl) (fun a w st => st.toPostV))

set_option maxHeartbeats 4000000 in
theorem slices_ContainsFunc_api_Account_api_Account_c (S : Hp) (w : World) (hS : S.sub w) (v0 : Value) (x0 : (List ((List UInt8) × (Int × Int)))) (k0 : ((TR.sl (TR.pair TR.str (TR.pair TR.int TR.int)))).vrep S v0 x0) (f1 : FuncId) (c1 : Array Value) (t1 : Fit Try.prog f1) (g1 : ((List UInt8) × (Int × Int)) → Option Bool) (k1 : ∀ (U : Hp) (w' : World), Hp.le S U → U.sub w' → ∀ (u0 : Value) (a0 : ((List UInt8) × (Int × Int))) (_ : ((TR.pair TR.str (TR.pair TR.int TR.int))).vrep U u0 a0) (rr : Bool), g1 a0 = some rr → Calls Try.prog f1 (#[u0] ++ c1) w' (PostV w' (.bool rr))) (res : Bool) (hm : slices_ContainsFunc_api_Account_api_Account_m x0 g1 = some res) : Calls Try.prog 21 #[v0, .func (.func f1) #[] c1] w (PostV w (.bool res)) := by
 refine calls_enter 9 Try.func21 Try.ntmps21 rfl S false [(0, v0), (1, .func (.func f1) #[] c1)] [imm (TR.sl (TR.pair TR.str (TR.pair TR.int TR.int))) v0 x0] rfl ⟨rfl, ⟨rfl, trivial⟩⟩ hS ⟨k0, trivial⟩ ?_
 unfold slices_ContainsFunc_api_Account_api_Account_m at hm
 refine GL.seq ?_
 refine GL.region ?_
 refine RL.asg rfl rfl rfl ?_
 refine RL.finG ?_
 refine GL.seq ?_
 refine GL.region ?_
 refine RL.mv rfl rfl rfl ?_
 refine RL.mv rfl rfl rfl ?_
 obtain ⟨y5, e6, hm⟩ := bind_some hm
 refine RL.callV (v := .int .i64 y5) (vs := [v0, .func (.func f1) #[] c1]) Try_fit55 rfl (Or.inl rfl) rfl rfl rfl rfl (fun U w hU hW hL => slices_IndexFunc_api_Account_api_Account_c U w hU _ _ (hL 0 _ _ rfl Seen.imm) f1 c1 t1 g1 (fun U' w' hle => k1 U' w' (Hp.le_trans hW hle)) _ e6) ?_
 refine RL.binI (v := .bool (decide (y5 ≥ (0 : Int)))) rfl rfl rfl rfl rfl ?_
 refine RL.asg rfl rfl rfl ?_
 refine RL.finG ?_
 have hm := Option.some.inj hm
 subst hm
 exact GL.ret (Gx.ret (v := .bool (decide (y5 ≥ (0 : Int)))) (res1 rfl rfl) (fun a w st => st.toPostV))

set_option maxHeartbeats 4000000 in
theorem queue_Clean_1_1_c (S : Hp) (w : World) (hS : S.sub w) (v0 : Value) (x0 : ((List UInt8) × (Int × Int))) (k0 : ((TR.pair TR.str (TR.pair TR.int TR.int))).vrep S v0 x0) (v1 : Value) (x1 : ((List UInt8) × ((List UInt8) × (Int × (Int × (Int × Int)))))) (k1 : ((TR.ptr (TR.pair TR.str (TR.pair TR.str (TR.pair TR.int (TR.pair TR.int (TR.pair TR.int TR.int))))))).vrep S v1 x1) (res : Bool) (hm : queue_Clean_1_1_m x0 x1 = some res) : Calls Try.prog 54 #[v0, v1] w (PostV w (.bool res)) := by
 refine calls_enter 16 Try.func54 Try.ntmps54 rfl S false [(0, v0), (1, v1)] [imm (TR.pair TR.str (TR.pair TR.int TR.int)) v0 x0, imm (TR.ptr (TR.pair TR.str (TR.pair TR.str (TR.pair TR.int (TR.pair TR.int (TR.pair TR.int TR.int)))))) v1 x1] rfl ⟨rfl, ⟨rfl, trivial⟩⟩ hS ⟨k0, ⟨k1, trivial⟩⟩ ?_
 unfold queue_Clean_1_1_m at hm
 refine GL.seq ?_
 refine GL.region ?_
 refine RL.box (t := (TR.pair TR.str (TR.pair TR.int TR.int))) (e := x0) rfl rfl rfl rfl (VR.item 0 rfl) ?_
 intro v4
 refine RL.asg rfl rfl rfl ?_
 refine RL.finG ?_
 refine GL.seq ?_
 obtain ⟨y8, K9, h10, h11, h12, h13, h14⟩ := bindR_K hm
 refine GL.join (ι := Bool) (fun (p : Bool) => [(3, .bool p)]) (fun (p : Bool) => []) (fun (p : Bool) => K9 (.nx p)) ?_ ?_
 ·skip
  refine GL.region ?_
  refine RL.fadr (off := 0) (fo := 0) 2 Try_fld38_0 rfl rfl rfl PtOf.obox (Or.inr ⟨rfl, rfl⟩) ?_
  refine RL.ldPx (off := (0 + 0)) (e' := x0.1) 2 Ex.str Try_ln9 rfl rfl (Or.inl rfl) rfl PtOf.obox (Part.fst Part.self) ?_
  refine RL.fadr (off := 0) (fo := 0) 1 Try_fld25_0 rfl rfl rfl PtOf.imm (Or.inr ⟨rfl, rfl⟩) ?_
  refine RL.ldPx (off := (0 + 0)) (e' := x1.1) 1 Ex.str Try_ln9 rfl rfl (Or.inl rfl) rfl PtOf.imm (Part.fst Part.self) ?_
  refine RL.binS (v := .bool (x0.1 == x1.1)) rfl rfl rfl rfl rfl ?_
  refine RL.mv rfl rfl rfl ?_
  refine RL.split (t := 9) rfl (fun b15 => ?_) (fun b15 => ?_)
  ·replace h10 := ite_t b15 h10
   refine RL.fadr (off := 0) (fo := 2) 1 Try_fld25_2 rfl rfl rfl PtOf.imm (Or.inr ⟨rfl, rfl⟩) ?_
   refine RL.ldPx (off := (0 + 2)) (e' := x1.2.2.1) 1 Ex.ik Try_ln3 rfl rfl (Or.inl rfl) rfl PtOf.imm (Part.snd (Part.snd (Part.fst Part.self))) ?_
   refine RL.fadr (off := 0) (fo := 2) 2 Try_fld38_2 rfl rfl rfl PtOf.obox (Or.inr ⟨rfl, rfl⟩) ?_
   refine RL.ldPx (off := (0 + 2)) (e' := x0.2.2) 2 Ex.ik Try_ln3 rfl rfl (Or.inl rfl) rfl PtOf.obox (Part.snd (Part.snd Part.self)) ?_
   refine RL.binI (v := .bool (decide (x1.2.2.1 < x0.2.2))) rfl rfl rfl rfl rfl ?_
   refine RL.pickT rfl rfl rfl rfl ?_
   refine RL.asg rfl rfl rfl ?_
   refine RL.fin ?_
   cases h10
   exact fun a w st => mid_intro (decide (x1.2.2.1 < x0.2.2)) h11 (St.cut [] ⟨rfl, trivial⟩ (by decide) rfl st)
  replace h10 := ite_f b15 h10
  refine RL.skip rfl rfl ?_
  refine RL.skip rfl rfl ?_
  refine RL.skip rfl rfl ?_
  refine RL.skip rfl rfl ?_
  refine RL.skip rfl rfl ?_
  refine RL.pickF rfl rfl rfl rfl ?_
  refine RL.asg rfl rfl rfl ?_
  refine RL.fin ?_
  cases h10
  exact fun a w st => mid_intro false h11 (St.cut [] ⟨rfl, trivial⟩ (by decide) rfl st)
 rintro x7 h16
 have h17 := h12 _ h16
 try dsimp only at h17
 refine GL.weak (env' := [(3, .bool x7)]) (L' := []) (fun _ _ st => st) ?_
 have h17 := Option.some.inj h17
 subst h17
 exact GL.ret (Gx.ret (v := .bool x7) (res1 rfl rfl) (fun a w st => st.toPostV))

set_option maxHeartbeats 4000000 in
theorem queue_Clean_1_c (S : Hp) (w : World) (hS : S.sub w) (v0 : Value) (x0 : ((List UInt8) × ((List UInt8) × (Int × (Int × (Int × Int)))))) (k0 : ((TR.pair TR.str (TR.pair TR.str (TR.pair TR.int (TR.pair TR.int (TR.pair TR.int TR.int)))))).vrep S v0 x0) (v1 : Value) (x1 : (List ((List UInt8) × (Int × Int)))) (k1 : ((TR.ptr (TR.sl (TR.pair TR.str (TR.pair TR.int TR.int))))).vrep S v1 x1) (res : Bool) (hm : queue_Clean_1_m x0 x1 = some res) : Calls Try.prog 53 #[v0, v1] w (PostV w (.bool res)) := by
 refine calls_enter 7 Try.func53 Try.ntmps53 rfl S false [(0, v0), (1, v1)] [imm (TR.pair TR.str (TR.pair TR.str (TR.pair TR.int (TR.pair TR.int (TR.pair TR.int TR.int))))) v0 x0, imm (TR.ptr (TR.sl (TR.pair TR.str (TR.pair TR.int TR.int)))) v1 x1] rfl ⟨rfl, ⟨rfl, trivial⟩⟩ hS ⟨k0, ⟨k1, trivial⟩⟩ ?_
 unfold queue_Clean_1_m at hm
 refine GL.seq ?_
 refine GL.region ?_
 refine RL.box (t := (TR.pair TR.str (TR.pair TR.str (TR.pair TR.int (TR.pair TR.int (TR.pair TR.int TR.int)))))) (e := x0) rfl rfl rfl rfl (VR.item 0 rfl) ?_
 intro v4
 refine RL.asg rfl rfl rfl ?_
 refine RL.finG ?_
 refine GL.seq ?_
 refine GL.region ?_
 refine RL.ldP (off := 0) (r := (TR.sl (TR.pair TR.str (TR.pair TR.int TR.int)))) (e' := x1) 1 Try_ln34 rfl rfl (Or.inr ⟨rfl, rfl⟩) rfl PtOf.imm Part.self ?_
 intro v8
 refine RL.reL (L' := [imm (TR.pair TR.str (TR.pair TR.str (TR.pair TR.int (TR.pair TR.int (TR.pair TR.int TR.int))))) v0 x0, imm (TR.ptr (TR.sl (TR.pair TR.str (TR.pair TR.int TR.int)))) v1 x1, obox 25 (TR.pair TR.str (TR.pair TR.str (TR.pair TR.int (TR.pair TR.int (TR.pair TR.int TR.int))))) v4 x0, imm (TR.sl (TR.pair TR.str (TR.pair TR.int TR.int))) v8 x1]) rfl ?_
 refine RL.mkF (vs := [v4]) rfl rfl rfl ?_
 obtain ⟨y9, e10, hm⟩ := bind_some hm
 refine RL.callV (v := .bool y9) (vs := [v8, .func (.func 54) #[] #[v4]]) Try_fit21 rfl (Or.inl rfl) rfl rfl rfl rfl (fun U w hU hW hL => slices_ContainsFunc_api_Account_api_Account_c U w hU _ _ (hL 3 _ _ rfl Seen.imm) 54 #[v4] Try_fit54 (fun a0 => queue_Clean_1_1_m a0 x0) (fun U' w' hle hU' u0 a0 q0 rr hr => (queue_Clean_1_1_c U' w' hU' u0 a0 q0 _ _ (TR.vrep_mono hle (hL 2 _ _ rfl Seen.obox)) rr hr).mono (fun _ _ z => z)) _ e10) ?_
 refine RL.asg rfl rfl rfl ?_
 refine RL.finG ?_
 have hm := Option.some.inj hm
 subst hm
 exact GL.ret (Gx.ret (v := .bool y9) (res1 rfl rfl) (fun a w st => st.toPostV))

set_option maxHeartbeats 4000000 in
theorem queue_Clean_c (S : Hp) (w : World) (hS : S.sub w) (v0 : Value) (x0 : (List ((List UInt8) × ((List UInt8) × (Int × (Int × (Int × Int))))))) (k0 : ((TR.sl (TR.pair TR.str (TR.pair TR.str (TR.pair TR.int (TR.pair TR.int (TR.pair TR.int TR.int))))))).vrep S v0 x0) (v1 : Value) (x1 : (List ((List UInt8) × (Int × Int)))) (k1 : ((TR.sl (TR.pair TR.str (TR.pair TR.int TR.int)))).vrep S v1 x1) (res : (List ((List UInt8) × ((List UInt8) × (Int × (Int × (Int × Int)))))) × Int) (hm : queue_Clean_m x0 x1 = some res) : Calls Try.prog 20 #[v0, v1] w (Post w S (fun (o : Value) => .tuple #[o, .int .i64 res.2]) (fun (o : Value) => [own 25 (TR.pair TR.str (TR.pair TR.str (TR.pair TR.int (TR.pair TR.int (TR.pair TR.int TR.int))))) o res.1])) := by
 refine calls_enter 22 Try.func20 Try.ntmps20 rfl S false [(0, v0), (1, v1)] [imm (TR.sl (TR.pair TR.str (TR.pair TR.str (TR.pair TR.int (TR.pair TR.int (TR.pair TR.int TR.int)))))) v0 x0, imm (TR.sl (TR.pair TR.str (TR.pair TR.int TR.int))) v1 x1] rfl ⟨rfl, ⟨rfl, trivial⟩⟩ hS ⟨k0, ⟨k1, trivial⟩⟩ ?_
 unfold queue_Clean_m at hm
 refine GL.seq ?_
 refine GL.region ?_
 refine RL.box (t := (TR.sl (TR.pair TR.str (TR.pair TR.int TR.int)))) (e := x1) rfl rfl rfl rfl (VR.item 1 rfl) ?_
 intro v4
 refine RL.asg rfl rfl rfl ?_
 refine RL.asg rfl rfl rfl ?_
 refine RL.finG ?_
 refine GL.seq ?_
 refine GL.seq ?_
 refine GL.region ?_
 refine RL.mv rfl rfl rfl ?_
 obtain ⟨y7, e8, hm⟩ := bind_some hm
 refine RL.callV (v := .int .i64 y7) (vs := [v0]) Try_fit16 rfl (Or.inl rfl) rfl rfl rfl rfl (fun U w hU hW hL => queue_Check_c U w hU _ _ (hL 0 _ _ rfl Seen.imm) _ e8) ?_
 refine RL.asg rfl rfl rfl ?_
 refine RL.finG ?_
 refine GL.seq ?_
 refine GL.region ?_
 refine RL.mv rfl rfl rfl ?_
 refine RL.binI (v := .bool (y7 != (0 : Int))) rfl rfl rfl rfl rfl ?_
 refine RL.finG ?_
 refine GL.cond rfl (fun b9 => ?_) (fun b9 => ?_)
 ·replace hm := ite_t b9 hm
  refine GL.seq ?_
  refine GL.region ?_
  refine RL.mv rfl rfl rfl ?_
  refine RL.asg rfl rfl rfl ?_
  refine RL.asg rfl rfl rfl ?_
  refine RL.finG ?_
  refine GL.weak (fun a w st => st.nilOwn 25 (TR.pair TR.str (TR.pair TR.str (TR.pair TR.int (TR.pair TR.int (TR.pair TR.int TR.int)))))) ?_
  have hm := Option.some.inj hm
  subst hm
  exact GL.ret (Gx.ret (v := .tuple #[Value.slice none 0 0, .int .i64 y7]) (res2 rfl rfl rfl) (fun a w st => (st.pick [3] (by decide) rfl).toPost (Value.slice none 0 0)))
 replace hm := ite_f b9 hm
 refine GL.skip ?_
 refine GL.seq ?_
 refine GL.seq ?_
 refine GL.region ?_
 refine RL.ldP (off := 0) (r := (TR.sl (TR.pair TR.str (TR.pair TR.int TR.int)))) (e' := x1) 2 Try_ln34 rfl rfl (Or.inr ⟨rfl, rfl⟩) rfl PtOf.obox Part.self ?_
 intro v13
 refine RL.reL (L' := [imm (TR.sl (TR.pair TR.str (TR.pair TR.str (TR.pair TR.int (TR.pair TR.int (TR.pair TR.int TR.int)))))) v0 x0, imm (TR.sl (TR.pair TR.str (TR.pair TR.int TR.int))) v1 x1, obox 34 (TR.sl (TR.pair TR.str (TR.pair TR.int TR.int))) v4 x1, imm (TR.sl (TR.pair TR.str (TR.pair TR.int TR.int))) v13 x1]) rfl ?_
 obtain ⟨y14, e15, hm⟩ := bind_some hm
 refine RL.callV (v := .int .i64 y14) (vs := [v13]) Try_fit51 rfl (Or.inl rfl) rfl rfl rfl rfl (fun U w hU hW hL => ledger_Check_c U w hU _ _ (hL 3 _ _ rfl Seen.imm) _ e15) ?_
 refine RL.asg rfl rfl rfl ?_
 refine RL.finG ?_
 refine GL.seq ?_
 refine GL.region ?_
 refine RL.mv rfl rfl rfl ?_
 refine RL.binI (v := .bool (y14 != (0 : Int))) rfl rfl rfl rfl rfl ?_
 refine RL.finG ?_
 refine GL.cond rfl (fun b16 => ?_) (fun b16 => ?_)
 ·replace hm := ite_t b16 hm
  refine GL.seq ?_
  refine GL.region ?_
  refine RL.mv rfl rfl rfl ?_
  refine RL.asg rfl rfl rfl ?_
  refine RL.asg rfl rfl rfl ?_
  refine RL.finG ?_
  refine GL.weak (fun a w st => st.nilOwn 25 (TR.pair TR.str (TR.pair TR.str (TR.pair TR.int (TR.pair TR.int (TR.pair TR.int TR.int)))))) ?_
  have hm := Option.some.inj hm
  subst hm
  exact GL.ret (Gx.ret (v := .tuple #[Value.slice none 0 0, .int .i64 y14]) (res2 rfl rfl rfl) (fun a w st => (st.pick [4] (by decide) rfl).toPost (Value.slice none 0 0)))
 replace hm := ite_f b16 hm
 refine GL.skip ?_
 refine GL.seq ?_
 refine GL.region ?_
 refine RL.mv rfl rfl rfl ?_
 obtain ⟨y23, e24, hm⟩ := bind_some hm
 refine RL.call (vs := [v0]) Try_fit48 rfl rfl rfl rfl rfl (fun S f w hS hW hi => slices_Clone_api_Deal_api_Deal_c S w hS _ _ (hi 0 _ rfl) _ e24) ?_
 intro v25
 refine RL.mkF (vs := [v4]) rfl rfl rfl ?_
 refine RL.weak (fun a w st => st.freezeB 2 rfl) ?_
 obtain ⟨y26, e27, hm⟩ := bind_some hm
 refine RL.callK (vs := [v25, .func (.func 53) #[] #[v4]]) (V := fun (o : Value) => o) (LR := fun (o : Value) => [own 25 (TR.pair TR.str (TR.pair TR.str (TR.pair TR.int (TR.pair TR.int (TR.pair TR.int TR.int))))) o y26]) (Ls := [own 25 (TR.pair TR.str (TR.pair TR.str (TR.pair TR.int (TR.pair TR.int (TR.pair TR.int TR.int))))) v25 y23]) [4] (by decide) Try_fit52 rfl rfl rfl rfl rfl rfl (fun S f X w hO hB hW hI hL => slices_DeleteFunc_api_Deal_api_Deal_c _ S X f w _ _ hO hB hI 53 #[v4] Try_fit53 (fun a0 => queue_Clean_1_m a0 x1) (fun U' w' hle hU' u0 a0 q0 rr hr => (queue_Clean_1_c U' w' hU' u0 a0 q0 _ _ (TR.vrep_mono hle (hL 2 _ _ rfl Sure.imm)) rr hr).mono (fun _ _ z => z)) _ e27) ?_
 intro v28
 refine RL.reL (L' := [imm (TR.sl (TR.pair TR.str (TR.pair TR.str (TR.pair TR.int (TR.pair TR.int (TR.pair TR.int TR.int)))))) v0 x0, imm (TR.sl (TR.pair TR.str (TR.pair TR.int TR.int))) v1 x1, imm (TR.ptr (TR.sl (TR.pair TR.str (TR.pair TR.int TR.int)))) v4 x1, imm (TR.sl (TR.pair TR.str (TR.pair TR.int TR.int))) v13 x1, gone, own 25 (TR.pair TR.str (TR.pair TR.str (TR.pair TR.int (TR.pair TR.int (TR.pair TR.int TR.int))))) v28 y26]) rfl ?_
 refine RL.asg rfl rfl rfl ?_
 refine RL.asg rfl rfl rfl ?_
 refine RL.finG ?_
 have hm := Option.some.inj hm
 subst hm
 exact GL.ret (Gx.ret (v := .tuple #[v28, .int .i64 (0 : Int)]) (res2 rfl rfl rfl) (fun a w st => (st.pick [5] (by decide) rfl).toPost v28))

set_option maxHeartbeats 4000000 in
theorem pk_QueueClean_1_c (S : Hp) (w : World) (hS : S.sub w) (v0 : Value) (x0 : ((List UInt8) × (Int × Int))) (k0 : ((TR.pair TR.str (TR.pair TR.int TR.int))).vrep S v0 x0) (v1 : Value) (x1 : ((List UInt8) × ((List UInt8) × (Int × (Int × (Int × Int)))))) (k1 : ((TR.ptr (TR.pair TR.str (TR.pair TR.str (TR.pair TR.int (TR.pair TR.int (TR.pair TR.int TR.int))))))).vrep S v1 x1) (res : Bool) (hm : pk_QueueClean_1_m x0 x1 = some res) : Calls Try.prog 22 #[v0, v1] w (PostV w (.bool res)) := by
 refine calls_enter 16 Try.func22 Try.ntmps22 rfl S false [(0, v0), (1, v1)] [imm (TR.pair TR.str (TR.pair TR.int TR.int)) v0 x0, imm (TR.ptr (TR.pair TR.str (TR.pair TR.str (TR.pair TR.int (TR.pair TR.int (TR.pair TR.int TR.int)))))) v1 x1] rfl ⟨rfl, ⟨rfl, trivial⟩⟩ hS ⟨k0, ⟨k1, trivial⟩⟩ ?_
 unfold pk_QueueClean_1_m at hm
 refine GL.seq ?_
 refine GL.region ?_
 refine RL.box (t := (TR.pair TR.str (TR.pair TR.int TR.int))) (e := x0) rfl rfl rfl rfl (VR.item 0 rfl) ?_
 intro v4
 refine RL.asg rfl rfl rfl ?_
 refine RL.finG ?_
 refine GL.seq ?_
 obtain ⟨y8, K9, h10, h11, h12, h13, h14⟩ := bindR_K hm
 refine GL.join (ι := Bool) (fun (p : Bool) => [(3, .bool p)]) (fun (p : Bool) => []) (fun (p : Bool) => K9 (.nx p)) ?_ ?_
 ·skip
  refine GL.region ?_
  refine RL.fadr (off := 0) (fo := 0) 2 Try_fld38_0 rfl rfl rfl PtOf.obox (Or.inr ⟨rfl, rfl⟩) ?_
  refine RL.ldPx (off := (0 + 0)) (e' := x0.1) 2 Ex.str Try_ln9 rfl rfl (Or.inl rfl) rfl PtOf.obox (Part.fst Part.self) ?_
  refine RL.fadr (off := 0) (fo := 0) 1 Try_fld25_0 rfl rfl rfl PtOf.imm (Or.inr ⟨rfl, rfl⟩) ?_
  refine RL.ldPx (off := (0 + 0)) (e' := x1.1) 1 Ex.str Try_ln9 rfl rfl (Or.inl rfl) rfl PtOf.imm (Part.fst Part.self) ?_
  refine RL.binS (v := .bool (x0.1 == x1.1)) rfl rfl rfl rfl rfl ?_
  refine RL.mv rfl rfl rfl ?_
  refine RL.split (t := 9) rfl (fun b15 => ?_) (fun b15 => ?_)
  ·replace h10 := ite_t b15 h10
   refine RL.fadr (off := 0) (fo := 2) 2 Try_fld38_2 rfl rfl rfl PtOf.obox (Or.inr ⟨rfl, rfl⟩) ?_
   refine RL.ldPx (off := (0 + 2)) (e' := x0.2.2) 2 Ex.ik Try_ln3 rfl rfl (Or.inl rfl) rfl PtOf.obox (Part.snd (Part.snd Part.self)) ?_
   refine RL.fadr (off := 0) (fo := 2) 1 Try_fld25_2 rfl rfl rfl PtOf.imm (Or.inr ⟨rfl, rfl⟩) ?_
   refine RL.ldPx (off := (0 + 2)) (e' := x1.2.2.1) 1 Ex.ik Try_ln3 rfl rfl (Or.inl rfl) rfl PtOf.imm (Part.snd (Part.snd (Part.fst Part.self))) ?_
   refine RL.binI (v := .bool (decide (x0.2.2 > x1.2.2.1))) rfl rfl rfl rfl rfl ?_
   refine RL.pickT rfl rfl rfl rfl ?_
   refine RL.asg rfl rfl rfl ?_
   refine RL.fin ?_
   cases h10
   exact fun a w st => mid_intro (decide (x0.2.2 > x1.2.2.1)) h11 (St.cut [] ⟨rfl, trivial⟩ (by decide) rfl st)
  replace h10 := ite_f b15 h10
  refine RL.skip rfl rfl ?_
  refine RL.skip rfl rfl ?_
  refine RL.skip rfl rfl ?_
  refine RL.skip rfl rfl ?_
  refine RL.skip rfl rfl ?_
  refine RL.pickF rfl rfl rfl rfl ?_
  refine RL.asg rfl rfl rfl ?_
  refine RL.fin ?_
  cases h10
  exact fun a w st => mid_intro false h11 (St.cut [] ⟨rfl, trivial⟩ (by decide) rfl st)
 rintro x7 h16
 have h17 := h12 _ h16
 try dsimp only at h17
 refine GL.weak (env' := [(3, .bool x7)]) (L' := []) (fun _ _ st => st) ?_
 have h17 := Option.some.inj h17
 subst h17
 exact GL.ret (Gx.ret (v := .bool x7) (res1 rfl rfl) (fun a w st => st.toPostV))

set_option maxHeartbeats 4000000 in
theorem slices_Equal_api_Deal_api_Deal_c (S : Hp) (w : World) (hS : S.sub w) (v0 : Value) (x0 : (List ((List UInt8) × ((List UInt8) × (Int × (Int × (Int × Int))))))) (k0 : ((TR.sl (TR.pair TR.str (TR.pair TR.str (TR.pair TR.int (TR.pair TR.int (TR.pair TR.int TR.int))))))).vrep S v0 x0) (v1 : Value) (x1 : (List ((List UInt8) × ((List UInt8) × (Int × (Int × (Int × Int))))))) (k1 : ((TR.sl (TR.pair TR.str (TR.pair TR.str (TR.pair TR.int (TR.pair TR.int (TR.pair TR.int TR.int))))))).vrep S v1 x1) (res : Bool) (hm : slices_Equal_api_Deal_api_Deal_m x0 x1 = some res) : Calls Try.prog 19 #[v0, v1] w (PostV w (.bool res)) := by
 refine calls_enter 26 Try.func19 Try.ntmps19 rfl S false [(0, v0), (1, v1)] [imm (TR.sl (TR.pair TR.str (TR.pair TR.str (TR.pair TR.int (TR.pair TR.int (TR.pair TR.int TR.int)))))) v0 x0, imm (TR.sl (TR.pair TR.str (TR.pair TR.str (TR.pair TR.int (TR.pair TR.int (TR.pair TR.int TR.int)))))) v1 x1] rfl ⟨rfl, ⟨rfl, trivial⟩⟩ hS ⟨k0, ⟨k1, trivial⟩⟩ ?_
 unfold slices_Equal_api_Deal_api_Deal_m at hm
 refine GL.seq ?_
 refine GL.region ?_
 refine RL.asg rfl rfl rfl ?_
 refine RL.finG ?_
 refine GL.seq ?_
 refine GL.seq ?_
 refine GL.region ?_
 refine RL.mv rfl rfl rfl ?_
 refine RL.lenS 0 Try.underlying22 rfl rfl rfl rfl SlOf.imm ?_
 refine RL.mv rfl rfl rfl ?_
 refine RL.lenS 1 Try.underlying22 rfl rfl rfl rfl SlOf.imm ?_
 refine RL.binI (v := .bool (((x0).length : Int) != ((x1).length : Int))) rfl rfl rfl rfl rfl ?_
 refine RL.finG ?_
 refine GL.cond rfl (fun b3 => ?_) (fun b3 => ?_)
 ·replace hm := ite_t b3 hm
  refine GL.seq ?_
  refine GL.region ?_
  refine RL.asg rfl rfl rfl ?_
  refine RL.finG ?_
  have hm := Option.some.inj hm
  subst hm
  exact GL.ret (Gx.ret (v := .bool false) (res1 rfl rfl) (fun a w st => st.toPostV))
 replace hm := ite_f b3 hm
 refine GL.skip ?_
 refine GL.seq ?_
 refine GL.seq ?_
 refine GL.region ?_
 refine RL.mv rfl rfl rfl ?_
 refine RL.lenS 0 Try.underlying22 rfl rfl rfl rfl SlOf.imm ?_
 refine RL.mv rfl rfl rfl ?_
 refine RL.finG ?_
 refine GL.open_ 0 rfl (fun S h => len_imm S h) (fun n17 => ?_)
 obtain ⟨y18, K19, h20, h21, h22, h23, h24⟩ := bindR_K hm
 refine GL.join (ι := Unit) (fun (p : Unit) => []) (fun (p : Unit) => []) (fun (p : Unit) => K19 (.nx ())) ?_ ?_
 ·refine GL.block ?_
  refine GL.loop (ι := Nat × (List ((List UInt8) × ((List UInt8) × (Int × (Int × (Int × Int))))))) (fun (p : Nat × (List ((List UInt8) × ((List UInt8) × (Int × (Int × (Int × Int))))))) => [(0, v0), (1, v1), (12, .int .i64 ((x0).length : Int)), (13, .int .i64 (p.1 : Int))]) (fun (p : Nat × (List ((List UInt8) × ((List UInt8) × (Int × (Int × (Int × Int))))))) => [imm (TR.sl (TR.pair TR.str (TR.pair TR.str (TR.pair TR.int (TR.pair TR.int (TR.pair TR.int TR.int)))))) v0 x0, imm (TR.sl (TR.pair TR.str (TR.pair TR.str (TR.pair TR.int (TR.pair TR.int (TR.pair TR.int TR.int)))))) v1 x1]) (fun (p : Nat × (List ((List UInt8) × ((List UInt8) × (Int × (Int × (Int × Int))))))) => p.1 + p.2.length = (x0).length ∧ List.drop p.1 x0 = p.2 ∧ rangeL (slices_Equal_api_Deal_api_Deal_b1 x1) p.2 p.1 () = some y18) (fun (p : Nat × (List ((List UInt8) × ((List UInt8) × (Int × (Int × (Int × Int))))))) => p.2.length) (0, x0) ⟨by simp, by simp, h20⟩ (fun a w st => St.cut [0, 1] ⟨rfl, rfl, rfl, rfl, trivial⟩ (by decide) rfl st) ?_
  rintro ⟨i25, r26⟩ ⟨h31, h32, h30⟩
  try dsimp only at h31 h32 h30
  refine GL.weak (env' := [(0, v0), (1, v1), (12, .int .i64 ((x0).length : Int)), (13, .int .i64 (i25 : Int))]) (L' := [imm (TR.sl (TR.pair TR.str (TR.pair TR.str (TR.pair TR.int (TR.pair TR.int (TR.pair TR.int TR.int)))))) v0 x0, imm (TR.sl (TR.pair TR.str (TR.pair TR.str (TR.pair TR.int (TR.pair TR.int (TR.pair TR.int TR.int)))))) v1 x1]) (fun _ _ st => st) ?_
  refine GL.seq ?_
  refine GL.region ?_
  refine RL.binI (v := .bool (decide ((i25 : Int) < ((x0).length : Int)))) rfl rfl rfl rfl rfl ?_
  refine RL.finG ?_
  refine GL.seq ?_
  refine GL.cond rfl (fun b33 => ?_) (fun b33 => ?_)
  ·have h34 : i25 < (x0).length := by have := of_decide_eq_true b33; omega
   obtain ⟨y35, r37, hr, e36, h38⟩ := drop_cons h32 rfl h34
   subst hr
   obtain ⟨z27, h28, h29⟩ := rangeL_some h30
   unfold slices_Equal_api_Deal_api_Deal_b1 at h28
   try dsimp only at h28
   refine GL.skip ?_
   refine GL.seq ?_
   refine GL.block ?_
   refine GL.seq ?_
   refine GL.region ?_
   refine RL.mv rfl rfl rfl ?_
   refine RL.asg rfl rfl rfl ?_
   refine RL.finG ?_
   refine GL.seq ?_
   refine GL.regionQ rfl rfl (by kernel_rfl) ?_
   refine RL.mv rfl rfl rfl ?_
   refine RL.mv rfl rfl rfl ?_
   refine RL.idxS (sz := 6) 0 Try.underlying22 Try_ln25 rfl rfl rfl rfl rfl SlOf.imm (by omega) (by omega) ?_
   refine RL.ldS (i := i25) (r := (TR.pair TR.str (TR.pair TR.str (TR.pair TR.int (TR.pair TR.int (TR.pair TR.int TR.int)))))) (e' := y35) 0 Try_ln25 rfl rfl rfl rfl SlOf.imm e36 Part.self ?_
   intro v43
   refine RL.mv rfl rfl rfl ?_
   refine RL.mv rfl rfl rfl ?_
   obtain ⟨y44, e45, h28⟩ := bind_some h28
   refine RL.idxS (sz := 6) 1 Try.underlying22 Try_ln25 rfl rfl rfl rfl rfl SlOf.imm (idx_some e45).1 (idx_some e45).2.1 ?_
   refine RL.ldS (i := i25) (r := (TR.pair TR.str (TR.pair TR.str (TR.pair TR.int (TR.pair TR.int (TR.pair TR.int TR.int)))))) (e' := y44) 1 Try_ln25 rfl rfl rfl rfl SlOf.imm (idx_some e45).2.2 Part.self ?_
   intro v46
   refine RL.reL (L' := [imm (TR.sl (TR.pair TR.str (TR.pair TR.str (TR.pair TR.int (TR.pair TR.int (TR.pair TR.int TR.int)))))) v0 x0, imm (TR.sl (TR.pair TR.str (TR.pair TR.str (TR.pair TR.int (TR.pair TR.int (TR.pair TR.int TR.int)))))) v1 x1, imm (TR.pair TR.str (TR.pair TR.str (TR.pair TR.int (TR.pair TR.int (TR.pair TR.int TR.int))))) v43 y35, imm (TR.pair TR.str (TR.pair TR.str (TR.pair TR.int (TR.pair TR.int (TR.pair TR.int TR.int))))) v46 y44]) rfl ?_
   refine RL.neG (t := (TR.pair TR.str (TR.pair TR.str (TR.pair TR.int (TR.pair TR.int (TR.pair TR.int TR.int)))))) (e := y35) (e' := y44) rfl Try_eq25 (by decide) Try.eqGuardType25 rfl rfl rfl rfl (VR.item 2 rfl) (VR.item 3 rfl) ?_
   refine RL.finQG ?_
   refine GL.cond rfl (fun b47 => ?_) (fun b47 => ?_)
   ·replace h28 := ite_t b47 h28
    refine GL.seq ?_
    refine GL.region ?_
    refine RL.asg rfl rfl rfl ?_
    refine RL.finG ?_
    cases h28
    replace h29 : some (Fl.rt _) = some y18 := h29
    cases h29
    have hh := h23 _ h21
    subst hh
    exact GL.ret (Gx.ret (v := .bool false) (res1 rfl rfl) (fun a w st => st.toPostV))
   replace h28 := ite_f b47 h28
   refine GL.skip ?_
   refine GL.nilB ?_
   refine GL.region ?_
   refine RL.binI (v := .int .i64 ((i25 + 1 : Nat) : Int)) rfl rfl rfl rfl (binI_succ i25 (by omega)) ?_
   refine RL.mv rfl rfl rfl ?_
   refine RL.fin ?_
   cases h28
   exact fun a w st => lop_intro (i25 + 1, r37) ⟨by show i25 + 1 + r37.length = (x0).length; simp only [List.length_cons] at h31; omega, h38, h29⟩ (by simp) (St.cut [0, 1] ⟨rfl, rfl, rfl, rfl, trivial⟩ (by decide) rfl st)
  have h34 : ¬ i25 < (x0).length := by have := of_decide_eq_false b33; omega
  obtain rfl : r26 = [] := by rw [← h32]; exact List.drop_of_length_le (by omega)
  replace h30 : some (Fl.nx _) = some y18 := h30
  cases h30
  exact GL.exit (fun a w st => mid_intro () h21 (St.cut [] trivial (by decide) rfl st))
 rintro ⟨⟩ h48
 have h49 := h22 _ h48
 try dsimp only at h49
 refine GL.weak (env' := []) (L' := []) (fun _ _ st => st) ?_
 refine GL.seq ?_
 refine GL.region ?_
 refine RL.asg rfl rfl rfl ?_
 refine RL.finG ?_
 have h49 := Option.some.inj h49
 subst h49
 exact GL.ret (Gx.ret (v := .bool true) (res1 rfl rfl) (fun a w st => st.toPostV))

set_option maxHeartbeats 4000000 in
theorem pk_QueueClean_c (S : Hp) (w : World) (hS : S.sub w) (v0 : Value) (x0 : (List ((List UInt8) × ((List UInt8) × (Int × (Int × (Int × Int))))))) (k0 : ((TR.sl (TR.pair TR.str (TR.pair TR.str (TR.pair TR.int (TR.pair TR.int (TR.pair TR.int TR.int))))))).vrep S v0 x0) (v1 : Value) (x1 : (List ((List UInt8) × (Int × Int)))) (k1 : ((TR.sl (TR.pair TR.str (TR.pair TR.int TR.int)))).vrep S v1 x1) (res : Bool) (hm : pk_QueueClean_m x0 x1 = some res) : Calls Try.prog 5 #[v0, v1] w (PostV w (.bool res)) := by
 refine calls_enter 70 Try.func5 Try.ntmps5 rfl S false [(0, v0), (1, v1)] [imm (TR.sl (TR.pair TR.str (TR.pair TR.str (TR.pair TR.int (TR.pair TR.int (TR.pair TR.int TR.int)))))) v0 x0, imm (TR.sl (TR.pair TR.str (TR.pair TR.int TR.int))) v1 x1] rfl ⟨rfl, ⟨rfl, trivial⟩⟩ hS ⟨k0, ⟨k1, trivial⟩⟩ ?_
 unfold pk_QueueClean_m at hm
 refine GL.seq ?_
 refine GL.region ?_
 refine RL.asg rfl rfl rfl ?_
 refine RL.finG ?_
 refine GL.seq ?_
 refine GL.seq ?_
 refine GL.region ?_
 obtain ⟨y5, e6, hm⟩ := bind_some hm
 refine RL.callV (v := .bool y5) (vs := []) Try_fit14 rfl (Or.inl rfl) rfl rfl rfl rfl (fun U w hU hW hL => pk_queues_c U w hU  _ e6) ?_
 refine RL.notB rfl rfl rfl ?_
 refine RL.finG ?_
 refine GL.cond rfl (fun b7 => ?_) (fun b7 => ?_)
 ·replace hm := ite_t b7 hm
  refine GL.seq ?_
  refine GL.region ?_
  refine RL.asg rfl rfl rfl ?_
  refine RL.finG ?_
  have hm := Option.some.inj hm
  subst hm
  exact GL.ret (Gx.ret (v := .bool false) (res1 rfl rfl) (fun a w st => st.toPostV))
 replace hm := ite_f b7 hm
 refine GL.skip ?_
 refine GL.seq ?_
 refine GL.region ?_
 refine RL.mv rfl rfl rfl ?_
 refine RL.mv rfl rfl rfl ?_
 obtain ⟨y11, e12, hm⟩ := bind_some hm
 refine RL.call (vs := [v0, v1]) Try_fit20 rfl rfl rfl rfl rfl (fun S f w hS hW hi => queue_Clean_c S w hS _ _ (hi 0 _ rfl) _ _ (hi 1 _ rfl) _ e12) ?_
 intro v13
 refine RL.mv rfl rfl rfl ?_
 refine RL.ext rfl rfl rfl rfl ?_
 refine RL.ext rfl rfl rfl rfl ?_
 refine RL.asg rfl rfl rfl ?_
 refine RL.asg rfl rfl rfl ?_
 refine RL.finG ?_
 refine GL.seq ?_
 refine GL.seq ?_
 refine GL.region ?_
 refine RL.mv rfl rfl rfl ?_
 refine RL.binI (v := .bool (y11.2 != (0 : Int))) rfl rfl rfl rfl rfl ?_
 refine RL.finG ?_
 refine GL.cond rfl (fun b14 => ?_) (fun b14 => ?_)
 ·replace hm := ite_t b14 hm
  refine GL.seq ?_
  refine GL.region ?_
  refine RL.mv rfl rfl rfl ?_
  refine RL.lenS 2 Try.underlying22 rfl rfl rfl rfl SlOf.own ?_
  refine RL.binI (v := .bool (((y11.1).length : Int) == (0 : Int))) rfl rfl rfl rfl rfl ?_
  refine RL.asg rfl rfl rfl ?_
  refine RL.finG ?_
  have hm := Option.some.inj hm
  subst hm
  exact GL.ret (Gx.ret (v := .bool (((y11.1).length : Int) == (0 : Int))) (res1 rfl rfl) (fun a w st => st.toPostV))
 replace hm := ite_f b14 hm
 refine GL.skip ?_
 refine GL.seq ?_
 refine GL.region ?_
 refine RL.mv rfl rfl rfl ?_
 refine RL.mv rfl rfl rfl ?_
 obtain ⟨y18, e19, hm⟩ := bind_some hm
 refine RL.callU (vs := [v13, v1]) (LR := fun (o : Value) => [own 25 (TR.pair TR.str (TR.pair TR.str (TR.pair TR.int (TR.pair TR.int (TR.pair TR.int TR.int))))) o y18.1]) (fun o => ⟨Loc.own (TR.flatT_pair TR.flatT_str (TR.flatT_pair TR.flatT_str (TR.flatT_pair TR.flatT_ik (TR.flatT_pair TR.flatT_ik (TR.flatT_pair TR.flatT_ik TR.flatT_ik))))), trivial⟩) Try_fit20 rfl rfl rfl rfl rfl (fun U w hU hW hL => queue_Clean_c U w hU _ _ (hL 2 _ _ rfl Seen.own) _ _ (hL 1 _ _ rfl Seen.imm) _ e19) ?_
 intro v20
 refine RL.mv rfl rfl rfl ?_
 refine RL.ext rfl rfl rfl rfl ?_
 refine RL.ext rfl rfl rfl rfl ?_
 refine RL.asg rfl rfl rfl ?_
 refine RL.asg rfl rfl rfl ?_
 refine RL.finG ?_
 refine GL.seq ?_
 refine GL.region ?_
 refine RL.asg rfl rfl rfl ?_
 refine RL.finG ?_
 refine GL.seq ?_
 refine GL.seq ?_
 refine GL.region ?_
 refine RL.mv rfl rfl rfl ?_
 refine RL.lenS 0 Try.underlying22 rfl rfl rfl rfl SlOf.imm ?_
 refine RL.mv rfl rfl rfl ?_
 refine RL.finG ?_
 refine GL.open_ 0 rfl (fun S h => len_imm S h) (fun n61 => ?_)
 obtain ⟨y62, K63, h64, h65, h66, h67, h68⟩ := bindR_K hm
 refine GL.join (ι := Int) (fun (p : Int) => [(5, v13), (7, v20), (8, .int .i64 y18.2), (9, .int .i64 p)]) (fun (p : Int) => [own 25 (TR.pair TR.str (TR.pair TR.str (TR.pair TR.int (TR.pair TR.int (TR.pair TR.int TR.int))))) v13 y11.1, own 25 (TR.pair TR.str (TR.pair TR.str (TR.pair TR.int (TR.pair TR.int (TR.pair TR.int TR.int))))) v20 y18.1]) (fun (p : Int) => K63 (.nx p)) ?_ ?_
 ·refine GL.block ?_
  refine GL.loop (ι := Nat × (List ((List UInt8) × ((List UInt8) × (Int × (Int × (Int × Int)))))) × Int) (fun (p : Nat × (List ((List UInt8) × ((List UInt8) × (Int × (Int × (Int × Int)))))) × Int) => [(1, v1), (5, v13), (7, v20), (8, .int .i64 y18.2), (9, .int .i64 p.2.2), (32, v0), (33, .int .i64 ((x0).length : Int)), (34, .int .i64 (p.1 : Int))]) (fun (p : Nat × (List ((List UInt8) × ((List UInt8) × (Int × (Int × (Int × Int)))))) × Int) => [imm (TR.sl (TR.pair TR.str (TR.pair TR.int TR.int))) v1 x1, own 25 (TR.pair TR.str (TR.pair TR.str (TR.pair TR.int (TR.pair TR.int (TR.pair TR.int TR.int))))) v13 y11.1, own 25 (TR.pair TR.str (TR.pair TR.str (TR.pair TR.int (TR.pair TR.int (TR.pair TR.int TR.int))))) v20 y18.1, imm (TR.sl (TR.pair TR.str (TR.pair TR.str (TR.pair TR.int (TR.pair TR.int (TR.pair TR.int TR.int)))))) v0 x0]) (fun (p : Nat × (List ((List UInt8) × ((List UInt8) × (Int × (Int × (Int × Int)))))) × Int) => p.1 + p.2.1.length = (x0).length ∧ List.drop p.1 x0 = p.2.1 ∧ rangeL (pk_QueueClean_b1 x1 y11) p.2.1 p.1 p.2.2 = some y62) (fun (p : Nat × (List ((List UInt8) × ((List UInt8) × (Int × (Int × (Int × Int)))))) × Int) => p.2.1.length) (0, x0, (0 : Int)) ⟨by simp, by simp, h64⟩ (fun a w st => St.cut [1, 2, 3, 0] ⟨rfl, rfl, rfl, rfl, rfl, rfl, rfl, rfl, trivial⟩ (by decide) rfl st) ?_
  rintro ⟨i69, r70, x21⟩ ⟨h75, h76, h74⟩
  try dsimp only at h75 h76 h74
  refine GL.weak (env' := [(1, v1), (5, v13), (7, v20), (8, .int .i64 y18.2), (9, .int .i64 x21), (32, v0), (33, .int .i64 ((x0).length : Int)), (34, .int .i64 (i69 : Int))]) (L' := [imm (TR.sl (TR.pair TR.str (TR.pair TR.int TR.int))) v1 x1, own 25 (TR.pair TR.str (TR.pair TR.str (TR.pair TR.int (TR.pair TR.int (TR.pair TR.int TR.int))))) v13 y11.1, own 25 (TR.pair TR.str (TR.pair TR.str (TR.pair TR.int (TR.pair TR.int (TR.pair TR.int TR.int))))) v20 y18.1, imm (TR.sl (TR.pair TR.str (TR.pair TR.str (TR.pair TR.int (TR.pair TR.int (TR.pair TR.int TR.int)))))) v0 x0]) (fun _ _ st => st) ?_
  refine GL.seq ?_
  refine GL.region ?_
  refine RL.binI (v := .bool (decide ((i69 : Int) < ((x0).length : Int)))) rfl rfl rfl rfl rfl ?_
  refine RL.finG ?_
  refine GL.seq ?_
  refine GL.cond rfl (fun b77 => ?_) (fun b77 => ?_)
  ·have h78 : i69 < (x0).length := by have := of_decide_eq_true b77; omega
   obtain ⟨y79, r81, hr, e80, h82⟩ := drop_cons h76 rfl h78
   subst hr
   obtain ⟨z71, h72, h73⟩ := rangeL_some h74
   unfold pk_QueueClean_b1 at h72
   try dsimp only at h72
   refine GL.skip ?_
   refine GL.seq ?_
   refine GL.block ?_
   refine GL.seq ?_
   refine GL.region ?_
   refine RL.idxS (sz := 6) 3 Try.underlying22 Try_ln25 rfl rfl rfl rfl rfl SlOf.imm (by omega) (by omega) ?_
   refine RL.ldS (i := i69) (r := (TR.pair TR.str (TR.pair TR.str (TR.pair TR.int (TR.pair TR.int (TR.pair TR.int TR.int)))))) (e' := y79) 3 Try_ln25 rfl rfl rfl rfl SlOf.imm e80 Part.self ?_
   intro v85
   refine RL.alloc (t := (TR.pair TR.str (TR.pair TR.str (TR.pair TR.int (TR.pair TR.int (TR.pair TR.int TR.int)))))) (z := (([] : List UInt8), ([] : List UInt8), (0 : Int), (0 : Int), (0 : Int), (0 : Int))) Try_lo25 (fun S => ⟨[.string ⟨#[]⟩], _, rfl, rfl, ⟨[.string ⟨#[]⟩], _, rfl, rfl, ⟨[.int .i64 0], _, rfl, rfl, ⟨[.int .i64 0], _, rfl, rfl, ⟨[.int .i64 0], _, rfl, rfl, rfl⟩⟩⟩⟩⟩) rfl rfl rfl ?_
   intro v86
   refine RL.reL (L' := [imm (TR.sl (TR.pair TR.str (TR.pair TR.int TR.int))) v1 x1, own 25 (TR.pair TR.str (TR.pair TR.str (TR.pair TR.int (TR.pair TR.int (TR.pair TR.int TR.int))))) v13 y11.1, own 25 (TR.pair TR.str (TR.pair TR.str (TR.pair TR.int (TR.pair TR.int (TR.pair TR.int TR.int))))) v20 y18.1, imm (TR.sl (TR.pair TR.str (TR.pair TR.str (TR.pair TR.int (TR.pair TR.int (TR.pair TR.int TR.int)))))) v0 x0, imm (TR.pair TR.str (TR.pair TR.str (TR.pair TR.int (TR.pair TR.int (TR.pair TR.int TR.int))))) v85 y79, obox 25 (TR.pair TR.str (TR.pair TR.str (TR.pair TR.int (TR.pair TR.int (TR.pair TR.int TR.int))))) v86 (([] : List UInt8), ([] : List UInt8), (0 : Int), (0 : Int), (0 : Int), (0 : Int))]) rfl ?_
   refine RL.stP (off := 0) (e' := y79) (d1 := y79) (r := (TR.pair TR.str (TR.pair TR.str (TR.pair TR.int (TR.pair TR.int (TR.pair TR.int TR.int)))))) 5 Try_ln25 rfl rfl (Or.inr ⟨rfl, rfl⟩) rfl (VR.item 4 rfl) rfl Upd.self ?_
   refine RL.finG ?_
   refine GL.seq ?_
   refine GL.region ?_
   refine RL.mv rfl rfl rfl ?_
   refine RL.mkF (vs := [v86]) rfl rfl rfl ?_
   obtain ⟨y89, e90, h72⟩ := bind_some h72
   refine RL.callV (v := .bool y89) (vs := [v1, .func (.func 22) #[] #[v86]]) Try_fit21 rfl (Or.inl rfl) rfl rfl rfl rfl (fun U w hU hW hL => slices_ContainsFunc_api_Account_api_Account_c U w hU _ _ (hL 0 _ _ rfl Seen.imm) 22 #[v86] Try_fit22 (fun a0 => pk_QueueClean_1_m a0 y79) (fun U' w' hle hU' u0 a0 q0 rr hr => (pk_QueueClean_1_c U' w' hU' u0 a0 q0 _ _ (TR.vrep_mono hle (hL 5 _ _ rfl Seen.obox)) rr hr).mono (fun _ _ z => z)) _ e90) ?_
   refine RL.asg rfl rfl rfl ?_
   refine RL.finG ?_
   refine GL.seq ?_
   refine GL.seq ?_
   refine GL.region ?_
   refine RL.mv rfl rfl rfl ?_
   refine RL.finG ?_
   refine GL.cond rfl (fun b91 => ?_) (fun b91 => ?_)
   ·replace h72 := ite_t b91 h72
    refine GL.exit ?_
    refine Gx.here ?_
    refine GL.region ?_
    refine RL.binI (v := .int .i64 ((i69 + 1 : Nat) : Int)) rfl rfl rfl rfl (binI_succ i69 (by omega)) ?_
    refine RL.mv rfl rfl rfl ?_
    refine RL.fin ?_
    cases h72
    exact fun a w st => lop_intro (i69 + 1, r81, x21) ⟨by show i69 + 1 + r81.length = (x0).length; simp only [List.length_cons] at h75; omega, h82, h73⟩ (by simp) (St.cut [0, 1, 2, 3] ⟨rfl, rfl, rfl, rfl, rfl, rfl, rfl, rfl, trivial⟩ (by decide) rfl st)
   replace h72 := ite_f b91 h72
   refine GL.skip ?_
   refine GL.seq ?_
   refine GL.seq ?_
   obtain ⟨y103, K104, h105, h106, h107, h108, h109⟩ := bindF_K h72
   refine GL.join (ι := Bool) (fun (p : Bool) => [(1, v1), (5, v13), (7, v20), (8, .int .i64 y18.2), (9, .int .i64 x21), (32, v0), (33, .int .i64 ((x0).length : Int)), (34, .int .i64 (i69 : Int)), (53, .bool p)]) (fun (p : Bool) => [imm (TR.sl (TR.pair TR.str (TR.pair TR.int TR.int))) v1 x1, own 25 (TR.pair TR.str (TR.pair TR.str (TR.pair TR.int (TR.pair TR.int (TR.pair TR.int TR.int))))) v13 y11.1, own 25 (TR.pair TR.str (TR.pair TR.str (TR.pair TR.int (TR.pair TR.int (TR.pair TR.int TR.int))))) v20 y18.1, imm (TR.sl (TR.pair TR.str (TR.pair TR.str (TR.pair TR.int (TR.pair TR.int (TR.pair TR.int TR.int)))))) v0 x0]) (fun (p : Bool) => K104 (.nx p)) ?_ ?_
   ·skip
    refine GL.regionQ rfl rfl (by kernel_rfl) ?_
    refine RL.mv rfl rfl rfl ?_
    refine RL.mv rfl rfl rfl ?_
    refine RL.lenS 1 Try.underlying22 rfl rfl rfl rfl SlOf.own ?_
    refine RL.binI (v := .bool (decide (x21 ≥ ((y11.1).length : Int)))) rfl rfl rfl rfl rfl ?_
    refine RL.mv rfl rfl rfl ?_
    refine RL.split (t := 46) rfl (fun b110 => ?_) (fun b110 => ?_)
    ·replace h105 := ite_t b110 h105
     refine RL.skip rfl rfl ?_
     refine RL.skip rfl rfl ?_
     refine RL.skip rfl rfl ?_
     refine RL.skip rfl rfl ?_
     refine RL.skip rfl rfl ?_
     refine RL.skip rfl rfl ?_
     refine RL.pickT rfl rfl rfl rfl ?_
     refine RL.finQ ?_
     cases h105
     exact fun a w st => mid_intro true h106 (St.cut [0, 1, 2, 3] ⟨rfl, rfl, rfl, rfl, rfl, rfl, rfl, rfl, rfl, trivial⟩ (by decide) rfl st)
    replace h105 := ite_f b110 h105
    refine RL.mv rfl rfl rfl ?_
    refine RL.mv rfl rfl rfl ?_
    obtain ⟨y111, e112, h105⟩ := bind_some h105
    refine RL.idxS (sz := 6) 1 Try.underlying22 Try_ln25 rfl rfl rfl rfl rfl SlOf.own (idx_some e112).1 (idx_some e112).2.1 ?_
    refine RL.ldS (i := (x21).toNat) (r := (TR.pair TR.str (TR.pair TR.str (TR.pair TR.int (TR.pair TR.int (TR.pair TR.int TR.int)))))) (e' := y111) 1 Try_ln25 rfl rfl rfl rfl SlOf.own (idx_some e112).2.2 Part.self ?_
    intro v113
    refine RL.reL (L' := [imm (TR.sl (TR.pair TR.str (TR.pair TR.int TR.int))) v1 x1, own 25 (TR.pair TR.str (TR.pair TR.str (TR.pair TR.int (TR.pair TR.int (TR.pair TR.int TR.int))))) v13 y11.1, own 25 (TR.pair TR.str (TR.pair TR.str (TR.pair TR.int (TR.pair TR.int (TR.pair TR.int TR.int))))) v20 y18.1, imm (TR.sl (TR.pair TR.str (TR.pair TR.str (TR.pair TR.int (TR.pair TR.int (TR.pair TR.int TR.int)))))) v0 x0, imm (TR.pair TR.str (TR.pair TR.str (TR.pair TR.int (TR.pair TR.int (TR.pair TR.int TR.int))))) v85 y79, obox 25 (TR.pair TR.str (TR.pair TR.str (TR.pair TR.int (TR.pair TR.int (TR.pair TR.int TR.int))))) v86 y79, imm (TR.pair TR.str (TR.pair TR.str (TR.pair TR.int (TR.pair TR.int (TR.pair TR.int TR.int))))) v113 y111]) rfl ?_
    refine RL.ldP (off := 0) (r := (TR.pair TR.str (TR.pair TR.str (TR.pair TR.int (TR.pair TR.int (TR.pair TR.int TR.int)))))) (e' := y79) 5 Try_ln25 rfl rfl (Or.inr ⟨rfl, rfl⟩) rfl PtOf.obox Part.self ?_
    intro v114
    refine RL.neG (t := (TR.pair TR.str (TR.pair TR.str (TR.pair TR.int (TR.pair TR.int (TR.pair TR.int TR.int)))))) (e := y111) (e' := y79) rfl Try_eq25 (by decide) Try.eqGuardType25 rfl rfl rfl rfl (VR.item 6 rfl) (VR.item 7 rfl) ?_
    refine RL.pickF rfl rfl rfl rfl ?_
    refine RL.finQ ?_
    cases h105
    exact fun a w st => mid_intro (!(decide (y111 = y79))) h106 (St.cut [0, 1, 2, 3] ⟨rfl, rfl, rfl, rfl, rfl, rfl, rfl, rfl, rfl, trivial⟩ (by decide) rfl st)
   rintro x102 h115
   have h116 := h107 _ h115
   try dsimp only at h116
   refine GL.weak (env' := [(1, v1), (5, v13), (7, v20), (8, .int .i64 y18.2), (9, .int .i64 x21), (32, v0), (33, .int .i64 ((x0).length : Int)), (34, .int .i64 (i69 : Int)), (53, .bool x102)]) (L' := [imm (TR.sl (TR.pair TR.str (TR.pair TR.int TR.int))) v1 x1, own 25 (TR.pair TR.str (TR.pair TR.str (TR.pair TR.int (TR.pair TR.int (TR.pair TR.int TR.int))))) v13 y11.1, own 25 (TR.pair TR.str (TR.pair TR.str (TR.pair TR.int (TR.pair TR.int (TR.pair TR.int TR.int))))) v20 y18.1, imm (TR.sl (TR.pair TR.str (TR.pair TR.str (TR.pair TR.int (TR.pair TR.int (TR.pair TR.int TR.int)))))) v0 x0]) (fun _ _ st => st) ?_
   refine GL.cond rfl (fun b117 => ?_) (fun b117 => ?_)
   ·replace h116 := ite_t b117 h116
    refine GL.seq ?_
    refine GL.region ?_
    refine RL.asg rfl rfl rfl ?_
    refine RL.finG ?_
    cases h116
    replace h73 : some (Fl.rt _) = some y62 := h73
    cases h73
    have hh := h67 _ h65
    subst hh
    exact GL.ret (Gx.ret (v := .bool false) (res1 rfl rfl) (fun a w st => st.toPostV))
   replace h116 := ite_f b117 h116
   refine GL.skip ?_
   refine GL.region ?_
   refine RL.mv rfl rfl rfl ?_
   refine RL.binI (v := .int .i64 (wadd x21 (1 : Int))) rfl rfl rfl rfl rfl ?_
   refine RL.asg rfl rfl rfl ?_
   refine RL.finG ?_
   refine GL.nilB ?_
   refine GL.region ?_
   refine RL.binI (v := .int .i64 ((i69 + 1 : Nat) : Int)) rfl rfl rfl rfl (binI_succ i69 (by omega)) ?_
   refine RL.mv rfl rfl rfl ?_
   refine RL.fin ?_
   cases h116
   exact fun a w st => lop_intro (i69 + 1, r81, wadd x21 (1 : Int)) ⟨by show i69 + 1 + r81.length = (x0).length; simp only [List.length_cons] at h75; omega, h82, h73⟩ (by simp) (St.cut [0, 1, 2, 3] ⟨rfl, rfl, rfl, rfl, rfl, rfl, rfl, rfl, trivial⟩ (by decide) rfl st)
  have h78 : ¬ i69 < (x0).length := by have := of_decide_eq_false b77; omega
  obtain rfl : r70 = [] := by rw [← h76]; exact List.drop_of_length_le (by omega)
  replace h74 : some (Fl.nx _) = some y62 := h74
  cases h74
  exact GL.exit (fun a w st => mid_intro x21 h65 (St.cut [1, 2] ⟨rfl, rfl, rfl, rfl, trivial⟩ (by decide) rfl st))
 rintro x21 h118
 have h119 := h66 _ h118
 try dsimp only at h119
 refine GL.weak (env' := [(5, v13), (7, v20), (8, .int .i64 y18.2), (9, .int .i64 x21)]) (L' := [own 25 (TR.pair TR.str (TR.pair TR.str (TR.pair TR.int (TR.pair TR.int (TR.pair TR.int TR.int))))) v13 y11.1, own 25 (TR.pair TR.str (TR.pair TR.str (TR.pair TR.int (TR.pair TR.int (TR.pair TR.int TR.int))))) v20 y18.1]) (fun _ _ st => st) ?_
 refine GL.seq ?_
 obtain ⟨y129, K130, h131, h132, h133, h134, h135⟩ := bindR_K h119
 refine GL.join (ι := Bool) (fun (p : Bool) => [(4, .bool p)]) (fun (p : Bool) => []) (fun (p : Bool) => K130 (.nx p)) ?_ ?_
 ·skip
  refine GL.region ?_
  refine RL.mv rfl rfl rfl ?_
  refine RL.binI (v := .bool (y18.2 == (0 : Int))) rfl rfl rfl rfl rfl ?_
  refine RL.mv rfl rfl rfl ?_
  refine RL.split (t := 59) rfl (fun b136 => ?_) (fun b136 => ?_)
  ·replace h131 := ite_t b136 h131
   refine RL.mv rfl rfl rfl ?_
   refine RL.mv rfl rfl rfl ?_
   refine RL.lenS 0 Try.underlying22 rfl rfl rfl rfl SlOf.own ?_
   refine RL.binI (v := .bool (x21 == ((y11.1).length : Int))) rfl rfl rfl rfl rfl ?_
   refine RL.pickT rfl rfl rfl rfl ?_
   refine RL.mv rfl rfl rfl ?_
   refine RL.split (t := 65) rfl (fun b137 => ?_) (fun b137 => ?_)
   ·replace h131 := ite_t b137 h131
    refine RL.mv rfl rfl rfl ?_
    refine RL.mv rfl rfl rfl ?_
    obtain ⟨y138, e139, h131⟩ := bind_some h131
    refine RL.callV (v := .bool y138) (vs := [v13, v20]) Try_fit19 rfl (Or.inl rfl) rfl rfl rfl rfl (fun U w hU hW hL => slices_Equal_api_Deal_api_Deal_c U w hU _ _ (hL 0 _ _ rfl Seen.own) _ _ (hL 1 _ _ rfl Seen.own) _ e139) ?_
    refine RL.pickT rfl rfl rfl rfl ?_
    refine RL.asg rfl rfl rfl ?_
    refine RL.fin ?_
    cases h131
    exact fun a w st => mid_intro y138 h132 (St.cut [] ⟨rfl, trivial⟩ (by decide) rfl st)
   replace h131 := ite_f b137 h131
   refine RL.skip rfl rfl ?_
   refine RL.skip rfl rfl ?_
   refine RL.skip rfl rfl ?_
   refine RL.pickF rfl rfl rfl rfl ?_
   refine RL.asg rfl rfl rfl ?_
   refine RL.fin ?_
   cases h131
   exact fun a w st => mid_intro false h132 (St.cut [] ⟨rfl, trivial⟩ (by decide) rfl st)
  replace h131 := ite_f b136 h131
  refine RL.skip rfl rfl ?_
  refine RL.skip rfl rfl ?_
  refine RL.skip rfl rfl ?_
  refine RL.skip rfl rfl ?_
  refine RL.pickF rfl rfl rfl rfl ?_
  refine RL.mv rfl rfl rfl ?_
  refine RL.skip rfl rfl ?_
  refine RL.skip rfl rfl ?_
  refine RL.skip rfl rfl ?_
  refine RL.pickF rfl rfl rfl rfl ?_
  refine RL.asg rfl rfl rfl ?_
  refine RL.fin ?_
  cases h131
  exact fun a w st => mid_intro false h132 (St.cut [] ⟨rfl, trivial⟩ (by decide) rfl st)
 rintro x128 h140
 have h141 := h133 _ h140
 try dsimp only at h141
 refine GL.weak (env' := [(4, .bool x128)]) (L' := []) (fun _ _ st => st) ?_
 have h141 := Option.some.inj h141
 subst h141
 exact GL.ret (Gx.ret (v := .bool x128) (res1 rfl rfl) (fun a w st => st.toPostV))
end Go.Wk
