/- Each function comes to what its model says; printed by a program of this repository. -/
import Derived.Test.YtfekdillbgblkaaProg
import Derived.Test.YtfekdillbgblkaaWListsOwnModels
import Derived.Test.YtfekdillbgblkaaFwY
import Derived.Test.YtfekdillbgblkaaFwV
namespace Go.Wk
open Go.Fw Go.Mo Go.Proofs Go.RowKit
set_option linter.all false
set_option maxRecDepth 100000
theorem loopNx {ρ σ β γ : Type} {body : σ → Option (Fl ρ β σ)} {n : Nat} {s : σ} {y : Fl ρ γ β} (h : stepM body n (.nx s) = some y) : loopM body n s = some y := h
theorem Try_info3 : (Try.prog.info? 3).map (fun i => (i.zero, i.size, i.bytes)) = some (some (.int .i64 0), 1, 8) := by kernel_rfl
theorem Try_ln3 : Ln Try.prog 3 1 false := Ln.of Try_info3 Try.underlying3 rfl
theorem Try_lo3 : LnO Try.prog 3 1 [.int .i64 0] := LnO.of Try_info3 rfl rfl (by decide) (by decide)
theorem Try_info4 : (Try.prog.info? 4).map (fun i => (i.zero, i.size, i.bytes)) = some (some (.bool false), 1, 1) := by kernel_rfl
theorem Try_ln4 : Ln Try.prog 4 1 false := Ln.of Try_info4 Try.underlying4 rfl
theorem Try_lo4 : LnO Try.prog 4 1 [.bool false] := LnO.of Try_info4 rfl rfl (by decide) (by decide)
theorem Try_info24 : (Try.prog.info? 24).map (fun i => (i.zero, i.size, i.bytes)) = some (some (.slice none 0 0), 1, 24) := by kernel_rfl
theorem Try_ln24 : Ln Try.prog 24 1 false := Ln.of Try_info24 Try.underlying24 rfl
theorem Try_lo24 : LnO Try.prog 24 1 [.slice none 0 0] := LnO.of Try_info24 rfl rfl (by decide) (by decide)
theorem Try_info25 : (Try.prog.info? 25).map (fun i => (i.zero, i.size, i.bytes)) = some (some (.int .i64 0), 1, 8) := by kernel_rfl
theorem Try_ln25 : Ln Try.prog 25 1 false := Ln.of Try_info25 Try.underlying25 rfl
theorem Try_lo25 : LnO Try.prog 25 1 [.int .i64 0] := LnO.of Try_info25 rfl rfl (by decide) (by decide)
theorem Try_info37 : (Try.prog.info? 37).map (fun i => (i.zero, i.size, i.bytes)) = some (some (.slice none 0 0), 1, 24) := by kernel_rfl
theorem Try_ln37 : Ln Try.prog 37 1 false := Ln.of Try_info37 Try.underlying37 rfl
theorem Try_lo37 : LnO Try.prog 37 1 [.slice none 0 0] := LnO.of Try_info37 rfl rfl (by decide) (by decide)
theorem Try_info77 : (Try.prog.info? 77).map (fun i => (i.zero, i.size, i.bytes)) = some (some (.slice none 0 0), 1, 24) := by kernel_rfl
theorem Try_ln77 : Ln Try.prog 77 1 false := Ln.of Try_info77 Try.underlying77 rfl
theorem Try_lo77 : LnO Try.prog 77 1 [.slice none 0 0] := LnO.of Try_info77 rfl rfl (by decide) (by decide)
theorem Try_info80 : (Try.prog.info? 80).map (fun i => (i.zero, i.size, i.bytes)) = some (some (.agg #[.int .i64 0, .int .i64 0]), 2, 16) := by kernel_rfl
theorem Try_ln80 : Ln Try.prog 80 2 true := Ln.of Try_info80 Try.underlying80 rfl
theorem Try_lo80 : LnO Try.prog 80 2 [.int .i64 0, .int .i64 0] := LnO.of Try_info80 rfl rfl (by decide) (by decide)
theorem Try_info81 : (Try.prog.info? 81).map (fun i => (i.zero, i.size, i.bytes)) = some (some (.nilFunc), 1, 8) := by kernel_rfl
theorem Try_ln81 : Ln Try.prog 81 1 false := Ln.of Try_info81 Try.underlying81 rfl
theorem Try_lo81 : LnO Try.prog 81 1 [.nilFunc] := LnO.of Try_info81 rfl rfl (by decide) (by decide)
theorem Try_info112 : (Try.prog.info? 112).map (fun i => (i.zero, i.size, i.bytes)) = some (some (.agg #[.bool false, .bool false, .bool false, .bool false, .bool false, .bool false]), 6, 6) := by kernel_rfl
theorem Try_ln112 : Ln Try.prog 112 6 true := Ln.of Try_info112 Try.underlying112 rfl
theorem Try_lo112 : LnO Try.prog 112 6 [.bool false, .bool false, .bool false, .bool false, .bool false, .bool false] := LnO.of Try_info112 rfl rfl (by decide) (by decide)
theorem Try_info137 : (Try.prog.info? 137).map (fun i => (i.zero, i.size, i.bytes)) = some (some (.agg #[.bool false, .bool false, .bool false, .bool false, .bool false, .bool false, .bool false]), 7, 7) := by kernel_rfl
theorem Try_ln137 : Ln Try.prog 137 7 true := Ln.of Try_info137 Try.underlying137 rfl
theorem Try_lo137 : LnO Try.prog 137 7 [.bool false, .bool false, .bool false, .bool false, .bool false, .bool false, .bool false] := LnO.of Try_info137 rfl rfl (by decide) (by decide)
theorem Try_bld80 (pv : List (Nat × Value)) : Try.prog.built 80 pv = Instr.fill ((mkPlaces 0 [[.int .i64 0], [.int .i64 0]]).toArray[·]?) (List.flatten [[.int .i64 0], [.int .i64 0]]).toArray pv := by kernel_rfl
theorem Try_eq80 : EqT Try.prog 80 (TR.pair TR.int TR.int) 2 := (EqT.struct Try.underlying80 Try.stoodInHeld80 rfl (EqF.cons (by decide) rfl Try_ln3 (EqT.int Try.underlying3) (EqF.last (by decide) rfl Try_ln3 (EqT.int Try.underlying3))))
theorem Try_fit110 : Fit Try.prog 110 := Fit.of Try.func110 (by kernel_rfl) rfl
theorem Try_fit111 : Fit Try.prog 111 := Fit.of Try.func111 (by kernel_rfl) rfl
theorem Try_fit112 : Fit Try.prog 112 := Fit.of Try.func112 (by kernel_rfl) rfl
theorem Try_fit113 : Fit Try.prog 113 := Fit.of Try.func113 (by kernel_rfl) rfl
theorem Try_fit114 : Fit Try.prog 114 := Fit.of Try.func114 (by kernel_rfl) rfl
theorem Try_fit115 : Fit Try.prog 115 := Fit.of Try.func115 (by kernel_rfl) rfl
theorem Try_fit116 : Fit Try.prog 116 := Fit.of Try.func116 (by kernel_rfl) rfl
theorem Try_fit117 : Fit Try.prog 117 := Fit.of Try.func117 (by kernel_rfl) rfl
theorem Try_fit118 : Fit Try.prog 118 := Fit.of Try.func118 (by kernel_rfl) rfl
theorem Try_fit119 : Fit Try.prog 119 := Fit.of Try.func119 (by kernel_rfl) rfl
theorem Try_fit120 : Fit Try.prog 120 := Fit.of Try.func120 (by kernel_rfl) rfl
theorem Try_fit121 : Fit Try.prog 121 := Fit.of Try.func121 (by kernel_rfl) rfl
theorem Try_fit122 : Fit Try.prog 122 := Fit.of Try.func122 (by kernel_rfl) rfl
theorem Try_fit123 : Fit Try.prog 123 := Fit.of Try.func123 (by kernel_rfl) rfl
theorem Try_fit124 : Fit Try.prog 124 := Fit.of Try.func124 (by kernel_rfl) rfl
theorem Try_fit125 : Fit Try.prog 125 := Fit.of Try.func125 (by kernel_rfl) rfl
theorem Try_fit126 : Fit Try.prog 126 := Fit.of Try.func126 (by kernel_rfl) rfl
theorem Try_fit128 : Fit Try.prog 128 := Fit.of Try.func128 (by kernel_rfl) rfl
theorem Try_fit129 : Fit Try.prog 129 := Fit.of Try.func129 (by kernel_rfl) rfl
theorem Try_fit130 : Fit Try.prog 130 := Fit.of Try.func130 (by kernel_rfl) rfl
theorem Try_fit131 : Fit Try.prog 131 := Fit.of Try.func131 (by kernel_rfl) rfl
theorem Try_fit132 : Fit Try.prog 132 := Fit.of Try.func132 (by kernel_rfl) rfl
theorem Try_fit133 : Fit Try.prog 133 := Fit.of Try.func133 (by kernel_rfl) rfl
theorem Try_fit134 : Fit Try.prog 134 := Fit.of Try.func134 (by kernel_rfl) rfl
theorem Try_fit136 : Fit Try.prog 136 := Fit.of Try.func136 (by kernel_rfl) rfl
theorem Try_fit142 : Fit Try.prog 142 := Fit.of Try.func142 (by kernel_rfl) rfl
theorem Try_fit145 : Fit Try.prog 145 := Fit.of Try.func145 (by kernel_rfl) rfl
theorem Try_fit146 : Fit Try.prog 146 := Fit.of Try.func146 (by kernel_rfl) rfl
theorem Try_fit153 : Fit Try.prog 153 := Fit.of Try.func153 (by kernel_rfl) rfl
theorem Try_fit18 : Fit Try.prog 18 := Fit.of Try.func18 (by kernel_rfl) rfl
theorem Try_fit20 : Fit Try.prog 20 := Fit.of Try.func20 (by kernel_rfl) rfl
theorem Try_fit21 : Fit Try.prog 21 := Fit.of Try.func21 (by kernel_rfl) rfl
theorem Try_fit22 : Fit Try.prog 22 := Fit.of Try.func22 (by kernel_rfl) rfl
theorem Try_fit25 : Fit Try.prog 25 := Fit.of Try.func25 (by kernel_rfl) rfl
theorem Try_fit33 : Fit Try.prog 33 := Fit.of Try.func33 (by kernel_rfl) rfl
theorem Try_fit39 : Fit Try.prog 39 := Fit.of Try.func39 (by kernel_rfl) rfl
theorem Try_fit51 : Fit Try.prog 51 := Fit.of Try.func51 (by kernel_rfl) rfl
theorem Try_fit52 : Fit Try.prog 52 := Fit.of Try.func52 (by kernel_rfl) rfl
theorem Try_fit53 : Fit Try.prog 53 := Fit.of Try.func53 (by kernel_rfl) rfl
theorem Try_fit54 : Fit Try.prog 54 := Fit.of Try.func54 (by kernel_rfl) rfl
theorem Try_fit55 : Fit Try.prog 55 := Fit.of Try.func55 (by kernel_rfl) rfl
theorem Try_fit56 : Fit Try.prog 56 := Fit.of Try.func56 (by kernel_rfl) rfl
theorem Try_fit57 : Fit Try.prog 57 := Fit.of Try.func57 (by kernel_rfl) rfl
theorem Try_fit58 : Fit Try.prog 58 := Fit.of Try.func58 (by kernel_rfl) rfl
theorem Try_fit59 : Fit Try.prog 59 := Fit.of Try.func59 (by kernel_rfl) rfl
theorem Try_fit60 : Fit Try.prog 60 := Fit.of Try.func60 (by kernel_rfl) rfl
theorem Try_fit61 : Fit Try.prog 61 := Fit.of Try.func61 (by kernel_rfl) rfl
theorem Try_fit62 : Fit Try.prog 62 := Fit.of Try.func62 (by kernel_rfl) rfl
theorem Try_fit63 : Fit Try.prog 63 := Fit.of Try.func63 (by kernel_rfl) rfl
theorem Try_fit64 : Fit Try.prog 64 := Fit.of Try.func64 (by kernel_rfl) rfl
theorem Try_fit65 : Fit Try.prog 65 := Fit.of Try.func65 (by kernel_rfl) rfl
theorem Try_fit66 : Fit Try.prog 66 := Fit.of Try.func66 (by kernel_rfl) rfl
theorem Try_fit67 : Fit Try.prog 67 := Fit.of Try.func67 (by kernel_rfl) rfl
theorem Try_fit68 : Fit Try.prog 68 := Fit.of Try.func68 (by kernel_rfl) rfl
theorem Try_fit69 : Fit Try.prog 69 := Fit.of Try.func69 (by kernel_rfl) rfl
theorem Try_fit70 : Fit Try.prog 70 := Fit.of Try.func70 (by kernel_rfl) rfl
theorem Try_fit71 : Fit Try.prog 71 := Fit.of Try.func71 (by kernel_rfl) rfl
theorem Try_fit72 : Fit Try.prog 72 := Fit.of Try.func72 (by kernel_rfl) rfl
theorem Try_fit73 : Fit Try.prog 73 := Fit.of Try.func73 (by kernel_rfl) rfl
theorem Try_fit82 : Fit Try.prog 82 := Fit.of Try.func82 (by kernel_rfl) rfl
theorem Try_fit83 : Fit Try.prog 83 := Fit.of Try.func83 (by kernel_rfl) rfl
theorem Try_fit85 : Fit Try.prog 85 := Fit.of Try.func85 (by kernel_rfl) rfl
theorem Try_fit97 : Fit Try.prog 97 := Fit.of Try.func97 (by kernel_rfl) rfl
theorem Try_fld80_0 (ad : Addr) (w : World) : (Instr.fieldAt 80 (.pointer (some ad)) 0).run Try.prog w = .ok (.pointer (some (ad.add 0))) w := by
  simp [Instr.fieldAt, run_underlying Try.underlying80, Instr.sureAddr, fieldPlace, Fw.run_sizeOf Try_ln3]
theorem Try_fld80_1 (ad : Addr) (w : World) : (Instr.fieldAt 80 (.pointer (some ad)) 1).run Try.prog w = .ok (.pointer (some (ad.add 1))) w := by
  simp [Instr.fieldAt, run_underlying Try.underlying80, Instr.sureAddr, fieldPlace, Fw.run_sizeOf Try_ln3]

set_option maxHeartbeats 4000000 in
theorem power_Check_c (S : Hp) (w : World) (hS : S.sub w) (v0 : Value) (x0 : (List Int)) (k0 : ((TR.sl TR.int)).vrep S v0 x0) (x1 : Int) (res : Int) (hm : power_Check_m x0 x1 = some res) : Calls Try.prog 114 #[v0, .int .i64 x1] w (PostC w (.int .i64 res)) := by
 refine calls_enter 39 Try.func114 Try.ntmps114 rfl S true [(0, v0), (1, .int .i64 x1)] [imm (TR.sl TR.int) v0 x0] rfl ⟨rfl, ⟨rfl, trivial⟩⟩ hS ⟨k0, trivial⟩ ?_
 unfold power_Check_m at hm
 refine GL.seq ?_
 refine GL.region ?_
 refine RL.asg rfl rfl rfl ?_
 refine RL.finG ?_
 refine GL.seq ?_
 refine GL.seq ?_
 obtain ⟨y6, K7, h8, h9, h10, h11, h12⟩ := bindR_K hm
 refine GL.join (ι := Bool) (fun (p : Bool) => [(0, v0), (1, .int .i64 x1), (15, .bool p)]) (fun (p : Bool) => [imm (TR.sl TR.int) v0 x0]) (fun (p : Bool) => K7 (.nx p)) ?_ ?_
 ·skip
  refine GL.region ?_
  refine RL.mv rfl rfl rfl ?_
  refine RL.lenS 0 Try.underlying24 rfl rfl rfl rfl SlOf.imm ?_
  refine RL.binI (v := .bool (decide (((x0).length : Int) < (1 : Int)))) rfl rfl rfl rfl rfl ?_
  refine RL.mv rfl rfl rfl ?_
  refine RL.split (t := 11) rfl (fun b13 => ?_) (fun b13 => ?_)
  ·replace h8 := ite_t b13 h8
   refine RL.skip rfl rfl ?_
   refine RL.skip rfl rfl ?_
   refine RL.skip rfl rfl ?_
   refine RL.pickT rfl rfl rfl rfl ?_
   refine RL.fin ?_
   cases h8
   exact fun a w st => mid_intro true h9 (St.cut [0] ⟨rfl, rfl, rfl, trivial⟩ (by decide) rfl st)
  replace h8 := ite_f b13 h8
  refine RL.mv rfl rfl rfl ?_
  refine RL.lenS 0 Try.underlying24 rfl rfl rfl rfl SlOf.imm ?_
  refine RL.binI (v := .bool (decide (((x0).length : Int) > (6 : Int)))) rfl rfl rfl rfl rfl ?_
  refine RL.pickF rfl rfl rfl rfl ?_
  refine RL.fin ?_
  cases h8
  exact fun a w st => mid_intro (decide (((x0).length : Int) > (6 : Int))) h9 (St.cut [0] ⟨rfl, rfl, rfl, trivial⟩ (by decide) rfl st)
 rintro x5 h14
 have h15 := h10 _ h14
 try dsimp only at h15
 refine GL.weak (env' := [(0, v0), (1, .int .i64 x1), (15, .bool x5)]) (L' := [imm (TR.sl TR.int) v0 x0]) (fun _ _ st => st) ?_
 refine GL.cond rfl (fun b16 => ?_) (fun b16 => ?_)
 ·replace h15 := ite_t b16 h15
  refine GL.seq ?_
  refine GL.region ?_
  refine RL.asg rfl rfl rfl ?_
  refine RL.finG ?_
  have h15 := Option.some.inj h15
  subst h15
  exact GL.ret (Gx.ret (v := .int .i64 (2 : Int)) (res1 rfl rfl) (fun a w st => st.toPostC rfl))
 replace h15 := ite_f b16 h15
 refine GL.skip ?_
 refine GL.seq ?_
 refine GL.region ?_
 refine RL.asg rfl rfl rfl ?_
 refine RL.finG ?_
 refine GL.seq ?_
 refine GL.seq ?_
 refine GL.region ?_
 refine RL.mv rfl rfl rfl ?_
 refine RL.lenS 0 Try.underlying24 rfl rfl rfl rfl SlOf.imm ?_
 refine RL.mv rfl rfl rfl ?_
 refine RL.finG ?_
 refine GL.open_ 0 rfl (fun S h => len_imm S h) (fun n36 => ?_)
 obtain ⟨y37, K38, h39, h40, h41, h42, h43⟩ := bindR_K h15
 refine GL.join (ι := Int) (fun (p : Int) => [(1, .int .i64 x1), (5, .int .i64 p)]) (fun (p : Int) => []) (fun (p : Int) => K38 (.nx p)) ?_ ?_
 ·refine GL.block ?_
  refine GL.loop (ι := Nat × (List Int) × Int) (fun (p : Nat × (List Int) × Int) => [(1, .int .i64 x1), (5, .int .i64 p.2.2), (16, v0), (17, .int .i64 ((x0).length : Int)), (18, .int .i64 (p.1 : Int))]) (fun (p : Nat × (List Int) × Int) => [imm (TR.sl TR.int) v0 x0]) (fun (p : Nat × (List Int) × Int) => p.1 + p.2.1.length = (x0).length ∧ List.drop p.1 x0 = p.2.1 ∧ rangeL power_Check_b1 p.2.1 p.1 p.2.2 = some y37) (fun (p : Nat × (List Int) × Int) => p.2.1.length) (0, x0, (0 : Int)) ⟨by simp, by simp, h39⟩ (fun a w st => St.cut [0] ⟨rfl, rfl, rfl, rfl, rfl, trivial⟩ (by decide) rfl st) ?_
  rintro ⟨i44, r45, x17⟩ ⟨h50, h51, h49⟩
  try dsimp only at h50 h51 h49
  refine GL.weak (env' := [(1, .int .i64 x1), (5, .int .i64 x17), (16, v0), (17, .int .i64 ((x0).length : Int)), (18, .int .i64 (i44 : Int))]) (L' := [imm (TR.sl TR.int) v0 x0]) (fun _ _ st => st) ?_
  refine GL.seq ?_
  refine GL.region ?_
  refine RL.binI (v := .bool (decide ((i44 : Int) < ((x0).length : Int)))) rfl rfl rfl rfl rfl ?_
  refine RL.finG ?_
  refine GL.seq ?_
  refine GL.cond rfl (fun b52 => ?_) (fun b52 => ?_)
  ·have h53 : i44 < (x0).length := by have := of_decide_eq_true b52; omega
   obtain ⟨y54, r56, hr, e55, h57⟩ := drop_cons h51 rfl h53
   subst hr
   obtain ⟨z46, h47, h48⟩ := rangeL_some h49
   unfold power_Check_b1 at h47
   try dsimp only at h47
   refine GL.skip ?_
   refine GL.seq ?_
   refine GL.block ?_
   refine GL.seq ?_
   refine GL.region ?_
   refine RL.idxS (sz := 1) 0 Try.underlying24 Try_ln3 rfl rfl rfl rfl rfl SlOf.imm (by omega) (by omega) ?_
   refine RL.ldSx (i := i44) (e' := y54) 0 Ex.ik Try_ln3 rfl rfl rfl rfl SlOf.imm e55 Part.self ?_
   refine RL.asg rfl rfl rfl ?_
   refine RL.finG ?_
   refine GL.seq ?_
   refine GL.seq ?_
   obtain ⟨y61, K62, h63, h64, h65, h66, h67⟩ := bindF_K h47
   refine GL.join (ι := Bool) (fun (p : Bool) => [(1, .int .i64 x1), (5, .int .i64 x17), (7, .int .i64 y54), (16, v0), (17, .int .i64 ((x0).length : Int)), (18, .int .i64 (i44 : Int)), (27, .bool p)]) (fun (p : Bool) => [imm (TR.sl TR.int) v0 x0]) (fun (p : Bool) => K62 (.nx p)) ?_ ?_
   ·skip
    refine GL.region ?_
    refine RL.mv rfl rfl rfl ?_
    refine RL.binI (v := .bool (decide (y54 < (0 : Int)))) rfl rfl rfl rfl rfl ?_
    refine RL.mv rfl rfl rfl ?_
    refine RL.split (t := 24) rfl (fun b68 => ?_) (fun b68 => ?_)
    ·replace h63 := ite_t b68 h63
     refine RL.skip rfl rfl ?_
     refine RL.skip rfl rfl ?_
     refine RL.pickT rfl rfl rfl rfl ?_
     refine RL.fin ?_
     cases h63
     exact fun a w st => mid_intro true h64 (St.cut [0] ⟨rfl, rfl, rfl, rfl, rfl, rfl, rfl, trivial⟩ (by decide) rfl st)
    replace h63 := ite_f b68 h63
    refine RL.mv rfl rfl rfl ?_
    refine RL.binI (v := .bool (decide (y54 > (1000 : Int)))) rfl rfl rfl rfl rfl ?_
    refine RL.pickF rfl rfl rfl rfl ?_
    refine RL.fin ?_
    cases h63
    exact fun a w st => mid_intro (decide (y54 > (1000 : Int))) h64 (St.cut [0] ⟨rfl, rfl, rfl, rfl, rfl, rfl, rfl, trivial⟩ (by decide) rfl st)
   rintro x60 h69
   have h70 := h65 _ h69
   try dsimp only at h70
   refine GL.weak (env' := [(1, .int .i64 x1), (5, .int .i64 x17), (7, .int .i64 y54), (16, v0), (17, .int .i64 ((x0).length : Int)), (18, .int .i64 (i44 : Int)), (27, .bool x60)]) (L' := [imm (TR.sl TR.int) v0 x0]) (fun _ _ st => st) ?_
   refine GL.cond rfl (fun b71 => ?_) (fun b71 => ?_)
   ·replace h70 := ite_t b71 h70
    refine GL.seq ?_
    refine GL.region ?_
    refine RL.asg rfl rfl rfl ?_
    refine RL.finG ?_
    cases h70
    replace h48 : some (Fl.rt _) = some y37 := h48
    cases h48
    have hh := h42 _ h40
    subst hh
    exact GL.ret (Gx.ret (v := .int .i64 (1 : Int)) (res1 rfl rfl) (fun a w st => st.toPostC rfl))
   replace h70 := ite_f b71 h70
   refine GL.skip ?_
   refine GL.region ?_
   refine RL.mv rfl rfl rfl ?_
   refine RL.mv rfl rfl rfl ?_
   refine RL.binI (v := .int .i64 (wadd x17 y54)) rfl rfl rfl rfl rfl ?_
   refine RL.asg rfl rfl rfl ?_
   refine RL.finG ?_
   refine GL.nilB ?_
   refine GL.region ?_
   refine RL.binI (v := .int .i64 ((i44 + 1 : Nat) : Int)) rfl rfl rfl rfl (binI_succ i44 (by omega)) ?_
   refine RL.mv rfl rfl rfl ?_
   refine RL.fin ?_
   cases h70
   exact fun a w st => lop_intro (i44 + 1, r56, wadd x17 y54) ⟨by show i44 + 1 + r56.length = (x0).length; simp only [List.length_cons] at h50; omega, h57, h48⟩ (by simp) (St.cut [0] ⟨rfl, rfl, rfl, rfl, rfl, trivial⟩ (by decide) rfl st)
  have h53 : ¬ i44 < (x0).length := by have := of_decide_eq_false b52; omega
  obtain rfl : r45 = [] := by rw [← h51]; exact List.drop_of_length_le (by omega)
  replace h49 : some (Fl.nx _) = some y37 := h49
  cases h49
  exact GL.exit (fun a w st => mid_intro x17 h40 (St.cut [] ⟨rfl, rfl, trivial⟩ (by decide) rfl st))
 rintro x17 h72
 have h73 := h41 _ h72
 try dsimp only at h73
 refine GL.weak (env' := [(1, .int .i64 x1), (5, .int .i64 x17)]) (L' := []) (fun _ _ st => st) ?_
 refine GL.seq ?_
 refine GL.seq ?_
 obtain ⟨y77, K78, h79, h80, h81, h82, h83⟩ := bindR_K h73
 refine GL.join (ι := Bool) (fun (p : Bool) => [(38, .bool p)]) (fun (p : Bool) => []) (fun (p : Bool) => K78 (.nx p)) ?_ ?_
 ·skip
  refine GL.region ?_
  refine RL.mv rfl rfl rfl ?_
  refine RL.binI (v := .bool (decide (x1 < (1 : Int)))) rfl rfl rfl rfl rfl ?_
  refine RL.mv rfl rfl rfl ?_
  refine RL.split (t := 34) rfl (fun b84 => ?_) (fun b84 => ?_)
  ·replace h79 := ite_t b84 h79
   refine RL.skip rfl rfl ?_
   refine RL.skip rfl rfl ?_
   refine RL.skip rfl rfl ?_
   refine RL.pickT rfl rfl rfl rfl ?_
   refine RL.fin ?_
   cases h79
   exact fun a w st => mid_intro true h80 (St.cut [] ⟨rfl, trivial⟩ (by decide) rfl st)
  replace h79 := ite_f b84 h79
  refine RL.mv rfl rfl rfl ?_
  refine RL.mv rfl rfl rfl ?_
  refine RL.binI (v := .bool (decide (x1 > x17))) rfl rfl rfl rfl rfl ?_
  refine RL.pickF rfl rfl rfl rfl ?_
  refine RL.fin ?_
  cases h79
  exact fun a w st => mid_intro (decide (x1 > x17)) h80 (St.cut [] ⟨rfl, trivial⟩ (by decide) rfl st)
 rintro x76 h85
 have h86 := h81 _ h85
 try dsimp only at h86
 refine GL.weak (env' := [(38, .bool x76)]) (L' := []) (fun _ _ st => st) ?_
 refine GL.cond rfl (fun b87 => ?_) (fun b87 => ?_)
 ·replace h86 := ite_t b87 h86
  refine GL.seq ?_
  refine GL.region ?_
  refine RL.asg rfl rfl rfl ?_
  refine RL.finG ?_
  have h86 := Option.some.inj h86
  subst h86
  exact GL.ret (Gx.ret (v := .int .i64 (3 : Int)) (res1 rfl rfl) (fun a w st => st.toPostC rfl))
 replace h86 := ite_f b87 h86
 refine GL.skip ?_
 refine GL.seq ?_
 refine GL.region ?_
 refine RL.asg rfl rfl rfl ?_
 refine RL.finG ?_
 have h86 := Option.some.inj h86
 subst h86
 exact GL.ret (Gx.ret (v := .int .i64 (0 : Int)) (res1 rfl rfl) (fun a w st => st.toPostC rfl))

set_option maxHeartbeats 4000000 in
theorem power_wins_c (S : Hp) (w : World) (hS : S.sub w) (v0 : Value) (x0 : (List Int)) (k0 : ((TR.sl TR.int)).vrep S v0 x0) (x1 : Int) (x2 : Int) (res : Bool) (hm : power_wins_m x0 x1 x2 = some res) : Calls Try.prog 115 #[v0, .int .i64 x1, .int .i64 x2] w (PostC w (.bool res)) := by
 refine calls_enter 29 Try.func115 Try.ntmps115 rfl S true [(0, v0), (1, .int .i64 x1), (2, .int .i64 x2)] [imm (TR.sl TR.int) v0 x0] rfl ⟨rfl, ⟨rfl, ⟨rfl, trivial⟩⟩⟩ hS ⟨k0, trivial⟩ ?_
 unfold power_wins_m at hm
 refine GL.seq ?_
 refine GL.region ?_
 refine RL.asg rfl rfl rfl ?_
 refine RL.finG ?_
 refine GL.seq ?_
 refine GL.region ?_
 refine RL.asg rfl rfl rfl ?_
 refine RL.finG ?_
 refine GL.seq ?_
 refine GL.seq ?_
 refine GL.region ?_
 refine RL.mv rfl rfl rfl ?_
 refine RL.lenS 0 Try.underlying24 rfl rfl rfl rfl SlOf.imm ?_
 refine RL.mv rfl rfl rfl ?_
 refine RL.finG ?_
 refine GL.open_ 0 rfl (fun S h => len_imm S h) (fun n14 => ?_)
 obtain ⟨y15, K16, h17, h18, h19, h20, h21⟩ := bindR_K hm
 refine GL.join (ι := Int) (fun (p : Int) => [(1, .int .i64 x1), (7, .int .i64 p)]) (fun (p : Int) => []) (fun (p : Int) => K16 (.nx p)) ?_ ?_
 ·refine GL.block ?_
  refine GL.loop (ι := Nat × (List Int) × Int) (fun (p : Nat × (List Int) × Int) => [(1, .int .i64 x1), (2, .int .i64 x2), (7, .int .i64 p.2.2), (10, v0), (11, .int .i64 ((x0).length : Int)), (12, .int .i64 (p.1 : Int))]) (fun (p : Nat × (List Int) × Int) => [imm (TR.sl TR.int) v0 x0]) (fun (p : Nat × (List Int) × Int) => p.1 + p.2.1.length = (x0).length ∧ List.drop p.1 x0 = p.2.1 ∧ rangeL (power_wins_b1 x2) p.2.1 p.1 p.2.2 = some y15) (fun (p : Nat × (List Int) × Int) => p.2.1.length) (0, x0, (0 : Int)) ⟨by simp, by simp, h17⟩ (fun a w st => St.cut [0] ⟨rfl, rfl, rfl, rfl, rfl, rfl, trivial⟩ (by decide) rfl st) ?_
  rintro ⟨i22, r23, x4⟩ ⟨h28, h29, h27⟩
  try dsimp only at h28 h29 h27
  refine GL.weak (env' := [(1, .int .i64 x1), (2, .int .i64 x2), (7, .int .i64 x4), (10, v0), (11, .int .i64 ((x0).length : Int)), (12, .int .i64 (i22 : Int))]) (L' := [imm (TR.sl TR.int) v0 x0]) (fun _ _ st => st) ?_
  refine GL.seq ?_
  refine GL.region ?_
  refine RL.binI (v := .bool (decide ((i22 : Int) < ((x0).length : Int)))) rfl rfl rfl rfl rfl ?_
  refine RL.finG ?_
  refine GL.seq ?_
  refine GL.cond rfl (fun b30 => ?_) (fun b30 => ?_)
  ·have h31 : i22 < (x0).length := by have := of_decide_eq_true b30; omega
   obtain ⟨y32, r34, hr, e33, h35⟩ := drop_cons h29 rfl h31
   subst hr
   obtain ⟨z24, h25, h26⟩ := rangeL_some h27
   unfold power_wins_b1 at h25
   try dsimp only at h25
   refine GL.skip ?_
   refine GL.seq ?_
   refine GL.block ?_
   refine GL.seq ?_
   refine GL.region ?_
   refine RL.mv rfl rfl rfl ?_
   refine RL.idxS (sz := 1) 0 Try.underlying24 Try_ln3 rfl rfl rfl rfl rfl SlOf.imm (by omega) (by omega) ?_
   refine RL.ldSx (i := i22) (e' := y32) 0 Ex.ik Try_ln3 rfl rfl rfl rfl SlOf.imm e33 Part.self ?_
   refine RL.asg rfl rfl rfl ?_
   refine RL.asg rfl rfl rfl ?_
   refine RL.finG ?_
   refine GL.seq ?_
   refine GL.region ?_
   refine RL.mv rfl rfl rfl ?_
   refine RL.mv rfl rfl rfl ?_
   obtain ⟨y38, e39, h25⟩ := bind_some h25
   replace e39 := chk_some e39
   refine RL.sh (by simp) rfl rfl rfl rfl e39 ?_
   refine RL.binI (v := .int .i64 (bits .and .i64 (Int.fdiv x2 (2 ^ (min (i22 : Int).toNat (IntKind.bits .i64)))) (1 : Int))) rfl rfl rfl rfl rfl ?_
   refine RL.binI (v := .bool ((bits .and .i64 (Int.fdiv x2 (2 ^ (min (i22 : Int).toNat (IntKind.bits .i64)))) (1 : Int)) == (1 : Int))) rfl rfl rfl rfl rfl ?_
   refine RL.finG ?_
   refine GL.cond rfl (fun b40 => ?_) (fun b40 => ?_)
   ·replace h25 := ite_t b40 h25
    refine GL.region ?_
    refine RL.mv rfl rfl rfl ?_
    refine RL.mv rfl rfl rfl ?_
    refine RL.binI (v := .int .i64 (wadd x4 y32)) rfl rfl rfl rfl rfl ?_
    refine RL.asg rfl rfl rfl ?_
    refine RL.finG ?_
    refine GL.nilB ?_
    refine GL.region ?_
    refine RL.binI (v := .int .i64 ((i22 + 1 : Nat) : Int)) rfl rfl rfl rfl (binI_succ i22 (by omega)) ?_
    refine RL.mv rfl rfl rfl ?_
    refine RL.fin ?_
    cases h25
    exact fun a w st => lop_intro (i22 + 1, r34, wadd x4 y32) ⟨by show i22 + 1 + r34.length = (x0).length; simp only [List.length_cons] at h28; omega, h35, h26⟩ (by simp) (St.cut [0] ⟨rfl, rfl, rfl, rfl, rfl, rfl, trivial⟩ (by decide) rfl st)
   replace h25 := ite_f b40 h25
   refine GL.skip ?_
   refine GL.nilB ?_
   refine GL.region ?_
   refine RL.binI (v := .int .i64 ((i22 + 1 : Nat) : Int)) rfl rfl rfl rfl (binI_succ i22 (by omega)) ?_
   refine RL.mv rfl rfl rfl ?_
   refine RL.fin ?_
   cases h25
   exact fun a w st => lop_intro (i22 + 1, r34, x4) ⟨by show i22 + 1 + r34.length = (x0).length; simp only [List.length_cons] at h28; omega, h35, h26⟩ (by simp) (St.cut [0] ⟨rfl, rfl, rfl, rfl, rfl, rfl, trivial⟩ (by decide) rfl st)
  have h31 : ¬ i22 < (x0).length := by have := of_decide_eq_false b30; omega
  obtain rfl : r23 = [] := by rw [← h29]; exact List.drop_of_length_le (by omega)
  replace h27 : some (Fl.nx _) = some y15 := h27
  cases h27
  exact GL.exit (fun a w st => mid_intro x4 h18 (St.cut [] ⟨rfl, rfl, trivial⟩ (by decide) rfl st))
 rintro x4 h41
 have h42 := h19 _ h41
 try dsimp only at h42
 refine GL.weak (env' := [(1, .int .i64 x1), (7, .int .i64 x4)]) (L' := []) (fun _ _ st => st) ?_
 refine GL.seq ?_
 refine GL.region ?_
 refine RL.mv rfl rfl rfl ?_
 refine RL.mv rfl rfl rfl ?_
 refine RL.binI (v := .bool (decide (x4 ≥ x1))) rfl rfl rfl rfl rfl ?_
 refine RL.asg rfl rfl rfl ?_
 refine RL.finG ?_
 have h42 := Option.some.inj h42
 subst h42
 exact GL.ret (Gx.ret (v := .bool (decide (x4 ≥ x1))) (res1 rfl rfl) (fun a w st => st.toPostC rfl))

set_option maxHeartbeats 4000000 in
theorem power_Swings_c (S : Hp) (w : World) (hS : S.sub w) (v0 : Value) (x0 : (List Int)) (k0 : ((TR.sl TR.int)).vrep S v0 x0) (x1 : Int) (res : (List Int) × Int) (hm : power_Swings_m x0 x1 = some res) : Calls Try.prog 59 #[v0, .int .i64 x1] w (Post w S (fun (o : Value) => .tuple #[o, .int .i64 res.2]) (fun (o : Value) => [own 3 TR.int o res.1])) := by
 refine calls_enter 60 Try.func59 Try.ntmps59 rfl S false [(0, v0), (1, .int .i64 x1)] [imm (TR.sl TR.int) v0 x0] rfl ⟨rfl, ⟨rfl, trivial⟩⟩ hS ⟨k0, trivial⟩ ?_
 unfold power_Swings_m at hm
 refine GL.seq ?_
 refine GL.region ?_
 refine RL.asg rfl rfl rfl ?_
 refine RL.asg rfl rfl rfl ?_
 refine RL.finG ?_
 refine GL.seq ?_
 refine GL.seq ?_
 refine GL.region ?_
 refine RL.mv rfl rfl rfl ?_
 refine RL.mv rfl rfl rfl ?_
 obtain ⟨y5, e6, hm⟩ := bind_some hm
 refine RL.callC (v := .int .i64 y5) (vs := [v0, .int .i64 x1]) Try_fit114 rfl rfl rfl rfl (fun U w hU hW hL => power_Check_c U w hU _ _ (hL 0 _ _ rfl Seen.imm) x1 _ e6) ?_
 refine RL.asg rfl rfl rfl ?_
 refine RL.finG ?_
 refine GL.seq ?_
 refine GL.region ?_
 refine RL.mv rfl rfl rfl ?_
 refine RL.binI (v := .bool (y5 != (0 : Int))) rfl rfl rfl rfl rfl ?_
 refine RL.finG ?_
 refine GL.cond rfl (fun b7 => ?_) (fun b7 => ?_)
 ·replace hm := ite_t b7 hm
  refine GL.seq ?_
  refine GL.region ?_
  refine RL.mv rfl rfl rfl ?_
  refine RL.asg rfl rfl rfl ?_
  refine RL.asg rfl rfl rfl ?_
  refine RL.finG ?_
  refine GL.weak (fun a w st => st.nilOwn 3 TR.int) ?_
  have hm := Option.some.inj hm
  subst hm
  exact GL.ret (Gx.ret (v := .tuple #[Value.slice none 0 0, .int .i64 y5]) (res2 rfl rfl rfl) (fun a w st => (st.pick [1] (by decide) rfl).toPost (Value.slice none 0 0)))
 replace hm := ite_f b7 hm
 refine GL.skip ?_
 refine GL.seq ?_
 refine GL.region ?_
 refine RL.mv rfl rfl rfl ?_
 refine RL.lenS 0 Try.underlying24 rfl rfl rfl rfl SlOf.imm ?_
 obtain ⟨y11, e12, hm⟩ := bind_some hm
 replace e12 := chk_some e12
 refine RL.mkS (t := TR.int) (z := (0 : Int)) Try.underlying24 Try_lo3 (fun S => rfl) rfl rfl rfl rfl e12.1 e12.2 ?_
 intro v13
 refine RL.asg rfl rfl rfl ?_
 refine RL.finG ?_
 refine GL.seq ?_
 refine GL.seq ?_
 refine GL.region ?_
 refine RL.mv rfl rfl rfl ?_
 refine RL.lenS 0 Try.underlying24 rfl rfl rfl rfl SlOf.imm ?_
 obtain ⟨y16, e17, hm⟩ := bind_some hm
 replace e17 := chk_some e17
 refine RL.sh (by simp) rfl rfl rfl rfl e17 ?_
 refine RL.mv rfl rfl rfl ?_
 refine RL.finG ?_
 obtain ⟨y364, e365, hm⟩ := bind_some hm
 replace e365 := chk_some e365
 obtain ⟨y366, K367, h368, h369, h370, h371, h372⟩ := bindR_K hm
 refine GL.join (ι := (List Int)) (fun (p : (List Int)) => [(7, v13)]) (fun (p : (List Int)) => [own 3 TR.int v13 p]) (fun (p : (List Int)) => K367 (.nx p)) ?_ ?_
 ·refine GL.block ?_
  refine GL.loop (ι := Nat × Nat × (List Int)) (fun (p : Nat × Nat × (List Int)) => [(0, v0), (1, .int .i64 x1), (7, v13), (21, .int .i64 (IntKind.wrap .i64 ((1 : Int) * 2 ^ (min ((x0).length : Int).toNat (IntKind.bits .i64))))), (22, .int .i64 (p.1 : Int))]) (fun (p : Nat × Nat × (List Int)) => [imm (TR.sl TR.int) v0 x0, own 3 TR.int v13 p.2.2]) (fun (p : Nat × Nat × (List Int)) => p.1 + p.2.1 = (IntKind.wrap .i64 ((1 : Int) * 2 ^ (min ((x0).length : Int).toNat (IntKind.bits .i64)))).toNat ∧ rangeN (power_Swings_b1 x0 x1) p.2.1 p.1 p.2.2 = some y366) (fun (p : Nat × Nat × (List Int)) => p.2.1) (0, (IntKind.wrap .i64 ((1 : Int) * 2 ^ (min ((x0).length : Int).toNat (IntKind.bits .i64)))).toNat, (List.replicate (((x0).length : Int)).toNat (0 : Int))) ⟨by simp, h368⟩ (fun a w st => St.cut [0, 1] ⟨rfl, rfl, rfl, rfl, rfl, trivial⟩ (by decide) rfl st) ?_
  rintro ⟨i373, r374, l190⟩ ⟨h379, h378⟩
  try dsimp only at h379 h378
  refine GL.weak (env' := [(0, v0), (1, .int .i64 x1), (7, v13), (21, .int .i64 (IntKind.wrap .i64 ((1 : Int) * 2 ^ (min ((x0).length : Int).toNat (IntKind.bits .i64))))), (22, .int .i64 (i373 : Int))]) (L' := [imm (TR.sl TR.int) v0 x0, own 3 TR.int v13 l190]) (fun _ _ st => st) ?_
  refine GL.seq ?_
  refine GL.region ?_
  refine RL.binI (v := .bool (decide ((i373 : Int) < IntKind.wrap .i64 ((1 : Int) * 2 ^ (min ((x0).length : Int).toNat (IntKind.bits .i64)))))) rfl rfl rfl rfl rfl ?_
  refine RL.finG ?_
  refine GL.seq ?_
  refine GL.cond rfl (fun b381 => ?_) (fun b381 => ?_)
  ·have h382 : i373 < (IntKind.wrap .i64 ((1 : Int) * 2 ^ (min ((x0).length : Int).toNat (IntKind.bits .i64)))).toNat := by have := of_decide_eq_true b381; omega
   obtain ⟨r383, hr⟩ : ∃ m, r374 = m + 1 := ⟨r374 - 1, by omega⟩
   subst hr
   obtain ⟨z375, h376, h377⟩ := rangeN_some h378
   unfold power_Swings_b1 at h376
   try dsimp only at h376
   refine GL.skip ?_
   refine GL.seq ?_
   refine GL.block ?_
   refine GL.seq ?_
   refine GL.region ?_
   refine RL.mv rfl rfl rfl ?_
   refine RL.asg rfl rfl rfl ?_
   refine RL.finG ?_
   refine GL.seq ?_
   refine GL.region ?_
   refine RL.mv rfl rfl rfl ?_
   refine RL.lenS 0 Try.underlying24 rfl rfl rfl rfl SlOf.imm ?_
   refine RL.mv rfl rfl rfl ?_
   refine RL.finG ?_
   refine GL.open_ 0 rfl (fun S h => len_imm S h) (fun n483 => ?_)
   obtain ⟨y484, K485, h486, h487, h488, h489, h490⟩ := bindF_K h376
   refine GL.join (ι := (List Int)) (fun (p : (List Int)) => [(0, v0), (1, .int .i64 x1), (7, v13), (21, .int .i64 (IntKind.wrap .i64 ((1 : Int) * 2 ^ (min ((x0).length : Int).toNat (IntKind.bits .i64))))), (22, .int .i64 (i373 : Int))]) (fun (p : (List Int)) => [imm (TR.sl TR.int) v0 x0, own 3 TR.int v13 p]) (fun (p : (List Int)) => K485 (.nx p)) ?_ ?_
   ·refine GL.block ?_
    refine GL.loop (ι := Nat × (List Int) × (List Int)) (fun (p : Nat × (List Int) × (List Int)) => [(0, v0), (1, .int .i64 x1), (7, v13), (8, .int .i64 (i373 : Int)), (21, .int .i64 (IntKind.wrap .i64 ((1 : Int) * 2 ^ (min ((x0).length : Int).toNat (IntKind.bits .i64))))), (22, .int .i64 (i373 : Int)), (26, .int .i64 ((x0).length : Int)), (27, .int .i64 (p.1 : Int))]) (fun (p : Nat × (List Int) × (List Int)) => [imm (TR.sl TR.int) v0 x0, own 3 TR.int v13 p.2.2]) (fun (p : Nat × (List Int) × (List Int)) => p.1 + p.2.1.length = (x0).length ∧ List.drop p.1 x0 = p.2.1 ∧ rangeL (power_Swings_b2 i373 x0 x1) p.2.1 p.1 p.2.2 = some y484) (fun (p : Nat × (List Int) × (List Int)) => p.2.1.length) (0, x0, l190) ⟨by simp, by simp, h486⟩ (fun a w st => St.cut [0, 1] ⟨rfl, rfl, rfl, rfl, rfl, rfl, rfl, rfl, trivial⟩ (by decide) rfl st) ?_
    rintro ⟨i491, r492, l433⟩ ⟨h497, h498, h496⟩
    try dsimp only at h497 h498 h496
    refine GL.weak (env' := [(0, v0), (1, .int .i64 x1), (7, v13), (8, .int .i64 (i373 : Int)), (21, .int .i64 (IntKind.wrap .i64 ((1 : Int) * 2 ^ (min ((x0).length : Int).toNat (IntKind.bits .i64))))), (22, .int .i64 (i373 : Int)), (26, .int .i64 ((x0).length : Int)), (27, .int .i64 (i491 : Int))]) (L' := [imm (TR.sl TR.int) v0 x0, own 3 TR.int v13 l433]) (fun _ _ st => st) ?_
    refine GL.seq ?_
    refine GL.region ?_
    refine RL.binI (v := .bool (decide ((i491 : Int) < ((x0).length : Int)))) rfl rfl rfl rfl rfl ?_
    refine RL.finG ?_
    refine GL.seq ?_
    refine GL.cond rfl (fun b499 => ?_) (fun b499 => ?_)
    ·have h500 : i491 < (x0).length := by have := of_decide_eq_true b499; omega
     obtain ⟨y501, r503, hr, e502, h504⟩ := drop_cons h498 rfl h500
     subst hr
     obtain ⟨z493, h494, h495⟩ := rangeL_some h496
     unfold power_Swings_b2 at h494
     try dsimp only at h494
     refine GL.skip ?_
     refine GL.seq ?_
     refine GL.block ?_
     refine GL.seq ?_
     refine GL.region ?_
     refine RL.mv rfl rfl rfl ?_
     refine RL.asg rfl rfl rfl ?_
     refine RL.finG ?_
     refine GL.seq ?_
     obtain ⟨y526, K527, h528, h529, h530, h531, h532⟩ := bindF_K h494
     refine GL.join (ι := Bool) (fun (p : Bool) => [(0, v0), (1, .int .i64 x1), (7, v13), (8, .int .i64 (i373 : Int)), (9, .int .i64 (i491 : Int)), (21, .int .i64 (IntKind.wrap .i64 ((1 : Int) * 2 ^ (min ((x0).length : Int).toNat (IntKind.bits .i64))))), (22, .int .i64 (i373 : Int)), (26, .int .i64 ((x0).length : Int)), (27, .int .i64 (i491 : Int)), (50, .bool p)]) (fun (p : Bool) => [imm (TR.sl TR.int) v0 x0, own 3 TR.int v13 l433]) (fun (p : Bool) => K527 (.nx p)) ?_ ?_
     ·skip
      refine GL.region ?_
      refine RL.mv rfl rfl rfl ?_
      refine RL.mv rfl rfl rfl ?_
      obtain ⟨y533, e534, h528⟩ := bind_some h528
      replace e534 := chk_some e534
      refine RL.sh (by simp) rfl rfl rfl rfl e534 ?_
      refine RL.binI (v := .int .i64 (bits .and .i64 (Int.fdiv (i373 : Int) (2 ^ (min (i491 : Int).toNat (IntKind.bits .i64)))) (1 : Int))) rfl rfl rfl rfl rfl ?_
      refine RL.binI (v := .bool ((bits .and .i64 (Int.fdiv (i373 : Int) (2 ^ (min (i491 : Int).toNat (IntKind.bits .i64)))) (1 : Int)) == (1 : Int))) rfl rfl rfl rfl rfl ?_
      refine RL.mv rfl rfl rfl ?_
      refine RL.split (t := 35) rfl (fun b535 => ?_) (fun b535 => ?_)
      ·replace h528 := ite_t b535 h528
       refine RL.mv rfl rfl rfl ?_
       refine RL.mv rfl rfl rfl ?_
       refine RL.mv rfl rfl rfl ?_
       obtain ⟨y536, e537, h528⟩ := bind_some h528
       refine RL.callC (v := .bool y536) (vs := [v0, .int .i64 x1, .int .i64 (i373 : Int)]) Try_fit115 rfl rfl rfl rfl (fun U w hU hW hL => power_wins_c U w hU _ _ (hL 0 _ _ rfl Seen.imm) x1 (i373 : Int) _ e537) ?_
       refine RL.pickT rfl rfl rfl rfl ?_
       refine RL.mv rfl rfl rfl ?_
       refine RL.split (t := 41) rfl (fun b538 => ?_) (fun b538 => ?_)
       ·replace h528 := ite_t b538 h528
        refine RL.mv rfl rfl rfl ?_
        refine RL.mv rfl rfl rfl ?_
        refine RL.mv rfl rfl rfl ?_
        refine RL.mv rfl rfl rfl ?_
        obtain ⟨y539, e540, h528⟩ := bind_some h528
        replace e540 := chk_some e540
        refine RL.sh (by simp) rfl rfl rfl rfl e540 ?_
        refine RL.binI (v := .int .i64 (bits .andNot .i64 (i373 : Int) (IntKind.wrap .i64 ((1 : Int) * 2 ^ (min (i491 : Int).toNat (IntKind.bits .i64)))))) rfl rfl rfl rfl rfl ?_
        obtain ⟨y541, e542, h528⟩ := bind_some h528
        refine RL.callC (v := .bool y541) (vs := [v0, .int .i64 x1, .int .i64 (bits .andNot .i64 (i373 : Int) (IntKind.wrap .i64 ((1 : Int) * 2 ^ (min (i491 : Int).toNat (IntKind.bits .i64)))))]) Try_fit115 rfl rfl rfl rfl (fun U w hU hW hL => power_wins_c U w hU _ _ (hL 0 _ _ rfl Seen.imm) x1 (bits .andNot .i64 (i373 : Int) (IntKind.wrap .i64 ((1 : Int) * 2 ^ (min (i491 : Int).toNat (IntKind.bits .i64))))) _ e542) ?_
        refine RL.notB rfl rfl rfl ?_
        refine RL.pickT rfl rfl rfl rfl ?_
        refine RL.fin ?_
        cases h528
        exact fun a w st => mid_intro (!y541) h529 (St.cut [0, 1] ⟨rfl, rfl, rfl, rfl, rfl, rfl, rfl, rfl, rfl, rfl, trivial⟩ (by decide) rfl st)
       replace h528 := ite_f b538 h528
       refine RL.skip rfl rfl ?_
       refine RL.skip rfl rfl ?_
       refine RL.skip rfl rfl ?_
       refine RL.skip rfl rfl ?_
       refine RL.skip rfl rfl ?_
       refine RL.skip rfl rfl ?_
       refine RL.skip rfl rfl ?_
       refine RL.skip rfl rfl ?_
       refine RL.pickF rfl rfl rfl rfl ?_
       refine RL.fin ?_
       cases h528
       exact fun a w st => mid_intro false h529 (St.cut [0, 1] ⟨rfl, rfl, rfl, rfl, rfl, rfl, rfl, rfl, rfl, rfl, trivial⟩ (by decide) rfl st)
      replace h528 := ite_f b535 h528
      refine RL.skip rfl rfl ?_
      refine RL.skip rfl rfl ?_
      refine RL.skip rfl rfl ?_
      refine RL.skip rfl rfl ?_
      refine RL.pickF rfl rfl rfl rfl ?_
      refine RL.mv rfl rfl rfl ?_
      refine RL.skip rfl rfl ?_
      refine RL.skip rfl rfl ?_
      refine RL.skip rfl rfl ?_
      refine RL.skip rfl rfl ?_
      refine RL.skip rfl rfl ?_
      refine RL.skip rfl rfl ?_
      refine RL.skip rfl rfl ?_
      refine RL.skip rfl rfl ?_
      refine RL.pickF rfl rfl rfl rfl ?_
      refine RL.fin ?_
      cases h528
      exact fun a w st => mid_intro false h529 (St.cut [0, 1] ⟨rfl, rfl, rfl, rfl, rfl, rfl, rfl, rfl, rfl, rfl, trivial⟩ (by decide) rfl st)
     rintro x525 h543
     have h544 := h530 _ h543
     try dsimp only at h544
     refine GL.weak (env' := [(0, v0), (1, .int .i64 x1), (7, v13), (8, .int .i64 (i373 : Int)), (9, .int .i64 (i491 : Int)), (21, .int .i64 (IntKind.wrap .i64 ((1 : Int) * 2 ^ (min ((x0).length : Int).toNat (IntKind.bits .i64))))), (22, .int .i64 (i373 : Int)), (26, .int .i64 ((x0).length : Int)), (27, .int .i64 (i491 : Int)), (50, .bool x525)]) (L' := [imm (TR.sl TR.int) v0 x0, own 3 TR.int v13 l433]) (fun _ _ st => st) ?_
     refine GL.cond rfl (fun b545 => ?_) (fun b545 => ?_)
     ·replace h544 := ite_t b545 h544
      refine GL.region ?_
      refine RL.mv rfl rfl rfl ?_
      refine RL.mv rfl rfl rfl ?_
      obtain ⟨y550, e551, h544⟩ := bind_some h544
      refine RL.idxS (sz := 1) 1 Try.underlying24 Try_ln3 rfl rfl rfl rfl rfl SlOf.own (idx_some e551).1 (idx_some e551).2.1 ?_
      refine RL.ldSx (i := i491) (e' := y550) 1 Ex.ik Try_ln3 rfl rfl rfl rfl SlOf.own (idx_some e551).2.2 Part.self ?_
      refine RL.binI (v := .int .i64 (wadd y550 (1 : Int))) rfl rfl rfl rfl rfl ?_
      obtain ⟨y552, e553, h544⟩ := bind_some h544
      refine RL.idxS (sz := 1) 1 Try.underlying24 Try_ln3 rfl rfl rfl rfl rfl SlOf.own (idx_some e553).1 (idx_some e553).2.1 ?_
      refine RL.stS (i := i491) (e' := wadd y550 (1 : Int)) (e1 := wadd y550 (1 : Int)) (r := TR.int) 1 Try_ln3 rfl rfl rfl rfl VR.int rfl (idx_some e553).2.2 Upd.self ?_
      refine RL.finG ?_
      refine GL.nilB ?_
      refine GL.region ?_
      refine RL.binI (v := .int .i64 ((i491 + 1 : Nat) : Int)) rfl rfl rfl rfl (binI_succ i491 (by omega)) ?_
      refine RL.mv rfl rfl rfl ?_
      refine RL.fin ?_
      cases h544
      exact fun a w st => lop_intro (i491 + 1, r503, (List.set l433 i491 (wadd y550 (1 : Int)))) ⟨by show i491 + 1 + r503.length = (x0).length; simp only [List.length_cons] at h497; omega, h504, h495⟩ (by simp) (St.cut [0, 1] ⟨rfl, rfl, rfl, rfl, rfl, rfl, rfl, rfl, trivial⟩ (by decide) rfl st)
     replace h544 := ite_f b545 h544
     refine GL.skip ?_
     refine GL.nilB ?_
     refine GL.region ?_
     refine RL.binI (v := .int .i64 ((i491 + 1 : Nat) : Int)) rfl rfl rfl rfl (binI_succ i491 (by omega)) ?_
     refine RL.mv rfl rfl rfl ?_
     refine RL.fin ?_
     cases h544
     exact fun a w st => lop_intro (i491 + 1, r503, l433) ⟨by show i491 + 1 + r503.length = (x0).length; simp only [List.length_cons] at h497; omega, h504, h495⟩ (by simp) (St.cut [0, 1] ⟨rfl, rfl, rfl, rfl, rfl, rfl, rfl, rfl, trivial⟩ (by decide) rfl st)
    have h500 : ¬ i491 < (x0).length := by have := of_decide_eq_false b499; omega
    obtain rfl : r492 = [] := by rw [← h498]; exact List.drop_of_length_le (by omega)
    replace h496 : some (Fl.nx _) = some y484 := h496
    cases h496
    exact GL.exit (fun a w st => mid_intro l433 h487 (St.cut [0, 1] ⟨rfl, rfl, rfl, rfl, rfl, trivial⟩ (by decide) rfl st))
   rintro l433 h554
   have h555 := h488 _ h554
   try dsimp only at h555
   refine GL.weak (env' := [(0, v0), (1, .int .i64 x1), (7, v13), (21, .int .i64 (IntKind.wrap .i64 ((1 : Int) * 2 ^ (min ((x0).length : Int).toNat (IntKind.bits .i64))))), (22, .int .i64 (i373 : Int))]) (L' := [imm (TR.sl TR.int) v0 x0, own 3 TR.int v13 l433]) (fun _ _ st => st) ?_
   refine GL.nilB ?_
   refine GL.region ?_
   refine RL.binI (v := .int .i64 ((i373 + 1 : Nat) : Int)) rfl rfl rfl rfl (binI_succ i373 (by omega)) ?_
   refine RL.mv rfl rfl rfl ?_
   refine RL.fin ?_
   cases h555
   exact fun a w st => lop_intro (i373 + 1, r383, l433) ⟨by show i373 + 1 + r383 = (IntKind.wrap .i64 ((1 : Int) * 2 ^ (min ((x0).length : Int).toNat (IntKind.bits .i64)))).toNat; omega, h377⟩ (by simp) (St.cut [0, 1] ⟨rfl, rfl, rfl, rfl, rfl, trivial⟩ (by decide) rfl st)
  have h382 : ¬ i373 < (IntKind.wrap .i64 ((1 : Int) * 2 ^ (min ((x0).length : Int).toNat (IntKind.bits .i64)))).toNat := by have := of_decide_eq_false b381; omega
  obtain rfl : r374 = 0 := by omega
  replace h378 : some (Fl.nx _) = some y366 := h378
  cases h378
  exact GL.exit (fun a w st => mid_intro l190 h369 (St.cut [1] ⟨rfl, trivial⟩ (by decide) rfl st))
 rintro l190 h556
 have h557 := h370 _ h556
 try dsimp only at h557
 refine GL.weak (env' := [(7, v13)]) (L' := [own 3 TR.int v13 l190]) (fun _ _ st => st) ?_
 refine GL.seq ?_
 refine GL.region ?_
 refine RL.mv rfl rfl rfl ?_
 refine RL.asg rfl rfl rfl ?_
 refine RL.asg rfl rfl rfl ?_
 refine RL.finG ?_
 have h557 := Option.some.inj h557
 subst h557
 exact GL.ret (Gx.ret (v := .tuple #[v13, .int .i64 (0 : Int)]) (res2 rfl rfl rfl) (fun a w st => (st.pick [0] (by decide) rfl).toPost v13))

set_option maxHeartbeats 4000000 in
theorem power_factorial_c (S : Hp) (w : World) (hS : S.sub w) (x0 : Int) (res : Int) (hm : power_factorial_m x0 = some res) : Calls Try.prog 128 #[.int .i64 x0] w (PostC w (.int .i64 res)) := by
 refine calls_enter 14 Try.func128 Try.ntmps128 rfl S true [(0, .int .i64 x0)] [] rfl ⟨rfl, trivial⟩ hS trivial ?_
 unfold power_factorial_m at hm
 refine GL.seq ?_
 refine GL.region ?_
 refine RL.asg rfl rfl rfl ?_
 refine RL.finG ?_
 refine GL.seq ?_
 refine GL.region ?_
 refine RL.asg rfl rfl rfl ?_
 refine RL.finG ?_
 refine GL.seq ?_
 refine GL.seq ?_
 refine GL.region ?_
 refine RL.asg rfl rfl rfl ?_
 refine RL.finG ?_
 obtain ⟨y5, K6, h7, h8, h9, h10, h11⟩ := bindR_K hm
 refine GL.join (ι := Int × Int) (fun (p : Int × Int) => [(3, .int .i64 p.1)]) (fun (p : Int × Int) => []) (fun (p : Int × Int) => K6 (.nx (p.1, p.2))) ?_ ?_
 ·refine GL.block ?_
  refine GL.loop (ι := Nat × Int × Int) (fun (p : Nat × Int × Int) => [(0, .int .i64 x0), (3, .int .i64 p.2.1), (4, .int .i64 p.2.2)]) (fun (p : Nat × Int × Int) => []) (fun (p : Nat × Int × Int) => loopM (power_factorial_b1 x0) p.1 (p.2.1, p.2.2) = some y5) (fun (p : Nat × Int × Int) => p.1) (1048576, (1 : Int), (2 : Int)) h7 (fun a w st => St.cut [] ⟨rfl, rfl, rfl, trivial⟩ (by decide) rfl st) ?_
  rintro ⟨r13, x2, x3⟩ h17
  try dsimp only at h17
  refine GL.weak (env' := [(0, .int .i64 x0), (3, .int .i64 x2), (4, .int .i64 x3)]) (L' := []) (fun _ _ st => st) ?_
  obtain ⟨r20, z14, hr, h15, h16⟩ := loopM_some h17
  subst hr
  unfold power_factorial_b1 at h15
  try dsimp only at h15
  refine GL.seq ?_
  refine GL.seq ?_
  refine GL.region ?_
  refine RL.mv rfl rfl rfl ?_
  refine RL.mv rfl rfl rfl ?_
  refine RL.binI (v := .bool (decide (x3 ≤ x0))) rfl rfl rfl rfl rfl ?_
  refine RL.finG ?_
  refine GL.cond rfl (fun b21 => ?_) (fun b21 => ?_)
  ·replace h15 := ite_t b21 h15
   refine GL.skip ?_
   refine GL.seq ?_
   refine GL.block ?_
   refine GL.region ?_
   refine RL.mv rfl rfl rfl ?_
   refine RL.mv rfl rfl rfl ?_
   refine RL.binI (v := .int .i64 (wmul x2 x3)) rfl rfl rfl rfl rfl ?_
   refine RL.asg rfl rfl rfl ?_
   refine RL.finG ?_
   refine GL.nilB ?_
   refine GL.region ?_
   refine RL.mv rfl rfl rfl ?_
   refine RL.binI (v := .int .i64 (wadd x3 (1 : Int))) rfl rfl rfl rfl rfl ?_
   refine RL.asg rfl rfl rfl ?_
   refine RL.finG ?_
   cases h15
   exact fun a w st => lop_intro (r20, wmul x2 x3, wadd x3 (1 : Int)) (by exact h16) (by simp) (St.cut [] ⟨rfl, rfl, rfl, trivial⟩ (by decide) rfl st)
  replace h15 := ite_f b21 h15
  cases h15
  replace h16 : some (Fl.nx _) = some y5 := h16
  cases h16
  exact GL.exit (fun a w st => mid_intro (x2, x3) h8 (St.cut [] ⟨rfl, trivial⟩ (by decide) rfl st))
 rintro ⟨x2, x3⟩ h22
 have h23 := h9 _ h22
 try dsimp only at h23
 refine GL.weak (env' := [(3, .int .i64 x2)]) (L' := []) (fun _ _ st => st) ?_
 refine GL.seq ?_
 refine GL.region ?_
 refine RL.mv rfl rfl rfl ?_
 refine RL.asg rfl rfl rfl ?_
 refine RL.finG ?_
 have h23 := Option.some.inj h23
 subst h23
 exact GL.ret (Gx.ret (v := .int .i64 x2) (res1 rfl rfl) (fun a w st => st.toPostC rfl))

set_option maxHeartbeats 4000000 in
theorem power_Turns_c (S : Hp) (w : World) (hS : S.sub w) (v0 : Value) (x0 : (List Int)) (k0 : ((TR.sl TR.int)).vrep S v0 x0) (x1 : Int) (res : (List Int) × Int) (hm : power_Turns_m x0 x1 = some res) : Calls Try.prog 110 #[v0, .int .i64 x1] w (Post w S (fun (o : Value) => .tuple #[o, .int .i64 res.2]) (fun (o : Value) => [own 3 TR.int o res.1])) := by
 refine calls_enter 83 Try.func110 Try.ntmps110 rfl S false [(0, v0), (1, .int .i64 x1)] [imm (TR.sl TR.int) v0 x0] rfl ⟨rfl, ⟨rfl, trivial⟩⟩ hS ⟨k0, trivial⟩ ?_
 unfold power_Turns_m at hm
 refine GL.seq ?_
 refine GL.region ?_
 refine RL.asg rfl rfl rfl ?_
 refine RL.asg rfl rfl rfl ?_
 refine RL.finG ?_
 refine GL.seq ?_
 refine GL.seq ?_
 refine GL.region ?_
 refine RL.mv rfl rfl rfl ?_
 refine RL.mv rfl rfl rfl ?_
 obtain ⟨y5, e6, hm⟩ := bind_some hm
 refine RL.callC (v := .int .i64 y5) (vs := [v0, .int .i64 x1]) Try_fit114 rfl rfl rfl rfl (fun U w hU hW hL => power_Check_c U w hU _ _ (hL 0 _ _ rfl Seen.imm) x1 _ e6) ?_
 refine RL.asg rfl rfl rfl ?_
 refine RL.finG ?_
 refine GL.seq ?_
 refine GL.region ?_
 refine RL.mv rfl rfl rfl ?_
 refine RL.binI (v := .bool (y5 != (0 : Int))) rfl rfl rfl rfl rfl ?_
 refine RL.finG ?_
 refine GL.cond rfl (fun b7 => ?_) (fun b7 => ?_)
 ·replace hm := ite_t b7 hm
  refine GL.seq ?_
  refine GL.region ?_
  refine RL.mv rfl rfl rfl ?_
  refine RL.asg rfl rfl rfl ?_
  refine RL.asg rfl rfl rfl ?_
  refine RL.finG ?_
  refine GL.weak (fun a w st => st.nilOwn 3 TR.int) ?_
  have hm := Option.some.inj hm
  subst hm
  exact GL.ret (Gx.ret (v := .tuple #[Value.slice none 0 0, .int .i64 y5]) (res2 rfl rfl rfl) (fun a w st => (st.pick [1] (by decide) rfl).toPost (Value.slice none 0 0)))
 replace hm := ite_f b7 hm
 refine GL.skip ?_
 refine GL.seq ?_
 refine GL.region ?_
 refine RL.mv rfl rfl rfl ?_
 refine RL.lenS 0 Try.underlying24 rfl rfl rfl rfl SlOf.imm ?_
 obtain ⟨y11, e12, hm⟩ := bind_some hm
 replace e12 := chk_some e12
 refine RL.mkS (t := TR.int) (z := (0 : Int)) Try.underlying24 Try_lo3 (fun S => rfl) rfl rfl rfl rfl e12.1 e12.2 ?_
 intro v13
 refine RL.asg rfl rfl rfl ?_
 refine RL.finG ?_
 refine GL.seq ?_
 refine GL.seq ?_
 refine GL.region ?_
 refine RL.mv rfl rfl rfl ?_
 refine RL.lenS 0 Try.underlying24 rfl rfl rfl rfl SlOf.imm ?_
 obtain ⟨y16, e17, hm⟩ := bind_some hm
 replace e17 := chk_some e17
 refine RL.sh (by simp) rfl rfl rfl rfl e17 ?_
 refine RL.mv rfl rfl rfl ?_
 refine RL.finG ?_
 obtain ⟨y478, e479, hm⟩ := bind_some hm
 replace e479 := chk_some e479
 obtain ⟨y480, K481, h482, h483, h484, h485, h486⟩ := bindR_K hm
 refine GL.join (ι := (List Int)) (fun (p : (List Int)) => [(7, v13)]) (fun (p : (List Int)) => [own 3 TR.int v13 p]) (fun (p : (List Int)) => K481 (.nx p)) ?_ ?_
 ·refine GL.block ?_
  refine GL.loop (ι := Nat × Nat × (List Int)) (fun (p : Nat × Nat × (List Int)) => [(0, v0), (1, .int .i64 x1), (7, v13), (23, .int .i64 (IntKind.wrap .i64 ((1 : Int) * 2 ^ (min ((x0).length : Int).toNat (IntKind.bits .i64))))), (24, .int .i64 (p.1 : Int))]) (fun (p : Nat × Nat × (List Int)) => [imm (TR.sl TR.int) v0 x0, own 3 TR.int v13 p.2.2]) (fun (p : Nat × Nat × (List Int)) => p.1 + p.2.1 = (IntKind.wrap .i64 ((1 : Int) * 2 ^ (min ((x0).length : Int).toNat (IntKind.bits .i64)))).toNat ∧ rangeN (power_Turns_b1 x0 x1) p.2.1 p.1 p.2.2 = some y480) (fun (p : Nat × Nat × (List Int)) => p.2.1) (0, (IntKind.wrap .i64 ((1 : Int) * 2 ^ (min ((x0).length : Int).toNat (IntKind.bits .i64)))).toNat, (List.replicate (((x0).length : Int)).toNat (0 : Int))) ⟨by simp, h482⟩ (fun a w st => St.cut [0, 1] ⟨rfl, rfl, rfl, rfl, rfl, trivial⟩ (by decide) rfl st) ?_
  rintro ⟨i487, r488, l247⟩ ⟨h493, h492⟩
  try dsimp only at h493 h492
  refine GL.weak (env' := [(0, v0), (1, .int .i64 x1), (7, v13), (23, .int .i64 (IntKind.wrap .i64 ((1 : Int) * 2 ^ (min ((x0).length : Int).toNat (IntKind.bits .i64))))), (24, .int .i64 (i487 : Int))]) (L' := [imm (TR.sl TR.int) v0 x0, own 3 TR.int v13 l247]) (fun _ _ st => st) ?_
  refine GL.seq ?_
  refine GL.region ?_
  refine RL.binI (v := .bool (decide ((i487 : Int) < IntKind.wrap .i64 ((1 : Int) * 2 ^ (min ((x0).length : Int).toNat (IntKind.bits .i64)))))) rfl rfl rfl rfl rfl ?_
  refine RL.finG ?_
  refine GL.seq ?_
  refine GL.cond rfl (fun b495 => ?_) (fun b495 => ?_)
  ·have h496 : i487 < (IntKind.wrap .i64 ((1 : Int) * 2 ^ (min ((x0).length : Int).toNat (IntKind.bits .i64)))).toNat := by have := of_decide_eq_true b495; omega
   obtain ⟨r497, hr⟩ : ∃ m, r488 = m + 1 := ⟨r488 - 1, by omega⟩
   subst hr
   obtain ⟨z489, h490, h491⟩ := rangeN_some h492
   unfold power_Turns_b1 at h490
   try dsimp only at h490
   refine GL.skip ?_
   refine GL.seq ?_
   refine GL.block ?_
   refine GL.seq ?_
   refine GL.region ?_
   refine RL.mv rfl rfl rfl ?_
   refine RL.asg rfl rfl rfl ?_
   refine RL.finG ?_
   refine GL.seq ?_
   refine GL.region ?_
   refine RL.asg rfl rfl rfl ?_
   refine RL.finG ?_
   refine GL.seq ?_
   refine GL.seq ?_
   refine GL.region ?_
   refine RL.mv rfl rfl rfl ?_
   refine RL.lenS 0 Try.underlying24 rfl rfl rfl rfl SlOf.imm ?_
   refine RL.mv rfl rfl rfl ?_
   refine RL.finG ?_
   refine GL.open_ 0 rfl (fun S h => len_imm S h) (fun n503 => ?_)
   obtain ⟨y504, K505, h506, h507, h508, h509, h510⟩ := bindF_K h490
   refine GL.join (ι := Int) (fun (p : Int) => [(0, v0), (1, .int .i64 x1), (7, v13), (8, .int .i64 (i487 : Int)), (9, .int .i64 p), (23, .int .i64 (IntKind.wrap .i64 ((1 : Int) * 2 ^ (min ((x0).length : Int).toNat (IntKind.bits .i64))))), (24, .int .i64 (i487 : Int))]) (fun (p : Int) => [imm (TR.sl TR.int) v0 x0, own 3 TR.int v13 l247]) (fun (p : Int) => K505 (.nx p)) ?_ ?_
   ·refine GL.block ?_
    refine GL.loop (ι := Nat × (List Int) × Int) (fun (p : Nat × (List Int) × Int) => [(0, v0), (1, .int .i64 x1), (7, v13), (8, .int .i64 (i487 : Int)), (9, .int .i64 p.2.2), (23, .int .i64 (IntKind.wrap .i64 ((1 : Int) * 2 ^ (min ((x0).length : Int).toNat (IntKind.bits .i64))))), (24, .int .i64 (i487 : Int)), (28, .int .i64 ((x0).length : Int)), (29, .int .i64 (p.1 : Int))]) (fun (p : Nat × (List Int) × Int) => [imm (TR.sl TR.int) v0 x0, own 3 TR.int v13 l247]) (fun (p : Nat × (List Int) × Int) => p.1 + p.2.1.length = (x0).length ∧ List.drop p.1 x0 = p.2.1 ∧ rangeL (power_Turns_b2 i487) p.2.1 p.1 p.2.2 = some y504) (fun (p : Nat × (List Int) × Int) => p.2.1.length) (0, x0, (0 : Int)) ⟨by simp, by simp, h506⟩ (fun a w st => St.cut [0, 1] ⟨rfl, rfl, rfl, rfl, rfl, rfl, rfl, rfl, rfl, trivial⟩ (by decide) rfl st) ?_
    rintro ⟨i511, r512, x498⟩ ⟨h517, h518, h516⟩
    try dsimp only at h517 h518 h516
    refine GL.weak (env' := [(0, v0), (1, .int .i64 x1), (7, v13), (8, .int .i64 (i487 : Int)), (9, .int .i64 x498), (23, .int .i64 (IntKind.wrap .i64 ((1 : Int) * 2 ^ (min ((x0).length : Int).toNat (IntKind.bits .i64))))), (24, .int .i64 (i487 : Int)), (28, .int .i64 ((x0).length : Int)), (29, .int .i64 (i511 : Int))]) (L' := [imm (TR.sl TR.int) v0 x0, own 3 TR.int v13 l247]) (fun _ _ st => st) ?_
    refine GL.seq ?_
    refine GL.region ?_
    refine RL.binI (v := .bool (decide ((i511 : Int) < ((x0).length : Int)))) rfl rfl rfl rfl rfl ?_
    refine RL.finG ?_
    refine GL.seq ?_
    refine GL.cond rfl (fun b519 => ?_) (fun b519 => ?_)
    ·have h520 : i511 < (x0).length := by have := of_decide_eq_true b519; omega
     obtain ⟨y521, r523, hr, e522, h524⟩ := drop_cons h518 rfl h520
     subst hr
     obtain ⟨z513, h514, h515⟩ := rangeL_some h516
     unfold power_Turns_b2 at h514
     try dsimp only at h514
     refine GL.skip ?_
     refine GL.seq ?_
     refine GL.block ?_
     refine GL.seq ?_
     refine GL.region ?_
     refine RL.mv rfl rfl rfl ?_
     refine RL.asg rfl rfl rfl ?_
     refine RL.finG ?_
     refine GL.region ?_
     refine RL.mv rfl rfl rfl ?_
     refine RL.mv rfl rfl rfl ?_
     refine RL.mv rfl rfl rfl ?_
     obtain ⟨y527, e528, h514⟩ := bind_some h514
     replace e528 := chk_some e528
     refine RL.sh (by simp) rfl rfl rfl rfl e528 ?_
     refine RL.binI (v := .int .i64 (bits .and .i64 (Int.fdiv (i487 : Int) (2 ^ (min (i511 : Int).toNat (IntKind.bits .i64)))) (1 : Int))) rfl rfl rfl rfl rfl ?_
     refine RL.binI (v := .int .i64 (wadd x498 (bits .and .i64 (Int.fdiv (i487 : Int) (2 ^ (min (i511 : Int).toNat (IntKind.bits .i64)))) (1 : Int)))) rfl rfl rfl rfl rfl ?_
     refine RL.asg rfl rfl rfl ?_
     refine RL.finG ?_
     refine GL.nilB ?_
     refine GL.region ?_
     refine RL.binI (v := .int .i64 ((i511 + 1 : Nat) : Int)) rfl rfl rfl rfl (binI_succ i511 (by omega)) ?_
     refine RL.mv rfl rfl rfl ?_
     refine RL.fin ?_
     cases h514
     exact fun a w st => lop_intro (i511 + 1, r523, wadd x498 (bits .and .i64 (Int.fdiv (i487 : Int) (2 ^ (min (i511 : Int).toNat (IntKind.bits .i64)))) (1 : Int))) ⟨by show i511 + 1 + r523.length = (x0).length; simp only [List.length_cons] at h517; omega, h524, h515⟩ (by simp) (St.cut [0, 1] ⟨rfl, rfl, rfl, rfl, rfl, rfl, rfl, rfl, rfl, trivial⟩ (by decide) rfl st)
    have h520 : ¬ i511 < (x0).length := by have := of_decide_eq_false b519; omega
    obtain rfl : r512 = [] := by rw [← h518]; exact List.drop_of_length_le (by omega)
    replace h516 : some (Fl.nx _) = some y504 := h516
    cases h516
    exact GL.exit (fun a w st => mid_intro x498 h507 (St.cut [0, 1] ⟨rfl, rfl, rfl, rfl, rfl, rfl, rfl, trivial⟩ (by decide) rfl st))
   rintro x498 h529
   have h530 := h508 _ h529
   try dsimp only at h530
   refine GL.weak (env' := [(0, v0), (1, .int .i64 x1), (7, v13), (8, .int .i64 (i487 : Int)), (9, .int .i64 x498), (23, .int .i64 (IntKind.wrap .i64 ((1 : Int) * 2 ^ (min ((x0).length : Int).toNat (IntKind.bits .i64))))), (24, .int .i64 (i487 : Int))]) (L' := [imm (TR.sl TR.int) v0 x0, own 3 TR.int v13 l247]) (fun _ _ st => st) ?_
   refine GL.seq ?_
   refine GL.region ?_
   refine RL.mv rfl rfl rfl ?_
   refine RL.lenS 0 Try.underlying24 rfl rfl rfl rfl SlOf.imm ?_
   refine RL.mv rfl rfl rfl ?_
   refine RL.finG ?_
   refine GL.open_ 0 rfl (fun S h => len_imm S h) (fun n646 => ?_)
   obtain ⟨y647, K648, h649, h650, h651, h652, h653⟩ := bindF_K h530
   refine GL.join (ι := (List Int)) (fun (p : (List Int)) => [(0, v0), (1, .int .i64 x1), (7, v13), (23, .int .i64 (IntKind.wrap .i64 ((1 : Int) * 2 ^ (min ((x0).length : Int).toNat (IntKind.bits .i64))))), (24, .int .i64 (i487 : Int))]) (fun (p : (List Int)) => [imm (TR.sl TR.int) v0 x0, own 3 TR.int v13 p]) (fun (p : (List Int)) => K648 (.nx p)) ?_ ?_
   ·refine GL.block ?_
    refine GL.loop (ι := Nat × (List Int) × (List Int)) (fun (p : Nat × (List Int) × (List Int)) => [(0, v0), (1, .int .i64 x1), (7, v13), (8, .int .i64 (i487 : Int)), (9, .int .i64 x498), (23, .int .i64 (IntKind.wrap .i64 ((1 : Int) * 2 ^ (min ((x0).length : Int).toNat (IntKind.bits .i64))))), (24, .int .i64 (i487 : Int)), (40, .int .i64 ((x0).length : Int)), (41, .int .i64 (p.1 : Int))]) (fun (p : Nat × (List Int) × (List Int)) => [imm (TR.sl TR.int) v0 x0, own 3 TR.int v13 p.2.2]) (fun (p : Nat × (List Int) × (List Int)) => p.1 + p.2.1.length = (x0).length ∧ List.drop p.1 x0 = p.2.1 ∧ rangeL (power_Turns_b3 i487 x0 x1 x498) p.2.1 p.1 p.2.2 = some y647) (fun (p : Nat × (List Int) × (List Int)) => p.2.1.length) (0, x0, l247) ⟨by simp, by simp, h649⟩ (fun a w st => St.cut [0, 1] ⟨rfl, rfl, rfl, rfl, rfl, rfl, rfl, rfl, rfl, trivial⟩ (by decide) rfl st) ?_
    rintro ⟨i654, r655, l588⟩ ⟨h660, h661, h659⟩
    try dsimp only at h660 h661 h659
    refine GL.weak (env' := [(0, v0), (1, .int .i64 x1), (7, v13), (8, .int .i64 (i487 : Int)), (9, .int .i64 x498), (23, .int .i64 (IntKind.wrap .i64 ((1 : Int) * 2 ^ (min ((x0).length : Int).toNat (IntKind.bits .i64))))), (24, .int .i64 (i487 : Int)), (40, .int .i64 ((x0).length : Int)), (41, .int .i64 (i654 : Int))]) (L' := [imm (TR.sl TR.int) v0 x0, own 3 TR.int v13 l588]) (fun _ _ st => st) ?_
    refine GL.seq ?_
    refine GL.region ?_
    refine RL.binI (v := .bool (decide ((i654 : Int) < ((x0).length : Int)))) rfl rfl rfl rfl rfl ?_
    refine RL.finG ?_
    refine GL.seq ?_
    refine GL.cond rfl (fun b662 => ?_) (fun b662 => ?_)
    ·have h663 : i654 < (x0).length := by have := of_decide_eq_true b662; omega
     obtain ⟨y664, r666, hr, e665, h667⟩ := drop_cons h661 rfl h663
     subst hr
     obtain ⟨z656, h657, h658⟩ := rangeL_some h659
     unfold power_Turns_b3 at h657
     try dsimp only at h657
     refine GL.skip ?_
     refine GL.seq ?_
     refine GL.block ?_
     refine GL.seq ?_
     refine GL.region ?_
     refine RL.mv rfl rfl rfl ?_
     refine RL.asg rfl rfl rfl ?_
     refine RL.finG ?_
     refine GL.seq ?_
     obtain ⟨y689, K690, h691, h692, h693, h694, h695⟩ := bindF_K h657
     refine GL.join (ι := Bool) (fun (p : Bool) => [(0, v0), (1, .int .i64 x1), (7, v13), (8, .int .i64 (i487 : Int)), (9, .int .i64 x498), (11, .int .i64 (i654 : Int)), (23, .int .i64 (IntKind.wrap .i64 ((1 : Int) * 2 ^ (min ((x0).length : Int).toNat (IntKind.bits .i64))))), (24, .int .i64 (i487 : Int)), (40, .int .i64 ((x0).length : Int)), (41, .int .i64 (i654 : Int)), (64, .bool p)]) (fun (p : Bool) => [imm (TR.sl TR.int) v0 x0, own 3 TR.int v13 l588]) (fun (p : Bool) => K690 (.nx p)) ?_ ?_
     ·skip
      refine GL.region ?_
      refine RL.mv rfl rfl rfl ?_
      refine RL.mv rfl rfl rfl ?_
      obtain ⟨y696, e697, h691⟩ := bind_some h691
      replace e697 := chk_some e697
      refine RL.sh (by simp) rfl rfl rfl rfl e697 ?_
      refine RL.binI (v := .int .i64 (bits .and .i64 (Int.fdiv (i487 : Int) (2 ^ (min (i654 : Int).toNat (IntKind.bits .i64)))) (1 : Int))) rfl rfl rfl rfl rfl ?_
      refine RL.binI (v := .bool ((bits .and .i64 (Int.fdiv (i487 : Int) (2 ^ (min (i654 : Int).toNat (IntKind.bits .i64)))) (1 : Int)) == (1 : Int))) rfl rfl rfl rfl rfl ?_
      refine RL.mv rfl rfl rfl ?_
      refine RL.split (t := 49) rfl (fun b698 => ?_) (fun b698 => ?_)
      ·replace h691 := ite_t b698 h691
       refine RL.mv rfl rfl rfl ?_
       refine RL.mv rfl rfl rfl ?_
       refine RL.mv rfl rfl rfl ?_
       obtain ⟨y699, e700, h691⟩ := bind_some h691
       refine RL.callC (v := .bool y699) (vs := [v0, .int .i64 x1, .int .i64 (i487 : Int)]) Try_fit115 rfl rfl rfl rfl (fun U w hU hW hL => power_wins_c U w hU _ _ (hL 0 _ _ rfl Seen.imm) x1 (i487 : Int) _ e700) ?_
       refine RL.pickT rfl rfl rfl rfl ?_
       refine RL.mv rfl rfl rfl ?_
       refine RL.split (t := 55) rfl (fun b701 => ?_) (fun b701 => ?_)
       ·replace h691 := ite_t b701 h691
        refine RL.mv rfl rfl rfl ?_
        refine RL.mv rfl rfl rfl ?_
        refine RL.mv rfl rfl rfl ?_
        refine RL.mv rfl rfl rfl ?_
        obtain ⟨y702, e703, h691⟩ := bind_some h691
        replace e703 := chk_some e703
        refine RL.sh (by simp) rfl rfl rfl rfl e703 ?_
        refine RL.binI (v := .int .i64 (bits .andNot .i64 (i487 : Int) (IntKind.wrap .i64 ((1 : Int) * 2 ^ (min (i654 : Int).toNat (IntKind.bits .i64)))))) rfl rfl rfl rfl rfl ?_
        obtain ⟨y704, e705, h691⟩ := bind_some h691
        refine RL.callC (v := .bool y704) (vs := [v0, .int .i64 x1, .int .i64 (bits .andNot .i64 (i487 : Int) (IntKind.wrap .i64 ((1 : Int) * 2 ^ (min (i654 : Int).toNat (IntKind.bits .i64)))))]) Try_fit115 rfl rfl rfl rfl (fun U w hU hW hL => power_wins_c U w hU _ _ (hL 0 _ _ rfl Seen.imm) x1 (bits .andNot .i64 (i487 : Int) (IntKind.wrap .i64 ((1 : Int) * 2 ^ (min (i654 : Int).toNat (IntKind.bits .i64))))) _ e705) ?_
        refine RL.notB rfl rfl rfl ?_
        refine RL.pickT rfl rfl rfl rfl ?_
        refine RL.fin ?_
        cases h691
        exact fun a w st => mid_intro (!y704) h692 (St.cut [0, 1] ⟨rfl, rfl, rfl, rfl, rfl, rfl, rfl, rfl, rfl, rfl, rfl, trivial⟩ (by decide) rfl st)
       replace h691 := ite_f b701 h691
       refine RL.skip rfl rfl ?_
       refine RL.skip rfl rfl ?_
       refine RL.skip rfl rfl ?_
       refine RL.skip rfl rfl ?_
       refine RL.skip rfl rfl ?_
       refine RL.skip rfl rfl ?_
       refine RL.skip rfl rfl ?_
       refine RL.skip rfl rfl ?_
       refine RL.pickF rfl rfl rfl rfl ?_
       refine RL.fin ?_
       cases h691
       exact fun a w st => mid_intro false h692 (St.cut [0, 1] ⟨rfl, rfl, rfl, rfl, rfl, rfl, rfl, rfl, rfl, rfl, rfl, trivial⟩ (by decide) rfl st)
      replace h691 := ite_f b698 h691
      refine RL.skip rfl rfl ?_
      refine RL.skip rfl rfl ?_
      refine RL.skip rfl rfl ?_
      refine RL.skip rfl rfl ?_
      refine RL.pickF rfl rfl rfl rfl ?_
      refine RL.mv rfl rfl rfl ?_
      refine RL.skip rfl rfl ?_
      refine RL.skip rfl rfl ?_
      refine RL.skip rfl rfl ?_
      refine RL.skip rfl rfl ?_
      refine RL.skip rfl rfl ?_
      refine RL.skip rfl rfl ?_
      refine RL.skip rfl rfl ?_
      refine RL.skip rfl rfl ?_
      refine RL.pickF rfl rfl rfl rfl ?_
      refine RL.fin ?_
      cases h691
      exact fun a w st => mid_intro false h692 (St.cut [0, 1] ⟨rfl, rfl, rfl, rfl, rfl, rfl, rfl, rfl, rfl, rfl, rfl, trivial⟩ (by decide) rfl st)
     rintro x688 h706
     have h707 := h693 _ h706
     try dsimp only at h707
     refine GL.weak (env' := [(0, v0), (1, .int .i64 x1), (7, v13), (8, .int .i64 (i487 : Int)), (9, .int .i64 x498), (11, .int .i64 (i654 : Int)), (23, .int .i64 (IntKind.wrap .i64 ((1 : Int) * 2 ^ (min ((x0).length : Int).toNat (IntKind.bits .i64))))), (24, .int .i64 (i487 : Int)), (40, .int .i64 ((x0).length : Int)), (41, .int .i64 (i654 : Int)), (64, .bool x688)]) (L' := [imm (TR.sl TR.int) v0 x0, own 3 TR.int v13 l588]) (fun _ _ st => st) ?_
     refine GL.cond rfl (fun b708 => ?_) (fun b708 => ?_)
     ·replace h707 := ite_t b708 h707
      refine GL.regionH 15 rfl rfl (by kernel_rfl) ?_
      simp only [List.take_succ_cons, List.take_zero, List.drop_succ_cons, List.drop_zero]
      refine RL.mv rfl rfl rfl ?_
      refine RL.mv rfl rfl rfl ?_
      obtain ⟨y717, e718, h707⟩ := bind_some h707
      refine RL.idxS (sz := 1) 1 Try.underlying24 Try_ln3 rfl rfl rfl rfl rfl SlOf.own (idx_some e718).1 (idx_some e718).2.1 ?_
      refine RL.ldSx (i := i654) (e' := y717) 1 Ex.ik Try_ln3 rfl rfl rfl rfl SlOf.own (idx_some e718).2.2 Part.self ?_
      refine RL.mv rfl rfl rfl ?_
      refine RL.binI (v := .int .i64 (wsub x498 (1 : Int))) rfl rfl rfl rfl rfl ?_
      obtain ⟨y719, e720, h707⟩ := bind_some h707
      refine RL.callC (v := .int .i64 y719) (vs := [.int .i64 (wsub x498 (1 : Int))]) Try_fit128 rfl rfl rfl rfl (fun U w hU hW hL => power_factorial_c U w hU (wsub x498 (1 : Int)) _ e720) ?_
      refine RL.mv rfl rfl rfl ?_
      refine RL.lenS 0 Try.underlying24 rfl rfl rfl rfl SlOf.imm ?_
      refine RL.mv rfl rfl rfl ?_
      refine RL.binI (v := .int .i64 (wsub ((x0).length : Int) x498)) rfl rfl rfl rfl rfl ?_
      obtain ⟨y721, e722, h707⟩ := bind_some h707
      refine RL.callC (v := .int .i64 y721) (vs := [.int .i64 (wsub ((x0).length : Int) x498)]) Try_fit128 rfl rfl rfl rfl (fun U w hU hW hL => power_factorial_c U w hU (wsub ((x0).length : Int) x498) _ e722) ?_
      refine RL.binI (v := .int .i64 (wmul y719 y721)) rfl rfl rfl rfl rfl ?_
      refine RL.binI (v := .int .i64 (wadd y717 (wmul y719 y721))) rfl rfl rfl rfl rfl ?_
      obtain ⟨y723, e724, h707⟩ := bind_some h707
      refine RL.idxS (sz := 1) 1 Try.underlying24 Try_ln3 rfl rfl rfl rfl rfl SlOf.own (idx_some e724).1 (idx_some e724).2.1 ?_
      refine RL.finH ?_
      refine RL.stS (i := i654) (e' := wadd y717 (wmul y719 y721)) (e1 := wadd y717 (wmul y719 y721)) (r := TR.int) 1 Try_ln3 rfl rfl rfl rfl VR.int rfl (idx_some e724).2.2 Upd.self ?_
      refine RL.finG ?_
      refine GL.nilB ?_
      refine GL.region ?_
      refine RL.binI (v := .int .i64 ((i654 + 1 : Nat) : Int)) rfl rfl rfl rfl (binI_succ i654 (by omega)) ?_
      refine RL.mv rfl rfl rfl ?_
      refine RL.fin ?_
      cases h707
      exact fun a w st => lop_intro (i654 + 1, r666, (List.set l588 i654 (wadd y717 (wmul y719 y721)))) ⟨by show i654 + 1 + r666.length = (x0).length; simp only [List.length_cons] at h660; omega, h667, h658⟩ (by simp) (St.cut [0, 1] ⟨rfl, rfl, rfl, rfl, rfl, rfl, rfl, rfl, rfl, trivial⟩ (by decide) rfl st)
     replace h707 := ite_f b708 h707
     refine GL.skip ?_
     refine GL.nilB ?_
     refine GL.region ?_
     refine RL.binI (v := .int .i64 ((i654 + 1 : Nat) : Int)) rfl rfl rfl rfl (binI_succ i654 (by omega)) ?_
     refine RL.mv rfl rfl rfl ?_
     refine RL.fin ?_
     cases h707
     exact fun a w st => lop_intro (i654 + 1, r666, l588) ⟨by show i654 + 1 + r666.length = (x0).length; simp only [List.length_cons] at h660; omega, h667, h658⟩ (by simp) (St.cut [0, 1] ⟨rfl, rfl, rfl, rfl, rfl, rfl, rfl, rfl, rfl, trivial⟩ (by decide) rfl st)
    have h663 : ¬ i654 < (x0).length := by have := of_decide_eq_false b662; omega
    obtain rfl : r655 = [] := by rw [← h661]; exact List.drop_of_length_le (by omega)
    replace h659 : some (Fl.nx _) = some y647 := h659
    cases h659
    exact GL.exit (fun a w st => mid_intro l588 h650 (St.cut [0, 1] ⟨rfl, rfl, rfl, rfl, rfl, trivial⟩ (by decide) rfl st))
   rintro l588 h725
   have h726 := h651 _ h725
   try dsimp only at h726
   refine GL.weak (env' := [(0, v0), (1, .int .i64 x1), (7, v13), (23, .int .i64 (IntKind.wrap .i64 ((1 : Int) * 2 ^ (min ((x0).length : Int).toNat (IntKind.bits .i64))))), (24, .int .i64 (i487 : Int))]) (L' := [imm (TR.sl TR.int) v0 x0, own 3 TR.int v13 l588]) (fun _ _ st => st) ?_
   refine GL.nilB ?_
   refine GL.region ?_
   refine RL.binI (v := .int .i64 ((i487 + 1 : Nat) : Int)) rfl rfl rfl rfl (binI_succ i487 (by omega)) ?_
   refine RL.mv rfl rfl rfl ?_
   refine RL.fin ?_
   cases h726
   exact fun a w st => lop_intro (i487 + 1, r497, l588) ⟨by show i487 + 1 + r497 = (IntKind.wrap .i64 ((1 : Int) * 2 ^ (min ((x0).length : Int).toNat (IntKind.bits .i64)))).toNat; omega, h491⟩ (by simp) (St.cut [0, 1] ⟨rfl, rfl, rfl, rfl, rfl, trivial⟩ (by decide) rfl st)
  have h496 : ¬ i487 < (IntKind.wrap .i64 ((1 : Int) * 2 ^ (min ((x0).length : Int).toNat (IntKind.bits .i64)))).toNat := by have := of_decide_eq_false b495; omega
  obtain rfl : r488 = 0 := by omega
  replace h492 : some (Fl.nx _) = some y480 := h492
  cases h492
  exact GL.exit (fun a w st => mid_intro l247 h483 (St.cut [1] ⟨rfl, trivial⟩ (by decide) rfl st))
 rintro l247 h727
 have h728 := h484 _ h727
 try dsimp only at h728
 refine GL.weak (env' := [(7, v13)]) (L' := [own 3 TR.int v13 l247]) (fun _ _ st => st) ?_
 refine GL.seq ?_
 refine GL.region ?_
 refine RL.mv rfl rfl rfl ?_
 refine RL.asg rfl rfl rfl ?_
 refine RL.asg rfl rfl rfl ?_
 refine RL.finG ?_
 have h728 := Option.some.inj h728
 subst h728
 exact GL.ret (Gx.ret (v := .tuple #[v13, .int .i64 (0 : Int)]) (res2 rfl rfl rfl) (fun a w st => (st.pick [0] (by decide) rfl).toPost v13))

set_option maxHeartbeats 4000000 in
theorem slices_IndexFunc_api_Errno_api_Errno_c (S : Hp) (w : World) (hS : S.sub w) (v0 : Value) (x0 : (List Int)) (k0 : ((TR.sl TR.int)).vrep S v0 x0) (f1 : FuncId) (c1 : Array Value) (t1 : Fit Try.prog f1) (g1 : Int → Option Bool) (k1 : ∀ (U : Hp) (w' : World), Hp.le S U → U.sub w' → ∀ (a0 : Int) (rr : Bool), g1 a0 = some rr → Calls Try.prog f1 (#[.int .i64 a0] ++ c1) w' (PostV w' (.bool rr))) (res : Int) (hm : slices_IndexFunc_api_Errno_api_Errno_m x0 g1 = some res) : Calls Try.prog 125 #[v0, .func (.func f1) #[] c1] w (PostV w (.int .i64 res)) := by
 refine calls_enter 19 Try.func125 Try.ntmps125 rfl S false [(0, v0), (1, .func (.func f1) #[] c1)] [imm (TR.sl TR.int) v0 x0] rfl ⟨rfl, ⟨rfl, trivial⟩⟩ hS ⟨k0, trivial⟩ ?_
 unfold slices_IndexFunc_api_Errno_api_Errno_m at hm
 refine GL.seq ?_
 refine GL.region ?_
 refine RL.asg rfl rfl rfl ?_
 refine RL.finG ?_
 refine GL.seq ?_
 refine GL.seq ?_
 refine GL.region ?_
 refine RL.mv rfl rfl rfl ?_
 refine RL.lenS 0 Try.underlying101 rfl rfl rfl rfl SlOf.imm ?_
 refine RL.mv rfl rfl rfl ?_
 refine RL.finG ?_
 refine GL.open_ 0 rfl (fun S h => len_imm S h) (fun n12 => ?_)
 obtain ⟨y13, K14, h15, h16, h17, h18, h19⟩ := bindR_K hm
 refine GL.join (ι := Unit) (fun (p : Unit) => []) (fun (p : Unit) => []) (fun (p : Unit) => K14 (.nx ())) ?_ ?_
 ·refine GL.block ?_
  refine GL.loop (ι := Nat × (List Int)) (fun (p : Nat × (List Int)) => [(0, v0), (1, .func (.func f1) #[] c1), (7, .int .i64 ((x0).length : Int)), (8, .int .i64 (p.1 : Int))]) (fun (p : Nat × (List Int)) => [imm (TR.sl TR.int) v0 x0]) (fun (p : Nat × (List Int)) => p.1 + p.2.length = (x0).length ∧ List.drop p.1 x0 = p.2 ∧ rangeL (slices_IndexFunc_api_Errno_api_Errno_b1 g1) p.2 p.1 () = some y13) (fun (p : Nat × (List Int)) => p.2.length) (0, x0) ⟨by simp, by simp, h15⟩ (fun a w st => St.cut [0] ⟨rfl, rfl, rfl, rfl, trivial⟩ (by decide) rfl st) ?_
  rintro ⟨i20, r21⟩ ⟨h26, h27, h25⟩
  try dsimp only at h26 h27 h25
  refine GL.weak (env' := [(0, v0), (1, .func (.func f1) #[] c1), (7, .int .i64 ((x0).length : Int)), (8, .int .i64 (i20 : Int))]) (L' := [imm (TR.sl TR.int) v0 x0]) (fun _ _ st => st) ?_
  refine GL.seq ?_
  refine GL.region ?_
  refine RL.binI (v := .bool (decide ((i20 : Int) < ((x0).length : Int)))) rfl rfl rfl rfl rfl ?_
  refine RL.finG ?_
  refine GL.seq ?_
  refine GL.cond rfl (fun b28 => ?_) (fun b28 => ?_)
  ·have h29 : i20 < (x0).length := by have := of_decide_eq_true b28; omega
   obtain ⟨y30, r32, hr, e31, h33⟩ := drop_cons h27 rfl h29
   subst hr
   obtain ⟨z22, h23, h24⟩ := rangeL_some h25
   unfold slices_IndexFunc_api_Errno_api_Errno_b1 at h23
   try dsimp only at h23
   refine GL.skip ?_
   refine GL.seq ?_
   refine GL.block ?_
   refine GL.seq ?_
   refine GL.region ?_
   refine RL.mv rfl rfl rfl ?_
   refine RL.asg rfl rfl rfl ?_
   refine RL.finG ?_
   refine GL.seq ?_
   refine GL.region ?_
   refine RL.mv rfl rfl rfl ?_
   refine RL.mv rfl rfl rfl ?_
   refine RL.mv rfl rfl rfl ?_
   refine RL.idxS (sz := 1) 0 Try.underlying101 Try_ln25 rfl rfl rfl rfl rfl SlOf.imm (by omega) (by omega) ?_
   refine RL.ldSx (i := i20) (e' := y30) 0 Ex.ik Try_ln25 rfl rfl rfl rfl SlOf.imm e31 Part.self ?_
   obtain ⟨y36, e37, h23⟩ := bind_some h23
   refine RL.callV (v := .bool y36) (vs := [.int .i64 y30]) t1 rfl (Or.inl rfl) rfl rfl rfl rfl (fun U w hU hW hL => k1 U w hW hU y30 _ e37) ?_
   refine RL.finG ?_
   refine GL.cond rfl (fun b38 => ?_) (fun b38 => ?_)
   ·replace h23 := ite_t b38 h23
    refine GL.seq ?_
    refine GL.region ?_
    refine RL.mv rfl rfl rfl ?_
    refine RL.asg rfl rfl rfl ?_
    refine RL.finG ?_
    cases h23
    replace h24 : some (Fl.rt _) = some y13 := h24
    cases h24
    have hh := h18 _ h16
    subst hh
    exact GL.ret (Gx.ret (v := .int .i64 (i20 : Int)) (res1 rfl rfl) (fun a w st => st.toPostV))
   replace h23 := ite_f b38 h23
   refine GL.skip ?_
   refine GL.nilB ?_
   refine GL.region ?_
   refine RL.binI (v := .int .i64 ((i20 + 1 : Nat) : Int)) rfl rfl rfl rfl (binI_succ i20 (by omega)) ?_
   refine RL.mv rfl rfl rfl ?_
   refine RL.fin ?_
   cases h23
   exact fun a w st => lop_intro (i20 + 1, r32) ⟨by show i20 + 1 + r32.length = (x0).length; simp only [List.length_cons] at h26; omega, h33, h24⟩ (by simp) (St.cut [0] ⟨rfl, rfl, rfl, rfl, trivial⟩ (by decide) rfl st)
  have h29 : ¬ i20 < (x0).length := by have := of_decide_eq_false b28; omega
  obtain rfl : r21 = [] := by rw [← h27]; exact List.drop_of_length_le (by omega)
  replace h25 : some (Fl.nx _) = some y13 := h25
  cases h25
  exact GL.exit (fun a w st => mid_intro () h16 (St.cut [] trivial (by decide) rfl st))
 rintro ⟨⟩ h39
 have h40 := h17 _ h39
 try dsimp only at h40
 refine GL.weak (env' := []) (L' := []) (fun _ _ st => st) ?_
 refine GL.seq ?_
 refine GL.region ?_
 refine RL.asg rfl rfl rfl ?_
 refine RL.finG ?_
 have h40 := Option.some.inj h40
 subst h40
 exact GL.ret (Gx.ret (v := .int .i64 (-1 : Int)) (res1 rfl rfl) (fun a w st => st.toPostV))

set_option maxHeartbeats 4000000 in
theorem slices_ContainsFunc_api_Errno_api_Errno_c (S : Hp) (w : World) (hS : S.sub w) (v0 : Value) (x0 : (List Int)) (k0 : ((TR.sl TR.int)).vrep S v0 x0) (f1 : FuncId) (c1 : Array Value) (t1 : Fit Try.prog f1) (g1 : Int → Option Bool) (k1 : ∀ (U : Hp) (w' : World), Hp.le S U → U.sub w' → ∀ (a0 : Int) (rr : Bool), g1 a0 = some rr → Calls Try.prog f1 (#[.int .i64 a0] ++ c1) w' (PostV w' (.bool rr))) (res : Bool) (hm : slices_ContainsFunc_api_Errno_api_Errno_m x0 g1 = some res) : Calls Try.prog 82 #[v0, .func (.func f1) #[] c1] w (PostV w (.bool res)) := by
 refine calls_enter 9 Try.func82 Try.ntmps82 rfl S false [(0, v0), (1, .func (.func f1) #[] c1)] [imm (TR.sl TR.int) v0 x0] rfl ⟨rfl, ⟨rfl, trivial⟩⟩ hS ⟨k0, trivial⟩ ?_
 unfold slices_ContainsFunc_api_Errno_api_Errno_m at hm
 refine GL.seq ?_
 refine GL.region ?_
 refine RL.asg rfl rfl rfl ?_
 refine RL.finG ?_
 refine GL.seq ?_
 refine GL.region ?_
 refine RL.mv rfl rfl rfl ?_
 refine RL.mv rfl rfl rfl ?_
 obtain ⟨y5, e6, hm⟩ := bind_some hm
 refine RL.callV (v := .int .i64 y5) (vs := [v0, .func (.func f1) #[] c1]) Try_fit125 rfl (Or.inl rfl) rfl rfl rfl rfl (fun U w hU hW hL => slices_IndexFunc_api_Errno_api_Errno_c U w hU _ _ (hL 0 _ _ rfl Seen.imm) f1 c1 t1 g1 (fun U' w' hle => k1 U' w' (Hp.le_trans hW hle)) _ e6) ?_
 refine RL.binI (v := .bool (decide (y5 ≥ (0 : Int)))) rfl rfl rfl rfl rfl ?_
 refine RL.asg rfl rfl rfl ?_
 refine RL.finG ?_
 have hm := Option.some.inj hm
 subst hm
 exact GL.ret (Gx.ret (v := .bool (decide (y5 ≥ (0 : Int)))) (res1 rfl rfl) (fun a w st => st.toPostV))

set_option maxHeartbeats 4000000 in
theorem pk_good_1_c (S : Hp) (w : World) (hS : S.sub w) (x0 : Int) (res : Bool) (hm : pk_good_1_m x0 = some res) : Calls Try.prog 83 #[.int .i64 x0] w (PostC w (.bool res)) := by
 refine calls_enter 5 Try.func83 Try.ntmps83 rfl S true [(0, .int .i64 x0)] [] rfl ⟨rfl, trivial⟩ hS trivial ?_
 unfold pk_good_1_m at hm
 refine GL.seq ?_
 refine GL.region ?_
 refine RL.asg rfl rfl rfl ?_
 refine RL.finG ?_
 refine GL.seq ?_
 refine GL.region ?_
 refine RL.mv rfl rfl rfl ?_
 refine RL.binI (v := .bool (x0 != (0 : Int))) rfl rfl rfl rfl rfl ?_
 refine RL.asg rfl rfl rfl ?_
 refine RL.finG ?_
 have hm := Option.some.inj hm
 subst hm
 exact GL.ret (Gx.ret (v := .bool (x0 != (0 : Int))) (res1 rfl rfl) (fun a w st => st.toPostC rfl))

set_option maxHeartbeats 4000000 in
theorem pk_good_c (S : Hp) (w : World) (hS : S.sub w) (v0 : Value) (x0 : (List Int)) (k0 : ((TR.sl TR.int)).vrep S v0 x0) (res : Bool) (hm : pk_good_m x0 = some res) : Calls Try.prog 20 #[v0] w (PostV w (.bool res)) := by
 refine calls_enter 6 Try.func20 Try.ntmps20 rfl S false [(0, v0)] [imm (TR.sl TR.int) v0 x0] rfl ⟨rfl, trivial⟩ hS ⟨k0, trivial⟩ ?_
 unfold pk_good_m at hm
 refine GL.seq ?_
 refine GL.region ?_
 refine RL.asg rfl rfl rfl ?_
 refine RL.finG ?_
 refine GL.seq ?_
 refine GL.region ?_
 refine RL.mv rfl rfl rfl ?_
 obtain ⟨y4, e5, hm⟩ := bind_some hm
 refine RL.callV (v := .bool y4) (vs := [v0, .func (.func 83) #[] #[]]) Try_fit82 rfl (Or.inl rfl) rfl rfl rfl rfl (fun U w hU hW hL => slices_ContainsFunc_api_Errno_api_Errno_c U w hU _ _ (hL 0 _ _ rfl Seen.imm) 83 #[] Try_fit83 (fun a0 => pk_good_1_m a0) (fun U' w' hle hU' a0 rr hr => (pk_good_1_c U' w' hU' a0 rr hr).mono (fun _ _ z => z.toV)) _ e5) ?_
 refine RL.notB rfl rfl rfl ?_
 refine RL.asg rfl rfl rfl ?_
 refine RL.finG ?_
 have hm := Option.some.inj hm
 subst hm
 exact GL.ret (Gx.ret (v := .bool (!y4)) (res1 rfl rfl) (fun a w st => st.toPostV))

set_option maxHeartbeats 4000000 in
theorem slices_Equal_int_int_c (S : Hp) (w : World) (hS : S.sub w) (v0 : Value) (x0 : (List Int)) (k0 : ((TR.sl TR.int)).vrep S v0 x0) (v1 : Value) (x1 : (List Int)) (k1 : ((TR.sl TR.int)).vrep S v1 x1) (res : Bool) (hm : slices_Equal_int_int_m x0 x1 = some res) : Calls Try.prog 22 #[v0, v1] w (PostV w (.bool res)) := by
 refine calls_enter 26 Try.func22 Try.ntmps22 rfl S false [(0, v0), (1, v1)] [imm (TR.sl TR.int) v0 x0, imm (TR.sl TR.int) v1 x1] rfl ⟨rfl, ⟨rfl, trivial⟩⟩ hS ⟨k0, ⟨k1, trivial⟩⟩ ?_
 unfold slices_Equal_int_int_m at hm
 refine GL.seq ?_
 refine GL.region ?_
 refine RL.asg rfl rfl rfl ?_
 refine RL.finG ?_
 refine GL.seq ?_
 refine GL.seq ?_
 refine GL.region ?_
 refine RL.mv rfl rfl rfl ?_
 refine RL.lenS 0 Try.underlying24 rfl rfl rfl rfl SlOf.imm ?_
 refine RL.mv rfl rfl rfl ?_
 refine RL.lenS 1 Try.underlying24 rfl rfl rfl rfl SlOf.imm ?_
 refine RL.binI (v := .bool (((x0).length : Int) != ((x1).length : Int))) rfl rfl rfl rfl rfl ?_
 refine RL.finG ?_
 refine GL.cond rfl (fun b3 => ?_) (fun b3 => ?_)
 ·replace hm := ite_t b3 hm
  refine GL.seq ?_
  refine GL.region ?_
  refine RL.asg rfl rfl rfl ?_
  refine RL.finG ?_
  have hm := Option.some.inj hm
  subst hm
  exact GL.ret (Gx.ret (v := .bool false) (res1 rfl rfl) (fun a w st => st.toPostV))
 replace hm := ite_f b3 hm
 refine GL.skip ?_
 refine GL.seq ?_
 refine GL.seq ?_
 refine GL.region ?_
 refine RL.mv rfl rfl rfl ?_
 refine RL.lenS 0 Try.underlying24 rfl rfl rfl rfl SlOf.imm ?_
 refine RL.mv rfl rfl rfl ?_
 refine RL.finG ?_
 refine GL.open_ 0 rfl (fun S h => len_imm S h) (fun n13 => ?_)
 obtain ⟨y14, K15, h16, h17, h18, h19, h20⟩ := bindR_K hm
 refine GL.join (ι := Unit) (fun (p : Unit) => []) (fun (p : Unit) => []) (fun (p : Unit) => K15 (.nx ())) ?_ ?_
 ·refine GL.block ?_
  refine GL.loop (ι := Nat × (List Int)) (fun (p : Nat × (List Int)) => [(0, v0), (1, v1), (12, .int .i64 ((x0).length : Int)), (13, .int .i64 (p.1 : Int))]) (fun (p : Nat × (List Int)) => [imm (TR.sl TR.int) v0 x0, imm (TR.sl TR.int) v1 x1]) (fun (p : Nat × (List Int)) => p.1 + p.2.length = (x0).length ∧ List.drop p.1 x0 = p.2 ∧ rangeL (slices_Equal_int_int_b1 x1) p.2 p.1 () = some y14) (fun (p : Nat × (List Int)) => p.2.length) (0, x0) ⟨by simp, by simp, h16⟩ (fun a w st => St.cut [0, 1] ⟨rfl, rfl, rfl, rfl, trivial⟩ (by decide) rfl st) ?_
  rintro ⟨i21, r22⟩ ⟨h27, h28, h26⟩
  try dsimp only at h27 h28 h26
  refine GL.weak (env' := [(0, v0), (1, v1), (12, .int .i64 ((x0).length : Int)), (13, .int .i64 (i21 : Int))]) (L' := [imm (TR.sl TR.int) v0 x0, imm (TR.sl TR.int) v1 x1]) (fun _ _ st => st) ?_
  refine GL.seq ?_
  refine GL.region ?_
  refine RL.binI (v := .bool (decide ((i21 : Int) < ((x0).length : Int)))) rfl rfl rfl rfl rfl ?_
  refine RL.finG ?_
  refine GL.seq ?_
  refine GL.cond rfl (fun b29 => ?_) (fun b29 => ?_)
  ·have h30 : i21 < (x0).length := by have := of_decide_eq_true b29; omega
   obtain ⟨y31, r33, hr, e32, h34⟩ := drop_cons h28 rfl h30
   subst hr
   obtain ⟨z23, h24, h25⟩ := rangeL_some h26
   unfold slices_Equal_int_int_b1 at h24
   try dsimp only at h24
   refine GL.skip ?_
   refine GL.seq ?_
   refine GL.block ?_
   refine GL.seq ?_
   refine GL.region ?_
   refine RL.mv rfl rfl rfl ?_
   refine RL.asg rfl rfl rfl ?_
   refine RL.finG ?_
   refine GL.seq ?_
   refine GL.regionQ rfl rfl (by kernel_rfl) ?_
   refine RL.mv rfl rfl rfl ?_
   refine RL.mv rfl rfl rfl ?_
   refine RL.idxS (sz := 1) 0 Try.underlying24 Try_ln3 rfl rfl rfl rfl rfl SlOf.imm (by omega) (by omega) ?_
   refine RL.ldSx (i := i21) (e' := y31) 0 Ex.ik Try_ln3 rfl rfl rfl rfl SlOf.imm e32 Part.self ?_
   refine RL.mv rfl rfl rfl ?_
   refine RL.mv rfl rfl rfl ?_
   obtain ⟨y37, e38, h24⟩ := bind_some h24
   refine RL.idxS (sz := 1) 1 Try.underlying24 Try_ln3 rfl rfl rfl rfl rfl SlOf.imm (idx_some e38).1 (idx_some e38).2.1 ?_
   refine RL.ldSx (i := i21) (e' := y37) 1 Ex.ik Try_ln3 rfl rfl rfl rfl SlOf.imm (idx_some e38).2.2 Part.self ?_
   refine RL.binI (v := .bool (y31 != y37)) rfl rfl rfl rfl rfl ?_
   refine RL.finQG ?_
   refine GL.cond rfl (fun b39 => ?_) (fun b39 => ?_)
   ·replace h24 := ite_t b39 h24
    refine GL.seq ?_
    refine GL.region ?_
    refine RL.asg rfl rfl rfl ?_
    refine RL.finG ?_
    cases h24
    replace h25 : some (Fl.rt _) = some y14 := h25
    cases h25
    have hh := h19 _ h17
    subst hh
    exact GL.ret (Gx.ret (v := .bool false) (res1 rfl rfl) (fun a w st => st.toPostV))
   replace h24 := ite_f b39 h24
   refine GL.skip ?_
   refine GL.nilB ?_
   refine GL.region ?_
   refine RL.binI (v := .int .i64 ((i21 + 1 : Nat) : Int)) rfl rfl rfl rfl (binI_succ i21 (by omega)) ?_
   refine RL.mv rfl rfl rfl ?_
   refine RL.fin ?_
   cases h24
   exact fun a w st => lop_intro (i21 + 1, r33) ⟨by show i21 + 1 + r33.length = (x0).length; simp only [List.length_cons] at h27; omega, h34, h25⟩ (by simp) (St.cut [0, 1] ⟨rfl, rfl, rfl, rfl, trivial⟩ (by decide) rfl st)
  have h30 : ¬ i21 < (x0).length := by have := of_decide_eq_false b29; omega
  obtain rfl : r22 = [] := by rw [← h28]; exact List.drop_of_length_le (by omega)
  replace h26 : some (Fl.nx _) = some y14 := h26
  cases h26
  exact GL.exit (fun a w st => mid_intro () h17 (St.cut [] trivial (by decide) rfl st))
 rintro ⟨⟩ h40
 have h41 := h18 _ h40
 try dsimp only at h41
 refine GL.weak (env' := []) (L' := []) (fun _ _ st => st) ?_
 refine GL.seq ?_
 refine GL.region ?_
 refine RL.asg rfl rfl rfl ?_
 refine RL.finG ?_
 have h41 := Option.some.inj h41
 subst h41
 exact GL.ret (Gx.ret (v := .bool true) (res1 rfl rfl) (fun a w st => st.toPostV))

set_option maxHeartbeats 4000000 in
theorem pk_powers_c (S : Hp) (w : World) (hS : S.sub w)  (res : Bool) (hm : pk_powers_m = some res) : Calls Try.prog 51 #[] w (PostV w (.bool res)) := by
 refine calls_enter 29 Try.func51 Try.ntmps51 rfl S false [] [] rfl trivial hS trivial ?_
 unfold pk_powers_m at hm
 refine GL.seq ?_
 refine GL.region ?_
 refine RL.asg rfl rfl rfl ?_
 refine RL.finG ?_
 refine GL.seq ?_
 refine GL.region ?_
 refine RL.bS (t := TR.int) (vs := [.int .i64 (2 : Int), .int .i64 (1 : Int), .int .i64 (1 : Int)]) ([(2 : Int), (1 : Int), (1 : Int)] : (List Int)) Try.underlying24 Try_lo3 rfl rfl rfl rfl ⟨VR.int, ⟨VR.int, ⟨VR.int, trivial⟩⟩⟩ rfl (by decide) ?_
 intro v5
 obtain ⟨y6, e7, hm⟩ := bind_some hm
 refine RL.callU (vs := [v5, .int .i64 (3 : Int)]) (LR := fun (o : Value) => [own 3 TR.int o y6.1]) (fun o => ⟨Loc.own TR.flatT_ik, trivial⟩) Try_fit59 rfl rfl rfl rfl rfl (fun U w hU hW hL => power_Swings_c U w hU _ _ (hL 0 _ _ rfl Seen.own) (3 : Int) _ e7) ?_
 intro v8
 refine RL.mv rfl rfl rfl ?_
 refine RL.ext rfl rfl rfl rfl ?_
 refine RL.ext rfl rfl rfl rfl ?_
 refine RL.asg rfl rfl rfl ?_
 refine RL.asg rfl rfl rfl ?_
 refine RL.finG ?_
 refine GL.seq ?_
 refine GL.region ?_
 refine RL.bS (t := TR.int) (vs := [.int .i64 (2 : Int), .int .i64 (1 : Int), .int .i64 (1 : Int)]) ([(2 : Int), (1 : Int), (1 : Int)] : (List Int)) Try.underlying24 Try_lo3 rfl rfl rfl rfl ⟨VR.int, ⟨VR.int, ⟨VR.int, trivial⟩⟩⟩ rfl (by decide) ?_
 intro v13
 refine RL.reL (L' := [own 3 TR.int v5 ([(2 : Int), (1 : Int), (1 : Int)] : (List Int)), own 3 TR.int v8 y6.1, own 3 TR.int v13 ([(2 : Int), (1 : Int), (1 : Int)] : (List Int))]) rfl ?_
 obtain ⟨y14, e15, hm⟩ := bind_some hm
 refine RL.callU (vs := [v13, .int .i64 (3 : Int)]) (LR := fun (o : Value) => [own 3 TR.int o y14.1]) (fun o => ⟨Loc.own TR.flatT_ik, trivial⟩) Try_fit110 rfl rfl rfl rfl rfl (fun U w hU hW hL => power_Turns_c U w hU _ _ (hL 2 _ _ rfl Seen.own) (3 : Int) _ e15) ?_
 intro v16
 refine RL.mv rfl rfl rfl ?_
 refine RL.ext rfl rfl rfl rfl ?_
 refine RL.ext rfl rfl rfl rfl ?_
 refine RL.asg rfl rfl rfl ?_
 refine RL.asg rfl rfl rfl ?_
 refine RL.finG ?_
 refine GL.seq ?_
 obtain ⟨y40, K41, h42, h43, h44, h45, h46⟩ := bindR_K hm
 refine GL.join (ι := Bool) (fun (p : Bool) => [(0, .bool p)]) (fun (p : Bool) => []) (fun (p : Bool) => K41 (.nx p)) ?_ ?_
 ·skip
  refine GL.region ?_
  refine RL.mv rfl rfl rfl ?_
  refine RL.mv rfl rfl rfl ?_
  refine RL.bS (t := TR.int) (vs := [.int .i64 y6.2, .int .i64 y14.2]) ([y6.2, y14.2] : (List Int)) Try.underlying101 Try_lo25 rfl rfl rfl rfl ⟨VR.int, ⟨VR.int, trivial⟩⟩ rfl (by decide) ?_
  intro v47
  obtain ⟨y48, e49, h42⟩ := bind_some h42
  refine RL.callV (v := .bool y48) (vs := [v47]) Try_fit20 rfl (Or.inl rfl) rfl rfl rfl rfl (fun U w hU hW hL => pk_good_c U w hU _ _ (hL 4 _ _ rfl Seen.own) _ e49) ?_
  refine RL.mv rfl rfl rfl ?_
  refine RL.split (t := 19) rfl (fun b50 => ?_) (fun b50 => ?_)
  ·replace h42 := ite_t b50 h42
   refine RL.mv rfl rfl rfl ?_
   refine RL.bS (t := TR.int) (vs := [.int .i64 (3 : Int), .int .i64 (1 : Int), .int .i64 (1 : Int)]) ([(3 : Int), (1 : Int), (1 : Int)] : (List Int)) Try.underlying24 Try_lo3 rfl rfl rfl rfl ⟨VR.int, ⟨VR.int, ⟨VR.int, trivial⟩⟩⟩ rfl (by decide) ?_
   intro v51
   refine RL.reL (L' := [own 3 TR.int v5 ([(2 : Int), (1 : Int), (1 : Int)] : (List Int)), own 3 TR.int v8 y6.1, own 3 TR.int v13 ([(2 : Int), (1 : Int), (1 : Int)] : (List Int)), own 3 TR.int v16 y14.1, own 25 TR.int v47 ([y6.2, y14.2] : (List Int)), own 3 TR.int v51 ([(3 : Int), (1 : Int), (1 : Int)] : (List Int))]) rfl ?_
   obtain ⟨y52, e53, h42⟩ := bind_some h42
   refine RL.callV (v := .bool y52) (vs := [v8, v51]) Try_fit22 rfl (Or.inl rfl) rfl rfl rfl rfl (fun U w hU hW hL => slices_Equal_int_int_c U w hU _ _ (hL 1 _ _ rfl Seen.own) _ _ (hL 5 _ _ rfl Seen.own) _ e53) ?_
   refine RL.pickT rfl rfl rfl rfl ?_
   refine RL.mv rfl rfl rfl ?_
   refine RL.split (t := 24) rfl (fun b54 => ?_) (fun b54 => ?_)
   ·replace h42 := ite_t b54 h42
    refine RL.mv rfl rfl rfl ?_
    refine RL.bS (t := TR.int) (vs := [.int .i64 (4 : Int), .int .i64 (1 : Int), .int .i64 (1 : Int)]) ([(4 : Int), (1 : Int), (1 : Int)] : (List Int)) Try.underlying24 Try_lo3 rfl rfl rfl rfl ⟨VR.int, ⟨VR.int, ⟨VR.int, trivial⟩⟩⟩ rfl (by decide) ?_
    intro v55
    obtain ⟨y56, e57, h42⟩ := bind_some h42
    refine RL.callV (v := .bool y56) (vs := [v16, v55]) Try_fit22 rfl (Or.inl rfl) rfl rfl rfl rfl (fun U w hU hW hL => slices_Equal_int_int_c U w hU _ _ (hL 3 _ _ rfl Seen.own) _ _ (hL 6 _ _ rfl Seen.own) _ e57) ?_
    refine RL.pickT rfl rfl rfl rfl ?_
    refine RL.asg rfl rfl rfl ?_
    refine RL.fin ?_
    cases h42
    exact fun a w st => mid_intro y56 h43 (St.cut [] ⟨rfl, trivial⟩ (by decide) rfl st)
   replace h42 := ite_f b54 h42
   refine RL.skip rfl rfl ?_
   refine RL.skip rfl rfl ?_
   refine RL.skip rfl rfl ?_
   refine RL.pickF rfl rfl rfl rfl ?_
   refine RL.asg rfl rfl rfl ?_
   refine RL.fin ?_
   cases h42
   exact fun a w st => mid_intro false h43 (St.cut [] ⟨rfl, trivial⟩ (by decide) rfl st)
  replace h42 := ite_f b50 h42
  refine RL.skip rfl rfl ?_
  refine RL.skip rfl rfl ?_
  refine RL.skip rfl rfl ?_
  refine RL.pickF rfl rfl rfl rfl ?_
  refine RL.mv rfl rfl rfl ?_
  refine RL.skip rfl rfl ?_
  refine RL.skip rfl rfl ?_
  refine RL.skip rfl rfl ?_
  refine RL.pickF rfl rfl rfl rfl ?_
  refine RL.asg rfl rfl rfl ?_
  refine RL.fin ?_
  cases h42
  exact fun a w st => mid_intro false h43 (St.cut [] ⟨rfl, trivial⟩ (by decide) rfl st)
 rintro x39 h58
 have h59 := h44 _ h58
 try dsimp only at h59
 refine GL.weak (env' := [(0, .bool x39)]) (L' := []) (fun _ _ st => st) ?_
 have h59 := Option.some.inj h59
 subst h59
 exact GL.ret (Gx.ret (v := .bool x39) (res1 rfl rfl) (fun a w st => st.toPostV))

set_option maxHeartbeats 4000000 in
theorem seats_Check_c (S : Hp) (w : World) (hS : S.sub w) (v0 : Value) (x0 : (List Int)) (k0 : ((TR.sl TR.int)).vrep S v0 x0) (x1 : Int) (res : Int) (hm : seats_Check_m x0 x1 = some res) : Calls Try.prog 116 #[v0, .int .i64 x1] w (PostC w (.int .i64 res)) := by
 refine calls_enter 40 Try.func116 Try.ntmps116 rfl S true [(0, v0), (1, .int .i64 x1)] [imm (TR.sl TR.int) v0 x0] rfl ⟨rfl, ⟨rfl, trivial⟩⟩ hS ⟨k0, trivial⟩ ?_
 unfold seats_Check_m at hm
 refine GL.seq ?_
 refine GL.region ?_
 refine RL.asg rfl rfl rfl ?_
 refine RL.finG ?_
 refine GL.seq ?_
 refine GL.seq ?_
 obtain ⟨y6, K7, h8, h9, h10, h11, h12⟩ := bindR_K hm
 refine GL.join (ι := Bool) (fun (p : Bool) => [(0, v0), (1, .int .i64 x1), (15, .bool p)]) (fun (p : Bool) => [imm (TR.sl TR.int) v0 x0]) (fun (p : Bool) => K7 (.nx p)) ?_ ?_
 ·skip
  refine GL.region ?_
  refine RL.mv rfl rfl rfl ?_
  refine RL.lenS 0 Try.underlying24 rfl rfl rfl rfl SlOf.imm ?_
  refine RL.binI (v := .bool (decide (((x0).length : Int) < (1 : Int)))) rfl rfl rfl rfl rfl ?_
  refine RL.mv rfl rfl rfl ?_
  refine RL.split (t := 11) rfl (fun b13 => ?_) (fun b13 => ?_)
  ·replace h8 := ite_t b13 h8
   refine RL.skip rfl rfl ?_
   refine RL.skip rfl rfl ?_
   refine RL.skip rfl rfl ?_
   refine RL.pickT rfl rfl rfl rfl ?_
   refine RL.fin ?_
   cases h8
   exact fun a w st => mid_intro true h9 (St.cut [0] ⟨rfl, rfl, rfl, trivial⟩ (by decide) rfl st)
  replace h8 := ite_f b13 h8
  refine RL.mv rfl rfl rfl ?_
  refine RL.lenS 0 Try.underlying24 rfl rfl rfl rfl SlOf.imm ?_
  refine RL.binI (v := .bool (decide (((x0).length : Int) > (8 : Int)))) rfl rfl rfl rfl rfl ?_
  refine RL.pickF rfl rfl rfl rfl ?_
  refine RL.fin ?_
  cases h8
  exact fun a w st => mid_intro (decide (((x0).length : Int) > (8 : Int))) h9 (St.cut [0] ⟨rfl, rfl, rfl, trivial⟩ (by decide) rfl st)
 rintro x5 h14
 have h15 := h10 _ h14
 try dsimp only at h15
 refine GL.weak (env' := [(0, v0), (1, .int .i64 x1), (15, .bool x5)]) (L' := [imm (TR.sl TR.int) v0 x0]) (fun _ _ st => st) ?_
 refine GL.cond rfl (fun b16 => ?_) (fun b16 => ?_)
 ·replace h15 := ite_t b16 h15
  refine GL.seq ?_
  refine GL.region ?_
  refine RL.asg rfl rfl rfl ?_
  refine RL.finG ?_
  have h15 := Option.some.inj h15
  subst h15
  exact GL.ret (Gx.ret (v := .int .i64 (2 : Int)) (res1 rfl rfl) (fun a w st => st.toPostC rfl))
 replace h15 := ite_f b16 h15
 refine GL.skip ?_
 refine GL.seq ?_
 refine GL.region ?_
 refine RL.asg rfl rfl rfl ?_
 refine RL.finG ?_
 refine GL.seq ?_
 refine GL.seq ?_
 refine GL.region ?_
 refine RL.mv rfl rfl rfl ?_
 refine RL.lenS 0 Try.underlying24 rfl rfl rfl rfl SlOf.imm ?_
 refine RL.mv rfl rfl rfl ?_
 refine RL.finG ?_
 refine GL.open_ 0 rfl (fun S h => len_imm S h) (fun n36 => ?_)
 obtain ⟨y37, K38, h39, h40, h41, h42, h43⟩ := bindR_K h15
 refine GL.join (ι := Int) (fun (p : Int) => [(1, .int .i64 x1), (5, .int .i64 p)]) (fun (p : Int) => []) (fun (p : Int) => K38 (.nx p)) ?_ ?_
 ·refine GL.block ?_
  refine GL.loop (ι := Nat × (List Int) × Int) (fun (p : Nat × (List Int) × Int) => [(1, .int .i64 x1), (5, .int .i64 p.2.2), (16, v0), (17, .int .i64 ((x0).length : Int)), (18, .int .i64 (p.1 : Int))]) (fun (p : Nat × (List Int) × Int) => [imm (TR.sl TR.int) v0 x0]) (fun (p : Nat × (List Int) × Int) => p.1 + p.2.1.length = (x0).length ∧ List.drop p.1 x0 = p.2.1 ∧ rangeL seats_Check_b1 p.2.1 p.1 p.2.2 = some y37) (fun (p : Nat × (List Int) × Int) => p.2.1.length) (0, x0, (0 : Int)) ⟨by simp, by simp, h39⟩ (fun a w st => St.cut [0] ⟨rfl, rfl, rfl, rfl, rfl, trivial⟩ (by decide) rfl st) ?_
  rintro ⟨i44, r45, x17⟩ ⟨h50, h51, h49⟩
  try dsimp only at h50 h51 h49
  refine GL.weak (env' := [(1, .int .i64 x1), (5, .int .i64 x17), (16, v0), (17, .int .i64 ((x0).length : Int)), (18, .int .i64 (i44 : Int))]) (L' := [imm (TR.sl TR.int) v0 x0]) (fun _ _ st => st) ?_
  refine GL.seq ?_
  refine GL.region ?_
  refine RL.binI (v := .bool (decide ((i44 : Int) < ((x0).length : Int)))) rfl rfl rfl rfl rfl ?_
  refine RL.finG ?_
  refine GL.seq ?_
  refine GL.cond rfl (fun b52 => ?_) (fun b52 => ?_)
  ·have h53 : i44 < (x0).length := by have := of_decide_eq_true b52; omega
   obtain ⟨y54, r56, hr, e55, h57⟩ := drop_cons h51 rfl h53
   subst hr
   obtain ⟨z46, h47, h48⟩ := rangeL_some h49
   unfold seats_Check_b1 at h47
   try dsimp only at h47
   refine GL.skip ?_
   refine GL.seq ?_
   refine GL.block ?_
   refine GL.seq ?_
   refine GL.region ?_
   refine RL.idxS (sz := 1) 0 Try.underlying24 Try_ln3 rfl rfl rfl rfl rfl SlOf.imm (by omega) (by omega) ?_
   refine RL.ldSx (i := i44) (e' := y54) 0 Ex.ik Try_ln3 rfl rfl rfl rfl SlOf.imm e55 Part.self ?_
   refine RL.asg rfl rfl rfl ?_
   refine RL.finG ?_
   refine GL.seq ?_
   refine GL.seq ?_
   obtain ⟨y61, K62, h63, h64, h65, h66, h67⟩ := bindF_K h47
   refine GL.join (ι := Bool) (fun (p : Bool) => [(1, .int .i64 x1), (5, .int .i64 x17), (7, .int .i64 y54), (16, v0), (17, .int .i64 ((x0).length : Int)), (18, .int .i64 (i44 : Int)), (27, .bool p)]) (fun (p : Bool) => [imm (TR.sl TR.int) v0 x0]) (fun (p : Bool) => K62 (.nx p)) ?_ ?_
   ·skip
    refine GL.region ?_
    refine RL.mv rfl rfl rfl ?_
    refine RL.binI (v := .bool (decide (y54 < (0 : Int)))) rfl rfl rfl rfl rfl ?_
    refine RL.mv rfl rfl rfl ?_
    refine RL.split (t := 24) rfl (fun b68 => ?_) (fun b68 => ?_)
    ·replace h63 := ite_t b68 h63
     refine RL.skip rfl rfl ?_
     refine RL.skip rfl rfl ?_
     refine RL.pickT rfl rfl rfl rfl ?_
     refine RL.fin ?_
     cases h63
     exact fun a w st => mid_intro true h64 (St.cut [0] ⟨rfl, rfl, rfl, rfl, rfl, rfl, rfl, trivial⟩ (by decide) rfl st)
    replace h63 := ite_f b68 h63
    refine RL.mv rfl rfl rfl ?_
    refine RL.binI (v := .bool (decide (y54 > (1000000 : Int)))) rfl rfl rfl rfl rfl ?_
    refine RL.pickF rfl rfl rfl rfl ?_
    refine RL.fin ?_
    cases h63
    exact fun a w st => mid_intro (decide (y54 > (1000000 : Int))) h64 (St.cut [0] ⟨rfl, rfl, rfl, rfl, rfl, rfl, rfl, trivial⟩ (by decide) rfl st)
   rintro x60 h69
   have h70 := h65 _ h69
   try dsimp only at h70
   refine GL.weak (env' := [(1, .int .i64 x1), (5, .int .i64 x17), (7, .int .i64 y54), (16, v0), (17, .int .i64 ((x0).length : Int)), (18, .int .i64 (i44 : Int)), (27, .bool x60)]) (L' := [imm (TR.sl TR.int) v0 x0]) (fun _ _ st => st) ?_
   refine GL.cond rfl (fun b71 => ?_) (fun b71 => ?_)
   ·replace h70 := ite_t b71 h70
    refine GL.seq ?_
    refine GL.region ?_
    refine RL.asg rfl rfl rfl ?_
    refine RL.finG ?_
    cases h70
    replace h48 : some (Fl.rt _) = some y37 := h48
    cases h48
    have hh := h42 _ h40
    subst hh
    exact GL.ret (Gx.ret (v := .int .i64 (1 : Int)) (res1 rfl rfl) (fun a w st => st.toPostC rfl))
   replace h70 := ite_f b71 h70
   refine GL.skip ?_
   refine GL.region ?_
   refine RL.mv rfl rfl rfl ?_
   refine RL.mv rfl rfl rfl ?_
   refine RL.binI (v := .int .i64 (wadd x17 y54)) rfl rfl rfl rfl rfl ?_
   refine RL.asg rfl rfl rfl ?_
   refine RL.finG ?_
   refine GL.nilB ?_
   refine GL.region ?_
   refine RL.binI (v := .int .i64 ((i44 + 1 : Nat) : Int)) rfl rfl rfl rfl (binI_succ i44 (by omega)) ?_
   refine RL.mv rfl rfl rfl ?_
   refine RL.fin ?_
   cases h70
   exact fun a w st => lop_intro (i44 + 1, r56, wadd x17 y54) ⟨by show i44 + 1 + r56.length = (x0).length; simp only [List.length_cons] at h50; omega, h57, h48⟩ (by simp) (St.cut [0] ⟨rfl, rfl, rfl, rfl, rfl, trivial⟩ (by decide) rfl st)
  have h53 : ¬ i44 < (x0).length := by have := of_decide_eq_false b52; omega
  obtain rfl : r45 = [] := by rw [← h51]; exact List.drop_of_length_le (by omega)
  replace h49 : some (Fl.nx _) = some y37 := h49
  cases h49
  exact GL.exit (fun a w st => mid_intro x17 h40 (St.cut [] ⟨rfl, rfl, trivial⟩ (by decide) rfl st))
 rintro x17 h72
 have h73 := h41 _ h72
 try dsimp only at h73
 refine GL.weak (env' := [(1, .int .i64 x1), (5, .int .i64 x17)]) (L' := []) (fun _ _ st => st) ?_
 refine GL.seq ?_
 refine GL.seq ?_
 refine GL.region ?_
 refine RL.mv rfl rfl rfl ?_
 refine RL.binI (v := .bool (x17 == (0 : Int))) rfl rfl rfl rfl rfl ?_
 refine RL.finG ?_
 refine GL.cond rfl (fun b74 => ?_) (fun b74 => ?_)
 ·replace h73 := ite_t b74 h73
  refine GL.seq ?_
  refine GL.region ?_
  refine RL.asg rfl rfl rfl ?_
  refine RL.finG ?_
  have h73 := Option.some.inj h73
  subst h73
  exact GL.ret (Gx.ret (v := .int .i64 (4 : Int)) (res1 rfl rfl) (fun a w st => st.toPostC rfl))
 replace h73 := ite_f b74 h73
 refine GL.skip ?_
 refine GL.seq ?_
 refine GL.seq ?_
 obtain ⟨y78, K79, h80, h81, h82, h83, h84⟩ := bindR_K h73
 refine GL.join (ι := Bool) (fun (p : Bool) => [(39, .bool p)]) (fun (p : Bool) => []) (fun (p : Bool) => K79 (.nx p)) ?_ ?_
 ·skip
  refine GL.region ?_
  refine RL.mv rfl rfl rfl ?_
  refine RL.binI (v := .bool (decide (x1 < (0 : Int)))) rfl rfl rfl rfl rfl ?_
  refine RL.mv rfl rfl rfl ?_
  refine RL.split (t := 36) rfl (fun b85 => ?_) (fun b85 => ?_)
  ·replace h80 := ite_t b85 h80
   refine RL.skip rfl rfl ?_
   refine RL.skip rfl rfl ?_
   refine RL.pickT rfl rfl rfl rfl ?_
   refine RL.fin ?_
   cases h80
   exact fun a w st => mid_intro true h81 (St.cut [] ⟨rfl, trivial⟩ (by decide) rfl st)
  replace h80 := ite_f b85 h80
  refine RL.mv rfl rfl rfl ?_
  refine RL.binI (v := .bool (decide (x1 > (100 : Int)))) rfl rfl rfl rfl rfl ?_
  refine RL.pickF rfl rfl rfl rfl ?_
  refine RL.fin ?_
  cases h80
  exact fun a w st => mid_intro (decide (x1 > (100 : Int))) h81 (St.cut [] ⟨rfl, trivial⟩ (by decide) rfl st)
 rintro x77 h86
 have h87 := h82 _ h86
 try dsimp only at h87
 refine GL.weak (env' := [(39, .bool x77)]) (L' := []) (fun _ _ st => st) ?_
 refine GL.cond rfl (fun b88 => ?_) (fun b88 => ?_)
 ·replace h87 := ite_t b88 h87
  refine GL.seq ?_
  refine GL.region ?_
  refine RL.asg rfl rfl rfl ?_
  refine RL.finG ?_
  have h87 := Option.some.inj h87
  subst h87
  exact GL.ret (Gx.ret (v := .int .i64 (1 : Int)) (res1 rfl rfl) (fun a w st => st.toPostC rfl))
 replace h87 := ite_f b88 h87
 refine GL.skip ?_
 refine GL.seq ?_
 refine GL.region ?_
 refine RL.asg rfl rfl rfl ?_
 refine RL.finG ?_
 have h87 := Option.some.inj h87
 subst h87
 exact GL.ret (Gx.ret (v := .int .i64 (0 : Int)) (res1 rfl rfl) (fun a w st => st.toPostC rfl))

set_option maxHeartbeats 4000000 in
theorem seats_divided_c (S : Hp) (w : World) (hS : S.sub w) (v0 : Value) (x0 : (List Int)) (k0 : ((TR.sl TR.int)).vrep S v0 x0) (x1 : Int) (x2 : Int) (res : (List Int)) (hm : seats_divided_m x0 x1 x2 = some res) : Calls Try.prog 117 #[v0, .int .i64 x1, .int .i64 x2] w (Post w S (fun (o : Value) => o) (fun (o : Value) => [own 3 TR.int o res])) := by
 refine calls_enter 56 Try.func117 Try.ntmps117 rfl S false [(0, v0), (1, .int .i64 x1), (2, .int .i64 x2)] [imm (TR.sl TR.int) v0 x0] rfl ⟨rfl, ⟨rfl, ⟨rfl, trivial⟩⟩⟩ hS ⟨k0, trivial⟩ ?_
 unfold seats_divided_m at hm
 refine GL.seq ?_
 refine GL.region ?_
 refine RL.asg rfl rfl rfl ?_
 refine RL.finG ?_
 refine GL.seq ?_
 refine GL.region ?_
 refine RL.mv rfl rfl rfl ?_
 refine RL.lenS 0 Try.underlying24 rfl rfl rfl rfl SlOf.imm ?_
 obtain ⟨y7, e8, hm⟩ := bind_some hm
 replace e8 := chk_some e8
 refine RL.mkS (t := TR.int) (z := (0 : Int)) Try.underlying24 Try_lo3 (fun S => rfl) rfl rfl rfl rfl e8.1 e8.2 ?_
 intro v9
 refine RL.asg rfl rfl rfl ?_
 refine RL.finG ?_
 refine GL.seq ?_
 refine GL.seq ?_
 refine GL.region ?_
 refine RL.mv rfl rfl rfl ?_
 refine RL.mv rfl rfl rfl ?_
 refine RL.finG ?_
 obtain ⟨y138, e139, hm⟩ := bind_some hm
 replace e139 := chk_some e139
 obtain ⟨y140, K141, h142, h143, h144, h145, h146⟩ := bindR_K hm
 refine GL.join (ι := (List Int)) (fun (p : (List Int)) => [(7, v9)]) (fun (p : (List Int)) => [own 3 TR.int v9 p]) (fun (p : (List Int)) => K141 (.nx p)) ?_ ?_
 ·refine GL.block ?_
  refine GL.loop (ι := Nat × Nat × (List Int)) (fun (p : Nat × Nat × (List Int)) => [(0, v0), (2, .int .i64 x2), (7, v9), (14, .int .i64 x1), (15, .int .i64 (p.1 : Int))]) (fun (p : Nat × Nat × (List Int)) => [imm (TR.sl TR.int) v0 x0, own 3 TR.int v9 p.2.2]) (fun (p : Nat × Nat × (List Int)) => p.1 + p.2.1 = (x1).toNat ∧ rangeN (seats_divided_b1 x0 x2) p.2.1 p.1 p.2.2 = some y140) (fun (p : Nat × Nat × (List Int)) => p.2.1) (0, (x1).toNat, (List.replicate (((x0).length : Int)).toNat (0 : Int))) ⟨by simp, h142⟩ (fun a w st => St.cut [0, 1] ⟨rfl, rfl, rfl, rfl, rfl, trivial⟩ (by decide) rfl st) ?_
  rintro ⟨i147, r148, l73⟩ ⟨h153, h152⟩
  try dsimp only at h153 h152
  refine GL.weak (env' := [(0, v0), (2, .int .i64 x2), (7, v9), (14, .int .i64 x1), (15, .int .i64 (i147 : Int))]) (L' := [imm (TR.sl TR.int) v0 x0, own 3 TR.int v9 l73]) (fun _ _ st => st) ?_
  refine GL.seq ?_
  refine GL.region ?_
  refine RL.binI (v := .bool (decide ((i147 : Int) < x1))) rfl rfl rfl rfl rfl ?_
  refine RL.finG ?_
  refine GL.seq ?_
  refine GL.cond rfl (fun b155 => ?_) (fun b155 => ?_)
  ·have h156 : i147 < (x1).toNat := by have := of_decide_eq_true b155; omega
   obtain ⟨r157, hr⟩ : ∃ m, r148 = m + 1 := ⟨r148 - 1, by omega⟩
   subst hr
   obtain ⟨z149, h150, h151⟩ := rangeN_some h152
   unfold seats_divided_b1 at h150
   try dsimp only at h150
   refine GL.skip ?_
   refine GL.seq ?_
   refine GL.block ?_
   refine GL.seq ?_
   refine GL.region ?_
   refine RL.asg rfl rfl rfl ?_
   refine RL.finG ?_
   refine GL.seq ?_
   refine GL.seq ?_
   refine GL.region ?_
   refine RL.mv rfl rfl rfl ?_
   refine RL.lenS 0 Try.underlying24 rfl rfl rfl rfl SlOf.imm ?_
   refine RL.mv rfl rfl rfl ?_
   refine RL.finG ?_
   refine GL.open_ 0 rfl (fun S h => len_imm S h) (fun n176 => ?_)
   obtain ⟨y177, K178, h179, h180, h181, h182, h183⟩ := bindF_K h150
   refine GL.join (ι := Int) (fun (p : Int) => [(0, v0), (2, .int .i64 x2), (7, v9), (8, .int .i64 p), (14, .int .i64 x1), (15, .int .i64 (i147 : Int))]) (fun (p : Int) => [imm (TR.sl TR.int) v0 x0, own 3 TR.int v9 l73]) (fun (p : Int) => K178 (.nx p)) ?_ ?_
   ·refine GL.block ?_
    refine GL.loop (ι := Nat × (List Int) × Int) (fun (p : Nat × (List Int) × Int) => [(0, v0), (2, .int .i64 x2), (7, v9), (8, .int .i64 p.2.2), (14, .int .i64 x1), (15, .int .i64 (i147 : Int)), (17, v0), (18, .int .i64 ((x0).length : Int)), (19, .int .i64 (p.1 : Int))]) (fun (p : Nat × (List Int) × Int) => [imm (TR.sl TR.int) v0 x0, own 3 TR.int v9 l73]) (fun (p : Nat × (List Int) × Int) => p.1 + p.2.1.length = (x0).length ∧ List.drop p.1 x0 = p.2.1 ∧ rangeL (seats_divided_b2 l73 x0 x2) p.2.1 p.1 p.2.2 = some y177) (fun (p : Nat × (List Int) × Int) => p.2.1.length) (0, x0, (0 : Int)) ⟨by simp, by simp, h179⟩ (fun a w st => St.cut [0, 1] ⟨rfl, rfl, rfl, rfl, rfl, rfl, rfl, rfl, rfl, trivial⟩ (by decide) rfl st) ?_
    rintro ⟨i184, r185, x158⟩ ⟨h190, h191, h189⟩
    try dsimp only at h190 h191 h189
    refine GL.weak (env' := [(0, v0), (2, .int .i64 x2), (7, v9), (8, .int .i64 x158), (14, .int .i64 x1), (15, .int .i64 (i147 : Int)), (17, v0), (18, .int .i64 ((x0).length : Int)), (19, .int .i64 (i184 : Int))]) (L' := [imm (TR.sl TR.int) v0 x0, own 3 TR.int v9 l73]) (fun _ _ st => st) ?_
    refine GL.seq ?_
    refine GL.region ?_
    refine RL.binI (v := .bool (decide ((i184 : Int) < ((x0).length : Int)))) rfl rfl rfl rfl rfl ?_
    refine RL.finG ?_
    refine GL.seq ?_
    refine GL.cond rfl (fun b192 => ?_) (fun b192 => ?_)
    ·have h193 : i184 < (x0).length := by have := of_decide_eq_true b192; omega
     obtain ⟨y194, r196, hr, e195, h197⟩ := drop_cons h191 rfl h193
     subst hr
     obtain ⟨z186, h187, h188⟩ := rangeL_some h189
     unfold seats_divided_b2 at h187
     try dsimp only at h187
     refine GL.skip ?_
     refine GL.seq ?_
     refine GL.block ?_
     refine GL.seq ?_
     refine GL.region ?_
     refine RL.mv rfl rfl rfl ?_
     refine RL.idxS (sz := 1) 0 Try.underlying24 Try_ln3 rfl rfl rfl rfl rfl SlOf.imm (by omega) (by omega) ?_
     refine RL.ldSx (i := i184) (e' := y194) 0 Ex.ik Try_ln3 rfl rfl rfl rfl SlOf.imm e195 Part.self ?_
     refine RL.asg rfl rfl rfl ?_
     refine RL.asg rfl rfl rfl ?_
     refine RL.finG ?_
     refine GL.seq ?_
     refine GL.regionQ rfl rfl (by kernel_rfl) ?_
     refine RL.mv rfl rfl rfl ?_
     refine RL.mv rfl rfl rfl ?_
     refine RL.mv rfl rfl rfl ?_
     refine RL.mv rfl rfl rfl ?_
     obtain ⟨y204, e205, h187⟩ := bind_some h187
     refine RL.idxS (sz := 1) 1 Try.underlying24 Try_ln3 rfl rfl rfl rfl rfl SlOf.own (idx_some e205).1 (idx_some e205).2.1 ?_
     refine RL.ldSx (i := (x158).toNat) (e' := y204) 1 Ex.ik Try_ln3 rfl rfl rfl rfl SlOf.own (idx_some e205).2.2 Part.self ?_
     refine RL.binI (v := .int .i64 (wmul x2 y204)) rfl rfl rfl rfl rfl ?_
     refine RL.binI (v := .int .i64 (wadd (wmul x2 y204) (1 : Int))) rfl rfl rfl rfl rfl ?_
     refine RL.binI (v := .int .i64 (wmul y194 (wadd (wmul x2 y204) (1 : Int)))) rfl rfl rfl rfl rfl ?_
     refine RL.mv rfl rfl rfl ?_
     refine RL.mv rfl rfl rfl ?_
     obtain ⟨y206, e207, h187⟩ := bind_some h187
     refine RL.idxS (sz := 1) 0 Try.underlying24 Try_ln3 rfl rfl rfl rfl rfl SlOf.imm (idx_some e207).1 (idx_some e207).2.1 ?_
     refine RL.ldSx (i := (x158).toNat) (e' := y206) 0 Ex.ik Try_ln3 rfl rfl rfl rfl SlOf.imm (idx_some e207).2.2 Part.self ?_
     refine RL.mv rfl rfl rfl ?_
     refine RL.mv rfl rfl rfl ?_
     refine RL.mv rfl rfl rfl ?_
     obtain ⟨y208, e209, h187⟩ := bind_some h187
     refine RL.idxS (sz := 1) 1 Try.underlying24 Try_ln3 rfl rfl rfl rfl rfl SlOf.own (idx_some e209).1 (idx_some e209).2.1 ?_
     refine RL.ldSx (i := i184) (e' := y208) 1 Ex.ik Try_ln3 rfl rfl rfl rfl SlOf.own (idx_some e209).2.2 Part.self ?_
     refine RL.binI (v := .int .i64 (wmul x2 y208)) rfl rfl rfl rfl rfl ?_
     refine RL.binI (v := .int .i64 (wadd (wmul x2 y208) (1 : Int))) rfl rfl rfl rfl rfl ?_
     refine RL.binI (v := .int .i64 (wmul y206 (wadd (wmul x2 y208) (1 : Int)))) rfl rfl rfl rfl rfl ?_
     refine RL.binI (v := .bool (decide ((wmul y194 (wadd (wmul x2 y204) (1 : Int))) > (wmul y206 (wadd (wmul x2 y208) (1 : Int)))))) rfl rfl rfl rfl rfl ?_
     refine RL.finQG ?_
     refine GL.weak (env' := [(0, v0), (2, .int .i64 x2), (7, v9), (8, .int .i64 x158), (9, .int .i64 (i184 : Int)), (14, .int .i64 x1), (15, .int .i64 (i147 : Int)), (17, v0), (18, .int .i64 ((x0).length : Int)), (19, .int .i64 (i184 : Int)), (45, .bool (decide ((wmul y194 (wadd (wmul x2 y204) (1 : Int))) > (wmul y206 (wadd (wmul x2 y208) (1 : Int))))))]) (L' := [imm (TR.sl TR.int) v0 x0, own 3 TR.int v9 l73]) (fun a w st => St.cut [0, 1] ⟨rfl, rfl, rfl, rfl, rfl, rfl, rfl, rfl, rfl, rfl, rfl, trivial⟩ (by decide) rfl st) ?_
     refine GL.cond rfl (fun b210 => ?_) (fun b210 => ?_)
     ·replace h187 := ite_t b210 h187
      refine GL.region ?_
      refine RL.mv rfl rfl rfl ?_
      refine RL.asg rfl rfl rfl ?_
      refine RL.finG ?_
      refine GL.nilB ?_
      refine GL.region ?_
      refine RL.binI (v := .int .i64 ((i184 + 1 : Nat) : Int)) rfl rfl rfl rfl (binI_succ i184 (by omega)) ?_
      refine RL.mv rfl rfl rfl ?_
      refine RL.fin ?_
      cases h187
      exact fun a w st => lop_intro (i184 + 1, r196, (i184 : Int)) ⟨by show i184 + 1 + r196.length = (x0).length; simp only [List.length_cons] at h190; omega, h197, h188⟩ (by simp) (St.cut [0, 1] ⟨rfl, rfl, rfl, rfl, rfl, rfl, rfl, rfl, rfl, trivial⟩ (by decide) rfl st)
     replace h187 := ite_f b210 h187
     refine GL.skip ?_
     refine GL.nilB ?_
     refine GL.region ?_
     refine RL.binI (v := .int .i64 ((i184 + 1 : Nat) : Int)) rfl rfl rfl rfl (binI_succ i184 (by omega)) ?_
     refine RL.mv rfl rfl rfl ?_
     refine RL.fin ?_
     cases h187
     exact fun a w st => lop_intro (i184 + 1, r196, x158) ⟨by show i184 + 1 + r196.length = (x0).length; simp only [List.length_cons] at h190; omega, h197, h188⟩ (by simp) (St.cut [0, 1] ⟨rfl, rfl, rfl, rfl, rfl, rfl, rfl, rfl, rfl, trivial⟩ (by decide) rfl st)
    have h193 : ¬ i184 < (x0).length := by have := of_decide_eq_false b192; omega
    obtain rfl : r185 = [] := by rw [← h191]; exact List.drop_of_length_le (by omega)
    replace h189 : some (Fl.nx _) = some y177 := h189
    cases h189
    exact GL.exit (fun a w st => mid_intro x158 h180 (St.cut [0, 1] ⟨rfl, rfl, rfl, rfl, rfl, rfl, trivial⟩ (by decide) rfl st))
   rintro x158 h211
   have h212 := h181 _ h211
   try dsimp only at h212
   refine GL.weak (env' := [(0, v0), (2, .int .i64 x2), (7, v9), (8, .int .i64 x158), (14, .int .i64 x1), (15, .int .i64 (i147 : Int))]) (L' := [imm (TR.sl TR.int) v0 x0, own 3 TR.int v9 l73]) (fun _ _ st => st) ?_
   refine GL.region ?_
   refine RL.mv rfl rfl rfl ?_
   refine RL.mv rfl rfl rfl ?_
   obtain ⟨y217, e218, h212⟩ := bind_some h212
   refine RL.idxS (sz := 1) 1 Try.underlying24 Try_ln3 rfl rfl rfl rfl rfl SlOf.own (idx_some e218).1 (idx_some e218).2.1 ?_
   refine RL.ldSx (i := (x158).toNat) (e' := y217) 1 Ex.ik Try_ln3 rfl rfl rfl rfl SlOf.own (idx_some e218).2.2 Part.self ?_
   refine RL.binI (v := .int .i64 (wadd y217 (1 : Int))) rfl rfl rfl rfl rfl ?_
   obtain ⟨y219, e220, h212⟩ := bind_some h212
   refine RL.idxS (sz := 1) 1 Try.underlying24 Try_ln3 rfl rfl rfl rfl rfl SlOf.own (idx_some e220).1 (idx_some e220).2.1 ?_
   refine RL.stS (i := (x158).toNat) (e' := wadd y217 (1 : Int)) (e1 := wadd y217 (1 : Int)) (r := TR.int) 1 Try_ln3 rfl rfl rfl rfl VR.int rfl (idx_some e220).2.2 Upd.self ?_
   refine RL.finG ?_
   refine GL.nilB ?_
   refine GL.region ?_
   refine RL.binI (v := .int .i64 ((i147 + 1 : Nat) : Int)) rfl rfl rfl rfl (binI_succ i147 (by omega)) ?_
   refine RL.mv rfl rfl rfl ?_
   refine RL.fin ?_
   cases h212
   exact fun a w st => lop_intro (i147 + 1, r157, (List.set l73 ((x158).toNat) (wadd y217 (1 : Int)))) ⟨by show i147 + 1 + r157 = (x1).toNat; omega, h151⟩ (by simp) (St.cut [0, 1] ⟨rfl, rfl, rfl, rfl, rfl, trivial⟩ (by decide) rfl st)
  have h156 : ¬ i147 < (x1).toNat := by have := of_decide_eq_false b155; omega
  obtain rfl : r148 = 0 := by omega
  replace h152 : some (Fl.nx _) = some y140 := h152
  cases h152
  exact GL.exit (fun a w st => mid_intro l73 h143 (St.cut [1] ⟨rfl, trivial⟩ (by decide) rfl st))
 rintro l73 h221
 have h222 := h144 _ h221
 try dsimp only at h222
 refine GL.weak (env' := [(7, v9)]) (L' := [own 3 TR.int v9 l73]) (fun _ _ st => st) ?_
 refine GL.seq ?_
 refine GL.region ?_
 refine RL.mv rfl rfl rfl ?_
 refine RL.asg rfl rfl rfl ?_
 refine RL.finG ?_
 have h222 := Option.some.inj h222
 subst h222
 exact GL.ret (Gx.ret (v := v9) (res1 rfl rfl) (fun a w st => (st.pick [0] (by decide) rfl).toPost v9))

set_option maxHeartbeats 4000000 in
theorem seats_Share_c (S : Hp) (w : World) (hS : S.sub w) (x0 : Int) (v1 : Value) (x1 : (List Int)) (k1 : ((TR.sl TR.int)).vrep S v1 x1) (x2 : Int) (res : (List Int) × Int) (hm : seats_Share_m x0 x1 x2 = some res) : Calls Try.prog 61 #[.int .i64 x0, v1, .int .i64 x2] w (Post w S (fun (o : Value) => .tuple #[o, .int .i64 res.2]) (fun (o : Value) => [own 3 TR.int o res.1])) := by
 refine calls_enter 119 Try.func61 Try.ntmps61 rfl S false [(0, .int .i64 x0), (1, v1), (2, .int .i64 x2)] [imm (TR.sl TR.int) v1 x1] rfl ⟨rfl, ⟨rfl, ⟨rfl, trivial⟩⟩⟩ hS ⟨k1, trivial⟩ ?_
 unfold seats_Share_m at hm
 refine GL.seq ?_
 refine GL.region ?_
 refine RL.asg rfl rfl rfl ?_
 refine RL.asg rfl rfl rfl ?_
 refine RL.finG ?_
 refine GL.seq ?_
 refine GL.seq ?_
 obtain ⟨y7, K8, h9, h10, h11, h12, h13⟩ := bindR_K hm
 refine GL.join (ι := Bool) (fun (p : Bool) => [(0, .int .i64 x0), (1, v1), (2, .int .i64 x2), (24, .bool p)]) (fun (p : Bool) => [imm (TR.sl TR.int) v1 x1]) (fun (p : Bool) => K8 (.nx p)) ?_ ?_
 ·skip
  refine GL.region ?_
  refine RL.mv rfl rfl rfl ?_
  refine RL.binI (v := .bool (decide (x0 < (1 : Int)))) rfl rfl rfl rfl rfl ?_
  refine RL.mv rfl rfl rfl ?_
  refine RL.split (t := 21) rfl (fun b14 => ?_) (fun b14 => ?_)
  ·replace h9 := ite_t b14 h9
   refine RL.skip rfl rfl ?_
   refine RL.skip rfl rfl ?_
   refine RL.pickT rfl rfl rfl rfl ?_
   refine RL.fin ?_
   cases h9
   exact fun a w st => mid_intro true h10 (St.cut [0] ⟨rfl, rfl, rfl, rfl, trivial⟩ (by decide) rfl st)
  replace h9 := ite_f b14 h9
  refine RL.mv rfl rfl rfl ?_
  refine RL.binI (v := .bool (decide (x0 > (3 : Int)))) rfl rfl rfl rfl rfl ?_
  refine RL.pickF rfl rfl rfl rfl ?_
  refine RL.fin ?_
  cases h9
  exact fun a w st => mid_intro (decide (x0 > (3 : Int))) h10 (St.cut [0] ⟨rfl, rfl, rfl, rfl, trivial⟩ (by decide) rfl st)
 rintro x6 h15
 have h16 := h11 _ h15
 try dsimp only at h16
 refine GL.weak (env' := [(0, .int .i64 x0), (1, v1), (2, .int .i64 x2), (24, .bool x6)]) (L' := [imm (TR.sl TR.int) v1 x1]) (fun _ _ st => st) ?_
 refine GL.cond rfl (fun b17 => ?_) (fun b17 => ?_)
 ·replace h16 := ite_t b17 h16
  refine GL.seq ?_
  refine GL.region ?_
  refine RL.asg rfl rfl rfl ?_
  refine RL.asg rfl rfl rfl ?_
  refine RL.finG ?_
  refine GL.weak (fun a w st => st.nilOwn 3 TR.int) ?_
  have h16 := Option.some.inj h16
  subst h16
  exact GL.ret (Gx.ret (v := .tuple #[Value.slice none 0 0, .int .i64 (1 : Int)]) (res2 rfl rfl rfl) (fun a w st => (st.pick [1] (by decide) rfl).toPost (Value.slice none 0 0)))
 replace h16 := ite_f b17 h16
 refine GL.skip ?_
 refine GL.seq ?_
 refine GL.seq ?_
 refine GL.region ?_
 refine RL.mv rfl rfl rfl ?_
 refine RL.mv rfl rfl rfl ?_
 obtain ⟨y20, e21, h16⟩ := bind_some h16
 refine RL.callC (v := .int .i64 y20) (vs := [v1, .int .i64 x2]) Try_fit116 rfl rfl rfl rfl (fun U w hU hW hL => seats_Check_c U w hU _ _ (hL 0 _ _ rfl Seen.imm) x2 _ e21) ?_
 refine RL.asg rfl rfl rfl ?_
 refine RL.finG ?_
 refine GL.seq ?_
 refine GL.region ?_
 refine RL.mv rfl rfl rfl ?_
 refine RL.binI (v := .bool (y20 != (0 : Int))) rfl rfl rfl rfl rfl ?_
 refine RL.finG ?_
 refine GL.cond rfl (fun b22 => ?_) (fun b22 => ?_)
 ·replace h16 := ite_t b22 h16
  refine GL.seq ?_
  refine GL.region ?_
  refine RL.mv rfl rfl rfl ?_
  refine RL.asg rfl rfl rfl ?_
  refine RL.asg rfl rfl rfl ?_
  refine RL.finG ?_
  refine GL.weak (fun a w st => st.nilOwn 3 TR.int) ?_
  have h16 := Option.some.inj h16
  subst h16
  exact GL.ret (Gx.ret (v := .tuple #[Value.slice none 0 0, .int .i64 y20]) (res2 rfl rfl rfl) (fun a w st => (st.pick [1] (by decide) rfl).toPost (Value.slice none 0 0)))
 replace h16 := ite_f b22 h16
 refine GL.skip ?_
 refine GL.seq ?_
 refine GL.seq ?_
 refine GL.region ?_
 refine RL.mv rfl rfl rfl ?_
 refine RL.finG ?_
 refine GL.block ?_
 refine GL.seq ?_
 refine GL.region ?_
 refine RL.binI (v := .bool (x0 == (1 : Int))) rfl rfl rfl rfl rfl ?_
 refine RL.asg rfl rfl rfl ?_
 refine RL.finG ?_
 refine GL.cond rfl (fun b23 => ?_) (fun b23 => ?_)
 ·replace h16 := ite_t b23 h16
  refine GL.seq ?_
  refine GL.region ?_
  refine RL.mv rfl rfl rfl ?_
  refine RL.mv rfl rfl rfl ?_
  obtain ⟨y27, e28, h16⟩ := bind_some h16
  refine RL.call (vs := [v1, .int .i64 x2, .int .i64 (1 : Int)]) Try_fit117 rfl rfl rfl rfl rfl (fun S f w hS hW hi => seats_divided_c S w hS _ _ (hi 0 _ rfl) x2 (1 : Int) _ e28) ?_
  intro v29
  refine RL.asg rfl rfl rfl ?_
  refine RL.asg rfl rfl rfl ?_
  refine RL.finG ?_
  have h16 := Option.some.inj h16
  subst h16
  exact GL.ret (Gx.ret (v := .tuple #[v29, .int .i64 (0 : Int)]) (res2 rfl rfl rfl) (fun a w st => (st.pick [1] (by decide) rfl).toPost v29))
 replace h16 := ite_f b23 h16
 refine GL.seq ?_
 refine GL.region ?_
 refine RL.binI (v := .bool (x0 == (2 : Int))) rfl rfl rfl rfl rfl ?_
 refine RL.asg rfl rfl rfl ?_
 refine RL.finG ?_
 refine GL.cond rfl (fun b30 => ?_) (fun b30 => ?_)
 ·replace h16 := ite_t b30 h16
  refine GL.seq ?_
  refine GL.region ?_
  refine RL.mv rfl rfl rfl ?_
  refine RL.mv rfl rfl rfl ?_
  obtain ⟨y34, e35, h16⟩ := bind_some h16
  refine RL.call (vs := [v1, .int .i64 x2, .int .i64 (2 : Int)]) Try_fit117 rfl rfl rfl rfl rfl (fun S f w hS hW hi => seats_divided_c S w hS _ _ (hi 0 _ rfl) x2 (2 : Int) _ e35) ?_
  intro v36
  refine RL.asg rfl rfl rfl ?_
  refine RL.asg rfl rfl rfl ?_
  refine RL.finG ?_
  have h16 := Option.some.inj h16
  subst h16
  exact GL.ret (Gx.ret (v := .tuple #[v36, .int .i64 (0 : Int)]) (res2 rfl rfl rfl) (fun a w st => (st.pick [1] (by decide) rfl).toPost v36))
 replace h16 := ite_f b30 h16
 refine GL.skip ?_
 refine GL.nilB ?_
 refine GL.seq ?_
 refine GL.region ?_
 refine RL.asg rfl rfl rfl ?_
 refine RL.finG ?_
 refine GL.seq ?_
 refine GL.seq ?_
 refine GL.region ?_
 refine RL.mv rfl rfl rfl ?_
 refine RL.lenS 0 Try.underlying24 rfl rfl rfl rfl SlOf.imm ?_
 refine RL.mv rfl rfl rfl ?_
 refine RL.finG ?_
 refine GL.open_ 0 rfl (fun S h => len_imm S h) (fun n42 => ?_)
 obtain ⟨y43, K44, h45, h46, h47, h48, h49⟩ := bindR_K h16
 refine GL.join (ι := Int) (fun (p : Int) => [(1, v1), (2, .int .i64 x2), (9, .int .i64 p)]) (fun (p : Int) => [imm (TR.sl TR.int) v1 x1]) (fun (p : Int) => K44 (.nx p)) ?_ ?_
 ·refine GL.block ?_
  refine GL.loop (ι := Nat × (List Int) × Int) (fun (p : Nat × (List Int) × Int) => [(1, v1), (2, .int .i64 x2), (9, .int .i64 p.2.2), (42, v1), (43, .int .i64 ((x1).length : Int)), (44, .int .i64 (p.1 : Int))]) (fun (p : Nat × (List Int) × Int) => [imm (TR.sl TR.int) v1 x1]) (fun (p : Nat × (List Int) × Int) => p.1 + p.2.1.length = (x1).length ∧ List.drop p.1 x1 = p.2.1 ∧ rangeL seats_Share_b1 p.2.1 p.1 p.2.2 = some y43) (fun (p : Nat × (List Int) × Int) => p.2.1.length) (0, x1, (0 : Int)) ⟨by simp, by simp, h45⟩ (fun a w st => St.cut [0] ⟨rfl, rfl, rfl, rfl, rfl, rfl, trivial⟩ (by decide) rfl st) ?_
  rintro ⟨i50, r51, x37⟩ ⟨h56, h57, h55⟩
  try dsimp only at h56 h57 h55
  refine GL.weak (env' := [(1, v1), (2, .int .i64 x2), (9, .int .i64 x37), (42, v1), (43, .int .i64 ((x1).length : Int)), (44, .int .i64 (i50 : Int))]) (L' := [imm (TR.sl TR.int) v1 x1]) (fun _ _ st => st) ?_
  refine GL.seq ?_
  refine GL.region ?_
  refine RL.binI (v := .bool (decide ((i50 : Int) < ((x1).length : Int)))) rfl rfl rfl rfl rfl ?_
  refine RL.finG ?_
  refine GL.seq ?_
  refine GL.cond rfl (fun b58 => ?_) (fun b58 => ?_)
  ·have h59 : i50 < (x1).length := by have := of_decide_eq_true b58; omega
   obtain ⟨y60, r62, hr, e61, h63⟩ := drop_cons h57 rfl h59
   subst hr
   obtain ⟨z52, h53, h54⟩ := rangeL_some h55
   unfold seats_Share_b1 at h53
   try dsimp only at h53
   refine GL.skip ?_
   refine GL.seq ?_
   refine GL.block ?_
   refine GL.seq ?_
   refine GL.region ?_
   refine RL.idxS (sz := 1) 0 Try.underlying24 Try_ln3 rfl rfl rfl rfl rfl SlOf.imm (by omega) (by omega) ?_
   refine RL.ldSx (i := i50) (e' := y60) 0 Ex.ik Try_ln3 rfl rfl rfl rfl SlOf.imm e61 Part.self ?_
   refine RL.asg rfl rfl rfl ?_
   refine RL.finG ?_
   refine GL.region ?_
   refine RL.mv rfl rfl rfl ?_
   refine RL.mv rfl rfl rfl ?_
   refine RL.binI (v := .int .i64 (wadd x37 y60)) rfl rfl rfl rfl rfl ?_
   refine RL.asg rfl rfl rfl ?_
   refine RL.finG ?_
   refine GL.nilB ?_
   refine GL.region ?_
   refine RL.binI (v := .int .i64 ((i50 + 1 : Nat) : Int)) rfl rfl rfl rfl (binI_succ i50 (by omega)) ?_
   refine RL.mv rfl rfl rfl ?_
   refine RL.fin ?_
   cases h53
   exact fun a w st => lop_intro (i50 + 1, r62, wadd x37 y60) ⟨by show i50 + 1 + r62.length = (x1).length; simp only [List.length_cons] at h56; omega, h63, h54⟩ (by simp) (St.cut [0] ⟨rfl, rfl, rfl, rfl, rfl, rfl, trivial⟩ (by decide) rfl st)
  have h59 : ¬ i50 < (x1).length := by have := of_decide_eq_false b58; omega
  obtain rfl : r51 = [] := by rw [← h57]; exact List.drop_of_length_le (by omega)
  replace h55 : some (Fl.nx _) = some y43 := h55
  cases h55
  exact GL.exit (fun a w st => mid_intro x37 h46 (St.cut [0] ⟨rfl, rfl, rfl, trivial⟩ (by decide) rfl st))
 rintro x37 h64
 have h65 := h47 _ h64
 try dsimp only at h65
 refine GL.weak (env' := [(1, v1), (2, .int .i64 x2), (9, .int .i64 x37)]) (L' := [imm (TR.sl TR.int) v1 x1]) (fun _ _ st => st) ?_
 refine GL.seq ?_
 refine GL.region ?_
 refine RL.mv rfl rfl rfl ?_
 refine RL.lenS 0 Try.underlying24 rfl rfl rfl rfl SlOf.imm ?_
 obtain ⟨y69, e70, h65⟩ := bind_some h65
 replace e70 := chk_some e70
 refine RL.mkS (t := TR.int) (z := (0 : Int)) Try.underlying24 Try_lo3 (fun S => rfl) rfl rfl rfl rfl e70.1 e70.2 ?_
 intro v71
 refine RL.asg rfl rfl rfl ?_
 refine RL.finG ?_
 refine GL.seq ?_
 refine GL.region ?_
 refine RL.mv rfl rfl rfl ?_
 refine RL.lenS 0 Try.underlying24 rfl rfl rfl rfl SlOf.imm ?_
 obtain ⟨y75, e76, h65⟩ := bind_some h65
 replace e76 := chk_some e76
 refine RL.mkS (t := TR.int) (z := (0 : Int)) Try.underlying24 Try_lo3 (fun S => rfl) rfl rfl rfl rfl e76.1 e76.2 ?_
 intro v77
 refine RL.reL (L' := [imm (TR.sl TR.int) v1 x1, own 3 TR.int v71 (List.replicate (((x1).length : Int)).toNat (0 : Int)), own 3 TR.int v77 (List.replicate (((x1).length : Int)).toNat (0 : Int))]) rfl ?_
 refine RL.asg rfl rfl rfl ?_
 refine RL.finG ?_
 refine GL.seq ?_
 refine GL.region ?_
 refine RL.mv rfl rfl rfl ?_
 refine RL.asg rfl rfl rfl ?_
 refine RL.finG ?_
 refine GL.seq ?_
 refine GL.seq ?_
 refine GL.region ?_
 refine RL.mv rfl rfl rfl ?_
 refine RL.lenS 0 Try.underlying24 rfl rfl rfl rfl SlOf.imm ?_
 refine RL.mv rfl rfl rfl ?_
 refine RL.finG ?_
 refine GL.open_ 0 rfl (fun S h => len_imm S h) (fun n130 => ?_)
 obtain ⟨y131, K132, h133, h134, h135, h136, h137⟩ := bindR_K h65
 refine GL.join (ι := (List Int) × (List Int) × Int) (fun (p : (List Int) × (List Int) × Int) => [(12, v71), (13, v77), (14, .int .i64 p.2.2)]) (fun (p : (List Int) × (List Int) × Int) => [own 3 TR.int v71 p.1, own 3 TR.int v77 p.2.1]) (fun (p : (List Int) × (List Int) × Int) => K132 (.nx (p.1, p.2.1, p.2.2))) ?_ ?_
 ·refine GL.block ?_
  refine GL.loop (ι := Nat × (List Int) × (List Int) × (List Int) × Int) (fun (p : Nat × (List Int) × (List Int) × (List Int) × Int) => [(2, .int .i64 x2), (9, .int .i64 x37), (12, v71), (13, v77), (14, .int .i64 p.2.2.2.2), (59, v1), (60, .int .i64 ((x1).length : Int)), (61, .int .i64 (p.1 : Int))]) (fun (p : Nat × (List Int) × (List Int) × (List Int) × Int) => [own 3 TR.int v71 p.2.2.1, own 3 TR.int v77 p.2.2.2.1, imm (TR.sl TR.int) v1 x1]) (fun (p : Nat × (List Int) × (List Int) × (List Int) × Int) => p.1 + p.2.1.length = (x1).length ∧ List.drop p.1 x1 = p.2.1 ∧ rangeL (seats_Share_b2 x37 x2) p.2.1 p.1 (p.2.2.1, p.2.2.2.1, p.2.2.2.2) = some y131) (fun (p : Nat × (List Int) × (List Int) × (List Int) × Int) => p.2.1.length) (0, x1, (List.replicate (((x1).length : Int)).toNat (0 : Int)), (List.replicate (((x1).length : Int)).toNat (0 : Int)), x2) ⟨by simp, by simp, h133⟩ (fun a w st => St.cut [1, 2, 0] ⟨rfl, rfl, rfl, rfl, rfl, rfl, rfl, rfl, trivial⟩ (by decide) rfl st) ?_
  rintro ⟨i138, r139, l103, l104, x105⟩ ⟨h144, h145, h143⟩
  try dsimp only at h144 h145 h143
  refine GL.weak (env' := [(2, .int .i64 x2), (9, .int .i64 x37), (12, v71), (13, v77), (14, .int .i64 x105), (59, v1), (60, .int .i64 ((x1).length : Int)), (61, .int .i64 (i138 : Int))]) (L' := [own 3 TR.int v71 l103, own 3 TR.int v77 l104, imm (TR.sl TR.int) v1 x1]) (fun _ _ st => st) ?_
  refine GL.seq ?_
  refine GL.region ?_
  refine RL.binI (v := .bool (decide ((i138 : Int) < ((x1).length : Int)))) rfl rfl rfl rfl rfl ?_
  refine RL.finG ?_
  refine GL.seq ?_
  refine GL.cond rfl (fun b146 => ?_) (fun b146 => ?_)
  ·have h147 : i138 < (x1).length := by have := of_decide_eq_true b146; omega
   obtain ⟨y148, r150, hr, e149, h151⟩ := drop_cons h145 rfl h147
   subst hr
   obtain ⟨z140, h141, h142⟩ := rangeL_some h143
   unfold seats_Share_b2 at h141
   try dsimp only at h141
   refine GL.skip ?_
   refine GL.seq ?_
   refine GL.block ?_
   refine GL.seq ?_
   refine GL.region ?_
   refine RL.mv rfl rfl rfl ?_
   refine RL.idxS (sz := 1) 2 Try.underlying24 Try_ln3 rfl rfl rfl rfl rfl SlOf.imm (by omega) (by omega) ?_
   refine RL.ldSx (i := i138) (e' := y148) 2 Ex.ik Try_ln3 rfl rfl rfl rfl SlOf.imm e149 Part.self ?_
   refine RL.asg rfl rfl rfl ?_
   refine RL.asg rfl rfl rfl ?_
   refine RL.finG ?_
   refine GL.seq ?_
   refine GL.regionA rfl rfl ?_
   refine RA.mv 0 rfl (by kernel_rfl) rfl rfl rfl ?_
   refine RA.mv 1 rfl (by kernel_rfl) rfl rfl rfl ?_
   refine RA.mv 2 rfl (by kernel_rfl) rfl rfl rfl ?_
   refine RA.mv 3 rfl (by kernel_rfl) rfl rfl rfl ?_
   refine RA.mv 4 rfl (by kernel_rfl) rfl rfl rfl ?_
   refine RA.mv 5 rfl (by kernel_rfl) rfl rfl rfl ?_
   refine RA.binI (v := .int .i64 (wmul y148 x2)) 6 rfl (by kernel_rfl) rfl rfl rfl rfl rfl ?_
   refine RA.mv 7 rfl (by kernel_rfl) rfl rfl rfl ?_
   obtain ⟨y160, e161, h141⟩ := bind_some h141
   replace e161 := chk_some e161
   refine RA.quo 8 rfl (by kernel_rfl) rfl rfl rfl rfl e161 ?_
   refine RA.mv 9 rfl (by kernel_rfl) rfl rfl rfl ?_
   refine RA.mv 10 rfl (by kernel_rfl) rfl rfl rfl ?_
   refine RA.binI (v := .int .i64 (wmul y148 x2)) 11 rfl (by kernel_rfl) rfl rfl rfl rfl rfl ?_
   refine RA.mv 12 rfl (by kernel_rfl) rfl rfl rfl ?_
   obtain ⟨y162, e163, h141⟩ := bind_some h141
   replace e163 := chk_some e163
   refine RA.rem 13 rfl (by kernel_rfl) rfl rfl rfl rfl e163 ?_
   obtain ⟨y164, e165, h141⟩ := bind_some h141
   refine RA.idxS (sz := 1) 0 Try.underlying24 Try_ln3 14 rfl (by kernel_rfl) rfl rfl rfl rfl rfl SlOf.own (idx_some e165).1 (idx_some e165).2.1 ?_
   refine RA.seq 15 rfl (by kernel_rfl) ?_
   refine RL.stS (i := i138) (e' := IntKind.wrap .i64 (Int.tdiv (wmul y148 x2) x37)) (e1 := IntKind.wrap .i64 (Int.tdiv (wmul y148 x2) x37)) (r := TR.int) 0 Try_ln3 rfl rfl rfl rfl VR.int rfl (idx_some e165).2.2 Upd.self ?_
   refine RL.fin ?_
   refine RA.next ?_
   obtain ⟨y166, e167, h141⟩ := bind_some h141
   refine RA.idxS (sz := 1) 1 Try.underlying24 Try_ln3 16 rfl (by kernel_rfl) rfl rfl rfl rfl rfl SlOf.own (idx_some e167).1 (idx_some e167).2.1 ?_
   refine RA.seq 17 rfl (by kernel_rfl) ?_
   refine RL.stS (i := i138) (e' := Int.tmod (wmul y148 x2) x37) (e1 := Int.tmod (wmul y148 x2) x37) (r := TR.int) 1 Try_ln3 rfl rfl rfl rfl VR.int rfl (idx_some e167).2.2 Upd.self ?_
   refine RL.fin ?_
   refine RA.next ?_
   refine RA.doneG (by kernel_rfl) ?_
   refine GL.weak (env' := [(2, .int .i64 x2), (9, .int .i64 x37), (12, v71), (13, v77), (14, .int .i64 x105), (15, .int .i64 (i138 : Int)), (59, v1), (60, .int .i64 ((x1).length : Int)), (61, .int .i64 (i138 : Int))]) (L' := [own 3 TR.int v71 (List.set l103 i138 (IntKind.wrap .i64 (Int.tdiv (wmul y148 x2) x37))), own 3 TR.int v77 (List.set l104 i138 (Int.tmod (wmul y148 x2) x37)), imm (TR.sl TR.int) v1 x1]) (fun a w st => St.cut [0, 1, 2] ⟨rfl, rfl, rfl, rfl, rfl, rfl, rfl, rfl, rfl, trivial⟩ (by decide) rfl st) ?_
   refine GL.region ?_
   refine RL.mv rfl rfl rfl ?_
   refine RL.mv rfl rfl rfl ?_
   refine RL.mv rfl rfl rfl ?_
   obtain ⟨y170, e171, h141⟩ := bind_some h141
   refine RL.idxS (sz := 1) 0 Try.underlying24 Try_ln3 rfl rfl rfl rfl rfl SlOf.own (idx_some e171).1 (idx_some e171).2.1 ?_
   refine RL.ldSx (i := i138) (e' := y170) 0 Ex.ik Try_ln3 rfl rfl rfl rfl SlOf.own (idx_some e171).2.2 Part.self ?_
   refine RL.binI (v := .int .i64 (wsub x105 y170)) rfl rfl rfl rfl rfl ?_
   refine RL.asg rfl rfl rfl ?_
   refine RL.finG ?_
   refine GL.nilB ?_
   refine GL.region ?_
   refine RL.binI (v := .int .i64 ((i138 + 1 : Nat) : Int)) rfl rfl rfl rfl (binI_succ i138 (by omega)) ?_
   refine RL.mv rfl rfl rfl ?_
   refine RL.fin ?_
   cases h141
   exact fun a w st => lop_intro (i138 + 1, r150, (List.set l103 i138 (IntKind.wrap .i64 (Int.tdiv (wmul y148 x2) x37))), (List.set l104 i138 (Int.tmod (wmul y148 x2) x37)), wsub x105 y170) ⟨by show i138 + 1 + r150.length = (x1).length; simp only [List.length_cons] at h144; omega, h151, h142⟩ (by simp) (St.cut [0, 1, 2] ⟨rfl, rfl, rfl, rfl, rfl, rfl, rfl, rfl, trivial⟩ (by decide) rfl st)
  have h147 : ¬ i138 < (x1).length := by have := of_decide_eq_false b146; omega
  obtain rfl : r139 = [] := by rw [← h145]; exact List.drop_of_length_le (by omega)
  replace h143 : some (Fl.nx _) = some y131 := h143
  cases h143
  exact GL.exit (fun a w st => mid_intro (l103, l104, x105) h134 (St.cut [0, 1] ⟨rfl, rfl, rfl, trivial⟩ (by decide) rfl st))
 rintro ⟨l103, l104, x105⟩ h172
 have h173 := h135 _ h172
 try dsimp only at h173
 refine GL.weak (env' := [(12, v71), (13, v77), (14, .int .i64 x105)]) (L' := [own 3 TR.int v71 l103, own 3 TR.int v77 l104]) (fun _ _ st => st) ?_
 refine GL.seq ?_
 refine GL.seq ?_
 refine GL.region ?_
 refine RL.mv rfl rfl rfl ?_
 refine RL.mv rfl rfl rfl ?_
 refine RL.finG ?_
 obtain ⟨y281, e282, h173⟩ := bind_some h173
 replace e282 := chk_some e282
 obtain ⟨y283, K284, h285, h286, h287, h288, h289⟩ := bindR_K h173
 refine GL.join (ι := (List Int) × (List Int)) (fun (p : (List Int) × (List Int)) => [(12, v71)]) (fun (p : (List Int) × (List Int)) => [own 3 TR.int v71 p.1]) (fun (p : (List Int) × (List Int)) => K284 (.nx (p.1, p.2))) ?_ ?_
 ·refine GL.block ?_
  refine GL.loop (ι := Nat × Nat × (List Int) × (List Int)) (fun (p : Nat × Nat × (List Int) × (List Int)) => [(12, v71), (13, v77), (89, .int .i64 x105), (90, .int .i64 (p.1 : Int))]) (fun (p : Nat × Nat × (List Int) × (List Int)) => [own 3 TR.int v71 p.2.2.1, own 3 TR.int v77 p.2.2.2]) (fun (p : Nat × Nat × (List Int) × (List Int)) => p.1 + p.2.1 = (x105).toNat ∧ rangeN seats_Share_b3 p.2.1 p.1 (p.2.2.1, p.2.2.2) = some y283) (fun (p : Nat × Nat × (List Int) × (List Int)) => p.2.1) (0, (x105).toNat, l103, l104) ⟨by simp, h285⟩ (fun a w st => St.cut [0, 1] ⟨rfl, rfl, rfl, rfl, trivial⟩ (by decide) rfl st) ?_
  rintro ⟨i290, r291, l226, l227⟩ ⟨h296, h295⟩
  try dsimp only at h296 h295
  refine GL.weak (env' := [(12, v71), (13, v77), (89, .int .i64 x105), (90, .int .i64 (i290 : Int))]) (L' := [own 3 TR.int v71 l226, own 3 TR.int v77 l227]) (fun _ _ st => st) ?_
  refine GL.seq ?_
  refine GL.region ?_
  refine RL.binI (v := .bool (decide ((i290 : Int) < x105))) rfl rfl rfl rfl rfl ?_
  refine RL.finG ?_
  refine GL.seq ?_
  refine GL.cond rfl (fun b298 => ?_) (fun b298 => ?_)
  ·have h299 : i290 < (x105).toNat := by have := of_decide_eq_true b298; omega
   obtain ⟨r300, hr⟩ : ∃ m, r291 = m + 1 := ⟨r291 - 1, by omega⟩
   subst hr
   obtain ⟨z292, h293, h294⟩ := rangeN_some h295
   unfold seats_Share_b3 at h293
   try dsimp only at h293
   refine GL.skip ?_
   refine GL.seq ?_
   refine GL.block ?_
   refine GL.seq ?_
   refine GL.region ?_
   refine RL.asg rfl rfl rfl ?_
   refine RL.finG ?_
   refine GL.seq ?_
   refine GL.seq ?_
   refine GL.region ?_
   refine RL.mv rfl rfl rfl ?_
   refine RL.lenS 1 Try.underlying24 rfl rfl rfl rfl SlOf.own ?_
   refine RL.mv rfl rfl rfl ?_
   refine RL.finG ?_
   refine GL.lenOwn 1 rfl (fun n311 => ?_)
   obtain ⟨y312, K313, h314, h315, h316, h317, h318⟩ := bindF_K h293
   refine GL.join (ι := Int) (fun (p : Int) => [(12, v71), (13, v77), (17, .int .i64 p), (89, .int .i64 x105), (90, .int .i64 (i290 : Int))]) (fun (p : Int) => [own 3 TR.int v71 l226, own 3 TR.int v77 l227]) (fun (p : Int) => K313 (.nx p)) ?_ ?_
   ·refine GL.block ?_
    refine GL.loop (ι := Nat × Nat × Int) (fun (p : Nat × Nat × Int) => [(12, v71), (13, v77), (17, .int .i64 p.2.2), (89, .int .i64 x105), (90, .int .i64 (i290 : Int)), (93, .int .i64 ((l227).length : Int)), (94, .int .i64 (p.1 : Int))]) (fun (p : Nat × Nat × Int) => [own 3 TR.int v71 l226, own 3 TR.int v77 l227]) (fun (p : Nat × Nat × Int) => p.1 + p.2.1 = (l227).length ∧ rangeN (seats_Share_b4 l227) p.2.1 p.1 p.2.2 = some y312) (fun (p : Nat × Nat × Int) => p.2.1) (0, (l227).length, (0 : Int)) ⟨by simp, h314⟩ (fun a w st => St.cut [0, 1] ⟨rfl, rfl, rfl, rfl, rfl, rfl, rfl, trivial⟩ (by decide) rfl st) ?_
    rintro ⟨i319, r320, x301⟩ ⟨h325, h324⟩
    try dsimp only at h325 h324
    refine GL.weak (env' := [(12, v71), (13, v77), (17, .int .i64 x301), (89, .int .i64 x105), (90, .int .i64 (i290 : Int)), (93, .int .i64 ((l227).length : Int)), (94, .int .i64 (i319 : Int))]) (L' := [own 3 TR.int v71 l226, own 3 TR.int v77 l227]) (fun _ _ st => st) ?_
    refine GL.seq ?_
    refine GL.region ?_
    refine RL.binI (v := .bool (decide ((i319 : Int) < ((l227).length : Int)))) rfl rfl rfl rfl rfl ?_
    refine RL.finG ?_
    refine GL.seq ?_
    refine GL.cond rfl (fun b327 => ?_) (fun b327 => ?_)
    ·have h328 : i319 < (l227).length := by have := of_decide_eq_true b327; omega
     obtain ⟨r329, hr⟩ : ∃ m, r320 = m + 1 := ⟨r320 - 1, by omega⟩
     subst hr
     obtain ⟨z321, h322, h323⟩ := rangeN_some h324
     unfold seats_Share_b4 at h322
     try dsimp only at h322
     refine GL.skip ?_
     refine GL.seq ?_
     refine GL.block ?_
     refine GL.seq ?_
     refine GL.region ?_
     refine RL.mv rfl rfl rfl ?_
     refine RL.asg rfl rfl rfl ?_
     refine RL.finG ?_
     refine GL.seq ?_
     refine GL.regionQ rfl rfl (by kernel_rfl) ?_
     refine RL.mv rfl rfl rfl ?_
     refine RL.mv rfl rfl rfl ?_
     obtain ⟨y334, e335, h322⟩ := bind_some h322
     refine RL.idxS (sz := 1) 1 Try.underlying24 Try_ln3 rfl rfl rfl rfl rfl SlOf.own (idx_some e335).1 (idx_some e335).2.1 ?_
     refine RL.ldSx (i := i319) (e' := y334) 1 Ex.ik Try_ln3 rfl rfl rfl rfl SlOf.own (idx_some e335).2.2 Part.self ?_
     refine RL.mv rfl rfl rfl ?_
     refine RL.mv rfl rfl rfl ?_
     obtain ⟨y336, e337, h322⟩ := bind_some h322
     refine RL.idxS (sz := 1) 1 Try.underlying24 Try_ln3 rfl rfl rfl rfl rfl SlOf.own (idx_some e337).1 (idx_some e337).2.1 ?_
     refine RL.ldSx (i := (x301).toNat) (e' := y336) 1 Ex.ik Try_ln3 rfl rfl rfl rfl SlOf.own (idx_some e337).2.2 Part.self ?_
     refine RL.binI (v := .bool (decide (y334 > y336))) rfl rfl rfl rfl rfl ?_
     refine RL.finQG ?_
     refine GL.cond rfl (fun b338 => ?_) (fun b338 => ?_)
     ·replace h322 := ite_t b338 h322
      refine GL.region ?_
      refine RL.mv rfl rfl rfl ?_
      refine RL.asg rfl rfl rfl ?_
      refine RL.finG ?_
      refine GL.nilB ?_
      refine GL.region ?_
      refine RL.binI (v := .int .i64 ((i319 + 1 : Nat) : Int)) rfl rfl rfl rfl (binI_succ i319 (by omega)) ?_
      refine RL.mv rfl rfl rfl ?_
      refine RL.fin ?_
      cases h322
      exact fun a w st => lop_intro (i319 + 1, r329, (i319 : Int)) ⟨by show i319 + 1 + r329 = (l227).length; omega, h323⟩ (by simp) (St.cut [0, 1] ⟨rfl, rfl, rfl, rfl, rfl, rfl, rfl, trivial⟩ (by decide) rfl st)
     replace h322 := ite_f b338 h322
     refine GL.skip ?_
     refine GL.nilB ?_
     refine GL.region ?_
     refine RL.binI (v := .int .i64 ((i319 + 1 : Nat) : Int)) rfl rfl rfl rfl (binI_succ i319 (by omega)) ?_
     refine RL.mv rfl rfl rfl ?_
     refine RL.fin ?_
     cases h322
     exact fun a w st => lop_intro (i319 + 1, r329, x301) ⟨by show i319 + 1 + r329 = (l227).length; omega, h323⟩ (by simp) (St.cut [0, 1] ⟨rfl, rfl, rfl, rfl, rfl, rfl, rfl, trivial⟩ (by decide) rfl st)
    have h328 : ¬ i319 < (l227).length := by have := of_decide_eq_false b327; omega
    obtain rfl : r320 = 0 := by omega
    replace h324 : some (Fl.nx _) = some y312 := h324
    cases h324
    exact GL.exit (fun a w st => mid_intro x301 h315 (St.cut [0, 1] ⟨rfl, rfl, rfl, rfl, rfl, trivial⟩ (by decide) rfl st))
   rintro x301 h339
   have h340 := h316 _ h339
   try dsimp only at h340
   refine GL.weak (env' := [(12, v71), (13, v77), (17, .int .i64 x301), (89, .int .i64 x105), (90, .int .i64 (i290 : Int))]) (L' := [own 3 TR.int v71 l226, own 3 TR.int v77 l227]) (fun _ _ st => st) ?_
   refine GL.seq ?_
   refine GL.region ?_
   refine RL.mv rfl rfl rfl ?_
   refine RL.mv rfl rfl rfl ?_
   obtain ⟨y345, e346, h340⟩ := bind_some h340
   refine RL.idxS (sz := 1) 0 Try.underlying24 Try_ln3 rfl rfl rfl rfl rfl SlOf.own (idx_some e346).1 (idx_some e346).2.1 ?_
   refine RL.ldSx (i := (x301).toNat) (e' := y345) 0 Ex.ik Try_ln3 rfl rfl rfl rfl SlOf.own (idx_some e346).2.2 Part.self ?_
   refine RL.binI (v := .int .i64 (wadd y345 (1 : Int))) rfl rfl rfl rfl rfl ?_
   obtain ⟨y347, e348, h340⟩ := bind_some h340
   refine RL.idxS (sz := 1) 0 Try.underlying24 Try_ln3 rfl rfl rfl rfl rfl SlOf.own (idx_some e348).1 (idx_some e348).2.1 ?_
   refine RL.stS (i := (x301).toNat) (e' := wadd y345 (1 : Int)) (e1 := wadd y345 (1 : Int)) (r := TR.int) 0 Try_ln3 rfl rfl rfl rfl VR.int rfl (idx_some e348).2.2 Upd.self ?_
   refine RL.finG ?_
   refine GL.region ?_
   refine RL.mv rfl rfl rfl ?_
   refine RL.mv rfl rfl rfl ?_
   obtain ⟨y351, e352, h340⟩ := bind_some h340
   refine RL.idxS (sz := 1) 1 Try.underlying24 Try_ln3 rfl rfl rfl rfl rfl SlOf.own (idx_some e352).1 (idx_some e352).2.1 ?_
   refine RL.stS (i := (x301).toNat) (e' := (-1 : Int)) (e1 := (-1 : Int)) (r := TR.int) 1 Try_ln3 rfl rfl rfl rfl VR.int rfl (idx_some e352).2.2 Upd.self ?_
   refine RL.reL (L' := [own 3 TR.int v71 (List.set l226 ((x301).toNat) (wadd y345 (1 : Int))), own 3 TR.int v77 (List.set l227 ((x301).toNat) (-1 : Int))]) rfl ?_
   refine RL.finG ?_
   refine GL.nilB ?_
   refine GL.region ?_
   refine RL.binI (v := .int .i64 ((i290 + 1 : Nat) : Int)) rfl rfl rfl rfl (binI_succ i290 (by omega)) ?_
   refine RL.mv rfl rfl rfl ?_
   refine RL.fin ?_
   cases h340
   exact fun a w st => lop_intro (i290 + 1, r300, (List.set l226 ((x301).toNat) (wadd y345 (1 : Int))), (List.set l227 ((x301).toNat) (-1 : Int))) ⟨by show i290 + 1 + r300 = (x105).toNat; omega, h294⟩ (by simp) (St.cut [0, 1] ⟨rfl, rfl, rfl, rfl, trivial⟩ (by decide) rfl st)
  have h299 : ¬ i290 < (x105).toNat := by have := of_decide_eq_false b298; omega
  obtain rfl : r291 = 0 := by omega
  replace h295 : some (Fl.nx _) = some y283 := h295
  cases h295
  exact GL.exit (fun a w st => mid_intro (l226, l227) h286 (St.cut [0] ⟨rfl, trivial⟩ (by decide) rfl st))
 rintro ⟨l226, l227⟩ h353
 have h354 := h287 _ h353
 try dsimp only at h354
 refine GL.weak (env' := [(12, v71)]) (L' := [own 3 TR.int v71 l226]) (fun _ _ st => st) ?_
 refine GL.seq ?_
 refine GL.region ?_
 refine RL.mv rfl rfl rfl ?_
 refine RL.asg rfl rfl rfl ?_
 refine RL.asg rfl rfl rfl ?_
 refine RL.finG ?_
 have h354 := Option.some.inj h354
 subst h354
 exact GL.ret (Gx.ret (v := .tuple #[v71, .int .i64 (0 : Int)]) (res2 rfl rfl rfl) (fun a w st => (st.pick [0] (by decide) rfl).toPost v71))

set_option maxHeartbeats 4000000 in
theorem pk_shares_c (S : Hp) (w : World) (hS : S.sub w)  (res : Bool) (hm : pk_shares_m = some res) : Calls Try.prog 52 #[] w (PostV w (.bool res)) := by
 refine calls_enter 29 Try.func52 Try.ntmps52 rfl S false [] [] rfl trivial hS trivial ?_
 unfold pk_shares_m at hm
 refine GL.seq ?_
 refine GL.region ?_
 refine RL.asg rfl rfl rfl ?_
 refine RL.finG ?_
 refine GL.seq ?_
 refine GL.region ?_
 refine RL.bS (t := TR.int) (vs := [.int .i64 (60 : Int), .int .i64 (30 : Int), .int .i64 (10 : Int)]) ([(60 : Int), (30 : Int), (10 : Int)] : (List Int)) Try.underlying24 Try_lo3 rfl rfl rfl rfl ⟨VR.int, ⟨VR.int, ⟨VR.int, trivial⟩⟩⟩ rfl (by decide) ?_
 intro v5
 obtain ⟨y6, e7, hm⟩ := bind_some hm
 refine RL.callU (vs := [.int .i64 (1 : Int), v5, .int .i64 (5 : Int)]) (LR := fun (o : Value) => [own 3 TR.int o y6.1]) (fun o => ⟨Loc.own TR.flatT_ik, trivial⟩) Try_fit61 rfl rfl rfl rfl rfl (fun U w hU hW hL => seats_Share_c U w hU (1 : Int) _ _ (hL 0 _ _ rfl Seen.own) (5 : Int) _ e7) ?_
 intro v8
 refine RL.mv rfl rfl rfl ?_
 refine RL.ext rfl rfl rfl rfl ?_
 refine RL.ext rfl rfl rfl rfl ?_
 refine RL.asg rfl rfl rfl ?_
 refine RL.asg rfl rfl rfl ?_
 refine RL.finG ?_
 refine GL.seq ?_
 refine GL.region ?_
 refine RL.bS (t := TR.int) (vs := [.int .i64 (60 : Int), .int .i64 (30 : Int), .int .i64 (10 : Int)]) ([(60 : Int), (30 : Int), (10 : Int)] : (List Int)) Try.underlying24 Try_lo3 rfl rfl rfl rfl ⟨VR.int, ⟨VR.int, ⟨VR.int, trivial⟩⟩⟩ rfl (by decide) ?_
 intro v13
 refine RL.reL (L' := [own 3 TR.int v5 ([(60 : Int), (30 : Int), (10 : Int)] : (List Int)), own 3 TR.int v8 y6.1, own 3 TR.int v13 ([(60 : Int), (30 : Int), (10 : Int)] : (List Int))]) rfl ?_
 obtain ⟨y14, e15, hm⟩ := bind_some hm
 refine RL.callU (vs := [.int .i64 (3 : Int), v13, .int .i64 (5 : Int)]) (LR := fun (o : Value) => [own 3 TR.int o y14.1]) (fun o => ⟨Loc.own TR.flatT_ik, trivial⟩) Try_fit61 rfl rfl rfl rfl rfl (fun U w hU hW hL => seats_Share_c U w hU (3 : Int) _ _ (hL 2 _ _ rfl Seen.own) (5 : Int) _ e15) ?_
 intro v16
 refine RL.mv rfl rfl rfl ?_
 refine RL.ext rfl rfl rfl rfl ?_
 refine RL.ext rfl rfl rfl rfl ?_
 refine RL.asg rfl rfl rfl ?_
 refine RL.asg rfl rfl rfl ?_
 refine RL.finG ?_
 refine GL.seq ?_
 obtain ⟨y40, K41, h42, h43, h44, h45, h46⟩ := bindR_K hm
 refine GL.join (ι := Bool) (fun (p : Bool) => [(0, .bool p)]) (fun (p : Bool) => []) (fun (p : Bool) => K41 (.nx p)) ?_ ?_
 ·skip
  refine GL.region ?_
  refine RL.mv rfl rfl rfl ?_
  refine RL.mv rfl rfl rfl ?_
  refine RL.bS (t := TR.int) (vs := [.int .i64 y6.2, .int .i64 y14.2]) ([y6.2, y14.2] : (List Int)) Try.underlying101 Try_lo25 rfl rfl rfl rfl ⟨VR.int, ⟨VR.int, trivial⟩⟩ rfl (by decide) ?_
  intro v47
  obtain ⟨y48, e49, h42⟩ := bind_some h42
  refine RL.callV (v := .bool y48) (vs := [v47]) Try_fit20 rfl (Or.inl rfl) rfl rfl rfl rfl (fun U w hU hW hL => pk_good_c U w hU _ _ (hL 4 _ _ rfl Seen.own) _ e49) ?_
  refine RL.mv rfl rfl rfl ?_
  refine RL.split (t := 19) rfl (fun b50 => ?_) (fun b50 => ?_)
  ·replace h42 := ite_t b50 h42
   refine RL.mv rfl rfl rfl ?_
   refine RL.bS (t := TR.int) (vs := [.int .i64 (4 : Int), .int .i64 (1 : Int), .int .i64 (0 : Int)]) ([(4 : Int), (1 : Int), (0 : Int)] : (List Int)) Try.underlying24 Try_lo3 rfl rfl rfl rfl ⟨VR.int, ⟨VR.int, ⟨VR.int, trivial⟩⟩⟩ rfl (by decide) ?_
   intro v51
   refine RL.reL (L' := [own 3 TR.int v5 ([(60 : Int), (30 : Int), (10 : Int)] : (List Int)), own 3 TR.int v8 y6.1, own 3 TR.int v13 ([(60 : Int), (30 : Int), (10 : Int)] : (List Int)), own 3 TR.int v16 y14.1, own 25 TR.int v47 ([y6.2, y14.2] : (List Int)), own 3 TR.int v51 ([(4 : Int), (1 : Int), (0 : Int)] : (List Int))]) rfl ?_
   obtain ⟨y52, e53, h42⟩ := bind_some h42
   refine RL.callV (v := .bool y52) (vs := [v8, v51]) Try_fit22 rfl (Or.inl rfl) rfl rfl rfl rfl (fun U w hU hW hL => slices_Equal_int_int_c U w hU _ _ (hL 1 _ _ rfl Seen.own) _ _ (hL 5 _ _ rfl Seen.own) _ e53) ?_
   refine RL.pickT rfl rfl rfl rfl ?_
   refine RL.mv rfl rfl rfl ?_
   refine RL.split (t := 24) rfl (fun b54 => ?_) (fun b54 => ?_)
   ·replace h42 := ite_t b54 h42
    refine RL.mv rfl rfl rfl ?_
    refine RL.bS (t := TR.int) (vs := [.int .i64 (3 : Int), .int .i64 (2 : Int), .int .i64 (0 : Int)]) ([(3 : Int), (2 : Int), (0 : Int)] : (List Int)) Try.underlying24 Try_lo3 rfl rfl rfl rfl ⟨VR.int, ⟨VR.int, ⟨VR.int, trivial⟩⟩⟩ rfl (by decide) ?_
    intro v55
    obtain ⟨y56, e57, h42⟩ := bind_some h42
    refine RL.callV (v := .bool y56) (vs := [v16, v55]) Try_fit22 rfl (Or.inl rfl) rfl rfl rfl rfl (fun U w hU hW hL => slices_Equal_int_int_c U w hU _ _ (hL 3 _ _ rfl Seen.own) _ _ (hL 6 _ _ rfl Seen.own) _ e57) ?_
    refine RL.pickT rfl rfl rfl rfl ?_
    refine RL.asg rfl rfl rfl ?_
    refine RL.fin ?_
    cases h42
    exact fun a w st => mid_intro y56 h43 (St.cut [] ⟨rfl, trivial⟩ (by decide) rfl st)
   replace h42 := ite_f b54 h42
   refine RL.skip rfl rfl ?_
   refine RL.skip rfl rfl ?_
   refine RL.skip rfl rfl ?_
   refine RL.pickF rfl rfl rfl rfl ?_
   refine RL.asg rfl rfl rfl ?_
   refine RL.fin ?_
   cases h42
   exact fun a w st => mid_intro false h43 (St.cut [] ⟨rfl, trivial⟩ (by decide) rfl st)
  replace h42 := ite_f b50 h42
  refine RL.skip rfl rfl ?_
  refine RL.skip rfl rfl ?_
  refine RL.skip rfl rfl ?_
  refine RL.pickF rfl rfl rfl rfl ?_
  refine RL.mv rfl rfl rfl ?_
  refine RL.skip rfl rfl ?_
  refine RL.skip rfl rfl ?_
  refine RL.skip rfl rfl ?_
  refine RL.pickF rfl rfl rfl rfl ?_
  refine RL.asg rfl rfl rfl ?_
  refine RL.fin ?_
  cases h42
  exact fun a w st => mid_intro false h43 (St.cut [] ⟨rfl, trivial⟩ (by decide) rfl st)
 rintro x39 h58
 have h59 := h44 _ h58
 try dsimp only at h59
 refine GL.weak (env' := [(0, .bool x39)]) (L' := []) (fun _ _ st => st) ?_
 have h59 := Option.some.inj h59
 subst h59
 exact GL.ret (Gx.ret (v := .bool x39) (res1 rfl rfl) (fun a w st => st.toPostV))

set_option maxHeartbeats 4000000 in
theorem piles_Check_c (S : Hp) (w : World) (hS : S.sub w) (v0 : Value) (x0 : (List Int)) (k0 : ((TR.sl TR.int)).vrep S v0 x0) (res : Int) (hm : piles_Check_m x0 = some res) : Calls Try.prog 129 #[v0] w (PostC w (.int .i64 res)) := by
 refine calls_enter 21 Try.func129 Try.ntmps129 rfl S true [(0, v0)] [imm (TR.sl TR.int) v0 x0] rfl ⟨rfl, trivial⟩ hS ⟨k0, trivial⟩ ?_
 unfold piles_Check_m at hm
 refine GL.seq ?_
 refine GL.region ?_
 refine RL.asg rfl rfl rfl ?_
 refine RL.finG ?_
 refine GL.seq ?_
 refine GL.seq ?_
 refine GL.region ?_
 refine RL.mv rfl rfl rfl ?_
 refine RL.lenS 0 Try.underlying24 rfl rfl rfl rfl SlOf.imm ?_
 refine RL.binI (v := .bool (decide (((x0).length : Int) > (6 : Int)))) rfl rfl rfl rfl rfl ?_
 refine RL.finG ?_
 refine GL.cond rfl (fun b2 => ?_) (fun b2 => ?_)
 ·replace hm := ite_t b2 hm
  refine GL.seq ?_
  refine GL.region ?_
  refine RL.asg rfl rfl rfl ?_
  refine RL.finG ?_
  have hm := Option.some.inj hm
  subst hm
  exact GL.ret (Gx.ret (v := .int .i64 (2 : Int)) (res1 rfl rfl) (fun a w st => st.toPostC rfl))
 replace hm := ite_f b2 hm
 refine GL.skip ?_
 refine GL.seq ?_
 refine GL.seq ?_
 refine GL.region ?_
 refine RL.mv rfl rfl rfl ?_
 refine RL.lenS 0 Try.underlying24 rfl rfl rfl rfl SlOf.imm ?_
 refine RL.mv rfl rfl rfl ?_
 refine RL.finG ?_
 refine GL.open_ 0 rfl (fun S h => len_imm S h) (fun n21 => ?_)
 obtain ⟨y22, K23, h24, h25, h26, h27, h28⟩ := bindR_K hm
 refine GL.join (ι := Unit) (fun (p : Unit) => []) (fun (p : Unit) => []) (fun (p : Unit) => K23 (.nx ())) ?_ ?_
 ·refine GL.block ?_
  refine GL.loop (ι := Nat × (List Int)) (fun (p : Nat × (List Int)) => [(8, v0), (9, .int .i64 ((x0).length : Int)), (10, .int .i64 (p.1 : Int))]) (fun (p : Nat × (List Int)) => [imm (TR.sl TR.int) v0 x0]) (fun (p : Nat × (List Int)) => p.1 + p.2.length = (x0).length ∧ List.drop p.1 x0 = p.2 ∧ rangeL piles_Check_b1 p.2 p.1 () = some y22) (fun (p : Nat × (List Int)) => p.2.length) (0, x0) ⟨by simp, by simp, h24⟩ (fun a w st => St.cut [0] ⟨rfl, rfl, rfl, trivial⟩ (by decide) rfl st) ?_
  rintro ⟨i29, r30⟩ ⟨h35, h36, h34⟩
  try dsimp only at h35 h36 h34
  refine GL.weak (env' := [(8, v0), (9, .int .i64 ((x0).length : Int)), (10, .int .i64 (i29 : Int))]) (L' := [imm (TR.sl TR.int) v0 x0]) (fun _ _ st => st) ?_
  refine GL.seq ?_
  refine GL.region ?_
  refine RL.binI (v := .bool (decide ((i29 : Int) < ((x0).length : Int)))) rfl rfl rfl rfl rfl ?_
  refine RL.finG ?_
  refine GL.seq ?_
  refine GL.cond rfl (fun b37 => ?_) (fun b37 => ?_)
  ·have h38 : i29 < (x0).length := by have := of_decide_eq_true b37; omega
   obtain ⟨y39, r41, hr, e40, h42⟩ := drop_cons h36 rfl h38
   subst hr
   obtain ⟨z31, h32, h33⟩ := rangeL_some h34
   unfold piles_Check_b1 at h32
   try dsimp only at h32
   refine GL.skip ?_
   refine GL.seq ?_
   refine GL.block ?_
   refine GL.seq ?_
   refine GL.region ?_
   refine RL.idxS (sz := 1) 0 Try.underlying24 Try_ln3 rfl rfl rfl rfl rfl SlOf.imm (by omega) (by omega) ?_
   refine RL.ldSx (i := i29) (e' := y39) 0 Ex.ik Try_ln3 rfl rfl rfl rfl SlOf.imm e40 Part.self ?_
   refine RL.asg rfl rfl rfl ?_
   refine RL.finG ?_
   refine GL.seq ?_
   obtain ⟨y46, K47, h48, h49, h50, h51, h52⟩ := bindF_K h32
   refine GL.join (ι := Bool) (fun (p : Bool) => [(8, v0), (9, .int .i64 ((x0).length : Int)), (10, .int .i64 (i29 : Int)), (19, .bool p)]) (fun (p : Bool) => [imm (TR.sl TR.int) v0 x0]) (fun (p : Bool) => K47 (.nx p)) ?_ ?_
   ·skip
    refine GL.region ?_
    refine RL.mv rfl rfl rfl ?_
    refine RL.binI (v := .bool (decide (y39 < (0 : Int)))) rfl rfl rfl rfl rfl ?_
    refine RL.mv rfl rfl rfl ?_
    refine RL.split (t := 16) rfl (fun b53 => ?_) (fun b53 => ?_)
    ·replace h48 := ite_t b53 h48
     refine RL.skip rfl rfl ?_
     refine RL.skip rfl rfl ?_
     refine RL.pickT rfl rfl rfl rfl ?_
     refine RL.fin ?_
     cases h48
     exact fun a w st => mid_intro true h49 (St.cut [0] ⟨rfl, rfl, rfl, rfl, trivial⟩ (by decide) rfl st)
    replace h48 := ite_f b53 h48
    refine RL.mv rfl rfl rfl ?_
    refine RL.binI (v := .bool (decide (y39 > (40 : Int)))) rfl rfl rfl rfl rfl ?_
    refine RL.pickF rfl rfl rfl rfl ?_
    refine RL.fin ?_
    cases h48
    exact fun a w st => mid_intro (decide (y39 > (40 : Int))) h49 (St.cut [0] ⟨rfl, rfl, rfl, rfl, trivial⟩ (by decide) rfl st)
   rintro x45 h54
   have h55 := h50 _ h54
   try dsimp only at h55
   refine GL.weak (env' := [(8, v0), (9, .int .i64 ((x0).length : Int)), (10, .int .i64 (i29 : Int)), (19, .bool x45)]) (L' := [imm (TR.sl TR.int) v0 x0]) (fun _ _ st => st) ?_
   refine GL.cond rfl (fun b56 => ?_) (fun b56 => ?_)
   ·replace h55 := ite_t b56 h55
    refine GL.seq ?_
    refine GL.region ?_
    refine RL.asg rfl rfl rfl ?_
    refine RL.finG ?_
    cases h55
    replace h33 : some (Fl.rt _) = some y22 := h33
    cases h33
    have hh := h27 _ h25
    subst hh
    exact GL.ret (Gx.ret (v := .int .i64 (1 : Int)) (res1 rfl rfl) (fun a w st => st.toPostC rfl))
   replace h55 := ite_f b56 h55
   refine GL.skip ?_
   refine GL.nilB ?_
   refine GL.region ?_
   refine RL.binI (v := .int .i64 ((i29 + 1 : Nat) : Int)) rfl rfl rfl rfl (binI_succ i29 (by omega)) ?_
   refine RL.mv rfl rfl rfl ?_
   refine RL.fin ?_
   cases h55
   exact fun a w st => lop_intro (i29 + 1, r41) ⟨by show i29 + 1 + r41.length = (x0).length; simp only [List.length_cons] at h35; omega, h42, h33⟩ (by simp) (St.cut [0] ⟨rfl, rfl, rfl, trivial⟩ (by decide) rfl st)
  have h38 : ¬ i29 < (x0).length := by have := of_decide_eq_false b37; omega
  obtain rfl : r30 = [] := by rw [← h36]; exact List.drop_of_length_le (by omega)
  replace h34 : some (Fl.nx _) = some y22 := h34
  cases h34
  exact GL.exit (fun a w st => mid_intro () h25 (St.cut [] trivial (by decide) rfl st))
 rintro ⟨⟩ h57
 have h58 := h26 _ h57
 try dsimp only at h58
 refine GL.weak (env' := []) (L' := []) (fun _ _ st => st) ?_
 refine GL.seq ?_
 refine GL.region ?_
 refine RL.asg rfl rfl rfl ?_
 refine RL.finG ?_
 have h58 := Option.some.inj h58
 subst h58
 exact GL.ret (Gx.ret (v := .int .i64 (0 : Int)) (res1 rfl rfl) (fun a w st => st.toPostC rfl))

set_option maxHeartbeats 4000000 in
theorem piles_Move_c (S : Hp) (w : World) (hS : S.sub w) (v0 : Value) (x0 : (List Int)) (k0 : ((TR.sl TR.int)).vrep S v0 x0) (res : Int × Int × Int) (hm : piles_Move_m x0 = some res) : Calls Try.prog 111 #[v0] w (PostC w (.tuple #[.int .i64 res.1, .int .i64 res.2.1, .int .i64 res.2.2])) := by
 refine calls_enter 45 Try.func111 Try.ntmps111 rfl S true [(0, v0)] [imm (TR.sl TR.int) v0 x0] rfl ⟨rfl, trivial⟩ hS ⟨k0, trivial⟩ ?_
 unfold piles_Move_m at hm
 refine GL.seq ?_
 refine GL.region ?_
 refine RL.asg rfl rfl rfl ?_
 refine RL.asg rfl rfl rfl ?_
 refine RL.asg rfl rfl rfl ?_
 refine RL.finG ?_
 refine GL.seq ?_
 refine GL.seq ?_
 refine GL.region ?_
 refine RL.mv rfl rfl rfl ?_
 obtain ⟨y4, e5, hm⟩ := bind_some hm
 refine RL.callC (v := .int .i64 y4) (vs := [v0]) Try_fit129 rfl rfl rfl rfl (fun U w hU hW hL => piles_Check_c U w hU _ _ (hL 0 _ _ rfl Seen.imm) _ e5) ?_
 refine RL.asg rfl rfl rfl ?_
 refine RL.finG ?_
 refine GL.seq ?_
 refine GL.region ?_
 refine RL.mv rfl rfl rfl ?_
 refine RL.binI (v := .bool (y4 != (0 : Int))) rfl rfl rfl rfl rfl ?_
 refine RL.finG ?_
 refine GL.cond rfl (fun b6 => ?_) (fun b6 => ?_)
 ·replace hm := ite_t b6 hm
  refine GL.seq ?_
  refine GL.region ?_
  refine RL.mv rfl rfl rfl ?_
  refine RL.asg rfl rfl rfl ?_
  refine RL.asg rfl rfl rfl ?_
  refine RL.asg rfl rfl rfl ?_
  refine RL.finG ?_
  have hm := Option.some.inj hm
  subst hm
  exact GL.ret (Gx.ret (v := .tuple #[.int .i64 (0 : Int), .int .i64 (0 : Int), .int .i64 y4]) (res3 rfl rfl rfl rfl) (fun a w st => st.toPostC rfl))
 replace hm := ite_f b6 hm
 refine GL.skip ?_
 refine GL.seq ?_
 refine GL.region ?_
 refine RL.asg rfl rfl rfl ?_
 refine RL.finG ?_
 refine GL.seq ?_
 refine GL.seq ?_
 refine GL.region ?_
 refine RL.mv rfl rfl rfl ?_
 refine RL.lenS 0 Try.underlying24 rfl rfl rfl rfl SlOf.imm ?_
 refine RL.mv rfl rfl rfl ?_
 refine RL.finG ?_
 refine GL.open_ 0 rfl (fun S h => len_imm S h) (fun n12 => ?_)
 obtain ⟨y13, K14, h15, h16, h17, h18, h19⟩ := bindR_K hm
 refine GL.join (ι := Int) (fun (p : Int) => [(0, v0), (6, .int .i64 p)]) (fun (p : Int) => [imm (TR.sl TR.int) v0 x0]) (fun (p : Int) => K14 (.nx p)) ?_ ?_
 ·refine GL.block ?_
  refine GL.loop (ι := Nat × (List Int) × Int) (fun (p : Nat × (List Int) × Int) => [(0, v0), (6, .int .i64 p.2.2), (16, v0), (17, .int .i64 ((x0).length : Int)), (18, .int .i64 (p.1 : Int))]) (fun (p : Nat × (List Int) × Int) => [imm (TR.sl TR.int) v0 x0]) (fun (p : Nat × (List Int) × Int) => p.1 + p.2.1.length = (x0).length ∧ List.drop p.1 x0 = p.2.1 ∧ rangeL piles_Move_b1 p.2.1 p.1 p.2.2 = some y13) (fun (p : Nat × (List Int) × Int) => p.2.1.length) (0, x0, (0 : Int)) ⟨by simp, by simp, h15⟩ (fun a w st => St.cut [0] ⟨rfl, rfl, rfl, rfl, rfl, trivial⟩ (by decide) rfl st) ?_
  rintro ⟨i20, r21, x7⟩ ⟨h26, h27, h25⟩
  try dsimp only at h26 h27 h25
  refine GL.weak (env' := [(0, v0), (6, .int .i64 x7), (16, v0), (17, .int .i64 ((x0).length : Int)), (18, .int .i64 (i20 : Int))]) (L' := [imm (TR.sl TR.int) v0 x0]) (fun _ _ st => st) ?_
  refine GL.seq ?_
  refine GL.region ?_
  refine RL.binI (v := .bool (decide ((i20 : Int) < ((x0).length : Int)))) rfl rfl rfl rfl rfl ?_
  refine RL.finG ?_
  refine GL.seq ?_
  refine GL.cond rfl (fun b28 => ?_) (fun b28 => ?_)
  ·have h29 : i20 < (x0).length := by have := of_decide_eq_true b28; omega
   obtain ⟨y30, r32, hr, e31, h33⟩ := drop_cons h27 rfl h29
   subst hr
   obtain ⟨z22, h23, h24⟩ := rangeL_some h25
   unfold piles_Move_b1 at h23
   try dsimp only at h23
   refine GL.skip ?_
   refine GL.seq ?_
   refine GL.block ?_
   refine GL.seq ?_
   refine GL.region ?_
   refine RL.idxS (sz := 1) 0 Try.underlying24 Try_ln3 rfl rfl rfl rfl rfl SlOf.imm (by omega) (by omega) ?_
   refine RL.ldSx (i := i20) (e' := y30) 0 Ex.ik Try_ln3 rfl rfl rfl rfl SlOf.imm e31 Part.self ?_
   refine RL.asg rfl rfl rfl ?_
   refine RL.finG ?_
   refine GL.region ?_
   refine RL.mv rfl rfl rfl ?_
   refine RL.mv rfl rfl rfl ?_
   refine RL.binI (v := .int .i64 (bits .xor .i64 x7 y30)) rfl rfl rfl rfl rfl ?_
   refine RL.asg rfl rfl rfl ?_
   refine RL.finG ?_
   refine GL.nilB ?_
   refine GL.region ?_
   refine RL.binI (v := .int .i64 ((i20 + 1 : Nat) : Int)) rfl rfl rfl rfl (binI_succ i20 (by omega)) ?_
   refine RL.mv rfl rfl rfl ?_
   refine RL.fin ?_
   cases h23
   exact fun a w st => lop_intro (i20 + 1, r32, bits .xor .i64 x7 y30) ⟨by show i20 + 1 + r32.length = (x0).length; simp only [List.length_cons] at h26; omega, h33, h24⟩ (by simp) (St.cut [0] ⟨rfl, rfl, rfl, rfl, rfl, trivial⟩ (by decide) rfl st)
  have h29 : ¬ i20 < (x0).length := by have := of_decide_eq_false b28; omega
  obtain rfl : r21 = [] := by rw [← h27]; exact List.drop_of_length_le (by omega)
  replace h25 : some (Fl.nx _) = some y13 := h25
  cases h25
  exact GL.exit (fun a w st => mid_intro x7 h16 (St.cut [0] ⟨rfl, rfl, trivial⟩ (by decide) rfl st))
 rintro x7 h34
 have h35 := h17 _ h34
 try dsimp only at h35
 refine GL.weak (env' := [(0, v0), (6, .int .i64 x7)]) (L' := [imm (TR.sl TR.int) v0 x0]) (fun _ _ st => st) ?_
 refine GL.seq ?_
 refine GL.seq ?_
 refine GL.region ?_
 refine RL.mv rfl rfl rfl ?_
 refine RL.lenS 0 Try.underlying24 rfl rfl rfl rfl SlOf.imm ?_
 refine RL.mv rfl rfl rfl ?_
 refine RL.finG ?_
 refine GL.open_ 0 rfl (fun S h => len_imm S h) (fun n41 => ?_)
 obtain ⟨y42, K43, h44, h45, h46, h47, h48⟩ := bindR_K h35
 refine GL.join (ι := Unit) (fun (p : Unit) => []) (fun (p : Unit) => []) (fun (p : Unit) => K43 (.nx ())) ?_ ?_
 ·refine GL.block ?_
  refine GL.loop (ι := Nat × (List Int)) (fun (p : Nat × (List Int)) => [(6, .int .i64 x7), (26, v0), (27, .int .i64 ((x0).length : Int)), (28, .int .i64 (p.1 : Int))]) (fun (p : Nat × (List Int)) => [imm (TR.sl TR.int) v0 x0]) (fun (p : Nat × (List Int)) => p.1 + p.2.length = (x0).length ∧ List.drop p.1 x0 = p.2 ∧ rangeL (piles_Move_b2 x7) p.2 p.1 () = some y42) (fun (p : Nat × (List Int)) => p.2.length) (0, x0) ⟨by simp, by simp, h44⟩ (fun a w st => St.cut [0] ⟨rfl, rfl, rfl, rfl, trivial⟩ (by decide) rfl st) ?_
  rintro ⟨i49, r50⟩ ⟨h55, h56, h54⟩
  try dsimp only at h55 h56 h54
  refine GL.weak (env' := [(6, .int .i64 x7), (26, v0), (27, .int .i64 ((x0).length : Int)), (28, .int .i64 (i49 : Int))]) (L' := [imm (TR.sl TR.int) v0 x0]) (fun _ _ st => st) ?_
  refine GL.seq ?_
  refine GL.region ?_
  refine RL.binI (v := .bool (decide ((i49 : Int) < ((x0).length : Int)))) rfl rfl rfl rfl rfl ?_
  refine RL.finG ?_
  refine GL.seq ?_
  refine GL.cond rfl (fun b57 => ?_) (fun b57 => ?_)
  ·have h58 : i49 < (x0).length := by have := of_decide_eq_true b57; omega
   obtain ⟨y59, r61, hr, e60, h62⟩ := drop_cons h56 rfl h58
   subst hr
   obtain ⟨z51, h52, h53⟩ := rangeL_some h54
   unfold piles_Move_b2 at h52
   try dsimp only at h52
   refine GL.skip ?_
   refine GL.seq ?_
   refine GL.block ?_
   refine GL.seq ?_
   refine GL.region ?_
   refine RL.mv rfl rfl rfl ?_
   refine RL.idxS (sz := 1) 0 Try.underlying24 Try_ln3 rfl rfl rfl rfl rfl SlOf.imm (by omega) (by omega) ?_
   refine RL.ldSx (i := i49) (e' := y59) 0 Ex.ik Try_ln3 rfl rfl rfl rfl SlOf.imm e60 Part.self ?_
   refine RL.asg rfl rfl rfl ?_
   refine RL.asg rfl rfl rfl ?_
   refine RL.finG ?_
   refine GL.seq ?_
   refine GL.region ?_
   refine RL.mv rfl rfl rfl ?_
   refine RL.mv rfl rfl rfl ?_
   refine RL.binI (v := .int .i64 (bits .xor .i64 y59 x7)) rfl rfl rfl rfl rfl ?_
   refine RL.mv rfl rfl rfl ?_
   refine RL.binI (v := .bool (decide ((bits .xor .i64 y59 x7) < y59))) rfl rfl rfl rfl rfl ?_
   refine RL.finG ?_
   refine GL.cond rfl (fun b63 => ?_) (fun b63 => ?_)
   ·replace h52 := ite_t b63 h52
    refine GL.seq ?_
    refine GL.region ?_
    refine RL.mv rfl rfl rfl ?_
    refine RL.mv rfl rfl rfl ?_
    refine RL.mv rfl rfl rfl ?_
    refine RL.mv rfl rfl rfl ?_
    refine RL.binI (v := .int .i64 (bits .xor .i64 y59 x7)) rfl rfl rfl rfl rfl ?_
    refine RL.binI (v := .int .i64 (wsub y59 (bits .xor .i64 y59 x7))) rfl rfl rfl rfl rfl ?_
    refine RL.asg rfl rfl rfl ?_
    refine RL.asg rfl rfl rfl ?_
    refine RL.asg rfl rfl rfl ?_
    refine RL.finG ?_
    cases h52
    replace h53 : some (Fl.rt _) = some y42 := h53
    cases h53
    have hh := h47 _ h45
    subst hh
    exact GL.ret (Gx.ret (v := .tuple #[.int .i64 (i49 : Int), .int .i64 (wsub y59 (bits .xor .i64 y59 x7)), .int .i64 (0 : Int)]) (res3 rfl rfl rfl rfl) (fun a w st => st.toPostC rfl))
   replace h52 := ite_f b63 h52
   refine GL.skip ?_
   refine GL.nilB ?_
   refine GL.region ?_
   refine RL.binI (v := .int .i64 ((i49 + 1 : Nat) : Int)) rfl rfl rfl rfl (binI_succ i49 (by omega)) ?_
   refine RL.mv rfl rfl rfl ?_
   refine RL.fin ?_
   cases h52
   exact fun a w st => lop_intro (i49 + 1, r61) ⟨by show i49 + 1 + r61.length = (x0).length; simp only [List.length_cons] at h55; omega, h62, h53⟩ (by simp) (St.cut [0] ⟨rfl, rfl, rfl, rfl, trivial⟩ (by decide) rfl st)
  have h58 : ¬ i49 < (x0).length := by have := of_decide_eq_false b57; omega
  obtain rfl : r50 = [] := by rw [← h56]; exact List.drop_of_length_le (by omega)
  replace h54 : some (Fl.nx _) = some y42 := h54
  cases h54
  exact GL.exit (fun a w st => mid_intro () h45 (St.cut [] trivial (by decide) rfl st))
 rintro ⟨⟩ h64
 have h65 := h46 _ h64
 try dsimp only at h65
 refine GL.weak (env' := []) (L' := []) (fun _ _ st => st) ?_
 refine GL.seq ?_
 refine GL.region ?_
 refine RL.asg rfl rfl rfl ?_
 refine RL.asg rfl rfl rfl ?_
 refine RL.asg rfl rfl rfl ?_
 refine RL.finG ?_
 have h65 := Option.some.inj h65
 subst h65
 exact GL.ret (Gx.ret (v := .tuple #[.int .i64 (0 : Int), .int .i64 (0 : Int), .int .i64 (4 : Int)]) (res3 rfl rfl rfl rfl) (fun a w st => st.toPostC rfl))

set_option maxHeartbeats 4000000 in
theorem piles_Wins_c (S : Hp) (w : World) (hS : S.sub w) (v0 : Value) (x0 : (List Int)) (k0 : ((TR.sl TR.int)).vrep S v0 x0) (res : Bool × Int) (hm : piles_Wins_m x0 = some res) : Calls Try.prog 112 #[v0] w (PostC w (.tuple #[.bool res.1, .int .i64 res.2])) := by
 refine calls_enter 25 Try.func112 Try.ntmps112 rfl S true [(0, v0)] [imm (TR.sl TR.int) v0 x0] rfl ⟨rfl, trivial⟩ hS ⟨k0, trivial⟩ ?_
 unfold piles_Wins_m at hm
 refine GL.seq ?_
 refine GL.region ?_
 refine RL.asg rfl rfl rfl ?_
 refine RL.asg rfl rfl rfl ?_
 refine RL.finG ?_
 refine GL.seq ?_
 refine GL.seq ?_
 refine GL.region ?_
 refine RL.mv rfl rfl rfl ?_
 obtain ⟨y4, e5, hm⟩ := bind_some hm
 refine RL.callC (v := .int .i64 y4) (vs := [v0]) Try_fit129 rfl rfl rfl rfl (fun U w hU hW hL => piles_Check_c U w hU _ _ (hL 0 _ _ rfl Seen.imm) _ e5) ?_
 refine RL.asg rfl rfl rfl ?_
 refine RL.finG ?_
 refine GL.seq ?_
 refine GL.region ?_
 refine RL.mv rfl rfl rfl ?_
 refine RL.binI (v := .bool (y4 != (0 : Int))) rfl rfl rfl rfl rfl ?_
 refine RL.finG ?_
 refine GL.cond rfl (fun b6 => ?_) (fun b6 => ?_)
 ·replace hm := ite_t b6 hm
  refine GL.seq ?_
  refine GL.region ?_
  refine RL.mv rfl rfl rfl ?_
  refine RL.asg rfl rfl rfl ?_
  refine RL.asg rfl rfl rfl ?_
  refine RL.finG ?_
  have hm := Option.some.inj hm
  subst hm
  exact GL.ret (Gx.ret (v := .tuple #[.bool false, .int .i64 y4]) (res2 rfl rfl rfl) (fun a w st => st.toPostC rfl))
 replace hm := ite_f b6 hm
 refine GL.skip ?_
 refine GL.seq ?_
 refine GL.region ?_
 refine RL.asg rfl rfl rfl ?_
 refine RL.finG ?_
 refine GL.seq ?_
 refine GL.seq ?_
 refine GL.region ?_
 refine RL.mv rfl rfl rfl ?_
 refine RL.lenS 0 Try.underlying24 rfl rfl rfl rfl SlOf.imm ?_
 refine RL.mv rfl rfl rfl ?_
 refine RL.finG ?_
 refine GL.open_ 0 rfl (fun S h => len_imm S h) (fun n12 => ?_)
 obtain ⟨y13, K14, h15, h16, h17, h18, h19⟩ := bindR_K hm
 refine GL.join (ι := Int) (fun (p : Int) => [(5, .int .i64 p)]) (fun (p : Int) => []) (fun (p : Int) => K14 (.nx p)) ?_ ?_
 ·refine GL.block ?_
  refine GL.loop (ι := Nat × (List Int) × Int) (fun (p : Nat × (List Int) × Int) => [(5, .int .i64 p.2.2), (13, v0), (14, .int .i64 ((x0).length : Int)), (15, .int .i64 (p.1 : Int))]) (fun (p : Nat × (List Int) × Int) => [imm (TR.sl TR.int) v0 x0]) (fun (p : Nat × (List Int) × Int) => p.1 + p.2.1.length = (x0).length ∧ List.drop p.1 x0 = p.2.1 ∧ rangeL piles_Wins_b1 p.2.1 p.1 p.2.2 = some y13) (fun (p : Nat × (List Int) × Int) => p.2.1.length) (0, x0, (0 : Int)) ⟨by simp, by simp, h15⟩ (fun a w st => St.cut [0] ⟨rfl, rfl, rfl, rfl, trivial⟩ (by decide) rfl st) ?_
  rintro ⟨i20, r21, x7⟩ ⟨h26, h27, h25⟩
  try dsimp only at h26 h27 h25
  refine GL.weak (env' := [(5, .int .i64 x7), (13, v0), (14, .int .i64 ((x0).length : Int)), (15, .int .i64 (i20 : Int))]) (L' := [imm (TR.sl TR.int) v0 x0]) (fun _ _ st => st) ?_
  refine GL.seq ?_
  refine GL.region ?_
  refine RL.binI (v := .bool (decide ((i20 : Int) < ((x0).length : Int)))) rfl rfl rfl rfl rfl ?_
  refine RL.finG ?_
  refine GL.seq ?_
  refine GL.cond rfl (fun b28 => ?_) (fun b28 => ?_)
  ·have h29 : i20 < (x0).length := by have := of_decide_eq_true b28; omega
   obtain ⟨y30, r32, hr, e31, h33⟩ := drop_cons h27 rfl h29
   subst hr
   obtain ⟨z22, h23, h24⟩ := rangeL_some h25
   unfold piles_Wins_b1 at h23
   try dsimp only at h23
   refine GL.skip ?_
   refine GL.seq ?_
   refine GL.block ?_
   refine GL.seq ?_
   refine GL.region ?_
   refine RL.idxS (sz := 1) 0 Try.underlying24 Try_ln3 rfl rfl rfl rfl rfl SlOf.imm (by omega) (by omega) ?_
   refine RL.ldSx (i := i20) (e' := y30) 0 Ex.ik Try_ln3 rfl rfl rfl rfl SlOf.imm e31 Part.self ?_
   refine RL.asg rfl rfl rfl ?_
   refine RL.finG ?_
   refine GL.region ?_
   refine RL.mv rfl rfl rfl ?_
   refine RL.mv rfl rfl rfl ?_
   refine RL.binI (v := .int .i64 (bits .xor .i64 x7 y30)) rfl rfl rfl rfl rfl ?_
   refine RL.asg rfl rfl rfl ?_
   refine RL.finG ?_
   refine GL.nilB ?_
   refine GL.region ?_
   refine RL.binI (v := .int .i64 ((i20 + 1 : Nat) : Int)) rfl rfl rfl rfl (binI_succ i20 (by omega)) ?_
   refine RL.mv rfl rfl rfl ?_
   refine RL.fin ?_
   cases h23
   exact fun a w st => lop_intro (i20 + 1, r32, bits .xor .i64 x7 y30) ⟨by show i20 + 1 + r32.length = (x0).length; simp only [List.length_cons] at h26; omega, h33, h24⟩ (by simp) (St.cut [0] ⟨rfl, rfl, rfl, rfl, trivial⟩ (by decide) rfl st)
  have h29 : ¬ i20 < (x0).length := by have := of_decide_eq_false b28; omega
  obtain rfl : r21 = [] := by rw [← h27]; exact List.drop_of_length_le (by omega)
  replace h25 : some (Fl.nx _) = some y13 := h25
  cases h25
  exact GL.exit (fun a w st => mid_intro x7 h16 (St.cut [] ⟨rfl, trivial⟩ (by decide) rfl st))
 rintro x7 h34
 have h35 := h17 _ h34
 try dsimp only at h35
 refine GL.weak (env' := [(5, .int .i64 x7)]) (L' := []) (fun _ _ st => st) ?_
 refine GL.seq ?_
 refine GL.region ?_
 refine RL.mv rfl rfl rfl ?_
 refine RL.binI (v := .bool (x7 != (0 : Int))) rfl rfl rfl rfl rfl ?_
 refine RL.asg rfl rfl rfl ?_
 refine RL.asg rfl rfl rfl ?_
 refine RL.finG ?_
 have h35 := Option.some.inj h35
 subst h35
 exact GL.ret (Gx.ret (v := .tuple #[.bool (x7 != (0 : Int)), .int .i64 (0 : Int)]) (res2 rfl rfl rfl) (fun a w st => st.toPostC rfl))

set_option maxHeartbeats 4000000 in
theorem pk_nims_c (S : Hp) (w : World) (hS : S.sub w)  (res : Bool) (hm : pk_nims_m = some res) : Calls Try.prog 53 #[] w (PostV w (.bool res)) := by
 refine calls_enter 33 Try.func53 Try.ntmps53 rfl S false [] [] rfl trivial hS trivial ?_
 unfold pk_nims_m at hm
 refine GL.seq ?_
 refine GL.region ?_
 refine RL.asg rfl rfl rfl ?_
 refine RL.finG ?_
 refine GL.seq ?_
 refine GL.region ?_
 refine RL.bS (t := TR.int) (vs := [.int .i64 (1 : Int), .int .i64 (2 : Int), .int .i64 (4 : Int)]) ([(1 : Int), (2 : Int), (4 : Int)] : (List Int)) Try.underlying24 Try_lo3 rfl rfl rfl rfl ⟨VR.int, ⟨VR.int, ⟨VR.int, trivial⟩⟩⟩ rfl (by decide) ?_
 intro v4
 obtain ⟨y5, e6, hm⟩ := bind_some hm
 refine RL.callC (v := .tuple #[.int .i64 y5.1, .int .i64 y5.2.1, .int .i64 y5.2.2]) (vs := [v4]) Try_fit111 rfl rfl rfl rfl (fun U w hU hW hL => piles_Move_c U w hU _ _ (hL 0 _ _ rfl Seen.own) _ e6) ?_
 refine RL.mv rfl rfl rfl ?_
 refine RL.ext rfl rfl rfl rfl ?_
 refine RL.ext rfl rfl rfl rfl ?_
 refine RL.ext rfl rfl rfl rfl ?_
 refine RL.asg rfl rfl rfl ?_
 refine RL.asg rfl rfl rfl ?_
 refine RL.asg rfl rfl rfl ?_
 refine RL.finG ?_
 refine GL.seq ?_
 refine GL.region ?_
 refine RL.bS (t := TR.int) (vs := [.int .i64 (1 : Int), .int .i64 (2 : Int), .int .i64 (3 : Int)]) ([(1 : Int), (2 : Int), (3 : Int)] : (List Int)) Try.underlying24 Try_lo3 rfl rfl rfl rfl ⟨VR.int, ⟨VR.int, ⟨VR.int, trivial⟩⟩⟩ rfl (by decide) ?_
 intro v10
 refine RL.reL (L' := [own 3 TR.int v4 ([(1 : Int), (2 : Int), (4 : Int)] : (List Int)), own 3 TR.int v10 ([(1 : Int), (2 : Int), (3 : Int)] : (List Int))]) rfl ?_
 obtain ⟨y11, e12, hm⟩ := bind_some hm
 refine RL.callC (v := .tuple #[.bool y11.1, .int .i64 y11.2]) (vs := [v10]) Try_fit112 rfl rfl rfl rfl (fun U w hU hW hL => piles_Wins_c U w hU _ _ (hL 1 _ _ rfl Seen.own) _ e12) ?_
 refine RL.mv rfl rfl rfl ?_
 refine RL.ext rfl rfl rfl rfl ?_
 refine RL.ext rfl rfl rfl rfl ?_
 refine RL.asg rfl rfl rfl ?_
 refine RL.asg rfl rfl rfl ?_
 refine RL.finG ?_
 refine GL.seq ?_
 obtain ⟨y26, K27, h28, h29, h30, h31, h32⟩ := bindR_K hm
 refine GL.join (ι := Bool) (fun (p : Bool) => [(0, .bool p)]) (fun (p : Bool) => []) (fun (p : Bool) => K27 (.nx p)) ?_ ?_
 ·skip
  refine GL.region ?_
  refine RL.mv rfl rfl rfl ?_
  refine RL.mv rfl rfl rfl ?_
  refine RL.bS (t := TR.int) (vs := [.int .i64 y5.2.2, .int .i64 y11.2]) ([y5.2.2, y11.2] : (List Int)) Try.underlying101 Try_lo25 rfl rfl rfl rfl ⟨VR.int, ⟨VR.int, trivial⟩⟩ rfl (by decide) ?_
  intro v33
  obtain ⟨y34, e35, h28⟩ := bind_some h28
  refine RL.callV (v := .bool y34) (vs := [v33]) Try_fit20 rfl (Or.inl rfl) rfl rfl rfl rfl (fun U w hU hW hL => pk_good_c U w hU _ _ (hL 2 _ _ rfl Seen.own) _ e35) ?_
  refine RL.mv rfl rfl rfl ?_
  refine RL.split (t := 21) rfl (fun b36 => ?_) (fun b36 => ?_)
  ·replace h28 := ite_t b36 h28
   refine RL.mv rfl rfl rfl ?_
   refine RL.binI (v := .bool (y5.1 == (2 : Int))) rfl rfl rfl rfl rfl ?_
   refine RL.pickT rfl rfl rfl rfl ?_
   refine RL.mv rfl rfl rfl ?_
   refine RL.split (t := 25) rfl (fun b37 => ?_) (fun b37 => ?_)
   ·replace h28 := ite_t b37 h28
    refine RL.mv rfl rfl rfl ?_
    refine RL.binI (v := .bool (y5.2.1 == (1 : Int))) rfl rfl rfl rfl rfl ?_
    refine RL.pickT rfl rfl rfl rfl ?_
    refine RL.mv rfl rfl rfl ?_
    refine RL.split (t := 29) rfl (fun b38 => ?_) (fun b38 => ?_)
    ·replace h28 := ite_t b38 h28
     refine RL.mv rfl rfl rfl ?_
     refine RL.notB rfl rfl rfl ?_
     refine RL.pickT rfl rfl rfl rfl ?_
     refine RL.asg rfl rfl rfl ?_
     refine RL.fin ?_
     cases h28
     exact fun a w st => mid_intro (!y11.1) h29 (St.cut [] ⟨rfl, trivial⟩ (by decide) rfl st)
    replace h28 := ite_f b38 h28
    refine RL.skip rfl rfl ?_
    refine RL.skip rfl rfl ?_
    refine RL.pickF rfl rfl rfl rfl ?_
    refine RL.asg rfl rfl rfl ?_
    refine RL.fin ?_
    cases h28
    exact fun a w st => mid_intro false h29 (St.cut [] ⟨rfl, trivial⟩ (by decide) rfl st)
   replace h28 := ite_f b37 h28
   refine RL.skip rfl rfl ?_
   refine RL.skip rfl rfl ?_
   refine RL.pickF rfl rfl rfl rfl ?_
   refine RL.mv rfl rfl rfl ?_
   refine RL.skip rfl rfl ?_
   refine RL.skip rfl rfl ?_
   refine RL.pickF rfl rfl rfl rfl ?_
   refine RL.asg rfl rfl rfl ?_
   refine RL.fin ?_
   cases h28
   exact fun a w st => mid_intro false h29 (St.cut [] ⟨rfl, trivial⟩ (by decide) rfl st)
  replace h28 := ite_f b36 h28
  refine RL.skip rfl rfl ?_
  refine RL.skip rfl rfl ?_
  refine RL.pickF rfl rfl rfl rfl ?_
  refine RL.mv rfl rfl rfl ?_
  refine RL.skip rfl rfl ?_
  refine RL.skip rfl rfl ?_
  refine RL.pickF rfl rfl rfl rfl ?_
  refine RL.mv rfl rfl rfl ?_
  refine RL.skip rfl rfl ?_
  refine RL.skip rfl rfl ?_
  refine RL.pickF rfl rfl rfl rfl ?_
  refine RL.asg rfl rfl rfl ?_
  refine RL.fin ?_
  cases h28
  exact fun a w st => mid_intro false h29 (St.cut [] ⟨rfl, trivial⟩ (by decide) rfl st)
 rintro x25 h39
 have h40 := h30 _ h39
 try dsimp only at h40
 refine GL.weak (env' := [(0, .bool x25)]) (L' := []) (fun _ _ st => st) ?_
 have h40 := Option.some.inj h40
 subst h40
 exact GL.ret (Gx.ret (v := .bool x25) (res1 rfl rfl) (fun a w st => st.toPostV))

set_option maxHeartbeats 4000000 in
theorem order_Check_c (S : Hp) (w : World) (hS : S.sub w) (x0 : Int) (v1 : Value) (x1 : (List Int)) (k1 : ((TR.sl TR.int)).vrep S v1 x1) (res : Int) (hm : order_Check_m x0 x1 = some res) : Calls Try.prog 126 #[.int .i64 x0, v1] w (PostV w (.int .i64 res)) := by
 refine calls_enter 39 Try.func126 Try.ntmps126 rfl S false [(0, .int .i64 x0), (1, v1)] [imm (TR.sl TR.int) v1 x1] rfl ⟨rfl, ⟨rfl, trivial⟩⟩ hS ⟨k1, trivial⟩ ?_
 unfold order_Check_m at hm
 refine GL.seq ?_
 refine GL.region ?_
 refine RL.asg rfl rfl rfl ?_
 refine RL.finG ?_
 refine GL.seq ?_
 refine GL.seq ?_
 obtain ⟨y6, K7, h8, h9, h10, h11, h12⟩ := bindR_K hm
 refine GL.join (ι := Bool) (fun (p : Bool) => [(0, .int .i64 x0), (1, v1), (13, .bool p)]) (fun (p : Bool) => [imm (TR.sl TR.int) v1 x1]) (fun (p : Bool) => K7 (.nx p)) ?_ ?_
 ·skip
  refine GL.region ?_
  refine RL.mv rfl rfl rfl ?_
  refine RL.binI (v := .bool (decide (x0 < (1 : Int)))) rfl rfl rfl rfl rfl ?_
  refine RL.mv rfl rfl rfl ?_
  refine RL.split (t := 10) rfl (fun b13 => ?_) (fun b13 => ?_)
  ·replace h8 := ite_t b13 h8
   refine RL.skip rfl rfl ?_
   refine RL.skip rfl rfl ?_
   refine RL.pickT rfl rfl rfl rfl ?_
   refine RL.fin ?_
   cases h8
   exact fun a w st => mid_intro true h9 (St.cut [0] ⟨rfl, rfl, rfl, trivial⟩ (by decide) rfl st)
  replace h8 := ite_f b13 h8
  refine RL.mv rfl rfl rfl ?_
  refine RL.binI (v := .bool (decide (x0 > (6 : Int)))) rfl rfl rfl rfl rfl ?_
  refine RL.pickF rfl rfl rfl rfl ?_
  refine RL.fin ?_
  cases h8
  exact fun a w st => mid_intro (decide (x0 > (6 : Int))) h9 (St.cut [0] ⟨rfl, rfl, rfl, trivial⟩ (by decide) rfl st)
 rintro x5 h14
 have h15 := h10 _ h14
 try dsimp only at h15
 refine GL.weak (env' := [(0, .int .i64 x0), (1, v1), (13, .bool x5)]) (L' := [imm (TR.sl TR.int) v1 x1]) (fun _ _ st => st) ?_
 refine GL.cond rfl (fun b16 => ?_) (fun b16 => ?_)
 ·replace h15 := ite_t b16 h15
  refine GL.seq ?_
  refine GL.region ?_
  refine RL.asg rfl rfl rfl ?_
  refine RL.finG ?_
  have h15 := Option.some.inj h15
  subst h15
  exact GL.ret (Gx.ret (v := .int .i64 (1 : Int)) (res1 rfl rfl) (fun a w st => st.toPostV))
 replace h15 := ite_f b16 h15
 refine GL.skip ?_
 refine GL.seq ?_
 refine GL.region ?_
 refine RL.alloc (t := (TR.arr 6 TR.bool)) (z := (List.replicate 6 false)) Try_lo112 (fun S => ⟨rfl, ⟨_, _, rfl, rfl, ⟨_, _, rfl, rfl, ⟨_, _, rfl, rfl, ⟨_, _, rfl, rfl, ⟨_, _, rfl, rfl, ⟨_, _, rfl, rfl, rfl⟩⟩⟩⟩⟩⟩⟩) rfl rfl rfl ?_
 intro v18
 refine RL.finG ?_
 refine GL.seq ?_
 refine GL.seq ?_
 refine GL.region ?_
 refine RL.mv rfl rfl rfl ?_
 refine RL.lenS 0 Try.underlying24 rfl rfl rfl rfl SlOf.imm ?_
 refine RL.mv rfl rfl rfl ?_
 refine RL.finG ?_
 refine GL.open_ 0 rfl (fun S h => len_imm S h) (fun n82 => ?_)
 obtain ⟨y83, K84, h85, h86, h87, h88, h89⟩ := bindR_K h15
 refine GL.join (ι := (List Bool)) (fun (p : (List Bool)) => [(0, .int .i64 x0), (1, v1)]) (fun (p : (List Bool)) => [imm (TR.sl TR.int) v1 x1]) (fun (p : (List Bool)) => K84 (.nx p)) ?_ ?_
 ·refine GL.block ?_
  refine GL.loop (ι := Nat × (List Int) × (List Bool)) (fun (p : Nat × (List Int) × (List Bool)) => [(0, .int .i64 x0), (1, v1), (5, v18), (14, v1), (15, .int .i64 ((x1).length : Int)), (16, .int .i64 (p.1 : Int))]) (fun (p : Nat × (List Int) × (List Bool)) => [imm (TR.sl TR.int) v1 x1, obox 112 (TR.arr 6 TR.bool) v18 p.2.2]) (fun (p : Nat × (List Int) × (List Bool)) => p.1 + p.2.1.length = (x1).length ∧ List.drop p.1 x1 = p.2.1 ∧ rangeL (order_Check_b1 x0) p.2.1 p.1 p.2.2 = some y83) (fun (p : Nat × (List Int) × (List Bool)) => p.2.1.length) (0, x1, (List.replicate 6 false)) ⟨by simp, by simp, h85⟩ (fun a w st => St.cut [0, 1] ⟨rfl, rfl, rfl, rfl, rfl, rfl, trivial⟩ (by decide) rfl st) ?_
  rintro ⟨i90, r91, l50⟩ ⟨h96, h97, h95⟩
  try dsimp only at h96 h97 h95
  refine GL.weak (env' := [(0, .int .i64 x0), (1, v1), (5, v18), (14, v1), (15, .int .i64 ((x1).length : Int)), (16, .int .i64 (i90 : Int))]) (L' := [imm (TR.sl TR.int) v1 x1, obox 112 (TR.arr 6 TR.bool) v18 l50]) (fun _ _ st => st) ?_
  refine GL.seq ?_
  refine GL.region ?_
  refine RL.binI (v := .bool (decide ((i90 : Int) < ((x1).length : Int)))) rfl rfl rfl rfl rfl ?_
  refine RL.finG ?_
  refine GL.seq ?_
  refine GL.cond rfl (fun b98 => ?_) (fun b98 => ?_)
  ·have h99 : i90 < (x1).length := by have := of_decide_eq_true b98; omega
   obtain ⟨y100, r102, hr, e101, h103⟩ := drop_cons h97 rfl h99
   subst hr
   obtain ⟨z92, h93, h94⟩ := rangeL_some h95
   unfold order_Check_b1 at h93
   try dsimp only at h93
   refine GL.skip ?_
   refine GL.seq ?_
   refine GL.block ?_
   refine GL.seq ?_
   refine GL.region ?_
   refine RL.idxS (sz := 1) 0 Try.underlying24 Try_ln3 rfl rfl rfl rfl rfl SlOf.imm (by omega) (by omega) ?_
   refine RL.ldSx (i := i90) (e' := y100) 0 Ex.ik Try_ln3 rfl rfl rfl rfl SlOf.imm e101 Part.self ?_
   refine RL.asg rfl rfl rfl ?_
   refine RL.finG ?_
   refine GL.seq ?_
   refine GL.seq ?_
   obtain ⟨y113, K114, h115, h116, h117, h118, h119⟩ := bindF_K h93
   refine GL.join (ι := Bool) (fun (p : Bool) => [(0, .int .i64 x0), (1, v1), (5, v18), (7, .int .i64 y100), (14, v1), (15, .int .i64 ((x1).length : Int)), (16, .int .i64 (i90 : Int)), (31, .bool p)]) (fun (p : Bool) => [imm (TR.sl TR.int) v1 x1, obox 112 (TR.arr 6 TR.bool) v18 l50]) (fun (p : Bool) => K114 (.nx p)) ?_ ?_
   ·skip
    refine GL.region ?_
    refine RL.mv rfl rfl rfl ?_
    refine RL.binI (v := .bool (decide (y100 < (0 : Int)))) rfl rfl rfl rfl rfl ?_
    refine RL.mv rfl rfl rfl ?_
    refine RL.split (t := 22) rfl (fun b120 => ?_) (fun b120 => ?_)
    ·replace h115 := ite_t b120 h115
     refine RL.skip rfl rfl ?_
     refine RL.skip rfl rfl ?_
     refine RL.skip rfl rfl ?_
     refine RL.pickT rfl rfl rfl rfl ?_
     refine RL.mv rfl rfl rfl ?_
     refine RL.skip rfl rfl ?_
     refine RL.skip rfl rfl ?_
     refine RL.skip rfl rfl ?_
     refine RL.pickT rfl rfl rfl rfl ?_
     refine RL.fin ?_
     cases h115
     exact fun a w st => mid_intro true h116 (St.cut [0, 1] ⟨rfl, rfl, rfl, rfl, rfl, rfl, rfl, rfl, trivial⟩ (by decide) rfl st)
    replace h115 := ite_f b120 h115
    refine RL.mv rfl rfl rfl ?_
    refine RL.mv rfl rfl rfl ?_
    refine RL.binI (v := .bool (decide (y100 ≥ x0))) rfl rfl rfl rfl rfl ?_
    refine RL.pickF rfl rfl rfl rfl ?_
    refine RL.mv rfl rfl rfl ?_
    refine RL.split (t := 27) rfl (fun b121 => ?_) (fun b121 => ?_)
    ·replace h115 := ite_t b121 h115
     refine RL.skip rfl rfl ?_
     refine RL.skip rfl rfl ?_
     refine RL.skip rfl rfl ?_
     refine RL.pickT rfl rfl rfl rfl ?_
     refine RL.fin ?_
     cases h115
     exact fun a w st => mid_intro true h116 (St.cut [0, 1] ⟨rfl, rfl, rfl, rfl, rfl, rfl, rfl, rfl, trivial⟩ (by decide) rfl st)
    replace h115 := ite_f b121 h115
    refine RL.mv rfl rfl rfl ?_
    obtain ⟨y122, e123, h115⟩ := bind_some h115
    refine RL.idxA0 (sz := 1) (t' := TR.bool) 1 Try.underlying112 Try_ln4 rfl rfl rfl PtOf.obox rfl rfl Part.self (idx_some e123).1 (idx_some e123).2.1 ?_
    refine RL.ldPx (off := ((y100).toNat * 1)) (e' := y122) 1 Ex.bool Try_ln4 rfl rfl (Or.inl rfl) rfl PtOf.obox (Part.arr (idx_some e123).2.2 Part.self) ?_
    refine RL.pickF rfl rfl rfl rfl ?_
    refine RL.fin ?_
    cases h115
    exact fun a w st => mid_intro y122 h116 (St.cut [0, 1] ⟨rfl, rfl, rfl, rfl, rfl, rfl, rfl, rfl, trivial⟩ (by decide) rfl st)
   rintro x112 h124
   have h125 := h117 _ h124
   try dsimp only at h125
   refine GL.weak (env' := [(0, .int .i64 x0), (1, v1), (5, v18), (7, .int .i64 y100), (14, v1), (15, .int .i64 ((x1).length : Int)), (16, .int .i64 (i90 : Int)), (31, .bool x112)]) (L' := [imm (TR.sl TR.int) v1 x1, obox 112 (TR.arr 6 TR.bool) v18 l50]) (fun _ _ st => st) ?_
   refine GL.cond rfl (fun b126 => ?_) (fun b126 => ?_)
   ·replace h125 := ite_t b126 h125
    refine GL.seq ?_
    refine GL.region ?_
    refine RL.asg rfl rfl rfl ?_
    refine RL.finG ?_
    cases h125
    replace h94 : some (Fl.rt _) = some y83 := h94
    cases h94
    have hh := h88 _ h86
    subst hh
    exact GL.ret (Gx.ret (v := .int .i64 (3 : Int)) (res1 rfl rfl) (fun a w st => st.toPostV))
   replace h125 := ite_f b126 h125
   refine GL.skip ?_
   refine GL.region ?_
   refine RL.mv rfl rfl rfl ?_
   obtain ⟨y129, e130, h125⟩ := bind_some h125
   refine RL.idxA0 (sz := 1) (t' := TR.bool) 1 Try.underlying112 Try_ln4 rfl rfl rfl PtOf.obox rfl rfl Part.self (idx_some e130).1 (idx_some e130).2.1 ?_
   refine RL.stP (off := ((y100).toNat * 1)) (e' := true) (d1 := (List.set l50 ((y100).toNat) true)) (r := TR.bool) 1 Try_ln4 rfl rfl (Or.inl rfl) rfl VR.bool rfl (Upd.arr (idx_some e130).2.2 Upd.self) ?_
   refine RL.finG ?_
   refine GL.nilB ?_
   refine GL.region ?_
   refine RL.binI (v := .int .i64 ((i90 + 1 : Nat) : Int)) rfl rfl rfl rfl (binI_succ i90 (by omega)) ?_
   refine RL.mv rfl rfl rfl ?_
   refine RL.fin ?_
   cases h125
   exact fun a w st => lop_intro (i90 + 1, r102, (List.set l50 ((y100).toNat) true)) ⟨by show i90 + 1 + r102.length = (x1).length; simp only [List.length_cons] at h96; omega, h103, h94⟩ (by simp) (St.cut [0, 1] ⟨rfl, rfl, rfl, rfl, rfl, rfl, trivial⟩ (by decide) rfl st)
  have h99 : ¬ i90 < (x1).length := by have := of_decide_eq_false b98; omega
  obtain rfl : r91 = [] := by rw [← h97]; exact List.drop_of_length_le (by omega)
  replace h95 : some (Fl.nx _) = some y83 := h95
  cases h95
  exact GL.exit (fun a w st => mid_intro l50 h86 (St.cut [0] ⟨rfl, rfl, trivial⟩ (by decide) rfl st))
 rintro l50 h131
 have h132 := h87 _ h131
 try dsimp only at h132
 refine GL.weak (env' := [(0, .int .i64 x0), (1, v1)]) (L' := [imm (TR.sl TR.int) v1 x1]) (fun _ _ st => st) ?_
 refine GL.seq ?_
 refine GL.seq ?_
 refine GL.region ?_
 refine RL.mv rfl rfl rfl ?_
 refine RL.lenS 0 Try.underlying24 rfl rfl rfl rfl SlOf.imm ?_
 refine RL.mv rfl rfl rfl ?_
 refine RL.binI (v := .bool (((x1).length : Int) != x0)) rfl rfl rfl rfl rfl ?_
 refine RL.finG ?_
 refine GL.cond rfl (fun b133 => ?_) (fun b133 => ?_)
 ·replace h132 := ite_t b133 h132
  refine GL.seq ?_
  refine GL.region ?_
  refine RL.asg rfl rfl rfl ?_
  refine RL.finG ?_
  have h132 := Option.some.inj h132
  subst h132
  exact GL.ret (Gx.ret (v := .int .i64 (3 : Int)) (res1 rfl rfl) (fun a w st => st.toPostV))
 replace h132 := ite_f b133 h132
 refine GL.skip ?_
 refine GL.seq ?_
 refine GL.region ?_
 refine RL.asg rfl rfl rfl ?_
 refine RL.finG ?_
 have h132 := Option.some.inj h132
 subst h132
 exact GL.ret (Gx.ret (v := .int .i64 (0 : Int)) (res1 rfl rfl) (fun a w st => st.toPostV))

set_option maxHeartbeats 4000000 in
theorem trade_Check_c (S : Hp) (w : World) (hS : S.sub w) (v0 : Value) (x0 : (List (List Int))) (k0 : ((TR.sl (TR.sl TR.int))).vrep S v0 x0) (res : Int) (hm : trade_Check_m x0 = some res) : Calls Try.prog 122 #[v0] w (PostV w (.int .i64 res)) := by
 refine calls_enter 25 Try.func122 Try.ntmps122 rfl S false [(0, v0)] [imm (TR.sl (TR.sl TR.int)) v0 x0] rfl ⟨rfl, trivial⟩ hS ⟨k0, trivial⟩ ?_
 unfold trade_Check_m at hm
 refine GL.seq ?_
 refine GL.region ?_
 refine RL.asg rfl rfl rfl ?_
 refine RL.finG ?_
 refine GL.seq ?_
 refine GL.region ?_
 refine RL.mv rfl rfl rfl ?_
 refine RL.lenS 0 Try.underlying37 rfl rfl rfl rfl SlOf.imm ?_
 refine RL.asg rfl rfl rfl ?_
 refine RL.finG ?_
 refine GL.seq ?_
 refine GL.seq ?_
 obtain ⟨y5, K6, h7, h8, h9, h10, h11⟩ := bindR_K hm
 refine GL.join (ι := Bool) (fun (p : Bool) => [(0, v0), (3, .int .i64 ((x0).length : Int)), (13, .bool p)]) (fun (p : Bool) => [imm (TR.sl (TR.sl TR.int)) v0 x0]) (fun (p : Bool) => K6 (.nx p)) ?_ ?_
 ·skip
  refine GL.region ?_
  refine RL.mv rfl rfl rfl ?_
  refine RL.binI (v := .bool (decide (((x0).length : Int) < (1 : Int)))) rfl rfl rfl rfl rfl ?_
  refine RL.mv rfl rfl rfl ?_
  refine RL.split (t := 10) rfl (fun b12 => ?_) (fun b12 => ?_)
  ·replace h7 := ite_t b12 h7
   refine RL.skip rfl rfl ?_
   refine RL.skip rfl rfl ?_
   refine RL.pickT rfl rfl rfl rfl ?_
   refine RL.fin ?_
   cases h7
   exact fun a w st => mid_intro true h8 (St.cut [0] ⟨rfl, rfl, rfl, trivial⟩ (by decide) rfl st)
  replace h7 := ite_f b12 h7
  refine RL.mv rfl rfl rfl ?_
  refine RL.binI (v := .bool (decide (((x0).length : Int) > (6 : Int)))) rfl rfl rfl rfl rfl ?_
  refine RL.pickF rfl rfl rfl rfl ?_
  refine RL.fin ?_
  cases h7
  exact fun a w st => mid_intro (decide (((x0).length : Int) > (6 : Int))) h8 (St.cut [0] ⟨rfl, rfl, rfl, trivial⟩ (by decide) rfl st)
 rintro x4 h13
 have h14 := h9 _ h13
 try dsimp only at h14
 refine GL.weak (env' := [(0, v0), (3, .int .i64 ((x0).length : Int)), (13, .bool x4)]) (L' := [imm (TR.sl (TR.sl TR.int)) v0 x0]) (fun _ _ st => st) ?_
 refine GL.cond rfl (fun b15 => ?_) (fun b15 => ?_)
 ·replace h14 := ite_t b15 h14
  refine GL.seq ?_
  refine GL.region ?_
  refine RL.asg rfl rfl rfl ?_
  refine RL.finG ?_
  have h14 := Option.some.inj h14
  subst h14
  exact GL.ret (Gx.ret (v := .int .i64 (2 : Int)) (res1 rfl rfl) (fun a w st => st.toPostV))
 replace h14 := ite_f b15 h14
 refine GL.skip ?_
 refine GL.seq ?_
 refine GL.seq ?_
 refine GL.region ?_
 refine RL.mv rfl rfl rfl ?_
 refine RL.lenS 0 Try.underlying37 rfl rfl rfl rfl SlOf.imm ?_
 refine RL.mv rfl rfl rfl ?_
 refine RL.finG ?_
 refine GL.open_ 0 rfl (fun S h => len_imm S h) (fun n27 => ?_)
 obtain ⟨y28, K29, h30, h31, h32, h33, h34⟩ := bindR_K h14
 refine GL.join (ι := Unit) (fun (p : Unit) => []) (fun (p : Unit) => []) (fun (p : Unit) => K29 (.nx ())) ?_ ?_
 ·refine GL.block ?_
  refine GL.loop (ι := Nat × (List (List Int))) (fun (p : Nat × (List (List Int))) => [(3, .int .i64 ((x0).length : Int)), (14, v0), (15, .int .i64 ((x0).length : Int)), (16, .int .i64 (p.1 : Int))]) (fun (p : Nat × (List (List Int))) => [imm (TR.sl (TR.sl TR.int)) v0 x0]) (fun (p : Nat × (List (List Int))) => p.1 + p.2.length = (x0).length ∧ List.drop p.1 x0 = p.2 ∧ rangeL (trade_Check_b1 x0) p.2 p.1 () = some y28) (fun (p : Nat × (List (List Int))) => p.2.length) (0, x0) ⟨by simp, by simp, h30⟩ (fun a w st => St.cut [0] ⟨rfl, rfl, rfl, rfl, trivial⟩ (by decide) rfl st) ?_
  rintro ⟨i35, r36⟩ ⟨h41, h42, h40⟩
  try dsimp only at h41 h42 h40
  refine GL.weak (env' := [(3, .int .i64 ((x0).length : Int)), (14, v0), (15, .int .i64 ((x0).length : Int)), (16, .int .i64 (i35 : Int))]) (L' := [imm (TR.sl (TR.sl TR.int)) v0 x0]) (fun _ _ st => st) ?_
  refine GL.seq ?_
  refine GL.region ?_
  refine RL.binI (v := .bool (decide ((i35 : Int) < ((x0).length : Int)))) rfl rfl rfl rfl rfl ?_
  refine RL.finG ?_
  refine GL.seq ?_
  refine GL.cond rfl (fun b43 => ?_) (fun b43 => ?_)
  ·have h44 : i35 < (x0).length := by have := of_decide_eq_true b43; omega
   obtain ⟨y45, r47, hr, e46, h48⟩ := drop_cons h42 rfl h44
   subst hr
   obtain ⟨z37, h38, h39⟩ := rangeL_some h40
   unfold trade_Check_b1 at h38
   try dsimp only at h38
   refine GL.skip ?_
   refine GL.seq ?_
   refine GL.block ?_
   refine GL.seq ?_
   refine GL.region ?_
   refine RL.idxS (sz := 1) 0 Try.underlying37 Try_ln24 rfl rfl rfl rfl rfl SlOf.imm (by omega) (by omega) ?_
   refine RL.ldS (i := i35) (r := (TR.sl TR.int)) (e' := y45) 0 Try_ln24 rfl rfl rfl rfl SlOf.imm e46 Part.self ?_
   intro v50
   refine RL.asg rfl rfl rfl ?_
   refine RL.finG ?_
   refine GL.seq ?_
   refine GL.region ?_
   refine RL.mv rfl rfl rfl ?_
   refine RL.mv rfl rfl rfl ?_
   obtain ⟨y53, e54, h38⟩ := bind_some h38
   refine RL.callV (v := .int .i64 y53) (vs := [.int .i64 ((x0).length : Int), v50]) Try_fit126 rfl (Or.inl rfl) rfl rfl rfl rfl (fun U w hU hW hL => order_Check_c U w hU ((x0).length : Int) _ _ (hL 1 _ _ rfl Seen.imm) _ e54) ?_
   refine RL.binI (v := .bool (y53 != (0 : Int))) rfl rfl rfl rfl rfl ?_
   refine RL.finG ?_
   refine GL.cond rfl (fun b55 => ?_) (fun b55 => ?_)
   ·replace h38 := ite_t b55 h38
    refine GL.seq ?_
    refine GL.region ?_
    refine RL.asg rfl rfl rfl ?_
    refine RL.finG ?_
    cases h38
    replace h39 : some (Fl.rt _) = some y28 := h39
    cases h39
    have hh := h33 _ h31
    subst hh
    exact GL.ret (Gx.ret (v := .int .i64 (3 : Int)) (res1 rfl rfl) (fun a w st => st.toPostV))
   replace h38 := ite_f b55 h38
   refine GL.skip ?_
   refine GL.nilB ?_
   refine GL.region ?_
   refine RL.binI (v := .int .i64 ((i35 + 1 : Nat) : Int)) rfl rfl rfl rfl (binI_succ i35 (by omega)) ?_
   refine RL.mv rfl rfl rfl ?_
   refine RL.fin ?_
   cases h38
   exact fun a w st => lop_intro (i35 + 1, r47) ⟨by show i35 + 1 + r47.length = (x0).length; simp only [List.length_cons] at h41; omega, h48, h39⟩ (by simp) (St.cut [0] ⟨rfl, rfl, rfl, rfl, trivial⟩ (by decide) rfl st)
  have h44 : ¬ i35 < (x0).length := by have := of_decide_eq_false b43; omega
  obtain rfl : r36 = [] := by rw [← h42]; exact List.drop_of_length_le (by omega)
  replace h40 : some (Fl.nx _) = some y28 := h40
  cases h40
  exact GL.exit (fun a w st => mid_intro () h31 (St.cut [] trivial (by decide) rfl st))
 rintro ⟨⟩ h56
 have h57 := h32 _ h56
 try dsimp only at h57
 refine GL.weak (env' := []) (L' := []) (fun _ _ st => st) ?_
 refine GL.seq ?_
 refine GL.region ?_
 refine RL.asg rfl rfl rfl ?_
 refine RL.finG ?_
 have h57 := Option.some.inj h57
 subst h57
 exact GL.ret (Gx.ret (v := .int .i64 (0 : Int)) (res1 rfl rfl) (fun a w st => st.toPostV))

set_option maxHeartbeats 4000000 in
theorem trade_Swap_1_c (S : Hp) (w : World) (hS : S.sub w) (x0 : Int) (v1 : Value) (x1 : (List (List Int))) (k1 : ((TR.ptr (TR.sl (TR.sl TR.int)))).vrep S v1 x1) (v2 : Value) (x2 : (List Int)) (k2 : ((TR.ptr (TR.sl TR.int))).vrep S v2 x2) (res : Int) (hm : trade_Swap_1_m x0 x1 x2 = some res) : Calls Try.prog 123 #[.int .i64 x0, v1, v2] w (PostC w (.int .i64 res)) := by
 refine calls_enter 24 Try.func123 Try.ntmps123 rfl S true [(0, .int .i64 x0), (1, v1), (2, v2)] [imm (TR.ptr (TR.sl (TR.sl TR.int))) v1 x1, imm (TR.ptr (TR.sl TR.int)) v2 x2] rfl ⟨rfl, ⟨rfl, ⟨rfl, trivial⟩⟩⟩ hS ⟨k1, ⟨k2, trivial⟩⟩ ?_
 unfold trade_Swap_1_m at hm
 refine GL.seq ?_
 refine GL.region ?_
 refine RL.asg rfl rfl rfl ?_
 refine RL.finG ?_
 refine GL.seq ?_
 refine GL.seq ?_
 refine GL.region ?_
 refine RL.ldP (off := 0) (r := (TR.sl (TR.sl TR.int))) (e' := x1) 0 Try_ln37 rfl rfl (Or.inr ⟨rfl, rfl⟩) rfl PtOf.imm Part.self ?_
 intro v8
 refine RL.mv rfl rfl rfl ?_
 obtain ⟨y9, e10, hm⟩ := bind_some hm
 refine RL.idxS (sz := 1) 2 Try.underlying37 Try_ln24 rfl rfl rfl rfl rfl SlOf.imm (idx_some e10).1 (idx_some e10).2.1 ?_
 refine RL.ldS (i := (x0).toNat) (r := (TR.sl TR.int)) (e' := y9) 2 Try_ln24 rfl rfl rfl rfl SlOf.imm (idx_some e10).2.2 Part.self ?_
 intro v11
 refine RL.reL (L' := [imm (TR.ptr (TR.sl (TR.sl TR.int))) v1 x1, imm (TR.ptr (TR.sl TR.int)) v2 x2, imm (TR.sl (TR.sl TR.int)) v8 x1, imm (TR.sl TR.int) v11 y9]) rfl ?_
 refine RL.lenS 3 Try.underlying24 rfl rfl rfl rfl SlOf.imm ?_
 refine RL.mv rfl rfl rfl ?_
 refine RL.finG ?_
 refine GL.open_ 3 rfl (fun S h => len_imm S h) (fun n23 => ?_)
 obtain ⟨y24, K25, h26, h27, h28, h29, h30⟩ := bindR_K hm
 refine GL.join (ι := Unit) (fun (p : Unit) => [(0, .int .i64 x0)]) (fun (p : Unit) => []) (fun (p : Unit) => K25 (.nx ())) ?_ ?_
 ·refine GL.block ?_
  refine GL.loop (ι := Nat × (List Int)) (fun (p : Nat × (List Int)) => [(0, .int .i64 x0), (2, v2), (10, v11), (11, .int .i64 ((y9).length : Int)), (12, .int .i64 (p.1 : Int))]) (fun (p : Nat × (List Int)) => [imm (TR.ptr (TR.sl TR.int)) v2 x2, imm (TR.sl TR.int) v11 y9]) (fun (p : Nat × (List Int)) => p.1 + p.2.length = (y9).length ∧ List.drop p.1 y9 = p.2 ∧ rangeL (trade_Swap_1_b1 x2) p.2 p.1 () = some y24) (fun (p : Nat × (List Int)) => p.2.length) (0, y9) ⟨by simp, by simp, h26⟩ (fun a w st => St.cut [1, 3] ⟨rfl, rfl, rfl, rfl, rfl, trivial⟩ (by decide) rfl st) ?_
  rintro ⟨i31, r32⟩ ⟨h37, h38, h36⟩
  try dsimp only at h37 h38 h36
  refine GL.weak (env' := [(0, .int .i64 x0), (2, v2), (10, v11), (11, .int .i64 ((y9).length : Int)), (12, .int .i64 (i31 : Int))]) (L' := [imm (TR.ptr (TR.sl TR.int)) v2 x2, imm (TR.sl TR.int) v11 y9]) (fun _ _ st => st) ?_
  refine GL.seq ?_
  refine GL.region ?_
  refine RL.binI (v := .bool (decide ((i31 : Int) < ((y9).length : Int)))) rfl rfl rfl rfl rfl ?_
  refine RL.finG ?_
  refine GL.seq ?_
  refine GL.cond rfl (fun b39 => ?_) (fun b39 => ?_)
  ·have h40 : i31 < (y9).length := by have := of_decide_eq_true b39; omega
   obtain ⟨y41, r43, hr, e42, h44⟩ := drop_cons h38 rfl h40
   subst hr
   obtain ⟨z33, h34, h35⟩ := rangeL_some h36
   unfold trade_Swap_1_b1 at h34
   try dsimp only at h34
   refine GL.skip ?_
   refine GL.seq ?_
   refine GL.block ?_
   refine GL.seq ?_
   refine GL.region ?_
   refine RL.idxS (sz := 1) 1 Try.underlying24 Try_ln3 rfl rfl rfl rfl rfl SlOf.imm (by omega) (by omega) ?_
   refine RL.ldSx (i := i31) (e' := y41) 1 Ex.ik Try_ln3 rfl rfl rfl rfl SlOf.imm e42 Part.self ?_
   refine RL.asg rfl rfl rfl ?_
   refine RL.finG ?_
   refine GL.seq ?_
   refine GL.region ?_
   refine RL.ldP (off := 0) (r := (TR.sl TR.int)) (e' := x2) 0 Try_ln24 rfl rfl (Or.inr ⟨rfl, rfl⟩) rfl PtOf.imm Part.self ?_
   intro v48
   refine RL.mv rfl rfl rfl ?_
   obtain ⟨y49, e50, h34⟩ := bind_some h34
   refine RL.idxS (sz := 1) 2 Try.underlying24 Try_ln3 rfl rfl rfl rfl rfl SlOf.imm (idx_some e50).1 (idx_some e50).2.1 ?_
   refine RL.ldSx (i := (y41).toNat) (e' := y49) 2 Ex.ik Try_ln3 rfl rfl rfl rfl SlOf.imm (idx_some e50).2.2 Part.self ?_
   refine RL.binI (v := .bool (y49 == (0 : Int))) rfl rfl rfl rfl rfl ?_
   refine RL.finG ?_
   refine GL.cond rfl (fun b51 => ?_) (fun b51 => ?_)
   ·replace h34 := ite_t b51 h34
    refine GL.seq ?_
    refine GL.region ?_
    refine RL.mv rfl rfl rfl ?_
    refine RL.asg rfl rfl rfl ?_
    refine RL.finG ?_
    cases h34
    replace h35 : some (Fl.rt _) = some y24 := h35
    cases h35
    have hh := h29 _ h27
    subst hh
    exact GL.ret (Gx.ret (v := .int .i64 y41) (res1 rfl rfl) (fun a w st => st.toPostC rfl))
   replace h34 := ite_f b51 h34
   refine GL.skip ?_
   refine GL.nilB ?_
   refine GL.region ?_
   refine RL.binI (v := .int .i64 ((i31 + 1 : Nat) : Int)) rfl rfl rfl rfl (binI_succ i31 (by omega)) ?_
   refine RL.mv rfl rfl rfl ?_
   refine RL.fin ?_
   cases h34
   exact fun a w st => lop_intro (i31 + 1, r43) ⟨by show i31 + 1 + r43.length = (y9).length; simp only [List.length_cons] at h37; omega, h44, h35⟩ (by simp) (St.cut [0, 1] ⟨rfl, rfl, rfl, rfl, rfl, trivial⟩ (by decide) rfl st)
  have h40 : ¬ i31 < (y9).length := by have := of_decide_eq_false b39; omega
  obtain rfl : r32 = [] := by rw [← h38]; exact List.drop_of_length_le (by omega)
  replace h36 : some (Fl.nx _) = some y24 := h36
  cases h36
  exact GL.exit (fun a w st => mid_intro () h27 (St.cut [] ⟨rfl, trivial⟩ (by decide) rfl st))
 rintro ⟨⟩ h52
 have h53 := h28 _ h52
 try dsimp only at h53
 refine GL.weak (env' := [(0, .int .i64 x0)]) (L' := []) (fun _ _ st => st) ?_
 refine GL.seq ?_
 refine GL.region ?_
 refine RL.mv rfl rfl rfl ?_
 refine RL.asg rfl rfl rfl ?_
 refine RL.finG ?_
 have h53 := Option.some.inj h53
 subst h53
 exact GL.ret (Gx.ret (v := .int .i64 x0) (res1 rfl rfl) (fun a w st => st.toPostC rfl))

set_option maxHeartbeats 4000000 in
theorem trade_Swap_c (S : Hp) (w : World) (hS : S.sub w) (v0 : Value) (x0 : (List (List Int))) (k0 : ((TR.sl (TR.sl TR.int))).vrep S v0 x0) (res : (List Int) × (List (List Int)) × Int) (hm : trade_Swap_m x0 = some res) : Calls Try.prog 68 #[v0] w (Post w S (fun (o : Value × Value) => .tuple #[o.1, o.2, .int .i64 res.2.2]) (fun (o : Value × Value) => [own 3 TR.int o.1 res.1, own 24 (TR.sl TR.int) o.2 res.2.1])) := by
 refine calls_enter 110 Try.func68 Try.ntmps68 rfl S false [(0, v0)] [imm (TR.sl (TR.sl TR.int)) v0 x0] rfl ⟨rfl, trivial⟩ hS ⟨k0, trivial⟩ ?_
 unfold trade_Swap_m at hm
 refine GL.seq ?_
 refine GL.region ?_
 refine RL.box (t := (TR.sl (TR.sl TR.int))) (e := x0) rfl rfl rfl rfl (VR.item 0 rfl) ?_
 intro v3
 refine RL.asg rfl rfl rfl ?_
 refine RL.asg rfl rfl rfl ?_
 refine RL.asg rfl rfl rfl ?_
 refine RL.finG ?_
 refine GL.seq ?_
 refine GL.seq ?_
 refine GL.region ?_
 refine RL.ldP (off := 0) (r := (TR.sl (TR.sl TR.int))) (e' := x0) 1 Try_ln37 rfl rfl (Or.inr ⟨rfl, rfl⟩) rfl PtOf.obox Part.self ?_
 intro v7
 refine RL.reL (L' := [imm (TR.sl (TR.sl TR.int)) v0 x0, obox 37 (TR.sl (TR.sl TR.int)) v3 x0, imm (TR.sl (TR.sl TR.int)) v7 x0]) rfl ?_
 obtain ⟨y8, e9, hm⟩ := bind_some hm
 refine RL.callV (v := .int .i64 y8) (vs := [v7]) Try_fit122 rfl (Or.inl rfl) rfl rfl rfl rfl (fun U w hU hW hL => trade_Check_c U w hU _ _ (hL 2 _ _ rfl Seen.imm) _ e9) ?_
 refine RL.asg rfl rfl rfl ?_
 refine RL.finG ?_
 refine GL.seq ?_
 refine GL.region ?_
 refine RL.mv rfl rfl rfl ?_
 refine RL.binI (v := .bool (y8 != (0 : Int))) rfl rfl rfl rfl rfl ?_
 refine RL.finG ?_
 refine GL.cond rfl (fun b10 => ?_) (fun b10 => ?_)
 ·replace hm := ite_t b10 hm
  refine GL.seq ?_
  refine GL.region ?_
  refine RL.mv rfl rfl rfl ?_
  refine RL.asg rfl rfl rfl ?_
  refine RL.asg rfl rfl rfl ?_
  refine RL.asg rfl rfl rfl ?_
  refine RL.finG ?_
  refine GL.weak (fun a w st => st.nilOwn 3 TR.int) ?_
  refine GL.weak (fun a w st => st.nilOwn 24 (TR.sl TR.int)) ?_
  have hm := Option.some.inj hm
  subst hm
  exact GL.ret (Gx.ret (v := .tuple #[Value.slice none 0 0, Value.slice none 0 0, .int .i64 y8]) (res3 rfl rfl rfl rfl) (fun a w st => (st.pick [3, 4] (by decide) rfl).toPost (Value.slice none 0 0, Value.slice none 0 0)))
 replace hm := ite_f b10 hm
 refine GL.skip ?_
 refine GL.seq ?_
 refine GL.region ?_
 refine RL.ldP (off := 0) (r := (TR.sl (TR.sl TR.int))) (e' := x0) 1 Try_ln37 rfl rfl (Or.inr ⟨rfl, rfl⟩) rfl PtOf.obox Part.self ?_
 intro v12
 refine RL.lenS 3 Try.underlying37 rfl rfl rfl rfl SlOf.imm ?_
 refine RL.asg rfl rfl rfl ?_
 refine RL.finG ?_
 refine GL.seq ?_
 refine GL.region ?_
 refine RL.mv rfl rfl rfl ?_
 obtain ⟨y16, e17, hm⟩ := bind_some hm
 replace e17 := chk_some e17
 refine RL.mkS (t := TR.int) (z := (0 : Int)) Try.underlying24 Try_lo3 (fun S => rfl) rfl rfl rfl rfl e17.1 e17.2 ?_
 intro v18
 refine RL.reL (L' := [imm (TR.sl (TR.sl TR.int)) v0 x0, obox 37 (TR.sl (TR.sl TR.int)) v3 x0, imm (TR.sl (TR.sl TR.int)) v7 x0, imm (TR.sl (TR.sl TR.int)) v12 x0, own 3 TR.int v18 (List.replicate (((x0).length : Int)).toNat (0 : Int))]) rfl ?_
 refine RL.asg rfl rfl rfl ?_
 refine RL.finG ?_
 refine GL.seq ?_
 refine GL.seq ?_
 refine GL.region ?_
 refine RL.mv rfl rfl rfl ?_
 refine RL.lenS 4 Try.underlying24 rfl rfl rfl rfl SlOf.own ?_
 refine RL.mv rfl rfl rfl ?_
 refine RL.finG ?_
 refine GL.lenOwn 4 rfl (fun n28 => ?_)
 obtain ⟨y29, K30, h31, h32, h33, h34, h35⟩ := bindR_K hm
 refine GL.join (ι := (List Int)) (fun (p : (List Int)) => [(1, v3), (6, .int .i64 ((x0).length : Int)), (7, v18)]) (fun (p : (List Int)) => [obox 37 (TR.sl (TR.sl TR.int)) v3 x0, own 3 TR.int v18 p]) (fun (p : (List Int)) => K30 (.nx p)) ?_ ?_
 ·refine GL.block ?_
  refine GL.loop (ι := Nat × Nat × (List Int)) (fun (p : Nat × Nat × (List Int)) => [(1, v3), (6, .int .i64 ((x0).length : Int)), (7, v18), (30, .int .i64 (((List.replicate (((x0).length : Int)).toNat (0 : Int))).length : Int)), (31, .int .i64 (p.1 : Int))]) (fun (p : Nat × Nat × (List Int)) => [obox 37 (TR.sl (TR.sl TR.int)) v3 x0, own 3 TR.int v18 p.2.2]) (fun (p : Nat × Nat × (List Int)) => p.1 + p.2.1 = ((List.replicate (((x0).length : Int)).toNat (0 : Int))).length ∧ rangeN trade_Swap_b1 p.2.1 p.1 p.2.2 = some y29) (fun (p : Nat × Nat × (List Int)) => p.2.1) (0, ((List.replicate (((x0).length : Int)).toNat (0 : Int))).length, (List.replicate (((x0).length : Int)).toNat (0 : Int))) ⟨by simp, h31⟩ (fun a w st => St.cut [1, 4] ⟨rfl, rfl, rfl, rfl, rfl, trivial⟩ (by decide) rfl st) ?_
  rintro ⟨i36, r37, l23⟩ ⟨h42, h41⟩
  try dsimp only at h42 h41
  refine GL.weak (env' := [(1, v3), (6, .int .i64 ((x0).length : Int)), (7, v18), (30, .int .i64 (((List.replicate (((x0).length : Int)).toNat (0 : Int))).length : Int)), (31, .int .i64 (i36 : Int))]) (L' := [obox 37 (TR.sl (TR.sl TR.int)) v3 x0, own 3 TR.int v18 l23]) (fun _ _ st => st) ?_
  refine GL.seq ?_
  refine GL.region ?_
  refine RL.binI (v := .bool (decide ((i36 : Int) < (((List.replicate (((x0).length : Int)).toNat (0 : Int))).length : Int)))) rfl rfl rfl rfl rfl ?_
  refine RL.finG ?_
  refine GL.seq ?_
  refine GL.cond rfl (fun b44 => ?_) (fun b44 => ?_)
  ·have h45 : i36 < ((List.replicate (((x0).length : Int)).toNat (0 : Int))).length := by have := of_decide_eq_true b44; omega
   obtain ⟨r46, hr⟩ : ∃ m, r37 = m + 1 := ⟨r37 - 1, by omega⟩
   subst hr
   obtain ⟨z38, h39, h40⟩ := rangeN_some h41
   unfold trade_Swap_b1 at h39
   try dsimp only at h39
   refine GL.skip ?_
   refine GL.seq ?_
   refine GL.block ?_
   refine GL.seq ?_
   refine GL.region ?_
   refine RL.mv rfl rfl rfl ?_
   refine RL.asg rfl rfl rfl ?_
   refine RL.finG ?_
   refine GL.region ?_
   refine RL.mv rfl rfl rfl ?_
   refine RL.mv rfl rfl rfl ?_
   obtain ⟨y49, e50, h39⟩ := bind_some h39
   refine RL.idxS (sz := 1) 1 Try.underlying24 Try_ln3 rfl rfl rfl rfl rfl SlOf.own (idx_some e50).1 (idx_some e50).2.1 ?_
   refine RL.stS (i := i36) (e' := (-1 : Int)) (e1 := (-1 : Int)) (r := TR.int) 1 Try_ln3 rfl rfl rfl rfl VR.int rfl (idx_some e50).2.2 Upd.self ?_
   refine RL.finG ?_
   refine GL.nilB ?_
   refine GL.region ?_
   refine RL.binI (v := .int .i64 ((i36 + 1 : Nat) : Int)) rfl rfl rfl rfl (binI_succ i36 (by omega)) ?_
   refine RL.mv rfl rfl rfl ?_
   refine RL.fin ?_
   cases h39
   exact fun a w st => lop_intro (i36 + 1, r46, (List.set l23 i36 (-1 : Int))) ⟨by show i36 + 1 + r46 = ((List.replicate (((x0).length : Int)).toNat (0 : Int))).length; omega, h40⟩ (by simp) (St.cut [0, 1] ⟨rfl, rfl, rfl, rfl, rfl, trivial⟩ (by decide) rfl st)
  have h45 : ¬ i36 < ((List.replicate (((x0).length : Int)).toNat (0 : Int))).length := by have := of_decide_eq_false b44; omega
  obtain rfl : r37 = 0 := by omega
  replace h41 : some (Fl.nx _) = some y29 := h41
  cases h41
  exact GL.exit (fun a w st => mid_intro l23 h32 (St.cut [0, 1] ⟨rfl, rfl, rfl, trivial⟩ (by decide) rfl st))
 rintro l23 h51
 have h52 := h33 _ h51
 try dsimp only at h52
 refine GL.weak (env' := [(1, v3), (6, .int .i64 ((x0).length : Int)), (7, v18)]) (L' := [obox 37 (TR.sl (TR.sl TR.int)) v3 x0, own 3 TR.int v18 l23]) (fun _ _ st => st) ?_
 refine GL.seq ?_
 refine GL.region ?_
 refine RL.mv rfl rfl rfl ?_
 obtain ⟨y57, e58, h52⟩ := bind_some h52
 replace e58 := chk_some e58
 refine RL.mkS (t := TR.int) (z := (0 : Int)) Try.underlying24 Try_lo3 (fun S => rfl) rfl rfl rfl rfl e58.1 e58.2 ?_
 intro v59
 refine RL.alloc (t := TR.raw) (z := .slice none 0 0) Try_lo24 (fun S => ⟨rfl, rfl⟩) rfl rfl rfl ?_
 intro v60
 refine RL.reL (L' := [obox 37 (TR.sl (TR.sl TR.int)) v3 x0, own 3 TR.int v18 l23, own 3 TR.int v59 (List.replicate (((x0).length : Int)).toNat (0 : Int)), obox 24 TR.raw v60 (Value.slice none 0 0)]) rfl ?_
 refine RL.stP (off := 0) (e' := v59) (d1 := v59) (r := TR.raw) 3 Try_ln24 rfl rfl (Or.inr ⟨rfl, rfl⟩) rfl (VR.rawOf 2 rfl SlOf.own) rfl Upd.self ?_
 refine RL.finG ?_
 refine GL.seq ?_
 refine GL.region ?_
 refine RL.mkF (vs := [v3, v60]) rfl rfl rfl ?_
 refine RL.asg rfl rfl rfl ?_
 refine RL.finG ?_
 refine GL.seq ?_
 refine GL.region ?_
 refine RL.asg rfl rfl rfl ?_
 refine RL.finG ?_
 refine GL.seq ?_
 refine GL.seq ?_
 refine GL.region ?_
 refine RL.mv rfl rfl rfl ?_
 refine RL.asg rfl rfl rfl ?_
 refine RL.finG ?_
 refine GL.weak (fun a w st => st.nilOwn 24 (TR.sl TR.int)) ?_
 obtain ⟨y577, K578, h579, h580, h581, h582, h583⟩ := bindR_K h52
 refine GL.join (ι := (List Int) × (List Int) × (List (List Int)) × Int × Value) (fun (p : (List Int) × (List Int) × (List (List Int)) × Int × Value) => [(7, v18), (11, p.2.2.2.2)]) (fun (p : (List Int) × (List Int) × (List (List Int)) × Int × Value) => [own 3 TR.int v18 p.1, own 24 (TR.sl TR.int) p.2.2.2.2 p.2.2.1]) (fun (p : (List Int) × (List Int) × (List (List Int)) × Int × Value) => K578 (.nx (p.1, p.2.1, p.2.2.1, p.2.2.2.1))) ?_ ?_
 ·refine GL.block ?_
  refine GL.loop (ι := Nat × (List Int) × (List Int) × (List (List Int)) × Int × Value) (fun (p : Nat × (List Int) × (List Int) × (List (List Int)) × Int × Value) => [(6, .int .i64 ((x0).length : Int)), (7, v18), (9, v60), (10, .func (.func 123) #[] #[v3, v60]), (11, p.2.2.2.2.2), (12, .int .i64 p.2.2.2.2.1)]) (fun (p : Nat × (List Int) × (List Int) × (List (List Int)) × Int × Value) => [own 3 TR.int v18 p.2.1, own 3 TR.int v59 p.2.2.1, obox 24 TR.raw v60 v59, obox 37 (TR.sl (TR.sl TR.int)) v3 x0, own 24 (TR.sl TR.int) p.2.2.2.2.2 p.2.2.2.1]) (fun (p : Nat × (List Int) × (List Int) × (List (List Int)) × Int × Value) => loopM (trade_Swap_b2 x0) p.1 (p.2.1, p.2.2.1, p.2.2.2.1, p.2.2.2.2.1) = some y577) (fun (p : Nat × (List Int) × (List Int) × (List (List Int)) × Int × Value) => p.1) (1048576, l23, (List.replicate (((x0).length : Int)).toNat (0 : Int)), [], ((x0).length : Int), Value.slice none 0 0) h579 (fun a w st => St.cut [1, 2, 3, 0, 4] ⟨rfl, rfl, rfl, rfl, rfl, rfl, trivial⟩ (by decide) rfl st) ?_
  rintro ⟨r585, l318, l319, l320, x322, v321⟩ h589
  try dsimp only at h589
  refine GL.weak (env' := [(6, .int .i64 ((x0).length : Int)), (7, v18), (9, v60), (10, .func (.func 123) #[] #[v3, v60]), (11, v321), (12, .int .i64 x322)]) (L' := [own 3 TR.int v18 l318, own 3 TR.int v59 l319, obox 24 TR.raw v60 v59, obox 37 (TR.sl (TR.sl TR.int)) v3 x0, own 24 (TR.sl TR.int) v321 l320]) (fun _ _ st => st) ?_
  obtain ⟨r592, z586, hr, h587, h588⟩ := loopM_some h589
  subst hr
  unfold trade_Swap_b2 at h587
  try dsimp only at h587
  refine GL.seq ?_
  refine GL.seq ?_
  refine GL.region ?_
  refine RL.mv rfl rfl rfl ?_
  refine RL.binI (v := .bool (decide (x322 > (0 : Int)))) rfl rfl rfl rfl rfl ?_
  refine RL.finG ?_
  refine GL.cond rfl (fun b593 => ?_) (fun b593 => ?_)
  ·replace h587 := ite_t b593 h587
   refine GL.skip ?_
   refine GL.block ?_
   refine GL.seq ?_
   refine GL.region ?_
   refine RL.asg rfl rfl rfl ?_
   refine RL.finG ?_
   refine GL.seq ?_
   refine GL.seq ?_
   refine GL.region ?_
   refine RL.mv rfl rfl rfl ?_
   refine RL.mv rfl rfl rfl ?_
   refine RL.finG ?_
   refine GL.weak (fun a w st => st.nilOwn 3 TR.int) ?_
   obtain ⟨y649, e650, h587⟩ := bind_some h587
   replace e650 := chk_some e650
   obtain ⟨y651, K652, h653, h654, h655, h656, h657⟩ := bindF_K h587
   refine GL.join (ι := (List Int) × Value) (fun (p : (List Int) × Value) => [(6, .int .i64 ((x0).length : Int)), (7, v18), (9, v60), (10, .func (.func 123) #[] #[v3, v60]), (11, v321), (12, .int .i64 x322), (13, p.2)]) (fun (p : (List Int) × Value) => [own 3 TR.int v18 l318, obox 24 TR.raw v60 v59, own 3 TR.int v59 l319, obox 37 (TR.sl (TR.sl TR.int)) v3 x0, own 24 (TR.sl TR.int) v321 l320, own 3 TR.int p.2 p.1]) (fun (p : (List Int) × Value) => K652 (.nx p.1)) ?_ ?_
   ·refine GL.block ?_
    refine GL.loop (ι := Nat × Nat × (List Int) × Value) (fun (p : Nat × Nat × (List Int) × Value) => [(6, .int .i64 ((x0).length : Int)), (7, v18), (9, v60), (10, .func (.func 123) #[] #[v3, v60]), (11, v321), (12, .int .i64 x322), (13, p.2.2.2), (44, .int .i64 ((x0).length : Int)), (45, .int .i64 (p.1 : Int))]) (fun (p : Nat × Nat × (List Int) × Value) => [own 3 TR.int v18 l318, own 3 TR.int v59 l319, obox 24 TR.raw v60 v59, obox 37 (TR.sl (TR.sl TR.int)) v3 x0, own 24 (TR.sl TR.int) v321 l320, own 3 TR.int p.2.2.2 p.2.2.1]) (fun (p : Nat × Nat × (List Int) × Value) => p.1 + p.2.1 = (((x0).length : Int)).toNat ∧ rangeN (trade_Swap_b3 l318 x0 l319) p.2.1 p.1 p.2.2.1 = some y651) (fun (p : Nat × Nat × (List Int) × Value) => p.2.1) (0, (((x0).length : Int)).toNat, [], Value.slice none 0 0) ⟨by simp, h653⟩ (fun a w st => St.cut [0, 1, 2, 3, 4, 5] ⟨rfl, rfl, rfl, rfl, rfl, rfl, rfl, rfl, rfl, trivial⟩ (by decide) rfl st) ?_
    rintro ⟨i658, r659, l594, v595⟩ ⟨h664, h663⟩
    try dsimp only at h664 h663
    refine GL.weak (env' := [(6, .int .i64 ((x0).length : Int)), (7, v18), (9, v60), (10, .func (.func 123) #[] #[v3, v60]), (11, v321), (12, .int .i64 x322), (13, v595), (44, .int .i64 ((x0).length : Int)), (45, .int .i64 (i658 : Int))]) (L' := [own 3 TR.int v18 l318, own 3 TR.int v59 l319, obox 24 TR.raw v60 v59, obox 37 (TR.sl (TR.sl TR.int)) v3 x0, own 24 (TR.sl TR.int) v321 l320, own 3 TR.int v595 l594]) (fun _ _ st => st) ?_
    refine GL.seq ?_
    refine GL.region ?_
    refine RL.binI (v := .bool (decide ((i658 : Int) < ((x0).length : Int)))) rfl rfl rfl rfl rfl ?_
    refine RL.finG ?_
    refine GL.seq ?_
    refine GL.cond rfl (fun b666 => ?_) (fun b666 => ?_)
    ·have h667 : i658 < (((x0).length : Int)).toNat := by have := of_decide_eq_true b666; omega
     obtain ⟨r668, hr⟩ : ∃ m, r659 = m + 1 := ⟨r659 - 1, by omega⟩
     subst hr
     obtain ⟨z660, h661, h662⟩ := rangeN_some h663
     unfold trade_Swap_b3 at h661
     try dsimp only at h661
     refine GL.skip ?_
     refine GL.seq ?_
     refine GL.block ?_
     refine GL.seq ?_
     refine GL.region ?_
     refine RL.mv rfl rfl rfl ?_
     refine RL.asg rfl rfl rfl ?_
     refine RL.finG ?_
     refine GL.seq ?_
     refine GL.seq ?_
     refine GL.region ?_
     refine RL.mv rfl rfl rfl ?_
     refine RL.mv rfl rfl rfl ?_
     obtain ⟨y671, e672, h661⟩ := bind_some h661
     refine RL.idxS (sz := 1) 0 Try.underlying24 Try_ln3 rfl rfl rfl rfl rfl SlOf.own (idx_some e672).1 (idx_some e672).2.1 ?_
     refine RL.ldSx (i := i658) (e' := y671) 0 Ex.ik Try_ln3 rfl rfl rfl rfl SlOf.own (idx_some e672).2.2 Part.self ?_
     refine RL.binI (v := .bool (decide (y671 ≥ (0 : Int)))) rfl rfl rfl rfl rfl ?_
     refine RL.finG ?_
     refine GL.cond rfl (fun b673 => ?_) (fun b673 => ?_)
     ·replace h661 := ite_t b673 h661
      refine GL.exit ?_
      refine Gx.here ?_
      refine GL.region ?_
      refine RL.binI (v := .int .i64 ((i658 + 1 : Nat) : Int)) rfl rfl rfl rfl (binI_succ i658 (by omega)) ?_
      refine RL.mv rfl rfl rfl ?_
      refine RL.fin ?_
      cases h661
      exact fun a w st => lop_intro (i658 + 1, r668, l594, v595) ⟨by show i658 + 1 + r668 = (((x0).length : Int)).toNat; omega, h662⟩ (by simp) (St.cut [0, 1, 2, 3, 4, 5] ⟨rfl, rfl, rfl, rfl, rfl, rfl, rfl, rfl, rfl, trivial⟩ (by decide) rfl st)
     replace h661 := ite_f b673 h661
     refine GL.skip ?_
     refine GL.seq ?_
     refine GL.region ?_
     refine RL.mv rfl rfl rfl ?_
     refine RL.mv rfl rfl rfl ?_
     obtain ⟨y676, e677, h661⟩ := bind_some h661
     refine RL.callC (v := .int .i64 y676) (vs := [.int .i64 (i658 : Int)]) Try_fit123 rfl rfl rfl rfl (fun U w hU hW hL => trade_Swap_1_c U w hU (i658 : Int) _ _ (hL 3 _ _ rfl Seen.obox) _ _ (ptr_raw (hL 2 _ _ rfl Seen.obox) rfl (hL 1 _ _ rfl Seen.own)) _ e677) ?_
     refine RL.asg rfl rfl rfl ?_
     refine RL.finG ?_
     refine GL.seq ?_
     refine GL.seq ?_
     refine GL.region ?_
     refine RL.mv rfl rfl rfl ?_
     refine RL.mv rfl rfl rfl ?_
     refine RL.finG ?_
     obtain ⟨y685, e686, h661⟩ := bind_some h661
     replace e686 := chk_some e686
     obtain ⟨y687, K688, h689, h690, h691, h692, h693⟩ := bindF_K h661
     refine GL.join (ι := Int) (fun (p : Int) => [(6, .int .i64 ((x0).length : Int)), (7, v18), (9, v60), (10, .func (.func 123) #[] #[v3, v60]), (11, v321), (12, .int .i64 x322), (13, v595), (14, .int .i64 (i658 : Int)), (15, .int .i64 p), (44, .int .i64 ((x0).length : Int)), (45, .int .i64 (i658 : Int))]) (fun (p : Int) => [own 3 TR.int v18 l318, obox 24 TR.raw v60 v59, own 3 TR.int v59 l319, obox 37 (TR.sl (TR.sl TR.int)) v3 x0, own 24 (TR.sl TR.int) v321 l320, own 3 TR.int v595 l594]) (fun (p : Int) => K688 (.nx p)) ?_ ?_
     ·refine GL.block ?_
      refine GL.loop (ι := Nat × Nat × Int) (fun (p : Nat × Nat × Int) => [(6, .int .i64 ((x0).length : Int)), (7, v18), (9, v60), (10, .func (.func 123) #[] #[v3, v60]), (11, v321), (12, .int .i64 x322), (13, v595), (14, .int .i64 (i658 : Int)), (15, .int .i64 p.2.2), (44, .int .i64 ((x0).length : Int)), (45, .int .i64 (i658 : Int)), (56, .int .i64 ((x0).length : Int)), (57, .int .i64 (p.1 : Int))]) (fun (p : Nat × Nat × Int) => [own 3 TR.int v18 l318, own 3 TR.int v59 l319, obox 24 TR.raw v60 v59, obox 37 (TR.sl (TR.sl TR.int)) v3 x0, own 24 (TR.sl TR.int) v321 l320, own 3 TR.int v595 l594]) (fun (p : Nat × Nat × Int) => p.1 + p.2.1 = (((x0).length : Int)).toNat ∧ rangeN (trade_Swap_b4 i658 x0 l319) p.2.1 p.1 p.2.2 = some y687) (fun (p : Nat × Nat × Int) => p.2.1) (0, (((x0).length : Int)).toNat, y676) ⟨by simp, h689⟩ (fun a w st => St.cut [0, 1, 2, 3, 4, 5] ⟨rfl, rfl, rfl, rfl, rfl, rfl, rfl, rfl, rfl, rfl, rfl, rfl, rfl, trivial⟩ (by decide) rfl st) ?_
      rintro ⟨i694, r695, x678⟩ ⟨h700, h699⟩
      try dsimp only at h700 h699
      refine GL.weak (env' := [(6, .int .i64 ((x0).length : Int)), (7, v18), (9, v60), (10, .func (.func 123) #[] #[v3, v60]), (11, v321), (12, .int .i64 x322), (13, v595), (14, .int .i64 (i658 : Int)), (15, .int .i64 x678), (44, .int .i64 ((x0).length : Int)), (45, .int .i64 (i658 : Int)), (56, .int .i64 ((x0).length : Int)), (57, .int .i64 (i694 : Int))]) (L' := [own 3 TR.int v18 l318, own 3 TR.int v59 l319, obox 24 TR.raw v60 v59, obox 37 (TR.sl (TR.sl TR.int)) v3 x0, own 24 (TR.sl TR.int) v321 l320, own 3 TR.int v595 l594]) (fun _ _ st => st) ?_
      refine GL.seq ?_
      refine GL.region ?_
      refine RL.binI (v := .bool (decide ((i694 : Int) < ((x0).length : Int)))) rfl rfl rfl rfl rfl ?_
      refine RL.finG ?_
      refine GL.seq ?_
      refine GL.cond rfl (fun b702 => ?_) (fun b702 => ?_)
      ·have h703 : i694 < (((x0).length : Int)).toNat := by have := of_decide_eq_true b702; omega
       obtain ⟨r704, hr⟩ : ∃ m, r695 = m + 1 := ⟨r695 - 1, by omega⟩
       subst hr
       obtain ⟨z696, h697, h698⟩ := rangeN_some h699
       unfold trade_Swap_b4 at h697
       try dsimp only at h697
       refine GL.skip ?_
       refine GL.seq ?_
       refine GL.block ?_
       refine GL.seq ?_
       refine GL.region ?_
       refine RL.mv rfl rfl rfl ?_
       refine RL.mv rfl rfl rfl ?_
       refine RL.binI (v := .bool (x678 != (i658 : Int))) rfl rfl rfl rfl rfl ?_
       refine RL.finG ?_
       refine GL.cond rfl (fun b705 => ?_) (fun b705 => ?_)
       ·replace h697 := ite_t b705 h697
        refine GL.region ?_
        refine RL.mv rfl rfl rfl ?_
        refine RL.mv rfl rfl rfl ?_
        obtain ⟨y708, e709, h697⟩ := bind_some h697
        refine RL.callC (v := .int .i64 y708) (vs := [.int .i64 x678]) Try_fit123 rfl rfl rfl rfl (fun U w hU hW hL => trade_Swap_1_c U w hU x678 _ _ (hL 3 _ _ rfl Seen.obox) _ _ (ptr_raw (hL 2 _ _ rfl Seen.obox) rfl (hL 1 _ _ rfl Seen.own)) _ e709) ?_
        refine RL.asg rfl rfl rfl ?_
        refine RL.finG ?_
        refine GL.nilB ?_
        refine GL.region ?_
        refine RL.binI (v := .int .i64 ((i694 + 1 : Nat) : Int)) rfl rfl rfl rfl (binI_succ i694 (by omega)) ?_
        refine RL.mv rfl rfl rfl ?_
        refine RL.fin ?_
        cases h697
        exact fun a w st => lop_intro (i694 + 1, r704, y708) ⟨by show i694 + 1 + r704 = (((x0).length : Int)).toNat; omega, h698⟩ (by simp) (St.cut [0, 1, 2, 3, 4, 5] ⟨rfl, rfl, rfl, rfl, rfl, rfl, rfl, rfl, rfl, rfl, rfl, rfl, rfl, trivial⟩ (by decide) rfl st)
       replace h697 := ite_f b705 h697
       refine GL.skip ?_
       refine GL.nilB ?_
       refine GL.region ?_
       refine RL.binI (v := .int .i64 ((i694 + 1 : Nat) : Int)) rfl rfl rfl rfl (binI_succ i694 (by omega)) ?_
       refine RL.mv rfl rfl rfl ?_
       refine RL.fin ?_
       cases h697
       exact fun a w st => lop_intro (i694 + 1, r704, x678) ⟨by show i694 + 1 + r704 = (((x0).length : Int)).toNat; omega, h698⟩ (by simp) (St.cut [0, 1, 2, 3, 4, 5] ⟨rfl, rfl, rfl, rfl, rfl, rfl, rfl, rfl, rfl, rfl, rfl, rfl, rfl, trivial⟩ (by decide) rfl st)
      have h703 : ¬ i694 < (((x0).length : Int)).toNat := by have := of_decide_eq_false b702; omega
      obtain rfl : r695 = 0 := by omega
      replace h699 : some (Fl.nx _) = some y687 := h699
      cases h699
      exact GL.exit (fun a w st => mid_intro x678 h690 (St.cut [0, 2, 1, 3, 4, 5] ⟨rfl, rfl, rfl, rfl, rfl, rfl, rfl, rfl, rfl, rfl, rfl, trivial⟩ (by decide) rfl st))
     rintro x678 h710
     have h711 := h691 _ h710
     try dsimp only at h711
     refine GL.weak (env' := [(6, .int .i64 ((x0).length : Int)), (7, v18), (9, v60), (10, .func (.func 123) #[] #[v3, v60]), (11, v321), (12, .int .i64 x322), (13, v595), (14, .int .i64 (i658 : Int)), (15, .int .i64 x678), (44, .int .i64 ((x0).length : Int)), (45, .int .i64 (i658 : Int))]) (L' := [own 3 TR.int v18 l318, obox 24 TR.raw v60 v59, own 3 TR.int v59 l319, obox 37 (TR.sl (TR.sl TR.int)) v3 x0, own 24 (TR.sl TR.int) v321 l320, own 3 TR.int v595 l594]) (fun _ _ st => st) ?_
     refine GL.seq ?_
     refine GL.region ?_
     refine RL.mv rfl rfl rfl ?_
     refine RL.mv rfl rfl rfl ?_
     refine RL.binI (v := .bool (x678 == (i658 : Int))) rfl rfl rfl rfl rfl ?_
     refine RL.finG ?_
     refine GL.cond rfl (fun b712 => ?_) (fun b712 => ?_)
     ·replace h711 := ite_t b712 h711
      refine GL.region ?_
      refine RL.mv rfl rfl rfl ?_
      refine RL.mv rfl rfl rfl ?_
      refine RL.bS (t := TR.int) (vs := [.int .i64 (i658 : Int)]) ([(i658 : Int)] : (List Int)) Try.underlying24 Try_lo3 rfl rfl rfl rfl ⟨VR.int, trivial⟩ rfl (by decide) ?_
      intro v717
      obtain ⟨y718, e719, h711⟩ := bind_some h711
      replace e719 := chk_some e719
      refine RL.app 5 6 Try.underlying24 Try_lo3 rfl rfl rfl rfl rfl rfl rfl SlOf.own e719 ?_
      intro v720
      refine RL.reL (L' := [own 3 TR.int v18 l318, obox 24 TR.raw v60 v59, own 3 TR.int v59 l319, obox 37 (TR.sl (TR.sl TR.int)) v3 x0, own 24 (TR.sl TR.int) v321 l320, own 3 TR.int v720 (l594 ++ ([(i658 : Int)] : (List Int))), own 3 TR.int v717 ([(i658 : Int)] : (List Int))]) rfl ?_
      refine RL.asg rfl rfl rfl ?_
      refine RL.finG ?_
      refine GL.nilB ?_
      refine GL.region ?_
      refine RL.binI (v := .int .i64 ((i658 + 1 : Nat) : Int)) rfl rfl rfl rfl (binI_succ i658 (by omega)) ?_
      refine RL.mv rfl rfl rfl ?_
      refine RL.fin ?_
      cases h711
      exact fun a w st => lop_intro (i658 + 1, r668, (l594 ++ ([(i658 : Int)] : (List Int))), v720) ⟨by show i658 + 1 + r668 = (((x0).length : Int)).toNat; omega, h662⟩ (by simp) (St.cut [0, 2, 1, 3, 4, 5] ⟨rfl, rfl, rfl, rfl, rfl, rfl, rfl, rfl, rfl, trivial⟩ (by decide) rfl st)
     replace h711 := ite_f b712 h711
     refine GL.skip ?_
     refine GL.nilB ?_
     refine GL.region ?_
     refine RL.binI (v := .int .i64 ((i658 + 1 : Nat) : Int)) rfl rfl rfl rfl (binI_succ i658 (by omega)) ?_
     refine RL.mv rfl rfl rfl ?_
     refine RL.fin ?_
     cases h711
     exact fun a w st => lop_intro (i658 + 1, r668, l594, v595) ⟨by show i658 + 1 + r668 = (((x0).length : Int)).toNat; omega, h662⟩ (by simp) (St.cut [0, 2, 1, 3, 4, 5] ⟨rfl, rfl, rfl, rfl, rfl, rfl, rfl, rfl, rfl, trivial⟩ (by decide) rfl st)
    have h667 : ¬ i658 < (((x0).length : Int)).toNat := by have := of_decide_eq_false b666; omega
    obtain rfl : r659 = 0 := by omega
    replace h663 : some (Fl.nx _) = some y651 := h663
    cases h663
    exact GL.exit (fun a w st => mid_intro (l594, v595) h654 (St.cut [0, 2, 1, 3, 4, 5] ⟨rfl, rfl, rfl, rfl, rfl, rfl, rfl, trivial⟩ (by decide) rfl st))
   rintro ⟨l594, v595⟩ h721
   have h722 := h655 _ h721
   try dsimp only at h722
   refine GL.weak (env' := [(6, .int .i64 ((x0).length : Int)), (7, v18), (9, v60), (10, .func (.func 123) #[] #[v3, v60]), (11, v321), (12, .int .i64 x322), (13, v595)]) (L' := [own 3 TR.int v18 l318, obox 24 TR.raw v60 v59, own 3 TR.int v59 l319, obox 37 (TR.sl (TR.sl TR.int)) v3 x0, own 24 (TR.sl TR.int) v321 l320, own 3 TR.int v595 l594]) (fun _ _ st => st) ?_
   refine GL.seq ?_
   refine GL.seq ?_
   refine GL.region ?_
   refine RL.mv rfl rfl rfl ?_
   refine RL.lenS 5 Try.underlying24 rfl rfl rfl rfl SlOf.own ?_
   refine RL.mv rfl rfl rfl ?_
   refine RL.finG ?_
   refine GL.lenOwn 5 rfl (fun n748 => ?_)
   obtain ⟨y749, K750, h751, h752, h753, h754, h755⟩ := bindF_K h722
   refine GL.join (ι := (List Int)) (fun (p : (List Int)) => [(6, .int .i64 ((x0).length : Int)), (7, v18), (9, v60), (10, .func (.func 123) #[] #[v3, v60]), (11, v321), (12, .int .i64 x322), (13, v595)]) (fun (p : (List Int)) => [own 3 TR.int v18 p, obox 24 TR.raw v60 v59, own 3 TR.int v59 l319, obox 37 (TR.sl (TR.sl TR.int)) v3 x0, own 24 (TR.sl TR.int) v321 l320, own 3 TR.int v595 l594]) (fun (p : (List Int)) => K750 (.nx p)) ?_ ?_
   ·refine GL.block ?_
    refine GL.loop (ι := Nat × Nat × (List Int)) (fun (p : Nat × Nat × (List Int)) => [(6, .int .i64 ((x0).length : Int)), (7, v18), (9, v60), (10, .func (.func 123) #[] #[v3, v60]), (11, v321), (12, .int .i64 x322), (13, v595), (74, v595), (75, .int .i64 ((l594).length : Int)), (76, .int .i64 (p.1 : Int))]) (fun (p : Nat × Nat × (List Int)) => [own 3 TR.int v18 p.2.2, own 3 TR.int v59 l319, obox 24 TR.raw v60 v59, obox 37 (TR.sl (TR.sl TR.int)) v3 x0, own 24 (TR.sl TR.int) v321 l320, own 3 TR.int v595 l594]) (fun (p : Nat × Nat × (List Int)) => p.1 + p.2.1 = (l594).length ∧ rangeN (trade_Swap_b5 l594 x0 l319) p.2.1 p.1 p.2.2 = some y749) (fun (p : Nat × Nat × (List Int)) => p.2.1) (0, (l594).length, l318) ⟨by simp, h751⟩ (fun a w st => St.cut [0, 2, 1, 3, 4, 5] ⟨rfl, rfl, rfl, rfl, rfl, rfl, rfl, rfl, rfl, rfl, trivial⟩ (by decide) rfl st) ?_
    rintro ⟨i756, r757, l735⟩ ⟨h762, h761⟩
    try dsimp only at h762 h761
    refine GL.weak (env' := [(6, .int .i64 ((x0).length : Int)), (7, v18), (9, v60), (10, .func (.func 123) #[] #[v3, v60]), (11, v321), (12, .int .i64 x322), (13, v595), (74, v595), (75, .int .i64 ((l594).length : Int)), (76, .int .i64 (i756 : Int))]) (L' := [own 3 TR.int v18 l735, own 3 TR.int v59 l319, obox 24 TR.raw v60 v59, obox 37 (TR.sl (TR.sl TR.int)) v3 x0, own 24 (TR.sl TR.int) v321 l320, own 3 TR.int v595 l594]) (fun _ _ st => st) ?_
    refine GL.seq ?_
    refine GL.region ?_
    refine RL.binI (v := .bool (decide ((i756 : Int) < ((l594).length : Int)))) rfl rfl rfl rfl rfl ?_
    refine RL.finG ?_
    refine GL.seq ?_
    refine GL.cond rfl (fun b764 => ?_) (fun b764 => ?_)
    ·have h765 : i756 < (l594).length := by have := of_decide_eq_true b764; omega
     obtain ⟨r766, hr⟩ : ∃ m, r757 = m + 1 := ⟨r757 - 1, by omega⟩
     subst hr
     obtain ⟨z758, h759, h760⟩ := rangeN_some h761
     unfold trade_Swap_b5 at h759
     try dsimp only at h759
     refine GL.skip ?_
     refine GL.seq ?_
     refine GL.block ?_
     refine GL.seq ?_
     refine GL.region ?_
     obtain ⟨y769, e770, h759⟩ := bind_some h759
     refine RL.idxS (sz := 1) 5 Try.underlying24 Try_ln3 rfl rfl rfl rfl rfl SlOf.own (idx_some e770).1 (idx_some e770).2.1 ?_
     refine RL.ldSx (i := i756) (e' := y769) 5 Ex.ik Try_ln3 rfl rfl rfl rfl SlOf.own (idx_some e770).2.2 Part.self ?_
     refine RL.asg rfl rfl rfl ?_
     refine RL.finG ?_
     refine GL.region ?_
     refine RL.mv rfl rfl rfl ?_
     refine RL.mv rfl rfl rfl ?_
     refine RL.mv rfl rfl rfl ?_
     refine RL.mv rfl rfl rfl ?_
     obtain ⟨y775, e776, h759⟩ := bind_some h759
     refine RL.callC (v := .int .i64 y775) (vs := [.int .i64 y769]) Try_fit123 rfl rfl rfl rfl (fun U w hU hW hL => trade_Swap_1_c U w hU y769 _ _ (hL 3 _ _ rfl Seen.obox) _ _ (ptr_raw (hL 2 _ _ rfl Seen.obox) rfl (hL 1 _ _ rfl Seen.own)) _ e776) ?_
     obtain ⟨y777, e778, h759⟩ := bind_some h759
     refine RL.idxS (sz := 1) 0 Try.underlying24 Try_ln3 rfl rfl rfl rfl rfl SlOf.own (idx_some e778).1 (idx_some e778).2.1 ?_
     refine RL.stS (i := (y769).toNat) (e' := y775) (e1 := y775) (r := TR.int) 0 Try_ln3 rfl rfl rfl rfl VR.int rfl (idx_some e778).2.2 Upd.self ?_
     refine RL.finG ?_
     refine GL.nilB ?_
     refine GL.region ?_
     refine RL.binI (v := .int .i64 ((i756 + 1 : Nat) : Int)) rfl rfl rfl rfl (binI_succ i756 (by omega)) ?_
     refine RL.mv rfl rfl rfl ?_
     refine RL.fin ?_
     cases h759
     exact fun a w st => lop_intro (i756 + 1, r766, (List.set l735 ((y769).toNat) y775)) ⟨by show i756 + 1 + r766 = (l594).length; omega, h760⟩ (by simp) (St.cut [0, 1, 2, 3, 4, 5] ⟨rfl, rfl, rfl, rfl, rfl, rfl, rfl, rfl, rfl, rfl, trivial⟩ (by decide) rfl st)
    have h765 : ¬ i756 < (l594).length := by have := of_decide_eq_false b764; omega
    obtain rfl : r757 = 0 := by omega
    replace h761 : some (Fl.nx _) = some y749 := h761
    cases h761
    exact GL.exit (fun a w st => mid_intro l735 h752 (St.cut [0, 2, 1, 3, 4, 5] ⟨rfl, rfl, rfl, rfl, rfl, rfl, rfl, trivial⟩ (by decide) rfl st))
   rintro l735 h779
   have h780 := h753 _ h779
   try dsimp only at h780
   refine GL.weak (env' := [(6, .int .i64 ((x0).length : Int)), (7, v18), (9, v60), (10, .func (.func 123) #[] #[v3, v60]), (11, v321), (12, .int .i64 x322), (13, v595)]) (L' := [own 3 TR.int v18 l735, obox 24 TR.raw v60 v59, own 3 TR.int v59 l319, obox 37 (TR.sl (TR.sl TR.int)) v3 x0, own 24 (TR.sl TR.int) v321 l320, own 3 TR.int v595 l594]) (fun _ _ st => st) ?_
   refine GL.seq ?_
   refine GL.seq ?_
   refine GL.region ?_
   refine RL.mv rfl rfl rfl ?_
   refine RL.lenS 5 Try.underlying24 rfl rfl rfl rfl SlOf.own ?_
   refine RL.mv rfl rfl rfl ?_
   refine RL.finG ?_
   refine GL.lenOwn 5 rfl (fun n806 => ?_)
   obtain ⟨y807, K808, h809, h810, h811, h812, h813⟩ := bindF_K h780
   refine GL.join (ι := (List Int)) (fun (p : (List Int)) => [(6, .int .i64 ((x0).length : Int)), (7, v18), (9, v60), (10, .func (.func 123) #[] #[v3, v60]), (11, v321), (12, .int .i64 x322), (13, v595)]) (fun (p : (List Int)) => [own 3 TR.int v18 l735, obox 24 TR.raw v60 v59, own 3 TR.int v59 p, obox 37 (TR.sl (TR.sl TR.int)) v3 x0, own 24 (TR.sl TR.int) v321 l320, own 3 TR.int v595 l594]) (fun (p : (List Int)) => K808 (.nx p)) ?_ ?_
   ·refine GL.block ?_
    refine GL.loop (ι := Nat × Nat × (List Int)) (fun (p : Nat × Nat × (List Int)) => [(6, .int .i64 ((x0).length : Int)), (7, v18), (9, v60), (10, .func (.func 123) #[] #[v3, v60]), (11, v321), (12, .int .i64 x322), (13, v595), (87, v595), (88, .int .i64 ((l594).length : Int)), (89, .int .i64 (p.1 : Int))]) (fun (p : Nat × Nat × (List Int)) => [own 3 TR.int v18 l735, own 3 TR.int v59 p.2.2, obox 24 TR.raw v60 v59, obox 37 (TR.sl (TR.sl TR.int)) v3 x0, own 24 (TR.sl TR.int) v321 l320, own 3 TR.int v595 l594]) (fun (p : Nat × Nat × (List Int)) => p.1 + p.2.1 = (l594).length ∧ rangeN (trade_Swap_b6 l594 l735) p.2.1 p.1 p.2.2 = some y807) (fun (p : Nat × Nat × (List Int)) => p.2.1) (0, (l594).length, l319) ⟨by simp, h809⟩ (fun a w st => St.cut [0, 2, 1, 3, 4, 5] ⟨rfl, rfl, rfl, rfl, rfl, rfl, rfl, rfl, rfl, rfl, trivial⟩ (by decide) rfl st) ?_
    rintro ⟨i814, r815, l793⟩ ⟨h820, h819⟩
    try dsimp only at h820 h819
    refine GL.weak (env' := [(6, .int .i64 ((x0).length : Int)), (7, v18), (9, v60), (10, .func (.func 123) #[] #[v3, v60]), (11, v321), (12, .int .i64 x322), (13, v595), (87, v595), (88, .int .i64 ((l594).length : Int)), (89, .int .i64 (i814 : Int))]) (L' := [own 3 TR.int v18 l735, own 3 TR.int v59 l793, obox 24 TR.raw v60 v59, obox 37 (TR.sl (TR.sl TR.int)) v3 x0, own 24 (TR.sl TR.int) v321 l320, own 3 TR.int v595 l594]) (fun _ _ st => st) ?_
    refine GL.seq ?_
    refine GL.region ?_
    refine RL.binI (v := .bool (decide ((i814 : Int) < ((l594).length : Int)))) rfl rfl rfl rfl rfl ?_
    refine RL.finG ?_
    refine GL.seq ?_
    refine GL.cond rfl (fun b822 => ?_) (fun b822 => ?_)
    ·have h823 : i814 < (l594).length := by have := of_decide_eq_true b822; omega
     obtain ⟨r824, hr⟩ : ∃ m, r815 = m + 1 := ⟨r815 - 1, by omega⟩
     subst hr
     obtain ⟨z816, h817, h818⟩ := rangeN_some h819
     unfold trade_Swap_b6 at h817
     try dsimp only at h817
     refine GL.skip ?_
     refine GL.seq ?_
     refine GL.block ?_
     refine GL.seq ?_
     refine GL.region ?_
     obtain ⟨y827, e828, h817⟩ := bind_some h817
     refine RL.idxS (sz := 1) 5 Try.underlying24 Try_ln3 rfl rfl rfl rfl rfl SlOf.own (idx_some e828).1 (idx_some e828).2.1 ?_
     refine RL.ldSx (i := i814) (e' := y827) 5 Ex.ik Try_ln3 rfl rfl rfl rfl SlOf.own (idx_some e828).2.2 Part.self ?_
     refine RL.asg rfl rfl rfl ?_
     refine RL.finG ?_
     refine GL.regionH 6 rfl rfl (by kernel_rfl) ?_
     simp only [List.take_succ_cons, List.take_zero, List.drop_succ_cons, List.drop_zero]
     refine RL.ldPx (off := 0) (e' := v59) 2 Ex.raw Try_ln24 rfl rfl (Or.inr ⟨rfl, rfl⟩) rfl PtOf.obox Part.self ?_
     refine RL.mv rfl rfl rfl ?_
     refine RL.mv rfl rfl rfl ?_
     obtain ⟨y833, e834, h817⟩ := bind_some h817
     refine RL.idxS (sz := 1) 0 Try.underlying24 Try_ln3 rfl rfl rfl rfl rfl SlOf.own (idx_some e834).1 (idx_some e834).2.1 ?_
     refine RL.ldSx (i := (y827).toNat) (e' := y833) 0 Ex.ik Try_ln3 rfl rfl rfl rfl SlOf.own (idx_some e834).2.2 Part.self ?_
     obtain ⟨y835, e836, h817⟩ := bind_some h817
     refine RL.idxS (sz := 1) 1 Try.underlying24 Try_ln3 rfl rfl rfl rfl rfl SlOf.own (idx_some e836).1 (idx_some e836).2.1 ?_
     refine RL.finH ?_
     refine RL.stS (i := (y833).toNat) (e' := (1 : Int)) (e1 := (1 : Int)) (r := TR.int) 1 Try_ln3 rfl rfl rfl rfl VR.int rfl (idx_some e836).2.2 Upd.self ?_
     refine RL.finG ?_
     refine GL.nilB ?_
     refine GL.region ?_
     refine RL.binI (v := .int .i64 ((i814 + 1 : Nat) : Int)) rfl rfl rfl rfl (binI_succ i814 (by omega)) ?_
     refine RL.mv rfl rfl rfl ?_
     refine RL.fin ?_
     cases h817
     exact fun a w st => lop_intro (i814 + 1, r824, (List.set l793 ((y833).toNat) (1 : Int))) ⟨by show i814 + 1 + r824 = (l594).length; omega, h818⟩ (by simp) (St.cut [0, 1, 2, 3, 4, 5] ⟨rfl, rfl, rfl, rfl, rfl, rfl, rfl, rfl, rfl, rfl, trivial⟩ (by decide) rfl st)
    have h823 : ¬ i814 < (l594).length := by have := of_decide_eq_false b822; omega
    obtain rfl : r815 = 0 := by omega
    replace h819 : some (Fl.nx _) = some y807 := h819
    cases h819
    exact GL.exit (fun a w st => mid_intro l793 h810 (St.cut [0, 2, 1, 3, 4, 5] ⟨rfl, rfl, rfl, rfl, rfl, rfl, rfl, trivial⟩ (by decide) rfl st))
   rintro l793 h837
   have h838 := h811 _ h837
   try dsimp only at h838
   refine GL.weak (env' := [(6, .int .i64 ((x0).length : Int)), (7, v18), (9, v60), (10, .func (.func 123) #[] #[v3, v60]), (11, v321), (12, .int .i64 x322), (13, v595)]) (L' := [own 3 TR.int v18 l735, obox 24 TR.raw v60 v59, own 3 TR.int v59 l793, obox 37 (TR.sl (TR.sl TR.int)) v3 x0, own 24 (TR.sl TR.int) v321 l320, own 3 TR.int v595 l594]) (fun _ _ st => st) ?_
   refine GL.seq ?_
   refine GL.region ?_
   refine RL.mv rfl rfl rfl ?_
   refine RL.mv rfl rfl rfl ?_
   refine RL.lenS 5 Try.underlying24 rfl rfl rfl rfl SlOf.own ?_
   refine RL.binI (v := .int .i64 (wsub x322 ((l594).length : Int))) rfl rfl rfl rfl rfl ?_
   refine RL.asg rfl rfl rfl ?_
   refine RL.finG ?_
   refine GL.region ?_
   refine RL.mv rfl rfl rfl ?_
   refine RL.mv rfl rfl rfl ?_
   refine RL.weak (fun a w st => st.freeze 5 rfl) ?_
   refine RL.bS (t := (TR.sl TR.int)) (vs := [v595]) ([l594] : (List (List Int))) Try.underlying37 Try_lo24 rfl rfl rfl rfl ⟨(VR.item 5 rfl), trivial⟩ rfl (by decide) ?_
   intro v843
   refine RL.reL (L' := [own 3 TR.int v18 l735, obox 24 TR.raw v60 v59, own 3 TR.int v59 l793, obox 37 (TR.sl (TR.sl TR.int)) v3 x0, own 24 (TR.sl TR.int) v321 l320, imm (TR.sl TR.int) v595 l594, own 24 (TR.sl TR.int) v843 ([l594] : (List (List Int)))]) rfl ?_
   obtain ⟨y844, e845, h838⟩ := bind_some h838
   replace e845 := chk_some e845
   refine RL.app 4 6 Try.underlying37 Try_lo24 rfl rfl rfl rfl rfl rfl rfl SlOf.own e845 ?_
   intro v846
   refine RL.asg rfl rfl rfl ?_
   refine RL.finG ?_
   refine GL.nilB ?_
   cases h838
   exact fun a w st => lop_intro (r592, l735, l793, (l320 ++ ([l594] : (List (List Int)))), wsub x322 ((l594).length : Int), v846) (by exact h588) (by simp) (St.cut [0, 2, 1, 3, 4] ⟨rfl, rfl, rfl, rfl, rfl, rfl, trivial⟩ (by decide) rfl st)
  replace h587 := ite_f b593 h587
  cases h587
  replace h588 : some (Fl.nx _) = some y577 := h588
  cases h588
  exact GL.exit (fun a w st => mid_intro (l318, l319, l320, x322, v321) h580 (St.cut [0, 4] ⟨rfl, rfl, trivial⟩ (by decide) rfl st))
 rintro ⟨l318, l319, l320, x322, v321⟩ h847
 have h848 := h581 _ h847
 try dsimp only at h848
 refine GL.weak (env' := [(7, v18), (11, v321)]) (L' := [own 3 TR.int v18 l318, own 24 (TR.sl TR.int) v321 l320]) (fun _ _ st => st) ?_
 refine GL.seq ?_
 refine GL.region ?_
 refine RL.mv rfl rfl rfl ?_
 refine RL.mv rfl rfl rfl ?_
 refine RL.asg rfl rfl rfl ?_
 refine RL.asg rfl rfl rfl ?_
 refine RL.asg rfl rfl rfl ?_
 refine RL.finG ?_
 have h848 := Option.some.inj h848
 subst h848
 exact GL.ret (Gx.ret (v := .tuple #[v18, v321, .int .i64 (0 : Int)]) (res3 rfl rfl rfl rfl) (fun a w st => (st.pick [0, 1] (by decide) rfl).toPost (v18, v321)))

set_option maxHeartbeats 4000000 in
theorem pk_trades_c (S : Hp) (w : World) (hS : S.sub w)  (res : Bool) (hm : pk_trades_m = some res) : Calls Try.prog 54 #[] w (PostV w (.bool res)) := by
 refine calls_enter 25 Try.func54 Try.ntmps54 rfl S false [] [] rfl trivial hS trivial ?_
 unfold pk_trades_m at hm
 refine GL.seq ?_
 refine GL.region ?_
 refine RL.asg rfl rfl rfl ?_
 refine RL.finG ?_
 refine GL.seq ?_
 refine GL.region ?_
 refine RL.bS (t := TR.int) (vs := [.int .i64 (1 : Int), .int .i64 (0 : Int), .int .i64 (2 : Int)]) ([(1 : Int), (0 : Int), (2 : Int)] : (List Int)) Try.underlying24 Try_lo3 rfl rfl rfl rfl ⟨VR.int, ⟨VR.int, ⟨VR.int, trivial⟩⟩⟩ rfl (by decide) ?_
 intro v9
 refine RL.bS (t := TR.int) (vs := [.int .i64 (2 : Int), .int .i64 (0 : Int), .int .i64 (1 : Int)]) ([(2 : Int), (0 : Int), (1 : Int)] : (List Int)) Try.underlying24 Try_lo3 rfl rfl rfl rfl ⟨VR.int, ⟨VR.int, ⟨VR.int, trivial⟩⟩⟩ rfl (by decide) ?_
 intro v10
 refine RL.reL (L' := [own 3 TR.int v9 ([(1 : Int), (0 : Int), (2 : Int)] : (List Int)), own 3 TR.int v10 ([(2 : Int), (0 : Int), (1 : Int)] : (List Int))]) rfl ?_
 refine RL.bS (t := TR.int) (vs := [.int .i64 (0 : Int), .int .i64 (1 : Int), .int .i64 (2 : Int)]) ([(0 : Int), (1 : Int), (2 : Int)] : (List Int)) Try.underlying24 Try_lo3 rfl rfl rfl rfl ⟨VR.int, ⟨VR.int, ⟨VR.int, trivial⟩⟩⟩ rfl (by decide) ?_
 intro v11
 refine RL.weak (fun a w st => st.freeze 0 rfl) ?_
 refine RL.weak (fun a w st => st.freeze 1 rfl) ?_
 refine RL.weak (fun a w st => st.freeze 2 rfl) ?_
 refine RL.bS (t := (TR.sl TR.int)) (vs := [v9, v10, v11]) ([([(1 : Int), (0 : Int), (2 : Int)] : (List Int)), ([(2 : Int), (0 : Int), (1 : Int)] : (List Int)), ([(0 : Int), (1 : Int), (2 : Int)] : (List Int))] : (List (List Int))) Try.underlying37 Try_lo24 rfl rfl rfl rfl ⟨(VR.item 0 rfl), ⟨(VR.item 1 rfl), ⟨(VR.item 2 rfl), trivial⟩⟩⟩ rfl (by decide) ?_
 intro v12
 refine RL.reL (L' := [imm (TR.sl TR.int) v9 ([(1 : Int), (0 : Int), (2 : Int)] : (List Int)), imm (TR.sl TR.int) v10 ([(2 : Int), (0 : Int), (1 : Int)] : (List Int)), imm (TR.sl TR.int) v11 ([(0 : Int), (1 : Int), (2 : Int)] : (List Int)), own 24 (TR.sl TR.int) v12 ([([(1 : Int), (0 : Int), (2 : Int)] : (List Int)), ([(2 : Int), (0 : Int), (1 : Int)] : (List Int)), ([(0 : Int), (1 : Int), (2 : Int)] : (List Int))] : (List (List Int)))]) rfl ?_
 refine RL.weak (fun a w st => st.freeze 3 rfl) ?_
 obtain ⟨y13, e14, hm⟩ := bind_some hm
 refine RL.call (vs := [v12]) Try_fit68 rfl rfl rfl rfl rfl (fun S f w hS hW hi => trade_Swap_c S w hS _ _ (hi 3 _ rfl) _ e14) ?_
 intro ⟨v15, v16⟩
 refine RL.reL (L' := [imm (TR.sl TR.int) v9 ([(1 : Int), (0 : Int), (2 : Int)] : (List Int)), imm (TR.sl TR.int) v10 ([(2 : Int), (0 : Int), (1 : Int)] : (List Int)), imm (TR.sl TR.int) v11 ([(0 : Int), (1 : Int), (2 : Int)] : (List Int)), imm (TR.sl (TR.sl TR.int)) v12 ([([(1 : Int), (0 : Int), (2 : Int)] : (List Int)), ([(2 : Int), (0 : Int), (1 : Int)] : (List Int)), ([(0 : Int), (1 : Int), (2 : Int)] : (List Int))] : (List (List Int))), own 3 TR.int v15 y13.1, own 24 (TR.sl TR.int) v16 y13.2.1]) rfl ?_
 refine RL.mv rfl rfl rfl ?_
 refine RL.ext rfl rfl rfl rfl ?_
 refine RL.ext rfl rfl rfl rfl ?_
 refine RL.ext rfl rfl rfl rfl ?_
 refine RL.asg rfl rfl rfl ?_
 refine RL.asg rfl rfl rfl ?_
 refine RL.asg rfl rfl rfl ?_
 refine RL.finG ?_
 refine GL.seq ?_
 obtain ⟨y28, K29, h30, h31, h32, h33, h34⟩ := bindR_K hm
 refine GL.join (ι := Bool) (fun (p : Bool) => [(0, .bool p)]) (fun (p : Bool) => []) (fun (p : Bool) => K29 (.nx p)) ?_ ?_
 ·skip
  refine GL.region ?_
  refine RL.mv rfl rfl rfl ?_
  refine RL.binI (v := .bool (y13.2.2 == (0 : Int))) rfl rfl rfl rfl rfl ?_
  refine RL.mv rfl rfl rfl ?_
  refine RL.split (t := 15) rfl (fun b35 => ?_) (fun b35 => ?_)
  ·replace h30 := ite_t b35 h30
   refine RL.mv rfl rfl rfl ?_
   refine RL.bS (t := TR.int) (vs := [.int .i64 (1 : Int), .int .i64 (2 : Int), .int .i64 (0 : Int)]) ([(1 : Int), (2 : Int), (0 : Int)] : (List Int)) Try.underlying24 Try_lo3 rfl rfl rfl rfl ⟨VR.int, ⟨VR.int, ⟨VR.int, trivial⟩⟩⟩ rfl (by decide) ?_
   intro v36
   obtain ⟨y37, e38, h30⟩ := bind_some h30
   refine RL.callV (v := .bool y37) (vs := [v15, v36]) Try_fit22 rfl (Or.inl rfl) rfl rfl rfl rfl (fun U w hU hW hL => slices_Equal_int_int_c U w hU _ _ (hL 4 _ _ rfl Seen.own) _ _ (hL 6 _ _ rfl Seen.own) _ e38) ?_
   refine RL.pickT rfl rfl rfl rfl ?_
   refine RL.mv rfl rfl rfl ?_
   refine RL.split (t := 20) rfl (fun b39 => ?_) (fun b39 => ?_)
   ·replace h30 := ite_t b39 h30
    refine RL.mv rfl rfl rfl ?_
    refine RL.lenS 5 Try.underlying37 rfl rfl rfl rfl SlOf.own ?_
    refine RL.binI (v := .bool (((y13.2.1).length : Int) == (1 : Int))) rfl rfl rfl rfl rfl ?_
    refine RL.pickT rfl rfl rfl rfl ?_
    refine RL.asg rfl rfl rfl ?_
    refine RL.fin ?_
    cases h30
    exact fun a w st => mid_intro (((y13.2.1).length : Int) == (1 : Int)) h31 (St.cut [] ⟨rfl, trivial⟩ (by decide) rfl st)
   replace h30 := ite_f b39 h30
   refine RL.skip rfl rfl ?_
   refine RL.skip rfl rfl ?_
   refine RL.skip rfl rfl ?_
   refine RL.pickF rfl rfl rfl rfl ?_
   refine RL.asg rfl rfl rfl ?_
   refine RL.fin ?_
   cases h30
   exact fun a w st => mid_intro false h31 (St.cut [] ⟨rfl, trivial⟩ (by decide) rfl st)
  replace h30 := ite_f b35 h30
  refine RL.skip rfl rfl ?_
  refine RL.skip rfl rfl ?_
  refine RL.skip rfl rfl ?_
  refine RL.pickF rfl rfl rfl rfl ?_
  refine RL.mv rfl rfl rfl ?_
  refine RL.skip rfl rfl ?_
  refine RL.skip rfl rfl ?_
  refine RL.skip rfl rfl ?_
  refine RL.pickF rfl rfl rfl rfl ?_
  refine RL.asg rfl rfl rfl ?_
  refine RL.fin ?_
  cases h30
  exact fun a w st => mid_intro false h31 (St.cut [] ⟨rfl, trivial⟩ (by decide) rfl st)
 rintro x27 h40
 have h41 := h32 _ h40
 try dsimp only at h41
 refine GL.weak (env' := [(0, .bool x27)]) (L' := []) (fun _ _ st => st) ?_
 have h41 := Option.some.inj h41
 subst h41
 exact GL.ret (Gx.ret (v := .bool x27) (res1 rfl rfl) (fun a w st => st.toPostV))

set_option maxHeartbeats 4000000 in
theorem auction_Check_c (S : Hp) (w : World) (hS : S.sub w) (v0 : Value) (x0 : (List Int)) (k0 : ((TR.sl TR.int)).vrep S v0 x0) (x1 : Int) (res : Int) (hm : auction_Check_m x0 x1 = some res) : Calls Try.prog 118 #[v0, .int .i64 x1] w (PostC w (.int .i64 res)) := by
 refine calls_enter 29 Try.func118 Try.ntmps118 rfl S true [(0, v0), (1, .int .i64 x1)] [imm (TR.sl TR.int) v0 x0] rfl ⟨rfl, ⟨rfl, trivial⟩⟩ hS ⟨k0, trivial⟩ ?_
 unfold auction_Check_m at hm
 refine GL.seq ?_
 refine GL.region ?_
 refine RL.asg rfl rfl rfl ?_
 refine RL.finG ?_
 refine GL.seq ?_
 refine GL.seq ?_
 refine GL.region ?_
 refine RL.mv rfl rfl rfl ?_
 refine RL.lenS 0 Try.underlying24 rfl rfl rfl rfl SlOf.imm ?_
 refine RL.binI (v := .bool (decide (((x0).length : Int) > (10 : Int)))) rfl rfl rfl rfl rfl ?_
 refine RL.finG ?_
 refine GL.cond rfl (fun b3 => ?_) (fun b3 => ?_)
 ·replace hm := ite_t b3 hm
  refine GL.seq ?_
  refine GL.region ?_
  refine RL.asg rfl rfl rfl ?_
  refine RL.finG ?_
  have hm := Option.some.inj hm
  subst hm
  exact GL.ret (Gx.ret (v := .int .i64 (2 : Int)) (res1 rfl rfl) (fun a w st => st.toPostC rfl))
 replace hm := ite_f b3 hm
 refine GL.skip ?_
 refine GL.seq ?_
 refine GL.seq ?_
 refine GL.region ?_
 refine RL.mv rfl rfl rfl ?_
 refine RL.lenS 0 Try.underlying24 rfl rfl rfl rfl SlOf.imm ?_
 refine RL.mv rfl rfl rfl ?_
 refine RL.finG ?_
 refine GL.open_ 0 rfl (fun S h => len_imm S h) (fun n22 => ?_)
 obtain ⟨y23, K24, h25, h26, h27, h28, h29⟩ := bindR_K hm
 refine GL.join (ι := Unit) (fun (p : Unit) => [(1, .int .i64 x1)]) (fun (p : Unit) => []) (fun (p : Unit) => K24 (.nx ())) ?_ ?_
 ·refine GL.block ?_
  refine GL.loop (ι := Nat × (List Int)) (fun (p : Nat × (List Int)) => [(1, .int .i64 x1), (10, v0), (11, .int .i64 ((x0).length : Int)), (12, .int .i64 (p.1 : Int))]) (fun (p : Nat × (List Int)) => [imm (TR.sl TR.int) v0 x0]) (fun (p : Nat × (List Int)) => p.1 + p.2.length = (x0).length ∧ List.drop p.1 x0 = p.2 ∧ rangeL auction_Check_b1 p.2 p.1 () = some y23) (fun (p : Nat × (List Int)) => p.2.length) (0, x0) ⟨by simp, by simp, h25⟩ (fun a w st => St.cut [0] ⟨rfl, rfl, rfl, rfl, trivial⟩ (by decide) rfl st) ?_
  rintro ⟨i30, r31⟩ ⟨h36, h37, h35⟩
  try dsimp only at h36 h37 h35
  refine GL.weak (env' := [(1, .int .i64 x1), (10, v0), (11, .int .i64 ((x0).length : Int)), (12, .int .i64 (i30 : Int))]) (L' := [imm (TR.sl TR.int) v0 x0]) (fun _ _ st => st) ?_
  refine GL.seq ?_
  refine GL.region ?_
  refine RL.binI (v := .bool (decide ((i30 : Int) < ((x0).length : Int)))) rfl rfl rfl rfl rfl ?_
  refine RL.finG ?_
  refine GL.seq ?_
  refine GL.cond rfl (fun b38 => ?_) (fun b38 => ?_)
  ·have h39 : i30 < (x0).length := by have := of_decide_eq_true b38; omega
   obtain ⟨y40, r42, hr, e41, h43⟩ := drop_cons h37 rfl h39
   subst hr
   obtain ⟨z32, h33, h34⟩ := rangeL_some h35
   unfold auction_Check_b1 at h33
   try dsimp only at h33
   refine GL.skip ?_
   refine GL.seq ?_
   refine GL.block ?_
   refine GL.seq ?_
   refine GL.region ?_
   refine RL.idxS (sz := 1) 0 Try.underlying24 Try_ln3 rfl rfl rfl rfl rfl SlOf.imm (by omega) (by omega) ?_
   refine RL.ldSx (i := i30) (e' := y40) 0 Ex.ik Try_ln3 rfl rfl rfl rfl SlOf.imm e41 Part.self ?_
   refine RL.asg rfl rfl rfl ?_
   refine RL.finG ?_
   refine GL.seq ?_
   obtain ⟨y47, K48, h49, h50, h51, h52, h53⟩ := bindF_K h33
   refine GL.join (ι := Bool) (fun (p : Bool) => [(1, .int .i64 x1), (10, v0), (11, .int .i64 ((x0).length : Int)), (12, .int .i64 (i30 : Int)), (21, .bool p)]) (fun (p : Bool) => [imm (TR.sl TR.int) v0 x0]) (fun (p : Bool) => K48 (.nx p)) ?_ ?_
   ·skip
    refine GL.region ?_
    refine RL.mv rfl rfl rfl ?_
    refine RL.binI (v := .bool (decide (y40 < (0 : Int)))) rfl rfl rfl rfl rfl ?_
    refine RL.mv rfl rfl rfl ?_
    refine RL.split (t := 18) rfl (fun b54 => ?_) (fun b54 => ?_)
    ·replace h49 := ite_t b54 h49
     refine RL.skip rfl rfl ?_
     refine RL.skip rfl rfl ?_
     refine RL.pickT rfl rfl rfl rfl ?_
     refine RL.fin ?_
     cases h49
     exact fun a w st => mid_intro true h50 (St.cut [0] ⟨rfl, rfl, rfl, rfl, rfl, trivial⟩ (by decide) rfl st)
    replace h49 := ite_f b54 h49
    refine RL.mv rfl rfl rfl ?_
    refine RL.binI (v := .bool (decide (y40 > (1000000 : Int)))) rfl rfl rfl rfl rfl ?_
    refine RL.pickF rfl rfl rfl rfl ?_
    refine RL.fin ?_
    cases h49
    exact fun a w st => mid_intro (decide (y40 > (1000000 : Int))) h50 (St.cut [0] ⟨rfl, rfl, rfl, rfl, rfl, trivial⟩ (by decide) rfl st)
   rintro x46 h55
   have h56 := h51 _ h55
   try dsimp only at h56
   refine GL.weak (env' := [(1, .int .i64 x1), (10, v0), (11, .int .i64 ((x0).length : Int)), (12, .int .i64 (i30 : Int)), (21, .bool x46)]) (L' := [imm (TR.sl TR.int) v0 x0]) (fun _ _ st => st) ?_
   refine GL.cond rfl (fun b57 => ?_) (fun b57 => ?_)
   ·replace h56 := ite_t b57 h56
    refine GL.seq ?_
    refine GL.region ?_
    refine RL.asg rfl rfl rfl ?_
    refine RL.finG ?_
    cases h56
    replace h34 : some (Fl.rt _) = some y23 := h34
    cases h34
    have hh := h28 _ h26
    subst hh
    exact GL.ret (Gx.ret (v := .int .i64 (1 : Int)) (res1 rfl rfl) (fun a w st => st.toPostC rfl))
   replace h56 := ite_f b57 h56
   refine GL.skip ?_
   refine GL.nilB ?_
   refine GL.region ?_
   refine RL.binI (v := .int .i64 ((i30 + 1 : Nat) : Int)) rfl rfl rfl rfl (binI_succ i30 (by omega)) ?_
   refine RL.mv rfl rfl rfl ?_
   refine RL.fin ?_
   cases h56
   exact fun a w st => lop_intro (i30 + 1, r42) ⟨by show i30 + 1 + r42.length = (x0).length; simp only [List.length_cons] at h36; omega, h43, h34⟩ (by simp) (St.cut [0] ⟨rfl, rfl, rfl, rfl, trivial⟩ (by decide) rfl st)
  have h39 : ¬ i30 < (x0).length := by have := of_decide_eq_false b38; omega
  obtain rfl : r31 = [] := by rw [← h37]; exact List.drop_of_length_le (by omega)
  replace h35 : some (Fl.nx _) = some y23 := h35
  cases h35
  exact GL.exit (fun a w st => mid_intro () h26 (St.cut [] ⟨rfl, trivial⟩ (by decide) rfl st))
 rintro ⟨⟩ h58
 have h59 := h27 _ h58
 try dsimp only at h59
 refine GL.weak (env' := [(1, .int .i64 x1)]) (L' := []) (fun _ _ st => st) ?_
 refine GL.seq ?_
 refine GL.seq ?_
 obtain ⟨y63, K64, h65, h66, h67, h68, h69⟩ := bindR_K h59
 refine GL.join (ι := Bool) (fun (p : Bool) => [(28, .bool p)]) (fun (p : Bool) => []) (fun (p : Bool) => K64 (.nx p)) ?_ ?_
 ·skip
  refine GL.region ?_
  refine RL.mv rfl rfl rfl ?_
  refine RL.binI (v := .bool (decide (x1 < (0 : Int)))) rfl rfl rfl rfl rfl ?_
  refine RL.mv rfl rfl rfl ?_
  refine RL.split (t := 25) rfl (fun b70 => ?_) (fun b70 => ?_)
  ·replace h65 := ite_t b70 h65
   refine RL.skip rfl rfl ?_
   refine RL.skip rfl rfl ?_
   refine RL.pickT rfl rfl rfl rfl ?_
   refine RL.fin ?_
   cases h65
   exact fun a w st => mid_intro true h66 (St.cut [] ⟨rfl, trivial⟩ (by decide) rfl st)
  replace h65 := ite_f b70 h65
  refine RL.mv rfl rfl rfl ?_
  refine RL.binI (v := .bool (decide (x1 > (1000000 : Int)))) rfl rfl rfl rfl rfl ?_
  refine RL.pickF rfl rfl rfl rfl ?_
  refine RL.fin ?_
  cases h65
  exact fun a w st => mid_intro (decide (x1 > (1000000 : Int))) h66 (St.cut [] ⟨rfl, trivial⟩ (by decide) rfl st)
 rintro x62 h71
 have h72 := h67 _ h71
 try dsimp only at h72
 refine GL.weak (env' := [(28, .bool x62)]) (L' := []) (fun _ _ st => st) ?_
 refine GL.cond rfl (fun b73 => ?_) (fun b73 => ?_)
 ·replace h72 := ite_t b73 h72
  refine GL.seq ?_
  refine GL.region ?_
  refine RL.asg rfl rfl rfl ?_
  refine RL.finG ?_
  have h72 := Option.some.inj h72
  subst h72
  exact GL.ret (Gx.ret (v := .int .i64 (1 : Int)) (res1 rfl rfl) (fun a w st => st.toPostC rfl))
 replace h72 := ite_f b73 h72
 refine GL.skip ?_
 refine GL.seq ?_
 refine GL.region ?_
 refine RL.asg rfl rfl rfl ?_
 refine RL.finG ?_
 have h72 := Option.some.inj h72
 subst h72
 exact GL.ret (Gx.ret (v := .int .i64 (0 : Int)) (res1 rfl rfl) (fun a w st => st.toPostC rfl))

set_option maxHeartbeats 4000000 in
theorem slices_insertionSortCmpFunc_int_c (B : World) (S X : Hp) (f : Nat → Hp) (w : World) (v0 : Value) (x0 : (List Int)) (hO : HeapOk B.heap.size S f [own 3 TR.int v0 x0, keep X].length w) (hB : Below B.heap.size B w) (hI : Its [own 3 TR.int v0 x0, keep X] S f) (x1 : Int) (x2 : Int) (f3 : FuncId) (c3 : Array Value) (t3 : Fit Try.prog f3) (g3 : Int → Int → Option Int) (k3 : ∀ (U : Hp) (w' : World), Hp.le S U → U.sub w' → ∀ (a0 : Int) (a1 : Int) (rr : Int), g3 a0 a1 = some rr → Calls Try.prog f3 (#[.int .i64 a0, .int .i64 a1] ++ c3) w' (PostV w' (.int .i64 rr))) (res : (List Int)) (hm : slices_insertionSortCmpFunc_int_m x0 x1 x2 g3 = some res) : Calls Try.prog 134 #[v0, .int .i64 x1, .int .i64 x2, .func (.func f3) #[] c3] w (PostM B S (fun (o : Unit) => .tuple #[]) (fun (o : Unit) => [own 3 TR.int v0 res, keep X])) := by
 refine calls_enterM 53 Try.func134 Try.ntmps134 rfl B S f [(0, v0), (1, .int .i64 x1), (2, .int .i64 x2), (3, .func (.func f3) #[] c3)] [own 3 TR.int v0 x0, keep X] [] rfl ⟨rfl, ⟨rfl, ⟨rfl, ⟨rfl, trivial⟩⟩⟩⟩ hB hO hI trivial ?_
 unfold slices_insertionSortCmpFunc_int_m at hm
 refine GL.seq ?_
 refine GL.region ?_
 refine RL.mv rfl rfl rfl ?_
 refine RL.binI (v := .int .i64 (wadd x1 (1 : Int))) rfl rfl rfl rfl rfl ?_
 refine RL.asg rfl rfl rfl ?_
 refine RL.finG ?_
 obtain ⟨y340, K341, h342, h343, h344, h345, h346⟩ := bindR_K hm
 refine GL.join (ι := (List Int) × Int) (fun (p : (List Int) × Int) => []) (fun (p : (List Int) × Int) => [own 3 TR.int v0 p.1, keep X]) (fun (p : (List Int) × Int) => K341 (.nx (p.1, p.2))) ?_ ?_
 ·refine GL.block ?_
  refine GL.loop (ι := Nat × (List Int) × Int) (fun (p : Nat × (List Int) × Int) => [(0, v0), (1, .int .i64 x1), (2, .int .i64 x2), (3, .func (.func f3) #[] c3), (8, .int .i64 p.2.2)]) (fun (p : Nat × (List Int) × Int) => [own 3 TR.int v0 p.2.1, keep X]) (fun (p : Nat × (List Int) × Int) => loopM (slices_insertionSortCmpFunc_int_b1 x2 x1 g3) p.1 (p.2.1, p.2.2) = some y340) (fun (p : Nat × (List Int) × Int) => p.1) (1048576, x0, wadd x1 (1 : Int)) h342 (fun a w st => St.cut [0, 1] ⟨rfl, rfl, rfl, rfl, rfl, trivial⟩ (by decide) rfl st) ?_
  rintro ⟨r348, l172, x173⟩ h352
  try dsimp only at h352
  refine GL.weak (env' := [(0, v0), (1, .int .i64 x1), (2, .int .i64 x2), (3, .func (.func f3) #[] c3), (8, .int .i64 x173)]) (L' := [own 3 TR.int v0 l172, keep X]) (fun _ _ st => st) ?_
  obtain ⟨r355, z349, hr, h350, h351⟩ := loopM_some h352
  subst hr
  unfold slices_insertionSortCmpFunc_int_b1 at h350
  try dsimp only at h350
  refine GL.seq ?_
  refine GL.seq ?_
  refine GL.region ?_
  refine RL.mv rfl rfl rfl ?_
  refine RL.mv rfl rfl rfl ?_
  refine RL.binI (v := .bool (decide (x173 < x2))) rfl rfl rfl rfl rfl ?_
  refine RL.finG ?_
  refine GL.cond rfl (fun b356 => ?_) (fun b356 => ?_)
  ·replace h350 := ite_t b356 h350
   refine GL.skip ?_
   refine GL.seq ?_
   refine GL.block ?_
   refine GL.seq ?_
   refine GL.region ?_
   refine RL.mv rfl rfl rfl ?_
   refine RL.asg rfl rfl rfl ?_
   refine RL.finG ?_
   obtain ⟨y456, K457, h458, h459, h460, h461, h462⟩ := bindF_K h350
   refine GL.join (ι := (List Int) × Int) (fun (p : (List Int) × Int) => [(0, v0), (1, .int .i64 x1), (2, .int .i64 x2), (3, .func (.func f3) #[] c3), (8, .int .i64 x173)]) (fun (p : (List Int) × Int) => [own 3 TR.int v0 p.1, keep X]) (fun (p : (List Int) × Int) => K457 (.nx (p.1, p.2))) ?_ ?_
   ·refine GL.block ?_
    refine GL.loop (ι := Nat × (List Int) × Int) (fun (p : Nat × (List Int) × Int) => [(0, v0), (1, .int .i64 x1), (2, .int .i64 x2), (3, .func (.func f3) #[] c3), (8, .int .i64 x173), (9, .int .i64 p.2.2)]) (fun (p : Nat × (List Int) × Int) => [own 3 TR.int v0 p.2.1, keep X]) (fun (p : Nat × (List Int) × Int) => loopM (slices_insertionSortCmpFunc_int_b2 x1 g3) p.1 (p.2.1, p.2.2) = some y456) (fun (p : Nat × (List Int) × Int) => p.1) (1048576, l172, x173) h458 (fun a w st => St.cut [0, 1] ⟨rfl, rfl, rfl, rfl, rfl, rfl, trivial⟩ (by decide) rfl st) ?_
    rintro ⟨r464, l406, x407⟩ h468
    try dsimp only at h468
    refine GL.weak (env' := [(0, v0), (1, .int .i64 x1), (2, .int .i64 x2), (3, .func (.func f3) #[] c3), (8, .int .i64 x173), (9, .int .i64 x407)]) (L' := [own 3 TR.int v0 l406, keep X]) (fun _ _ st => st) ?_
    obtain ⟨r471, z465, hr, h466, h467⟩ := loopM_some h468
    subst hr
    unfold slices_insertionSortCmpFunc_int_b2 at h466
    try dsimp only at h466
    refine GL.seq ?_
    refine GL.seq ?_
    obtain ⟨y487, K488, h489, h490, h491, h492, h493⟩ := bindF_K h466
    refine GL.join (ι := Bool) (fun (p : Bool) => [(0, v0), (1, .int .i64 x1), (2, .int .i64 x2), (3, .func (.func f3) #[] c3), (8, .int .i64 x173), (9, .int .i64 x407), (34, .bool p)]) (fun (p : Bool) => [own 3 TR.int v0 l406, keep X]) (fun (p : Bool) => K488 (.nx p)) ?_ ?_
    ·skip
     refine GL.regionQ rfl rfl (by kernel_rfl) ?_
     refine RL.mv rfl rfl rfl ?_
     refine RL.mv rfl rfl rfl ?_
     refine RL.binI (v := .bool (decide (x407 > x1))) rfl rfl rfl rfl rfl ?_
     refine RL.mv rfl rfl rfl ?_
     refine RL.split (t := 21) rfl (fun b494 => ?_) (fun b494 => ?_)
     ·replace h489 := ite_t b494 h489
      refine RL.mv rfl rfl rfl ?_
      refine RL.mv rfl rfl rfl ?_
      refine RL.mv rfl rfl rfl ?_
      obtain ⟨y495, e496, h489⟩ := bind_some h489
      refine RL.idxS (sz := 1) 0 Try.underlying24 Try_ln3 rfl rfl rfl rfl rfl SlOf.own (idx_some e496).1 (idx_some e496).2.1 ?_
      refine RL.ldSx (i := (x407).toNat) (e' := y495) 0 Ex.ik Try_ln3 rfl rfl rfl rfl SlOf.own (idx_some e496).2.2 Part.self ?_
      refine RL.mv rfl rfl rfl ?_
      refine RL.mv rfl rfl rfl ?_
      refine RL.binI (v := .int .i64 (wsub x407 (1 : Int))) rfl rfl rfl rfl rfl ?_
      obtain ⟨y497, e498, h489⟩ := bind_some h489
      refine RL.idxS (sz := 1) 0 Try.underlying24 Try_ln3 rfl rfl rfl rfl rfl SlOf.own (idx_some e498).1 (idx_some e498).2.1 ?_
      refine RL.ldSx (i := (wsub x407 (1 : Int)).toNat) (e' := y497) 0 Ex.ik Try_ln3 rfl rfl rfl rfl SlOf.own (idx_some e498).2.2 Part.self ?_
      obtain ⟨y499, e500, h489⟩ := bind_some h489
      refine RL.callV (v := .int .i64 y499) (vs := [.int .i64 y495, .int .i64 y497]) t3 rfl (Or.inr ⟨_, rfl⟩) rfl rfl rfl rfl (fun U w hU hW hL => k3 U w hW hU y495 y497 _ e500) ?_
      refine RL.binI (v := .bool (decide (y499 < (0 : Int)))) rfl rfl rfl rfl rfl ?_
      refine RL.pickT rfl rfl rfl rfl ?_
      refine RL.finQ ?_
      cases h489
      exact fun a w st => mid_intro (decide (y499 < (0 : Int))) h490 (St.cut [0, 1] ⟨rfl, rfl, rfl, rfl, rfl, rfl, rfl, trivial⟩ (by decide) rfl st)
     replace h489 := ite_f b494 h489
     refine RL.skip rfl rfl ?_
     refine RL.skip rfl rfl ?_
     refine RL.skip rfl rfl ?_
     refine RL.skip rfl rfl ?_
     refine RL.skip rfl rfl ?_
     refine RL.skip rfl rfl ?_
     refine RL.skip rfl rfl ?_
     refine RL.skip rfl rfl ?_
     refine RL.skip rfl rfl ?_
     refine RL.skip rfl rfl ?_
     refine RL.skip rfl rfl ?_
     refine RL.skip rfl rfl ?_
     refine RL.pickF rfl rfl rfl rfl ?_
     refine RL.finQ ?_
     cases h489
     exact fun a w st => mid_intro false h490 (St.cut [0, 1] ⟨rfl, rfl, rfl, rfl, rfl, rfl, rfl, trivial⟩ (by decide) rfl st)
    rintro x486 h501
    have h502 := h491 _ h501
    try dsimp only at h502
    refine GL.weak (env' := [(0, v0), (1, .int .i64 x1), (2, .int .i64 x2), (3, .func (.func f3) #[] c3), (8, .int .i64 x173), (9, .int .i64 x407), (34, .bool x486)]) (L' := [own 3 TR.int v0 l406, keep X]) (fun _ _ st => st) ?_
    refine GL.cond rfl (fun b503 => ?_) (fun b503 => ?_)
    ·replace h502 := ite_t b503 h502
     refine GL.skip ?_
     refine GL.seq ?_
     refine GL.block ?_
     refine GL.regionA rfl rfl ?_
     refine RA.mv 0 rfl (by kernel_rfl) rfl rfl rfl ?_
     refine RA.mv 1 rfl (by kernel_rfl) rfl rfl rfl ?_
     refine RA.mv 2 rfl (by kernel_rfl) rfl rfl rfl ?_
     refine RA.mv 3 rfl (by kernel_rfl) rfl rfl rfl ?_
     refine RA.binI (v := .int .i64 (wsub x407 (1 : Int))) 4 rfl (by kernel_rfl) rfl rfl rfl rfl rfl ?_
     refine RA.mv 5 rfl (by kernel_rfl) rfl rfl rfl ?_
     refine RA.mv 6 rfl (by kernel_rfl) rfl rfl rfl ?_
     refine RA.binI (v := .int .i64 (wsub x407 (1 : Int))) 7 rfl (by kernel_rfl) rfl rfl rfl rfl rfl ?_
     obtain ⟨y512, e513, h502⟩ := bind_some h502
     refine RA.idxS (sz := 1) 0 Try.underlying24 Try_ln3 8 rfl (by kernel_rfl) rfl rfl rfl rfl rfl SlOf.own (idx_some e513).1 (idx_some e513).2.1 ?_
     refine RA.mv 10 rfl (by kernel_rfl) rfl rfl rfl ?_
     refine RA.mv 11 rfl (by kernel_rfl) rfl rfl rfl ?_
     obtain ⟨y514, e515, h502⟩ := bind_some h502
     refine RA.idxS (sz := 1) 0 Try.underlying24 Try_ln3 12 rfl (by kernel_rfl) rfl rfl rfl rfl rfl SlOf.own (idx_some e515).1 (idx_some e515).2.1 ?_
     refine RA.still (le := #[true, true, true, true, true, true, true, true, true, true, true, true, true, true, true, false, false, false]) (f := 3) [9, 13, 14] 15 rfl (by kernel_rfl) ?_
     simp only [pickOps, List.getElem?_toArray, List.getElem?_cons_succ, List.getElem?_cons_zero]
     refine RL.ldSx (i := (wsub x407 (1 : Int)).toNat) (e' := y512) 0 Ex.ik Try_ln3 rfl rfl rfl rfl SlOf.own (idx_some e513).2.2 Part.self ?_
     refine RL.ldSx (i := (x407).toNat) (e' := y514) 0 Ex.ik Try_ln3 rfl rfl rfl rfl SlOf.own (idx_some e515).2.2 Part.self ?_
     obtain ⟨y516, e517, h502⟩ := bind_some h502
     refine RL.idxS (sz := 1) 0 Try.underlying24 Try_ln3 rfl rfl rfl rfl rfl SlOf.own (idx_some e517).1 (idx_some e517).2.1 ?_
     refine RL.finH ?_
     refine RL.fin ?_
     refine RA.next ?_
     refine RA.seq 15 rfl (by kernel_rfl) ?_
     refine RL.stS (i := (x407).toNat) (e' := y512) (e1 := y512) (r := TR.int) 0 Try_ln3 rfl rfl rfl rfl VR.int rfl (idx_some e517).2.2 Upd.self ?_
     refine RL.fin ?_
     refine RA.next ?_
     obtain ⟨y518, e519, h502⟩ := bind_some h502
     refine RA.idxS (sz := 1) 0 Try.underlying24 Try_ln3 16 rfl (by kernel_rfl) rfl rfl rfl rfl rfl SlOf.own (idx_some e519).1 (idx_some e519).2.1 ?_
     refine RA.seq 17 rfl (by kernel_rfl) ?_
     refine RL.stS (i := (wsub x407 (1 : Int)).toNat) (e' := y514) (e1 := y514) (r := TR.int) 0 Try_ln3 rfl rfl rfl rfl VR.int rfl (idx_some e519).2.2 Upd.self ?_
     refine RL.fin ?_
     refine RA.next ?_
     refine RA.doneG (by kernel_rfl) ?_
     refine GL.weak (env' := [(0, v0), (1, .int .i64 x1), (2, .int .i64 x2), (3, .func (.func f3) #[] c3), (8, .int .i64 x173), (9, .int .i64 x407)]) (L' := [own 3 TR.int v0 (List.set (List.set l406 ((x407).toNat) y512) ((wsub x407 (1 : Int)).toNat) y514), keep X]) (fun a w st => St.cut [0, 1] ⟨rfl, rfl, rfl, rfl, rfl, rfl, trivial⟩ (by decide) rfl st) ?_
     refine GL.nilB ?_
     refine GL.region ?_
     refine RL.mv rfl rfl rfl ?_
     refine RL.binI (v := .int .i64 (wsub x407 (1 : Int))) rfl rfl rfl rfl rfl ?_
     refine RL.asg rfl rfl rfl ?_
     refine RL.finG ?_
     cases h502
     exact fun a w st => lop_intro (r471, (List.set (List.set l406 ((x407).toNat) y512) ((wsub x407 (1 : Int)).toNat) y514), wsub x407 (1 : Int)) (by exact h467) (by simp) (St.cut [0, 1] ⟨rfl, rfl, rfl, rfl, rfl, rfl, trivial⟩ (by decide) rfl st)
    replace h502 := ite_f b503 h502
    cases h502
    replace h467 : some (Fl.nx _) = some y456 := h467
    cases h467
    exact GL.exit (fun a w st => mid_intro (l406, x407) h459 (St.cut [0, 1] ⟨rfl, rfl, rfl, rfl, rfl, trivial⟩ (by decide) rfl st))
   rintro ⟨l406, x407⟩ h520
   have h521 := h460 _ h520
   try dsimp only at h521
   refine GL.weak (env' := [(0, v0), (1, .int .i64 x1), (2, .int .i64 x2), (3, .func (.func f3) #[] c3), (8, .int .i64 x173)]) (L' := [own 3 TR.int v0 l406, keep X]) (fun _ _ st => st) ?_
   refine GL.nilB ?_
   refine GL.region ?_
   refine RL.mv rfl rfl rfl ?_
   refine RL.binI (v := .int .i64 (wadd x173 (1 : Int))) rfl rfl rfl rfl rfl ?_
   refine RL.asg rfl rfl rfl ?_
   refine RL.finG ?_
   cases h521
   exact fun a w st => lop_intro (r355, l406, wadd x173 (1 : Int)) (by exact h351) (by simp) (St.cut [0, 1] ⟨rfl, rfl, rfl, rfl, rfl, trivial⟩ (by decide) rfl st)
  replace h350 := ite_f b356 h350
  cases h350
  replace h351 : some (Fl.nx _) = some y340 := h351
  cases h351
  exact GL.exit (fun a w st => mid_intro (l172, x173) h343 (St.cut [0, 1] trivial (by decide) rfl st))
 rintro ⟨l172, x173⟩ h522
 have h523 := h344 _ h522
 try dsimp only at h523
 refine GL.weak (env' := []) (L' := [own 3 TR.int v0 l172, keep X]) (fun _ _ st => st) ?_
 have h523 := Option.some.inj h523
 subst h523
 exact GL.nil (Gx.retN (v := .tuple #[]) (res0 rfl) (fun a w st => (st.pick [0, 1] (by decide) rfl).toPostM (V := fun (o : Unit) => .tuple #[]) (LR := fun (o : Unit) => [own 3 TR.int v0 l172, keep X]) ()))
end Go.Wk
