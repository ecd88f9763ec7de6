/- Each function comes to what its model says; printed by a program of this repository. -/
import Derived.Test.YtfhfoechannphaaProg
import Derived.Test.YtfhfoechannphaaWDuelMcGarveyModels
namespace Go.Wk
open Go.Fw Go.Mo Go.Proofs Go.RowKit
set_option linter.all false
set_option maxRecDepth 100000
theorem loopNx {ρ σ β γ : Type} {body : σ → Option (Fl ρ β σ)} {n : Nat} {s : σ} {y : Fl ρ γ β} (h : stepM body n (.nx s) = some y) : loopM body n s = some y := h
theorem Try_info3 : (Try.prog.info? 3).map (fun i => (i.zero, i.size, i.bytes)) = some (some (.int .i64 0), 1, 8) := by kernel_rfl
theorem Try_ln3 : Ln Try.prog 3 1 false := Ln.of Try_info3 Try.underlying3 rfl
theorem Try_lo3 : LnO Try.prog 3 1 [.int .i64 0] := LnO.of Try_info3 rfl rfl (by decide) (by decide)
theorem Try_info4 : (Try.prog.info? 4).map (fun i => (i.zero, i.size, i.bytes)) = some (some (.bool false), 1, 1) := by kernel_rfl
theorem Try_ln4 : Ln Try.prog 4 1 false := Ln.of Try_info4 Try.underlying4 rfl
theorem Try_lo4 : LnO Try.prog 4 1 [.bool false] := LnO.of Try_info4 rfl rfl (by decide) (by decide)
theorem Try_info27 : (Try.prog.info? 27).map (fun i => (i.zero, i.size, i.bytes)) = some (some (.slice none 0 0), 1, 24) := by kernel_rfl
theorem Try_ln27 : Ln Try.prog 27 1 false := Ln.of Try_info27 Try.underlying27 rfl
theorem Try_lo27 : LnO Try.prog 27 1 [.slice none 0 0] := LnO.of Try_info27 rfl rfl (by decide) (by decide)
theorem Try_info28 : (Try.prog.info? 28).map (fun i => (i.zero, i.size, i.bytes)) = some (some (.int .i64 0), 1, 8) := by kernel_rfl
theorem Try_ln28 : Ln Try.prog 28 1 false := Ln.of Try_info28 Try.underlying28 rfl
theorem Try_lo28 : LnO Try.prog 28 1 [.int .i64 0] := LnO.of Try_info28 rfl rfl (by decide) (by decide)
theorem Try_info37 : (Try.prog.info? 37).map (fun i => (i.zero, i.size, i.bytes)) = some (some (.slice none 0 0), 1, 24) := by kernel_rfl
theorem Try_ln37 : Ln Try.prog 37 1 false := Ln.of Try_info37 Try.underlying37 rfl
theorem Try_lo37 : LnO Try.prog 37 1 [.slice none 0 0] := LnO.of Try_info37 rfl rfl (by decide) (by decide)
theorem Try_info79 : (Try.prog.info? 79).map (fun i => (i.zero, i.size, i.bytes)) = some (some (.agg #[.bool false, .bool false, .bool false, .bool false, .bool false, .bool false]), 6, 6) := by kernel_rfl
theorem Try_ln79 : Ln Try.prog 79 6 true := Ln.of Try_info79 Try.underlying79 rfl
theorem Try_lo79 : LnO Try.prog 79 6 [.bool false, .bool false, .bool false, .bool false, .bool false, .bool false] := LnO.of Try_info79 rfl rfl (by decide) (by decide)
theorem Try_fit10 : Fit Try.prog 10 := Fit.of Try.func10 (by kernel_rfl) rfl
theorem Try_fit13 : Fit Try.prog 13 := Fit.of Try.func13 (by kernel_rfl) rfl
theorem Try_fit17 : Fit Try.prog 17 := Fit.of Try.func17 (by kernel_rfl) rfl
theorem Try_fit19 : Fit Try.prog 19 := Fit.of Try.func19 (by kernel_rfl) rfl
theorem Try_fit20 : Fit Try.prog 20 := Fit.of Try.func20 (by kernel_rfl) rfl
theorem Try_fit21 : Fit Try.prog 21 := Fit.of Try.func21 (by kernel_rfl) rfl
theorem Try_fit22 : Fit Try.prog 22 := Fit.of Try.func22 (by kernel_rfl) rfl
theorem Try_fit23 : Fit Try.prog 23 := Fit.of Try.func23 (by kernel_rfl) rfl
theorem Try_fit32 : Fit Try.prog 32 := Fit.of Try.func32 (by kernel_rfl) rfl
theorem Try_fit34 : Fit Try.prog 34 := Fit.of Try.func34 (by kernel_rfl) rfl
theorem Try_fit35 : Fit Try.prog 35 := Fit.of Try.func35 (by kernel_rfl) rfl
theorem Try_fit37 : Fit Try.prog 37 := Fit.of Try.func37 (by kernel_rfl) rfl
theorem Try_fit38 : Fit Try.prog 38 := Fit.of Try.func38 (by kernel_rfl) rfl
theorem Try_fit43 : Fit Try.prog 43 := Fit.of Try.func43 (by kernel_rfl) rfl
theorem Try_fit47 : Fit Try.prog 47 := Fit.of Try.func47 (by kernel_rfl) rfl

set_option maxHeartbeats 4000000 in
theorem duel_Votes_c (S : Hp) (w : World) (hS : S.sub w) (x0 : Int) (v1 : Value) (x1 : (List (List Int))) (k1 : ((TR.sl (TR.sl TR.int))).vrep S v1 x1) (res : (List (List Int)) × Int) (hm : duel_Votes_m x0 x1 = some res) : Calls Try.prog 19 #[.int .i64 x0, v1] w (Post w S (fun (o : Value) => .tuple #[o, .int .i64 res.2]) (fun (o : Value) => [own 27 (TR.sl TR.int) o res.1])) := by
 refine calls_enter 113 Try.func19 Try.ntmps19 rfl S false [(0, .int .i64 x0), (1, v1)] [imm (TR.sl (TR.sl TR.int)) v1 x1] rfl ⟨rfl, ⟨rfl, trivial⟩⟩ hS ⟨k1, trivial⟩ ?_
 unfold duel_Votes_m at hm
 refine GL.seq ?_
 refine GL.region ?_
 refine RL.asg rfl rfl rfl ?_
 refine RL.asg rfl rfl rfl ?_
 refine RL.finG ?_
 refine GL.seq ?_
 refine GL.seq ?_
 obtain ⟨y6, K7, h8, h9, h10, h11, h12⟩ := bindR_K hm
 refine GL.join (ι := Bool) (fun (p : Bool) => [(0, .int .i64 x0), (1, v1), (17, .bool p)]) (fun (p : Bool) => [imm (TR.sl (TR.sl TR.int)) v1 x1]) (fun (p : Bool) => K7 (.nx p)) ?_ ?_
 ·skip
  refine GL.region ?_
  refine RL.mv rfl rfl rfl ?_
  refine RL.binI (v := .bool (decide (x0 < (1 : Int)))) rfl rfl rfl rfl rfl ?_
  refine RL.mv rfl rfl rfl ?_
  refine RL.split (t := 14) rfl (fun b13 => ?_) (fun b13 => ?_)
  ·replace h8 := ite_t b13 h8
   refine RL.skip rfl rfl ?_
   refine RL.skip rfl rfl ?_
   refine RL.pickT rfl rfl rfl rfl ?_
   refine RL.fin ?_
   cases h8
   exact fun a w st => mid_intro true h9 (St.cut [0] ⟨rfl, rfl, rfl, trivial⟩ (by decide) rfl st)
  replace h8 := ite_f b13 h8
  refine RL.mv rfl rfl rfl ?_
  refine RL.binI (v := .bool (decide (x0 > (6 : Int)))) rfl rfl rfl rfl rfl ?_
  refine RL.pickF rfl rfl rfl rfl ?_
  refine RL.fin ?_
  cases h8
  exact fun a w st => mid_intro (decide (x0 > (6 : Int))) h9 (St.cut [0] ⟨rfl, rfl, rfl, trivial⟩ (by decide) rfl st)
 rintro x5 h14
 have h15 := h10 _ h14
 try dsimp only at h15
 refine GL.weak (env' := [(0, .int .i64 x0), (1, v1), (17, .bool x5)]) (L' := [imm (TR.sl (TR.sl TR.int)) v1 x1]) (fun _ _ st => st) ?_
 refine GL.cond rfl (fun b16 => ?_) (fun b16 => ?_)
 ·replace h15 := ite_t b16 h15
  refine GL.seq ?_
  refine GL.region ?_
  refine RL.asg rfl rfl rfl ?_
  refine RL.asg rfl rfl rfl ?_
  refine RL.finG ?_
  refine GL.weak (fun a w st => st.nilOwn 27 (TR.sl TR.int)) ?_
  have h15 := Option.some.inj h15
  subst h15
  exact GL.ret (Gx.ret (v := .tuple #[Value.slice none 0 0, .int .i64 (1 : Int)]) (res2 rfl rfl rfl) (fun a w st => (st.pick [1] (by decide) rfl).toPost (Value.slice none 0 0)))
 replace h15 := ite_f b16 h15
 refine GL.skip ?_
 refine GL.seq ?_
 refine GL.seq ?_
 refine GL.region ?_
 refine RL.mv rfl rfl rfl ?_
 refine RL.lenS 0 Try.underlying37 rfl rfl rfl rfl SlOf.imm ?_
 refine RL.binI (v := .int .i64 (wmul (2 : Int) ((x1).length : Int))) rfl rfl rfl rfl rfl ?_
 refine RL.binI (v := .bool (decide ((wmul (2 : Int) ((x1).length : Int)) > (30 : Int)))) rfl rfl rfl rfl rfl ?_
 refine RL.finG ?_
 refine GL.cond rfl (fun b17 => ?_) (fun b17 => ?_)
 ·replace h15 := ite_t b17 h15
  refine GL.seq ?_
  refine GL.region ?_
  refine RL.asg rfl rfl rfl ?_
  refine RL.asg rfl rfl rfl ?_
  refine RL.finG ?_
  refine GL.weak (fun a w st => st.nilOwn 27 (TR.sl TR.int)) ?_
  have h15 := Option.some.inj h15
  subst h15
  exact GL.ret (Gx.ret (v := .tuple #[Value.slice none 0 0, .int .i64 (2 : Int)]) (res2 rfl rfl rfl) (fun a w st => (st.pick [1] (by decide) rfl).toPost (Value.slice none 0 0)))
 replace h15 := ite_f b17 h15
 refine GL.skip ?_
 refine GL.seq ?_
 refine GL.region ?_
 refine RL.asg rfl rfl rfl ?_
 refine RL.finG ?_
 refine GL.seq ?_
 refine GL.seq ?_
 refine GL.region ?_
 refine RL.mv rfl rfl rfl ?_
 refine RL.lenS 0 Try.underlying37 rfl rfl rfl rfl SlOf.imm ?_
 refine RL.mv rfl rfl rfl ?_
 refine RL.finG ?_
 refine GL.weak (fun a w st => st.nilOwn 27 (TR.sl TR.int)) ?_
 refine GL.open_ 0 rfl (fun S h => len_imm S h) (fun n233 => ?_)
 obtain ⟨y234, K235, h236, h237, h238, h239, h240⟩ := bindR_K h15
 refine GL.join (ι := (List (List Int)) × Value) (fun (p : (List (List Int)) × Value) => [(6, p.2)]) (fun (p : (List (List Int)) × Value) => [own 27 (TR.sl TR.int) p.2 p.1]) (fun (p : (List (List Int)) × Value) => K235 (.nx p.1)) ?_ ?_
 ·refine GL.block ?_
  refine GL.loop (ι := Nat × (List (List Int)) × (List (List Int)) × Value) (fun (p : Nat × (List (List Int)) × (List (List Int)) × Value) => [(0, .int .i64 x0), (6, p.2.2.2), (22, v1), (23, .int .i64 ((x1).length : Int)), (24, .int .i64 (p.1 : Int))]) (fun (p : Nat × (List (List Int)) × (List (List Int)) × Value) => [own 27 (TR.sl TR.int) p.2.2.2 p.2.2.1, imm (TR.sl (TR.sl TR.int)) v1 x1]) (fun (p : Nat × (List (List Int)) × (List (List Int)) × Value) => p.1 + p.2.1.length = (x1).length ∧ List.drop p.1 x1 = p.2.1 ∧ rangeL (duel_Votes_b1 x0) p.2.1 p.1 p.2.2.1 = some y234) (fun (p : Nat × (List (List Int)) × (List (List Int)) × Value) => p.2.1.length) (0, x1, [], Value.slice none 0 0) ⟨by simp, by simp, h236⟩ (fun a w st => St.cut [1, 0] ⟨rfl, rfl, rfl, rfl, rfl, trivial⟩ (by decide) rfl st) ?_
  rintro ⟨i241, r242, l18, v19⟩ ⟨h247, h248, h246⟩
  try dsimp only at h247 h248 h246
  refine GL.weak (env' := [(0, .int .i64 x0), (6, v19), (22, v1), (23, .int .i64 ((x1).length : Int)), (24, .int .i64 (i241 : Int))]) (L' := [own 27 (TR.sl TR.int) v19 l18, imm (TR.sl (TR.sl TR.int)) v1 x1]) (fun _ _ st => st) ?_
  refine GL.seq ?_
  refine GL.region ?_
  refine RL.binI (v := .bool (decide ((i241 : Int) < ((x1).length : Int)))) rfl rfl rfl rfl rfl ?_
  refine RL.finG ?_
  refine GL.seq ?_
  refine GL.cond rfl (fun b249 => ?_) (fun b249 => ?_)
  ·have h250 : i241 < (x1).length := by have := of_decide_eq_true b249; omega
   obtain ⟨y251, r253, hr, e252, h254⟩ := drop_cons h248 rfl h250
   subst hr
   obtain ⟨z243, h244, h245⟩ := rangeL_some h246
   unfold duel_Votes_b1 at h244
   try dsimp only at h244
   refine GL.skip ?_
   refine GL.seq ?_
   refine GL.block ?_
   refine GL.seq ?_
   refine GL.region ?_
   refine RL.idxS (sz := 1) 1 Try.underlying37 Try_ln27 rfl rfl rfl rfl rfl SlOf.imm (by omega) (by omega) ?_
   refine RL.ldS (i := i241) (r := (TR.sl TR.int)) (e' := y251) 1 Try_ln27 rfl rfl rfl rfl SlOf.imm e252 Part.self ?_
   intro v256
   refine RL.asg rfl rfl rfl ?_
   refine RL.finG ?_
   refine GL.seq ?_
   refine GL.seq ?_
   obtain ⟨y292, K293, h294, h295, h296, h297, h298⟩ := bindF_K h244
   refine GL.join (ι := Bool) (fun (p : Bool) => [(0, .int .i64 x0), (6, v19), (8, v256), (22, v1), (23, .int .i64 ((x1).length : Int)), (24, .int .i64 (i241 : Int)), (65, .bool p)]) (fun (p : Bool) => [own 27 (TR.sl TR.int) v19 l18, imm (TR.sl TR.int) v256 y251, imm (TR.sl (TR.sl TR.int)) v1 x1]) (fun (p : Bool) => K293 (.nx p)) ?_ ?_
   ·skip
    refine GL.regionQ rfl rfl (by kernel_rfl) ?_
    refine RL.mv rfl rfl rfl ?_
    refine RL.lenS 2 Try.underlying27 rfl rfl rfl rfl SlOf.imm ?_
    refine RL.binI (v := .bool (((y251).length : Int) != (2 : Int))) rfl rfl rfl rfl rfl ?_
    refine RL.mv rfl rfl rfl ?_
    refine RL.split (t := 31) rfl (fun b299 => ?_) (fun b299 => ?_)
    ·replace h294 := ite_t b299 h294
     refine RL.skip rfl rfl ?_
     refine RL.skip rfl rfl ?_
     refine RL.skip rfl rfl ?_
     refine RL.skip rfl rfl ?_
     refine RL.pickT rfl rfl rfl rfl ?_
     refine RL.mv rfl rfl rfl ?_
     refine RL.skip rfl rfl ?_
     refine RL.skip rfl rfl ?_
     refine RL.skip rfl rfl ?_
     refine RL.skip rfl rfl ?_
     refine RL.skip rfl rfl ?_
     refine RL.pickT rfl rfl rfl rfl ?_
     refine RL.mv rfl rfl rfl ?_
     refine RL.skip rfl rfl ?_
     refine RL.skip rfl rfl ?_
     refine RL.skip rfl rfl ?_
     refine RL.skip rfl rfl ?_
     refine RL.pickT rfl rfl rfl rfl ?_
     refine RL.mv rfl rfl rfl ?_
     refine RL.skip rfl rfl ?_
     refine RL.skip rfl rfl ?_
     refine RL.skip rfl rfl ?_
     refine RL.skip rfl rfl ?_
     refine RL.skip rfl rfl ?_
     refine RL.pickT rfl rfl rfl rfl ?_
     refine RL.mv rfl rfl rfl ?_
     refine RL.skip rfl rfl ?_
     refine RL.skip rfl rfl ?_
     refine RL.skip rfl rfl ?_
     refine RL.skip rfl rfl ?_
     refine RL.skip rfl rfl ?_
     refine RL.skip rfl rfl ?_
     refine RL.skip rfl rfl ?_
     refine RL.pickT rfl rfl rfl rfl ?_
     refine RL.finQ ?_
     cases h294
     exact fun a w st => mid_intro true h295 (St.cut [0, 2, 1] ⟨rfl, rfl, rfl, rfl, rfl, rfl, rfl, trivial⟩ (by decide) rfl st)
    replace h294 := ite_f b299 h294
    refine RL.mv rfl rfl rfl ?_
    obtain ⟨y300, e301, h294⟩ := bind_some h294
    refine RL.idxS (sz := 1) 2 Try.underlying27 Try_ln3 rfl rfl rfl rfl rfl SlOf.imm (idx_some e301).1 (idx_some e301).2.1 ?_
    refine RL.ldSx (i := ((0 : Int)).toNat) (e' := y300) 2 Ex.ik Try_ln3 rfl rfl rfl rfl SlOf.imm (idx_some e301).2.2 Part.self ?_
    refine RL.binI (v := .bool (decide (y300 < (0 : Int)))) rfl rfl rfl rfl rfl ?_
    refine RL.pickF rfl rfl rfl rfl ?_
    refine RL.mv rfl rfl rfl ?_
    refine RL.split (t := 37) rfl (fun b302 => ?_) (fun b302 => ?_)
    ·replace h294 := ite_t b302 h294
     refine RL.skip rfl rfl ?_
     refine RL.skip rfl rfl ?_
     refine RL.skip rfl rfl ?_
     refine RL.skip rfl rfl ?_
     refine RL.skip rfl rfl ?_
     refine RL.pickT rfl rfl rfl rfl ?_
     refine RL.mv rfl rfl rfl ?_
     refine RL.skip rfl rfl ?_
     refine RL.skip rfl rfl ?_
     refine RL.skip rfl rfl ?_
     refine RL.skip rfl rfl ?_
     refine RL.pickT rfl rfl rfl rfl ?_
     refine RL.mv rfl rfl rfl ?_
     refine RL.skip rfl rfl ?_
     refine RL.skip rfl rfl ?_
     refine RL.skip rfl rfl ?_
     refine RL.skip rfl rfl ?_
     refine RL.skip rfl rfl ?_
     refine RL.pickT rfl rfl rfl rfl ?_
     refine RL.mv rfl rfl rfl ?_
     refine RL.skip rfl rfl ?_
     refine RL.skip rfl rfl ?_
     refine RL.skip rfl rfl ?_
     refine RL.skip rfl rfl ?_
     refine RL.skip rfl rfl ?_
     refine RL.skip rfl rfl ?_
     refine RL.skip rfl rfl ?_
     refine RL.pickT rfl rfl rfl rfl ?_
     refine RL.finQ ?_
     cases h294
     exact fun a w st => mid_intro true h295 (St.cut [0, 2, 1] ⟨rfl, rfl, rfl, rfl, rfl, rfl, rfl, trivial⟩ (by decide) rfl st)
    replace h294 := ite_f b302 h294
    refine RL.mv rfl rfl rfl ?_
    obtain ⟨y303, e304, h294⟩ := bind_some h294
    refine RL.idxS (sz := 1) 2 Try.underlying27 Try_ln3 rfl rfl rfl rfl rfl SlOf.imm (idx_some e304).1 (idx_some e304).2.1 ?_
    refine RL.ldSx (i := ((0 : Int)).toNat) (e' := y303) 2 Ex.ik Try_ln3 rfl rfl rfl rfl SlOf.imm (idx_some e304).2.2 Part.self ?_
    refine RL.mv rfl rfl rfl ?_
    refine RL.binI (v := .bool (decide (y303 ≥ x0))) rfl rfl rfl rfl rfl ?_
    refine RL.pickF rfl rfl rfl rfl ?_
    refine RL.mv rfl rfl rfl ?_
    refine RL.split (t := 44) rfl (fun b305 => ?_) (fun b305 => ?_)
    ·replace h294 := ite_t b305 h294
     refine RL.skip rfl rfl ?_
     refine RL.skip rfl rfl ?_
     refine RL.skip rfl rfl ?_
     refine RL.skip rfl rfl ?_
     refine RL.pickT rfl rfl rfl rfl ?_
     refine RL.mv rfl rfl rfl ?_
     refine RL.skip rfl rfl ?_
     refine RL.skip rfl rfl ?_
     refine RL.skip rfl rfl ?_
     refine RL.skip rfl rfl ?_
     refine RL.skip rfl rfl ?_
     refine RL.pickT rfl rfl rfl rfl ?_
     refine RL.mv rfl rfl rfl ?_
     refine RL.skip rfl rfl ?_
     refine RL.skip rfl rfl ?_
     refine RL.skip rfl rfl ?_
     refine RL.skip rfl rfl ?_
     refine RL.skip rfl rfl ?_
     refine RL.skip rfl rfl ?_
     refine RL.skip rfl rfl ?_
     refine RL.pickT rfl rfl rfl rfl ?_
     refine RL.finQ ?_
     cases h294
     exact fun a w st => mid_intro true h295 (St.cut [0, 2, 1] ⟨rfl, rfl, rfl, rfl, rfl, rfl, rfl, trivial⟩ (by decide) rfl st)
    replace h294 := ite_f b305 h294
    refine RL.mv rfl rfl rfl ?_
    obtain ⟨y306, e307, h294⟩ := bind_some h294
    refine RL.idxS (sz := 1) 2 Try.underlying27 Try_ln3 rfl rfl rfl rfl rfl SlOf.imm (idx_some e307).1 (idx_some e307).2.1 ?_
    refine RL.ldSx (i := ((1 : Int)).toNat) (e' := y306) 2 Ex.ik Try_ln3 rfl rfl rfl rfl SlOf.imm (idx_some e307).2.2 Part.self ?_
    refine RL.binI (v := .bool (decide (y306 < (0 : Int)))) rfl rfl rfl rfl rfl ?_
    refine RL.pickF rfl rfl rfl rfl ?_
    refine RL.mv rfl rfl rfl ?_
    refine RL.split (t := 50) rfl (fun b308 => ?_) (fun b308 => ?_)
    ·replace h294 := ite_t b308 h294
     refine RL.skip rfl rfl ?_
     refine RL.skip rfl rfl ?_
     refine RL.skip rfl rfl ?_
     refine RL.skip rfl rfl ?_
     refine RL.skip rfl rfl ?_
     refine RL.pickT rfl rfl rfl rfl ?_
     refine RL.mv rfl rfl rfl ?_
     refine RL.skip rfl rfl ?_
     refine RL.skip rfl rfl ?_
     refine RL.skip rfl rfl ?_
     refine RL.skip rfl rfl ?_
     refine RL.skip rfl rfl ?_
     refine RL.skip rfl rfl ?_
     refine RL.skip rfl rfl ?_
     refine RL.pickT rfl rfl rfl rfl ?_
     refine RL.finQ ?_
     cases h294
     exact fun a w st => mid_intro true h295 (St.cut [0, 2, 1] ⟨rfl, rfl, rfl, rfl, rfl, rfl, rfl, trivial⟩ (by decide) rfl st)
    replace h294 := ite_f b308 h294
    refine RL.mv rfl rfl rfl ?_
    obtain ⟨y309, e310, h294⟩ := bind_some h294
    refine RL.idxS (sz := 1) 2 Try.underlying27 Try_ln3 rfl rfl rfl rfl rfl SlOf.imm (idx_some e310).1 (idx_some e310).2.1 ?_
    refine RL.ldSx (i := ((1 : Int)).toNat) (e' := y309) 2 Ex.ik Try_ln3 rfl rfl rfl rfl SlOf.imm (idx_some e310).2.2 Part.self ?_
    refine RL.mv rfl rfl rfl ?_
    refine RL.binI (v := .bool (decide (y309 ≥ x0))) rfl rfl rfl rfl rfl ?_
    refine RL.pickF rfl rfl rfl rfl ?_
    refine RL.mv rfl rfl rfl ?_
    refine RL.split (t := 57) rfl (fun b311 => ?_) (fun b311 => ?_)
    ·replace h294 := ite_t b311 h294
     refine RL.skip rfl rfl ?_
     refine RL.skip rfl rfl ?_
     refine RL.skip rfl rfl ?_
     refine RL.skip rfl rfl ?_
     refine RL.skip rfl rfl ?_
     refine RL.skip rfl rfl ?_
     refine RL.skip rfl rfl ?_
     refine RL.pickT rfl rfl rfl rfl ?_
     refine RL.finQ ?_
     cases h294
     exact fun a w st => mid_intro true h295 (St.cut [0, 2, 1] ⟨rfl, rfl, rfl, rfl, rfl, rfl, rfl, trivial⟩ (by decide) rfl st)
    replace h294 := ite_f b311 h294
    refine RL.mv rfl rfl rfl ?_
    obtain ⟨y312, e313, h294⟩ := bind_some h294
    refine RL.idxS (sz := 1) 2 Try.underlying27 Try_ln3 rfl rfl rfl rfl rfl SlOf.imm (idx_some e313).1 (idx_some e313).2.1 ?_
    refine RL.ldSx (i := ((0 : Int)).toNat) (e' := y312) 2 Ex.ik Try_ln3 rfl rfl rfl rfl SlOf.imm (idx_some e313).2.2 Part.self ?_
    refine RL.mv rfl rfl rfl ?_
    obtain ⟨y314, e315, h294⟩ := bind_some h294
    refine RL.idxS (sz := 1) 2 Try.underlying27 Try_ln3 rfl rfl rfl rfl rfl SlOf.imm (idx_some e315).1 (idx_some e315).2.1 ?_
    refine RL.ldSx (i := ((1 : Int)).toNat) (e' := y314) 2 Ex.ik Try_ln3 rfl rfl rfl rfl SlOf.imm (idx_some e315).2.2 Part.self ?_
    refine RL.binI (v := .bool (y312 == y314)) rfl rfl rfl rfl rfl ?_
    refine RL.pickF rfl rfl rfl rfl ?_
    refine RL.finQ ?_
    cases h294
    exact fun a w st => mid_intro (y312 == y314) h295 (St.cut [0, 2, 1] ⟨rfl, rfl, rfl, rfl, rfl, rfl, rfl, trivial⟩ (by decide) rfl st)
   rintro x291 h316
   have h317 := h296 _ h316
   try dsimp only at h317
   refine GL.weak (env' := [(0, .int .i64 x0), (6, v19), (8, v256), (22, v1), (23, .int .i64 ((x1).length : Int)), (24, .int .i64 (i241 : Int)), (65, .bool x291)]) (L' := [own 27 (TR.sl TR.int) v19 l18, imm (TR.sl TR.int) v256 y251, imm (TR.sl (TR.sl TR.int)) v1 x1]) (fun _ _ st => st) ?_
   refine GL.cond rfl (fun b318 => ?_) (fun b318 => ?_)
   ·replace h317 := ite_t b318 h317
    refine GL.seq ?_
    refine GL.region ?_
    refine RL.asg rfl rfl rfl ?_
    refine RL.asg rfl rfl rfl ?_
    refine RL.finG ?_
    refine GL.weak (fun a w st => st.nilOwn 27 (TR.sl TR.int)) ?_
    cases h317
    replace h245 : some (Fl.rt _) = some y234 := h245
    cases h245
    have hh := h239 _ h237
    subst hh
    exact GL.ret (Gx.ret (v := .tuple #[Value.slice none 0 0, .int .i64 (3 : Int)]) (res2 rfl rfl rfl) (fun a w st => (st.pick [3] (by decide) rfl).toPost (Value.slice none 0 0)))
   replace h317 := ite_f b318 h317
   refine GL.skip ?_
   refine GL.seq ?_
   refine GL.regionH 6 rfl rfl (by kernel_rfl) ?_
   simp only [List.take_succ_cons, List.take_zero, List.drop_succ_cons, List.drop_zero]
   refine RL.mv rfl rfl rfl ?_
   obtain ⟨y324, e325, h317⟩ := bind_some h317
   refine RL.idxS (sz := 1) 1 Try.underlying27 Try_ln3 rfl rfl rfl rfl rfl SlOf.imm (idx_some e325).1 (idx_some e325).2.1 ?_
   refine RL.ldSx (i := ((0 : Int)).toNat) (e' := y324) 1 Ex.ik Try_ln3 rfl rfl rfl rfl SlOf.imm (idx_some e325).2.2 Part.self ?_
   refine RL.mv rfl rfl rfl ?_
   obtain ⟨y326, e327, h317⟩ := bind_some h317
   refine RL.idxS (sz := 1) 1 Try.underlying27 Try_ln3 rfl rfl rfl rfl rfl SlOf.imm (idx_some e327).1 (idx_some e327).2.1 ?_
   refine RL.ldSx (i := ((1 : Int)).toNat) (e' := y326) 1 Ex.ik Try_ln3 rfl rfl rfl rfl SlOf.imm (idx_some e327).2.2 Part.self ?_
   refine RL.finH ?_
   refine RL.bS (t := TR.int) (vs := [.int .i64 y324, .int .i64 y326]) ([y324, y326] : (List Int)) Try.underlying27 Try_lo3 rfl rfl rfl rfl ⟨VR.int, ⟨VR.int, trivial⟩⟩ rfl (by decide) ?_
   intro v328
   refine RL.asg rfl rfl rfl ?_
   refine RL.finG ?_
   refine GL.seq ?_
   refine GL.region ?_
   refine RL.asg rfl rfl rfl ?_
   refine RL.finG ?_
   refine GL.seq ?_
   refine GL.seq ?_
   refine GL.region ?_
   refine RL.mv rfl rfl rfl ?_
   refine RL.mv rfl rfl rfl ?_
   refine RL.finG ?_
   refine GL.weak (fun a w st => st.nilOwn 3 TR.int) ?_
   obtain ⟨y376, e377, h317⟩ := bind_some h317
   replace e377 := chk_some e377
   obtain ⟨y378, K379, h380, h381, h382, h383, h384⟩ := bindF_K h317
   refine GL.join (ι := (List Int) × (List Int) × Value × Value) (fun (p : (List Int) × (List Int) × Value × Value) => [(0, .int .i64 x0), (6, v19), (8, v256), (9, p.2.2.1), (10, p.2.2.2), (22, v1), (23, .int .i64 ((x1).length : Int)), (24, .int .i64 (i241 : Int))]) (fun (p : (List Int) × (List Int) × Value × Value) => [own 27 (TR.sl TR.int) v19 l18, imm (TR.sl TR.int) v256 y251, own 3 TR.int p.2.2.1 p.1, own 3 TR.int p.2.2.2 p.2.1, imm (TR.sl (TR.sl TR.int)) v1 x1]) (fun (p : (List Int) × (List Int) × Value × Value) => K379 (.nx (p.1, p.2.1))) ?_ ?_
   ·refine GL.block ?_
    refine GL.loop (ι := Nat × Nat × (List Int) × (List Int) × Value × Value) (fun (p : Nat × Nat × (List Int) × (List Int) × Value × Value) => [(0, .int .i64 x0), (6, v19), (8, v256), (9, p.2.2.2.2.1), (10, p.2.2.2.2.2), (22, v1), (23, .int .i64 ((x1).length : Int)), (24, .int .i64 (i241 : Int)), (73, .int .i64 x0), (74, .int .i64 (p.1 : Int))]) (fun (p : Nat × Nat × (List Int) × (List Int) × Value × Value) => [own 27 (TR.sl TR.int) v19 l18, imm (TR.sl TR.int) v256 y251, own 3 TR.int p.2.2.2.2.1 p.2.2.1, own 3 TR.int p.2.2.2.2.2 p.2.2.2.1, imm (TR.sl (TR.sl TR.int)) v1 x1]) (fun (p : Nat × Nat × (List Int) × (List Int) × Value × Value) => p.1 + p.2.1 = (x0).toNat ∧ rangeN (duel_Votes_b2 y251) p.2.1 p.1 (p.2.2.1, p.2.2.2.1) = some y378) (fun (p : Nat × Nat × (List Int) × (List Int) × Value × Value) => p.2.1) (0, (x0).toNat, ([y324, y326] : (List Int)), [], v328, Value.slice none 0 0) ⟨by simp, h380⟩ (fun a w st => St.cut [0, 1, 3, 4, 2] ⟨rfl, rfl, rfl, rfl, rfl, rfl, rfl, rfl, rfl, rfl, trivial⟩ (by decide) rfl st) ?_
    rintro ⟨i385, r386, l329, l331, v330, v332⟩ ⟨h391, h390⟩
    try dsimp only at h391 h390
    refine GL.weak (env' := [(0, .int .i64 x0), (6, v19), (8, v256), (9, v330), (10, v332), (22, v1), (23, .int .i64 ((x1).length : Int)), (24, .int .i64 (i241 : Int)), (73, .int .i64 x0), (74, .int .i64 (i385 : Int))]) (L' := [own 27 (TR.sl TR.int) v19 l18, imm (TR.sl TR.int) v256 y251, own 3 TR.int v330 l329, own 3 TR.int v332 l331, imm (TR.sl (TR.sl TR.int)) v1 x1]) (fun _ _ st => st) ?_
    refine GL.seq ?_
    refine GL.region ?_
    refine RL.binI (v := .bool (decide ((i385 : Int) < x0))) rfl rfl rfl rfl rfl ?_
    refine RL.finG ?_
    refine GL.seq ?_
    refine GL.cond rfl (fun b393 => ?_) (fun b393 => ?_)
    ·have h394 : i385 < (x0).toNat := by have := of_decide_eq_true b393; omega
     obtain ⟨r395, hr⟩ : ∃ m, r386 = m + 1 := ⟨r386 - 1, by omega⟩
     subst hr
     obtain ⟨z387, h388, h389⟩ := rangeN_some h390
     unfold duel_Votes_b2 at h388
     try dsimp only at h388
     refine GL.skip ?_
     refine GL.seq ?_
     refine GL.block ?_
     refine GL.seq ?_
     refine GL.region ?_
     refine RL.mv rfl rfl rfl ?_
     refine RL.asg rfl rfl rfl ?_
     refine RL.finG ?_
     refine GL.seq ?_
     obtain ⟨y407, K408, h409, h410, h411, h412, h413⟩ := bindF_K h388
     refine GL.join (ι := Bool) (fun (p : Bool) => [(0, .int .i64 x0), (6, v19), (8, v256), (9, v330), (10, v332), (11, .int .i64 (i385 : Int)), (22, v1), (23, .int .i64 ((x1).length : Int)), (24, .int .i64 (i241 : Int)), (73, .int .i64 x0), (74, .int .i64 (i385 : Int)), (88, .bool p)]) (fun (p : Bool) => [own 27 (TR.sl TR.int) v19 l18, imm (TR.sl TR.int) v256 y251, own 3 TR.int v330 l329, own 3 TR.int v332 l331, imm (TR.sl (TR.sl TR.int)) v1 x1]) (fun (p : Bool) => K408 (.nx p)) ?_ ?_
     ·skip
      refine GL.region ?_
      refine RL.mv rfl rfl rfl ?_
      refine RL.mv rfl rfl rfl ?_
      obtain ⟨y414, e415, h409⟩ := bind_some h409
      refine RL.idxS (sz := 1) 1 Try.underlying27 Try_ln3 rfl rfl rfl rfl rfl SlOf.imm (idx_some e415).1 (idx_some e415).2.1 ?_
      refine RL.ldSx (i := ((0 : Int)).toNat) (e' := y414) 1 Ex.ik Try_ln3 rfl rfl rfl rfl SlOf.imm (idx_some e415).2.2 Part.self ?_
      refine RL.binI (v := .bool ((i385 : Int) != y414)) rfl rfl rfl rfl rfl ?_
      refine RL.mv rfl rfl rfl ?_
      refine RL.split (t := 82) rfl (fun b416 => ?_) (fun b416 => ?_)
      ·replace h409 := ite_t b416 h409
       refine RL.mv rfl rfl rfl ?_
       refine RL.mv rfl rfl rfl ?_
       obtain ⟨y417, e418, h409⟩ := bind_some h409
       refine RL.idxS (sz := 1) 1 Try.underlying27 Try_ln3 rfl rfl rfl rfl rfl SlOf.imm (idx_some e418).1 (idx_some e418).2.1 ?_
       refine RL.ldSx (i := ((1 : Int)).toNat) (e' := y417) 1 Ex.ik Try_ln3 rfl rfl rfl rfl SlOf.imm (idx_some e418).2.2 Part.self ?_
       refine RL.binI (v := .bool ((i385 : Int) != y417)) rfl rfl rfl rfl rfl ?_
       refine RL.pickT rfl rfl rfl rfl ?_
       refine RL.fin ?_
       cases h409
       exact fun a w st => mid_intro ((i385 : Int) != y417) h410 (St.cut [0, 1, 2, 3, 4] ⟨rfl, rfl, rfl, rfl, rfl, rfl, rfl, rfl, rfl, rfl, rfl, rfl, trivial⟩ (by decide) rfl st)
      replace h409 := ite_f b416 h409
      refine RL.skip rfl rfl ?_
      refine RL.skip rfl rfl ?_
      refine RL.skip rfl rfl ?_
      refine RL.skip rfl rfl ?_
      refine RL.skip rfl rfl ?_
      refine RL.pickF rfl rfl rfl rfl ?_
      refine RL.fin ?_
      cases h409
      exact fun a w st => mid_intro false h410 (St.cut [0, 1, 2, 3, 4] ⟨rfl, rfl, rfl, rfl, rfl, rfl, rfl, rfl, rfl, rfl, rfl, rfl, trivial⟩ (by decide) rfl st)
     rintro x406 h419
     have h420 := h411 _ h419
     try dsimp only at h420
     refine GL.weak (env' := [(0, .int .i64 x0), (6, v19), (8, v256), (9, v330), (10, v332), (11, .int .i64 (i385 : Int)), (22, v1), (23, .int .i64 ((x1).length : Int)), (24, .int .i64 (i241 : Int)), (73, .int .i64 x0), (74, .int .i64 (i385 : Int)), (88, .bool x406)]) (L' := [own 27 (TR.sl TR.int) v19 l18, imm (TR.sl TR.int) v256 y251, own 3 TR.int v330 l329, own 3 TR.int v332 l331, imm (TR.sl (TR.sl TR.int)) v1 x1]) (fun _ _ st => st) ?_
     refine GL.cond rfl (fun b421 => ?_) (fun b421 => ?_)
     ·replace h420 := ite_t b421 h420
      refine GL.seq ?_
      refine GL.region ?_
      refine RL.mv rfl rfl rfl ?_
      refine RL.mv rfl rfl rfl ?_
      refine RL.bS (t := TR.int) (vs := [.int .i64 (i385 : Int)]) ([(i385 : Int)] : (List Int)) Try.underlying27 Try_lo3 rfl rfl rfl rfl ⟨VR.int, trivial⟩ rfl (by decide) ?_
      intro v426
      obtain ⟨y427, e428, h420⟩ := bind_some h420
      replace e428 := chk_some e428
      refine RL.app 2 5 Try.underlying27 Try_lo3 rfl rfl rfl rfl rfl rfl rfl SlOf.own e428 ?_
      intro v429
      refine RL.reL (L' := [own 27 (TR.sl TR.int) v19 l18, imm (TR.sl TR.int) v256 y251, own 3 TR.int v429 (l329 ++ ([(i385 : Int)] : (List Int))), own 3 TR.int v332 l331, imm (TR.sl (TR.sl TR.int)) v1 x1, own 3 TR.int v426 ([(i385 : Int)] : (List Int))]) rfl ?_
      refine RL.asg rfl rfl rfl ?_
      refine RL.finG ?_
      refine GL.region ?_
      refine RL.mv rfl rfl rfl ?_
      refine RL.bS (t := TR.int) (vs := [.int .i64 (i385 : Int)]) ([(i385 : Int)] : (List Int)) Try.underlying27 Try_lo3 rfl rfl rfl rfl ⟨VR.int, trivial⟩ rfl (by decide) ?_
      intro v434
      refine RL.mv rfl rfl rfl ?_
      obtain ⟨y435, e436, h420⟩ := bind_some h420
      replace e436 := chk_some e436
      refine RL.app 6 3 Try.underlying27 Try_lo3 rfl rfl rfl rfl rfl rfl rfl SlOf.own e436 ?_
      intro v437
      refine RL.reL (L' := [own 27 (TR.sl TR.int) v19 l18, imm (TR.sl TR.int) v256 y251, own 3 TR.int v429 (l329 ++ ([(i385 : Int)] : (List Int))), own 3 TR.int v332 l331, imm (TR.sl (TR.sl TR.int)) v1 x1, own 3 TR.int v426 ([(i385 : Int)] : (List Int)), own 3 TR.int v437 (([(i385 : Int)] : (List Int)) ++ l331)]) rfl ?_
      refine RL.asg rfl rfl rfl ?_
      refine RL.finG ?_
      refine GL.nilB ?_
      refine GL.region ?_
      refine RL.binI (v := .int .i64 ((i385 + 1 : Nat) : Int)) rfl rfl rfl rfl (binI_succ i385 (by omega)) ?_
      refine RL.mv rfl rfl rfl ?_
      refine RL.fin ?_
      cases h420
      exact fun a w st => lop_intro (i385 + 1, r395, (l329 ++ ([(i385 : Int)] : (List Int))), (([(i385 : Int)] : (List Int)) ++ l331), v429, v437) ⟨by show i385 + 1 + r395 = (x0).toNat; omega, h389⟩ (by simp) (St.cut [0, 1, 2, 6, 4] ⟨rfl, rfl, rfl, rfl, rfl, rfl, rfl, rfl, rfl, rfl, trivial⟩ (by decide) rfl st)
     replace h420 := ite_f b421 h420
     refine GL.skip ?_
     refine GL.nilB ?_
     refine GL.region ?_
     refine RL.binI (v := .int .i64 ((i385 + 1 : Nat) : Int)) rfl rfl rfl rfl (binI_succ i385 (by omega)) ?_
     refine RL.mv rfl rfl rfl ?_
     refine RL.fin ?_
     cases h420
     exact fun a w st => lop_intro (i385 + 1, r395, l329, l331, v330, v332) ⟨by show i385 + 1 + r395 = (x0).toNat; omega, h389⟩ (by simp) (St.cut [0, 1, 2, 3, 4] ⟨rfl, rfl, rfl, rfl, rfl, rfl, rfl, rfl, rfl, rfl, trivial⟩ (by decide) rfl st)
    have h394 : ¬ i385 < (x0).toNat := by have := of_decide_eq_false b393; omega
    obtain rfl : r386 = 0 := by omega
    replace h390 : some (Fl.nx _) = some y378 := h390
    cases h390
    exact GL.exit (fun a w st => mid_intro (l329, l331, v330, v332) h381 (St.cut [0, 1, 2, 3, 4] ⟨rfl, rfl, rfl, rfl, rfl, rfl, rfl, rfl, trivial⟩ (by decide) rfl st))
   rintro ⟨l329, l331, v330, v332⟩ h438
   have h439 := h382 _ h438
   try dsimp only at h439
   refine GL.weak (env' := [(0, .int .i64 x0), (6, v19), (8, v256), (9, v330), (10, v332), (22, v1), (23, .int .i64 ((x1).length : Int)), (24, .int .i64 (i241 : Int))]) (L' := [own 27 (TR.sl TR.int) v19 l18, imm (TR.sl TR.int) v256 y251, own 3 TR.int v330 l329, own 3 TR.int v332 l331, imm (TR.sl (TR.sl TR.int)) v1 x1]) (fun _ _ st => st) ?_
   refine GL.regionA rfl rfl ?_
   refine RA.mv 0 rfl (by kernel_rfl) rfl rfl rfl ?_
   refine RA.mv 1 rfl (by kernel_rfl) rfl rfl rfl ?_
   refine RA.mv 2 rfl (by kernel_rfl) rfl rfl rfl ?_
   refine RA.mv 3 rfl (by kernel_rfl) rfl rfl rfl ?_
   obtain ⟨y452, e453, h439⟩ := bind_some h439
   refine RA.idxS (sz := 1) 1 Try.underlying27 Try_ln3 4 rfl (by kernel_rfl) rfl rfl rfl rfl rfl SlOf.imm (idx_some e453).1 (idx_some e453).2.1 ?_
   refine RA.mv 6 rfl (by kernel_rfl) rfl rfl rfl ?_
   obtain ⟨y454, e455, h439⟩ := bind_some h439
   refine RA.idxS (sz := 1) 1 Try.underlying27 Try_ln3 7 rfl (by kernel_rfl) rfl rfl rfl rfl rfl SlOf.imm (idx_some e455).1 (idx_some e455).2.1 ?_
   refine RA.still (le := #[true, true, true, true, true, true, true, true, true, false, false, false, false, false]) (f := 5) [5, 8] 9 rfl (by kernel_rfl) ?_
   simp only [pickOps, List.getElem?_toArray, List.getElem?_cons_succ, List.getElem?_cons_zero]
   refine RL.ldSx (i := ((0 : Int)).toNat) (e' := y452) 1 Ex.ik Try_ln3 rfl rfl rfl rfl SlOf.imm (idx_some e453).2.2 Part.self ?_
   refine RL.ldSx (i := ((1 : Int)).toNat) (e' := y454) 1 Ex.ik Try_ln3 rfl rfl rfl rfl SlOf.imm (idx_some e455).2.2 Part.self ?_
   refine RL.finH ?_
   refine RL.fin ?_
   refine RA.next ?_
   refine RA.seq 9 rfl (by kernel_rfl) ?_
   refine RL.bS (t := TR.int) (vs := [.int .i64 y452, .int .i64 y454]) ([y452, y454] : (List Int)) Try.underlying27 Try_lo3 rfl rfl rfl rfl ⟨VR.int, ⟨VR.int, trivial⟩⟩ rfl (by decide) ?_
   intro v456
   refine RL.fin ?_
   refine RA.next ?_
   refine RA.seq 10 rfl (by kernel_rfl) ?_
   obtain ⟨y457, e458, h439⟩ := bind_some h439
   replace e458 := chk_some e458
   refine RL.app 3 5 Try.underlying27 Try_lo3 rfl rfl rfl rfl rfl rfl rfl SlOf.own e458 ?_
   intro v459
   refine RL.fin ?_
   refine RA.next ?_
   refine RA.seq 11 rfl (by kernel_rfl) ?_
   refine RL.weak (fun a w st => st.freeze 2 rfl) ?_
   refine RL.weak (fun a w st => st.freeze 3 rfl) ?_
   refine RL.bS (t := (TR.sl TR.int)) (vs := [v330, v459]) ([l329, (l331 ++ ([y452, y454] : (List Int)))] : (List (List Int))) Try.underlying37 Try_lo27 rfl rfl rfl rfl ⟨(VR.item 2 rfl), ⟨(VR.item 3 rfl), trivial⟩⟩ rfl (by decide) ?_
   intro v460
   refine RL.fin ?_
   refine RA.next ?_
   refine RA.seq 12 rfl (by kernel_rfl) ?_
   obtain ⟨y461, e462, h439⟩ := bind_some h439
   replace e462 := chk_some e462
   refine RL.app 0 6 Try.underlying37 Try_lo27 rfl rfl rfl rfl rfl rfl rfl SlOf.own e462 ?_
   intro v463
   refine RL.fin ?_
   refine RA.next ?_
   refine RA.quiet 13 rfl rfl (by kernel_rfl) ?_
   simp only [List.drop_succ_cons, List.drop_zero]
   refine RL.asg rfl rfl rfl ?_
   refine RL.finQ ?_
   refine RA.outQ ?_
   refine GL.weak (env' := [(0, .int .i64 x0), (6, v463), (22, v1), (23, .int .i64 ((x1).length : Int)), (24, .int .i64 (i241 : Int))]) (L' := [own 27 (TR.sl TR.int) v463 (l18 ++ ([l329, (l331 ++ ([y452, y454] : (List Int)))] : (List (List Int)))), imm (TR.sl (TR.sl TR.int)) v1 x1]) (fun a w st => St.cut [0, 4] ⟨rfl, rfl, rfl, rfl, rfl, trivial⟩ (by decide) rfl st) ?_
   refine GL.nilB ?_
   refine GL.region ?_
   refine RL.binI (v := .int .i64 ((i241 + 1 : Nat) : Int)) rfl rfl rfl rfl (binI_succ i241 (by omega)) ?_
   refine RL.mv rfl rfl rfl ?_
   refine RL.fin ?_
   cases h439
   exact fun a w st => lop_intro (i241 + 1, r253, (l18 ++ ([l329, (l331 ++ ([y452, y454] : (List Int)))] : (List (List Int)))), v463) ⟨by show i241 + 1 + r253.length = (x1).length; simp only [List.length_cons] at h247; omega, h254, h245⟩ (by simp) (St.cut [0, 1] ⟨rfl, rfl, rfl, rfl, rfl, trivial⟩ (by decide) rfl st)
  have h250 : ¬ i241 < (x1).length := by have := of_decide_eq_false b249; omega
  obtain rfl : r242 = [] := by rw [← h248]; exact List.drop_of_length_le (by omega)
  replace h246 : some (Fl.nx _) = some y234 := h246
  cases h246
  exact GL.exit (fun a w st => mid_intro (l18, v19) h237 (St.cut [0] ⟨rfl, trivial⟩ (by decide) rfl st))
 rintro ⟨l18, v19⟩ h464
 have h465 := h238 _ h464
 try dsimp only at h465
 refine GL.weak (env' := [(6, v19)]) (L' := [own 27 (TR.sl TR.int) v19 l18]) (fun _ _ st => st) ?_
 refine GL.seq ?_
 refine GL.region ?_
 refine RL.mv rfl rfl rfl ?_
 refine RL.asg rfl rfl rfl ?_
 refine RL.asg rfl rfl rfl ?_
 refine RL.finG ?_
 have h465 := Option.some.inj h465
 subst h465
 exact GL.ret (Gx.ret (v := .tuple #[v19, .int .i64 (0 : Int)]) (res2 rfl rfl rfl) (fun a w st => (st.pick [0] (by decide) rfl).toPost v19))

set_option maxHeartbeats 4000000 in
theorem slices_Equal_int_int_c (S : Hp) (w : World) (hS : S.sub w) (v0 : Value) (x0 : (List Int)) (k0 : ((TR.sl TR.int)).vrep S v0 x0) (v1 : Value) (x1 : (List Int)) (k1 : ((TR.sl TR.int)).vrep S v1 x1) (res : Bool) (hm : slices_Equal_int_int_m x0 x1 = some res) : Calls Try.prog 17 #[v0, v1] w (PostV w (.bool res)) := by
 refine calls_enter 26 Try.func17 Try.ntmps17 rfl S false [(0, v0), (1, v1)] [imm (TR.sl TR.int) v0 x0, imm (TR.sl TR.int) v1 x1] rfl ⟨rfl, ⟨rfl, trivial⟩⟩ hS ⟨k0, ⟨k1, trivial⟩⟩ ?_
 unfold slices_Equal_int_int_m at hm
 refine GL.seq ?_
 refine GL.region ?_
 refine RL.asg rfl rfl rfl ?_
 refine RL.finG ?_
 refine GL.seq ?_
 refine GL.seq ?_
 refine GL.region ?_
 refine RL.mv rfl rfl rfl ?_
 refine RL.lenS 0 Try.underlying27 rfl rfl rfl rfl SlOf.imm ?_
 refine RL.mv rfl rfl rfl ?_
 refine RL.lenS 1 Try.underlying27 rfl rfl rfl rfl SlOf.imm ?_
 refine RL.binI (v := .bool (((x0).length : Int) != ((x1).length : Int))) rfl rfl rfl rfl rfl ?_
 refine RL.finG ?_
 refine GL.cond rfl (fun b3 => ?_) (fun b3 => ?_)
 ·replace hm := ite_t b3 hm
  refine GL.seq ?_
  refine GL.region ?_
  refine RL.asg rfl rfl rfl ?_
  refine RL.finG ?_
  have hm := Option.some.inj hm
  subst hm
  exact GL.ret (Gx.ret (v := .bool false) (res1 rfl rfl) (fun a w st => st.toPostV))
 replace hm := ite_f b3 hm
 refine GL.skip ?_
 refine GL.seq ?_
 refine GL.seq ?_
 refine GL.region ?_
 refine RL.mv rfl rfl rfl ?_
 refine RL.lenS 0 Try.underlying27 rfl rfl rfl rfl SlOf.imm ?_
 refine RL.mv rfl rfl rfl ?_
 refine RL.finG ?_
 refine GL.open_ 0 rfl (fun S h => len_imm S h) (fun n13 => ?_)
 obtain ⟨y14, K15, h16, h17, h18, h19, h20⟩ := bindR_K hm
 refine GL.join (ι := Unit) (fun (p : Unit) => []) (fun (p : Unit) => []) (fun (p : Unit) => K15 (.nx ())) ?_ ?_
 ·refine GL.block ?_
  refine GL.loop (ι := Nat × (List Int)) (fun (p : Nat × (List Int)) => [(0, v0), (1, v1), (12, .int .i64 ((x0).length : Int)), (13, .int .i64 (p.1 : Int))]) (fun (p : Nat × (List Int)) => [imm (TR.sl TR.int) v0 x0, imm (TR.sl TR.int) v1 x1]) (fun (p : Nat × (List Int)) => p.1 + p.2.length = (x0).length ∧ List.drop p.1 x0 = p.2 ∧ rangeL (slices_Equal_int_int_b1 x1) p.2 p.1 () = some y14) (fun (p : Nat × (List Int)) => p.2.length) (0, x0) ⟨by simp, by simp, h16⟩ (fun a w st => St.cut [0, 1] ⟨rfl, rfl, rfl, rfl, trivial⟩ (by decide) rfl st) ?_
  rintro ⟨i21, r22⟩ ⟨h27, h28, h26⟩
  try dsimp only at h27 h28 h26
  refine GL.weak (env' := [(0, v0), (1, v1), (12, .int .i64 ((x0).length : Int)), (13, .int .i64 (i21 : Int))]) (L' := [imm (TR.sl TR.int) v0 x0, imm (TR.sl TR.int) v1 x1]) (fun _ _ st => st) ?_
  refine GL.seq ?_
  refine GL.region ?_
  refine RL.binI (v := .bool (decide ((i21 : Int) < ((x0).length : Int)))) rfl rfl rfl rfl rfl ?_
  refine RL.finG ?_
  refine GL.seq ?_
  refine GL.cond rfl (fun b29 => ?_) (fun b29 => ?_)
  ·have h30 : i21 < (x0).length := by have := of_decide_eq_true b29; omega
   obtain ⟨y31, r33, hr, e32, h34⟩ := drop_cons h28 rfl h30
   subst hr
   obtain ⟨z23, h24, h25⟩ := rangeL_some h26
   unfold slices_Equal_int_int_b1 at h24
   try dsimp only at h24
   refine GL.skip ?_
   refine GL.seq ?_
   refine GL.block ?_
   refine GL.seq ?_
   refine GL.region ?_
   refine RL.mv rfl rfl rfl ?_
   refine RL.asg rfl rfl rfl ?_
   refine RL.finG ?_
   refine GL.seq ?_
   refine GL.regionQ rfl rfl (by kernel_rfl) ?_
   refine RL.mv rfl rfl rfl ?_
   refine RL.mv rfl rfl rfl ?_
   refine RL.idxS (sz := 1) 0 Try.underlying27 Try_ln3 rfl rfl rfl rfl rfl SlOf.imm (by omega) (by omega) ?_
   refine RL.ldSx (i := i21) (e' := y31) 0 Ex.ik Try_ln3 rfl rfl rfl rfl SlOf.imm e32 Part.self ?_
   refine RL.mv rfl rfl rfl ?_
   refine RL.mv rfl rfl rfl ?_
   obtain ⟨y37, e38, h24⟩ := bind_some h24
   refine RL.idxS (sz := 1) 1 Try.underlying27 Try_ln3 rfl rfl rfl rfl rfl SlOf.imm (idx_some e38).1 (idx_some e38).2.1 ?_
   refine RL.ldSx (i := i21) (e' := y37) 1 Ex.ik Try_ln3 rfl rfl rfl rfl SlOf.imm (idx_some e38).2.2 Part.self ?_
   refine RL.binI (v := .bool (y31 != y37)) rfl rfl rfl rfl rfl ?_
   refine RL.finQG ?_
   refine GL.cond rfl (fun b39 => ?_) (fun b39 => ?_)
   ·replace h24 := ite_t b39 h24
    refine GL.seq ?_
    refine GL.region ?_
    refine RL.asg rfl rfl rfl ?_
    refine RL.finG ?_
    cases h24
    replace h25 : some (Fl.rt _) = some y14 := h25
    cases h25
    have hh := h19 _ h17
    subst hh
    exact GL.ret (Gx.ret (v := .bool false) (res1 rfl rfl) (fun a w st => st.toPostV))
   replace h24 := ite_f b39 h24
   refine GL.skip ?_
   refine GL.nilB ?_
   refine GL.region ?_
   refine RL.binI (v := .int .i64 ((i21 + 1 : Nat) : Int)) rfl rfl rfl rfl (binI_succ i21 (by omega)) ?_
   refine RL.mv rfl rfl rfl ?_
   refine RL.fin ?_
   cases h24
   exact fun a w st => lop_intro (i21 + 1, r33) ⟨by show i21 + 1 + r33.length = (x0).length; simp only [List.length_cons] at h27; omega, h34, h25⟩ (by simp) (St.cut [0, 1] ⟨rfl, rfl, rfl, rfl, trivial⟩ (by decide) rfl st)
  have h30 : ¬ i21 < (x0).length := by have := of_decide_eq_false b29; omega
  obtain rfl : r22 = [] := by rw [← h28]; exact List.drop_of_length_le (by omega)
  replace h26 : some (Fl.nx _) = some y14 := h26
  cases h26
  exact GL.exit (fun a w st => mid_intro () h17 (St.cut [] trivial (by decide) rfl st))
 rintro ⟨⟩ h40
 have h41 := h18 _ h40
 try dsimp only at h41
 refine GL.weak (env' := []) (L' := []) (fun _ _ st => st) ?_
 refine GL.seq ?_
 refine GL.region ?_
 refine RL.asg rfl rfl rfl ?_
 refine RL.finG ?_
 have h41 := Option.some.inj h41
 subst h41
 exact GL.ret (Gx.ret (v := .bool true) (res1 rfl rfl) (fun a w st => st.toPostV))

set_option maxHeartbeats 4000000 in
theorem ref_Rest_c (S : Hp) (w : World) (hS : S.sub w) (x0 : Int) (x1 : Int) (res : Int) (hm : ref_Rest_m x0 x1 = some res) : Calls Try.prog 32 #[.int .i64 x0, .int .i64 x1] w (PostC w (.int .i64 res)) := by
 refine calls_enter 14 Try.func32 Try.ntmps32 rfl S true [(0, .int .i64 x0), (1, .int .i64 x1)] [] rfl ⟨rfl, ⟨rfl, trivial⟩⟩ hS trivial ?_
 unfold ref_Rest_m at hm
 refine GL.seq ?_
 refine GL.region ?_
 refine RL.asg rfl rfl rfl ?_
 refine RL.finG ?_
 refine GL.seq ?_
 refine GL.region ?_
 refine RL.mv rfl rfl rfl ?_
 refine RL.mv rfl rfl rfl ?_
 obtain ⟨y5, e6, hm⟩ := bind_some hm
 replace e6 := chk_some e6
 refine RL.rem rfl rfl rfl rfl e6 ?_
 refine RL.asg rfl rfl rfl ?_
 refine RL.finG ?_
 refine GL.seq ?_
 refine GL.seq ?_
 refine GL.region ?_
 refine RL.mv rfl rfl rfl ?_
 refine RL.binI (v := .bool (decide ((Int.tmod x0 x1) < (0 : Int)))) rfl rfl rfl rfl rfl ?_
 refine RL.finG ?_
 obtain ⟨y9, K10, h11, h12, h13, h14, h15⟩ := bindR_K hm
 refine GL.join (ι := Int) (fun (p : Int) => [(0, .int .i64 p)]) (fun (p : Int) => []) (fun (p : Int) => K10 (.nx p)) ?_ ?_
 ·skip
  refine GL.cond rfl (fun b16 => ?_) (fun b16 => ?_)
  ·replace h11 := ite_t b16 h11
   refine GL.region ?_
   refine RL.mv rfl rfl rfl ?_
   refine RL.mv rfl rfl rfl ?_
   refine RL.binI (v := .int .i64 (wadd (Int.tmod x0 x1) x1)) rfl rfl rfl rfl rfl ?_
   refine RL.asg rfl rfl rfl ?_
   refine RL.finG ?_
   cases h11
   exact fun a w st => mid_intro (wadd (Int.tmod x0 x1) x1) h12 (St.cut [] ⟨rfl, trivial⟩ (by decide) rfl st)
  replace h11 := ite_f b16 h11
  refine GL.skip ?_
  cases h11
  exact fun a w st => mid_intro (Int.tmod x0 x1) h12 (St.cut [] ⟨rfl, trivial⟩ (by decide) rfl st)
 rintro x8 h17
 have h18 := h13 _ h17
 try dsimp only at h18
 refine GL.weak (env' := [(0, .int .i64 x8)]) (L' := []) (fun _ _ st => st) ?_
 refine GL.seq ?_
 refine GL.region ?_
 refine RL.mv rfl rfl rfl ?_
 refine RL.asg rfl rfl rfl ?_
 refine RL.finG ?_
 have h18 := Option.some.inj h18
 subst h18
 exact GL.ret (Gx.ret (v := .int .i64 x8) (res1 rfl rfl) (fun a w st => st.toPostC rfl))

set_option maxHeartbeats 4000000 in
theorem pk_Within_c (S : Hp) (w : World) (hS : S.sub w) (x0 : Int) (x1 : Int) (res : Int) (hm : pk_Within_m x0 x1 = some res) : Calls Try.prog 10 #[.int .i64 x0, .int .i64 x1] w (PostC w (.int .i64 res)) := by
 refine calls_enter 8 Try.func10 Try.ntmps10 rfl S true [(0, .int .i64 x0), (1, .int .i64 x1)] [] rfl ⟨rfl, ⟨rfl, trivial⟩⟩ hS trivial ?_
 unfold pk_Within_m at hm
 refine GL.seq ?_
 refine GL.region ?_
 refine RL.asg rfl rfl rfl ?_
 refine RL.finG ?_
 refine GL.seq ?_
 refine GL.region ?_
 refine RL.mv rfl rfl rfl ?_
 refine RL.mv rfl rfl rfl ?_
 obtain ⟨y5, e6, hm⟩ := bind_some hm
 refine RL.callC (v := .int .i64 y5) (vs := [.int .i64 x0, .int .i64 x1]) Try_fit32 rfl rfl rfl rfl (fun U w hU hW hL => ref_Rest_c U w hU x0 x1 _ e6) ?_
 refine RL.asg rfl rfl rfl ?_
 refine RL.finG ?_
 have hm := Option.some.inj hm
 subst hm
 exact GL.ret (Gx.ret (v := .int .i64 y5) (res1 rfl rfl) (fun a w st => st.toPostC rfl))

set_option maxHeartbeats 4000000 in
theorem slices_IndexFunc_rows_c (S : Hp) (w : World) (hS : S.sub w) (v0 : Value) (x0 : (List (List Int))) (k0 : ((TR.sl (TR.sl TR.int))).vrep S v0 x0) (f1 : FuncId) (c1 : Array Value) (t1 : Fit Try.prog f1) (g1 : (List Int) → Option Bool) (k1 : ∀ (U : Hp) (w' : World), Hp.le S U → U.sub w' → ∀ (u0 : Value) (a0 : (List Int)) (_ : ((TR.sl TR.int)).vrep U u0 a0) (rr : Bool), g1 a0 = some rr → Calls Try.prog f1 (#[u0] ++ c1) w' (PostV w' (.bool rr))) (res : Int) (hm : slices_IndexFunc_rows_m x0 g1 = some res) : Calls Try.prog 37 #[v0, .func (.func f1) #[] c1] w (PostV w (.int .i64 res)) := by
 refine calls_enter 19 Try.func37 Try.ntmps37 rfl S false [(0, v0), (1, .func (.func f1) #[] c1)] [imm (TR.sl (TR.sl TR.int)) v0 x0] rfl ⟨rfl, ⟨rfl, trivial⟩⟩ hS ⟨k0, trivial⟩ ?_
 unfold slices_IndexFunc_rows_m at hm
 refine GL.seq ?_
 refine GL.region ?_
 refine RL.asg rfl rfl rfl ?_
 refine RL.finG ?_
 refine GL.seq ?_
 refine GL.seq ?_
 refine GL.region ?_
 refine RL.mv rfl rfl rfl ?_
 refine RL.lenS 0 Try.underlying37 rfl rfl rfl rfl SlOf.imm ?_
 refine RL.mv rfl rfl rfl ?_
 refine RL.finG ?_
 refine GL.open_ 0 rfl (fun S h => len_imm S h) (fun n14 => ?_)
 obtain ⟨y15, K16, h17, h18, h19, h20, h21⟩ := bindR_K hm
 refine GL.join (ι := Unit) (fun (p : Unit) => []) (fun (p : Unit) => []) (fun (p : Unit) => K16 (.nx ())) ?_ ?_
 ·refine GL.block ?_
  refine GL.loop (ι := Nat × (List (List Int))) (fun (p : Nat × (List (List Int))) => [(0, v0), (1, .func (.func f1) #[] c1), (7, .int .i64 ((x0).length : Int)), (8, .int .i64 (p.1 : Int))]) (fun (p : Nat × (List (List Int))) => [imm (TR.sl (TR.sl TR.int)) v0 x0]) (fun (p : Nat × (List (List Int))) => p.1 + p.2.length = (x0).length ∧ List.drop p.1 x0 = p.2 ∧ rangeL (slices_IndexFunc_rows_b1 g1) p.2 p.1 () = some y15) (fun (p : Nat × (List (List Int))) => p.2.length) (0, x0) ⟨by simp, by simp, h17⟩ (fun a w st => St.cut [0] ⟨rfl, rfl, rfl, rfl, trivial⟩ (by decide) rfl st) ?_
  rintro ⟨i22, r23⟩ ⟨h28, h29, h27⟩
  try dsimp only at h28 h29 h27
  refine GL.weak (env' := [(0, v0), (1, .func (.func f1) #[] c1), (7, .int .i64 ((x0).length : Int)), (8, .int .i64 (i22 : Int))]) (L' := [imm (TR.sl (TR.sl TR.int)) v0 x0]) (fun _ _ st => st) ?_
  refine GL.seq ?_
  refine GL.region ?_
  refine RL.binI (v := .bool (decide ((i22 : Int) < ((x0).length : Int)))) rfl rfl rfl rfl rfl ?_
  refine RL.finG ?_
  refine GL.seq ?_
  refine GL.cond rfl (fun b30 => ?_) (fun b30 => ?_)
  ·have h31 : i22 < (x0).length := by have := of_decide_eq_true b30; omega
   obtain ⟨y32, r34, hr, e33, h35⟩ := drop_cons h29 rfl h31
   subst hr
   obtain ⟨z24, h25, h26⟩ := rangeL_some h27
   unfold slices_IndexFunc_rows_b1 at h25
   try dsimp only at h25
   refine GL.skip ?_
   refine GL.seq ?_
   refine GL.block ?_
   refine GL.seq ?_
   refine GL.region ?_
   refine RL.mv rfl rfl rfl ?_
   refine RL.asg rfl rfl rfl ?_
   refine RL.finG ?_
   refine GL.seq ?_
   refine GL.region ?_
   refine RL.mv rfl rfl rfl ?_
   refine RL.mv rfl rfl rfl ?_
   refine RL.mv rfl rfl rfl ?_
   refine RL.idxS (sz := 1) 0 Try.underlying37 Try_ln27 rfl rfl rfl rfl rfl SlOf.imm (by omega) (by omega) ?_
   refine RL.ldS (i := i22) (r := (TR.sl TR.int)) (e' := y32) 0 Try_ln27 rfl rfl rfl rfl SlOf.imm e33 Part.self ?_
   intro v39
   obtain ⟨y40, e41, h25⟩ := bind_some h25
   refine RL.callV (v := .bool y40) (vs := [v39]) t1 rfl (Or.inl rfl) rfl rfl rfl rfl (fun U w hU hW hL => k1 U w hW hU _ _ (hL 1 _ _ rfl Seen.imm) _ e41) ?_
   refine RL.finG ?_
   refine GL.cond rfl (fun b42 => ?_) (fun b42 => ?_)
   ·replace h25 := ite_t b42 h25
    refine GL.seq ?_
    refine GL.region ?_
    refine RL.mv rfl rfl rfl ?_
    refine RL.asg rfl rfl rfl ?_
    refine RL.finG ?_
    cases h25
    replace h26 : some (Fl.rt _) = some y15 := h26
    cases h26
    have hh := h20 _ h18
    subst hh
    exact GL.ret (Gx.ret (v := .int .i64 (i22 : Int)) (res1 rfl rfl) (fun a w st => st.toPostV))
   replace h25 := ite_f b42 h25
   refine GL.skip ?_
   refine GL.nilB ?_
   refine GL.region ?_
   refine RL.binI (v := .int .i64 ((i22 + 1 : Nat) : Int)) rfl rfl rfl rfl (binI_succ i22 (by omega)) ?_
   refine RL.mv rfl rfl rfl ?_
   refine RL.fin ?_
   cases h25
   exact fun a w st => lop_intro (i22 + 1, r34) ⟨by show i22 + 1 + r34.length = (x0).length; simp only [List.length_cons] at h28; omega, h35, h26⟩ (by simp) (St.cut [0] ⟨rfl, rfl, rfl, rfl, trivial⟩ (by decide) rfl st)
  have h31 : ¬ i22 < (x0).length := by have := of_decide_eq_false b30; omega
  obtain rfl : r23 = [] := by rw [← h29]; exact List.drop_of_length_le (by omega)
  replace h27 : some (Fl.nx _) = some y15 := h27
  cases h27
  exact GL.exit (fun a w st => mid_intro () h18 (St.cut [] trivial (by decide) rfl st))
 rintro ⟨⟩ h43
 have h44 := h19 _ h43
 try dsimp only at h44
 refine GL.weak (env' := []) (L' := []) (fun _ _ st => st) ?_
 refine GL.seq ?_
 refine GL.region ?_
 refine RL.asg rfl rfl rfl ?_
 refine RL.finG ?_
 have h44 := Option.some.inj h44
 subst h44
 exact GL.ret (Gx.ret (v := .int .i64 (-1 : Int)) (res1 rfl rfl) (fun a w st => st.toPostV))

set_option maxHeartbeats 4000000 in
theorem slices_ContainsFunc_rows_c (S : Hp) (w : World) (hS : S.sub w) (v0 : Value) (x0 : (List (List Int))) (k0 : ((TR.sl (TR.sl TR.int))).vrep S v0 x0) (f1 : FuncId) (c1 : Array Value) (t1 : Fit Try.prog f1) (g1 : (List Int) → Option Bool) (k1 : ∀ (U : Hp) (w' : World), Hp.le S U → U.sub w' → ∀ (u0 : Value) (a0 : (List Int)) (_ : ((TR.sl TR.int)).vrep U u0 a0) (rr : Bool), g1 a0 = some rr → Calls Try.prog f1 (#[u0] ++ c1) w' (PostV w' (.bool rr))) (res : Bool) (hm : slices_ContainsFunc_rows_m x0 g1 = some res) : Calls Try.prog 21 #[v0, .func (.func f1) #[] c1] w (PostV w (.bool res)) := by
 refine calls_enter 9 Try.func21 Try.ntmps21 rfl S false [(0, v0), (1, .func (.func f1) #[] c1)] [imm (TR.sl (TR.sl TR.int)) v0 x0] rfl ⟨rfl, ⟨rfl, trivial⟩⟩ hS ⟨k0, trivial⟩ ?_
 unfold slices_ContainsFunc_rows_m at hm
 refine GL.seq ?_
 refine GL.region ?_
 refine RL.asg rfl rfl rfl ?_
 refine RL.finG ?_
 refine GL.seq ?_
 refine GL.region ?_
 refine RL.mv rfl rfl rfl ?_
 refine RL.mv rfl rfl rfl ?_
 obtain ⟨y5, e6, hm⟩ := bind_some hm
 refine RL.callV (v := .int .i64 y5) (vs := [v0, .func (.func f1) #[] c1]) Try_fit37 rfl (Or.inl rfl) rfl rfl rfl rfl (fun U w hU hW hL => slices_IndexFunc_rows_c U w hU _ _ (hL 0 _ _ rfl Seen.imm) f1 c1 t1 g1 (fun U' w' hle => k1 U' w' (Hp.le_trans hW hle)) _ e6) ?_
 refine RL.binI (v := .bool (decide (y5 ≥ (0 : Int)))) rfl rfl rfl rfl rfl ?_
 refine RL.asg rfl rfl rfl ?_
 refine RL.finG ?_
 have hm := Option.some.inj hm
 subst hm
 exact GL.ret (Gx.ret (v := .bool (decide (y5 ≥ (0 : Int)))) (res1 rfl rfl) (fun a w st => st.toPostV))

set_option maxHeartbeats 4000000 in
theorem pk_DuelMcGarvey_1_1_c (S : Hp) (w : World) (hS : S.sub w) (v0 : Value) (x0 : (List Int)) (k0 : ((TR.sl TR.int)).vrep S v0 x0) (v1 : Value) (x1 : Int) (k1 : ((TR.ptr TR.int)).vrep S v1 x1) (v2 : Value) (x2 : Int) (k2 : ((TR.ptr TR.int)).vrep S v2 x2) (res : Bool) (hm : pk_DuelMcGarvey_1_1_m x0 x1 x2 = some res) : Calls Try.prog 22 #[v0, v1, v2] w (PostV w (.bool res)) := by
 refine calls_enter 17 Try.func22 Try.ntmps22 rfl S false [(0, v0), (1, v1), (2, v2)] [imm (TR.sl TR.int) v0 x0, imm (TR.ptr TR.int) v1 x1, imm (TR.ptr TR.int) v2 x2] rfl ⟨rfl, ⟨rfl, ⟨rfl, trivial⟩⟩⟩ hS ⟨k0, ⟨k1, ⟨k2, trivial⟩⟩⟩ ?_
 unfold pk_DuelMcGarvey_1_1_m at hm
 refine GL.seq ?_
 refine GL.region ?_
 refine RL.asg rfl rfl rfl ?_
 refine RL.finG ?_
 refine GL.seq ?_
 obtain ⟨y15, K16, h17, h18, h19, h20, h21⟩ := bindR_K hm
 refine GL.join (ι := Bool) (fun (p : Bool) => [(4, .bool p)]) (fun (p : Bool) => []) (fun (p : Bool) => K16 (.nx p)) ?_ ?_
 ·skip
  refine GL.regionQ rfl rfl (by kernel_rfl) ?_
  refine RL.mv rfl rfl rfl ?_
  obtain ⟨y22, e23, h17⟩ := bind_some h17
  refine RL.idxS (sz := 1) 0 Try.underlying27 Try_ln3 rfl rfl rfl rfl rfl SlOf.imm (idx_some e23).1 (idx_some e23).2.1 ?_
  refine RL.ldSx (i := ((0 : Int)).toNat) (e' := y22) 0 Ex.ik Try_ln3 rfl rfl rfl rfl SlOf.imm (idx_some e23).2.2 Part.self ?_
  refine RL.ldPx (off := 0) (e' := x1) 1 Ex.ik Try_ln3 rfl rfl (Or.inr ⟨rfl, rfl⟩) rfl PtOf.imm Part.self ?_
  refine RL.binI (v := .bool (y22 == x1)) rfl rfl rfl rfl rfl ?_
  refine RL.mv rfl rfl rfl ?_
  refine RL.split (t := 10) rfl (fun b24 => ?_) (fun b24 => ?_)
  ·replace h17 := ite_t b24 h17
   refine RL.mv rfl rfl rfl ?_
   obtain ⟨y25, e26, h17⟩ := bind_some h17
   refine RL.idxS (sz := 1) 0 Try.underlying27 Try_ln3 rfl rfl rfl rfl rfl SlOf.imm (idx_some e26).1 (idx_some e26).2.1 ?_
   refine RL.ldSx (i := ((1 : Int)).toNat) (e' := y25) 0 Ex.ik Try_ln3 rfl rfl rfl rfl SlOf.imm (idx_some e26).2.2 Part.self ?_
   refine RL.ldPx (off := 0) (e' := x2) 2 Ex.ik Try_ln3 rfl rfl (Or.inr ⟨rfl, rfl⟩) rfl PtOf.imm Part.self ?_
   refine RL.binI (v := .bool (y25 == x2)) rfl rfl rfl rfl rfl ?_
   refine RL.pickT rfl rfl rfl rfl ?_
   refine RL.asg rfl rfl rfl ?_
   refine RL.finQ ?_
   cases h17
   exact fun a w st => mid_intro (y25 == x2) h18 (St.cut [] ⟨rfl, trivial⟩ (by decide) rfl st)
  replace h17 := ite_f b24 h17
  refine RL.skip rfl rfl ?_
  refine RL.skip rfl rfl ?_
  refine RL.skip rfl rfl ?_
  refine RL.skip rfl rfl ?_
  refine RL.skip rfl rfl ?_
  refine RL.pickF rfl rfl rfl rfl ?_
  refine RL.asg rfl rfl rfl ?_
  refine RL.finQ ?_
  cases h17
  exact fun a w st => mid_intro false h18 (St.cut [] ⟨rfl, trivial⟩ (by decide) rfl st)
 rintro x14 h27
 have h28 := h19 _ h27
 try dsimp only at h28
 refine GL.weak (env' := [(4, .bool x14)]) (L' := []) (fun _ _ st => st) ?_
 have h28 := Option.some.inj h28
 subst h28
 exact GL.ret (Gx.ret (v := .bool x14) (res1 rfl rfl) (fun a w st => st.toPostV))

set_option maxHeartbeats 4000000 in
theorem pk_DuelMcGarvey_1_c (S : Hp) (w : World) (hS : S.sub w) (x0 : Int) (x1 : Int) (v2 : Value) (x2 : (List (List Int))) (k2 : ((TR.ptr (TR.sl (TR.sl TR.int)))).vrep S v2 x2) (res : Bool) (hm : pk_DuelMcGarvey_1_m x0 x1 x2 = some res) : Calls Try.prog 20 #[.int .i64 x0, .int .i64 x1, v2] w (PostV w (.bool res)) := by
 refine calls_enter 9 Try.func20 Try.ntmps20 rfl S false [(0, .int .i64 x0), (1, .int .i64 x1), (2, v2)] [imm (TR.ptr (TR.sl (TR.sl TR.int))) v2 x2] rfl ⟨rfl, ⟨rfl, ⟨rfl, trivial⟩⟩⟩ hS ⟨k2, trivial⟩ ?_
 unfold pk_DuelMcGarvey_1_m at hm
 refine GL.seq ?_
 refine GL.region ?_
 refine RL.box (t := TR.int) (e := x0) rfl rfl rfl rfl VR.int ?_
 intro v6
 refine RL.box (t := TR.int) (e := x1) rfl rfl rfl rfl VR.int ?_
 intro v7
 refine RL.reL (L' := [imm (TR.ptr (TR.sl (TR.sl TR.int))) v2 x2, obox 3 TR.int v6 x0, obox 3 TR.int v7 x1]) rfl ?_
 refine RL.asg rfl rfl rfl ?_
 refine RL.finG ?_
 refine GL.seq ?_
 refine GL.region ?_
 refine RL.ldP (off := 0) (r := (TR.sl (TR.sl TR.int))) (e' := x2) 0 Try_ln37 rfl rfl (Or.inr ⟨rfl, rfl⟩) rfl PtOf.imm Part.self ?_
 intro v11
 refine RL.mkF (vs := [v6, v7]) rfl rfl rfl ?_
 obtain ⟨y12, e13, hm⟩ := bind_some hm
 refine RL.callV (v := .bool y12) (vs := [v11, .func (.func 22) #[] #[v6, v7]]) Try_fit21 rfl (Or.inl rfl) rfl rfl rfl rfl (fun U w hU hW hL => slices_ContainsFunc_rows_c U w hU _ _ (hL 3 _ _ rfl Seen.imm) 22 #[v6, v7] Try_fit22 (fun a0 => pk_DuelMcGarvey_1_1_m a0 x0 x1) (fun U' w' hle hU' u0 a0 q0 rr hr => (pk_DuelMcGarvey_1_1_c U' w' hU' u0 a0 q0 _ _ (TR.vrep_mono hle (hL 1 _ _ rfl Seen.obox)) _ _ (TR.vrep_mono hle (hL 2 _ _ rfl Seen.obox)) rr hr).mono (fun _ _ z => z)) _ e13) ?_
 refine RL.asg rfl rfl rfl ?_
 refine RL.finG ?_
 have hm := Option.some.inj hm
 subst hm
 exact GL.ret (Gx.ret (v := .bool y12) (res1 rfl rfl) (fun a w st => st.toPostV))

set_option maxHeartbeats 4000000 in
theorem order_Check_c (S : Hp) (w : World) (hS : S.sub w) (x0 : Int) (v1 : Value) (x1 : (List Int)) (k1 : ((TR.sl TR.int)).vrep S v1 x1) (res : Int) (hm : order_Check_m x0 x1 = some res) : Calls Try.prog 43 #[.int .i64 x0, v1] w (PostV w (.int .i64 res)) := by
 refine calls_enter 39 Try.func43 Try.ntmps43 rfl S false [(0, .int .i64 x0), (1, v1)] [imm (TR.sl TR.int) v1 x1] rfl ⟨rfl, ⟨rfl, trivial⟩⟩ hS ⟨k1, trivial⟩ ?_
 unfold order_Check_m at hm
 refine GL.seq ?_
 refine GL.region ?_
 refine RL.asg rfl rfl rfl ?_
 refine RL.finG ?_
 refine GL.seq ?_
 refine GL.seq ?_
 obtain ⟨y6, K7, h8, h9, h10, h11, h12⟩ := bindR_K hm
 refine GL.join (ι := Bool) (fun (p : Bool) => [(0, .int .i64 x0), (1, v1), (13, .bool p)]) (fun (p : Bool) => [imm (TR.sl TR.int) v1 x1]) (fun (p : Bool) => K7 (.nx p)) ?_ ?_
 ·skip
  refine GL.region ?_
  refine RL.mv rfl rfl rfl ?_
  refine RL.binI (v := .bool (decide (x0 < (1 : Int)))) rfl rfl rfl rfl rfl ?_
  refine RL.mv rfl rfl rfl ?_
  refine RL.split (t := 10) rfl (fun b13 => ?_) (fun b13 => ?_)
  ·replace h8 := ite_t b13 h8
   refine RL.skip rfl rfl ?_
   refine RL.skip rfl rfl ?_
   refine RL.pickT rfl rfl rfl rfl ?_
   refine RL.fin ?_
   cases h8
   exact fun a w st => mid_intro true h9 (St.cut [0] ⟨rfl, rfl, rfl, trivial⟩ (by decide) rfl st)
  replace h8 := ite_f b13 h8
  refine RL.mv rfl rfl rfl ?_
  refine RL.binI (v := .bool (decide (x0 > (6 : Int)))) rfl rfl rfl rfl rfl ?_
  refine RL.pickF rfl rfl rfl rfl ?_
  refine RL.fin ?_
  cases h8
  exact fun a w st => mid_intro (decide (x0 > (6 : Int))) h9 (St.cut [0] ⟨rfl, rfl, rfl, trivial⟩ (by decide) rfl st)
 rintro x5 h14
 have h15 := h10 _ h14
 try dsimp only at h15
 refine GL.weak (env' := [(0, .int .i64 x0), (1, v1), (13, .bool x5)]) (L' := [imm (TR.sl TR.int) v1 x1]) (fun _ _ st => st) ?_
 refine GL.cond rfl (fun b16 => ?_) (fun b16 => ?_)
 ·replace h15 := ite_t b16 h15
  refine GL.seq ?_
  refine GL.region ?_
  refine RL.asg rfl rfl rfl ?_
  refine RL.finG ?_
  have h15 := Option.some.inj h15
  subst h15
  exact GL.ret (Gx.ret (v := .int .i64 (1 : Int)) (res1 rfl rfl) (fun a w st => st.toPostV))
 replace h15 := ite_f b16 h15
 refine GL.skip ?_
 refine GL.seq ?_
 refine GL.region ?_
 refine RL.alloc (t := (TR.arr 6 TR.bool)) (z := (List.replicate 6 false)) Try_lo79 (fun S => ⟨rfl, ⟨_, _, rfl, rfl, ⟨_, _, rfl, rfl, ⟨_, _, rfl, rfl, ⟨_, _, rfl, rfl, ⟨_, _, rfl, rfl, ⟨_, _, rfl, rfl, rfl⟩⟩⟩⟩⟩⟩⟩) rfl rfl rfl ?_
 intro v18
 refine RL.finG ?_
 refine GL.seq ?_
 refine GL.seq ?_
 refine GL.region ?_
 refine RL.mv rfl rfl rfl ?_
 refine RL.lenS 0 Try.underlying27 rfl rfl rfl rfl SlOf.imm ?_
 refine RL.mv rfl rfl rfl ?_
 refine RL.finG ?_
 refine GL.open_ 0 rfl (fun S h => len_imm S h) (fun n82 => ?_)
 obtain ⟨y83, K84, h85, h86, h87, h88, h89⟩ := bindR_K h15
 refine GL.join (ι := (List Bool)) (fun (p : (List Bool)) => [(0, .int .i64 x0), (1, v1)]) (fun (p : (List Bool)) => [imm (TR.sl TR.int) v1 x1]) (fun (p : (List Bool)) => K84 (.nx p)) ?_ ?_
 ·refine GL.block ?_
  refine GL.loop (ι := Nat × (List Int) × (List Bool)) (fun (p : Nat × (List Int) × (List Bool)) => [(0, .int .i64 x0), (1, v1), (5, v18), (14, v1), (15, .int .i64 ((x1).length : Int)), (16, .int .i64 (p.1 : Int))]) (fun (p : Nat × (List Int) × (List Bool)) => [imm (TR.sl TR.int) v1 x1, obox 79 (TR.arr 6 TR.bool) v18 p.2.2]) (fun (p : Nat × (List Int) × (List Bool)) => p.1 + p.2.1.length = (x1).length ∧ List.drop p.1 x1 = p.2.1 ∧ rangeL (order_Check_b1 x0) p.2.1 p.1 p.2.2 = some y83) (fun (p : Nat × (List Int) × (List Bool)) => p.2.1.length) (0, x1, (List.replicate 6 false)) ⟨by simp, by simp, h85⟩ (fun a w st => St.cut [0, 1] ⟨rfl, rfl, rfl, rfl, rfl, rfl, trivial⟩ (by decide) rfl st) ?_
  rintro ⟨i90, r91, l50⟩ ⟨h96, h97, h95⟩
  try dsimp only at h96 h97 h95
  refine GL.weak (env' := [(0, .int .i64 x0), (1, v1), (5, v18), (14, v1), (15, .int .i64 ((x1).length : Int)), (16, .int .i64 (i90 : Int))]) (L' := [imm (TR.sl TR.int) v1 x1, obox 79 (TR.arr 6 TR.bool) v18 l50]) (fun _ _ st => st) ?_
  refine GL.seq ?_
  refine GL.region ?_
  refine RL.binI (v := .bool (decide ((i90 : Int) < ((x1).length : Int)))) rfl rfl rfl rfl rfl ?_
  refine RL.finG ?_
  refine GL.seq ?_
  refine GL.cond rfl (fun b98 => ?_) (fun b98 => ?_)
  ·have h99 : i90 < (x1).length := by have := of_decide_eq_true b98; omega
   obtain ⟨y100, r102, hr, e101, h103⟩ := drop_cons h97 rfl h99
   subst hr
   obtain ⟨z92, h93, h94⟩ := rangeL_some h95
   unfold order_Check_b1 at h93
   try dsimp only at h93
   refine GL.skip ?_
   refine GL.seq ?_
   refine GL.block ?_
   refine GL.seq ?_
   refine GL.region ?_
   refine RL.idxS (sz := 1) 0 Try.underlying27 Try_ln3 rfl rfl rfl rfl rfl SlOf.imm (by omega) (by omega) ?_
   refine RL.ldSx (i := i90) (e' := y100) 0 Ex.ik Try_ln3 rfl rfl rfl rfl SlOf.imm e101 Part.self ?_
   refine RL.asg rfl rfl rfl ?_
   refine RL.finG ?_
   refine GL.seq ?_
   refine GL.seq ?_
   obtain ⟨y113, K114, h115, h116, h117, h118, h119⟩ := bindF_K h93
   refine GL.join (ι := Bool) (fun (p : Bool) => [(0, .int .i64 x0), (1, v1), (5, v18), (7, .int .i64 y100), (14, v1), (15, .int .i64 ((x1).length : Int)), (16, .int .i64 (i90 : Int)), (31, .bool p)]) (fun (p : Bool) => [imm (TR.sl TR.int) v1 x1, obox 79 (TR.arr 6 TR.bool) v18 l50]) (fun (p : Bool) => K114 (.nx p)) ?_ ?_
   ·skip
    refine GL.region ?_
    refine RL.mv rfl rfl rfl ?_
    refine RL.binI (v := .bool (decide (y100 < (0 : Int)))) rfl rfl rfl rfl rfl ?_
    refine RL.mv rfl rfl rfl ?_
    refine RL.split (t := 22) rfl (fun b120 => ?_) (fun b120 => ?_)
    ·replace h115 := ite_t b120 h115
     refine RL.skip rfl rfl ?_
     refine RL.skip rfl rfl ?_
     refine RL.skip rfl rfl ?_
     refine RL.pickT rfl rfl rfl rfl ?_
     refine RL.mv rfl rfl rfl ?_
     refine RL.skip rfl rfl ?_
     refine RL.skip rfl rfl ?_
     refine RL.skip rfl rfl ?_
     refine RL.pickT rfl rfl rfl rfl ?_
     refine RL.fin ?_
     cases h115
     exact fun a w st => mid_intro true h116 (St.cut [0, 1] ⟨rfl, rfl, rfl, rfl, rfl, rfl, rfl, rfl, trivial⟩ (by decide) rfl st)
    replace h115 := ite_f b120 h115
    refine RL.mv rfl rfl rfl ?_
    refine RL.mv rfl rfl rfl ?_
    refine RL.binI (v := .bool (decide (y100 ≥ x0))) rfl rfl rfl rfl rfl ?_
    refine RL.pickF rfl rfl rfl rfl ?_
    refine RL.mv rfl rfl rfl ?_
    refine RL.split (t := 27) rfl (fun b121 => ?_) (fun b121 => ?_)
    ·replace h115 := ite_t b121 h115
     refine RL.skip rfl rfl ?_
     refine RL.skip rfl rfl ?_
     refine RL.skip rfl rfl ?_
     refine RL.pickT rfl rfl rfl rfl ?_
     refine RL.fin ?_
     cases h115
     exact fun a w st => mid_intro true h116 (St.cut [0, 1] ⟨rfl, rfl, rfl, rfl, rfl, rfl, rfl, rfl, trivial⟩ (by decide) rfl st)
    replace h115 := ite_f b121 h115
    refine RL.mv rfl rfl rfl ?_
    obtain ⟨y122, e123, h115⟩ := bind_some h115
    refine RL.idxA0 (sz := 1) (t' := TR.bool) 1 Try.underlying79 Try_ln4 rfl rfl rfl PtOf.obox rfl rfl Part.self (idx_some e123).1 (idx_some e123).2.1 ?_
    refine RL.ldPx (off := ((y100).toNat * 1)) (e' := y122) 1 Ex.bool Try_ln4 rfl rfl (Or.inl rfl) rfl PtOf.obox (Part.arr (idx_some e123).2.2 Part.self) ?_
    refine RL.pickF rfl rfl rfl rfl ?_
    refine RL.fin ?_
    cases h115
    exact fun a w st => mid_intro y122 h116 (St.cut [0, 1] ⟨rfl, rfl, rfl, rfl, rfl, rfl, rfl, rfl, trivial⟩ (by decide) rfl st)
   rintro x112 h124
   have h125 := h117 _ h124
   try dsimp only at h125
   refine GL.weak (env' := [(0, .int .i64 x0), (1, v1), (5, v18), (7, .int .i64 y100), (14, v1), (15, .int .i64 ((x1).length : Int)), (16, .int .i64 (i90 : Int)), (31, .bool x112)]) (L' := [imm (TR.sl TR.int) v1 x1, obox 79 (TR.arr 6 TR.bool) v18 l50]) (fun _ _ st => st) ?_
   refine GL.cond rfl (fun b126 => ?_) (fun b126 => ?_)
   ·replace h125 := ite_t b126 h125
    refine GL.seq ?_
    refine GL.region ?_
    refine RL.asg rfl rfl rfl ?_
    refine RL.finG ?_
    cases h125
    replace h94 : some (Fl.rt _) = some y83 := h94
    cases h94
    have hh := h88 _ h86
    subst hh
    exact GL.ret (Gx.ret (v := .int .i64 (3 : Int)) (res1 rfl rfl) (fun a w st => st.toPostV))
   replace h125 := ite_f b126 h125
   refine GL.skip ?_
   refine GL.region ?_
   refine RL.mv rfl rfl rfl ?_
   obtain ⟨y129, e130, h125⟩ := bind_some h125
   refine RL.idxA0 (sz := 1) (t' := TR.bool) 1 Try.underlying79 Try_ln4 rfl rfl rfl PtOf.obox rfl rfl Part.self (idx_some e130).1 (idx_some e130).2.1 ?_
   refine RL.stP (off := ((y100).toNat * 1)) (e' := true) (d1 := (List.set l50 ((y100).toNat) true)) (r := TR.bool) 1 Try_ln4 rfl rfl (Or.inl rfl) rfl VR.bool rfl (Upd.arr (idx_some e130).2.2 Upd.self) ?_
   refine RL.finG ?_
   refine GL.nilB ?_
   refine GL.region ?_
   refine RL.binI (v := .int .i64 ((i90 + 1 : Nat) : Int)) rfl rfl rfl rfl (binI_succ i90 (by omega)) ?_
   refine RL.mv rfl rfl rfl ?_
   refine RL.fin ?_
   cases h125
   exact fun a w st => lop_intro (i90 + 1, r102, (List.set l50 ((y100).toNat) true)) ⟨by show i90 + 1 + r102.length = (x1).length; simp only [List.length_cons] at h96; omega, h103, h94⟩ (by simp) (St.cut [0, 1] ⟨rfl, rfl, rfl, rfl, rfl, rfl, trivial⟩ (by decide) rfl st)
  have h99 : ¬ i90 < (x1).length := by have := of_decide_eq_false b98; omega
  obtain rfl : r91 = [] := by rw [← h97]; exact List.drop_of_length_le (by omega)
  replace h95 : some (Fl.nx _) = some y83 := h95
  cases h95
  exact GL.exit (fun a w st => mid_intro l50 h86 (St.cut [0] ⟨rfl, rfl, trivial⟩ (by decide) rfl st))
 rintro l50 h131
 have h132 := h87 _ h131
 try dsimp only at h132
 refine GL.weak (env' := [(0, .int .i64 x0), (1, v1)]) (L' := [imm (TR.sl TR.int) v1 x1]) (fun _ _ st => st) ?_
 refine GL.seq ?_
 refine GL.seq ?_
 refine GL.region ?_
 refine RL.mv rfl rfl rfl ?_
 refine RL.lenS 0 Try.underlying27 rfl rfl rfl rfl SlOf.imm ?_
 refine RL.mv rfl rfl rfl ?_
 refine RL.binI (v := .bool (((x1).length : Int) != x0)) rfl rfl rfl rfl rfl ?_
 refine RL.finG ?_
 refine GL.cond rfl (fun b133 => ?_) (fun b133 => ?_)
 ·replace h132 := ite_t b133 h132
  refine GL.seq ?_
  refine GL.region ?_
  refine RL.asg rfl rfl rfl ?_
  refine RL.finG ?_
  have h132 := Option.some.inj h132
  subst h132
  exact GL.ret (Gx.ret (v := .int .i64 (3 : Int)) (res1 rfl rfl) (fun a w st => st.toPostV))
 replace h132 := ite_f b133 h132
 refine GL.skip ?_
 refine GL.seq ?_
 refine GL.region ?_
 refine RL.asg rfl rfl rfl ?_
 refine RL.finG ?_
 have h132 := Option.some.inj h132
 subst h132
 exact GL.ret (Gx.ret (v := .int .i64 (0 : Int)) (res1 rfl rfl) (fun a w st => st.toPostV))

set_option maxHeartbeats 4000000 in
theorem tally_Check_c (S : Hp) (w : World) (hS : S.sub w) (x0 : Int) (v1 : Value) (x1 : (List (List Int))) (k1 : ((TR.sl (TR.sl TR.int))).vrep S v1 x1) (res : Int) (hm : tally_Check_m x0 x1 = some res) : Calls Try.prog 38 #[.int .i64 x0, v1] w (PostV w (.int .i64 res)) := by
 refine calls_enter 27 Try.func38 Try.ntmps38 rfl S false [(0, .int .i64 x0), (1, v1)] [imm (TR.sl (TR.sl TR.int)) v1 x1] rfl ⟨rfl, ⟨rfl, trivial⟩⟩ hS ⟨k1, trivial⟩ ?_
 unfold tally_Check_m at hm
 refine GL.seq ?_
 refine GL.region ?_
 refine RL.asg rfl rfl rfl ?_
 refine RL.finG ?_
 refine GL.seq ?_
 refine GL.seq ?_
 obtain ⟨y6, K7, h8, h9, h10, h11, h12⟩ := bindR_K hm
 refine GL.join (ι := Bool) (fun (p : Bool) => [(0, .int .i64 x0), (1, v1), (12, .bool p)]) (fun (p : Bool) => [imm (TR.sl (TR.sl TR.int)) v1 x1]) (fun (p : Bool) => K7 (.nx p)) ?_ ?_
 ·skip
  refine GL.region ?_
  refine RL.mv rfl rfl rfl ?_
  refine RL.binI (v := .bool (decide (x0 < (1 : Int)))) rfl rfl rfl rfl rfl ?_
  refine RL.mv rfl rfl rfl ?_
  refine RL.split (t := 9) rfl (fun b13 => ?_) (fun b13 => ?_)
  ·replace h8 := ite_t b13 h8
   refine RL.skip rfl rfl ?_
   refine RL.skip rfl rfl ?_
   refine RL.pickT rfl rfl rfl rfl ?_
   refine RL.fin ?_
   cases h8
   exact fun a w st => mid_intro true h9 (St.cut [0] ⟨rfl, rfl, rfl, trivial⟩ (by decide) rfl st)
  replace h8 := ite_f b13 h8
  refine RL.mv rfl rfl rfl ?_
  refine RL.binI (v := .bool (decide (x0 > (6 : Int)))) rfl rfl rfl rfl rfl ?_
  refine RL.pickF rfl rfl rfl rfl ?_
  refine RL.fin ?_
  cases h8
  exact fun a w st => mid_intro (decide (x0 > (6 : Int))) h9 (St.cut [0] ⟨rfl, rfl, rfl, trivial⟩ (by decide) rfl st)
 rintro x5 h14
 have h15 := h10 _ h14
 try dsimp only at h15
 refine GL.weak (env' := [(0, .int .i64 x0), (1, v1), (12, .bool x5)]) (L' := [imm (TR.sl (TR.sl TR.int)) v1 x1]) (fun _ _ st => st) ?_
 refine GL.cond rfl (fun b16 => ?_) (fun b16 => ?_)
 ·replace h15 := ite_t b16 h15
  refine GL.seq ?_
  refine GL.region ?_
  refine RL.asg rfl rfl rfl ?_
  refine RL.finG ?_
  have h15 := Option.some.inj h15
  subst h15
  exact GL.ret (Gx.ret (v := .int .i64 (1 : Int)) (res1 rfl rfl) (fun a w st => st.toPostV))
 replace h15 := ite_f b16 h15
 refine GL.skip ?_
 refine GL.seq ?_
 refine GL.seq ?_
 refine GL.region ?_
 refine RL.mv rfl rfl rfl ?_
 refine RL.lenS 0 Try.underlying37 rfl rfl rfl rfl SlOf.imm ?_
 refine RL.binI (v := .bool (decide (((x1).length : Int) > (30 : Int)))) rfl rfl rfl rfl rfl ?_
 refine RL.finG ?_
 refine GL.cond rfl (fun b17 => ?_) (fun b17 => ?_)
 ·replace h15 := ite_t b17 h15
  refine GL.seq ?_
  refine GL.region ?_
  refine RL.asg rfl rfl rfl ?_
  refine RL.finG ?_
  have h15 := Option.some.inj h15
  subst h15
  exact GL.ret (Gx.ret (v := .int .i64 (2 : Int)) (res1 rfl rfl) (fun a w st => st.toPostV))
 replace h15 := ite_f b17 h15
 refine GL.skip ?_
 refine GL.seq ?_
 refine GL.seq ?_
 refine GL.region ?_
 refine RL.mv rfl rfl rfl ?_
 refine RL.lenS 0 Try.underlying37 rfl rfl rfl rfl SlOf.imm ?_
 refine RL.mv rfl rfl rfl ?_
 refine RL.finG ?_
 refine GL.open_ 0 rfl (fun S h => len_imm S h) (fun n29 => ?_)
 obtain ⟨y30, K31, h32, h33, h34, h35, h36⟩ := bindR_K h15
 refine GL.join (ι := Unit) (fun (p : Unit) => []) (fun (p : Unit) => []) (fun (p : Unit) => K31 (.nx ())) ?_ ?_
 ·refine GL.block ?_
  refine GL.loop (ι := Nat × (List (List Int))) (fun (p : Nat × (List (List Int))) => [(0, .int .i64 x0), (16, v1), (17, .int .i64 ((x1).length : Int)), (18, .int .i64 (p.1 : Int))]) (fun (p : Nat × (List (List Int))) => [imm (TR.sl (TR.sl TR.int)) v1 x1]) (fun (p : Nat × (List (List Int))) => p.1 + p.2.length = (x1).length ∧ List.drop p.1 x1 = p.2 ∧ rangeL (tally_Check_b1 x0) p.2 p.1 () = some y30) (fun (p : Nat × (List (List Int))) => p.2.length) (0, x1) ⟨by simp, by simp, h32⟩ (fun a w st => St.cut [0] ⟨rfl, rfl, rfl, rfl, trivial⟩ (by decide) rfl st) ?_
  rintro ⟨i37, r38⟩ ⟨h43, h44, h42⟩
  try dsimp only at h43 h44 h42
  refine GL.weak (env' := [(0, .int .i64 x0), (16, v1), (17, .int .i64 ((x1).length : Int)), (18, .int .i64 (i37 : Int))]) (L' := [imm (TR.sl (TR.sl TR.int)) v1 x1]) (fun _ _ st => st) ?_
  refine GL.seq ?_
  refine GL.region ?_
  refine RL.binI (v := .bool (decide ((i37 : Int) < ((x1).length : Int)))) rfl rfl rfl rfl rfl ?_
  refine RL.finG ?_
  refine GL.seq ?_
  refine GL.cond rfl (fun b45 => ?_) (fun b45 => ?_)
  ·have h46 : i37 < (x1).length := by have := of_decide_eq_true b45; omega
   obtain ⟨y47, r49, hr, e48, h50⟩ := drop_cons h44 rfl h46
   subst hr
   obtain ⟨z39, h40, h41⟩ := rangeL_some h42
   unfold tally_Check_b1 at h40
   try dsimp only at h40
   refine GL.skip ?_
   refine GL.seq ?_
   refine GL.block ?_
   refine GL.seq ?_
   refine GL.region ?_
   refine RL.idxS (sz := 1) 0 Try.underlying37 Try_ln27 rfl rfl rfl rfl rfl SlOf.imm (by omega) (by omega) ?_
   refine RL.ldS (i := i37) (r := (TR.sl TR.int)) (e' := y47) 0 Try_ln27 rfl rfl rfl rfl SlOf.imm e48 Part.self ?_
   intro v52
   refine RL.asg rfl rfl rfl ?_
   refine RL.finG ?_
   refine GL.seq ?_
   refine GL.region ?_
   refine RL.mv rfl rfl rfl ?_
   refine RL.mv rfl rfl rfl ?_
   obtain ⟨y55, e56, h40⟩ := bind_some h40
   refine RL.callV (v := .int .i64 y55) (vs := [.int .i64 x0, v52]) Try_fit43 rfl (Or.inl rfl) rfl rfl rfl rfl (fun U w hU hW hL => order_Check_c U w hU x0 _ _ (hL 1 _ _ rfl Seen.imm) _ e56) ?_
   refine RL.binI (v := .bool (y55 != (0 : Int))) rfl rfl rfl rfl rfl ?_
   refine RL.finG ?_
   refine GL.cond rfl (fun b57 => ?_) (fun b57 => ?_)
   ·replace h40 := ite_t b57 h40
    refine GL.seq ?_
    refine GL.region ?_
    refine RL.asg rfl rfl rfl ?_
    refine RL.finG ?_
    cases h40
    replace h41 : some (Fl.rt _) = some y30 := h41
    cases h41
    have hh := h35 _ h33
    subst hh
    exact GL.ret (Gx.ret (v := .int .i64 (3 : Int)) (res1 rfl rfl) (fun a w st => st.toPostV))
   replace h40 := ite_f b57 h40
   refine GL.skip ?_
   refine GL.nilB ?_
   refine GL.region ?_
   refine RL.binI (v := .int .i64 ((i37 + 1 : Nat) : Int)) rfl rfl rfl rfl (binI_succ i37 (by omega)) ?_
   refine RL.mv rfl rfl rfl ?_
   refine RL.fin ?_
   cases h40
   exact fun a w st => lop_intro (i37 + 1, r49) ⟨by show i37 + 1 + r49.length = (x1).length; simp only [List.length_cons] at h43; omega, h50, h41⟩ (by simp) (St.cut [0] ⟨rfl, rfl, rfl, rfl, trivial⟩ (by decide) rfl st)
  have h46 : ¬ i37 < (x1).length := by have := of_decide_eq_false b45; omega
  obtain rfl : r38 = [] := by rw [← h44]; exact List.drop_of_length_le (by omega)
  replace h42 : some (Fl.nx _) = some y30 := h42
  cases h42
  exact GL.exit (fun a w st => mid_intro () h33 (St.cut [] trivial (by decide) rfl st))
 rintro ⟨⟩ h58
 have h59 := h34 _ h58
 try dsimp only at h59
 refine GL.weak (env' := []) (L' := []) (fun _ _ st => st) ?_
 refine GL.seq ?_
 refine GL.region ?_
 refine RL.asg rfl rfl rfl ?_
 refine RL.finG ?_
 have h59 := Option.some.inj h59
 subst h59
 exact GL.ret (Gx.ret (v := .int .i64 (0 : Int)) (res1 rfl rfl) (fun a w st => st.toPostV))

set_option maxHeartbeats 4000000 in
theorem tally_Duels_c (S : Hp) (w : World) (hS : S.sub w) (x0 : Int) (v1 : Value) (x1 : (List (List Int))) (k1 : ((TR.sl (TR.sl TR.int))).vrep S v1 x1) (res : (List (List Int)) × Int) (hm : tally_Duels_m x0 x1 = some res) : Calls Try.prog 23 #[.int .i64 x0, v1] w (Post w S (fun (o : Value) => .tuple #[o, .int .i64 res.2]) (fun (o : Value) => [imm (TR.sl (TR.sl TR.int)) o res.1])) := by
 refine calls_enter 69 Try.func23 Try.ntmps23 rfl S false [(0, .int .i64 x0), (1, v1)] [imm (TR.sl (TR.sl TR.int)) v1 x1] rfl ⟨rfl, ⟨rfl, trivial⟩⟩ hS ⟨k1, trivial⟩ ?_
 unfold tally_Duels_m at hm
 refine GL.seq ?_
 refine GL.region ?_
 refine RL.asg rfl rfl rfl ?_
 refine RL.asg rfl rfl rfl ?_
 refine RL.finG ?_
 refine GL.seq ?_
 refine GL.seq ?_
 refine GL.region ?_
 refine RL.mv rfl rfl rfl ?_
 refine RL.mv rfl rfl rfl ?_
 obtain ⟨y5, e6, hm⟩ := bind_some hm
 refine RL.callV (v := .int .i64 y5) (vs := [.int .i64 x0, v1]) Try_fit38 rfl (Or.inl rfl) rfl rfl rfl rfl (fun U w hU hW hL => tally_Check_c U w hU x0 _ _ (hL 0 _ _ rfl Seen.imm) _ e6) ?_
 refine RL.asg rfl rfl rfl ?_
 refine RL.finG ?_
 refine GL.seq ?_
 refine GL.region ?_
 refine RL.mv rfl rfl rfl ?_
 refine RL.binI (v := .bool (y5 != (0 : Int))) rfl rfl rfl rfl rfl ?_
 refine RL.finG ?_
 refine GL.cond rfl (fun b7 => ?_) (fun b7 => ?_)
 ·replace hm := ite_t b7 hm
  refine GL.seq ?_
  refine GL.region ?_
  refine RL.mv rfl rfl rfl ?_
  refine RL.asg rfl rfl rfl ?_
  refine RL.asg rfl rfl rfl ?_
  refine RL.finG ?_
  refine GL.weak (fun a w st => st.nilImm (TR.sl TR.int)) ?_
  have hm := Option.some.inj hm
  subst hm
  exact GL.ret (Gx.ret (v := .tuple #[Value.slice none 0 0, .int .i64 y5]) (res2 rfl rfl rfl) (fun a w st => (st.pick [1] (by decide) rfl).toPost (Value.slice none 0 0)))
 replace hm := ite_f b7 hm
 refine GL.skip ?_
 refine GL.seq ?_
 refine GL.region ?_
 refine RL.mv rfl rfl rfl ?_
 obtain ⟨y11, e12, hm⟩ := bind_some hm
 replace e12 := chk_some e12
 refine RL.mkS (t := TR.raw) (z := .slice none 0 0) Try.underlying37 Try_lo27 (fun S => ⟨rfl, rfl⟩) rfl rfl rfl rfl e12.1 e12.2 ?_
 intro v13
 refine RL.weak (fun a w st => st.toRows 3 TR.int 1 rfl) ?_
 refine RL.reL (L' := [imm (TR.sl (TR.sl TR.int)) v1 x1, own2 27 3 TR.int v13 (List.replicate (x0).toNat (Value.slice none 0 0)) (List.replicate (x0).toNat ([] : (List Int)))]) rfl ?_
 refine RL.asg rfl rfl rfl ?_
 refine RL.finG ?_
 refine GL.seq ?_
 refine GL.seq ?_
 refine GL.region ?_
 refine RL.mv rfl rfl rfl ?_
 refine RL.lenR 1 Try.underlying37 rfl rfl rfl rfl ?_
 refine RL.mv rfl rfl rfl ?_
 refine RL.finG ?_
 refine GL.lenR 1 rfl (fun n36 => ?_)
 obtain ⟨y37, K38, h39, h40, h41, h42, h43⟩ := bindR_K hm
 refine GL.join (ι := (List (List Int)) × (List Value)) (fun (p : (List (List Int)) × (List Value)) => [(1, v1), (7, v13)]) (fun (p : (List (List Int)) × (List Value)) => [imm (TR.sl (TR.sl TR.int)) v1 x1, own2 27 3 TR.int v13 p.2 p.1]) (fun (p : (List (List Int)) × (List Value)) => K38 (.nx p.1)) ?_ ?_
 ·refine GL.block ?_
  refine GL.loop (ι := Nat × Nat × (List (List Int)) × (List Value)) (fun (p : Nat × Nat × (List (List Int)) × (List Value)) => [(0, .int .i64 x0), (1, v1), (7, v13), (24, .int .i64 (((List.replicate (x0).toNat ([] : (List Int)))).length : Int)), (25, .int .i64 (p.1 : Int))]) (fun (p : Nat × Nat × (List (List Int)) × (List Value)) => [imm (TR.sl (TR.sl TR.int)) v1 x1, own2 27 3 TR.int v13 p.2.2.2 p.2.2.1]) (fun (p : Nat × Nat × (List (List Int)) × (List Value)) => p.1 + p.2.1 = ((List.replicate (x0).toNat ([] : (List Int)))).length ∧ rangeN (tally_Duels_b1 x0) p.2.1 p.1 p.2.2.1 = some y37) (fun (p : Nat × Nat × (List (List Int)) × (List Value)) => p.2.1) (0, ((List.replicate (x0).toNat ([] : (List Int)))).length, (List.replicate (x0).toNat ([] : (List Int))), (List.replicate (x0).toNat (Value.slice none 0 0))) ⟨by simp, h39⟩ (fun a w st => St.cut [0, 1] ⟨rfl, rfl, rfl, rfl, rfl, trivial⟩ (by decide) rfl st) ?_
  rintro ⟨i44, r45, l24, V25⟩ ⟨h50, h49⟩
  try dsimp only at h50 h49
  refine GL.weak (env' := [(0, .int .i64 x0), (1, v1), (7, v13), (24, .int .i64 (((List.replicate (x0).toNat ([] : (List Int)))).length : Int)), (25, .int .i64 (i44 : Int))]) (L' := [imm (TR.sl (TR.sl TR.int)) v1 x1, own2 27 3 TR.int v13 V25 l24]) (fun _ _ st => st) ?_
  refine GL.seq ?_
  refine GL.region ?_
  refine RL.binI (v := .bool (decide ((i44 : Int) < (((List.replicate (x0).toNat ([] : (List Int)))).length : Int)))) rfl rfl rfl rfl rfl ?_
  refine RL.finG ?_
  refine GL.seq ?_
  refine GL.cond rfl (fun b52 => ?_) (fun b52 => ?_)
  ·have h53 : i44 < ((List.replicate (x0).toNat ([] : (List Int)))).length := by have := of_decide_eq_true b52; omega
   obtain ⟨r54, hr⟩ : ∃ m, r45 = m + 1 := ⟨r45 - 1, by omega⟩
   subst hr
   obtain ⟨z46, h47, h48⟩ := rangeN_some h49
   unfold tally_Duels_b1 at h47
   try dsimp only at h47
   refine GL.skip ?_
   refine GL.seq ?_
   refine GL.block ?_
   refine GL.seq ?_
   refine GL.region ?_
   refine RL.mv rfl rfl rfl ?_
   refine RL.asg rfl rfl rfl ?_
   refine RL.finG ?_
   refine GL.region ?_
   refine RL.mv rfl rfl rfl ?_
   refine RL.mv rfl rfl rfl ?_
   refine RL.mv rfl rfl rfl ?_
   obtain ⟨y60, e61, h47⟩ := bind_some h47
   replace e61 := chk_some e61
   refine RL.mkS (t := TR.int) (z := (0 : Int)) Try.underlying27 Try_lo3 (fun S => rfl) rfl rfl rfl rfl e61.1 e61.2 ?_
   intro v62
   obtain ⟨y63, e64, h47⟩ := bind_some h47
   refine RL.idxR 1 Try.underlying37 Try_ln27 rfl rfl rfl rfl rfl (idx_some e64).1 (idx_some e64).2.1 ?_
   refine RL.stSp (i := i44) (r0 := y63) 1 2 (by decide) Try_ln27 rfl rfl rfl rfl rfl rfl (idx_some e64).2.2 ?_
   refine RL.reL (L' := [imm (TR.sl (TR.sl TR.int)) v1 x1, own2 27 3 TR.int v13 (List.set V25 i44 v62) (List.set l24 i44 (List.replicate (x0).toNat (0 : Int))), gone]) rfl ?_
   refine RL.finG ?_
   refine GL.nilB ?_
   refine GL.region ?_
   refine RL.binI (v := .int .i64 ((i44 + 1 : Nat) : Int)) rfl rfl rfl rfl (binI_succ i44 (by omega)) ?_
   refine RL.mv rfl rfl rfl ?_
   refine RL.fin ?_
   cases h47
   exact fun a w st => lop_intro (i44 + 1, r54, (List.set l24 i44 (List.replicate (x0).toNat (0 : Int))), (List.set V25 i44 v62)) ⟨by show i44 + 1 + r54 = ((List.replicate (x0).toNat ([] : (List Int)))).length; omega, h48⟩ (by simp) (St.cut [0, 1] ⟨rfl, rfl, rfl, rfl, rfl, trivial⟩ (by decide) rfl st)
  have h53 : ¬ i44 < ((List.replicate (x0).toNat ([] : (List Int)))).length := by have := of_decide_eq_false b52; omega
  obtain rfl : r45 = 0 := by omega
  replace h49 : some (Fl.nx _) = some y37 := h49
  cases h49
  exact GL.exit (fun a w st => mid_intro (l24, V25) h40 (St.cut [0, 1] ⟨rfl, rfl, trivial⟩ (by decide) rfl st))
 rintro ⟨l24, V25⟩ h65
 have h66 := h41 _ h65
 try dsimp only at h66
 refine GL.weak (env' := [(1, v1), (7, v13)]) (L' := [imm (TR.sl (TR.sl TR.int)) v1 x1, own2 27 3 TR.int v13 V25 l24]) (fun _ _ st => st) ?_
 refine GL.seq ?_
 refine GL.seq ?_
 refine GL.region ?_
 refine RL.mv rfl rfl rfl ?_
 refine RL.lenS 0 Try.underlying37 rfl rfl rfl rfl SlOf.imm ?_
 refine RL.mv rfl rfl rfl ?_
 refine RL.finG ?_
 refine GL.open_ 0 rfl (fun S h => len_imm S h) (fun n605 => ?_)
 obtain ⟨y606, K607, h608, h609, h610, h611, h612⟩ := bindR_K h66
 refine GL.join (ι := (List (List Int)) × (List Value)) (fun (p : (List (List Int)) × (List Value)) => [(7, v13)]) (fun (p : (List (List Int)) × (List Value)) => [own2 27 3 TR.int v13 p.2 p.1]) (fun (p : (List (List Int)) × (List Value)) => K607 (.nx p.1)) ?_ ?_
 ·refine GL.block ?_
  refine GL.loop (ι := Nat × (List (List Int)) × (List (List Int)) × (List Value)) (fun (p : Nat × (List (List Int)) × (List (List Int)) × (List Value)) => [(7, v13), (34, v1), (35, .int .i64 ((x1).length : Int)), (36, .int .i64 (p.1 : Int))]) (fun (p : Nat × (List (List Int)) × (List (List Int)) × (List Value)) => [own2 27 3 TR.int v13 p.2.2.2 p.2.2.1, imm (TR.sl (TR.sl TR.int)) v1 x1]) (fun (p : Nat × (List (List Int)) × (List (List Int)) × (List Value)) => p.1 + p.2.1.length = (x1).length ∧ List.drop p.1 x1 = p.2.1 ∧ rangeL tally_Duels_b2 p.2.1 p.1 p.2.2.1 = some y606) (fun (p : Nat × (List (List Int)) × (List (List Int)) × (List Value)) => p.2.1.length) (0, x1, l24, V25) ⟨by simp, by simp, h608⟩ (fun a w st => St.cut [1, 0] ⟨rfl, rfl, rfl, rfl, trivial⟩ (by decide) rfl st) ?_
  rintro ⟨i613, r614, l335, V336⟩ ⟨h619, h620, h618⟩
  try dsimp only at h619 h620 h618
  refine GL.weak (env' := [(7, v13), (34, v1), (35, .int .i64 ((x1).length : Int)), (36, .int .i64 (i613 : Int))]) (L' := [own2 27 3 TR.int v13 V336 l335, imm (TR.sl (TR.sl TR.int)) v1 x1]) (fun _ _ st => st) ?_
  refine GL.seq ?_
  refine GL.region ?_
  refine RL.binI (v := .bool (decide ((i613 : Int) < ((x1).length : Int)))) rfl rfl rfl rfl rfl ?_
  refine RL.finG ?_
  refine GL.seq ?_
  refine GL.cond rfl (fun b621 => ?_) (fun b621 => ?_)
  ·have h622 : i613 < (x1).length := by have := of_decide_eq_true b621; omega
   obtain ⟨y623, r625, hr, e624, h626⟩ := drop_cons h620 rfl h622
   subst hr
   obtain ⟨z615, h616, h617⟩ := rangeL_some h618
   unfold tally_Duels_b2 at h616
   try dsimp only at h616
   refine GL.skip ?_
   refine GL.seq ?_
   refine GL.block ?_
   refine GL.seq ?_
   refine GL.region ?_
   refine RL.idxS (sz := 1) 1 Try.underlying37 Try_ln27 rfl rfl rfl rfl rfl SlOf.imm (by omega) (by omega) ?_
   refine RL.ldS (i := i613) (r := (TR.sl TR.int)) (e' := y623) 1 Try_ln27 rfl rfl rfl rfl SlOf.imm e624 Part.self ?_
   intro v628
   refine RL.asg rfl rfl rfl ?_
   refine RL.finG ?_
   refine GL.seq ?_
   refine GL.region ?_
   refine RL.mv rfl rfl rfl ?_
   refine RL.lenS 2 Try.underlying27 rfl rfl rfl rfl SlOf.imm ?_
   refine RL.mv rfl rfl rfl ?_
   refine RL.finG ?_
   refine GL.open_ 2 rfl (fun S h => len_imm S h) (fun n791 => ?_)
   obtain ⟨y792, K793, h794, h795, h796, h797, h798⟩ := bindF_K h616
   refine GL.join (ι := (List (List Int)) × (List Value)) (fun (p : (List (List Int)) × (List Value)) => [(7, v13), (34, v1), (35, .int .i64 ((x1).length : Int)), (36, .int .i64 (i613 : Int))]) (fun (p : (List (List Int)) × (List Value)) => [own2 27 3 TR.int v13 p.2 p.1, imm (TR.sl (TR.sl TR.int)) v1 x1]) (fun (p : (List (List Int)) × (List Value)) => K793 (.nx p.1)) ?_ ?_
   ·refine GL.block ?_
    refine GL.loop (ι := Nat × (List Int) × (List (List Int)) × (List Value)) (fun (p : Nat × (List Int) × (List (List Int)) × (List Value)) => [(7, v13), (10, v628), (34, v1), (35, .int .i64 ((x1).length : Int)), (36, .int .i64 (i613 : Int)), (40, v628), (41, .int .i64 ((y623).length : Int)), (42, .int .i64 (p.1 : Int))]) (fun (p : Nat × (List Int) × (List (List Int)) × (List Value)) => [own2 27 3 TR.int v13 p.2.2.2 p.2.2.1, imm (TR.sl TR.int) v628 y623, imm (TR.sl (TR.sl TR.int)) v1 x1]) (fun (p : Nat × (List Int) × (List (List Int)) × (List Value)) => p.1 + p.2.1.length = (y623).length ∧ List.drop p.1 y623 = p.2.1 ∧ rangeL (tally_Duels_b3 y623) p.2.1 p.1 p.2.2.1 = some y792) (fun (p : Nat × (List Int) × (List (List Int)) × (List Value)) => p.2.1.length) (0, y623, l335, V336) ⟨by simp, by simp, h794⟩ (fun a w st => St.cut [0, 2, 1] ⟨rfl, rfl, rfl, rfl, rfl, rfl, rfl, rfl, trivial⟩ (by decide) rfl st) ?_
    rintro ⟨i799, r800, l709, V710⟩ ⟨h805, h806, h804⟩
    try dsimp only at h805 h806 h804
    refine GL.weak (env' := [(7, v13), (10, v628), (34, v1), (35, .int .i64 ((x1).length : Int)), (36, .int .i64 (i613 : Int)), (40, v628), (41, .int .i64 ((y623).length : Int)), (42, .int .i64 (i799 : Int))]) (L' := [own2 27 3 TR.int v13 V710 l709, imm (TR.sl TR.int) v628 y623, imm (TR.sl (TR.sl TR.int)) v1 x1]) (fun _ _ st => st) ?_
    refine GL.seq ?_
    refine GL.region ?_
    refine RL.binI (v := .bool (decide ((i799 : Int) < ((y623).length : Int)))) rfl rfl rfl rfl rfl ?_
    refine RL.finG ?_
    refine GL.seq ?_
    refine GL.cond rfl (fun b807 => ?_) (fun b807 => ?_)
    ·have h808 : i799 < (y623).length := by have := of_decide_eq_true b807; omega
     obtain ⟨y809, r811, hr, e810, h812⟩ := drop_cons h806 rfl h808
     subst hr
     obtain ⟨z801, h802, h803⟩ := rangeL_some h804
     unfold tally_Duels_b3 at h802
     try dsimp only at h802
     refine GL.skip ?_
     refine GL.seq ?_
     refine GL.block ?_
     refine GL.seq ?_
     refine GL.region ?_
     refine RL.mv rfl rfl rfl ?_
     refine RL.idxS (sz := 1) 1 Try.underlying27 Try_ln3 rfl rfl rfl rfl rfl SlOf.imm (by omega) (by omega) ?_
     refine RL.ldSx (i := i799) (e' := y809) 1 Ex.ik Try_ln3 rfl rfl rfl rfl SlOf.imm e810 Part.self ?_
     refine RL.asg rfl rfl rfl ?_
     refine RL.asg rfl rfl rfl ?_
     refine RL.finG ?_
     refine GL.seq ?_
     refine GL.region ?_
     refine RL.mv rfl rfl rfl ?_
     refine RL.mv rfl rfl rfl ?_
     refine RL.binI (v := .int .i64 (wadd (i799 : Int) (1 : Int))) rfl rfl rfl rfl rfl ?_
     obtain ⟨y816, e817, h802⟩ := bind_some h802
     replace e817 := chk_some e817
     refine RL.slc (t := TR.int) (i := (wadd (i799 : Int) (1 : Int)).toNat) (j := (y623).length) (sz := 1) 1 Try.underlying27 Try_ln3 rfl rfl rfl rfl (Or.inr ⟨_, _, rfl, by rw [Int.toNat_of_nonneg (by omega)]; rfl⟩) (Or.inl ⟨rfl, rfl⟩) rfl (by omega) (by omega) ?_
     intro v818
     refine RL.lenS 3 Try.underlying27 rfl rfl rfl rfl SlOf.imm ?_
     refine RL.mv rfl rfl rfl ?_
     refine RL.finG ?_
     refine GL.open_ 3 rfl (fun S h => len_imm S h) (fun n853 => ?_)
     obtain ⟨y854, K855, h856, h857, h858, h859, h860⟩ := bindF_K h802
     refine GL.join (ι := (List (List Int)) × (List Value)) (fun (p : (List (List Int)) × (List Value)) => [(7, v13), (10, v628), (34, v1), (35, .int .i64 ((x1).length : Int)), (36, .int .i64 (i613 : Int)), (40, v628), (41, .int .i64 ((y623).length : Int)), (42, .int .i64 (i799 : Int))]) (fun (p : (List (List Int)) × (List Value)) => [own2 27 3 TR.int v13 p.2 p.1, imm (TR.sl TR.int) v628 y623, imm (TR.sl (TR.sl TR.int)) v1 x1]) (fun (p : (List (List Int)) × (List Value)) => K855 (.nx p.1)) ?_ ?_
     ·refine GL.block ?_
      refine GL.loop (ι := Nat × (List Int) × (List (List Int)) × (List Value)) (fun (p : Nat × (List Int) × (List (List Int)) × (List Value)) => [(7, v13), (10, v628), (12, .int .i64 y809), (34, v1), (35, .int .i64 ((x1).length : Int)), (36, .int .i64 (i613 : Int)), (40, v628), (41, .int .i64 ((y623).length : Int)), (42, .int .i64 (i799 : Int)), (50, v818), (51, .int .i64 ((((List.take ((y623).length) y623).drop ((wadd (i799 : Int) (1 : Int)).toNat))).length : Int)), (52, .int .i64 (p.1 : Int))]) (fun (p : Nat × (List Int) × (List (List Int)) × (List Value)) => [own2 27 3 TR.int v13 p.2.2.2 p.2.2.1, imm (TR.sl TR.int) v628 y623, imm (TR.sl (TR.sl TR.int)) v1 x1, imm (TR.sl TR.int) v818 ((List.take ((y623).length) y623).drop ((wadd (i799 : Int) (1 : Int)).toNat))]) (fun (p : Nat × (List Int) × (List (List Int)) × (List Value)) => p.1 + p.2.1.length = (((List.take ((y623).length) y623).drop ((wadd (i799 : Int) (1 : Int)).toNat))).length ∧ List.drop p.1 ((List.take ((y623).length) y623).drop ((wadd (i799 : Int) (1 : Int)).toNat)) = p.2.1 ∧ rangeL (tally_Duels_b4 y809) p.2.1 p.1 p.2.2.1 = some y854) (fun (p : Nat × (List Int) × (List (List Int)) × (List Value)) => p.2.1.length) (0, ((List.take ((y623).length) y623).drop ((wadd (i799 : Int) (1 : Int)).toNat)), l709, V710) ⟨by simp, by simp, h856⟩ (fun a w st => St.cut [0, 1, 2, 3] ⟨rfl, rfl, rfl, rfl, rfl, rfl, rfl, rfl, rfl, rfl, rfl, rfl, trivial⟩ (by decide) rfl st) ?_
      rintro ⟨i861, r862, l835, V836⟩ ⟨h867, h868, h866⟩
      try dsimp only at h867 h868 h866
      refine GL.weak (env' := [(7, v13), (10, v628), (12, .int .i64 y809), (34, v1), (35, .int .i64 ((x1).length : Int)), (36, .int .i64 (i613 : Int)), (40, v628), (41, .int .i64 ((y623).length : Int)), (42, .int .i64 (i799 : Int)), (50, v818), (51, .int .i64 ((((List.take ((y623).length) y623).drop ((wadd (i799 : Int) (1 : Int)).toNat))).length : Int)), (52, .int .i64 (i861 : Int))]) (L' := [own2 27 3 TR.int v13 V836 l835, imm (TR.sl TR.int) v628 y623, imm (TR.sl (TR.sl TR.int)) v1 x1, imm (TR.sl TR.int) v818 ((List.take ((y623).length) y623).drop ((wadd (i799 : Int) (1 : Int)).toNat))]) (fun _ _ st => st) ?_
      refine GL.seq ?_
      refine GL.region ?_
      refine RL.binI (v := .bool (decide ((i861 : Int) < ((((List.take ((y623).length) y623).drop ((wadd (i799 : Int) (1 : Int)).toNat))).length : Int)))) rfl rfl rfl rfl rfl ?_
      refine RL.finG ?_
      refine GL.seq ?_
      refine GL.cond rfl (fun b869 => ?_) (fun b869 => ?_)
      ·have h870 : i861 < (((List.take ((y623).length) y623).drop ((wadd (i799 : Int) (1 : Int)).toNat))).length := by have := of_decide_eq_true b869; omega
       obtain ⟨y871, r873, hr, e872, h874⟩ := drop_cons h868 rfl h870
       subst hr
       obtain ⟨z863, h864, h865⟩ := rangeL_some h866
       unfold tally_Duels_b4 at h864
       try dsimp only at h864
       refine GL.skip ?_
       refine GL.seq ?_
       refine GL.block ?_
       refine GL.seq ?_
       refine GL.region ?_
       refine RL.idxS (sz := 1) 3 Try.underlying27 Try_ln3 rfl rfl rfl rfl rfl SlOf.imm (by omega) (by omega) ?_
       refine RL.ldSx (i := i861) (e' := y871) 3 Ex.ik Try_ln3 rfl rfl rfl rfl SlOf.imm e872 Part.self ?_
       refine RL.asg rfl rfl rfl ?_
       refine RL.finG ?_
       refine GL.region ?_
       refine RL.mv rfl rfl rfl ?_
       refine RL.mv rfl rfl rfl ?_
       obtain ⟨y881, e882, h864⟩ := bind_some h864
       refine RL.idxR 0 Try.underlying37 Try_ln27 rfl rfl rfl rfl rfl (idx_some e882).1 (idx_some e882).2.1 ?_
       refine RL.ldR (i := (y809).toNat) (r := y881) 0 Try_ln27 rfl rfl rfl rfl (idx_some e882).2.2 ?_
       refine RL.mv rfl rfl rfl ?_
       obtain ⟨y883, e884, h864⟩ := bind_some h864
       refine RL.idxS (sz := 1) 0 Try.underlying27 Try_ln3 rfl rfl rfl rfl rfl (SlOf.row (idx_some e882).2.2) (idx_some e884).1 (idx_some e884).2.1 ?_
       refine RL.ldSx (i := (y871).toNat) (e' := y883) 0 Ex.ik Try_ln3 rfl rfl rfl rfl (SlOf.row (idx_some e882).2.2) (idx_some e884).2.2 Part.self ?_
       refine RL.binI (v := .int .i64 (wadd y883 (1 : Int))) rfl rfl rfl rfl rfl ?_
       obtain ⟨y885, e886, h864⟩ := bind_some h864
       refine RL.idxS (sz := 1) 0 Try.underlying27 Try_ln3 rfl rfl rfl rfl rfl (SlOf.row (idx_some e882).2.2) (idx_some e886).1 (idx_some e886).2.1 ?_
       refine RL.stR (i := (y809).toNat) (j := (y871).toNat) (row := y881) (e' := wadd y883 (1 : Int)) (e1 := wadd y883 (1 : Int)) (r := TR.int) 0 Try_ln3 rfl rfl rfl rfl VR.int rfl (idx_some e882).2.2 (idx_some e886).2.2 Upd.self ?_
       refine RL.finG ?_
       refine GL.nilB ?_
       refine GL.region ?_
       refine RL.binI (v := .int .i64 ((i861 + 1 : Nat) : Int)) rfl rfl rfl rfl (binI_succ i861 (by omega)) ?_
       refine RL.mv rfl rfl rfl ?_
       refine RL.fin ?_
       cases h864
       exact fun a w st => lop_intro (i861 + 1, r873, (List.set l835 ((y809).toNat) (List.set y881 ((y871).toNat) (wadd y883 (1 : Int)))), V836) ⟨by show i861 + 1 + r873.length = (((List.take ((y623).length) y623).drop ((wadd (i799 : Int) (1 : Int)).toNat))).length; simp only [List.length_cons] at h867; omega, h874, h865⟩ (by simp) (St.cut [0, 1, 2, 3] ⟨rfl, rfl, rfl, rfl, rfl, rfl, rfl, rfl, rfl, rfl, rfl, rfl, trivial⟩ (by decide) rfl st)
      have h870 : ¬ i861 < (((List.take ((y623).length) y623).drop ((wadd (i799 : Int) (1 : Int)).toNat))).length := by have := of_decide_eq_false b869; omega
      obtain rfl : r862 = [] := by rw [← h868]; exact List.drop_of_length_le (by omega)
      replace h866 : some (Fl.nx _) = some y854 := h866
      cases h866
      exact GL.exit (fun a w st => mid_intro (l835, V836) h857 (St.cut [0, 1, 2] ⟨rfl, rfl, rfl, rfl, rfl, rfl, rfl, rfl, trivial⟩ (by decide) rfl st))
     rintro ⟨l835, V836⟩ h887
     have h888 := h858 _ h887
     try dsimp only at h888
     refine GL.weak (env' := [(7, v13), (10, v628), (34, v1), (35, .int .i64 ((x1).length : Int)), (36, .int .i64 (i613 : Int)), (40, v628), (41, .int .i64 ((y623).length : Int)), (42, .int .i64 (i799 : Int))]) (L' := [own2 27 3 TR.int v13 V836 l835, imm (TR.sl TR.int) v628 y623, imm (TR.sl (TR.sl TR.int)) v1 x1]) (fun _ _ st => st) ?_
     refine GL.nilB ?_
     refine GL.region ?_
     refine RL.binI (v := .int .i64 ((i799 + 1 : Nat) : Int)) rfl rfl rfl rfl (binI_succ i799 (by omega)) ?_
     refine RL.mv rfl rfl rfl ?_
     refine RL.fin ?_
     cases h888
     exact fun a w st => lop_intro (i799 + 1, r811, l835, V836) ⟨by show i799 + 1 + r811.length = (y623).length; simp only [List.length_cons] at h805; omega, h812, h803⟩ (by simp) (St.cut [0, 1, 2] ⟨rfl, rfl, rfl, rfl, rfl, rfl, rfl, rfl, trivial⟩ (by decide) rfl st)
    have h808 : ¬ i799 < (y623).length := by have := of_decide_eq_false b807; omega
    obtain rfl : r800 = [] := by rw [← h806]; exact List.drop_of_length_le (by omega)
    replace h804 : some (Fl.nx _) = some y792 := h804
    cases h804
    exact GL.exit (fun a w st => mid_intro (l709, V710) h795 (St.cut [0, 2] ⟨rfl, rfl, rfl, rfl, trivial⟩ (by decide) rfl st))
   rintro ⟨l709, V710⟩ h889
   have h890 := h796 _ h889
   try dsimp only at h890
   refine GL.weak (env' := [(7, v13), (34, v1), (35, .int .i64 ((x1).length : Int)), (36, .int .i64 (i613 : Int))]) (L' := [own2 27 3 TR.int v13 V710 l709, imm (TR.sl (TR.sl TR.int)) v1 x1]) (fun _ _ st => st) ?_
   refine GL.nilB ?_
   refine GL.region ?_
   refine RL.binI (v := .int .i64 ((i613 + 1 : Nat) : Int)) rfl rfl rfl rfl (binI_succ i613 (by omega)) ?_
   refine RL.mv rfl rfl rfl ?_
   refine RL.fin ?_
   cases h890
   exact fun a w st => lop_intro (i613 + 1, r625, l709, V710) ⟨by show i613 + 1 + r625.length = (x1).length; simp only [List.length_cons] at h619; omega, h626, h617⟩ (by simp) (St.cut [0, 1] ⟨rfl, rfl, rfl, rfl, trivial⟩ (by decide) rfl st)
  have h622 : ¬ i613 < (x1).length := by have := of_decide_eq_false b621; omega
  obtain rfl : r614 = [] := by rw [← h620]; exact List.drop_of_length_le (by omega)
  replace h618 : some (Fl.nx _) = some y606 := h618
  cases h618
  exact GL.exit (fun a w st => mid_intro (l335, V336) h609 (St.cut [0] ⟨rfl, trivial⟩ (by decide) rfl st))
 rintro ⟨l335, V336⟩ h891
 have h892 := h610 _ h891
 try dsimp only at h892
 refine GL.weak (env' := [(7, v13)]) (L' := [own2 27 3 TR.int v13 V336 l335]) (fun _ _ st => st) ?_
 refine GL.seq ?_
 refine GL.region ?_
 refine RL.mv rfl rfl rfl ?_
 refine RL.asg rfl rfl rfl ?_
 refine RL.asg rfl rfl rfl ?_
 refine RL.finG ?_
 refine GL.weak (fun a w st => st.freeze2 0 rfl) ?_
 have h892 := Option.some.inj h892
 subst h892
 exact GL.ret (Gx.ret (v := .tuple #[v13, .int .i64 (0 : Int)]) (res2 rfl rfl rfl) (fun a w st => (st.pick [0] (by decide) rfl).toPost v13))

set_option maxHeartbeats 4000000 in
theorem slices_IndexFunc_api_Errno_api_Errno_c (S : Hp) (w : World) (hS : S.sub w) (v0 : Value) (x0 : (List Int)) (k0 : ((TR.sl TR.int)).vrep S v0 x0) (f1 : FuncId) (c1 : Array Value) (t1 : Fit Try.prog f1) (g1 : Int → Option Bool) (k1 : ∀ (U : Hp) (w' : World), Hp.le S U → U.sub w' → ∀ (a0 : Int) (rr : Bool), g1 a0 = some rr → Calls Try.prog f1 (#[.int .i64 a0] ++ c1) w' (PostV w' (.bool rr))) (res : Int) (hm : slices_IndexFunc_api_Errno_api_Errno_m x0 g1 = some res) : Calls Try.prog 47 #[v0, .func (.func f1) #[] c1] w (PostV w (.int .i64 res)) := by
 refine calls_enter 19 Try.func47 Try.ntmps47 rfl S false [(0, v0), (1, .func (.func f1) #[] c1)] [imm (TR.sl TR.int) v0 x0] rfl ⟨rfl, ⟨rfl, trivial⟩⟩ hS ⟨k0, trivial⟩ ?_
 unfold slices_IndexFunc_api_Errno_api_Errno_m at hm
 refine GL.seq ?_
 refine GL.region ?_
 refine RL.asg rfl rfl rfl ?_
 refine RL.finG ?_
 refine GL.seq ?_
 refine GL.seq ?_
 refine GL.region ?_
 refine RL.mv rfl rfl rfl ?_
 refine RL.lenS 0 Try.underlying64 rfl rfl rfl rfl SlOf.imm ?_
 refine RL.mv rfl rfl rfl ?_
 refine RL.finG ?_
 refine GL.open_ 0 rfl (fun S h => len_imm S h) (fun n12 => ?_)
 obtain ⟨y13, K14, h15, h16, h17, h18, h19⟩ := bindR_K hm
 refine GL.join (ι := Unit) (fun (p : Unit) => []) (fun (p : Unit) => []) (fun (p : Unit) => K14 (.nx ())) ?_ ?_
 ·refine GL.block ?_
  refine GL.loop (ι := Nat × (List Int)) (fun (p : Nat × (List Int)) => [(0, v0), (1, .func (.func f1) #[] c1), (7, .int .i64 ((x0).length : Int)), (8, .int .i64 (p.1 : Int))]) (fun (p : Nat × (List Int)) => [imm (TR.sl TR.int) v0 x0]) (fun (p : Nat × (List Int)) => p.1 + p.2.length = (x0).length ∧ List.drop p.1 x0 = p.2 ∧ rangeL (slices_IndexFunc_api_Errno_api_Errno_b1 g1) p.2 p.1 () = some y13) (fun (p : Nat × (List Int)) => p.2.length) (0, x0) ⟨by simp, by simp, h15⟩ (fun a w st => St.cut [0] ⟨rfl, rfl, rfl, rfl, trivial⟩ (by decide) rfl st) ?_
  rintro ⟨i20, r21⟩ ⟨h26, h27, h25⟩
  try dsimp only at h26 h27 h25
  refine GL.weak (env' := [(0, v0), (1, .func (.func f1) #[] c1), (7, .int .i64 ((x0).length : Int)), (8, .int .i64 (i20 : Int))]) (L' := [imm (TR.sl TR.int) v0 x0]) (fun _ _ st => st) ?_
  refine GL.seq ?_
  refine GL.region ?_
  refine RL.binI (v := .bool (decide ((i20 : Int) < ((x0).length : Int)))) rfl rfl rfl rfl rfl ?_
  refine RL.finG ?_
  refine GL.seq ?_
  refine GL.cond rfl (fun b28 => ?_) (fun b28 => ?_)
  ·have h29 : i20 < (x0).length := by have := of_decide_eq_true b28; omega
   obtain ⟨y30, r32, hr, e31, h33⟩ := drop_cons h27 rfl h29
   subst hr
   obtain ⟨z22, h23, h24⟩ := rangeL_some h25
   unfold slices_IndexFunc_api_Errno_api_Errno_b1 at h23
   try dsimp only at h23
   refine GL.skip ?_
   refine GL.seq ?_
   refine GL.block ?_
   refine GL.seq ?_
   refine GL.region ?_
   refine RL.mv rfl rfl rfl ?_
   refine RL.asg rfl rfl rfl ?_
   refine RL.finG ?_
   refine GL.seq ?_
   refine GL.region ?_
   refine RL.mv rfl rfl rfl ?_
   refine RL.mv rfl rfl rfl ?_
   refine RL.mv rfl rfl rfl ?_
   refine RL.idxS (sz := 1) 0 Try.underlying64 Try_ln28 rfl rfl rfl rfl rfl SlOf.imm (by omega) (by omega) ?_
   refine RL.ldSx (i := i20) (e' := y30) 0 Ex.ik Try_ln28 rfl rfl rfl rfl SlOf.imm e31 Part.self ?_
   obtain ⟨y36, e37, h23⟩ := bind_some h23
   refine RL.callV (v := .bool y36) (vs := [.int .i64 y30]) t1 rfl (Or.inl rfl) rfl rfl rfl rfl (fun U w hU hW hL => k1 U w hW hU y30 _ e37) ?_
   refine RL.finG ?_
   refine GL.cond rfl (fun b38 => ?_) (fun b38 => ?_)
   ·replace h23 := ite_t b38 h23
    refine GL.seq ?_
    refine GL.region ?_
    refine RL.mv rfl rfl rfl ?_
    refine RL.asg rfl rfl rfl ?_
    refine RL.finG ?_
    cases h23
    replace h24 : some (Fl.rt _) = some y13 := h24
    cases h24
    have hh := h18 _ h16
    subst hh
    exact GL.ret (Gx.ret (v := .int .i64 (i20 : Int)) (res1 rfl rfl) (fun a w st => st.toPostV))
   replace h23 := ite_f b38 h23
   refine GL.skip ?_
   refine GL.nilB ?_
   refine GL.region ?_
   refine RL.binI (v := .int .i64 ((i20 + 1 : Nat) : Int)) rfl rfl rfl rfl (binI_succ i20 (by omega)) ?_
   refine RL.mv rfl rfl rfl ?_
   refine RL.fin ?_
   cases h23
   exact fun a w st => lop_intro (i20 + 1, r32) ⟨by show i20 + 1 + r32.length = (x0).length; simp only [List.length_cons] at h26; omega, h33, h24⟩ (by simp) (St.cut [0] ⟨rfl, rfl, rfl, rfl, trivial⟩ (by decide) rfl st)
  have h29 : ¬ i20 < (x0).length := by have := of_decide_eq_false b28; omega
  obtain rfl : r21 = [] := by rw [← h27]; exact List.drop_of_length_le (by omega)
  replace h25 : some (Fl.nx _) = some y13 := h25
  cases h25
  exact GL.exit (fun a w st => mid_intro () h16 (St.cut [] trivial (by decide) rfl st))
 rintro ⟨⟩ h39
 have h40 := h17 _ h39
 try dsimp only at h40
 refine GL.weak (env' := []) (L' := []) (fun _ _ st => st) ?_
 refine GL.seq ?_
 refine GL.region ?_
 refine RL.asg rfl rfl rfl ?_
 refine RL.finG ?_
 have h40 := Option.some.inj h40
 subst h40
 exact GL.ret (Gx.ret (v := .int .i64 (-1 : Int)) (res1 rfl rfl) (fun a w st => st.toPostV))

set_option maxHeartbeats 4000000 in
theorem slices_ContainsFunc_api_Errno_api_Errno_c (S : Hp) (w : World) (hS : S.sub w) (v0 : Value) (x0 : (List Int)) (k0 : ((TR.sl TR.int)).vrep S v0 x0) (f1 : FuncId) (c1 : Array Value) (t1 : Fit Try.prog f1) (g1 : Int → Option Bool) (k1 : ∀ (U : Hp) (w' : World), Hp.le S U → U.sub w' → ∀ (a0 : Int) (rr : Bool), g1 a0 = some rr → Calls Try.prog f1 (#[.int .i64 a0] ++ c1) w' (PostV w' (.bool rr))) (res : Bool) (hm : slices_ContainsFunc_api_Errno_api_Errno_m x0 g1 = some res) : Calls Try.prog 34 #[v0, .func (.func f1) #[] c1] w (PostV w (.bool res)) := by
 refine calls_enter 9 Try.func34 Try.ntmps34 rfl S false [(0, v0), (1, .func (.func f1) #[] c1)] [imm (TR.sl TR.int) v0 x0] rfl ⟨rfl, ⟨rfl, trivial⟩⟩ hS ⟨k0, trivial⟩ ?_
 unfold slices_ContainsFunc_api_Errno_api_Errno_m at hm
 refine GL.seq ?_
 refine GL.region ?_
 refine RL.asg rfl rfl rfl ?_
 refine RL.finG ?_
 refine GL.seq ?_
 refine GL.region ?_
 refine RL.mv rfl rfl rfl ?_
 refine RL.mv rfl rfl rfl ?_
 obtain ⟨y5, e6, hm⟩ := bind_some hm
 refine RL.callV (v := .int .i64 y5) (vs := [v0, .func (.func f1) #[] c1]) Try_fit47 rfl (Or.inl rfl) rfl rfl rfl rfl (fun U w hU hW hL => slices_IndexFunc_api_Errno_api_Errno_c U w hU _ _ (hL 0 _ _ rfl Seen.imm) f1 c1 t1 g1 (fun U' w' hle => k1 U' w' (Hp.le_trans hW hle)) _ e6) ?_
 refine RL.binI (v := .bool (decide (y5 ≥ (0 : Int)))) rfl rfl rfl rfl rfl ?_
 refine RL.asg rfl rfl rfl ?_
 refine RL.finG ?_
 have hm := Option.some.inj hm
 subst hm
 exact GL.ret (Gx.ret (v := .bool (decide (y5 ≥ (0 : Int)))) (res1 rfl rfl) (fun a w st => st.toPostV))

set_option maxHeartbeats 4000000 in
theorem pk_good_1_c (S : Hp) (w : World) (hS : S.sub w) (x0 : Int) (res : Bool) (hm : pk_good_1_m x0 = some res) : Calls Try.prog 35 #[.int .i64 x0] w (PostC w (.bool res)) := by
 refine calls_enter 5 Try.func35 Try.ntmps35 rfl S true [(0, .int .i64 x0)] [] rfl ⟨rfl, trivial⟩ hS trivial ?_
 unfold pk_good_1_m at hm
 refine GL.seq ?_
 refine GL.region ?_
 refine RL.asg rfl rfl rfl ?_
 refine RL.finG ?_
 refine GL.seq ?_
 refine GL.region ?_
 refine RL.mv rfl rfl rfl ?_
 refine RL.binI (v := .bool (x0 != (0 : Int))) rfl rfl rfl rfl rfl ?_
 refine RL.asg rfl rfl rfl ?_
 refine RL.finG ?_
 have hm := Option.some.inj hm
 subst hm
 exact GL.ret (Gx.ret (v := .bool (x0 != (0 : Int))) (res1 rfl rfl) (fun a w st => st.toPostC rfl))

set_option maxHeartbeats 4000000 in
theorem pk_good_c (S : Hp) (w : World) (hS : S.sub w) (v0 : Value) (x0 : (List Int)) (k0 : ((TR.sl TR.int)).vrep S v0 x0) (res : Bool) (hm : pk_good_m x0 = some res) : Calls Try.prog 13 #[v0] w (PostV w (.bool res)) := by
 refine calls_enter 6 Try.func13 Try.ntmps13 rfl S false [(0, v0)] [imm (TR.sl TR.int) v0 x0] rfl ⟨rfl, trivial⟩ hS ⟨k0, trivial⟩ ?_
 unfold pk_good_m at hm
 refine GL.seq ?_
 refine GL.region ?_
 refine RL.asg rfl rfl rfl ?_
 refine RL.finG ?_
 refine GL.seq ?_
 refine GL.region ?_
 refine RL.mv rfl rfl rfl ?_
 obtain ⟨y4, e5, hm⟩ := bind_some hm
 refine RL.callV (v := .bool y4) (vs := [v0, .func (.func 35) #[] #[]]) Try_fit34 rfl (Or.inl rfl) rfl rfl rfl rfl (fun U w hU hW hL => slices_ContainsFunc_api_Errno_api_Errno_c U w hU _ _ (hL 0 _ _ rfl Seen.imm) 35 #[] Try_fit35 (fun a0 => pk_good_1_m a0) (fun U' w' hle hU' a0 rr hr => (pk_good_1_c U' w' hU' a0 rr hr).mono (fun _ _ z => z.toV)) _ e5) ?_
 refine RL.notB rfl rfl rfl ?_
 refine RL.asg rfl rfl rfl ?_
 refine RL.finG ?_
 have hm := Option.some.inj hm
 subst hm
 exact GL.ret (Gx.ret (v := .bool (!y4)) (res1 rfl rfl) (fun a w st => st.toPostV))

set_option maxHeartbeats 4000000 in
theorem pk_DuelMcGarvey_c (S : Hp) (w : World) (hS : S.sub w) (x0 : Int) (v1 : Value) (x1 : (List (List Int))) (k1 : ((TR.sl (TR.sl TR.int))).vrep S v1 x1) (res : Bool) (hm : pk_DuelMcGarvey_m x0 x1 = some res) : Calls Try.prog 5 #[.int .i64 x0, v1] w (PostV w (.bool res)) := by
 refine calls_enter 196 Try.func5 Try.ntmps5 rfl S false [(0, .int .i64 x0), (1, v1)] [imm (TR.sl (TR.sl TR.int)) v1 x1] rfl ⟨rfl, ⟨rfl, trivial⟩⟩ hS ⟨k1, trivial⟩ ?_
 unfold pk_DuelMcGarvey_m at hm
 refine GL.seq ?_
 refine GL.region ?_
 refine RL.asg rfl rfl rfl ?_
 refine RL.finG ?_
 refine GL.seq ?_
 refine GL.seq ?_
 refine GL.region ?_
 refine RL.bS (t := TR.int) (vs := [.int .i64 (2 : Int), .int .i64 (0 : Int)]) ([(2 : Int), (0 : Int)] : (List Int)) Try.underlying27 Try_lo3 rfl rfl rfl rfl ⟨VR.int, ⟨VR.int, trivial⟩⟩ rfl (by decide) ?_
 intro v8
 refine RL.weak (fun a w st => st.freeze 1 rfl) ?_
 refine RL.bS (t := (TR.sl TR.int)) (vs := [v8]) ([([(2 : Int), (0 : Int)] : (List Int))] : (List (List Int))) Try.underlying37 Try_lo27 rfl rfl rfl rfl ⟨(VR.item 1 rfl), trivial⟩ rfl (by decide) ?_
 intro v9
 refine RL.reL (L' := [imm (TR.sl (TR.sl TR.int)) v1 x1, imm (TR.sl TR.int) v8 ([(2 : Int), (0 : Int)] : (List Int)), own 27 (TR.sl TR.int) v9 ([([(2 : Int), (0 : Int)] : (List Int))] : (List (List Int)))]) rfl ?_
 refine RL.weak (fun a w st => st.freeze 2 rfl) ?_
 obtain ⟨y10, e11, hm⟩ := bind_some hm
 refine RL.call (vs := [.int .i64 (3 : Int), v9]) Try_fit19 rfl rfl rfl rfl rfl (fun S f w hS hW hi => duel_Votes_c S w hS (3 : Int) _ _ (hi 2 _ rfl) _ e11) ?_
 intro v12
 refine RL.reL (L' := [imm (TR.sl (TR.sl TR.int)) v1 x1, imm (TR.sl TR.int) v8 ([(2 : Int), (0 : Int)] : (List Int)), imm (TR.sl (TR.sl TR.int)) v9 ([([(2 : Int), (0 : Int)] : (List Int))] : (List (List Int))), own 27 (TR.sl TR.int) v12 y10.1]) rfl ?_
 refine RL.mv rfl rfl rfl ?_
 refine RL.ext rfl rfl rfl rfl ?_
 refine RL.ext rfl rfl rfl rfl ?_
 refine RL.asg rfl rfl rfl ?_
 refine RL.asg rfl rfl rfl ?_
 refine RL.finG ?_
 refine GL.seq ?_
 obtain ⟨y44, K45, h46, h47, h48, h49, h50⟩ := bindR_K hm
 refine GL.join (ι := Bool) (fun (p : Bool) => [(0, .int .i64 x0), (1, v1), (48, .bool p)]) (fun (p : Bool) => [imm (TR.sl (TR.sl TR.int)) v1 x1]) (fun (p : Bool) => K45 (.nx p)) ?_ ?_
 ·skip
  refine GL.region ?_
  refine RL.mv rfl rfl rfl ?_
  refine RL.binI (v := .bool (y10.2 != (0 : Int))) rfl rfl rfl rfl rfl ?_
  refine RL.mv rfl rfl rfl ?_
  refine RL.split (t := 28) rfl (fun b51 => ?_) (fun b51 => ?_)
  ·replace h46 := ite_t b51 h46
   refine RL.skip rfl rfl ?_
   refine RL.skip rfl rfl ?_
   refine RL.skip rfl rfl ?_
   refine RL.pickT rfl rfl rfl rfl ?_
   refine RL.mv rfl rfl rfl ?_
   refine RL.skip rfl rfl ?_
   refine RL.skip rfl rfl ?_
   refine RL.skip rfl rfl ?_
   refine RL.skip rfl rfl ?_
   refine RL.skip rfl rfl ?_
   refine RL.skip rfl rfl ?_
   refine RL.pickT rfl rfl rfl rfl ?_
   refine RL.mv rfl rfl rfl ?_
   refine RL.skip rfl rfl ?_
   refine RL.skip rfl rfl ?_
   refine RL.skip rfl rfl ?_
   refine RL.skip rfl rfl ?_
   refine RL.skip rfl rfl ?_
   refine RL.skip rfl rfl ?_
   refine RL.pickT rfl rfl rfl rfl ?_
   refine RL.fin ?_
   cases h46
   exact fun a w st => mid_intro true h47 (St.cut [0] ⟨rfl, rfl, rfl, trivial⟩ (by decide) rfl st)
  replace h46 := ite_f b51 h46
  refine RL.mv rfl rfl rfl ?_
  refine RL.lenS 3 Try.underlying37 rfl rfl rfl rfl SlOf.own ?_
  refine RL.binI (v := .bool (((y10.1).length : Int) != (2 : Int))) rfl rfl rfl rfl rfl ?_
  refine RL.pickF rfl rfl rfl rfl ?_
  refine RL.mv rfl rfl rfl ?_
  refine RL.split (t := 33) rfl (fun b52 => ?_) (fun b52 => ?_)
  ·replace h46 := ite_t b52 h46
   refine RL.skip rfl rfl ?_
   refine RL.skip rfl rfl ?_
   refine RL.skip rfl rfl ?_
   refine RL.skip rfl rfl ?_
   refine RL.skip rfl rfl ?_
   refine RL.skip rfl rfl ?_
   refine RL.pickT rfl rfl rfl rfl ?_
   refine RL.mv rfl rfl rfl ?_
   refine RL.skip rfl rfl ?_
   refine RL.skip rfl rfl ?_
   refine RL.skip rfl rfl ?_
   refine RL.skip rfl rfl ?_
   refine RL.skip rfl rfl ?_
   refine RL.skip rfl rfl ?_
   refine RL.pickT rfl rfl rfl rfl ?_
   refine RL.fin ?_
   cases h46
   exact fun a w st => mid_intro true h47 (St.cut [0] ⟨rfl, rfl, rfl, trivial⟩ (by decide) rfl st)
  replace h46 := ite_f b52 h46
  refine RL.mv rfl rfl rfl ?_
  obtain ⟨y53, e54, h46⟩ := bind_some h46
  refine RL.idxS (sz := 1) 3 Try.underlying37 Try_ln27 rfl rfl rfl rfl rfl SlOf.own (idx_some e54).1 (idx_some e54).2.1 ?_
  refine RL.ldS (i := ((0 : Int)).toNat) (r := (TR.sl TR.int)) (e' := y53) 3 Try_ln27 rfl rfl rfl rfl SlOf.own (idx_some e54).2.2 Part.self ?_
  intro v55
  refine RL.bS (t := TR.int) (vs := [.int .i64 (2 : Int), .int .i64 (0 : Int), .int .i64 (1 : Int)]) ([(2 : Int), (0 : Int), (1 : Int)] : (List Int)) Try.underlying27 Try_lo3 rfl rfl rfl rfl ⟨VR.int, ⟨VR.int, ⟨VR.int, trivial⟩⟩⟩ rfl (by decide) ?_
  intro v56
  refine RL.reL (L' := [imm (TR.sl (TR.sl TR.int)) v1 x1, imm (TR.sl TR.int) v8 ([(2 : Int), (0 : Int)] : (List Int)), imm (TR.sl (TR.sl TR.int)) v9 ([([(2 : Int), (0 : Int)] : (List Int))] : (List (List Int))), own 27 (TR.sl TR.int) v12 y10.1, imm (TR.sl TR.int) v55 y53, own 3 TR.int v56 ([(2 : Int), (0 : Int), (1 : Int)] : (List Int))]) rfl ?_
  obtain ⟨y57, e58, h46⟩ := bind_some h46
  refine RL.callV (v := .bool y57) (vs := [v55, v56]) Try_fit17 rfl (Or.inl rfl) rfl rfl rfl rfl (fun U w hU hW hL => slices_Equal_int_int_c U w hU _ _ (hL 4 _ _ rfl Seen.imm) _ _ (hL 5 _ _ rfl Seen.own) _ e58) ?_
  refine RL.notB rfl rfl rfl ?_
  refine RL.pickF rfl rfl rfl rfl ?_
  refine RL.mv rfl rfl rfl ?_
  refine RL.split (t := 41) rfl (fun b59 => ?_) (fun b59 => ?_)
  ·replace h46 := ite_t b59 h46
   refine RL.skip rfl rfl ?_
   refine RL.skip rfl rfl ?_
   refine RL.skip rfl rfl ?_
   refine RL.skip rfl rfl ?_
   refine RL.skip rfl rfl ?_
   refine RL.skip rfl rfl ?_
   refine RL.pickT rfl rfl rfl rfl ?_
   refine RL.fin ?_
   cases h46
   exact fun a w st => mid_intro true h47 (St.cut [0] ⟨rfl, rfl, rfl, trivial⟩ (by decide) rfl st)
  replace h46 := ite_f b59 h46
  refine RL.mv rfl rfl rfl ?_
  obtain ⟨y60, e61, h46⟩ := bind_some h46
  refine RL.idxS (sz := 1) 3 Try.underlying37 Try_ln27 rfl rfl rfl rfl rfl SlOf.own (idx_some e61).1 (idx_some e61).2.1 ?_
  refine RL.ldS (i := ((1 : Int)).toNat) (r := (TR.sl TR.int)) (e' := y60) 3 Try_ln27 rfl rfl rfl rfl SlOf.own (idx_some e61).2.2 Part.self ?_
  intro v62
  refine RL.bS (t := TR.int) (vs := [.int .i64 (1 : Int), .int .i64 (2 : Int), .int .i64 (0 : Int)]) ([(1 : Int), (2 : Int), (0 : Int)] : (List Int)) Try.underlying27 Try_lo3 rfl rfl rfl rfl ⟨VR.int, ⟨VR.int, ⟨VR.int, trivial⟩⟩⟩ rfl (by decide) ?_
  intro v63
  refine RL.reL (L' := [imm (TR.sl (TR.sl TR.int)) v1 x1, imm (TR.sl TR.int) v8 ([(2 : Int), (0 : Int)] : (List Int)), imm (TR.sl (TR.sl TR.int)) v9 ([([(2 : Int), (0 : Int)] : (List Int))] : (List (List Int))), own 27 (TR.sl TR.int) v12 y10.1, imm (TR.sl TR.int) v55 y53, own 3 TR.int v56 ([(2 : Int), (0 : Int), (1 : Int)] : (List Int)), imm (TR.sl TR.int) v62 y60, own 3 TR.int v63 ([(1 : Int), (2 : Int), (0 : Int)] : (List Int))]) rfl ?_
  obtain ⟨y64, e65, h46⟩ := bind_some h46
  refine RL.callV (v := .bool y64) (vs := [v62, v63]) Try_fit17 rfl (Or.inl rfl) rfl rfl rfl rfl (fun U w hU hW hL => slices_Equal_int_int_c U w hU _ _ (hL 6 _ _ rfl Seen.imm) _ _ (hL 7 _ _ rfl Seen.own) _ e65) ?_
  refine RL.notB rfl rfl rfl ?_
  refine RL.pickF rfl rfl rfl rfl ?_
  refine RL.fin ?_
  cases h46
  exact fun a w st => mid_intro (!y64) h47 (St.cut [0] ⟨rfl, rfl, rfl, trivial⟩ (by decide) rfl st)
 rintro x43 h66
 have h67 := h48 _ h66
 try dsimp only at h67
 refine GL.weak (env' := [(0, .int .i64 x0), (1, v1), (48, .bool x43)]) (L' := [imm (TR.sl (TR.sl TR.int)) v1 x1]) (fun _ _ st => st) ?_
 refine GL.cond rfl (fun b68 => ?_) (fun b68 => ?_)
 ·replace h67 := ite_t b68 h67
  refine GL.seq ?_
  refine GL.region ?_
  refine RL.asg rfl rfl rfl ?_
  refine RL.finG ?_
  have h67 := Option.some.inj h67
  subst h67
  exact GL.ret (Gx.ret (v := .bool false) (res1 rfl rfl) (fun a w st => st.toPostV))
 replace h67 := ite_f b68 h67
 refine GL.skip ?_
 refine GL.seq ?_
 refine GL.region ?_
 refine RL.mv rfl rfl rfl ?_
 obtain ⟨y71, e72, h67⟩ := bind_some h67
 refine RL.callC (v := .int .i64 y71) (vs := [.int .i64 x0, .int .i64 (5 : Int)]) Try_fit10 rfl rfl rfl rfl (fun U w hU hW hL => pk_Within_c U w hU x0 (5 : Int) _ e72) ?_
 refine RL.binI (v := .int .i64 (wadd (2 : Int) y71)) rfl rfl rfl rfl rfl ?_
 refine RL.asg rfl rfl rfl ?_
 refine RL.finG ?_
 refine GL.seq ?_
 refine GL.region ?_
 refine RL.alloc (t := TR.raw) (z := .slice none 0 0) Try_lo37 (fun S => ⟨rfl, rfl⟩) rfl rfl rfl ?_
 intro v74
 refine RL.finG ?_
 refine GL.seq ?_
 refine GL.region ?_
 refine RL.mkF (vs := [v74]) rfl rfl rfl ?_
 refine RL.asg rfl rfl rfl ?_
 refine RL.finG ?_
 refine GL.seq ?_
 refine GL.seq ?_
 refine GL.region ?_
 refine RL.mv rfl rfl rfl ?_
 refine RL.lenS 0 Try.underlying37 rfl rfl rfl rfl SlOf.imm ?_
 refine RL.mv rfl rfl rfl ?_
 refine RL.finG ?_
 refine GL.weak (fun a w st => st.nilOwn 27 (TR.sl TR.int)) ?_
 refine GL.open_ 0 rfl (fun S h => len_imm S h) (fun n201 => ?_)
 obtain ⟨y202, K203, h204, h205, h206, h207, h208⟩ := bindR_K h67
 refine GL.join (ι := (List (List Int)) × Value) (fun (p : (List (List Int)) × Value) => [(0, .int .i64 (wadd (2 : Int) y71)), (7, v74), (8, .func (.func 20) #[] #[v74])]) (fun (p : (List (List Int)) × Value) => [obox 37 TR.raw v74 p.2, own 27 (TR.sl TR.int) p.2 p.1]) (fun (p : (List (List Int)) × Value) => K203 (.nx p.1)) ?_ ?_
 ·refine GL.block ?_
  refine GL.loop (ι := Nat × (List (List Int)) × (List (List Int)) × Value) (fun (p : Nat × (List (List Int)) × (List (List Int)) × Value) => [(0, .int .i64 (wadd (2 : Int) y71)), (7, v74), (8, .func (.func 20) #[] #[v74]), (53, v1), (54, .int .i64 ((x1).length : Int)), (55, .int .i64 (p.1 : Int))]) (fun (p : Nat × (List (List Int)) × (List (List Int)) × Value) => [own 27 (TR.sl TR.int) p.2.2.2 p.2.2.1, obox 37 TR.raw v74 p.2.2.2, imm (TR.sl (TR.sl TR.int)) v1 x1]) (fun (p : Nat × (List (List Int)) × (List (List Int)) × Value) => p.1 + p.2.1.length = (x1).length ∧ List.drop p.1 x1 = p.2.1 ∧ rangeL (pk_DuelMcGarvey_b1 y71) p.2.1 p.1 p.2.2.1 = some y202) (fun (p : Nat × (List (List Int)) × (List (List Int)) × Value) => p.2.1.length) (0, x1, [], Value.slice none 0 0) ⟨by simp, by simp, h204⟩ (fun a w st => St.cut [2, 1, 0] ⟨rfl, rfl, rfl, rfl, rfl, rfl, trivial⟩ (by decide) rfl st) ?_
  rintro ⟨i209, r210, l137, v138⟩ ⟨h215, h216, h214⟩
  try dsimp only at h215 h216 h214
  refine GL.weak (env' := [(0, .int .i64 (wadd (2 : Int) y71)), (7, v74), (8, .func (.func 20) #[] #[v74]), (53, v1), (54, .int .i64 ((x1).length : Int)), (55, .int .i64 (i209 : Int))]) (L' := [own 27 (TR.sl TR.int) v138 l137, obox 37 TR.raw v74 v138, imm (TR.sl (TR.sl TR.int)) v1 x1]) (fun _ _ st => st) ?_
  refine GL.seq ?_
  refine GL.region ?_
  refine RL.binI (v := .bool (decide ((i209 : Int) < ((x1).length : Int)))) rfl rfl rfl rfl rfl ?_
  refine RL.finG ?_
  refine GL.seq ?_
  refine GL.cond rfl (fun b217 => ?_) (fun b217 => ?_)
  ·have h218 : i209 < (x1).length := by have := of_decide_eq_true b217; omega
   obtain ⟨y219, r221, hr, e220, h222⟩ := drop_cons h216 rfl h218
   subst hr
   obtain ⟨z211, h212, h213⟩ := rangeL_some h214
   unfold pk_DuelMcGarvey_b1 at h212
   try dsimp only at h212
   refine GL.skip ?_
   refine GL.seq ?_
   refine GL.block ?_
   refine GL.seq ?_
   refine GL.region ?_
   refine RL.idxS (sz := 1) 2 Try.underlying37 Try_ln27 rfl rfl rfl rfl rfl SlOf.imm (by omega) (by omega) ?_
   refine RL.ldS (i := i209) (r := (TR.sl TR.int)) (e' := y219) 2 Try_ln27 rfl rfl rfl rfl SlOf.imm e220 Part.self ?_
   intro v224
   refine RL.asg rfl rfl rfl ?_
   refine RL.finG ?_
   refine GL.seq ?_
   refine GL.seq ?_
   refine GL.region ?_
   refine RL.mv rfl rfl rfl ?_
   refine RL.lenS 3 Try.underlying27 rfl rfl rfl rfl SlOf.imm ?_
   refine RL.binI (v := .bool (decide (((y219).length : Int) < (2 : Int)))) rfl rfl rfl rfl rfl ?_
   refine RL.finG ?_
   refine GL.cond rfl (fun b225 => ?_) (fun b225 => ?_)
   ·replace h212 := ite_t b225 h212
    refine GL.exit ?_
    refine Gx.here ?_
    refine GL.region ?_
    refine RL.binI (v := .int .i64 ((i209 + 1 : Nat) : Int)) rfl rfl rfl rfl (binI_succ i209 (by omega)) ?_
    refine RL.mv rfl rfl rfl ?_
    refine RL.fin ?_
    cases h212
    exact fun a w st => lop_intro (i209 + 1, r221, l137, v138) ⟨by show i209 + 1 + r221.length = (x1).length; simp only [List.length_cons] at h215; omega, h222, h213⟩ (by simp) (St.cut [0, 1, 2] ⟨rfl, rfl, rfl, rfl, rfl, rfl, trivial⟩ (by decide) rfl st)
   replace h212 := ite_f b225 h212
   refine GL.skip ?_
   refine GL.seq ?_
   refine GL.regionQ rfl rfl (by kernel_rfl) ?_
   refine RL.mv rfl rfl rfl ?_
   obtain ⟨y234, e235, h212⟩ := bind_some h212
   refine RL.idxS (sz := 1) 3 Try.underlying27 Try_ln3 rfl rfl rfl rfl rfl SlOf.imm (idx_some e235).1 (idx_some e235).2.1 ?_
   refine RL.ldSx (i := ((0 : Int)).toNat) (e' := y234) 3 Ex.ik Try_ln3 rfl rfl rfl rfl SlOf.imm (idx_some e235).2.2 Part.self ?_
   refine RL.mv rfl rfl rfl ?_
   obtain ⟨y236, e237, h212⟩ := bind_some h212
   refine RL.callC (v := .int .i64 y236) (vs := [.int .i64 y234, .int .i64 (wadd (2 : Int) y71)]) Try_fit10 rfl rfl rfl rfl (fun U w hU hW hL => pk_Within_c U w hU y234 (wadd (2 : Int) y71) _ e237) ?_
   refine RL.mv rfl rfl rfl ?_
   obtain ⟨y238, e239, h212⟩ := bind_some h212
   refine RL.idxS (sz := 1) 3 Try.underlying27 Try_ln3 rfl rfl rfl rfl rfl SlOf.imm (idx_some e239).1 (idx_some e239).2.1 ?_
   refine RL.ldSx (i := ((1 : Int)).toNat) (e' := y238) 3 Ex.ik Try_ln3 rfl rfl rfl rfl SlOf.imm (idx_some e239).2.2 Part.self ?_
   refine RL.mv rfl rfl rfl ?_
   obtain ⟨y240, e241, h212⟩ := bind_some h212
   refine RL.callC (v := .int .i64 y240) (vs := [.int .i64 y238, .int .i64 (wadd (2 : Int) y71)]) Try_fit10 rfl rfl rfl rfl (fun U w hU hW hL => pk_Within_c U w hU y238 (wadd (2 : Int) y71) _ e241) ?_
   refine RL.asg rfl rfl rfl ?_
   refine RL.asg rfl rfl rfl ?_
   refine RL.finQG ?_
   refine GL.seq ?_
   obtain ⟨y255, K256, h257, h258, h259, h260, h261⟩ := bindF_K h212
   refine GL.join (ι := Bool) (fun (p : Bool) => [(0, .int .i64 (wadd (2 : Int) y71)), (7, v74), (8, .func (.func 20) #[] #[v74]), (11, .int .i64 y236), (12, .int .i64 y240), (53, v1), (54, .int .i64 ((x1).length : Int)), (55, .int .i64 (i209 : Int)), (88, .bool p)]) (fun (p : Bool) => [own 27 (TR.sl TR.int) v138 l137, obox 37 TR.raw v74 v138, imm (TR.sl (TR.sl TR.int)) v1 x1]) (fun (p : Bool) => K256 (.nx p)) ?_ ?_
   ·skip
    refine GL.region ?_
    refine RL.mv rfl rfl rfl ?_
    refine RL.mv rfl rfl rfl ?_
    refine RL.binI (v := .bool (y236 != y240)) rfl rfl rfl rfl rfl ?_
    refine RL.mv rfl rfl rfl ?_
    refine RL.split (t := 75) rfl (fun b262 => ?_) (fun b262 => ?_)
    ·replace h257 := ite_t b262 h257
     refine RL.mv rfl rfl rfl ?_
     refine RL.mv rfl rfl rfl ?_
     refine RL.mv rfl rfl rfl ?_
     obtain ⟨y263, e264, h257⟩ := bind_some h257
     refine RL.callV (v := .bool y263) (vs := [.int .i64 y236, .int .i64 y240]) Try_fit20 rfl (Or.inl rfl) rfl rfl rfl rfl (fun U w hU hW hL => pk_DuelMcGarvey_1_c U w hU y236 y240 _ _ (ptr_raw (hL 1 _ _ rfl Seen.obox) rfl (hL 0 _ _ rfl Seen.own)) _ e264) ?_
     refine RL.notB rfl rfl rfl ?_
     refine RL.pickT rfl rfl rfl rfl ?_
     refine RL.mv rfl rfl rfl ?_
     refine RL.split (t := 82) rfl (fun b265 => ?_) (fun b265 => ?_)
     ·replace h257 := ite_t b265 h257
      refine RL.mv rfl rfl rfl ?_
      refine RL.mv rfl rfl rfl ?_
      refine RL.mv rfl rfl rfl ?_
      obtain ⟨y266, e267, h257⟩ := bind_some h257
      refine RL.callV (v := .bool y266) (vs := [.int .i64 y240, .int .i64 y236]) Try_fit20 rfl (Or.inl rfl) rfl rfl rfl rfl (fun U w hU hW hL => pk_DuelMcGarvey_1_c U w hU y240 y236 _ _ (ptr_raw (hL 1 _ _ rfl Seen.obox) rfl (hL 0 _ _ rfl Seen.own)) _ e267) ?_
      refine RL.notB rfl rfl rfl ?_
      refine RL.pickT rfl rfl rfl rfl ?_
      refine RL.fin ?_
      cases h257
      exact fun a w st => mid_intro (!y266) h258 (St.cut [0, 1, 2] ⟨rfl, rfl, rfl, rfl, rfl, rfl, rfl, rfl, rfl, trivial⟩ (by decide) rfl st)
     replace h257 := ite_f b265 h257
     refine RL.skip rfl rfl ?_
     refine RL.skip rfl rfl ?_
     refine RL.skip rfl rfl ?_
     refine RL.skip rfl rfl ?_
     refine RL.skip rfl rfl ?_
     refine RL.pickF rfl rfl rfl rfl ?_
     refine RL.fin ?_
     cases h257
     exact fun a w st => mid_intro false h258 (St.cut [0, 1, 2] ⟨rfl, rfl, rfl, rfl, rfl, rfl, rfl, rfl, rfl, trivial⟩ (by decide) rfl st)
    replace h257 := ite_f b262 h257
    refine RL.skip rfl rfl ?_
    refine RL.skip rfl rfl ?_
    refine RL.skip rfl rfl ?_
    refine RL.skip rfl rfl ?_
    refine RL.skip rfl rfl ?_
    refine RL.pickF rfl rfl rfl rfl ?_
    refine RL.mv rfl rfl rfl ?_
    refine RL.skip rfl rfl ?_
    refine RL.skip rfl rfl ?_
    refine RL.skip rfl rfl ?_
    refine RL.skip rfl rfl ?_
    refine RL.skip rfl rfl ?_
    refine RL.pickF rfl rfl rfl rfl ?_
    refine RL.fin ?_
    cases h257
    exact fun a w st => mid_intro false h258 (St.cut [0, 1, 2] ⟨rfl, rfl, rfl, rfl, rfl, rfl, rfl, rfl, rfl, trivial⟩ (by decide) rfl st)
   rintro x254 h268
   have h269 := h259 _ h268
   try dsimp only at h269
   refine GL.weak (env' := [(0, .int .i64 (wadd (2 : Int) y71)), (7, v74), (8, .func (.func 20) #[] #[v74]), (11, .int .i64 y236), (12, .int .i64 y240), (53, v1), (54, .int .i64 ((x1).length : Int)), (55, .int .i64 (i209 : Int)), (88, .bool x254)]) (L' := [own 27 (TR.sl TR.int) v138 l137, obox 37 TR.raw v74 v138, imm (TR.sl (TR.sl TR.int)) v1 x1]) (fun _ _ st => st) ?_
   refine GL.cond rfl (fun b270 => ?_) (fun b270 => ?_)
   ·replace h269 := ite_t b270 h269
    refine GL.region ?_
    refine RL.ldPx (off := 0) (e' := v138) 1 Ex.raw Try_ln37 rfl rfl (Or.inr ⟨rfl, rfl⟩) rfl PtOf.obox Part.self ?_
    refine RL.mv rfl rfl rfl ?_
    refine RL.mv rfl rfl rfl ?_
    refine RL.bS (t := TR.int) (vs := [.int .i64 y236, .int .i64 y240]) ([y236, y240] : (List Int)) Try.underlying27 Try_lo3 rfl rfl rfl rfl ⟨VR.int, ⟨VR.int, trivial⟩⟩ rfl (by decide) ?_
    intro v276
    refine RL.weak (fun a w st => st.freeze 3 rfl) ?_
    refine RL.bS (t := (TR.sl TR.int)) (vs := [v276]) ([([y236, y240] : (List Int))] : (List (List Int))) Try.underlying37 Try_lo27 rfl rfl rfl rfl ⟨(VR.item 3 rfl), trivial⟩ rfl (by decide) ?_
    intro v277
    refine RL.reL (L' := [own 27 (TR.sl TR.int) v138 l137, obox 37 TR.raw v74 v138, imm (TR.sl (TR.sl TR.int)) v1 x1, imm (TR.sl TR.int) v276 ([y236, y240] : (List Int)), own 27 (TR.sl TR.int) v277 ([([y236, y240] : (List Int))] : (List (List Int)))]) rfl ?_
    obtain ⟨y278, e279, h269⟩ := bind_some h269
    replace e279 := chk_some e279
    refine RL.app 0 4 Try.underlying37 Try_lo27 rfl rfl rfl rfl rfl rfl rfl SlOf.own e279 ?_
    intro v280
    refine RL.stP (off := 0) (e' := v280) (d1 := v280) (r := TR.raw) 1 Try_ln37 rfl rfl (Or.inr ⟨rfl, rfl⟩) rfl (VR.rawOf 0 rfl SlOf.own) rfl Upd.self ?_
    refine RL.reL (L' := [own 27 (TR.sl TR.int) v280 (l137 ++ ([([y236, y240] : (List Int))] : (List (List Int)))), obox 37 TR.raw v74 v280, imm (TR.sl (TR.sl TR.int)) v1 x1, imm (TR.sl TR.int) v276 ([y236, y240] : (List Int)), own 27 (TR.sl TR.int) v277 ([([y236, y240] : (List Int))] : (List (List Int)))]) rfl ?_
    refine RL.finG ?_
    refine GL.nilB ?_
    refine GL.region ?_
    refine RL.binI (v := .int .i64 ((i209 + 1 : Nat) : Int)) rfl rfl rfl rfl (binI_succ i209 (by omega)) ?_
    refine RL.mv rfl rfl rfl ?_
    refine RL.fin ?_
    cases h269
    exact fun a w st => lop_intro (i209 + 1, r221, (l137 ++ ([([y236, y240] : (List Int))] : (List (List Int)))), v280) ⟨by show i209 + 1 + r221.length = (x1).length; simp only [List.length_cons] at h215; omega, h222, h213⟩ (by simp) (St.cut [0, 1, 2] ⟨rfl, rfl, rfl, rfl, rfl, rfl, trivial⟩ (by decide) rfl st)
   replace h269 := ite_f b270 h269
   refine GL.skip ?_
   refine GL.nilB ?_
   refine GL.region ?_
   refine RL.binI (v := .int .i64 ((i209 + 1 : Nat) : Int)) rfl rfl rfl rfl (binI_succ i209 (by omega)) ?_
   refine RL.mv rfl rfl rfl ?_
   refine RL.fin ?_
   cases h269
   exact fun a w st => lop_intro (i209 + 1, r221, l137, v138) ⟨by show i209 + 1 + r221.length = (x1).length; simp only [List.length_cons] at h215; omega, h222, h213⟩ (by simp) (St.cut [0, 1, 2] ⟨rfl, rfl, rfl, rfl, rfl, rfl, trivial⟩ (by decide) rfl st)
  have h218 : ¬ i209 < (x1).length := by have := of_decide_eq_false b217; omega
  obtain rfl : r210 = [] := by rw [← h216]; exact List.drop_of_length_le (by omega)
  replace h214 : some (Fl.nx _) = some y202 := h214
  cases h214
  exact GL.exit (fun a w st => mid_intro (l137, v138) h205 (St.cut [1, 0] ⟨rfl, rfl, rfl, trivial⟩ (by decide) rfl st))
 rintro ⟨l137, v138⟩ h281
 have h282 := h206 _ h281
 try dsimp only at h282
 refine GL.weak (env' := [(0, .int .i64 (wadd (2 : Int) y71)), (7, v74), (8, .func (.func 20) #[] #[v74])]) (L' := [obox 37 TR.raw v74 v138, own 27 (TR.sl TR.int) v138 l137]) (fun _ _ st => st) ?_
 refine GL.seq ?_
 refine GL.region ?_
 refine RL.mv rfl rfl rfl ?_
 refine RL.ldPx (off := 0) (e' := v138) 0 Ex.raw Try_ln37 rfl rfl (Or.inr ⟨rfl, rfl⟩) rfl PtOf.obox Part.self ?_
 refine RL.weak (fun a w st => st.freeze 1 rfl) ?_
 obtain ⟨y286, e287, h282⟩ := bind_some h282
 refine RL.call (vs := [.int .i64 (wadd (2 : Int) y71), v138]) Try_fit19 rfl rfl rfl rfl rfl (fun S f w hS hW hi => duel_Votes_c S w hS (wadd (2 : Int) y71) _ _ (hi 1 _ rfl) _ e287) ?_
 intro v288
 refine RL.reL (L' := [obox 37 TR.raw v74 v138, imm (TR.sl (TR.sl TR.int)) v138 l137, own 27 (TR.sl TR.int) v288 y286.1]) rfl ?_
 refine RL.mv rfl rfl rfl ?_
 refine RL.ext rfl rfl rfl rfl ?_
 refine RL.ext rfl rfl rfl rfl ?_
 refine RL.asg rfl rfl rfl ?_
 refine RL.asg rfl rfl rfl ?_
 refine RL.finG ?_
 refine GL.seq ?_
 refine GL.region ?_
 refine RL.mv rfl rfl rfl ?_
 refine RL.mv rfl rfl rfl ?_
 refine RL.weak (fun a w st => st.freeze 2 rfl) ?_
 obtain ⟨y292, e293, h282⟩ := bind_some h282
 refine RL.call (vs := [.int .i64 (wadd (2 : Int) y71), v288]) Try_fit23 rfl rfl rfl rfl rfl (fun S f w hS hW hi => tally_Duels_c S w hS (wadd (2 : Int) y71) _ _ (hi 2 _ rfl) _ e293) ?_
 intro v294
 refine RL.reL (L' := [obox 37 TR.raw v74 v138, imm (TR.sl (TR.sl TR.int)) v138 l137, imm (TR.sl (TR.sl TR.int)) v288 y286.1, imm (TR.sl (TR.sl TR.int)) v294 y292.1]) rfl ?_
 refine RL.mv rfl rfl rfl ?_
 refine RL.ext rfl rfl rfl rfl ?_
 refine RL.ext rfl rfl rfl rfl ?_
 refine RL.asg rfl rfl rfl ?_
 refine RL.asg rfl rfl rfl ?_
 refine RL.finG ?_
 refine GL.seq ?_
 refine GL.seq ?_
 obtain ⟨y304, K305, h306, h307, h308, h309, h310⟩ := bindR_K h282
 refine GL.join (ι := Bool) (fun (p : Bool) => [(0, .int .i64 (wadd (2 : Int) y71)), (8, .func (.func 20) #[] #[v74]), (15, v294), (118, .bool p)]) (fun (p : Bool) => [imm (TR.sl (TR.sl TR.int)) v138 l137, obox 37 TR.raw v74 v138, imm (TR.sl (TR.sl TR.int)) v294 y292.1]) (fun (p : Bool) => K305 (.nx p)) ?_ ?_
 ·skip
  refine GL.region ?_
  refine RL.mv rfl rfl rfl ?_
  refine RL.mv rfl rfl rfl ?_
  refine RL.bS (t := TR.int) (vs := [.int .i64 y286.2, .int .i64 y292.2]) ([y286.2, y292.2] : (List Int)) Try.underlying64 Try_lo28 rfl rfl rfl rfl ⟨VR.int, ⟨VR.int, trivial⟩⟩ rfl (by decide) ?_
  intro v311
  obtain ⟨y312, e313, h306⟩ := bind_some h306
  refine RL.callV (v := .bool y312) (vs := [v311]) Try_fit13 rfl (Or.inl rfl) rfl rfl rfl rfl (fun U w hU hW hL => pk_good_c U w hU _ _ (hL 4 _ _ rfl Seen.own) _ e313) ?_
  refine RL.notB rfl rfl rfl ?_
  refine RL.mv rfl rfl rfl ?_
  refine RL.split (t := 113) rfl (fun b314 => ?_) (fun b314 => ?_)
  ·replace h306 := ite_t b314 h306
   refine RL.skip rfl rfl ?_
   refine RL.skip rfl rfl ?_
   refine RL.skip rfl rfl ?_
   refine RL.skip rfl rfl ?_
   refine RL.pickT rfl rfl rfl rfl ?_
   refine RL.fin ?_
   cases h306
   exact fun a w st => mid_intro true h307 (St.cut [1, 0, 3] ⟨rfl, rfl, rfl, rfl, trivial⟩ (by decide) rfl st)
  replace h306 := ite_f b314 h306
  refine RL.mv rfl rfl rfl ?_
  refine RL.lenS 3 Try.underlying37 rfl rfl rfl rfl SlOf.imm ?_
  refine RL.mv rfl rfl rfl ?_
  refine RL.binI (v := .bool (((y292.1).length : Int) != (wadd (2 : Int) y71))) rfl rfl rfl rfl rfl ?_
  refine RL.pickF rfl rfl rfl rfl ?_
  refine RL.fin ?_
  cases h306
  exact fun a w st => mid_intro (((y292.1).length : Int) != (wadd (2 : Int) y71)) h307 (St.cut [1, 0, 3] ⟨rfl, rfl, rfl, rfl, trivial⟩ (by decide) rfl st)
 rintro x303 h315
 have h316 := h308 _ h315
 try dsimp only at h316
 refine GL.weak (env' := [(0, .int .i64 (wadd (2 : Int) y71)), (8, .func (.func 20) #[] #[v74]), (15, v294), (118, .bool x303)]) (L' := [imm (TR.sl (TR.sl TR.int)) v138 l137, obox 37 TR.raw v74 v138, imm (TR.sl (TR.sl TR.int)) v294 y292.1]) (fun _ _ st => st) ?_
 refine GL.cond rfl (fun b317 => ?_) (fun b317 => ?_)
 ·replace h316 := ite_t b317 h316
  refine GL.seq ?_
  refine GL.region ?_
  refine RL.asg rfl rfl rfl ?_
  refine RL.finG ?_
  have h316 := Option.some.inj h316
  subst h316
  exact GL.ret (Gx.ret (v := .bool false) (res1 rfl rfl) (fun a w st => st.toPostV))
 replace h316 := ite_f b317 h316
 refine GL.skip ?_
 refine GL.seq ?_
 refine GL.seq ?_
 refine GL.region ?_
 refine RL.mv rfl rfl rfl ?_
 refine RL.mv rfl rfl rfl ?_
 refine RL.finG ?_
 obtain ⟨y684, e685, h316⟩ := bind_some h316
 replace e685 := chk_some e685
 obtain ⟨y686, K687, h688, h689, h690, h691, h692⟩ := bindR_K h316
 refine GL.join (ι := Unit) (fun (p : Unit) => []) (fun (p : Unit) => []) (fun (p : Unit) => K687 (.nx ())) ?_ ?_
 ·refine GL.block ?_
  refine GL.loop (ι := Nat × Nat) (fun (p : Nat × Nat) => [(0, .int .i64 (wadd (2 : Int) y71)), (8, .func (.func 20) #[] #[v74]), (15, v294), (119, .int .i64 (wadd (2 : Int) y71)), (120, .int .i64 (p.1 : Int))]) (fun (p : Nat × Nat) => [imm (TR.sl (TR.sl TR.int)) v138 l137, obox 37 TR.raw v74 v138, imm (TR.sl (TR.sl TR.int)) v294 y292.1]) (fun (p : Nat × Nat) => p.1 + p.2 = (wadd (2 : Int) y71).toNat ∧ rangeN (pk_DuelMcGarvey_b2 y71 y292 l137) p.2 p.1 () = some y686) (fun (p : Nat × Nat) => p.2) (0, (wadd (2 : Int) y71).toNat) ⟨by simp, h688⟩ (fun a w st => St.cut [0, 1, 2] ⟨rfl, rfl, rfl, rfl, rfl, trivial⟩ (by decide) rfl st) ?_
  rintro ⟨i693, r694⟩ ⟨h699, h698⟩
  try dsimp only at h699 h698
  refine GL.weak (env' := [(0, .int .i64 (wadd (2 : Int) y71)), (8, .func (.func 20) #[] #[v74]), (15, v294), (119, .int .i64 (wadd (2 : Int) y71)), (120, .int .i64 (i693 : Int))]) (L' := [imm (TR.sl (TR.sl TR.int)) v138 l137, obox 37 TR.raw v74 v138, imm (TR.sl (TR.sl TR.int)) v294 y292.1]) (fun _ _ st => st) ?_
  refine GL.seq ?_
  refine GL.region ?_
  refine RL.binI (v := .bool (decide ((i693 : Int) < wadd (2 : Int) y71))) rfl rfl rfl rfl rfl ?_
  refine RL.finG ?_
  refine GL.seq ?_
  refine GL.cond rfl (fun b701 => ?_) (fun b701 => ?_)
  ·have h702 : i693 < (wadd (2 : Int) y71).toNat := by have := of_decide_eq_true b701; omega
   obtain ⟨r703, hr⟩ : ∃ m, r694 = m + 1 := ⟨r694 - 1, by omega⟩
   subst hr
   obtain ⟨z695, h696, h697⟩ := rangeN_some h698
   unfold pk_DuelMcGarvey_b2 at h696
   try dsimp only at h696
   refine GL.skip ?_
   refine GL.seq ?_
   refine GL.block ?_
   refine GL.seq ?_
   refine GL.region ?_
   refine RL.mv rfl rfl rfl ?_
   refine RL.asg rfl rfl rfl ?_
   refine RL.finG ?_
   refine GL.seq ?_
   refine GL.region ?_
   refine RL.mv rfl rfl rfl ?_
   refine RL.mv rfl rfl rfl ?_
   refine RL.finG ?_
   obtain ⟨y876, e877, h696⟩ := bind_some h696
   replace e877 := chk_some e877
   obtain ⟨y878, K879, h880, h881, h882, h883, h884⟩ := bindF_K h696
   refine GL.join (ι := Unit) (fun (p : Unit) => [(0, .int .i64 (wadd (2 : Int) y71)), (8, .func (.func 20) #[] #[v74]), (15, v294), (119, .int .i64 (wadd (2 : Int) y71)), (120, .int .i64 (i693 : Int))]) (fun (p : Unit) => [obox 37 TR.raw v74 v138, imm (TR.sl (TR.sl TR.int)) v138 l137, imm (TR.sl (TR.sl TR.int)) v294 y292.1]) (fun (p : Unit) => K879 (.nx ())) ?_ ?_
   ·refine GL.block ?_
    refine GL.loop (ι := Nat × Nat) (fun (p : Nat × Nat) => [(0, .int .i64 (wadd (2 : Int) y71)), (8, .func (.func 20) #[] #[v74]), (15, v294), (17, .int .i64 (i693 : Int)), (119, .int .i64 (wadd (2 : Int) y71)), (120, .int .i64 (i693 : Int)), (123, .int .i64 (wadd (2 : Int) y71)), (124, .int .i64 (p.1 : Int))]) (fun (p : Nat × Nat) => [imm (TR.sl (TR.sl TR.int)) v138 l137, obox 37 TR.raw v74 v138, imm (TR.sl (TR.sl TR.int)) v294 y292.1]) (fun (p : Nat × Nat) => p.1 + p.2 = (wadd (2 : Int) y71).toNat ∧ rangeN (pk_DuelMcGarvey_b3 y292 i693 y71 l137) p.2 p.1 () = some y878) (fun (p : Nat × Nat) => p.2) (0, (wadd (2 : Int) y71).toNat) ⟨by simp, h880⟩ (fun a w st => St.cut [0, 1, 2] ⟨rfl, rfl, rfl, rfl, rfl, rfl, rfl, rfl, trivial⟩ (by decide) rfl st) ?_
    rintro ⟨i885, r886⟩ ⟨h891, h890⟩
    try dsimp only at h891 h890
    refine GL.weak (env' := [(0, .int .i64 (wadd (2 : Int) y71)), (8, .func (.func 20) #[] #[v74]), (15, v294), (17, .int .i64 (i693 : Int)), (119, .int .i64 (wadd (2 : Int) y71)), (120, .int .i64 (i693 : Int)), (123, .int .i64 (wadd (2 : Int) y71)), (124, .int .i64 (i885 : Int))]) (L' := [imm (TR.sl (TR.sl TR.int)) v138 l137, obox 37 TR.raw v74 v138, imm (TR.sl (TR.sl TR.int)) v294 y292.1]) (fun _ _ st => st) ?_
    refine GL.seq ?_
    refine GL.region ?_
    refine RL.binI (v := .bool (decide ((i885 : Int) < wadd (2 : Int) y71))) rfl rfl rfl rfl rfl ?_
    refine RL.finG ?_
    refine GL.seq ?_
    refine GL.cond rfl (fun b893 => ?_) (fun b893 => ?_)
    ·have h894 : i885 < (wadd (2 : Int) y71).toNat := by have := of_decide_eq_true b893; omega
     obtain ⟨r895, hr⟩ : ∃ m, r886 = m + 1 := ⟨r886 - 1, by omega⟩
     subst hr
     obtain ⟨z887, h888, h889⟩ := rangeN_some h890
     unfold pk_DuelMcGarvey_b3 at h888
     try dsimp only at h888
     refine GL.skip ?_
     refine GL.seq ?_
     refine GL.block ?_
     refine GL.seq ?_
     refine GL.region ?_
     refine RL.mv rfl rfl rfl ?_
     refine RL.asg rfl rfl rfl ?_
     refine RL.finG ?_
     refine GL.seq ?_
     refine GL.seq ?_
     obtain ⟨y911, K912, h913, h914, h915, h916, h917⟩ := bindF_K h888
     refine GL.join (ι := Bool) (fun (p : Bool) => [(0, .int .i64 (wadd (2 : Int) y71)), (8, .func (.func 20) #[] #[v74]), (15, v294), (17, .int .i64 (i693 : Int)), (18, .int .i64 (i885 : Int)), (119, .int .i64 (wadd (2 : Int) y71)), (120, .int .i64 (i693 : Int)), (123, .int .i64 (wadd (2 : Int) y71)), (124, .int .i64 (i885 : Int)), (142, .bool p)]) (fun (p : Bool) => [imm (TR.sl (TR.sl TR.int)) v138 l137, obox 37 TR.raw v74 v138, imm (TR.sl (TR.sl TR.int)) v294 y292.1]) (fun (p : Bool) => K912 (.nx p)) ?_ ?_
     ·skip
      refine GL.region ?_
      refine RL.mv rfl rfl rfl ?_
      refine RL.mv rfl rfl rfl ?_
      obtain ⟨y918, e919, h913⟩ := bind_some h913
      refine RL.idxS (sz := 1) 2 Try.underlying37 Try_ln27 rfl rfl rfl rfl rfl SlOf.imm (idx_some e919).1 (idx_some e919).2.1 ?_
      refine RL.ldS (i := i693) (r := (TR.sl TR.int)) (e' := y918) 2 Try_ln27 rfl rfl rfl rfl SlOf.imm (idx_some e919).2.2 Part.self ?_
      intro v920
      refine RL.lenS 3 Try.underlying27 rfl rfl rfl rfl SlOf.imm ?_
      refine RL.mv rfl rfl rfl ?_
      refine RL.binI (v := .bool (((y918).length : Int) != (wadd (2 : Int) y71))) rfl rfl rfl rfl rfl ?_
      refine RL.mv rfl rfl rfl ?_
      refine RL.split (t := 134) rfl (fun b921 => ?_) (fun b921 => ?_)
      ·replace h913 := ite_t b921 h913
       refine RL.skip rfl rfl ?_
       refine RL.skip rfl rfl ?_
       refine RL.skip rfl rfl ?_
       refine RL.skip rfl rfl ?_
       refine RL.skip rfl rfl ?_
       refine RL.skip rfl rfl ?_
       refine RL.skip rfl rfl ?_
       refine RL.pickT rfl rfl rfl rfl ?_
       refine RL.fin ?_
       cases h913
       exact fun a w st => mid_intro true h914 (St.cut [0, 1, 2] ⟨rfl, rfl, rfl, rfl, rfl, rfl, rfl, rfl, rfl, rfl, trivial⟩ (by decide) rfl st)
      replace h913 := ite_f b921 h913
      refine RL.mv rfl rfl rfl ?_
      refine RL.mv rfl rfl rfl ?_
      obtain ⟨y922, e923, h913⟩ := bind_some h913
      refine RL.idxS (sz := 1) 2 Try.underlying37 Try_ln27 rfl rfl rfl rfl rfl SlOf.imm (idx_some e923).1 (idx_some e923).2.1 ?_
      refine RL.ldS (i := i885) (r := (TR.sl TR.int)) (e' := y922) 2 Try_ln27 rfl rfl rfl rfl SlOf.imm (idx_some e923).2.2 Part.self ?_
      intro v924
      refine RL.reL (L' := [imm (TR.sl (TR.sl TR.int)) v138 l137, obox 37 TR.raw v74 v138, imm (TR.sl (TR.sl TR.int)) v294 y292.1, imm (TR.sl TR.int) v920 y918, imm (TR.sl TR.int) v924 y922]) rfl ?_
      refine RL.lenS 4 Try.underlying27 rfl rfl rfl rfl SlOf.imm ?_
      refine RL.mv rfl rfl rfl ?_
      refine RL.binI (v := .bool (((y922).length : Int) != (wadd (2 : Int) y71))) rfl rfl rfl rfl rfl ?_
      refine RL.pickF rfl rfl rfl rfl ?_
      refine RL.fin ?_
      cases h913
      exact fun a w st => mid_intro (((y922).length : Int) != (wadd (2 : Int) y71)) h914 (St.cut [0, 1, 2] ⟨rfl, rfl, rfl, rfl, rfl, rfl, rfl, rfl, rfl, rfl, trivial⟩ (by decide) rfl st)
     rintro x910 h925
     have h926 := h915 _ h925
     try dsimp only at h926
     refine GL.weak (env' := [(0, .int .i64 (wadd (2 : Int) y71)), (8, .func (.func 20) #[] #[v74]), (15, v294), (17, .int .i64 (i693 : Int)), (18, .int .i64 (i885 : Int)), (119, .int .i64 (wadd (2 : Int) y71)), (120, .int .i64 (i693 : Int)), (123, .int .i64 (wadd (2 : Int) y71)), (124, .int .i64 (i885 : Int)), (142, .bool x910)]) (L' := [imm (TR.sl (TR.sl TR.int)) v138 l137, obox 37 TR.raw v74 v138, imm (TR.sl (TR.sl TR.int)) v294 y292.1]) (fun _ _ st => st) ?_
     refine GL.cond rfl (fun b927 => ?_) (fun b927 => ?_)
     ·replace h926 := ite_t b927 h926
      refine GL.seq ?_
      refine GL.region ?_
      refine RL.asg rfl rfl rfl ?_
      refine RL.finG ?_
      cases h926
      replace h889 : some (Fl.rt _) = some y878 := h889
      cases h889
      have hh := h883 _ h881
      subst hh
      replace h697 : some (Fl.rt _) = some y686 := h697
      cases h697
      have hh := h691 _ h689
      subst hh
      exact GL.ret (Gx.ret (v := .bool false) (res1 rfl rfl) (fun a w st => st.toPostV))
     replace h926 := ite_f b927 h926
     refine GL.skip ?_
     refine GL.seq ?_
     refine GL.regionQ rfl rfl (by kernel_rfl) ?_
     refine RL.mv rfl rfl rfl ?_
     refine RL.mv rfl rfl rfl ?_
     obtain ⟨y938, e939, h926⟩ := bind_some h926
     refine RL.idxS (sz := 1) 2 Try.underlying37 Try_ln27 rfl rfl rfl rfl rfl SlOf.imm (idx_some e939).1 (idx_some e939).2.1 ?_
     refine RL.ldS (i := i693) (r := (TR.sl TR.int)) (e' := y938) 2 Try_ln27 rfl rfl rfl rfl SlOf.imm (idx_some e939).2.2 Part.self ?_
     intro v940
     refine RL.mv rfl rfl rfl ?_
     obtain ⟨y941, e942, h926⟩ := bind_some h926
     refine RL.idxS (sz := 1) 3 Try.underlying27 Try_ln3 rfl rfl rfl rfl rfl SlOf.imm (idx_some e942).1 (idx_some e942).2.1 ?_
     refine RL.ldSx (i := i885) (e' := y941) 3 Ex.ik Try_ln3 rfl rfl rfl rfl SlOf.imm (idx_some e942).2.2 Part.self ?_
     refine RL.mv rfl rfl rfl ?_
     refine RL.mv rfl rfl rfl ?_
     obtain ⟨y943, e944, h926⟩ := bind_some h926
     refine RL.idxS (sz := 1) 2 Try.underlying37 Try_ln27 rfl rfl rfl rfl rfl SlOf.imm (idx_some e944).1 (idx_some e944).2.1 ?_
     refine RL.ldS (i := i885) (r := (TR.sl TR.int)) (e' := y943) 2 Try_ln27 rfl rfl rfl rfl SlOf.imm (idx_some e944).2.2 Part.self ?_
     intro v945
     refine RL.reL (L' := [imm (TR.sl (TR.sl TR.int)) v138 l137, obox 37 TR.raw v74 v138, imm (TR.sl (TR.sl TR.int)) v294 y292.1, imm (TR.sl TR.int) v940 y938, imm (TR.sl TR.int) v945 y943]) rfl ?_
     refine RL.mv rfl rfl rfl ?_
     obtain ⟨y946, e947, h926⟩ := bind_some h926
     refine RL.idxS (sz := 1) 4 Try.underlying27 Try_ln3 rfl rfl rfl rfl rfl SlOf.imm (idx_some e947).1 (idx_some e947).2.1 ?_
     refine RL.ldSx (i := i693) (e' := y946) 4 Ex.ik Try_ln3 rfl rfl rfl rfl SlOf.imm (idx_some e947).2.2 Part.self ?_
     refine RL.binI (v := .int .i64 (wsub y941 y946)) rfl rfl rfl rfl rfl ?_
     refine RL.asg rfl rfl rfl ?_
     refine RL.finQG ?_
     refine GL.seq ?_
     obtain ⟨y1021, K1022, h1023, h1024, h1025, h1026, h1027⟩ := bindF_K h926
     refine GL.join (ι := Bool) (fun (p : Bool) => [(0, .int .i64 (wadd (2 : Int) y71)), (8, .func (.func 20) #[] #[v74]), (15, v294), (17, .int .i64 (i693 : Int)), (119, .int .i64 (wadd (2 : Int) y71)), (120, .int .i64 (i693 : Int)), (123, .int .i64 (wadd (2 : Int) y71)), (124, .int .i64 (i885 : Int)), (193, .bool p)]) (fun (p : Bool) => [imm (TR.sl (TR.sl TR.int)) v138 l137, obox 37 TR.raw v74 v138, imm (TR.sl (TR.sl TR.int)) v294 y292.1]) (fun (p : Bool) => K1022 (.nx p)) ?_ ?_
     ·skip
      refine GL.region ?_
      refine RL.mv rfl rfl rfl ?_
      refine RL.mv rfl rfl rfl ?_
      refine RL.mv rfl rfl rfl ?_
      obtain ⟨y1028, e1029, h1023⟩ := bind_some h1023
      refine RL.callV (v := .bool y1028) (vs := [.int .i64 (i693 : Int), .int .i64 (i885 : Int)]) Try_fit20 rfl (Or.inl rfl) rfl rfl rfl rfl (fun U w hU hW hL => pk_DuelMcGarvey_1_c U w hU (i693 : Int) (i885 : Int) _ _ (ptr_raw (hL 1 _ _ rfl Seen.obox) rfl (hL 0 _ _ rfl Seen.imm)) _ e1029) ?_
      refine RL.mv rfl rfl rfl ?_
      refine RL.split (t := 162) rfl (fun b1030 => ?_) (fun b1030 => ?_)
      ·replace h1023 := ite_t b1030 h1023
       refine RL.mv rfl rfl rfl ?_
       refine RL.binI (v := .bool ((wsub y941 y946) != (2 : Int))) rfl rfl rfl rfl rfl ?_
       refine RL.pickT rfl rfl rfl rfl ?_
       refine RL.mv rfl rfl rfl ?_
       refine RL.split (t := 166) rfl (fun b1031 => ?_) (fun b1031 => ?_)
       ·replace h1023 := ite_t b1031 h1023
        refine RL.skip rfl rfl ?_
        refine RL.skip rfl rfl ?_
        refine RL.skip rfl rfl ?_
        refine RL.skip rfl rfl ?_
        refine RL.skip rfl rfl ?_
        refine RL.skip rfl rfl ?_
        refine RL.skip rfl rfl ?_
        refine RL.skip rfl rfl ?_
        refine RL.pickT rfl rfl rfl rfl ?_
        refine RL.mv rfl rfl rfl ?_
        refine RL.skip rfl rfl ?_
        refine RL.skip rfl rfl ?_
        refine RL.skip rfl rfl ?_
        refine RL.skip rfl rfl ?_
        refine RL.skip rfl rfl ?_
        refine RL.skip rfl rfl ?_
        refine RL.skip rfl rfl ?_
        refine RL.skip rfl rfl ?_
        refine RL.skip rfl rfl ?_
        refine RL.skip rfl rfl ?_
        refine RL.skip rfl rfl ?_
        refine RL.skip rfl rfl ?_
        refine RL.skip rfl rfl ?_
        refine RL.skip rfl rfl ?_
        refine RL.skip rfl rfl ?_
        refine RL.skip rfl rfl ?_
        refine RL.pickT rfl rfl rfl rfl ?_
        refine RL.fin ?_
        cases h1023
        exact fun a w st => mid_intro true h1024 (St.cut [0, 1, 2] ⟨rfl, rfl, rfl, rfl, rfl, rfl, rfl, rfl, rfl, trivial⟩ (by decide) rfl st)
       replace h1023 := ite_f b1031 h1023
       refine RL.mv rfl rfl rfl ?_
       refine RL.mv rfl rfl rfl ?_
       refine RL.mv rfl rfl rfl ?_
       obtain ⟨y1032, e1033, h1023⟩ := bind_some h1023
       refine RL.callV (v := .bool y1032) (vs := [.int .i64 (i885 : Int), .int .i64 (i693 : Int)]) Try_fit20 rfl (Or.inl rfl) rfl rfl rfl rfl (fun U w hU hW hL => pk_DuelMcGarvey_1_c U w hU (i885 : Int) (i693 : Int) _ _ (ptr_raw (hL 1 _ _ rfl Seen.obox) rfl (hL 0 _ _ rfl Seen.imm)) _ e1033) ?_
       refine RL.mv rfl rfl rfl ?_
       refine RL.split (t := 171) rfl (fun b1034 => ?_) (fun b1034 => ?_)
       ·replace h1023 := ite_t b1034 h1023
        refine RL.mv rfl rfl rfl ?_
        refine RL.binI (v := .bool ((wsub y941 y946) != (-2 : Int))) rfl rfl rfl rfl rfl ?_
        refine RL.pickT rfl rfl rfl rfl ?_
        refine RL.pickF rfl rfl rfl rfl ?_
        refine RL.mv rfl rfl rfl ?_
        refine RL.split (t := 176) rfl (fun b1035 => ?_) (fun b1035 => ?_)
        ·replace h1023 := ite_t b1035 h1023
         refine RL.skip rfl rfl ?_
         refine RL.skip rfl rfl ?_
         refine RL.skip rfl rfl ?_
         refine RL.skip rfl rfl ?_
         refine RL.skip rfl rfl ?_
         refine RL.skip rfl rfl ?_
         refine RL.skip rfl rfl ?_
         refine RL.skip rfl rfl ?_
         refine RL.skip rfl rfl ?_
         refine RL.skip rfl rfl ?_
         refine RL.skip rfl rfl ?_
         refine RL.skip rfl rfl ?_
         refine RL.skip rfl rfl ?_
         refine RL.skip rfl rfl ?_
         refine RL.skip rfl rfl ?_
         refine RL.skip rfl rfl ?_
         refine RL.pickT rfl rfl rfl rfl ?_
         refine RL.fin ?_
         cases h1023
         exact fun a w st => mid_intro true h1024 (St.cut [0, 1, 2] ⟨rfl, rfl, rfl, rfl, rfl, rfl, rfl, rfl, rfl, trivial⟩ (by decide) rfl st)
        replace h1023 := ite_f b1035 h1023
        refine RL.mv rfl rfl rfl ?_
        refine RL.mv rfl rfl rfl ?_
        refine RL.mv rfl rfl rfl ?_
        obtain ⟨y1036, e1037, h1023⟩ := bind_some h1023
        refine RL.callV (v := .bool y1036) (vs := [.int .i64 (i693 : Int), .int .i64 (i885 : Int)]) Try_fit20 rfl (Or.inl rfl) rfl rfl rfl rfl (fun U w hU hW hL => pk_DuelMcGarvey_1_c U w hU (i693 : Int) (i885 : Int) _ _ (ptr_raw (hL 1 _ _ rfl Seen.obox) rfl (hL 0 _ _ rfl Seen.imm)) _ e1037) ?_
        refine RL.notB rfl rfl rfl ?_
        refine RL.mv rfl rfl rfl ?_
        refine RL.split (t := 182) rfl (fun b1038 => ?_) (fun b1038 => ?_)
        ·replace h1023 := ite_t b1038 h1023
         refine RL.mv rfl rfl rfl ?_
         refine RL.mv rfl rfl rfl ?_
         refine RL.mv rfl rfl rfl ?_
         obtain ⟨y1039, e1040, h1023⟩ := bind_some h1023
         refine RL.callV (v := .bool y1039) (vs := [.int .i64 (i885 : Int), .int .i64 (i693 : Int)]) Try_fit20 rfl (Or.inl rfl) rfl rfl rfl rfl (fun U w hU hW hL => pk_DuelMcGarvey_1_c U w hU (i885 : Int) (i693 : Int) _ _ (ptr_raw (hL 1 _ _ rfl Seen.obox) rfl (hL 0 _ _ rfl Seen.imm)) _ e1040) ?_
         refine RL.notB rfl rfl rfl ?_
         refine RL.pickT rfl rfl rfl rfl ?_
         refine RL.mv rfl rfl rfl ?_
         refine RL.split (t := 189) rfl (fun b1041 => ?_) (fun b1041 => ?_)
         ·replace h1023 := ite_t b1041 h1023
          refine RL.mv rfl rfl rfl ?_
          refine RL.binI (v := .bool ((wsub y941 y946) != (0 : Int))) rfl rfl rfl rfl rfl ?_
          refine RL.pickT rfl rfl rfl rfl ?_
          refine RL.pickF rfl rfl rfl rfl ?_
          refine RL.fin ?_
          cases h1023
          exact fun a w st => mid_intro ((wsub y941 y946) != (0 : Int)) h1024 (St.cut [0, 1, 2] ⟨rfl, rfl, rfl, rfl, rfl, rfl, rfl, rfl, rfl, trivial⟩ (by decide) rfl st)
         replace h1023 := ite_f b1041 h1023
         refine RL.skip rfl rfl ?_
         refine RL.skip rfl rfl ?_
         refine RL.pickF rfl rfl rfl rfl ?_
         refine RL.pickF rfl rfl rfl rfl ?_
         refine RL.fin ?_
         cases h1023
         exact fun a w st => mid_intro false h1024 (St.cut [0, 1, 2] ⟨rfl, rfl, rfl, rfl, rfl, rfl, rfl, rfl, rfl, trivial⟩ (by decide) rfl st)
        replace h1023 := ite_f b1038 h1023
        refine RL.skip rfl rfl ?_
        refine RL.skip rfl rfl ?_
        refine RL.skip rfl rfl ?_
        refine RL.skip rfl rfl ?_
        refine RL.skip rfl rfl ?_
        refine RL.pickF rfl rfl rfl rfl ?_
        refine RL.mv rfl rfl rfl ?_
        refine RL.skip rfl rfl ?_
        refine RL.skip rfl rfl ?_
        refine RL.pickF rfl rfl rfl rfl ?_
        refine RL.pickF rfl rfl rfl rfl ?_
        refine RL.fin ?_
        cases h1023
        exact fun a w st => mid_intro false h1024 (St.cut [0, 1, 2] ⟨rfl, rfl, rfl, rfl, rfl, rfl, rfl, rfl, rfl, trivial⟩ (by decide) rfl st)
       replace h1023 := ite_f b1034 h1023
       refine RL.skip rfl rfl ?_
       refine RL.skip rfl rfl ?_
       refine RL.pickF rfl rfl rfl rfl ?_
       refine RL.pickF rfl rfl rfl rfl ?_
       refine RL.mv rfl rfl rfl ?_
       refine RL.mv rfl rfl rfl ?_
       refine RL.mv rfl rfl rfl ?_
       refine RL.mv rfl rfl rfl ?_
       obtain ⟨y1042, e1043, h1023⟩ := bind_some h1023
       refine RL.callV (v := .bool y1042) (vs := [.int .i64 (i693 : Int), .int .i64 (i885 : Int)]) Try_fit20 rfl (Or.inl rfl) rfl rfl rfl rfl (fun U w hU hW hL => pk_DuelMcGarvey_1_c U w hU (i693 : Int) (i885 : Int) _ _ (ptr_raw (hL 1 _ _ rfl Seen.obox) rfl (hL 0 _ _ rfl Seen.imm)) _ e1043) ?_
       refine RL.notB rfl rfl rfl ?_
       refine RL.mv rfl rfl rfl ?_
       refine RL.split (t := 182) rfl (fun b1044 => ?_) (fun b1044 => ?_)
       ·replace h1023 := ite_t b1044 h1023
        refine RL.mv rfl rfl rfl ?_
        refine RL.mv rfl rfl rfl ?_
        refine RL.mv rfl rfl rfl ?_
        obtain ⟨y1045, e1046, h1023⟩ := bind_some h1023
        refine RL.callV (v := .bool y1045) (vs := [.int .i64 (i885 : Int), .int .i64 (i693 : Int)]) Try_fit20 rfl (Or.inl rfl) rfl rfl rfl rfl (fun U w hU hW hL => pk_DuelMcGarvey_1_c U w hU (i885 : Int) (i693 : Int) _ _ (ptr_raw (hL 1 _ _ rfl Seen.obox) rfl (hL 0 _ _ rfl Seen.imm)) _ e1046) ?_
        refine RL.notB rfl rfl rfl ?_
        refine RL.pickT rfl rfl rfl rfl ?_
        refine RL.mv rfl rfl rfl ?_
        refine RL.split (t := 189) rfl (fun b1047 => ?_) (fun b1047 => ?_)
        ·replace h1023 := ite_t b1047 h1023
         refine RL.mv rfl rfl rfl ?_
         refine RL.binI (v := .bool ((wsub y941 y946) != (0 : Int))) rfl rfl rfl rfl rfl ?_
         refine RL.pickT rfl rfl rfl rfl ?_
         refine RL.pickF rfl rfl rfl rfl ?_
         refine RL.fin ?_
         cases h1023
         exact fun a w st => mid_intro ((wsub y941 y946) != (0 : Int)) h1024 (St.cut [0, 1, 2] ⟨rfl, rfl, rfl, rfl, rfl, rfl, rfl, rfl, rfl, trivial⟩ (by decide) rfl st)
        replace h1023 := ite_f b1047 h1023
        refine RL.skip rfl rfl ?_
        refine RL.skip rfl rfl ?_
        refine RL.pickF rfl rfl rfl rfl ?_
        refine RL.pickF rfl rfl rfl rfl ?_
        refine RL.fin ?_
        cases h1023
        exact fun a w st => mid_intro false h1024 (St.cut [0, 1, 2] ⟨rfl, rfl, rfl, rfl, rfl, rfl, rfl, rfl, rfl, trivial⟩ (by decide) rfl st)
       replace h1023 := ite_f b1044 h1023
       refine RL.skip rfl rfl ?_
       refine RL.skip rfl rfl ?_
       refine RL.skip rfl rfl ?_
       refine RL.skip rfl rfl ?_
       refine RL.skip rfl rfl ?_
       refine RL.pickF rfl rfl rfl rfl ?_
       refine RL.mv rfl rfl rfl ?_
       refine RL.skip rfl rfl ?_
       refine RL.skip rfl rfl ?_
       refine RL.pickF rfl rfl rfl rfl ?_
       refine RL.pickF rfl rfl rfl rfl ?_
       refine RL.fin ?_
       cases h1023
       exact fun a w st => mid_intro false h1024 (St.cut [0, 1, 2] ⟨rfl, rfl, rfl, rfl, rfl, rfl, rfl, rfl, rfl, trivial⟩ (by decide) rfl st)
      replace h1023 := ite_f b1030 h1023
      refine RL.skip rfl rfl ?_
      refine RL.skip rfl rfl ?_
      refine RL.pickF rfl rfl rfl rfl ?_
      refine RL.mv rfl rfl rfl ?_
      refine RL.mv rfl rfl rfl ?_
      refine RL.mv rfl rfl rfl ?_
      refine RL.mv rfl rfl rfl ?_
      obtain ⟨y1048, e1049, h1023⟩ := bind_some h1023
      refine RL.callV (v := .bool y1048) (vs := [.int .i64 (i885 : Int), .int .i64 (i693 : Int)]) Try_fit20 rfl (Or.inl rfl) rfl rfl rfl rfl (fun U w hU hW hL => pk_DuelMcGarvey_1_c U w hU (i885 : Int) (i693 : Int) _ _ (ptr_raw (hL 1 _ _ rfl Seen.obox) rfl (hL 0 _ _ rfl Seen.imm)) _ e1049) ?_
      refine RL.mv rfl rfl rfl ?_
      refine RL.split (t := 171) rfl (fun b1050 => ?_) (fun b1050 => ?_)
      ·replace h1023 := ite_t b1050 h1023
       refine RL.mv rfl rfl rfl ?_
       refine RL.binI (v := .bool ((wsub y941 y946) != (-2 : Int))) rfl rfl rfl rfl rfl ?_
       refine RL.pickT rfl rfl rfl rfl ?_
       refine RL.pickF rfl rfl rfl rfl ?_
       refine RL.mv rfl rfl rfl ?_
       refine RL.split (t := 176) rfl (fun b1051 => ?_) (fun b1051 => ?_)
       ·replace h1023 := ite_t b1051 h1023
        refine RL.skip rfl rfl ?_
        refine RL.skip rfl rfl ?_
        refine RL.skip rfl rfl ?_
        refine RL.skip rfl rfl ?_
        refine RL.skip rfl rfl ?_
        refine RL.skip rfl rfl ?_
        refine RL.skip rfl rfl ?_
        refine RL.skip rfl rfl ?_
        refine RL.skip rfl rfl ?_
        refine RL.skip rfl rfl ?_
        refine RL.skip rfl rfl ?_
        refine RL.skip rfl rfl ?_
        refine RL.skip rfl rfl ?_
        refine RL.skip rfl rfl ?_
        refine RL.skip rfl rfl ?_
        refine RL.skip rfl rfl ?_
        refine RL.pickT rfl rfl rfl rfl ?_
        refine RL.fin ?_
        cases h1023
        exact fun a w st => mid_intro true h1024 (St.cut [0, 1, 2] ⟨rfl, rfl, rfl, rfl, rfl, rfl, rfl, rfl, rfl, trivial⟩ (by decide) rfl st)
       replace h1023 := ite_f b1051 h1023
       refine RL.mv rfl rfl rfl ?_
       refine RL.mv rfl rfl rfl ?_
       refine RL.mv rfl rfl rfl ?_
       obtain ⟨y1052, e1053, h1023⟩ := bind_some h1023
       refine RL.callV (v := .bool y1052) (vs := [.int .i64 (i693 : Int), .int .i64 (i885 : Int)]) Try_fit20 rfl (Or.inl rfl) rfl rfl rfl rfl (fun U w hU hW hL => pk_DuelMcGarvey_1_c U w hU (i693 : Int) (i885 : Int) _ _ (ptr_raw (hL 1 _ _ rfl Seen.obox) rfl (hL 0 _ _ rfl Seen.imm)) _ e1053) ?_
       refine RL.notB rfl rfl rfl ?_
       refine RL.mv rfl rfl rfl ?_
       refine RL.split (t := 182) rfl (fun b1054 => ?_) (fun b1054 => ?_)
       ·replace h1023 := ite_t b1054 h1023
        refine RL.mv rfl rfl rfl ?_
        refine RL.mv rfl rfl rfl ?_
        refine RL.mv rfl rfl rfl ?_
        obtain ⟨y1055, e1056, h1023⟩ := bind_some h1023
        refine RL.callV (v := .bool y1055) (vs := [.int .i64 (i885 : Int), .int .i64 (i693 : Int)]) Try_fit20 rfl (Or.inl rfl) rfl rfl rfl rfl (fun U w hU hW hL => pk_DuelMcGarvey_1_c U w hU (i885 : Int) (i693 : Int) _ _ (ptr_raw (hL 1 _ _ rfl Seen.obox) rfl (hL 0 _ _ rfl Seen.imm)) _ e1056) ?_
        refine RL.notB rfl rfl rfl ?_
        refine RL.pickT rfl rfl rfl rfl ?_
        refine RL.mv rfl rfl rfl ?_
        refine RL.split (t := 189) rfl (fun b1057 => ?_) (fun b1057 => ?_)
        ·replace h1023 := ite_t b1057 h1023
         refine RL.mv rfl rfl rfl ?_
         refine RL.binI (v := .bool ((wsub y941 y946) != (0 : Int))) rfl rfl rfl rfl rfl ?_
         refine RL.pickT rfl rfl rfl rfl ?_
         refine RL.pickF rfl rfl rfl rfl ?_
         refine RL.fin ?_
         cases h1023
         exact fun a w st => mid_intro ((wsub y941 y946) != (0 : Int)) h1024 (St.cut [0, 1, 2] ⟨rfl, rfl, rfl, rfl, rfl, rfl, rfl, rfl, rfl, trivial⟩ (by decide) rfl st)
        replace h1023 := ite_f b1057 h1023
        refine RL.skip rfl rfl ?_
        refine RL.skip rfl rfl ?_
        refine RL.pickF rfl rfl rfl rfl ?_
        refine RL.pickF rfl rfl rfl rfl ?_
        refine RL.fin ?_
        cases h1023
        exact fun a w st => mid_intro false h1024 (St.cut [0, 1, 2] ⟨rfl, rfl, rfl, rfl, rfl, rfl, rfl, rfl, rfl, trivial⟩ (by decide) rfl st)
       replace h1023 := ite_f b1054 h1023
       refine RL.skip rfl rfl ?_
       refine RL.skip rfl rfl ?_
       refine RL.skip rfl rfl ?_
       refine RL.skip rfl rfl ?_
       refine RL.skip rfl rfl ?_
       refine RL.pickF rfl rfl rfl rfl ?_
       refine RL.mv rfl rfl rfl ?_
       refine RL.skip rfl rfl ?_
       refine RL.skip rfl rfl ?_
       refine RL.pickF rfl rfl rfl rfl ?_
       refine RL.pickF rfl rfl rfl rfl ?_
       refine RL.fin ?_
       cases h1023
       exact fun a w st => mid_intro false h1024 (St.cut [0, 1, 2] ⟨rfl, rfl, rfl, rfl, rfl, rfl, rfl, rfl, rfl, trivial⟩ (by decide) rfl st)
      replace h1023 := ite_f b1050 h1023
      refine RL.skip rfl rfl ?_
      refine RL.skip rfl rfl ?_
      refine RL.pickF rfl rfl rfl rfl ?_
      refine RL.pickF rfl rfl rfl rfl ?_
      refine RL.mv rfl rfl rfl ?_
      refine RL.mv rfl rfl rfl ?_
      refine RL.mv rfl rfl rfl ?_
      refine RL.mv rfl rfl rfl ?_
      obtain ⟨y1058, e1059, h1023⟩ := bind_some h1023
      refine RL.callV (v := .bool y1058) (vs := [.int .i64 (i693 : Int), .int .i64 (i885 : Int)]) Try_fit20 rfl (Or.inl rfl) rfl rfl rfl rfl (fun U w hU hW hL => pk_DuelMcGarvey_1_c U w hU (i693 : Int) (i885 : Int) _ _ (ptr_raw (hL 1 _ _ rfl Seen.obox) rfl (hL 0 _ _ rfl Seen.imm)) _ e1059) ?_
      refine RL.notB rfl rfl rfl ?_
      refine RL.mv rfl rfl rfl ?_
      refine RL.split (t := 182) rfl (fun b1060 => ?_) (fun b1060 => ?_)
      ·replace h1023 := ite_t b1060 h1023
       refine RL.mv rfl rfl rfl ?_
       refine RL.mv rfl rfl rfl ?_
       refine RL.mv rfl rfl rfl ?_
       obtain ⟨y1061, e1062, h1023⟩ := bind_some h1023
       refine RL.callV (v := .bool y1061) (vs := [.int .i64 (i885 : Int), .int .i64 (i693 : Int)]) Try_fit20 rfl (Or.inl rfl) rfl rfl rfl rfl (fun U w hU hW hL => pk_DuelMcGarvey_1_c U w hU (i885 : Int) (i693 : Int) _ _ (ptr_raw (hL 1 _ _ rfl Seen.obox) rfl (hL 0 _ _ rfl Seen.imm)) _ e1062) ?_
       refine RL.notB rfl rfl rfl ?_
       refine RL.pickT rfl rfl rfl rfl ?_
       refine RL.mv rfl rfl rfl ?_
       refine RL.split (t := 189) rfl (fun b1063 => ?_) (fun b1063 => ?_)
       ·replace h1023 := ite_t b1063 h1023
        refine RL.mv rfl rfl rfl ?_
        refine RL.binI (v := .bool ((wsub y941 y946) != (0 : Int))) rfl rfl rfl rfl rfl ?_
        refine RL.pickT rfl rfl rfl rfl ?_
        refine RL.pickF rfl rfl rfl rfl ?_
        refine RL.fin ?_
        cases h1023
        exact fun a w st => mid_intro ((wsub y941 y946) != (0 : Int)) h1024 (St.cut [0, 1, 2] ⟨rfl, rfl, rfl, rfl, rfl, rfl, rfl, rfl, rfl, trivial⟩ (by decide) rfl st)
       replace h1023 := ite_f b1063 h1023
       refine RL.skip rfl rfl ?_
       refine RL.skip rfl rfl ?_
       refine RL.pickF rfl rfl rfl rfl ?_
       refine RL.pickF rfl rfl rfl rfl ?_
       refine RL.fin ?_
       cases h1023
       exact fun a w st => mid_intro false h1024 (St.cut [0, 1, 2] ⟨rfl, rfl, rfl, rfl, rfl, rfl, rfl, rfl, rfl, trivial⟩ (by decide) rfl st)
      replace h1023 := ite_f b1060 h1023
      refine RL.skip rfl rfl ?_
      refine RL.skip rfl rfl ?_
      refine RL.skip rfl rfl ?_
      refine RL.skip rfl rfl ?_
      refine RL.skip rfl rfl ?_
      refine RL.pickF rfl rfl rfl rfl ?_
      refine RL.mv rfl rfl rfl ?_
      refine RL.skip rfl rfl ?_
      refine RL.skip rfl rfl ?_
      refine RL.pickF rfl rfl rfl rfl ?_
      refine RL.pickF rfl rfl rfl rfl ?_
      refine RL.fin ?_
      cases h1023
      exact fun a w st => mid_intro false h1024 (St.cut [0, 1, 2] ⟨rfl, rfl, rfl, rfl, rfl, rfl, rfl, rfl, rfl, trivial⟩ (by decide) rfl st)
     rintro x1020 h1064
     have h1065 := h1025 _ h1064
     try dsimp only at h1065
     refine GL.weak (env' := [(0, .int .i64 (wadd (2 : Int) y71)), (8, .func (.func 20) #[] #[v74]), (15, v294), (17, .int .i64 (i693 : Int)), (119, .int .i64 (wadd (2 : Int) y71)), (120, .int .i64 (i693 : Int)), (123, .int .i64 (wadd (2 : Int) y71)), (124, .int .i64 (i885 : Int)), (193, .bool x1020)]) (L' := [imm (TR.sl (TR.sl TR.int)) v138 l137, obox 37 TR.raw v74 v138, imm (TR.sl (TR.sl TR.int)) v294 y292.1]) (fun _ _ st => st) ?_
     refine GL.cond rfl (fun b1066 => ?_) (fun b1066 => ?_)
     ·replace h1065 := ite_t b1066 h1065
      refine GL.seq ?_
      refine GL.region ?_
      refine RL.asg rfl rfl rfl ?_
      refine RL.finG ?_
      cases h1065
      replace h889 : some (Fl.rt _) = some y878 := h889
      cases h889
      have hh := h883 _ h881
      subst hh
      replace h697 : some (Fl.rt _) = some y686 := h697
      cases h697
      have hh := h691 _ h689
      subst hh
      exact GL.ret (Gx.ret (v := .bool false) (res1 rfl rfl) (fun a w st => st.toPostV))
     replace h1065 := ite_f b1066 h1065
     refine GL.skip ?_
     refine GL.nilB ?_
     refine GL.region ?_
     refine RL.binI (v := .int .i64 ((i885 + 1 : Nat) : Int)) rfl rfl rfl rfl (binI_succ i885 (by omega)) ?_
     refine RL.mv rfl rfl rfl ?_
     refine RL.fin ?_
     cases h1065
     exact fun a w st => lop_intro (i885 + 1, r895) ⟨by show i885 + 1 + r895 = (wadd (2 : Int) y71).toNat; omega, h889⟩ (by simp) (St.cut [0, 1, 2] ⟨rfl, rfl, rfl, rfl, rfl, rfl, rfl, rfl, trivial⟩ (by decide) rfl st)
    have h894 : ¬ i885 < (wadd (2 : Int) y71).toNat := by have := of_decide_eq_false b893; omega
    obtain rfl : r886 = 0 := by omega
    replace h890 : some (Fl.nx _) = some y878 := h890
    cases h890
    exact GL.exit (fun a w st => mid_intro () h881 (St.cut [1, 0, 2] ⟨rfl, rfl, rfl, rfl, rfl, trivial⟩ (by decide) rfl st))
   rintro ⟨⟩ h1067
   have h1068 := h882 _ h1067
   try dsimp only at h1068
   refine GL.weak (env' := [(0, .int .i64 (wadd (2 : Int) y71)), (8, .func (.func 20) #[] #[v74]), (15, v294), (119, .int .i64 (wadd (2 : Int) y71)), (120, .int .i64 (i693 : Int))]) (L' := [obox 37 TR.raw v74 v138, imm (TR.sl (TR.sl TR.int)) v138 l137, imm (TR.sl (TR.sl TR.int)) v294 y292.1]) (fun _ _ st => st) ?_
   refine GL.nilB ?_
   refine GL.region ?_
   refine RL.binI (v := .int .i64 ((i693 + 1 : Nat) : Int)) rfl rfl rfl rfl (binI_succ i693 (by omega)) ?_
   refine RL.mv rfl rfl rfl ?_
   refine RL.fin ?_
   cases h1068
   exact fun a w st => lop_intro (i693 + 1, r703) ⟨by show i693 + 1 + r703 = (wadd (2 : Int) y71).toNat; omega, h697⟩ (by simp) (St.cut [1, 0, 2] ⟨rfl, rfl, rfl, rfl, rfl, trivial⟩ (by decide) rfl st)
  have h702 : ¬ i693 < (wadd (2 : Int) y71).toNat := by have := of_decide_eq_false b701; omega
  obtain rfl : r694 = 0 := by omega
  replace h698 : some (Fl.nx _) = some y686 := h698
  cases h698
  exact GL.exit (fun a w st => mid_intro () h689 (St.cut [] trivial (by decide) rfl st))
 rintro ⟨⟩ h1069
 have h1070 := h690 _ h1069
 try dsimp only at h1070
 refine GL.weak (env' := []) (L' := []) (fun _ _ st => st) ?_
 refine GL.seq ?_
 refine GL.region ?_
 refine RL.asg rfl rfl rfl ?_
 refine RL.finG ?_
 have h1070 := Option.some.inj h1070
 subst h1070
 exact GL.ret (Gx.ret (v := .bool true) (res1 rfl rfl) (fun a w st => st.toPostV))
end Go.Wk
