/- Each function comes to what its model says; printed by a program of this repository. -/
import Derived.Test.YtfhfoechannphaaProg
import Derived.Test.YtfhfoechannphaaWTreePartModels
import Derived.Test.YtfhfoechannphaaFwU
namespace Go.Wk
open Go.Fw Go.Mo Go.Proofs Go.RowKit
set_option linter.all false
set_option maxRecDepth 100000
theorem loopNx {ρ σ β γ : Type} {body : σ → Option (Fl ρ β σ)} {n : Nat} {s : σ} {y : Fl ρ γ β} (h : stepM body n (.nx s) = some y) : loopM body n s = some y := h
theorem Try_info3 : (Try.prog.info? 3).map (fun i => (i.zero, i.size, i.bytes)) = some (some (.int .i64 0), 1, 8) := by kernel_rfl
theorem Try_ln3 : Ln Try.prog 3 1 false := Ln.of Try_info3 Try.underlying3 rfl
theorem Try_lo3 : LnO Try.prog 3 1 [.int .i64 0] := LnO.of Try_info3 rfl rfl (by decide) (by decide)
theorem Try_info27 : (Try.prog.info? 27).map (fun i => (i.zero, i.size, i.bytes)) = some (some (.slice none 0 0), 1, 24) := by kernel_rfl
theorem Try_ln27 : Ln Try.prog 27 1 false := Ln.of Try_info27 Try.underlying27 rfl
theorem Try_lo27 : LnO Try.prog 27 1 [.slice none 0 0] := LnO.of Try_info27 rfl rfl (by decide) (by decide)
theorem Try_info41 : (Try.prog.info? 41).map (fun i => (i.zero, i.size, i.bytes)) = some (some (.agg #[.int .i64 0, .slice none 0 0, .slice none 0 0]), 3, 56) := by kernel_rfl
theorem Try_ln41 : Ln Try.prog 41 3 true := Ln.of Try_info41 Try.underlying41 rfl
theorem Try_lo41 : LnO Try.prog 41 3 [.int .i64 0, .slice none 0 0, .slice none 0 0] := LnO.of Try_info41 rfl rfl (by decide) (by decide)
theorem Try_bld41 (pv : List (Nat × Value)) : Try.prog.built 41 pv = Instr.fill ((mkPlaces 0 [[.int .i64 0], [.slice none 0 0], [.slice none 0 0]]).toArray[·]?) (List.flatten [[.int .i64 0], [.slice none 0 0], [.slice none 0 0]]).toArray pv := by kernel_rfl
theorem Try_fit10 : Fit Try.prog 10 := Fit.of Try.func10 (by kernel_rfl) rfl
theorem Try_fit14 : Fit Try.prog 14 := Fit.of Try.func14 (by kernel_rfl) rfl
theorem Try_fit15 : Fit Try.prog 15 := Fit.of Try.func15 (by kernel_rfl) rfl
theorem Try_fit16 : Fit Try.prog 16 := Fit.of Try.func16 (by kernel_rfl) rfl
theorem Try_fit17 : Fit Try.prog 17 := Fit.of Try.func17 (by kernel_rfl) rfl
theorem Try_fit18 : Fit Try.prog 18 := Fit.of Try.func18 (by kernel_rfl) rfl
theorem Try_fit32 : Fit Try.prog 32 := Fit.of Try.func32 (by kernel_rfl) rfl
theorem Try_fit36 : Fit Try.prog 36 := Fit.of Try.func36 (by kernel_rfl) rfl
theorem Try_fld41_0 (ad : Addr) (w : World) : (Instr.fieldAt 41 (.pointer (some ad)) 0).run Try.prog w = .ok (.pointer (some (ad.add 0))) w := by
  simp [Instr.fieldAt, run_underlying Try.underlying41, Instr.sureAddr, fieldPlace, Fw.run_sizeOf Try_ln3]
theorem Try_fld41_1 (ad : Addr) (w : World) : (Instr.fieldAt 41 (.pointer (some ad)) 1).run Try.prog w = .ok (.pointer (some (ad.add 1))) w := by
  simp [Instr.fieldAt, run_underlying Try.underlying41, Instr.sureAddr, fieldPlace, Fw.run_sizeOf Try_ln27]
theorem Try_fld41_2 (ad : Addr) (w : World) : (Instr.fieldAt 41 (.pointer (some ad)) 2).run Try.prog w = .ok (.pointer (some (ad.add 2))) w := by
  simp [Instr.fieldAt, run_underlying Try.underlying41, Instr.sureAddr, fieldPlace, Fw.run_sizeOf Try_ln27]

set_option maxHeartbeats 4000000 in
theorem tree_Check_c (S : Hp) (w : World) (hS : S.sub w) (x0 : Int) (v1 : Value) (x1 : (List (Int × ((List Int) × (List Int))))) (k1 : ((TR.sl (TR.pair TR.int (TR.pair (TR.sl TR.int) (TR.sl TR.int))))).vrep S v1 x1) (res : Int) (hm : tree_Check_m x0 x1 = some res) : Calls Try.prog 36 #[.int .i64 x0, v1] w (PostV w (.int .i64 res)) := by
 refine calls_enter 103 Try.func36 Try.ntmps36 rfl S false [(0, .int .i64 x0), (1, v1)] [imm (TR.sl (TR.pair TR.int (TR.pair (TR.sl TR.int) (TR.sl TR.int)))) v1 x1] rfl ⟨rfl, ⟨rfl, trivial⟩⟩ hS ⟨k1, trivial⟩ ?_
 unfold tree_Check_m at hm
 refine GL.seq ?_
 refine GL.region ?_
 refine RL.asg rfl rfl rfl ?_
 refine RL.finG ?_
 refine GL.seq ?_
 refine GL.seq ?_
 obtain ⟨y6, K7, h8, h9, h10, h11, h12⟩ := bindR_K hm
 refine GL.join (ι := Bool) (fun (p : Bool) => [(0, .int .i64 x0), (1, v1), (16, .bool p)]) (fun (p : Bool) => [imm (TR.sl (TR.pair TR.int (TR.pair (TR.sl TR.int) (TR.sl TR.int)))) v1 x1]) (fun (p : Bool) => K7 (.nx p)) ?_ ?_
 ·skip
  refine GL.region ?_
  refine RL.mv rfl rfl rfl ?_
  refine RL.binI (v := .bool (decide (x0 < (1 : Int)))) rfl rfl rfl rfl rfl ?_
  refine RL.mv rfl rfl rfl ?_
  refine RL.split (t := 13) rfl (fun b13 => ?_) (fun b13 => ?_)
  ·replace h8 := ite_t b13 h8
   refine RL.skip rfl rfl ?_
   refine RL.skip rfl rfl ?_
   refine RL.pickT rfl rfl rfl rfl ?_
   refine RL.fin ?_
   cases h8
   exact fun a w st => mid_intro true h9 (St.cut [0] ⟨rfl, rfl, rfl, trivial⟩ (by decide) rfl st)
  replace h8 := ite_f b13 h8
  refine RL.mv rfl rfl rfl ?_
  refine RL.binI (v := .bool (decide (x0 > (6 : Int)))) rfl rfl rfl rfl rfl ?_
  refine RL.pickF rfl rfl rfl rfl ?_
  refine RL.fin ?_
  cases h8
  exact fun a w st => mid_intro (decide (x0 > (6 : Int))) h9 (St.cut [0] ⟨rfl, rfl, rfl, trivial⟩ (by decide) rfl st)
 rintro x5 h14
 have h15 := h10 _ h14
 try dsimp only at h15
 refine GL.weak (env' := [(0, .int .i64 x0), (1, v1), (16, .bool x5)]) (L' := [imm (TR.sl (TR.pair TR.int (TR.pair (TR.sl TR.int) (TR.sl TR.int)))) v1 x1]) (fun _ _ st => st) ?_
 refine GL.cond rfl (fun b16 => ?_) (fun b16 => ?_)
 ·replace h15 := ite_t b16 h15
  refine GL.seq ?_
  refine GL.region ?_
  refine RL.asg rfl rfl rfl ?_
  refine RL.finG ?_
  have h15 := Option.some.inj h15
  subst h15
  exact GL.ret (Gx.ret (v := .int .i64 (1 : Int)) (res1 rfl rfl) (fun a w st => st.toPostV))
 replace h15 := ite_f b16 h15
 refine GL.skip ?_
 refine GL.seq ?_
 refine GL.seq ?_
 obtain ⟨y20, K21, h22, h23, h24, h25, h26⟩ := bindR_K h15
 refine GL.join (ι := Bool) (fun (p : Bool) => [(0, .int .i64 x0), (1, v1), (24, .bool p)]) (fun (p : Bool) => [imm (TR.sl (TR.pair TR.int (TR.pair (TR.sl TR.int) (TR.sl TR.int)))) v1 x1]) (fun (p : Bool) => K21 (.nx p)) ?_ ?_
 ·skip
  refine GL.region ?_
  refine RL.mv rfl rfl rfl ?_
  refine RL.lenS 0 Try.underlying36 rfl rfl rfl rfl SlOf.imm ?_
  refine RL.binI (v := .bool (decide (((x1).length : Int) < (1 : Int)))) rfl rfl rfl rfl rfl ?_
  refine RL.mv rfl rfl rfl ?_
  refine RL.split (t := 20) rfl (fun b27 => ?_) (fun b27 => ?_)
  ·replace h22 := ite_t b27 h22
   refine RL.skip rfl rfl ?_
   refine RL.skip rfl rfl ?_
   refine RL.skip rfl rfl ?_
   refine RL.pickT rfl rfl rfl rfl ?_
   refine RL.fin ?_
   cases h22
   exact fun a w st => mid_intro true h23 (St.cut [0] ⟨rfl, rfl, rfl, trivial⟩ (by decide) rfl st)
  replace h22 := ite_f b27 h22
  refine RL.mv rfl rfl rfl ?_
  refine RL.lenS 0 Try.underlying36 rfl rfl rfl rfl SlOf.imm ?_
  refine RL.binI (v := .bool (decide (((x1).length : Int) > (30 : Int)))) rfl rfl rfl rfl rfl ?_
  refine RL.pickF rfl rfl rfl rfl ?_
  refine RL.fin ?_
  cases h22
  exact fun a w st => mid_intro (decide (((x1).length : Int) > (30 : Int))) h23 (St.cut [0] ⟨rfl, rfl, rfl, trivial⟩ (by decide) rfl st)
 rintro x19 h28
 have h29 := h24 _ h28
 try dsimp only at h29
 refine GL.weak (env' := [(0, .int .i64 x0), (1, v1), (24, .bool x19)]) (L' := [imm (TR.sl (TR.pair TR.int (TR.pair (TR.sl TR.int) (TR.sl TR.int)))) v1 x1]) (fun _ _ st => st) ?_
 refine GL.cond rfl (fun b30 => ?_) (fun b30 => ?_)
 ·replace h29 := ite_t b30 h29
  refine GL.seq ?_
  refine GL.region ?_
  refine RL.asg rfl rfl rfl ?_
  refine RL.finG ?_
  have h29 := Option.some.inj h29
  subst h29
  exact GL.ret (Gx.ret (v := .int .i64 (2 : Int)) (res1 rfl rfl) (fun a w st => st.toPostV))
 replace h29 := ite_f b30 h29
 refine GL.skip ?_
 refine GL.seq ?_
 refine GL.seq ?_
 refine GL.region ?_
 refine RL.mv rfl rfl rfl ?_
 refine RL.lenS 0 Try.underlying36 rfl rfl rfl rfl SlOf.imm ?_
 refine RL.mv rfl rfl rfl ?_
 refine RL.finG ?_
 refine GL.open_ 0 rfl (fun S h => len_imm S h) (fun n216 => ?_)
 obtain ⟨y217, K218, h219, h220, h221, h222, h223⟩ := bindR_K h29
 refine GL.join (ι := Unit) (fun (p : Unit) => []) (fun (p : Unit) => []) (fun (p : Unit) => K218 (.nx ())) ?_ ?_
 ·refine GL.block ?_
  refine GL.loop (ι := Nat × (List (Int × ((List Int) × (List Int))))) (fun (p : Nat × (List (Int × ((List Int) × (List Int))))) => [(0, .int .i64 x0), (1, v1), (25, v1), (26, .int .i64 ((x1).length : Int)), (27, .int .i64 (p.1 : Int))]) (fun (p : Nat × (List (Int × ((List Int) × (List Int))))) => [imm (TR.sl (TR.pair TR.int (TR.pair (TR.sl TR.int) (TR.sl TR.int)))) v1 x1]) (fun (p : Nat × (List (Int × ((List Int) × (List Int))))) => p.1 + p.2.length = (x1).length ∧ List.drop p.1 x1 = p.2 ∧ rangeL (tree_Check_b1 x0 x1) p.2 p.1 () = some y217) (fun (p : Nat × (List (Int × ((List Int) × (List Int))))) => p.2.length) (0, x1) ⟨by simp, by simp, h219⟩ (fun a w st => St.cut [0] ⟨rfl, rfl, rfl, rfl, rfl, trivial⟩ (by decide) rfl st) ?_
  rintro ⟨i224, r225⟩ ⟨h230, h231, h229⟩
  try dsimp only at h230 h231 h229
  refine GL.weak (env' := [(0, .int .i64 x0), (1, v1), (25, v1), (26, .int .i64 ((x1).length : Int)), (27, .int .i64 (i224 : Int))]) (L' := [imm (TR.sl (TR.pair TR.int (TR.pair (TR.sl TR.int) (TR.sl TR.int)))) v1 x1]) (fun _ _ st => st) ?_
  refine GL.seq ?_
  refine GL.region ?_
  refine RL.binI (v := .bool (decide ((i224 : Int) < ((x1).length : Int)))) rfl rfl rfl rfl rfl ?_
  refine RL.finG ?_
  refine GL.seq ?_
  refine GL.cond rfl (fun b232 => ?_) (fun b232 => ?_)
  ·have h233 : i224 < (x1).length := by have := of_decide_eq_true b232; omega
   obtain ⟨y234, r236, hr, e235, h237⟩ := drop_cons h231 rfl h233
   subst hr
   obtain ⟨z226, h227, h228⟩ := rangeL_some h229
   unfold tree_Check_b1 at h227
   try dsimp only at h227
   refine GL.skip ?_
   refine GL.seq ?_
   refine GL.block ?_
   refine GL.seq ?_
   refine GL.region ?_
   refine RL.mv rfl rfl rfl ?_
   refine RL.idxS (sz := 3) 0 Try.underlying36 Try_ln41 rfl rfl rfl rfl rfl SlOf.imm (by omega) (by omega) ?_
   refine RL.ldS (i := i224) (r := (TR.pair TR.int (TR.pair (TR.sl TR.int) (TR.sl TR.int)))) (e' := y234) 0 Try_ln41 rfl rfl rfl rfl SlOf.imm e235 Part.self ?_
   intro v240
   refine RL.alloc (t := (TR.pair TR.int (TR.pair (TR.sl TR.int) (TR.sl TR.int)))) (z := ((0 : Int), ([] : (List Int)), ([] : (List Int)))) Try_lo41 (fun S => ⟨[.int .i64 0], _, rfl, rfl, ⟨[.slice none 0 0], _, rfl, ⟨_, [], rfl, ⟨none, 0, rfl, Nat.le_refl _, Nat.zero_le _, Or.inl ⟨rfl, rfl⟩⟩, rfl⟩, ⟨_, [], rfl, ⟨none, 0, rfl, Nat.le_refl _, Nat.zero_le _, Or.inl ⟨rfl, rfl⟩⟩, rfl⟩⟩⟩) rfl rfl rfl ?_
   intro v241
   refine RL.reL (L' := [imm (TR.sl (TR.pair TR.int (TR.pair (TR.sl TR.int) (TR.sl TR.int)))) v1 x1, imm (TR.pair TR.int (TR.pair (TR.sl TR.int) (TR.sl TR.int))) v240 y234, obox 41 (TR.pair TR.int (TR.pair (TR.sl TR.int) (TR.sl TR.int))) v241 ((0 : Int), ([] : (List Int)), ([] : (List Int)))]) rfl ?_
   refine RL.asg rfl rfl rfl ?_
   refine RL.stP (off := 0) (e' := y234) (d1 := y234) (r := (TR.pair TR.int (TR.pair (TR.sl TR.int) (TR.sl TR.int)))) 2 Try_ln41 rfl rfl (Or.inr ⟨rfl, rfl⟩) rfl (VR.item 1 rfl) rfl Upd.self ?_
   refine RL.finG ?_
   refine GL.seq ?_
   refine GL.seq ?_
   obtain ⟨y245, K246, h247, h248, h249, h250, h251⟩ := bindF_K h227
   refine GL.join (ι := Bool) (fun (p : Bool) => [(0, .int .i64 x0), (1, v1), (5, .int .i64 (i224 : Int)), (6, v241), (25, v1), (26, .int .i64 ((x1).length : Int)), (27, .int .i64 (i224 : Int)), (40, .bool p)]) (fun (p : Bool) => [imm (TR.sl (TR.pair TR.int (TR.pair (TR.sl TR.int) (TR.sl TR.int)))) v1 x1, obox 41 (TR.pair TR.int (TR.pair (TR.sl TR.int) (TR.sl TR.int))) v241 y234]) (fun (p : Bool) => K246 (.nx p)) ?_ ?_
   ·skip
    refine GL.region ?_
    refine RL.fadr (off := 0) (fo := 0) 2 Try_fld41_0 rfl rfl rfl PtOf.obox (Or.inr ⟨rfl, rfl⟩) ?_
    refine RL.ldPx (off := (0 + 0)) (e' := y234.1) 2 Ex.ik Try_ln3 rfl rfl (Or.inl rfl) rfl PtOf.obox (Part.fst Part.self) ?_
    refine RL.binI (v := .bool (decide (y234.1 < (-1 : Int)))) rfl rfl rfl rfl rfl ?_
    refine RL.mv rfl rfl rfl ?_
    refine RL.split (t := 35) rfl (fun b252 => ?_) (fun b252 => ?_)
    ·replace h247 := ite_t b252 h247
     refine RL.skip rfl rfl ?_
     refine RL.skip rfl rfl ?_
     refine RL.skip rfl rfl ?_
     refine RL.skip rfl rfl ?_
     refine RL.pickT rfl rfl rfl rfl ?_
     refine RL.fin ?_
     cases h247
     exact fun a w st => mid_intro true h248 (St.cut [0, 2] ⟨rfl, rfl, rfl, rfl, rfl, rfl, rfl, rfl, trivial⟩ (by decide) rfl st)
    replace h247 := ite_f b252 h247
    refine RL.fadr (off := 0) (fo := 0) 2 Try_fld41_0 rfl rfl rfl PtOf.obox (Or.inr ⟨rfl, rfl⟩) ?_
    refine RL.ldPx (off := (0 + 0)) (e' := y234.1) 2 Ex.ik Try_ln3 rfl rfl (Or.inl rfl) rfl PtOf.obox (Part.fst Part.self) ?_
    refine RL.mv rfl rfl rfl ?_
    refine RL.binI (v := .bool (decide (y234.1 ≥ x0))) rfl rfl rfl rfl rfl ?_
    refine RL.pickF rfl rfl rfl rfl ?_
    refine RL.fin ?_
    cases h247
    exact fun a w st => mid_intro (decide (y234.1 ≥ x0)) h248 (St.cut [0, 2] ⟨rfl, rfl, rfl, rfl, rfl, rfl, rfl, rfl, trivial⟩ (by decide) rfl st)
   rintro x244 h253
   have h254 := h249 _ h253
   try dsimp only at h254
   refine GL.weak (env' := [(0, .int .i64 x0), (1, v1), (5, .int .i64 (i224 : Int)), (6, v241), (25, v1), (26, .int .i64 ((x1).length : Int)), (27, .int .i64 (i224 : Int)), (40, .bool x244)]) (L' := [imm (TR.sl (TR.pair TR.int (TR.pair (TR.sl TR.int) (TR.sl TR.int)))) v1 x1, obox 41 (TR.pair TR.int (TR.pair (TR.sl TR.int) (TR.sl TR.int))) v241 y234]) (fun _ _ st => st) ?_
   refine GL.cond rfl (fun b255 => ?_) (fun b255 => ?_)
   ·replace h254 := ite_t b255 h254
    refine GL.seq ?_
    refine GL.region ?_
    refine RL.asg rfl rfl rfl ?_
    refine RL.finG ?_
    cases h254
    replace h228 : some (Fl.rt _) = some y217 := h228
    cases h228
    have hh := h222 _ h220
    subst hh
    exact GL.ret (Gx.ret (v := .int .i64 (1 : Int)) (res1 rfl rfl) (fun a w st => st.toPostV))
   replace h254 := ite_f b255 h254
   refine GL.skip ?_
   refine GL.seq ?_
   refine GL.seq ?_
   refine GL.region ?_
   refine RL.fadr (off := 0) (fo := 0) 1 Try_fld41_0 rfl rfl rfl PtOf.obox (Or.inr ⟨rfl, rfl⟩) ?_
   refine RL.ldPx (off := (0 + 0)) (e' := y234.1) 1 Ex.ik Try_ln3 rfl rfl (Or.inl rfl) rfl PtOf.obox (Part.fst Part.self) ?_
   refine RL.binI (v := .bool (decide (y234.1 < (0 : Int)))) rfl rfl rfl rfl rfl ?_
   refine RL.finG ?_
   refine GL.cond rfl (fun b256 => ?_) (fun b256 => ?_)
   ·replace h254 := ite_t b256 h254
    refine GL.seq ?_
    refine GL.seq ?_
    obtain ⟨y264, K265, h266, h267, h268, h269, h270⟩ := bindF_K h254
    refine GL.join (ι := Bool) (fun (p : Bool) => [(0, .int .i64 x0), (1, v1), (6, v241), (25, v1), (26, .int .i64 ((x1).length : Int)), (27, .int .i64 (i224 : Int)), (54, .bool p)]) (fun (p : Bool) => [imm (TR.sl (TR.pair TR.int (TR.pair (TR.sl TR.int) (TR.sl TR.int)))) v1 x1, obox 41 (TR.pair TR.int (TR.pair (TR.sl TR.int) (TR.sl TR.int))) v241 y234]) (fun (p : Bool) => K265 (.nx p)) ?_ ?_
    ·skip
     refine GL.region ?_
     refine RL.fadr (off := 0) (fo := 1) 1 Try_fld41_1 rfl rfl rfl PtOf.obox (Or.inr ⟨rfl, rfl⟩) ?_
     refine RL.ldP (off := (0 + 1)) (r := (TR.sl TR.int)) (e' := y234.2.1) 1 Try_ln27 rfl rfl (Or.inl rfl) rfl PtOf.obox (Part.snd (Part.fst Part.self)) ?_
     intro v271
     refine RL.lenS 2 Try.underlying27 rfl rfl rfl rfl SlOf.imm ?_
     refine RL.binI (v := .bool (decide (((y234.2.1).length : Int) > (0 : Int)))) rfl rfl rfl rfl rfl ?_
     refine RL.mv rfl rfl rfl ?_
     refine RL.split (t := 48) rfl (fun b272 => ?_) (fun b272 => ?_)
     ·replace h266 := ite_t b272 h266
      refine RL.skip rfl rfl ?_
      refine RL.skip rfl rfl ?_
      refine RL.skip rfl rfl ?_
      refine RL.skip rfl rfl ?_
      refine RL.skip rfl rfl ?_
      refine RL.pickT rfl rfl rfl rfl ?_
      refine RL.fin ?_
      cases h266
      exact fun a w st => mid_intro true h267 (St.cut [0, 1] ⟨rfl, rfl, rfl, rfl, rfl, rfl, rfl, trivial⟩ (by decide) rfl st)
     replace h266 := ite_f b272 h266
     refine RL.fadr (off := 0) (fo := 2) 1 Try_fld41_2 rfl rfl rfl PtOf.obox (Or.inr ⟨rfl, rfl⟩) ?_
     refine RL.ldP (off := (0 + 2)) (r := (TR.sl TR.int)) (e' := y234.2.2) 1 Try_ln27 rfl rfl (Or.inl rfl) rfl PtOf.obox (Part.snd (Part.snd Part.self)) ?_
     intro v273
     refine RL.reL (L' := [imm (TR.sl (TR.pair TR.int (TR.pair (TR.sl TR.int) (TR.sl TR.int)))) v1 x1, obox 41 (TR.pair TR.int (TR.pair (TR.sl TR.int) (TR.sl TR.int))) v241 y234, imm (TR.sl TR.int) v271 y234.2.1, imm (TR.sl TR.int) v273 y234.2.2]) rfl ?_
     refine RL.lenS 3 Try.underlying27 rfl rfl rfl rfl SlOf.imm ?_
     refine RL.mv rfl rfl rfl ?_
     refine RL.binI (v := .bool (((y234.2.2).length : Int) != x0)) rfl rfl rfl rfl rfl ?_
     refine RL.pickF rfl rfl rfl rfl ?_
     refine RL.fin ?_
     cases h266
     exact fun a w st => mid_intro (((y234.2.2).length : Int) != x0) h267 (St.cut [0, 1] ⟨rfl, rfl, rfl, rfl, rfl, rfl, rfl, trivial⟩ (by decide) rfl st)
    rintro x263 h274
    have h275 := h268 _ h274
    try dsimp only at h275
    refine GL.weak (env' := [(0, .int .i64 x0), (1, v1), (6, v241), (25, v1), (26, .int .i64 ((x1).length : Int)), (27, .int .i64 (i224 : Int)), (54, .bool x263)]) (L' := [imm (TR.sl (TR.pair TR.int (TR.pair (TR.sl TR.int) (TR.sl TR.int)))) v1 x1, obox 41 (TR.pair TR.int (TR.pair (TR.sl TR.int) (TR.sl TR.int))) v241 y234]) (fun _ _ st => st) ?_
    refine GL.cond rfl (fun b276 => ?_) (fun b276 => ?_)
    ·replace h275 := ite_t b276 h275
     refine GL.seq ?_
     refine GL.region ?_
     refine RL.asg rfl rfl rfl ?_
     refine RL.finG ?_
     cases h275
     replace h228 : some (Fl.rt _) = some y217 := h228
     cases h228
     have hh := h222 _ h220
     subst hh
     exact GL.ret (Gx.ret (v := .int .i64 (3 : Int)) (res1 rfl rfl) (fun a w st => st.toPostV))
    replace h275 := ite_f b276 h275
    refine GL.skip ?_
    refine GL.seq ?_
    refine GL.seq ?_
    refine GL.region ?_
    refine RL.fadr (off := 0) (fo := 2) 1 Try_fld41_2 rfl rfl rfl PtOf.obox (Or.inr ⟨rfl, rfl⟩) ?_
    refine RL.ldP (off := (0 + 2)) (r := (TR.sl TR.int)) (e' := y234.2.2) 1 Try_ln27 rfl rfl (Or.inl rfl) rfl PtOf.obox (Part.snd (Part.snd Part.self)) ?_
    intro v278
    refine RL.lenS 2 Try.underlying27 rfl rfl rfl rfl SlOf.imm ?_
    refine RL.mv rfl rfl rfl ?_
    refine RL.finG ?_
    refine GL.open_ 2 rfl (fun S h => len_imm S h) (fun n297 => ?_)
    obtain ⟨y298, K299, h300, h301, h302, h303, h304⟩ := bindF_K h275
    refine GL.join (ι := Unit) (fun (p : Unit) => [(0, .int .i64 x0), (1, v1), (25, v1), (26, .int .i64 ((x1).length : Int)), (27, .int .i64 (i224 : Int))]) (fun (p : Unit) => [imm (TR.sl (TR.pair TR.int (TR.pair (TR.sl TR.int) (TR.sl TR.int)))) v1 x1]) (fun (p : Unit) => K299 (.nx ())) ?_ ?_
    ·refine GL.block ?_
     refine GL.loop (ι := Nat × (List Int)) (fun (p : Nat × (List Int)) => [(0, .int .i64 x0), (1, v1), (25, v1), (26, .int .i64 ((x1).length : Int)), (27, .int .i64 (i224 : Int)), (56, v278), (57, .int .i64 ((y234.2.2).length : Int)), (58, .int .i64 (p.1 : Int))]) (fun (p : Nat × (List Int)) => [imm (TR.sl (TR.pair TR.int (TR.pair (TR.sl TR.int) (TR.sl TR.int)))) v1 x1, imm (TR.sl TR.int) v278 y234.2.2]) (fun (p : Nat × (List Int)) => p.1 + p.2.length = (y234.2.2).length ∧ List.drop p.1 y234.2.2 = p.2 ∧ rangeL tree_Check_b2 p.2 p.1 () = some y298) (fun (p : Nat × (List Int)) => p.2.length) (0, y234.2.2) ⟨by simp, by simp, h300⟩ (fun a w st => St.cut [0, 2] ⟨rfl, rfl, rfl, rfl, rfl, rfl, rfl, rfl, trivial⟩ (by decide) rfl st) ?_
     rintro ⟨i305, r306⟩ ⟨h311, h312, h310⟩
     try dsimp only at h311 h312 h310
     refine GL.weak (env' := [(0, .int .i64 x0), (1, v1), (25, v1), (26, .int .i64 ((x1).length : Int)), (27, .int .i64 (i224 : Int)), (56, v278), (57, .int .i64 ((y234.2.2).length : Int)), (58, .int .i64 (i305 : Int))]) (L' := [imm (TR.sl (TR.pair TR.int (TR.pair (TR.sl TR.int) (TR.sl TR.int)))) v1 x1, imm (TR.sl TR.int) v278 y234.2.2]) (fun _ _ st => st) ?_
     refine GL.seq ?_
     refine GL.region ?_
     refine RL.binI (v := .bool (decide ((i305 : Int) < ((y234.2.2).length : Int)))) rfl rfl rfl rfl rfl ?_
     refine RL.finG ?_
     refine GL.seq ?_
     refine GL.cond rfl (fun b313 => ?_) (fun b313 => ?_)
     ·have h314 : i305 < (y234.2.2).length := by have := of_decide_eq_true b313; omega
      obtain ⟨y315, r317, hr, e316, h318⟩ := drop_cons h312 rfl h314
      subst hr
      obtain ⟨z307, h308, h309⟩ := rangeL_some h310
      unfold tree_Check_b2 at h308
      try dsimp only at h308
      refine GL.skip ?_
      refine GL.seq ?_
      refine GL.block ?_
      refine GL.seq ?_
      refine GL.region ?_
      refine RL.idxS (sz := 1) 1 Try.underlying27 Try_ln3 rfl rfl rfl rfl rfl SlOf.imm (by omega) (by omega) ?_
      refine RL.ldSx (i := i305) (e' := y315) 1 Ex.ik Try_ln3 rfl rfl rfl rfl SlOf.imm e316 Part.self ?_
      refine RL.asg rfl rfl rfl ?_
      refine RL.finG ?_
      refine GL.seq ?_
      obtain ⟨y322, K323, h324, h325, h326, h327, h328⟩ := bindF_K h308
      refine GL.join (ι := Bool) (fun (p : Bool) => [(0, .int .i64 x0), (1, v1), (25, v1), (26, .int .i64 ((x1).length : Int)), (27, .int .i64 (i224 : Int)), (56, v278), (57, .int .i64 ((y234.2.2).length : Int)), (58, .int .i64 (i305 : Int)), (67, .bool p)]) (fun (p : Bool) => [imm (TR.sl (TR.pair TR.int (TR.pair (TR.sl TR.int) (TR.sl TR.int)))) v1 x1, imm (TR.sl TR.int) v278 y234.2.2]) (fun (p : Bool) => K323 (.nx p)) ?_ ?_
      ·skip
       refine GL.region ?_
       refine RL.mv rfl rfl rfl ?_
       refine RL.binI (v := .bool (decide (y315 < (-1000 : Int)))) rfl rfl rfl rfl rfl ?_
       refine RL.mv rfl rfl rfl ?_
       refine RL.split (t := 64) rfl (fun b329 => ?_) (fun b329 => ?_)
       ·replace h324 := ite_t b329 h324
        refine RL.skip rfl rfl ?_
        refine RL.skip rfl rfl ?_
        refine RL.pickT rfl rfl rfl rfl ?_
        refine RL.fin ?_
        cases h324
        exact fun a w st => mid_intro true h325 (St.cut [0, 1] ⟨rfl, rfl, rfl, rfl, rfl, rfl, rfl, rfl, rfl, trivial⟩ (by decide) rfl st)
       replace h324 := ite_f b329 h324
       refine RL.mv rfl rfl rfl ?_
       refine RL.binI (v := .bool (decide (y315 > (1000 : Int)))) rfl rfl rfl rfl rfl ?_
       refine RL.pickF rfl rfl rfl rfl ?_
       refine RL.fin ?_
       cases h324
       exact fun a w st => mid_intro (decide (y315 > (1000 : Int))) h325 (St.cut [0, 1] ⟨rfl, rfl, rfl, rfl, rfl, rfl, rfl, rfl, rfl, trivial⟩ (by decide) rfl st)
      rintro x321 h330
      have h331 := h326 _ h330
      try dsimp only at h331
      refine GL.weak (env' := [(0, .int .i64 x0), (1, v1), (25, v1), (26, .int .i64 ((x1).length : Int)), (27, .int .i64 (i224 : Int)), (56, v278), (57, .int .i64 ((y234.2.2).length : Int)), (58, .int .i64 (i305 : Int)), (67, .bool x321)]) (L' := [imm (TR.sl (TR.pair TR.int (TR.pair (TR.sl TR.int) (TR.sl TR.int)))) v1 x1, imm (TR.sl TR.int) v278 y234.2.2]) (fun _ _ st => st) ?_
      refine GL.cond rfl (fun b332 => ?_) (fun b332 => ?_)
      ·replace h331 := ite_t b332 h331
       refine GL.seq ?_
       refine GL.region ?_
       refine RL.asg rfl rfl rfl ?_
       refine RL.finG ?_
       cases h331
       replace h309 : some (Fl.rt _) = some y298 := h309
       cases h309
       have hh := h303 _ h301
       subst hh
       replace h228 : some (Fl.rt _) = some y217 := h228
       cases h228
       have hh := h222 _ h220
       subst hh
       exact GL.ret (Gx.ret (v := .int .i64 (1 : Int)) (res1 rfl rfl) (fun a w st => st.toPostV))
      replace h331 := ite_f b332 h331
      refine GL.skip ?_
      refine GL.nilB ?_
      refine GL.region ?_
      refine RL.binI (v := .int .i64 ((i305 + 1 : Nat) : Int)) rfl rfl rfl rfl (binI_succ i305 (by omega)) ?_
      refine RL.mv rfl rfl rfl ?_
      refine RL.fin ?_
      cases h331
      exact fun a w st => lop_intro (i305 + 1, r317) ⟨by show i305 + 1 + r317.length = (y234.2.2).length; simp only [List.length_cons] at h311; omega, h318, h309⟩ (by simp) (St.cut [0, 1] ⟨rfl, rfl, rfl, rfl, rfl, rfl, rfl, rfl, trivial⟩ (by decide) rfl st)
     have h314 : ¬ i305 < (y234.2.2).length := by have := of_decide_eq_false b313; omega
     obtain rfl : r306 = [] := by rw [← h312]; exact List.drop_of_length_le (by omega)
     replace h310 : some (Fl.nx _) = some y298 := h310
     cases h310
     exact GL.exit (fun a w st => mid_intro () h301 (St.cut [0] ⟨rfl, rfl, rfl, rfl, rfl, trivial⟩ (by decide) rfl st))
    rintro ⟨⟩ h333
    have h334 := h302 _ h333
    try dsimp only at h334
    refine GL.weak (env' := [(0, .int .i64 x0), (1, v1), (25, v1), (26, .int .i64 ((x1).length : Int)), (27, .int .i64 (i224 : Int))]) (L' := [imm (TR.sl (TR.pair TR.int (TR.pair (TR.sl TR.int) (TR.sl TR.int)))) v1 x1]) (fun _ _ st => st) ?_
    refine GL.exit ?_
    refine Gx.here ?_
    refine GL.region ?_
    refine RL.binI (v := .int .i64 ((i224 + 1 : Nat) : Int)) rfl rfl rfl rfl (binI_succ i224 (by omega)) ?_
    refine RL.mv rfl rfl rfl ?_
    refine RL.fin ?_
    cases h334
    exact fun a w st => lop_intro (i224 + 1, r236) ⟨by show i224 + 1 + r236.length = (x1).length; simp only [List.length_cons] at h230; omega, h237, h228⟩ (by simp) (St.cut [0] ⟨rfl, rfl, rfl, rfl, rfl, trivial⟩ (by decide) rfl st)
   replace h254 := ite_f b256 h254
   refine GL.skip ?_
   refine GL.seq ?_
   refine GL.seq ?_
   obtain ⟨y346, K347, h348, h349, h350, h351, h352⟩ := bindF_K h254
   refine GL.join (ι := Bool) (fun (p : Bool) => [(0, .int .i64 x0), (1, v1), (5, .int .i64 (i224 : Int)), (6, v241), (25, v1), (26, .int .i64 ((x1).length : Int)), (27, .int .i64 (i224 : Int)), (84, .bool p)]) (fun (p : Bool) => [imm (TR.sl (TR.pair TR.int (TR.pair (TR.sl TR.int) (TR.sl TR.int)))) v1 x1, obox 41 (TR.pair TR.int (TR.pair (TR.sl TR.int) (TR.sl TR.int))) v241 y234]) (fun (p : Bool) => K347 (.nx p)) ?_ ?_
   ·skip
    refine GL.region ?_
    refine RL.fadr (off := 0) (fo := 1) 1 Try_fld41_1 rfl rfl rfl PtOf.obox (Or.inr ⟨rfl, rfl⟩) ?_
    refine RL.ldP (off := (0 + 1)) (r := (TR.sl TR.int)) (e' := y234.2.1) 1 Try_ln27 rfl rfl (Or.inl rfl) rfl PtOf.obox (Part.snd (Part.fst Part.self)) ?_
    intro v353
    refine RL.lenS 2 Try.underlying27 rfl rfl rfl rfl SlOf.imm ?_
    refine RL.binI (v := .bool (decide (((y234.2.1).length : Int) < (1 : Int)))) rfl rfl rfl rfl rfl ?_
    refine RL.mv rfl rfl rfl ?_
    refine RL.split (t := 73) rfl (fun b354 => ?_) (fun b354 => ?_)
    ·replace h348 := ite_t b354 h348
     refine RL.skip rfl rfl ?_
     refine RL.skip rfl rfl ?_
     refine RL.skip rfl rfl ?_
     refine RL.skip rfl rfl ?_
     refine RL.pickT rfl rfl rfl rfl ?_
     refine RL.mv rfl rfl rfl ?_
     refine RL.skip rfl rfl ?_
     refine RL.skip rfl rfl ?_
     refine RL.skip rfl rfl ?_
     refine RL.skip rfl rfl ?_
     refine RL.pickT rfl rfl rfl rfl ?_
     refine RL.fin ?_
     cases h348
     exact fun a w st => mid_intro true h349 (St.cut [0, 1] ⟨rfl, rfl, rfl, rfl, rfl, rfl, rfl, rfl, trivial⟩ (by decide) rfl st)
    replace h348 := ite_f b354 h348
    refine RL.fadr (off := 0) (fo := 1) 1 Try_fld41_1 rfl rfl rfl PtOf.obox (Or.inr ⟨rfl, rfl⟩) ?_
    refine RL.ldP (off := (0 + 1)) (r := (TR.sl TR.int)) (e' := y234.2.1) 1 Try_ln27 rfl rfl (Or.inl rfl) rfl PtOf.obox (Part.snd (Part.fst Part.self)) ?_
    intro v355
    refine RL.reL (L' := [imm (TR.sl (TR.pair TR.int (TR.pair (TR.sl TR.int) (TR.sl TR.int)))) v1 x1, obox 41 (TR.pair TR.int (TR.pair (TR.sl TR.int) (TR.sl TR.int))) v241 y234, imm (TR.sl TR.int) v353 y234.2.1, imm (TR.sl TR.int) v355 y234.2.1]) rfl ?_
    refine RL.lenS 3 Try.underlying27 rfl rfl rfl rfl SlOf.imm ?_
    refine RL.binI (v := .bool (decide (((y234.2.1).length : Int) > (6 : Int)))) rfl rfl rfl rfl rfl ?_
    refine RL.pickF rfl rfl rfl rfl ?_
    refine RL.mv rfl rfl rfl ?_
    refine RL.split (t := 79) rfl (fun b356 => ?_) (fun b356 => ?_)
    ·replace h348 := ite_t b356 h348
     refine RL.skip rfl rfl ?_
     refine RL.skip rfl rfl ?_
     refine RL.skip rfl rfl ?_
     refine RL.skip rfl rfl ?_
     refine RL.pickT rfl rfl rfl rfl ?_
     refine RL.fin ?_
     cases h348
     exact fun a w st => mid_intro true h349 (St.cut [0, 1] ⟨rfl, rfl, rfl, rfl, rfl, rfl, rfl, rfl, trivial⟩ (by decide) rfl st)
    replace h348 := ite_f b356 h348
    refine RL.fadr (off := 0) (fo := 2) 1 Try_fld41_2 rfl rfl rfl PtOf.obox (Or.inr ⟨rfl, rfl⟩) ?_
    refine RL.ldP (off := (0 + 2)) (r := (TR.sl TR.int)) (e' := y234.2.2) 1 Try_ln27 rfl rfl (Or.inl rfl) rfl PtOf.obox (Part.snd (Part.snd Part.self)) ?_
    intro v357
    refine RL.lenS 4 Try.underlying27 rfl rfl rfl rfl SlOf.imm ?_
    refine RL.binI (v := .bool (decide (((y234.2.2).length : Int) > (0 : Int)))) rfl rfl rfl rfl rfl ?_
    refine RL.pickF rfl rfl rfl rfl ?_
    refine RL.fin ?_
    cases h348
    exact fun a w st => mid_intro (decide (((y234.2.2).length : Int) > (0 : Int))) h349 (St.cut [0, 1] ⟨rfl, rfl, rfl, rfl, rfl, rfl, rfl, rfl, trivial⟩ (by decide) rfl st)
   rintro x345 h358
   have h359 := h350 _ h358
   try dsimp only at h359
   refine GL.weak (env' := [(0, .int .i64 x0), (1, v1), (5, .int .i64 (i224 : Int)), (6, v241), (25, v1), (26, .int .i64 ((x1).length : Int)), (27, .int .i64 (i224 : Int)), (84, .bool x345)]) (L' := [imm (TR.sl (TR.pair TR.int (TR.pair (TR.sl TR.int) (TR.sl TR.int)))) v1 x1, obox 41 (TR.pair TR.int (TR.pair (TR.sl TR.int) (TR.sl TR.int))) v241 y234]) (fun _ _ st => st) ?_
   refine GL.cond rfl (fun b360 => ?_) (fun b360 => ?_)
   ·replace h359 := ite_t b360 h359
    refine GL.seq ?_
    refine GL.region ?_
    refine RL.asg rfl rfl rfl ?_
    refine RL.finG ?_
    cases h359
    replace h228 : some (Fl.rt _) = some y217 := h228
    cases h228
    have hh := h222 _ h220
    subst hh
    exact GL.ret (Gx.ret (v := .int .i64 (3 : Int)) (res1 rfl rfl) (fun a w st => st.toPostV))
   replace h359 := ite_f b360 h359
   refine GL.skip ?_
   refine GL.seq ?_
   refine GL.region ?_
   refine RL.fadr (off := 0) (fo := 1) 1 Try_fld41_1 rfl rfl rfl PtOf.obox (Or.inr ⟨rfl, rfl⟩) ?_
   refine RL.ldP (off := (0 + 1)) (r := (TR.sl TR.int)) (e' := y234.2.1) 1 Try_ln27 rfl rfl (Or.inl rfl) rfl PtOf.obox (Part.snd (Part.fst Part.self)) ?_
   intro v362
   refine RL.lenS 2 Try.underlying27 rfl rfl rfl rfl SlOf.imm ?_
   refine RL.mv rfl rfl rfl ?_
   refine RL.finG ?_
   refine GL.open_ 2 rfl (fun S h => len_imm S h) (fun n381 => ?_)
   obtain ⟨y382, K383, h384, h385, h386, h387, h388⟩ := bindF_K h359
   refine GL.join (ι := Unit) (fun (p : Unit) => [(0, .int .i64 x0), (1, v1), (25, v1), (26, .int .i64 ((x1).length : Int)), (27, .int .i64 (i224 : Int))]) (fun (p : Unit) => [imm (TR.sl (TR.pair TR.int (TR.pair (TR.sl TR.int) (TR.sl TR.int)))) v1 x1]) (fun (p : Unit) => K383 (.nx ())) ?_ ?_
   ·refine GL.block ?_
    refine GL.loop (ι := Nat × (List Int)) (fun (p : Nat × (List Int)) => [(0, .int .i64 x0), (1, v1), (5, .int .i64 (i224 : Int)), (25, v1), (26, .int .i64 ((x1).length : Int)), (27, .int .i64 (i224 : Int)), (86, v362), (87, .int .i64 ((y234.2.1).length : Int)), (88, .int .i64 (p.1 : Int))]) (fun (p : Nat × (List Int)) => [imm (TR.sl (TR.pair TR.int (TR.pair (TR.sl TR.int) (TR.sl TR.int)))) v1 x1, imm (TR.sl TR.int) v362 y234.2.1]) (fun (p : Nat × (List Int)) => p.1 + p.2.length = (y234.2.1).length ∧ List.drop p.1 y234.2.1 = p.2 ∧ rangeL (tree_Check_b3 i224 x1) p.2 p.1 () = some y382) (fun (p : Nat × (List Int)) => p.2.length) (0, y234.2.1) ⟨by simp, by simp, h384⟩ (fun a w st => St.cut [0, 2] ⟨rfl, rfl, rfl, rfl, rfl, rfl, rfl, rfl, rfl, trivial⟩ (by decide) rfl st) ?_
    rintro ⟨i389, r390⟩ ⟨h395, h396, h394⟩
    try dsimp only at h395 h396 h394
    refine GL.weak (env' := [(0, .int .i64 x0), (1, v1), (5, .int .i64 (i224 : Int)), (25, v1), (26, .int .i64 ((x1).length : Int)), (27, .int .i64 (i224 : Int)), (86, v362), (87, .int .i64 ((y234.2.1).length : Int)), (88, .int .i64 (i389 : Int))]) (L' := [imm (TR.sl (TR.pair TR.int (TR.pair (TR.sl TR.int) (TR.sl TR.int)))) v1 x1, imm (TR.sl TR.int) v362 y234.2.1]) (fun _ _ st => st) ?_
    refine GL.seq ?_
    refine GL.region ?_
    refine RL.binI (v := .bool (decide ((i389 : Int) < ((y234.2.1).length : Int)))) rfl rfl rfl rfl rfl ?_
    refine RL.finG ?_
    refine GL.seq ?_
    refine GL.cond rfl (fun b397 => ?_) (fun b397 => ?_)
    ·have h398 : i389 < (y234.2.1).length := by have := of_decide_eq_true b397; omega
     obtain ⟨y399, r401, hr, e400, h402⟩ := drop_cons h396 rfl h398
     subst hr
     obtain ⟨z391, h392, h393⟩ := rangeL_some h394
     unfold tree_Check_b3 at h392
     try dsimp only at h392
     refine GL.skip ?_
     refine GL.seq ?_
     refine GL.block ?_
     refine GL.seq ?_
     refine GL.region ?_
     refine RL.idxS (sz := 1) 1 Try.underlying27 Try_ln3 rfl rfl rfl rfl rfl SlOf.imm (by omega) (by omega) ?_
     refine RL.ldSx (i := i389) (e' := y399) 1 Ex.ik Try_ln3 rfl rfl rfl rfl SlOf.imm e400 Part.self ?_
     refine RL.asg rfl rfl rfl ?_
     refine RL.finG ?_
     refine GL.seq ?_
     obtain ⟨y406, K407, h408, h409, h410, h411, h412⟩ := bindF_K h392
     refine GL.join (ι := Bool) (fun (p : Bool) => [(0, .int .i64 x0), (1, v1), (5, .int .i64 (i224 : Int)), (25, v1), (26, .int .i64 ((x1).length : Int)), (27, .int .i64 (i224 : Int)), (86, v362), (87, .int .i64 ((y234.2.1).length : Int)), (88, .int .i64 (i389 : Int)), (100, .bool p)]) (fun (p : Bool) => [imm (TR.sl (TR.pair TR.int (TR.pair (TR.sl TR.int) (TR.sl TR.int)))) v1 x1, imm (TR.sl TR.int) v362 y234.2.1]) (fun (p : Bool) => K407 (.nx p)) ?_ ?_
     ·skip
      refine GL.region ?_
      refine RL.mv rfl rfl rfl ?_
      refine RL.mv rfl rfl rfl ?_
      refine RL.binI (v := .bool (decide (y399 ≤ (i224 : Int)))) rfl rfl rfl rfl rfl ?_
      refine RL.mv rfl rfl rfl ?_
      refine RL.split (t := 95) rfl (fun b413 => ?_) (fun b413 => ?_)
      ·replace h408 := ite_t b413 h408
       refine RL.skip rfl rfl ?_
       refine RL.skip rfl rfl ?_
       refine RL.skip rfl rfl ?_
       refine RL.skip rfl rfl ?_
       refine RL.pickT rfl rfl rfl rfl ?_
       refine RL.fin ?_
       cases h408
       exact fun a w st => mid_intro true h409 (St.cut [0, 1] ⟨rfl, rfl, rfl, rfl, rfl, rfl, rfl, rfl, rfl, rfl, trivial⟩ (by decide) rfl st)
      replace h408 := ite_f b413 h408
      refine RL.mv rfl rfl rfl ?_
      refine RL.mv rfl rfl rfl ?_
      refine RL.lenS 0 Try.underlying36 rfl rfl rfl rfl SlOf.imm ?_
      refine RL.binI (v := .bool (decide (y399 ≥ ((x1).length : Int)))) rfl rfl rfl rfl rfl ?_
      refine RL.pickF rfl rfl rfl rfl ?_
      refine RL.fin ?_
      cases h408
      exact fun a w st => mid_intro (decide (y399 ≥ ((x1).length : Int))) h409 (St.cut [0, 1] ⟨rfl, rfl, rfl, rfl, rfl, rfl, rfl, rfl, rfl, rfl, trivial⟩ (by decide) rfl st)
     rintro x405 h414
     have h415 := h410 _ h414
     try dsimp only at h415
     refine GL.weak (env' := [(0, .int .i64 x0), (1, v1), (5, .int .i64 (i224 : Int)), (25, v1), (26, .int .i64 ((x1).length : Int)), (27, .int .i64 (i224 : Int)), (86, v362), (87, .int .i64 ((y234.2.1).length : Int)), (88, .int .i64 (i389 : Int)), (100, .bool x405)]) (L' := [imm (TR.sl (TR.pair TR.int (TR.pair (TR.sl TR.int) (TR.sl TR.int)))) v1 x1, imm (TR.sl TR.int) v362 y234.2.1]) (fun _ _ st => st) ?_
     refine GL.cond rfl (fun b416 => ?_) (fun b416 => ?_)
     ·replace h415 := ite_t b416 h415
      refine GL.seq ?_
      refine GL.region ?_
      refine RL.asg rfl rfl rfl ?_
      refine RL.finG ?_
      cases h415
      replace h393 : some (Fl.rt _) = some y382 := h393
      cases h393
      have hh := h387 _ h385
      subst hh
      replace h228 : some (Fl.rt _) = some y217 := h228
      cases h228
      have hh := h222 _ h220
      subst hh
      exact GL.ret (Gx.ret (v := .int .i64 (4 : Int)) (res1 rfl rfl) (fun a w st => st.toPostV))
     replace h415 := ite_f b416 h415
     refine GL.skip ?_
     refine GL.nilB ?_
     refine GL.region ?_
     refine RL.binI (v := .int .i64 ((i389 + 1 : Nat) : Int)) rfl rfl rfl rfl (binI_succ i389 (by omega)) ?_
     refine RL.mv rfl rfl rfl ?_
     refine RL.fin ?_
     cases h415
     exact fun a w st => lop_intro (i389 + 1, r401) ⟨by show i389 + 1 + r401.length = (y234.2.1).length; simp only [List.length_cons] at h395; omega, h402, h393⟩ (by simp) (St.cut [0, 1] ⟨rfl, rfl, rfl, rfl, rfl, rfl, rfl, rfl, rfl, trivial⟩ (by decide) rfl st)
    have h398 : ¬ i389 < (y234.2.1).length := by have := of_decide_eq_false b397; omega
    obtain rfl : r390 = [] := by rw [← h396]; exact List.drop_of_length_le (by omega)
    replace h394 : some (Fl.nx _) = some y382 := h394
    cases h394
    exact GL.exit (fun a w st => mid_intro () h385 (St.cut [0] ⟨rfl, rfl, rfl, rfl, rfl, trivial⟩ (by decide) rfl st))
   rintro ⟨⟩ h417
   have h418 := h386 _ h417
   try dsimp only at h418
   refine GL.weak (env' := [(0, .int .i64 x0), (1, v1), (25, v1), (26, .int .i64 ((x1).length : Int)), (27, .int .i64 (i224 : Int))]) (L' := [imm (TR.sl (TR.pair TR.int (TR.pair (TR.sl TR.int) (TR.sl TR.int)))) v1 x1]) (fun _ _ st => st) ?_
   refine GL.nilB ?_
   refine GL.region ?_
   refine RL.binI (v := .int .i64 ((i224 + 1 : Nat) : Int)) rfl rfl rfl rfl (binI_succ i224 (by omega)) ?_
   refine RL.mv rfl rfl rfl ?_
   refine RL.fin ?_
   cases h418
   exact fun a w st => lop_intro (i224 + 1, r236) ⟨by show i224 + 1 + r236.length = (x1).length; simp only [List.length_cons] at h230; omega, h237, h228⟩ (by simp) (St.cut [0] ⟨rfl, rfl, rfl, rfl, rfl, trivial⟩ (by decide) rfl st)
  have h233 : ¬ i224 < (x1).length := by have := of_decide_eq_false b232; omega
  obtain rfl : r225 = [] := by rw [← h231]; exact List.drop_of_length_le (by omega)
  replace h229 : some (Fl.nx _) = some y217 := h229
  cases h229
  exact GL.exit (fun a w st => mid_intro () h220 (St.cut [] trivial (by decide) rfl st))
 rintro ⟨⟩ h419
 have h420 := h221 _ h419
 try dsimp only at h420
 refine GL.weak (env' := []) (L' := []) (fun _ _ st => st) ?_
 refine GL.seq ?_
 refine GL.region ?_
 refine RL.asg rfl rfl rfl ?_
 refine RL.finG ?_
 have h420 := Option.some.inj h420
 subst h420
 exact GL.ret (Gx.ret (v := .int .i64 (0 : Int)) (res1 rfl rfl) (fun a w st => st.toPostV))

set_option maxHeartbeats 4000000 in
theorem tree_Solve_c (S : Hp) (w : World) (hS : S.sub w) (x0 : Int) (v1 : Value) (x1 : (List (Int × ((List Int) × (List Int))))) (k1 : ((TR.sl (TR.pair TR.int (TR.pair (TR.sl TR.int) (TR.sl TR.int))))).vrep S v1 x1) (res : (List Int) × (List (List Int)) × Int) (hm : tree_Solve_m x0 x1 = some res) : Calls Try.prog 15 #[.int .i64 x0, v1] w (Post w S (fun (o : Value × Value) => .tuple #[o.1, o.2, .int .i64 res.2.2]) (fun (o : Value × Value) => [own 3 TR.int o.1 res.1, own 27 (TR.sl TR.int) o.2 res.2.1])) := by
 refine calls_enter 101 Try.func15 Try.ntmps15 rfl S false [(0, .int .i64 x0), (1, v1)] [imm (TR.sl (TR.pair TR.int (TR.pair (TR.sl TR.int) (TR.sl TR.int)))) v1 x1] rfl ⟨rfl, ⟨rfl, trivial⟩⟩ hS ⟨k1, trivial⟩ ?_
 unfold tree_Solve_m at hm
 refine GL.seq ?_
 refine GL.region ?_
 refine RL.asg rfl rfl rfl ?_
 refine RL.asg rfl rfl rfl ?_
 refine RL.asg rfl rfl rfl ?_
 refine RL.finG ?_
 refine GL.seq ?_
 refine GL.seq ?_
 refine GL.region ?_
 refine RL.mv rfl rfl rfl ?_
 refine RL.mv rfl rfl rfl ?_
 obtain ⟨y5, e6, hm⟩ := bind_some hm
 refine RL.callV (v := .int .i64 y5) (vs := [.int .i64 x0, v1]) Try_fit36 rfl (Or.inl rfl) rfl rfl rfl rfl (fun U w hU hW hL => tree_Check_c U w hU x0 _ _ (hL 0 _ _ rfl Seen.imm) _ e6) ?_
 refine RL.asg rfl rfl rfl ?_
 refine RL.finG ?_
 refine GL.seq ?_
 refine GL.region ?_
 refine RL.mv rfl rfl rfl ?_
 refine RL.binI (v := .bool (y5 != (0 : Int))) rfl rfl rfl rfl rfl ?_
 refine RL.finG ?_
 refine GL.cond rfl (fun b7 => ?_) (fun b7 => ?_)
 ·replace hm := ite_t b7 hm
  refine GL.seq ?_
  refine GL.region ?_
  refine RL.mv rfl rfl rfl ?_
  refine RL.asg rfl rfl rfl ?_
  refine RL.asg rfl rfl rfl ?_
  refine RL.asg rfl rfl rfl ?_
  refine RL.finG ?_
  refine GL.weak (fun a w st => st.nilOwn 3 TR.int) ?_
  refine GL.weak (fun a w st => st.nilOwn 27 (TR.sl TR.int)) ?_
  have hm := Option.some.inj hm
  subst hm
  exact GL.ret (Gx.ret (v := .tuple #[Value.slice none 0 0, Value.slice none 0 0, .int .i64 y5]) (res3 rfl rfl rfl rfl) (fun a w st => (st.pick [1, 2] (by decide) rfl).toPost (Value.slice none 0 0, Value.slice none 0 0)))
 replace hm := ite_f b7 hm
 refine GL.skip ?_
 refine GL.seq ?_
 refine GL.region ?_
 refine RL.mv rfl rfl rfl ?_
 refine RL.lenS 0 Try.underlying36 rfl rfl rfl rfl SlOf.imm ?_
 obtain ⟨y11, e12, hm⟩ := bind_some hm
 replace e12 := chk_some e12
 refine RL.mkS (t := TR.int) (z := (0 : Int)) Try.underlying27 Try_lo3 (fun S => rfl) rfl rfl rfl rfl e12.1 e12.2 ?_
 intro v13
 refine RL.asg rfl rfl rfl ?_
 refine RL.finG ?_
 refine GL.seq ?_
 refine GL.region ?_
 refine RL.mv rfl rfl rfl ?_
 refine RL.lenS 0 Try.underlying36 rfl rfl rfl rfl SlOf.imm ?_
 obtain ⟨y17, e18, hm⟩ := bind_some hm
 replace e18 := chk_some e18
 refine RL.mkS (t := (TR.sl TR.int)) (z := ([] : (List Int))) Try.underlying37 Try_lo27 (fun S => ⟨_, [], rfl, ⟨none, 0, rfl, Nat.le_refl _, Nat.zero_le _, Or.inl ⟨rfl, rfl⟩⟩, rfl⟩) rfl rfl rfl rfl e18.1 e18.2 ?_
 intro v19
 refine RL.reL (L' := [imm (TR.sl (TR.pair TR.int (TR.pair (TR.sl TR.int) (TR.sl TR.int)))) v1 x1, own 3 TR.int v13 (List.replicate (((x1).length : Int)).toNat (0 : Int)), own 27 (TR.sl TR.int) v19 (List.replicate (((x1).length : Int)).toNat ([] : (List Int)))]) rfl ?_
 refine RL.asg rfl rfl rfl ?_
 refine RL.finG ?_
 refine GL.seq ?_
 refine GL.seq ?_
 refine GL.region ?_
 refine RL.mv rfl rfl rfl ?_
 refine RL.lenS 0 Try.underlying36 rfl rfl rfl rfl SlOf.imm ?_
 refine RL.binI (v := .int .i64 (wsub ((x1).length : Int) (1 : Int))) rfl rfl rfl rfl rfl ?_
 refine RL.asg rfl rfl rfl ?_
 refine RL.finG ?_
 obtain ⟨y306, K307, h308, h309, h310, h311, h312⟩ := bindR_K hm
 refine GL.join (ι := (List Int) × (List (List Int)) × Int) (fun (p : (List Int) × (List (List Int)) × Int) => [(8, v13), (9, v19)]) (fun (p : (List Int) × (List (List Int)) × Int) => [own 3 TR.int v13 p.1, own 27 (TR.sl TR.int) v19 p.2.1]) (fun (p : (List Int) × (List (List Int)) × Int) => K307 (.nx (p.1, p.2.1, p.2.2))) ?_ ?_
 ·refine GL.block ?_
  refine GL.loop (ι := Nat × (List Int) × (List (List Int)) × Int) (fun (p : Nat × (List Int) × (List (List Int)) × Int) => [(1, v1), (8, v13), (9, v19), (10, .int .i64 p.2.2.2)]) (fun (p : Nat × (List Int) × (List (List Int)) × Int) => [imm (TR.sl (TR.pair TR.int (TR.pair (TR.sl TR.int) (TR.sl TR.int)))) v1 x1, own 3 TR.int v13 p.2.1, own 27 (TR.sl TR.int) v19 p.2.2.1]) (fun (p : Nat × (List Int) × (List (List Int)) × Int) => loopM (tree_Solve_b1 x1) p.1 (p.2.1, p.2.2.1, p.2.2.2) = some y306) (fun (p : Nat × (List Int) × (List (List Int)) × Int) => p.1) (1048576, (List.replicate (((x1).length : Int)).toNat (0 : Int)), (List.replicate (((x1).length : Int)).toNat ([] : (List Int))), wsub ((x1).length : Int) (1 : Int)) h308 (fun a w st => St.cut [0, 1, 2] ⟨rfl, rfl, rfl, rfl, trivial⟩ (by decide) rfl st) ?_
  rintro ⟨r314, l162, l163, x164⟩ h318
  try dsimp only at h318
  refine GL.weak (env' := [(1, v1), (8, v13), (9, v19), (10, .int .i64 x164)]) (L' := [imm (TR.sl (TR.pair TR.int (TR.pair (TR.sl TR.int) (TR.sl TR.int)))) v1 x1, own 3 TR.int v13 l162, own 27 (TR.sl TR.int) v19 l163]) (fun _ _ st => st) ?_
  obtain ⟨r321, z315, hr, h316, h317⟩ := loopM_some h318
  subst hr
  unfold tree_Solve_b1 at h316
  try dsimp only at h316
  refine GL.seq ?_
  refine GL.seq ?_
  refine GL.region ?_
  refine RL.mv rfl rfl rfl ?_
  refine RL.binI (v := .bool (decide (x164 ≥ (0 : Int)))) rfl rfl rfl rfl rfl ?_
  refine RL.finG ?_
  refine GL.cond rfl (fun b322 => ?_) (fun b322 => ?_)
  ·replace h316 := ite_t b322 h316
   refine GL.skip ?_
   refine GL.seq ?_
   refine GL.block ?_
   refine GL.seq ?_
   refine GL.region ?_
   refine RL.mv rfl rfl rfl ?_
   refine RL.mv rfl rfl rfl ?_
   obtain ⟨y327, e328, h316⟩ := bind_some h316
   refine RL.idxS (sz := 3) 0 Try.underlying36 Try_ln41 rfl rfl rfl rfl rfl SlOf.imm (idx_some e328).1 (idx_some e328).2.1 ?_
   refine RL.ldS (i := (x164).toNat) (r := (TR.pair TR.int (TR.pair (TR.sl TR.int) (TR.sl TR.int)))) (e' := y327) 0 Try_ln41 rfl rfl rfl rfl SlOf.imm (idx_some e328).2.2 Part.self ?_
   intro v329
   refine RL.alloc (t := (TR.pair TR.int (TR.pair (TR.sl TR.int) (TR.sl TR.int)))) (z := ((0 : Int), ([] : (List Int)), ([] : (List Int)))) Try_lo41 (fun S => ⟨[.int .i64 0], _, rfl, rfl, ⟨[.slice none 0 0], _, rfl, ⟨_, [], rfl, ⟨none, 0, rfl, Nat.le_refl _, Nat.zero_le _, Or.inl ⟨rfl, rfl⟩⟩, rfl⟩, ⟨_, [], rfl, ⟨none, 0, rfl, Nat.le_refl _, Nat.zero_le _, Or.inl ⟨rfl, rfl⟩⟩, rfl⟩⟩⟩) rfl rfl rfl ?_
   intro v330
   refine RL.reL (L' := [imm (TR.sl (TR.pair TR.int (TR.pair (TR.sl TR.int) (TR.sl TR.int)))) v1 x1, own 3 TR.int v13 l162, own 27 (TR.sl TR.int) v19 l163, imm (TR.pair TR.int (TR.pair (TR.sl TR.int) (TR.sl TR.int))) v329 y327, obox 41 (TR.pair TR.int (TR.pair (TR.sl TR.int) (TR.sl TR.int))) v330 ((0 : Int), ([] : (List Int)), ([] : (List Int)))]) rfl ?_
   refine RL.stP (off := 0) (e' := y327) (d1 := y327) (r := (TR.pair TR.int (TR.pair (TR.sl TR.int) (TR.sl TR.int)))) 4 Try_ln41 rfl rfl (Or.inr ⟨rfl, rfl⟩) rfl (VR.item 3 rfl) rfl Upd.self ?_
   refine RL.finG ?_
   refine GL.seq ?_
   refine GL.seq ?_
   refine GL.region ?_
   refine RL.fadr (off := 0) (fo := 0) 4 Try_fld41_0 rfl rfl rfl PtOf.obox (Or.inr ⟨rfl, rfl⟩) ?_
   refine RL.ldPx (off := (0 + 0)) (e' := y327.1) 4 Ex.ik Try_ln3 rfl rfl (Or.inl rfl) rfl PtOf.obox (Part.fst Part.self) ?_
   refine RL.binI (v := .bool (decide (y327.1 < (0 : Int)))) rfl rfl rfl rfl rfl ?_
   refine RL.finG ?_
   refine GL.cond rfl (fun b331 => ?_) (fun b331 => ?_)
   ·replace h316 := ite_t b331 h316
    refine GL.seq ?_
    refine GL.region ?_
    refine RL.mv rfl rfl rfl ?_
    refine RL.mv rfl rfl rfl ?_
    refine RL.bS (t := TR.int) (vs := []) ([] : (List Int)) Try.underlying27 Try_lo3 rfl rfl rfl rfl trivial rfl (by decide) ?_
    intro v339
    refine RL.reL (L' := [imm (TR.sl (TR.pair TR.int (TR.pair (TR.sl TR.int) (TR.sl TR.int)))) v1 x1, own 3 TR.int v13 l162, own 27 (TR.sl TR.int) v19 l163, imm (TR.pair TR.int (TR.pair (TR.sl TR.int) (TR.sl TR.int))) v329 y327, obox 41 (TR.pair TR.int (TR.pair (TR.sl TR.int) (TR.sl TR.int))) v330 y327, own 3 TR.int v339 ([] : (List Int))]) rfl ?_
    refine RL.fadr (off := 0) (fo := 2) 4 Try_fld41_2 rfl rfl rfl PtOf.obox (Or.inr ⟨rfl, rfl⟩) ?_
    refine RL.ldP (off := (0 + 2)) (r := (TR.sl TR.int)) (e' := y327.2.2) 4 Try_ln27 rfl rfl (Or.inl rfl) rfl PtOf.obox (Part.snd (Part.snd Part.self)) ?_
    intro v340
    obtain ⟨y341, e342, h316⟩ := bind_some h316
    replace e342 := chk_some e342
    refine RL.app 5 6 Try.underlying27 Try_lo3 rfl rfl rfl rfl rfl rfl rfl SlOf.imm e342 ?_
    intro v343
    refine RL.reL (L' := [imm (TR.sl (TR.pair TR.int (TR.pair (TR.sl TR.int) (TR.sl TR.int)))) v1 x1, own 3 TR.int v13 l162, own 27 (TR.sl TR.int) v19 l163, imm (TR.pair TR.int (TR.pair (TR.sl TR.int) (TR.sl TR.int))) v329 y327, obox 41 (TR.pair TR.int (TR.pair (TR.sl TR.int) (TR.sl TR.int))) v330 y327, own 3 TR.int v343 (([] : (List Int)) ++ y327.2.2), imm (TR.sl TR.int) v340 y327.2.2]) rfl ?_
    obtain ⟨y344, e345, h316⟩ := bind_some h316
    refine RL.idxS (sz := 1) 2 Try.underlying37 Try_ln27 rfl rfl rfl rfl rfl SlOf.own (idx_some e345).1 (idx_some e345).2.1 ?_
    refine RL.weak (fun a w st => st.freeze 5 rfl) ?_
    refine RL.stS (i := (x164).toNat) (e' := (([] : (List Int)) ++ y327.2.2)) (e1 := (([] : (List Int)) ++ y327.2.2)) (r := (TR.sl TR.int)) 2 Try_ln27 rfl rfl rfl rfl (VR.item 5 rfl) rfl (idx_some e345).2.2 Upd.self ?_
    refine RL.reL (L' := [imm (TR.sl (TR.pair TR.int (TR.pair (TR.sl TR.int) (TR.sl TR.int)))) v1 x1, own 3 TR.int v13 l162, own 27 (TR.sl TR.int) v19 (List.set l163 ((x164).toNat) (([] : (List Int)) ++ y327.2.2)), imm (TR.pair TR.int (TR.pair (TR.sl TR.int) (TR.sl TR.int))) v329 y327, obox 41 (TR.pair TR.int (TR.pair (TR.sl TR.int) (TR.sl TR.int))) v330 y327, imm (TR.sl TR.int) v343 (([] : (List Int)) ++ y327.2.2), imm (TR.sl TR.int) v340 y327.2.2]) rfl ?_
    refine RL.finG ?_
    refine GL.seq ?_
    refine GL.region ?_
    refine RL.mv rfl rfl rfl ?_
    refine RL.mv rfl rfl rfl ?_
    obtain ⟨y348, e349, h316⟩ := bind_some h316
    refine RL.idxS (sz := 1) 1 Try.underlying27 Try_ln3 rfl rfl rfl rfl rfl SlOf.own (idx_some e349).1 (idx_some e349).2.1 ?_
    refine RL.stS (i := (x164).toNat) (e' := (-1 : Int)) (e1 := (-1 : Int)) (r := TR.int) 1 Try_ln3 rfl rfl rfl rfl VR.int rfl (idx_some e349).2.2 Upd.self ?_
    refine RL.finG ?_
    refine GL.exit ?_
    refine Gx.here ?_
    refine GL.region ?_
    refine RL.mv rfl rfl rfl ?_
    refine RL.binI (v := .int .i64 (wsub x164 (1 : Int))) rfl rfl rfl rfl rfl ?_
    refine RL.asg rfl rfl rfl ?_
    refine RL.finG ?_
    cases h316
    exact fun a w st => lop_intro (r321, (List.set l162 ((x164).toNat) (-1 : Int)), (List.set l163 ((x164).toNat) (([] : (List Int)) ++ y327.2.2)), wsub x164 (1 : Int)) (by exact h317) (by simp) (St.cut [0, 1, 2] ⟨rfl, rfl, rfl, rfl, trivial⟩ (by decide) rfl st)
   replace h316 := ite_f b331 h316
   refine GL.skip ?_
   refine GL.seq ?_
   refine GL.region ?_
   refine RL.asg rfl rfl rfl ?_
   refine RL.finG ?_
   refine GL.seq ?_
   refine GL.seq ?_
   refine GL.region ?_
   refine RL.fadr (off := 0) (fo := 1) 4 Try_fld41_1 rfl rfl rfl PtOf.obox (Or.inr ⟨rfl, rfl⟩) ?_
   refine RL.ldP (off := (0 + 1)) (r := (TR.sl TR.int)) (e' := y327.2.1) 4 Try_ln27 rfl rfl (Or.inl rfl) rfl PtOf.obox (Part.snd (Part.fst Part.self)) ?_
   intro v351
   refine RL.reL (L' := [imm (TR.sl (TR.pair TR.int (TR.pair (TR.sl TR.int) (TR.sl TR.int)))) v1 x1, own 3 TR.int v13 l162, own 27 (TR.sl TR.int) v19 l163, imm (TR.pair TR.int (TR.pair (TR.sl TR.int) (TR.sl TR.int))) v329 y327, obox 41 (TR.pair TR.int (TR.pair (TR.sl TR.int) (TR.sl TR.int))) v330 y327, imm (TR.sl TR.int) v351 y327.2.1]) rfl ?_
   refine RL.lenS 5 Try.underlying27 rfl rfl rfl rfl SlOf.imm ?_
   refine RL.mv rfl rfl rfl ?_
   refine RL.finG ?_
   refine GL.open_ 5 rfl (fun S h => len_imm S h) (fun n384 => ?_)
   obtain ⟨y385, K386, h387, h388, h389, h390, h391⟩ := bindF_K h316
   refine GL.join (ι := Int) (fun (p : Int) => [(1, v1), (8, v13), (9, v19), (10, .int .i64 x164), (11, v330), (12, .int .i64 p)]) (fun (p : Int) => [imm (TR.sl (TR.pair TR.int (TR.pair (TR.sl TR.int) (TR.sl TR.int)))) v1 x1, own 3 TR.int v13 l162, own 27 (TR.sl TR.int) v19 l163, obox 41 (TR.pair TR.int (TR.pair (TR.sl TR.int) (TR.sl TR.int))) v330 y327]) (fun (p : Int) => K386 (.nx p)) ?_ ?_
   ·refine GL.block ?_
    refine GL.loop (ι := Nat × (List Int) × Int) (fun (p : Nat × (List Int) × Int) => [(1, v1), (8, v13), (9, v19), (10, .int .i64 x164), (11, v330), (12, .int .i64 p.2.2), (52, v351), (53, .int .i64 ((y327.2.1).length : Int)), (54, .int .i64 (p.1 : Int))]) (fun (p : Nat × (List Int) × Int) => [imm (TR.sl (TR.pair TR.int (TR.pair (TR.sl TR.int) (TR.sl TR.int)))) v1 x1, own 3 TR.int v13 l162, own 27 (TR.sl TR.int) v19 l163, obox 41 (TR.pair TR.int (TR.pair (TR.sl TR.int) (TR.sl TR.int))) v330 y327, imm (TR.sl TR.int) v351 y327.2.1]) (fun (p : Nat × (List Int) × Int) => p.1 + p.2.1.length = (y327.2.1).length ∧ List.drop p.1 y327.2.1 = p.2.1 ∧ rangeL (tree_Solve_b2 l163 y327) p.2.1 p.1 p.2.2 = some y385) (fun (p : Nat × (List Int) × Int) => p.2.1.length) (0, y327.2.1, (0 : Int)) ⟨by simp, by simp, h387⟩ (fun a w st => St.cut [0, 1, 2, 4, 5] ⟨rfl, rfl, rfl, rfl, rfl, rfl, rfl, rfl, rfl, trivial⟩ (by decide) rfl st) ?_
    rintro ⟨i392, r393, x352⟩ ⟨h398, h399, h397⟩
    try dsimp only at h398 h399 h397
    refine GL.weak (env' := [(1, v1), (8, v13), (9, v19), (10, .int .i64 x164), (11, v330), (12, .int .i64 x352), (52, v351), (53, .int .i64 ((y327.2.1).length : Int)), (54, .int .i64 (i392 : Int))]) (L' := [imm (TR.sl (TR.pair TR.int (TR.pair (TR.sl TR.int) (TR.sl TR.int)))) v1 x1, own 3 TR.int v13 l162, own 27 (TR.sl TR.int) v19 l163, obox 41 (TR.pair TR.int (TR.pair (TR.sl TR.int) (TR.sl TR.int))) v330 y327, imm (TR.sl TR.int) v351 y327.2.1]) (fun _ _ st => st) ?_
    refine GL.seq ?_
    refine GL.region ?_
    refine RL.binI (v := .bool (decide ((i392 : Int) < ((y327.2.1).length : Int)))) rfl rfl rfl rfl rfl ?_
    refine RL.finG ?_
    refine GL.seq ?_
    refine GL.cond rfl (fun b400 => ?_) (fun b400 => ?_)
    ·have h401 : i392 < (y327.2.1).length := by have := of_decide_eq_true b400; omega
     obtain ⟨y402, r404, hr, e403, h405⟩ := drop_cons h399 rfl h401
     subst hr
     obtain ⟨z394, h395, h396⟩ := rangeL_some h397
     unfold tree_Solve_b2 at h395
     try dsimp only at h395
     refine GL.skip ?_
     refine GL.seq ?_
     refine GL.block ?_
     refine GL.seq ?_
     refine GL.region ?_
     refine RL.mv rfl rfl rfl ?_
     refine RL.idxS (sz := 1) 4 Try.underlying27 Try_ln3 rfl rfl rfl rfl rfl SlOf.imm (by omega) (by omega) ?_
     refine RL.ldSx (i := i392) (e' := y402) 4 Ex.ik Try_ln3 rfl rfl rfl rfl SlOf.imm e403 Part.self ?_
     refine RL.asg rfl rfl rfl ?_
     refine RL.asg rfl rfl rfl ?_
     refine RL.finG ?_
     refine GL.seq ?_
     refine GL.regionQ rfl rfl (by kernel_rfl) ?_
     refine RL.mv rfl rfl rfl ?_
     refine RL.mv rfl rfl rfl ?_
     obtain ⟨y419, e420, h395⟩ := bind_some h395
     refine RL.idxS (sz := 1) 2 Try.underlying37 Try_ln27 rfl rfl rfl rfl rfl SlOf.own (idx_some e420).1 (idx_some e420).2.1 ?_
     refine RL.ldS (i := (y402).toNat) (r := (TR.sl TR.int)) (e' := y419) 2 Try_ln27 rfl rfl rfl rfl SlOf.own (idx_some e420).2.2 Part.self ?_
     intro v421
     refine RL.fadr (off := 0) (fo := 0) 3 Try_fld41_0 rfl rfl rfl PtOf.obox (Or.inr ⟨rfl, rfl⟩) ?_
     refine RL.ldPx (off := (0 + 0)) (e' := y327.1) 3 Ex.ik Try_ln3 rfl rfl (Or.inl rfl) rfl PtOf.obox (Part.fst Part.self) ?_
     obtain ⟨y422, e423, h395⟩ := bind_some h395
     refine RL.idxS (sz := 1) 5 Try.underlying27 Try_ln3 rfl rfl rfl rfl rfl SlOf.imm (idx_some e423).1 (idx_some e423).2.1 ?_
     refine RL.ldSx (i := (y327.1).toNat) (e' := y422) 5 Ex.ik Try_ln3 rfl rfl rfl rfl SlOf.imm (idx_some e423).2.2 Part.self ?_
     refine RL.mv rfl rfl rfl ?_
     refine RL.fadr (off := 0) (fo := 1) 3 Try_fld41_1 rfl rfl rfl PtOf.obox (Or.inr ⟨rfl, rfl⟩) ?_
     refine RL.ldP (off := (0 + 1)) (r := (TR.sl TR.int)) (e' := y327.2.1) 3 Try_ln27 rfl rfl (Or.inl rfl) rfl PtOf.obox (Part.snd (Part.fst Part.self)) ?_
     intro v424
     refine RL.reL (L' := [imm (TR.sl (TR.pair TR.int (TR.pair (TR.sl TR.int) (TR.sl TR.int)))) v1 x1, own 3 TR.int v13 l162, own 27 (TR.sl TR.int) v19 l163, obox 41 (TR.pair TR.int (TR.pair (TR.sl TR.int) (TR.sl TR.int))) v330 y327, imm (TR.sl TR.int) v351 y327.2.1, imm (TR.sl TR.int) v421 y419, imm (TR.sl TR.int) v424 y327.2.1]) rfl ?_
     refine RL.mv rfl rfl rfl ?_
     obtain ⟨y425, e426, h395⟩ := bind_some h395
     refine RL.idxS (sz := 1) 6 Try.underlying27 Try_ln3 rfl rfl rfl rfl rfl SlOf.imm (idx_some e426).1 (idx_some e426).2.1 ?_
     refine RL.ldSx (i := (x352).toNat) (e' := y425) 6 Ex.ik Try_ln3 rfl rfl rfl rfl SlOf.imm (idx_some e426).2.2 Part.self ?_
     obtain ⟨y427, e428, h395⟩ := bind_some h395
     refine RL.idxS (sz := 1) 2 Try.underlying37 Try_ln27 rfl rfl rfl rfl rfl SlOf.own (idx_some e428).1 (idx_some e428).2.1 ?_
     refine RL.ldS (i := (y425).toNat) (r := (TR.sl TR.int)) (e' := y427) 2 Try_ln27 rfl rfl rfl rfl SlOf.own (idx_some e428).2.2 Part.self ?_
     intro v429
     refine RL.fadr (off := 0) (fo := 0) 3 Try_fld41_0 rfl rfl rfl PtOf.obox (Or.inr ⟨rfl, rfl⟩) ?_
     refine RL.ldPx (off := (0 + 0)) (e' := y327.1) 3 Ex.ik Try_ln3 rfl rfl (Or.inl rfl) rfl PtOf.obox (Part.fst Part.self) ?_
     obtain ⟨y430, e431, h395⟩ := bind_some h395
     refine RL.idxS (sz := 1) 7 Try.underlying27 Try_ln3 rfl rfl rfl rfl rfl SlOf.imm (idx_some e431).1 (idx_some e431).2.1 ?_
     refine RL.ldSx (i := (y327.1).toNat) (e' := y430) 7 Ex.ik Try_ln3 rfl rfl rfl rfl SlOf.imm (idx_some e431).2.2 Part.self ?_
     refine RL.binI (v := .bool (decide (y422 > y430))) rfl rfl rfl rfl rfl ?_
     refine RL.finQG ?_
     refine GL.weak (env' := [(1, v1), (8, v13), (9, v19), (10, .int .i64 x164), (11, v330), (12, .int .i64 x352), (13, .int .i64 (i392 : Int)), (52, v351), (53, .int .i64 ((y327.2.1).length : Int)), (54, .int .i64 (i392 : Int)), (79, .bool (decide (y422 > y430)))]) (L' := [imm (TR.sl (TR.pair TR.int (TR.pair (TR.sl TR.int) (TR.sl TR.int)))) v1 x1, own 3 TR.int v13 l162, own 27 (TR.sl TR.int) v19 l163, obox 41 (TR.pair TR.int (TR.pair (TR.sl TR.int) (TR.sl TR.int))) v330 y327, imm (TR.sl TR.int) v351 y327.2.1]) (fun a w st => St.cut [0, 1, 2, 3, 4] ⟨rfl, rfl, rfl, rfl, rfl, rfl, rfl, rfl, rfl, rfl, rfl, trivial⟩ (by decide) rfl st) ?_
     refine GL.cond rfl (fun b432 => ?_) (fun b432 => ?_)
     ·replace h395 := ite_t b432 h395
      refine GL.region ?_
      refine RL.mv rfl rfl rfl ?_
      refine RL.asg rfl rfl rfl ?_
      refine RL.finG ?_
      refine GL.nilB ?_
      refine GL.region ?_
      refine RL.binI (v := .int .i64 ((i392 + 1 : Nat) : Int)) rfl rfl rfl rfl (binI_succ i392 (by omega)) ?_
      refine RL.mv rfl rfl rfl ?_
      refine RL.fin ?_
      cases h395
      exact fun a w st => lop_intro (i392 + 1, r404, (i392 : Int)) ⟨by show i392 + 1 + r404.length = (y327.2.1).length; simp only [List.length_cons] at h398; omega, h405, h396⟩ (by simp) (St.cut [0, 1, 2, 3, 4] ⟨rfl, rfl, rfl, rfl, rfl, rfl, rfl, rfl, rfl, trivial⟩ (by decide) rfl st)
     replace h395 := ite_f b432 h395
     refine GL.skip ?_
     refine GL.nilB ?_
     refine GL.region ?_
     refine RL.binI (v := .int .i64 ((i392 + 1 : Nat) : Int)) rfl rfl rfl rfl (binI_succ i392 (by omega)) ?_
     refine RL.mv rfl rfl rfl ?_
     refine RL.fin ?_
     cases h395
     exact fun a w st => lop_intro (i392 + 1, r404, x352) ⟨by show i392 + 1 + r404.length = (y327.2.1).length; simp only [List.length_cons] at h398; omega, h405, h396⟩ (by simp) (St.cut [0, 1, 2, 3, 4] ⟨rfl, rfl, rfl, rfl, rfl, rfl, rfl, rfl, rfl, trivial⟩ (by decide) rfl st)
    have h401 : ¬ i392 < (y327.2.1).length := by have := of_decide_eq_false b400; omega
    obtain rfl : r393 = [] := by rw [← h399]; exact List.drop_of_length_le (by omega)
    replace h397 : some (Fl.nx _) = some y385 := h397
    cases h397
    exact GL.exit (fun a w st => mid_intro x352 h388 (St.cut [0, 1, 2, 3] ⟨rfl, rfl, rfl, rfl, rfl, rfl, trivial⟩ (by decide) rfl st))
   rintro x352 h433
   have h434 := h389 _ h433
   try dsimp only at h434
   refine GL.weak (env' := [(1, v1), (8, v13), (9, v19), (10, .int .i64 x164), (11, v330), (12, .int .i64 x352)]) (L' := [imm (TR.sl (TR.pair TR.int (TR.pair (TR.sl TR.int) (TR.sl TR.int)))) v1 x1, own 3 TR.int v13 l162, own 27 (TR.sl TR.int) v19 l163, obox 41 (TR.pair TR.int (TR.pair (TR.sl TR.int) (TR.sl TR.int))) v330 y327]) (fun _ _ st => st) ?_
   refine GL.seq ?_
   refine GL.region ?_
   refine RL.mv rfl rfl rfl ?_
   refine RL.mv rfl rfl rfl ?_
   refine RL.mv rfl rfl rfl ?_
   obtain ⟨y437, e438, h434⟩ := bind_some h434
   refine RL.idxS (sz := 1) 1 Try.underlying27 Try_ln3 rfl rfl rfl rfl rfl SlOf.own (idx_some e438).1 (idx_some e438).2.1 ?_
   refine RL.stS (i := (x164).toNat) (e' := x352) (e1 := x352) (r := TR.int) 1 Try_ln3 rfl rfl rfl rfl VR.int rfl (idx_some e438).2.2 Upd.self ?_
   refine RL.finG ?_
   refine GL.region ?_
   refine RL.mv rfl rfl rfl ?_
   refine RL.mv rfl rfl rfl ?_
   refine RL.bS (t := TR.int) (vs := []) ([] : (List Int)) Try.underlying27 Try_lo3 rfl rfl rfl rfl trivial rfl (by decide) ?_
   intro v451
   refine RL.reL (L' := [imm (TR.sl (TR.pair TR.int (TR.pair (TR.sl TR.int) (TR.sl TR.int)))) v1 x1, own 3 TR.int v13 (List.set l162 ((x164).toNat) x352), own 27 (TR.sl TR.int) v19 l163, obox 41 (TR.pair TR.int (TR.pair (TR.sl TR.int) (TR.sl TR.int))) v330 y327, own 3 TR.int v451 ([] : (List Int))]) rfl ?_
   refine RL.mv rfl rfl rfl ?_
   refine RL.fadr (off := 0) (fo := 1) 3 Try_fld41_1 rfl rfl rfl PtOf.obox (Or.inr ⟨rfl, rfl⟩) ?_
   refine RL.ldP (off := (0 + 1)) (r := (TR.sl TR.int)) (e' := y327.2.1) 3 Try_ln27 rfl rfl (Or.inl rfl) rfl PtOf.obox (Part.snd (Part.fst Part.self)) ?_
   intro v452
   refine RL.mv rfl rfl rfl ?_
   obtain ⟨y453, e454, h434⟩ := bind_some h434
   refine RL.idxS (sz := 1) 5 Try.underlying27 Try_ln3 rfl rfl rfl rfl rfl SlOf.imm (idx_some e454).1 (idx_some e454).2.1 ?_
   refine RL.ldSx (i := (x352).toNat) (e' := y453) 5 Ex.ik Try_ln3 rfl rfl rfl rfl SlOf.imm (idx_some e454).2.2 Part.self ?_
   obtain ⟨y455, e456, h434⟩ := bind_some h434
   refine RL.idxS (sz := 1) 2 Try.underlying37 Try_ln27 rfl rfl rfl rfl rfl SlOf.own (idx_some e456).1 (idx_some e456).2.1 ?_
   refine RL.ldS (i := (y453).toNat) (r := (TR.sl TR.int)) (e' := y455) 2 Try_ln27 rfl rfl rfl rfl SlOf.own (idx_some e456).2.2 Part.self ?_
   intro v457
   refine RL.reL (L' := [imm (TR.sl (TR.pair TR.int (TR.pair (TR.sl TR.int) (TR.sl TR.int)))) v1 x1, own 3 TR.int v13 (List.set l162 ((x164).toNat) x352), own 27 (TR.sl TR.int) v19 l163, obox 41 (TR.pair TR.int (TR.pair (TR.sl TR.int) (TR.sl TR.int))) v330 y327, own 3 TR.int v451 ([] : (List Int)), imm (TR.sl TR.int) v452 y327.2.1, imm (TR.sl TR.int) v457 y455]) rfl ?_
   obtain ⟨y458, e459, h434⟩ := bind_some h434
   replace e459 := chk_some e459
   refine RL.app 4 6 Try.underlying27 Try_lo3 rfl rfl rfl rfl rfl rfl rfl SlOf.imm e459 ?_
   intro v460
   obtain ⟨y461, e462, h434⟩ := bind_some h434
   refine RL.idxS (sz := 1) 2 Try.underlying37 Try_ln27 rfl rfl rfl rfl rfl SlOf.own (idx_some e462).1 (idx_some e462).2.1 ?_
   refine RL.weak (fun a w st => st.freeze 4 rfl) ?_
   refine RL.stS (i := (x164).toNat) (e' := (([] : (List Int)) ++ y455)) (e1 := (([] : (List Int)) ++ y455)) (r := (TR.sl TR.int)) 2 Try_ln27 rfl rfl rfl rfl (VR.item 4 rfl) rfl (idx_some e462).2.2 Upd.self ?_
   refine RL.reL (L' := [imm (TR.sl (TR.pair TR.int (TR.pair (TR.sl TR.int) (TR.sl TR.int)))) v1 x1, own 3 TR.int v13 (List.set l162 ((x164).toNat) x352), own 27 (TR.sl TR.int) v19 (List.set l163 ((x164).toNat) (([] : (List Int)) ++ y455)), obox 41 (TR.pair TR.int (TR.pair (TR.sl TR.int) (TR.sl TR.int))) v330 y327, imm (TR.sl TR.int) v460 (([] : (List Int)) ++ y455), imm (TR.sl TR.int) v452 y327.2.1, imm (TR.sl TR.int) v457 y455]) rfl ?_
   refine RL.finG ?_
   refine GL.nilB ?_
   refine GL.region ?_
   refine RL.mv rfl rfl rfl ?_
   refine RL.binI (v := .int .i64 (wsub x164 (1 : Int))) rfl rfl rfl rfl rfl ?_
   refine RL.asg rfl rfl rfl ?_
   refine RL.finG ?_
   cases h434
   exact fun a w st => lop_intro (r321, (List.set l162 ((x164).toNat) x352), (List.set l163 ((x164).toNat) (([] : (List Int)) ++ y455)), wsub x164 (1 : Int)) (by exact h317) (by simp) (St.cut [0, 1, 2] ⟨rfl, rfl, rfl, rfl, trivial⟩ (by decide) rfl st)
  replace h316 := ite_f b322 h316
  cases h316
  replace h317 : some (Fl.nx _) = some y306 := h317
  cases h317
  exact GL.exit (fun a w st => mid_intro (l162, l163, x164) h309 (St.cut [1, 2] ⟨rfl, rfl, trivial⟩ (by decide) rfl st))
 rintro ⟨l162, l163, x164⟩ h463
 have h464 := h310 _ h463
 try dsimp only at h464
 refine GL.weak (env' := [(8, v13), (9, v19)]) (L' := [own 3 TR.int v13 l162, own 27 (TR.sl TR.int) v19 l163]) (fun _ _ st => st) ?_
 refine GL.seq ?_
 refine GL.region ?_
 refine RL.mv rfl rfl rfl ?_
 refine RL.mv rfl rfl rfl ?_
 refine RL.asg rfl rfl rfl ?_
 refine RL.asg rfl rfl rfl ?_
 refine RL.asg rfl rfl rfl ?_
 refine RL.finG ?_
 have h464 := Option.some.inj h464
 subst h464
 exact GL.ret (Gx.ret (v := .tuple #[v13, v19, .int .i64 (0 : Int)]) (res3 rfl rfl rfl rfl) (fun a w st => (st.pick [0, 1] (by decide) rfl).toPost (v13, v19)))

set_option maxHeartbeats 4000000 in
theorem slices_Equal_int_int_c (S : Hp) (w : World) (hS : S.sub w) (v0 : Value) (x0 : (List Int)) (k0 : ((TR.sl TR.int)).vrep S v0 x0) (v1 : Value) (x1 : (List Int)) (k1 : ((TR.sl TR.int)).vrep S v1 x1) (res : Bool) (hm : slices_Equal_int_int_m x0 x1 = some res) : Calls Try.prog 17 #[v0, v1] w (PostV w (.bool res)) := by
 refine calls_enter 26 Try.func17 Try.ntmps17 rfl S false [(0, v0), (1, v1)] [imm (TR.sl TR.int) v0 x0, imm (TR.sl TR.int) v1 x1] rfl ⟨rfl, ⟨rfl, trivial⟩⟩ hS ⟨k0, ⟨k1, trivial⟩⟩ ?_
 unfold slices_Equal_int_int_m at hm
 refine GL.seq ?_
 refine GL.region ?_
 refine RL.asg rfl rfl rfl ?_
 refine RL.finG ?_
 refine GL.seq ?_
 refine GL.seq ?_
 refine GL.region ?_
 refine RL.mv rfl rfl rfl ?_
 refine RL.lenS 0 Try.underlying27 rfl rfl rfl rfl SlOf.imm ?_
 refine RL.mv rfl rfl rfl ?_
 refine RL.lenS 1 Try.underlying27 rfl rfl rfl rfl SlOf.imm ?_
 refine RL.binI (v := .bool (((x0).length : Int) != ((x1).length : Int))) rfl rfl rfl rfl rfl ?_
 refine RL.finG ?_
 refine GL.cond rfl (fun b3 => ?_) (fun b3 => ?_)
 ·replace hm := ite_t b3 hm
  refine GL.seq ?_
  refine GL.region ?_
  refine RL.asg rfl rfl rfl ?_
  refine RL.finG ?_
  have hm := Option.some.inj hm
  subst hm
  exact GL.ret (Gx.ret (v := .bool false) (res1 rfl rfl) (fun a w st => st.toPostV))
 replace hm := ite_f b3 hm
 refine GL.skip ?_
 refine GL.seq ?_
 refine GL.seq ?_
 refine GL.region ?_
 refine RL.mv rfl rfl rfl ?_
 refine RL.lenS 0 Try.underlying27 rfl rfl rfl rfl SlOf.imm ?_
 refine RL.mv rfl rfl rfl ?_
 refine RL.finG ?_
 refine GL.open_ 0 rfl (fun S h => len_imm S h) (fun n13 => ?_)
 obtain ⟨y14, K15, h16, h17, h18, h19, h20⟩ := bindR_K hm
 refine GL.join (ι := Unit) (fun (p : Unit) => []) (fun (p : Unit) => []) (fun (p : Unit) => K15 (.nx ())) ?_ ?_
 ·refine GL.block ?_
  refine GL.loop (ι := Nat × (List Int)) (fun (p : Nat × (List Int)) => [(0, v0), (1, v1), (12, .int .i64 ((x0).length : Int)), (13, .int .i64 (p.1 : Int))]) (fun (p : Nat × (List Int)) => [imm (TR.sl TR.int) v0 x0, imm (TR.sl TR.int) v1 x1]) (fun (p : Nat × (List Int)) => p.1 + p.2.length = (x0).length ∧ List.drop p.1 x0 = p.2 ∧ rangeL (slices_Equal_int_int_b1 x1) p.2 p.1 () = some y14) (fun (p : Nat × (List Int)) => p.2.length) (0, x0) ⟨by simp, by simp, h16⟩ (fun a w st => St.cut [0, 1] ⟨rfl, rfl, rfl, rfl, trivial⟩ (by decide) rfl st) ?_
  rintro ⟨i21, r22⟩ ⟨h27, h28, h26⟩
  try dsimp only at h27 h28 h26
  refine GL.weak (env' := [(0, v0), (1, v1), (12, .int .i64 ((x0).length : Int)), (13, .int .i64 (i21 : Int))]) (L' := [imm (TR.sl TR.int) v0 x0, imm (TR.sl TR.int) v1 x1]) (fun _ _ st => st) ?_
  refine GL.seq ?_
  refine GL.region ?_
  refine RL.binI (v := .bool (decide ((i21 : Int) < ((x0).length : Int)))) rfl rfl rfl rfl rfl ?_
  refine RL.finG ?_
  refine GL.seq ?_
  refine GL.cond rfl (fun b29 => ?_) (fun b29 => ?_)
  ·have h30 : i21 < (x0).length := by have := of_decide_eq_true b29; omega
   obtain ⟨y31, r33, hr, e32, h34⟩ := drop_cons h28 rfl h30
   subst hr
   obtain ⟨z23, h24, h25⟩ := rangeL_some h26
   unfold slices_Equal_int_int_b1 at h24
   try dsimp only at h24
   refine GL.skip ?_
   refine GL.seq ?_
   refine GL.block ?_
   refine GL.seq ?_
   refine GL.region ?_
   refine RL.mv rfl rfl rfl ?_
   refine RL.asg rfl rfl rfl ?_
   refine RL.finG ?_
   refine GL.seq ?_
   refine GL.regionQ rfl rfl (by kernel_rfl) ?_
   refine RL.mv rfl rfl rfl ?_
   refine RL.mv rfl rfl rfl ?_
   refine RL.idxS (sz := 1) 0 Try.underlying27 Try_ln3 rfl rfl rfl rfl rfl SlOf.imm (by omega) (by omega) ?_
   refine RL.ldSx (i := i21) (e' := y31) 0 Ex.ik Try_ln3 rfl rfl rfl rfl SlOf.imm e32 Part.self ?_
   refine RL.mv rfl rfl rfl ?_
   refine RL.mv rfl rfl rfl ?_
   obtain ⟨y37, e38, h24⟩ := bind_some h24
   refine RL.idxS (sz := 1) 1 Try.underlying27 Try_ln3 rfl rfl rfl rfl rfl SlOf.imm (idx_some e38).1 (idx_some e38).2.1 ?_
   refine RL.ldSx (i := i21) (e' := y37) 1 Ex.ik Try_ln3 rfl rfl rfl rfl SlOf.imm (idx_some e38).2.2 Part.self ?_
   refine RL.binI (v := .bool (y31 != y37)) rfl rfl rfl rfl rfl ?_
   refine RL.finQG ?_
   refine GL.cond rfl (fun b39 => ?_) (fun b39 => ?_)
   ·replace h24 := ite_t b39 h24
    refine GL.seq ?_
    refine GL.region ?_
    refine RL.asg rfl rfl rfl ?_
    refine RL.finG ?_
    cases h24
    replace h25 : some (Fl.rt _) = some y14 := h25
    cases h25
    have hh := h19 _ h17
    subst hh
    exact GL.ret (Gx.ret (v := .bool false) (res1 rfl rfl) (fun a w st => st.toPostV))
   replace h24 := ite_f b39 h24
   refine GL.skip ?_
   refine GL.nilB ?_
   refine GL.region ?_
   refine RL.binI (v := .int .i64 ((i21 + 1 : Nat) : Int)) rfl rfl rfl rfl (binI_succ i21 (by omega)) ?_
   refine RL.mv rfl rfl rfl ?_
   refine RL.fin ?_
   cases h24
   exact fun a w st => lop_intro (i21 + 1, r33) ⟨by show i21 + 1 + r33.length = (x0).length; simp only [List.length_cons] at h27; omega, h34, h25⟩ (by simp) (St.cut [0, 1] ⟨rfl, rfl, rfl, rfl, trivial⟩ (by decide) rfl st)
  have h30 : ¬ i21 < (x0).length := by have := of_decide_eq_false b29; omega
  obtain rfl : r22 = [] := by rw [← h28]; exact List.drop_of_length_le (by omega)
  replace h26 : some (Fl.nx _) = some y14 := h26
  cases h26
  exact GL.exit (fun a w st => mid_intro () h17 (St.cut [] trivial (by decide) rfl st))
 rintro ⟨⟩ h40
 have h41 := h18 _ h40
 try dsimp only at h41
 refine GL.weak (env' := []) (L' := []) (fun _ _ st => st) ?_
 refine GL.seq ?_
 refine GL.region ?_
 refine RL.asg rfl rfl rfl ?_
 refine RL.finG ?_
 have h41 := Option.some.inj h41
 subst h41
 exact GL.ret (Gx.ret (v := .bool true) (res1 rfl rfl) (fun a w st => st.toPostV))

set_option maxHeartbeats 4000000 in
theorem pk_trees_c (S : Hp) (w : World) (hS : S.sub w)  (res : Bool) (hm : pk_trees_m = some res) : Calls Try.prog 14 #[] w (PostV w (.bool res)) := by
 refine calls_enter 35 Try.func14 Try.ntmps14 rfl S false [] [] rfl trivial hS trivial ?_
 unfold pk_trees_m at hm
 refine GL.seq ?_
 refine GL.region ?_
 refine RL.asg rfl rfl rfl ?_
 refine RL.finG ?_
 refine GL.seq ?_
 refine GL.region ?_
 refine RL.bS (t := TR.int) (vs := [.int .i64 (1 : Int), .int .i64 (2 : Int)]) ([(1 : Int), (2 : Int)] : (List Int)) Try.underlying27 Try_lo3 rfl rfl rfl rfl ⟨VR.int, ⟨VR.int, trivial⟩⟩ rfl (by decide) ?_
 intro v12
 refine RL.weak (fun a w st => st.freeze 0 rfl) ?_
 refine RL.bld (t := (TR.pair TR.int (TR.pair (TR.sl TR.int) (TR.sl TR.int)))) (d0 := (((0 : Int), ([(1 : Int), (2 : Int)] : (List Int)), ([] : (List Int))) : (Int × ((List Int) × (List Int))))) (pv := [(1, v12)]) rfl Try_bld41 rfl rfl rfl ⟨⟨_, _, (TR.sl TR.int), ([(1 : Int), (2 : Int)] : (List Int)), rfl, rfl, (VR.item 0 rfl)⟩, trivial⟩ (fun S f hi => by
   obtain ⟨c1, e1, r1⟩ := cells_vrep (t := (TR.sl TR.int)) (u := v12) (e := ([(1 : Int), (2 : Int)] : (List Int))) ((VR.item 0 rfl) S f hi)
   show TR.rep (TR.pair TR.int (TR.pair (TR.sl TR.int) (TR.sl TR.int))) S (List.flatten [[.int .i64 0], (v12 : Value).cells.toList, [.slice none 0 0]]) _
   simp only [e1,  List.flatten_cons, List.flatten_nil, List.append_nil]
   exact ⟨_, _, rfl, rfl, ⟨_, _, rfl, r1, ⟨_, [], rfl, ⟨none, 0, rfl, Nat.le_refl _, Nat.zero_le _, Or.inl ⟨rfl, rfl⟩⟩, rfl⟩⟩⟩) ?_
 intro v13
 refine RL.reL (L' := [imm (TR.sl TR.int) v12 ([(1 : Int), (2 : Int)] : (List Int)), imm (TR.pair TR.int (TR.pair (TR.sl TR.int) (TR.sl TR.int))) v13 (((0 : Int), ([(1 : Int), (2 : Int)] : (List Int)), ([] : (List Int))) : (Int × ((List Int) × (List Int))))]) rfl ?_
 refine RL.bS (t := TR.int) (vs := [.int .i64 (1 : Int)]) ([(1 : Int)] : (List Int)) Try.underlying27 Try_lo3 rfl rfl rfl rfl ⟨VR.int, trivial⟩ rfl (by decide) ?_
 intro v14
 refine RL.weak (fun a w st => st.freeze 2 rfl) ?_
 refine RL.bld (t := (TR.pair TR.int (TR.pair (TR.sl TR.int) (TR.sl TR.int)))) (d0 := (((-1 : Int), ([] : (List Int)), ([(1 : Int)] : (List Int))) : (Int × ((List Int) × (List Int))))) (pv := [(0, .int .i64 (-1 : Int)), (2, v14)]) rfl Try_bld41 rfl rfl rfl ⟨⟨_, _, TR.int, (-1 : Int), rfl, rfl, VR.int⟩, ⟨⟨_, _, (TR.sl TR.int), ([(1 : Int)] : (List Int)), rfl, rfl, (VR.item 2 rfl)⟩, trivial⟩⟩ (fun S f hi => by
   obtain ⟨c0, e0, r0⟩ := cells_vrep (t := TR.int) (u := .int .i64 (-1 : Int)) (e := (-1 : Int)) (VR.int S f hi)
   obtain ⟨c2, e2, r2⟩ := cells_vrep (t := (TR.sl TR.int)) (u := v14) (e := ([(1 : Int)] : (List Int))) ((VR.item 2 rfl) S f hi)
   show TR.rep (TR.pair TR.int (TR.pair (TR.sl TR.int) (TR.sl TR.int))) S (List.flatten [(.int .i64 (-1 : Int) : Value).cells.toList, [.slice none 0 0], (v14 : Value).cells.toList]) _
   simp only [e0, e2,  List.flatten_cons, List.flatten_nil, List.append_nil]
   exact ⟨_, _, rfl, r0, ⟨_, _, rfl, ⟨_, [], rfl, ⟨none, 0, rfl, Nat.le_refl _, Nat.zero_le _, Or.inl ⟨rfl, rfl⟩⟩, rfl⟩, r2⟩⟩) ?_
 intro v15
 refine RL.reL (L' := [imm (TR.sl TR.int) v12 ([(1 : Int), (2 : Int)] : (List Int)), imm (TR.pair TR.int (TR.pair (TR.sl TR.int) (TR.sl TR.int))) v13 (((0 : Int), ([(1 : Int), (2 : Int)] : (List Int)), ([] : (List Int))) : (Int × ((List Int) × (List Int)))), imm (TR.sl TR.int) v14 ([(1 : Int)] : (List Int)), imm (TR.pair TR.int (TR.pair (TR.sl TR.int) (TR.sl TR.int))) v15 (((-1 : Int), ([] : (List Int)), ([(1 : Int)] : (List Int))) : (Int × ((List Int) × (List Int))))]) rfl ?_
 refine RL.bS (t := TR.int) (vs := [.int .i64 (2 : Int)]) ([(2 : Int)] : (List Int)) Try.underlying27 Try_lo3 rfl rfl rfl rfl ⟨VR.int, trivial⟩ rfl (by decide) ?_
 intro v16
 refine RL.weak (fun a w st => st.freeze 4 rfl) ?_
 refine RL.bld (t := (TR.pair TR.int (TR.pair (TR.sl TR.int) (TR.sl TR.int)))) (d0 := (((-1 : Int), ([] : (List Int)), ([(2 : Int)] : (List Int))) : (Int × ((List Int) × (List Int))))) (pv := [(0, .int .i64 (-1 : Int)), (2, v16)]) rfl Try_bld41 rfl rfl rfl ⟨⟨_, _, TR.int, (-1 : Int), rfl, rfl, VR.int⟩, ⟨⟨_, _, (TR.sl TR.int), ([(2 : Int)] : (List Int)), rfl, rfl, (VR.item 4 rfl)⟩, trivial⟩⟩ (fun S f hi => by
   obtain ⟨c0, e0, r0⟩ := cells_vrep (t := TR.int) (u := .int .i64 (-1 : Int)) (e := (-1 : Int)) (VR.int S f hi)
   obtain ⟨c2, e2, r2⟩ := cells_vrep (t := (TR.sl TR.int)) (u := v16) (e := ([(2 : Int)] : (List Int))) ((VR.item 4 rfl) S f hi)
   show TR.rep (TR.pair TR.int (TR.pair (TR.sl TR.int) (TR.sl TR.int))) S (List.flatten [(.int .i64 (-1 : Int) : Value).cells.toList, [.slice none 0 0], (v16 : Value).cells.toList]) _
   simp only [e0, e2,  List.flatten_cons, List.flatten_nil, List.append_nil]
   exact ⟨_, _, rfl, r0, ⟨_, _, rfl, ⟨_, [], rfl, ⟨none, 0, rfl, Nat.le_refl _, Nat.zero_le _, Or.inl ⟨rfl, rfl⟩⟩, rfl⟩, r2⟩⟩) ?_
 intro v17
 refine RL.reL (L' := [imm (TR.sl TR.int) v12 ([(1 : Int), (2 : Int)] : (List Int)), imm (TR.pair TR.int (TR.pair (TR.sl TR.int) (TR.sl TR.int))) v13 (((0 : Int), ([(1 : Int), (2 : Int)] : (List Int)), ([] : (List Int))) : (Int × ((List Int) × (List Int)))), imm (TR.sl TR.int) v14 ([(1 : Int)] : (List Int)), imm (TR.pair TR.int (TR.pair (TR.sl TR.int) (TR.sl TR.int))) v15 (((-1 : Int), ([] : (List Int)), ([(1 : Int)] : (List Int))) : (Int × ((List Int) × (List Int)))), imm (TR.sl TR.int) v16 ([(2 : Int)] : (List Int)), imm (TR.pair TR.int (TR.pair (TR.sl TR.int) (TR.sl TR.int))) v17 (((-1 : Int), ([] : (List Int)), ([(2 : Int)] : (List Int))) : (Int × ((List Int) × (List Int))))]) rfl ?_
 refine RL.bS (t := (TR.pair TR.int (TR.pair (TR.sl TR.int) (TR.sl TR.int)))) (vs := [v13, v15, v17]) ([(((0 : Int), ([(1 : Int), (2 : Int)] : (List Int)), ([] : (List Int))) : (Int × ((List Int) × (List Int)))), (((-1 : Int), ([] : (List Int)), ([(1 : Int)] : (List Int))) : (Int × ((List Int) × (List Int)))), (((-1 : Int), ([] : (List Int)), ([(2 : Int)] : (List Int))) : (Int × ((List Int) × (List Int))))] : (List (Int × ((List Int) × (List Int))))) Try.underlying36 Try_lo41 rfl rfl rfl rfl ⟨(VR.item 1 rfl), ⟨(VR.item 3 rfl), ⟨(VR.item 5 rfl), trivial⟩⟩⟩ rfl (by decide) ?_
 intro v18
 refine RL.weak (fun a w st => st.freeze 6 rfl) ?_
 obtain ⟨y19, e20, hm⟩ := bind_some hm
 refine RL.call (vs := [.int .i64 (1 : Int), v18]) Try_fit15 rfl rfl rfl rfl rfl (fun S f w hS hW hi => tree_Solve_c S w hS (1 : Int) _ _ (hi 6 _ rfl) _ e20) ?_
 intro ⟨v21, v22⟩
 refine RL.reL (L' := [imm (TR.sl TR.int) v12 ([(1 : Int), (2 : Int)] : (List Int)), imm (TR.pair TR.int (TR.pair (TR.sl TR.int) (TR.sl TR.int))) v13 (((0 : Int), ([(1 : Int), (2 : Int)] : (List Int)), ([] : (List Int))) : (Int × ((List Int) × (List Int)))), imm (TR.sl TR.int) v14 ([(1 : Int)] : (List Int)), imm (TR.pair TR.int (TR.pair (TR.sl TR.int) (TR.sl TR.int))) v15 (((-1 : Int), ([] : (List Int)), ([(1 : Int)] : (List Int))) : (Int × ((List Int) × (List Int)))), imm (TR.sl TR.int) v16 ([(2 : Int)] : (List Int)), imm (TR.pair TR.int (TR.pair (TR.sl TR.int) (TR.sl TR.int))) v17 (((-1 : Int), ([] : (List Int)), ([(2 : Int)] : (List Int))) : (Int × ((List Int) × (List Int)))), imm (TR.sl (TR.pair TR.int (TR.pair (TR.sl TR.int) (TR.sl TR.int)))) v18 ([(((0 : Int), ([(1 : Int), (2 : Int)] : (List Int)), ([] : (List Int))) : (Int × ((List Int) × (List Int)))), (((-1 : Int), ([] : (List Int)), ([(1 : Int)] : (List Int))) : (Int × ((List Int) × (List Int)))), (((-1 : Int), ([] : (List Int)), ([(2 : Int)] : (List Int))) : (Int × ((List Int) × (List Int))))] : (List (Int × ((List Int) × (List Int))))), own 3 TR.int v21 y19.1, own 27 (TR.sl TR.int) v22 y19.2.1]) rfl ?_
 refine RL.mv rfl rfl rfl ?_
 refine RL.ext rfl rfl rfl rfl ?_
 refine RL.ext rfl rfl rfl rfl ?_
 refine RL.ext rfl rfl rfl rfl ?_
 refine RL.asg rfl rfl rfl ?_
 refine RL.asg rfl rfl rfl ?_
 refine RL.asg rfl rfl rfl ?_
 refine RL.finG ?_
 refine GL.seq ?_
 obtain ⟨y48, K49, h50, h51, h52, h53, h54⟩ := bindR_K hm
 refine GL.join (ι := Bool) (fun (p : Bool) => [(0, .bool p)]) (fun (p : Bool) => []) (fun (p : Bool) => K49 (.nx p)) ?_ ?_
 ·skip
  refine GL.region ?_
  refine RL.mv rfl rfl rfl ?_
  refine RL.binI (v := .bool (y19.2.2 == (0 : Int))) rfl rfl rfl rfl rfl ?_
  refine RL.mv rfl rfl rfl ?_
  refine RL.split (t := 18) rfl (fun b55 => ?_) (fun b55 => ?_)
  ·replace h50 := ite_t b55 h50
   refine RL.mv rfl rfl rfl ?_
   refine RL.bS (t := TR.int) (vs := [.int .i64 (1 : Int), .int .i64 (-1 : Int), .int .i64 (-1 : Int)]) ([(1 : Int), (-1 : Int), (-1 : Int)] : (List Int)) Try.underlying27 Try_lo3 rfl rfl rfl rfl ⟨VR.int, ⟨VR.int, ⟨VR.int, trivial⟩⟩⟩ rfl (by decide) ?_
   intro v56
   obtain ⟨y57, e58, h50⟩ := bind_some h50
   refine RL.callV (v := .bool y57) (vs := [v21, v56]) Try_fit17 rfl (Or.inl rfl) rfl rfl rfl rfl (fun U w hU hW hL => slices_Equal_int_int_c U w hU _ _ (hL 7 _ _ rfl Seen.own) _ _ (hL 9 _ _ rfl Seen.own) _ e58) ?_
   refine RL.pickT rfl rfl rfl rfl ?_
   refine RL.mv rfl rfl rfl ?_
   refine RL.split (t := 23) rfl (fun b59 => ?_) (fun b59 => ?_)
   ·replace h50 := ite_t b59 h50
    refine RL.mv rfl rfl rfl ?_
    refine RL.lenS 8 Try.underlying37 rfl rfl rfl rfl SlOf.own ?_
    refine RL.binI (v := .bool (((y19.2.1).length : Int) == (3 : Int))) rfl rfl rfl rfl rfl ?_
    refine RL.pickT rfl rfl rfl rfl ?_
    refine RL.mv rfl rfl rfl ?_
    refine RL.split (t := 28) rfl (fun b60 => ?_) (fun b60 => ?_)
    ·replace h50 := ite_t b60 h50
     refine RL.mv rfl rfl rfl ?_
     obtain ⟨y61, e62, h50⟩ := bind_some h50
     refine RL.idxS (sz := 1) 8 Try.underlying37 Try_ln27 rfl rfl rfl rfl rfl SlOf.own (idx_some e62).1 (idx_some e62).2.1 ?_
     refine RL.ldS (i := ((0 : Int)).toNat) (r := (TR.sl TR.int)) (e' := y61) 8 Try_ln27 rfl rfl rfl rfl SlOf.own (idx_some e62).2.2 Part.self ?_
     intro v63
     refine RL.reL (L' := [imm (TR.sl TR.int) v12 ([(1 : Int), (2 : Int)] : (List Int)), imm (TR.pair TR.int (TR.pair (TR.sl TR.int) (TR.sl TR.int))) v13 (((0 : Int), ([(1 : Int), (2 : Int)] : (List Int)), ([] : (List Int))) : (Int × ((List Int) × (List Int)))), imm (TR.sl TR.int) v14 ([(1 : Int)] : (List Int)), imm (TR.pair TR.int (TR.pair (TR.sl TR.int) (TR.sl TR.int))) v15 (((-1 : Int), ([] : (List Int)), ([(1 : Int)] : (List Int))) : (Int × ((List Int) × (List Int)))), imm (TR.sl TR.int) v16 ([(2 : Int)] : (List Int)), imm (TR.pair TR.int (TR.pair (TR.sl TR.int) (TR.sl TR.int))) v17 (((-1 : Int), ([] : (List Int)), ([(2 : Int)] : (List Int))) : (Int × ((List Int) × (List Int)))), imm (TR.sl (TR.pair TR.int (TR.pair (TR.sl TR.int) (TR.sl TR.int)))) v18 ([(((0 : Int), ([(1 : Int), (2 : Int)] : (List Int)), ([] : (List Int))) : (Int × ((List Int) × (List Int)))), (((-1 : Int), ([] : (List Int)), ([(1 : Int)] : (List Int))) : (Int × ((List Int) × (List Int)))), (((-1 : Int), ([] : (List Int)), ([(2 : Int)] : (List Int))) : (Int × ((List Int) × (List Int))))] : (List (Int × ((List Int) × (List Int))))), own 3 TR.int v21 y19.1, own 27 (TR.sl TR.int) v22 y19.2.1, own 3 TR.int v56 ([(1 : Int), (-1 : Int), (-1 : Int)] : (List Int)), imm (TR.sl TR.int) v63 y61]) rfl ?_
     refine RL.bS (t := TR.int) (vs := [.int .i64 (2 : Int)]) ([(2 : Int)] : (List Int)) Try.underlying27 Try_lo3 rfl rfl rfl rfl ⟨VR.int, trivial⟩ rfl (by decide) ?_
     intro v64
     obtain ⟨y65, e66, h50⟩ := bind_some h50
     refine RL.callV (v := .bool y65) (vs := [v63, v64]) Try_fit17 rfl (Or.inl rfl) rfl rfl rfl rfl (fun U w hU hW hL => slices_Equal_int_int_c U w hU _ _ (hL 10 _ _ rfl Seen.imm) _ _ (hL 11 _ _ rfl Seen.own) _ e66) ?_
     refine RL.pickT rfl rfl rfl rfl ?_
     refine RL.asg rfl rfl rfl ?_
     refine RL.fin ?_
     cases h50
     exact fun a w st => mid_intro y65 h51 (St.cut [] ⟨rfl, trivial⟩ (by decide) rfl st)
    replace h50 := ite_f b60 h50
    refine RL.skip rfl rfl ?_
    refine RL.skip rfl rfl ?_
    refine RL.skip rfl rfl ?_
    refine RL.skip rfl rfl ?_
    refine RL.skip rfl rfl ?_
    refine RL.pickF rfl rfl rfl rfl ?_
    refine RL.asg rfl rfl rfl ?_
    refine RL.fin ?_
    cases h50
    exact fun a w st => mid_intro false h51 (St.cut [] ⟨rfl, trivial⟩ (by decide) rfl st)
   replace h50 := ite_f b59 h50
   refine RL.skip rfl rfl ?_
   refine RL.skip rfl rfl ?_
   refine RL.skip rfl rfl ?_
   refine RL.pickF rfl rfl rfl rfl ?_
   refine RL.mv rfl rfl rfl ?_
   refine RL.skip rfl rfl ?_
   refine RL.skip rfl rfl ?_
   refine RL.skip rfl rfl ?_
   refine RL.skip rfl rfl ?_
   refine RL.skip rfl rfl ?_
   refine RL.pickF rfl rfl rfl rfl ?_
   refine RL.asg rfl rfl rfl ?_
   refine RL.fin ?_
   cases h50
   exact fun a w st => mid_intro false h51 (St.cut [] ⟨rfl, trivial⟩ (by decide) rfl st)
  replace h50 := ite_f b55 h50
  refine RL.skip rfl rfl ?_
  refine RL.skip rfl rfl ?_
  refine RL.skip rfl rfl ?_
  refine RL.pickF rfl rfl rfl rfl ?_
  refine RL.mv rfl rfl rfl ?_
  refine RL.skip rfl rfl ?_
  refine RL.skip rfl rfl ?_
  refine RL.skip rfl rfl ?_
  refine RL.pickF rfl rfl rfl rfl ?_
  refine RL.mv rfl rfl rfl ?_
  refine RL.skip rfl rfl ?_
  refine RL.skip rfl rfl ?_
  refine RL.skip rfl rfl ?_
  refine RL.skip rfl rfl ?_
  refine RL.skip rfl rfl ?_
  refine RL.pickF rfl rfl rfl rfl ?_
  refine RL.asg rfl rfl rfl ?_
  refine RL.fin ?_
  cases h50
  exact fun a w st => mid_intro false h51 (St.cut [] ⟨rfl, trivial⟩ (by decide) rfl st)
 rintro x47 h67
 have h68 := h52 _ h67
 try dsimp only at h68
 refine GL.weak (env' := [(0, .bool x47)]) (L' := []) (fun _ _ st => st) ?_
 have h68 := Option.some.inj h68
 subst h68
 exact GL.ret (Gx.ret (v := .bool x47) (res1 rfl rfl) (fun a w st => st.toPostV))

set_option maxHeartbeats 4000000 in
theorem ref_Rest_c (S : Hp) (w : World) (hS : S.sub w) (x0 : Int) (x1 : Int) (res : Int) (hm : ref_Rest_m x0 x1 = some res) : Calls Try.prog 32 #[.int .i64 x0, .int .i64 x1] w (PostC w (.int .i64 res)) := by
 refine calls_enter 14 Try.func32 Try.ntmps32 rfl S true [(0, .int .i64 x0), (1, .int .i64 x1)] [] rfl ⟨rfl, ⟨rfl, trivial⟩⟩ hS trivial ?_
 unfold ref_Rest_m at hm
 refine GL.seq ?_
 refine GL.region ?_
 refine RL.asg rfl rfl rfl ?_
 refine RL.finG ?_
 refine GL.seq ?_
 refine GL.region ?_
 refine RL.mv rfl rfl rfl ?_
 refine RL.mv rfl rfl rfl ?_
 obtain ⟨y5, e6, hm⟩ := bind_some hm
 replace e6 := chk_some e6
 refine RL.rem rfl rfl rfl rfl e6 ?_
 refine RL.asg rfl rfl rfl ?_
 refine RL.finG ?_
 refine GL.seq ?_
 refine GL.seq ?_
 refine GL.region ?_
 refine RL.mv rfl rfl rfl ?_
 refine RL.binI (v := .bool (decide ((Int.tmod x0 x1) < (0 : Int)))) rfl rfl rfl rfl rfl ?_
 refine RL.finG ?_
 obtain ⟨y9, K10, h11, h12, h13, h14, h15⟩ := bindR_K hm
 refine GL.join (ι := Int) (fun (p : Int) => [(0, .int .i64 p)]) (fun (p : Int) => []) (fun (p : Int) => K10 (.nx p)) ?_ ?_
 ·skip
  refine GL.cond rfl (fun b16 => ?_) (fun b16 => ?_)
  ·replace h11 := ite_t b16 h11
   refine GL.region ?_
   refine RL.mv rfl rfl rfl ?_
   refine RL.mv rfl rfl rfl ?_
   refine RL.binI (v := .int .i64 (wadd (Int.tmod x0 x1) x1)) rfl rfl rfl rfl rfl ?_
   refine RL.asg rfl rfl rfl ?_
   refine RL.finG ?_
   cases h11
   exact fun a w st => mid_intro (wadd (Int.tmod x0 x1) x1) h12 (St.cut [] ⟨rfl, trivial⟩ (by decide) rfl st)
  replace h11 := ite_f b16 h11
  refine GL.skip ?_
  cases h11
  exact fun a w st => mid_intro (Int.tmod x0 x1) h12 (St.cut [] ⟨rfl, trivial⟩ (by decide) rfl st)
 rintro x8 h17
 have h18 := h13 _ h17
 try dsimp only at h18
 refine GL.weak (env' := [(0, .int .i64 x8)]) (L' := []) (fun _ _ st => st) ?_
 refine GL.seq ?_
 refine GL.region ?_
 refine RL.mv rfl rfl rfl ?_
 refine RL.asg rfl rfl rfl ?_
 refine RL.finG ?_
 have h18 := Option.some.inj h18
 subst h18
 exact GL.ret (Gx.ret (v := .int .i64 x8) (res1 rfl rfl) (fun a w st => st.toPostC rfl))

set_option maxHeartbeats 4000000 in
theorem pk_Within_c (S : Hp) (w : World) (hS : S.sub w) (x0 : Int) (x1 : Int) (res : Int) (hm : pk_Within_m x0 x1 = some res) : Calls Try.prog 10 #[.int .i64 x0, .int .i64 x1] w (PostC w (.int .i64 res)) := by
 refine calls_enter 8 Try.func10 Try.ntmps10 rfl S true [(0, .int .i64 x0), (1, .int .i64 x1)] [] rfl ⟨rfl, ⟨rfl, trivial⟩⟩ hS trivial ?_
 unfold pk_Within_m at hm
 refine GL.seq ?_
 refine GL.region ?_
 refine RL.asg rfl rfl rfl ?_
 refine RL.finG ?_
 refine GL.seq ?_
 refine GL.region ?_
 refine RL.mv rfl rfl rfl ?_
 refine RL.mv rfl rfl rfl ?_
 obtain ⟨y5, e6, hm⟩ := bind_some hm
 refine RL.callC (v := .int .i64 y5) (vs := [.int .i64 x0, .int .i64 x1]) Try_fit32 rfl rfl rfl rfl (fun U w hU hW hL => ref_Rest_c U w hU x0 x1 _ e6) ?_
 refine RL.asg rfl rfl rfl ?_
 refine RL.finG ?_
 have hm := Option.some.inj hm
 subst hm
 exact GL.ret (Gx.ret (v := .int .i64 y5) (res1 rfl rfl) (fun a w st => st.toPostC rfl))

set_option maxHeartbeats 4000000 in
theorem slices_Clone_int_int_c (S : Hp) (w : World) (hS : S.sub w) (v0 : Value) (x0 : List Int) (k0 : (TR.sl TR.int).vrep S v0 x0) (res : List Int) (hm : slices_Clone_int_int_m x0 = some res) : Calls Try.prog 16 #[v0] w (Post w S (fun (o : Value) => o) (fun (o : Value) => [own 3 TR.int o res])) := by
  refine calls_enter 8 Try.func16 Try.ntmps16 rfl S false [(0, v0)] [imm (TR.sl TR.int) v0 x0] rfl ⟨rfl, trivial⟩ hS ⟨k0, trivial⟩ ?_
  unfold slices_Clone_int_int_m at hm
  obtain ⟨_, hc, hm⟩ := bind_some hm
  replace hc := chk_some hc
  have hm := Option.some.inj hm
  subst hm
  refine GL.seq (GL.region (RL.asg rfl rfl rfl (RL.finG (GL.seq (GL.seq (GL.region ?_))))))
  refine RL.mv rfl rfl rfl ?_
  refine RL.eqNil 0 Try.underlying27 rfl rfl rfl rfl rfl SlOf.imm (fun b hb => ?_)
  refine RL.finG (GL.cond rfl (fun h => ?_) (fun h => ?_))
  · have := hb h
    subst this
    refine GL.seq (GL.region (RL.asg rfl rfl rfl (RL.finG ?_)))
    refine GL.weak (fun a w st => st.nilOwn 3 TR.int) ?_
    exact GL.ret (Gx.ret (v := Value.slice none 0 0) (res1 rfl rfl) (fun a w st => (st.pick [1] (by decide) rfl).toPost (Value.slice none 0 0)))
  · refine GL.skip (GL.seq (GL.region ?_))
    refine RL.bS (t := TR.int) (vs := []) ([] : List Int) Try.underlying27 Try_lo3 rfl rfl rfl rfl trivial rfl (by decide) ?_
    intro v1
    refine RL.mv rfl rfl rfl ?_
    refine RL.app 1 0 Try.underlying27 Try_lo3 rfl rfl rfl rfl rfl rfl rfl SlOf.imm (by simpa using hc) ?_
    intro v2
    refine RL.asg rfl rfl rfl (RL.finG ?_)
    exact GL.ret (Gx.ret (v := v2) (res1 rfl rfl) (fun a w st => (st.pick [1] (by decide) rfl).toPost v2))

set_option maxHeartbeats 4000000 in
theorem slices_EqualFunc_int_int_int_int_c (S : Hp) (w : World) (hS : S.sub w) (v0 : Value) (x0 : (List (List Int))) (k0 : ((TR.sl (TR.sl TR.int))).vrep S v0 x0) (v1 : Value) (x1 : (List (List Int))) (k1 : ((TR.sl (TR.sl TR.int))).vrep S v1 x1) (f2 : FuncId) (c2 : Array Value) (t2 : Fit Try.prog f2) (g2 : (List Int) → (List Int) → Option Bool) (k2 : ∀ (U : Hp) (w' : World), Hp.le S U → U.sub w' → ∀ (u0 : Value) (a0 : (List Int)) (_ : ((TR.sl TR.int)).vrep U u0 a0) (u1 : Value) (a1 : (List Int)) (_ : ((TR.sl TR.int)).vrep U u1 a1) (rr : Bool), g2 a0 a1 = some rr → Calls Try.prog f2 (#[u0, u1] ++ c2) w' (PostV w' (.bool rr))) (res : Bool) (hm : slices_EqualFunc_int_int_int_int_m x0 x1 g2 = some res) : Calls Try.prog 18 #[v0, v1, .func (.func f2) #[] c2] w (PostV w (.bool res)) := by
 refine calls_enter 32 Try.func18 Try.ntmps18 rfl S false [(0, v0), (1, v1), (2, .func (.func f2) #[] c2)] [imm (TR.sl (TR.sl TR.int)) v0 x0, imm (TR.sl (TR.sl TR.int)) v1 x1] rfl ⟨rfl, ⟨rfl, ⟨rfl, trivial⟩⟩⟩ hS ⟨k0, ⟨k1, trivial⟩⟩ ?_
 unfold slices_EqualFunc_int_int_int_int_m at hm
 refine GL.seq ?_
 refine GL.region ?_
 refine RL.asg rfl rfl rfl ?_
 refine RL.finG ?_
 refine GL.seq ?_
 refine GL.seq ?_
 refine GL.region ?_
 refine RL.mv rfl rfl rfl ?_
 refine RL.lenS 0 Try.underlying37 rfl rfl rfl rfl SlOf.imm ?_
 refine RL.mv rfl rfl rfl ?_
 refine RL.lenS 1 Try.underlying37 rfl rfl rfl rfl SlOf.imm ?_
 refine RL.binI (v := .bool (((x0).length : Int) != ((x1).length : Int))) rfl rfl rfl rfl rfl ?_
 refine RL.finG ?_
 refine GL.cond rfl (fun b4 => ?_) (fun b4 => ?_)
 ·replace hm := ite_t b4 hm
  refine GL.seq ?_
  refine GL.region ?_
  refine RL.asg rfl rfl rfl ?_
  refine RL.finG ?_
  have hm := Option.some.inj hm
  subst hm
  exact GL.ret (Gx.ret (v := .bool false) (res1 rfl rfl) (fun a w st => st.toPostV))
 replace hm := ite_f b4 hm
 refine GL.skip ?_
 refine GL.seq ?_
 refine GL.seq ?_
 refine GL.region ?_
 refine RL.mv rfl rfl rfl ?_
 refine RL.lenS 0 Try.underlying37 rfl rfl rfl rfl SlOf.imm ?_
 refine RL.mv rfl rfl rfl ?_
 refine RL.finG ?_
 refine GL.open_ 0 rfl (fun S h => len_imm S h) (fun n22 => ?_)
 obtain ⟨y23, K24, h25, h26, h27, h28, h29⟩ := bindR_K hm
 refine GL.join (ι := Unit) (fun (p : Unit) => []) (fun (p : Unit) => []) (fun (p : Unit) => K24 (.nx ())) ?_ ?_
 ·refine GL.block ?_
  refine GL.loop (ι := Nat × (List (List Int))) (fun (p : Nat × (List (List Int))) => [(1, v1), (2, .func (.func f2) #[] c2), (15, v0), (16, .int .i64 ((x0).length : Int)), (17, .int .i64 (p.1 : Int))]) (fun (p : Nat × (List (List Int))) => [imm (TR.sl (TR.sl TR.int)) v1 x1, imm (TR.sl (TR.sl TR.int)) v0 x0]) (fun (p : Nat × (List (List Int))) => p.1 + p.2.length = (x0).length ∧ List.drop p.1 x0 = p.2 ∧ rangeL (slices_EqualFunc_int_int_int_int_b1 x1 g2) p.2 p.1 () = some y23) (fun (p : Nat × (List (List Int))) => p.2.length) (0, x0) ⟨by simp, by simp, h25⟩ (fun a w st => St.cut [1, 0] ⟨rfl, rfl, rfl, rfl, rfl, trivial⟩ (by decide) rfl st) ?_
  rintro ⟨i30, r31⟩ ⟨h36, h37, h35⟩
  try dsimp only at h36 h37 h35
  refine GL.weak (env' := [(1, v1), (2, .func (.func f2) #[] c2), (15, v0), (16, .int .i64 ((x0).length : Int)), (17, .int .i64 (i30 : Int))]) (L' := [imm (TR.sl (TR.sl TR.int)) v1 x1, imm (TR.sl (TR.sl TR.int)) v0 x0]) (fun _ _ st => st) ?_
  refine GL.seq ?_
  refine GL.region ?_
  refine RL.binI (v := .bool (decide ((i30 : Int) < ((x0).length : Int)))) rfl rfl rfl rfl rfl ?_
  refine RL.finG ?_
  refine GL.seq ?_
  refine GL.cond rfl (fun b38 => ?_) (fun b38 => ?_)
  ·have h39 : i30 < (x0).length := by have := of_decide_eq_true b38; omega
   obtain ⟨y40, r42, hr, e41, h43⟩ := drop_cons h37 rfl h39
   subst hr
   obtain ⟨z32, h33, h34⟩ := rangeL_some h35
   unfold slices_EqualFunc_int_int_int_int_b1 at h33
   try dsimp only at h33
   refine GL.skip ?_
   refine GL.seq ?_
   refine GL.block ?_
   refine GL.seq ?_
   refine GL.region ?_
   refine RL.mv rfl rfl rfl ?_
   refine RL.idxS (sz := 1) 1 Try.underlying37 Try_ln27 rfl rfl rfl rfl rfl SlOf.imm (by omega) (by omega) ?_
   refine RL.ldS (i := i30) (r := (TR.sl TR.int)) (e' := y40) 1 Try_ln27 rfl rfl rfl rfl SlOf.imm e41 Part.self ?_
   intro v45
   refine RL.asg rfl rfl rfl ?_
   refine RL.asg rfl rfl rfl ?_
   refine RL.finG ?_
   refine GL.seq ?_
   refine GL.region ?_
   refine RL.mv rfl rfl rfl ?_
   refine RL.mv rfl rfl rfl ?_
   obtain ⟨y49, e50, h33⟩ := bind_some h33
   refine RL.idxS (sz := 1) 0 Try.underlying37 Try_ln27 rfl rfl rfl rfl rfl SlOf.imm (idx_some e50).1 (idx_some e50).2.1 ?_
   refine RL.ldS (i := i30) (r := (TR.sl TR.int)) (e' := y49) 0 Try_ln27 rfl rfl rfl rfl SlOf.imm (idx_some e50).2.2 Part.self ?_
   intro v51
   refine RL.reL (L' := [imm (TR.sl (TR.sl TR.int)) v1 x1, imm (TR.sl (TR.sl TR.int)) v0 x0, imm (TR.sl TR.int) v45 y40, imm (TR.sl TR.int) v51 y49]) rfl ?_
   refine RL.asg rfl rfl rfl ?_
   refine RL.finG ?_
   refine GL.seq ?_
   refine GL.region ?_
   refine RL.mv rfl rfl rfl ?_
   refine RL.mv rfl rfl rfl ?_
   refine RL.mv rfl rfl rfl ?_
   obtain ⟨y54, e55, h33⟩ := bind_some h33
   refine RL.callV (v := .bool y54) (vs := [v45, v51]) t2 rfl (Or.inl rfl) rfl rfl rfl rfl (fun U w hU hW hL => k2 U w hW hU _ _ (hL 2 _ _ rfl Seen.imm) _ _ (hL 3 _ _ rfl Seen.imm) _ e55) ?_
   refine RL.notB rfl rfl rfl ?_
   refine RL.finG ?_
   refine GL.cond rfl (fun b56 => ?_) (fun b56 => ?_)
   ·replace h33 := ite_t b56 h33
    refine GL.seq ?_
    refine GL.region ?_
    refine RL.asg rfl rfl rfl ?_
    refine RL.finG ?_
    cases h33
    replace h34 : some (Fl.rt _) = some y23 := h34
    cases h34
    have hh := h28 _ h26
    subst hh
    exact GL.ret (Gx.ret (v := .bool false) (res1 rfl rfl) (fun a w st => st.toPostV))
   replace h33 := ite_f b56 h33
   refine GL.skip ?_
   refine GL.nilB ?_
   refine GL.region ?_
   refine RL.binI (v := .int .i64 ((i30 + 1 : Nat) : Int)) rfl rfl rfl rfl (binI_succ i30 (by omega)) ?_
   refine RL.mv rfl rfl rfl ?_
   refine RL.fin ?_
   cases h33
   exact fun a w st => lop_intro (i30 + 1, r42) ⟨by show i30 + 1 + r42.length = (x0).length; simp only [List.length_cons] at h36; omega, h43, h34⟩ (by simp) (St.cut [0, 1] ⟨rfl, rfl, rfl, rfl, rfl, trivial⟩ (by decide) rfl st)
  have h39 : ¬ i30 < (x0).length := by have := of_decide_eq_false b38; omega
  obtain rfl : r31 = [] := by rw [← h37]; exact List.drop_of_length_le (by omega)
  replace h35 : some (Fl.nx _) = some y23 := h35
  cases h35
  exact GL.exit (fun a w st => mid_intro () h26 (St.cut [] trivial (by decide) rfl st))
 rintro ⟨⟩ h57
 have h58 := h27 _ h57
 try dsimp only at h58
 refine GL.weak (env' := []) (L' := []) (fun _ _ st => st) ?_
 refine GL.seq ?_
 refine GL.region ?_
 refine RL.asg rfl rfl rfl ?_
 refine RL.finG ?_
 have h58 := Option.some.inj h58
 subst h58
 exact GL.ret (Gx.ret (v := .bool true) (res1 rfl rfl) (fun a w st => st.toPostV))

set_option maxHeartbeats 4000000 in
theorem pk_TreePart_c (S : Hp) (w : World) (hS : S.sub w) (x0 : Int) (v1 : Value) (x1 : (List (Int × ((List Int) × (List Int))))) (k1 : ((TR.sl (TR.pair TR.int (TR.pair (TR.sl TR.int) (TR.sl TR.int))))).vrep S v1 x1) (x2 : Int) (res : Bool) (hm : pk_TreePart_m x0 x1 x2 = some res) : Calls Try.prog 4 #[.int .i64 x0, v1, .int .i64 x2] w (PostV w (.bool res)) := by
 refine calls_enter 111 Try.func4 Try.ntmps4 rfl S false [(0, .int .i64 x0), (1, v1), (2, .int .i64 x2)] [imm (TR.sl (TR.pair TR.int (TR.pair (TR.sl TR.int) (TR.sl TR.int)))) v1 x1] rfl ⟨rfl, ⟨rfl, ⟨rfl, trivial⟩⟩⟩ hS ⟨k1, trivial⟩ ?_
 unfold pk_TreePart_m at hm
 refine GL.seq ?_
 refine GL.region ?_
 refine RL.asg rfl rfl rfl ?_
 refine RL.finG ?_
 refine GL.seq ?_
 refine GL.seq ?_
 refine GL.region ?_
 obtain ⟨y6, e7, hm⟩ := bind_some hm
 refine RL.callV (v := .bool y6) (vs := []) Try_fit14 rfl (Or.inl rfl) rfl rfl rfl rfl (fun U w hU hW hL => pk_trees_c U w hU  _ e7) ?_
 refine RL.notB rfl rfl rfl ?_
 refine RL.finG ?_
 refine GL.cond rfl (fun b8 => ?_) (fun b8 => ?_)
 ·replace hm := ite_t b8 hm
  refine GL.seq ?_
  refine GL.region ?_
  refine RL.asg rfl rfl rfl ?_
  refine RL.finG ?_
  have hm := Option.some.inj hm
  subst hm
  exact GL.ret (Gx.ret (v := .bool false) (res1 rfl rfl) (fun a w st => st.toPostV))
 replace hm := ite_f b8 hm
 refine GL.skip ?_
 refine GL.seq ?_
 refine GL.region ?_
 refine RL.mv rfl rfl rfl ?_
 refine RL.mv rfl rfl rfl ?_
 obtain ⟨y13, e14, hm⟩ := bind_some hm
 refine RL.call (vs := [.int .i64 x0, v1]) Try_fit15 rfl rfl rfl rfl rfl (fun S f w hS hW hi => tree_Solve_c S w hS x0 _ _ (hi 0 _ rfl) _ e14) ?_
 intro ⟨v15, v16⟩
 refine RL.mv rfl rfl rfl ?_
 refine RL.ext rfl rfl rfl rfl ?_
 refine RL.ext rfl rfl rfl rfl ?_
 refine RL.ext rfl rfl rfl rfl ?_
 refine RL.asg rfl rfl rfl ?_
 refine RL.asg rfl rfl rfl ?_
 refine RL.asg rfl rfl rfl ?_
 refine RL.finG ?_
 refine GL.seq ?_
 refine GL.seq ?_
 obtain ⟨y22, K23, h24, h25, h26, h27, h28⟩ := bindR_K hm
 refine GL.join (ι := Bool) (fun (p : Bool) => [(0, .int .i64 x0), (1, v1), (2, .int .i64 x2), (7, v15), (8, v16), (9, .int .i64 y13.2.2), (41, .bool p)]) (fun (p : Bool) => [imm (TR.sl (TR.pair TR.int (TR.pair (TR.sl TR.int) (TR.sl TR.int)))) v1 x1, own 3 TR.int v15 y13.1, own 27 (TR.sl TR.int) v16 y13.2.1]) (fun (p : Bool) => K23 (.nx p)) ?_ ?_
 ·skip
  refine GL.region ?_
  refine RL.mv rfl rfl rfl ?_
  refine RL.binI (v := .bool (y13.2.2 != (0 : Int))) rfl rfl rfl rfl rfl ?_
  refine RL.mv rfl rfl rfl ?_
  refine RL.split (t := 28) rfl (fun b29 => ?_) (fun b29 => ?_)
  ·replace h24 := ite_t b29 h24
   refine RL.skip rfl rfl ?_
   refine RL.skip rfl rfl ?_
   refine RL.skip rfl rfl ?_
   refine RL.skip rfl rfl ?_
   refine RL.skip rfl rfl ?_
   refine RL.pickT rfl rfl rfl rfl ?_
   refine RL.mv rfl rfl rfl ?_
   refine RL.skip rfl rfl ?_
   refine RL.skip rfl rfl ?_
   refine RL.skip rfl rfl ?_
   refine RL.skip rfl rfl ?_
   refine RL.skip rfl rfl ?_
   refine RL.pickT rfl rfl rfl rfl ?_
   refine RL.fin ?_
   cases h24
   exact fun a w st => mid_intro true h25 (St.cut [0, 1, 2] ⟨rfl, rfl, rfl, rfl, rfl, rfl, rfl, trivial⟩ (by decide) rfl st)
  replace h24 := ite_f b29 h24
  refine RL.mv rfl rfl rfl ?_
  refine RL.lenS 1 Try.underlying27 rfl rfl rfl rfl SlOf.own ?_
  refine RL.mv rfl rfl rfl ?_
  refine RL.lenS 0 Try.underlying36 rfl rfl rfl rfl SlOf.imm ?_
  refine RL.binI (v := .bool (((y13.1).length : Int) != ((x1).length : Int))) rfl rfl rfl rfl rfl ?_
  refine RL.pickF rfl rfl rfl rfl ?_
  refine RL.mv rfl rfl rfl ?_
  refine RL.split (t := 35) rfl (fun b30 => ?_) (fun b30 => ?_)
  ·replace h24 := ite_t b30 h24
   refine RL.skip rfl rfl ?_
   refine RL.skip rfl rfl ?_
   refine RL.skip rfl rfl ?_
   refine RL.skip rfl rfl ?_
   refine RL.skip rfl rfl ?_
   refine RL.pickT rfl rfl rfl rfl ?_
   refine RL.fin ?_
   cases h24
   exact fun a w st => mid_intro true h25 (St.cut [0, 1, 2] ⟨rfl, rfl, rfl, rfl, rfl, rfl, rfl, trivial⟩ (by decide) rfl st)
  replace h24 := ite_f b30 h24
  refine RL.mv rfl rfl rfl ?_
  refine RL.lenS 2 Try.underlying37 rfl rfl rfl rfl SlOf.own ?_
  refine RL.mv rfl rfl rfl ?_
  refine RL.lenS 0 Try.underlying36 rfl rfl rfl rfl SlOf.imm ?_
  refine RL.binI (v := .bool (((y13.2.1).length : Int) != ((x1).length : Int))) rfl rfl rfl rfl rfl ?_
  refine RL.pickF rfl rfl rfl rfl ?_
  refine RL.fin ?_
  cases h24
  exact fun a w st => mid_intro (((y13.2.1).length : Int) != ((x1).length : Int)) h25 (St.cut [0, 1, 2] ⟨rfl, rfl, rfl, rfl, rfl, rfl, rfl, trivial⟩ (by decide) rfl st)
 rintro x21 h31
 have h32 := h26 _ h31
 try dsimp only at h32
 refine GL.weak (env' := [(0, .int .i64 x0), (1, v1), (2, .int .i64 x2), (7, v15), (8, v16), (9, .int .i64 y13.2.2), (41, .bool x21)]) (L' := [imm (TR.sl (TR.pair TR.int (TR.pair (TR.sl TR.int) (TR.sl TR.int)))) v1 x1, own 3 TR.int v15 y13.1, own 27 (TR.sl TR.int) v16 y13.2.1]) (fun _ _ st => st) ?_
 refine GL.cond rfl (fun b33 => ?_) (fun b33 => ?_)
 ·replace h32 := ite_t b33 h32
  refine GL.seq ?_
  obtain ⟨y37, K38, h39, h40, h41, h42, h43⟩ := bindR_K h32
  refine GL.join (ι := Bool) (fun (p : Bool) => [(6, .bool p)]) (fun (p : Bool) => []) (fun (p : Bool) => K38 (.nx p)) ?_ ?_
  ·skip
   refine GL.region ?_
   refine RL.mv rfl rfl rfl ?_
   refine RL.binI (v := .bool (y13.2.2 != (0 : Int))) rfl rfl rfl rfl rfl ?_
   refine RL.mv rfl rfl rfl ?_
   refine RL.split (t := 44) rfl (fun b44 => ?_) (fun b44 => ?_)
   ·replace h39 := ite_t b44 h39
    refine RL.mv rfl rfl rfl ?_
    refine RL.lenS 1 Try.underlying27 rfl rfl rfl rfl SlOf.own ?_
    refine RL.mv rfl rfl rfl ?_
    refine RL.lenS 2 Try.underlying37 rfl rfl rfl rfl SlOf.own ?_
    refine RL.binI (v := .int .i64 (wadd ((y13.1).length : Int) ((y13.2.1).length : Int))) rfl rfl rfl rfl rfl ?_
    refine RL.binI (v := .bool ((wadd ((y13.1).length : Int) ((y13.2.1).length : Int)) == (0 : Int))) rfl rfl rfl rfl rfl ?_
    refine RL.pickT rfl rfl rfl rfl ?_
    refine RL.asg rfl rfl rfl ?_
    refine RL.fin ?_
    cases h39
    exact fun a w st => mid_intro ((wadd ((y13.1).length : Int) ((y13.2.1).length : Int)) == (0 : Int)) h40 (St.cut [] ⟨rfl, trivial⟩ (by decide) rfl st)
   replace h39 := ite_f b44 h39
   refine RL.skip rfl rfl ?_
   refine RL.skip rfl rfl ?_
   refine RL.skip rfl rfl ?_
   refine RL.skip rfl rfl ?_
   refine RL.skip rfl rfl ?_
   refine RL.skip rfl rfl ?_
   refine RL.pickF rfl rfl rfl rfl ?_
   refine RL.asg rfl rfl rfl ?_
   refine RL.fin ?_
   cases h39
   exact fun a w st => mid_intro false h40 (St.cut [] ⟨rfl, trivial⟩ (by decide) rfl st)
  rintro x36 h45
  have h46 := h41 _ h45
  try dsimp only at h46
  refine GL.weak (env' := [(6, .bool x36)]) (L' := []) (fun _ _ st => st) ?_
  have h46 := Option.some.inj h46
  subst h46
  exact GL.ret (Gx.ret (v := .bool x36) (res1 rfl rfl) (fun a w st => st.toPostV))
 replace h32 := ite_f b33 h32
 refine GL.skip ?_
 refine GL.seq ?_
 refine GL.region ?_
 refine RL.mv rfl rfl rfl ?_
 refine RL.mv rfl rfl rfl ?_
 refine RL.lenS 0 Try.underlying36 rfl rfl rfl rfl SlOf.imm ?_
 obtain ⟨y49, e50, h32⟩ := bind_some h32
 refine RL.callC (v := .int .i64 y49) (vs := [.int .i64 x2, .int .i64 ((x1).length : Int)]) Try_fit10 rfl rfl rfl rfl (fun U w hU hW hL => pk_Within_c U w hU x2 ((x1).length : Int) _ e50) ?_
 refine RL.asg rfl rfl rfl ?_
 refine RL.finG ?_
 refine GL.seq ?_
 refine GL.region ?_
 refine RL.asg rfl rfl rfl ?_
 refine RL.finG ?_
 refine GL.seq ?_
 refine GL.seq ?_
 refine GL.region ?_
 refine RL.mv rfl rfl rfl ?_
 refine RL.mv rfl rfl rfl ?_
 obtain ⟨y54, e55, h32⟩ := bind_some h32
 replace e55 := chk_some e55
 refine RL.slc (t := (TR.pair TR.int (TR.pair (TR.sl TR.int) (TR.sl TR.int)))) (i := (y49).toNat) (j := (x1).length) (sz := 3) 0 Try.underlying36 Try_ln41 rfl rfl rfl rfl (Or.inr ⟨_, _, rfl, by rw [Int.toNat_of_nonneg (by omega)]; rfl⟩) (Or.inl ⟨rfl, rfl⟩) rfl (by omega) (by omega) ?_
 intro v56
 refine RL.lenS 3 Try.underlying36 rfl rfl rfl rfl SlOf.imm ?_
 refine RL.mv rfl rfl rfl ?_
 refine RL.finG ?_
 refine GL.weak (fun a w st => st.nilOwn 41 (TR.pair TR.int (TR.pair (TR.sl TR.int) (TR.sl TR.int)))) ?_
 refine GL.open_ 3 rfl (fun S h => len_imm S h) (fun n133 => ?_)
 obtain ⟨y134, K135, h136, h137, h138, h139, h140⟩ := bindR_K h32
 refine GL.join (ι := (List (Int × ((List Int) × (List Int)))) × Value) (fun (p : (List (Int × ((List Int) × (List Int)))) × Value) => [(0, .int .i64 x0), (2, .int .i64 y49), (7, v15), (8, v16), (10, p.2)]) (fun (p : (List (Int × ((List Int) × (List Int)))) × Value) => [own 3 TR.int v15 y13.1, own 27 (TR.sl TR.int) v16 y13.2.1, own 41 (TR.pair TR.int (TR.pair (TR.sl TR.int) (TR.sl TR.int))) p.2 p.1]) (fun (p : (List (Int × ((List Int) × (List Int)))) × Value) => K135 (.nx p.1)) ?_ ?_
 ·refine GL.block ?_
  refine GL.loop (ι := Nat × (List (Int × ((List Int) × (List Int)))) × (List (Int × ((List Int) × (List Int)))) × Value) (fun (p : Nat × (List (Int × ((List Int) × (List Int)))) × (List (Int × ((List Int) × (List Int)))) × Value) => [(0, .int .i64 x0), (2, .int .i64 y49), (7, v15), (8, v16), (10, p.2.2.2), (58, v56), (59, .int .i64 ((((List.take ((x1).length) x1).drop ((y49).toNat))).length : Int)), (60, .int .i64 (p.1 : Int))]) (fun (p : Nat × (List (Int × ((List Int) × (List Int)))) × (List (Int × ((List Int) × (List Int)))) × Value) => [own 3 TR.int v15 y13.1, own 27 (TR.sl TR.int) v16 y13.2.1, own 41 (TR.pair TR.int (TR.pair (TR.sl TR.int) (TR.sl TR.int))) p.2.2.2 p.2.2.1, imm (TR.sl (TR.pair TR.int (TR.pair (TR.sl TR.int) (TR.sl TR.int)))) v56 ((List.take ((x1).length) x1).drop ((y49).toNat))]) (fun (p : Nat × (List (Int × ((List Int) × (List Int)))) × (List (Int × ((List Int) × (List Int)))) × Value) => p.1 + p.2.1.length = (((List.take ((x1).length) x1).drop ((y49).toNat))).length ∧ List.drop p.1 ((List.take ((x1).length) x1).drop ((y49).toNat)) = p.2.1 ∧ rangeL (pk_TreePart_b1 y49) p.2.1 p.1 p.2.2.1 = some y134) (fun (p : Nat × (List (Int × ((List Int) × (List Int)))) × (List (Int × ((List Int) × (List Int)))) × Value) => p.2.1.length) (0, ((List.take ((x1).length) x1).drop ((y49).toNat)), [], Value.slice none 0 0) ⟨by simp, by simp, h136⟩ (fun a w st => St.cut [1, 2, 4, 3] ⟨rfl, rfl, rfl, rfl, rfl, rfl, rfl, rfl, trivial⟩ (by decide) rfl st) ?_
  rintro ⟨i141, r142, l57, v58⟩ ⟨h147, h148, h146⟩
  try dsimp only at h147 h148 h146
  refine GL.weak (env' := [(0, .int .i64 x0), (2, .int .i64 y49), (7, v15), (8, v16), (10, v58), (58, v56), (59, .int .i64 ((((List.take ((x1).length) x1).drop ((y49).toNat))).length : Int)), (60, .int .i64 (i141 : Int))]) (L' := [own 3 TR.int v15 y13.1, own 27 (TR.sl TR.int) v16 y13.2.1, own 41 (TR.pair TR.int (TR.pair (TR.sl TR.int) (TR.sl TR.int))) v58 l57, imm (TR.sl (TR.pair TR.int (TR.pair (TR.sl TR.int) (TR.sl TR.int)))) v56 ((List.take ((x1).length) x1).drop ((y49).toNat))]) (fun _ _ st => st) ?_
  refine GL.seq ?_
  refine GL.region ?_
  refine RL.binI (v := .bool (decide ((i141 : Int) < ((((List.take ((x1).length) x1).drop ((y49).toNat))).length : Int)))) rfl rfl rfl rfl rfl ?_
  refine RL.finG ?_
  refine GL.seq ?_
  refine GL.cond rfl (fun b149 => ?_) (fun b149 => ?_)
  ·have h150 : i141 < (((List.take ((x1).length) x1).drop ((y49).toNat))).length := by have := of_decide_eq_true b149; omega
   obtain ⟨y151, r153, hr, e152, h154⟩ := drop_cons h148 rfl h150
   subst hr
   obtain ⟨z143, h144, h145⟩ := rangeL_some h146
   unfold pk_TreePart_b1 at h144
   try dsimp only at h144
   refine GL.skip ?_
   refine GL.seq ?_
   refine GL.block ?_
   refine GL.seq ?_
   refine GL.region ?_
   refine RL.idxS (sz := 3) 3 Try.underlying36 Try_ln41 rfl rfl rfl rfl rfl SlOf.imm (by omega) (by omega) ?_
   refine RL.ldS (i := i141) (r := (TR.pair TR.int (TR.pair (TR.sl TR.int) (TR.sl TR.int)))) (e' := y151) 3 Try_ln41 rfl rfl rfl rfl SlOf.imm e152 Part.self ?_
   intro v157
   refine RL.alloc (t := (TR.pair TR.int (TR.pair (TR.sl TR.int) (TR.sl TR.int)))) (z := ((0 : Int), ([] : (List Int)), ([] : (List Int)))) Try_lo41 (fun S => ⟨[.int .i64 0], _, rfl, rfl, ⟨[.slice none 0 0], _, rfl, ⟨_, [], rfl, ⟨none, 0, rfl, Nat.le_refl _, Nat.zero_le _, Or.inl ⟨rfl, rfl⟩⟩, rfl⟩, ⟨_, [], rfl, ⟨none, 0, rfl, Nat.le_refl _, Nat.zero_le _, Or.inl ⟨rfl, rfl⟩⟩, rfl⟩⟩⟩) rfl rfl rfl ?_
   intro v158
   refine RL.reL (L' := [own 3 TR.int v15 y13.1, own 27 (TR.sl TR.int) v16 y13.2.1, own 41 (TR.pair TR.int (TR.pair (TR.sl TR.int) (TR.sl TR.int))) v58 l57, imm (TR.sl (TR.pair TR.int (TR.pair (TR.sl TR.int) (TR.sl TR.int)))) v56 ((List.take ((x1).length) x1).drop ((y49).toNat)), imm (TR.pair TR.int (TR.pair (TR.sl TR.int) (TR.sl TR.int))) v157 y151, obox 41 (TR.pair TR.int (TR.pair (TR.sl TR.int) (TR.sl TR.int))) v158 ((0 : Int), ([] : (List Int)), ([] : (List Int)))]) rfl ?_
   refine RL.stP (off := 0) (e' := y151) (d1 := y151) (r := (TR.pair TR.int (TR.pair (TR.sl TR.int) (TR.sl TR.int)))) 5 Try_ln41 rfl rfl (Or.inr ⟨rfl, rfl⟩) rfl (VR.item 4 rfl) rfl Upd.self ?_
   refine RL.finG ?_
   refine GL.seq ?_
   refine GL.region ?_
   refine RL.fadr (off := 0) (fo := 1) 5 Try_fld41_1 rfl rfl rfl PtOf.obox (Or.inr ⟨rfl, rfl⟩) ?_
   refine RL.ldP (off := (0 + 1)) (r := (TR.sl TR.int)) (e' := y151.2.1) 5 Try_ln27 rfl rfl (Or.inl rfl) rfl PtOf.obox (Part.snd (Part.fst Part.self)) ?_
   intro v164
   refine RL.reL (L' := [own 3 TR.int v15 y13.1, own 27 (TR.sl TR.int) v16 y13.2.1, own 41 (TR.pair TR.int (TR.pair (TR.sl TR.int) (TR.sl TR.int))) v58 l57, imm (TR.sl (TR.pair TR.int (TR.pair (TR.sl TR.int) (TR.sl TR.int)))) v56 ((List.take ((x1).length) x1).drop ((y49).toNat)), imm (TR.pair TR.int (TR.pair (TR.sl TR.int) (TR.sl TR.int))) v157 y151, obox 41 (TR.pair TR.int (TR.pair (TR.sl TR.int) (TR.sl TR.int))) v158 y151, imm (TR.sl TR.int) v164 y151.2.1]) rfl ?_
   obtain ⟨y165, e166, h144⟩ := bind_some h144
   refine RL.call (vs := [v164]) Try_fit16 rfl rfl rfl rfl rfl (fun S f w hS hW hi => slices_Clone_int_int_c S w hS _ _ (hi 6 _ rfl) _ e166) ?_
   intro v167
   refine RL.fadr (off := 0) (fo := 1) 5 Try_fld41_1 rfl rfl rfl PtOf.obox (Or.inr ⟨rfl, rfl⟩) ?_
   refine RL.rawB (t' := (TR.pair TR.int (TR.pair TR.raw (TR.sl TR.int)))) (mk := fun u => (y151.1, (u, y151.2.2))) 5 rfl (Rawed.snd (Rawed.fst Rawed.sl)) ?_
   intro u168
   refine RL.stP (off := (0 + 1)) (e' := v167) (d1 := (y151.1, (v167, y151.2.2))) (r := TR.raw) 5 Try_ln27 rfl rfl (Or.inl rfl) rfl (VR.rawOf 7 rfl SlOf.own) rfl (Upd.snd (Upd.fst Upd.self)) ?_
   refine RL.reL (L' := [own 3 TR.int v15 y13.1, own 27 (TR.sl TR.int) v16 y13.2.1, own 41 (TR.pair TR.int (TR.pair (TR.sl TR.int) (TR.sl TR.int))) v58 l57, imm (TR.sl (TR.pair TR.int (TR.pair (TR.sl TR.int) (TR.sl TR.int)))) v56 ((List.take ((x1).length) x1).drop ((y49).toNat)), imm (TR.pair TR.int (TR.pair (TR.sl TR.int) (TR.sl TR.int))) v157 y151, obox 41 (TR.pair TR.int (TR.pair TR.raw (TR.sl TR.int))) v158 (y151.1, (v167, y151.2.2)), imm (TR.sl TR.int) v164 y151.2.1, own 3 TR.int v167 y165]) rfl ?_
   refine RL.finG ?_
   refine GL.seq ?_
   refine GL.seq ?_
   refine GL.region ?_
   refine RL.fadr (off := 0) (fo := 1) 5 Try_fld41_1 rfl rfl rfl PtOf.obox (Or.inr ⟨rfl, rfl⟩) ?_
   refine RL.ldPx (off := (0 + 1)) (e' := v167) 5 Ex.raw Try_ln27 rfl rfl (Or.inl rfl) rfl PtOf.obox (Part.snd (Part.fst Part.self)) ?_
   refine RL.lenS 7 Try.underlying27 rfl rfl rfl rfl SlOf.own ?_
   refine RL.mv rfl rfl rfl ?_
   refine RL.finG ?_
   refine GL.lenOwn 7 rfl (fun n186 => ?_)
   obtain ⟨y187, K188, h189, h190, h191, h192, h193⟩ := bindF_K h144
   refine GL.join (ι := (List Int)) (fun (p : (List Int)) => [(0, .int .i64 x0), (2, .int .i64 y49), (7, v15), (8, v16), (10, v58), (12, v158), (58, v56), (59, .int .i64 ((((List.take ((x1).length) x1).drop ((y49).toNat))).length : Int)), (60, .int .i64 (i141 : Int))]) (fun (p : (List Int)) => [own 3 TR.int v15 y13.1, own 27 (TR.sl TR.int) v16 y13.2.1, own 41 (TR.pair TR.int (TR.pair (TR.sl TR.int) (TR.sl TR.int))) v58 l57, obox 41 (TR.pair TR.int (TR.pair TR.raw (TR.sl TR.int))) v158 (y151.1, (v167, y151.2.2)), own 3 TR.int v167 p, imm (TR.sl (TR.pair TR.int (TR.pair (TR.sl TR.int) (TR.sl TR.int)))) v56 ((List.take ((x1).length) x1).drop ((y49).toNat))]) (fun (p : (List Int)) => K188 (.nx p)) ?_ ?_
   ·refine GL.block ?_
    refine GL.loop (ι := Nat × Nat × (List Int)) (fun (p : Nat × Nat × (List Int)) => [(0, .int .i64 x0), (2, .int .i64 y49), (7, v15), (8, v16), (10, v58), (12, v158), (58, v56), (59, .int .i64 ((((List.take ((x1).length) x1).drop ((y49).toNat))).length : Int)), (60, .int .i64 (i141 : Int)), (70, .int .i64 ((y165).length : Int)), (71, .int .i64 (p.1 : Int))]) (fun (p : Nat × Nat × (List Int)) => [own 3 TR.int v15 y13.1, own 27 (TR.sl TR.int) v16 y13.2.1, own 41 (TR.pair TR.int (TR.pair (TR.sl TR.int) (TR.sl TR.int))) v58 l57, own 3 TR.int v167 p.2.2, obox 41 (TR.pair TR.int (TR.pair TR.raw (TR.sl TR.int))) v158 (y151.1, (v167, y151.2.2)), imm (TR.sl (TR.pair TR.int (TR.pair (TR.sl TR.int) (TR.sl TR.int)))) v56 ((List.take ((x1).length) x1).drop ((y49).toNat))]) (fun (p : Nat × Nat × (List Int)) => p.1 + p.2.1 = (y165).length ∧ rangeN (pk_TreePart_b2 y49) p.2.1 p.1 p.2.2 = some y187) (fun (p : Nat × Nat × (List Int)) => p.2.1) (0, (y165).length, y165) ⟨by simp, h189⟩ (fun a w st => St.cut [0, 1, 2, 7, 5, 3] ⟨rfl, rfl, rfl, rfl, rfl, rfl, rfl, rfl, rfl, rfl, rfl, trivial⟩ (by decide) rfl st) ?_
    rintro ⟨i194, r195, l177⟩ ⟨h200, h199⟩
    try dsimp only at h200 h199
    refine GL.weak (env' := [(0, .int .i64 x0), (2, .int .i64 y49), (7, v15), (8, v16), (10, v58), (12, v158), (58, v56), (59, .int .i64 ((((List.take ((x1).length) x1).drop ((y49).toNat))).length : Int)), (60, .int .i64 (i141 : Int)), (70, .int .i64 ((y165).length : Int)), (71, .int .i64 (i194 : Int))]) (L' := [own 3 TR.int v15 y13.1, own 27 (TR.sl TR.int) v16 y13.2.1, own 41 (TR.pair TR.int (TR.pair (TR.sl TR.int) (TR.sl TR.int))) v58 l57, own 3 TR.int v167 l177, obox 41 (TR.pair TR.int (TR.pair TR.raw (TR.sl TR.int))) v158 (y151.1, (v167, y151.2.2)), imm (TR.sl (TR.pair TR.int (TR.pair (TR.sl TR.int) (TR.sl TR.int)))) v56 ((List.take ((x1).length) x1).drop ((y49).toNat))]) (fun _ _ st => st) ?_
    refine GL.seq ?_
    refine GL.region ?_
    refine RL.binI (v := .bool (decide ((i194 : Int) < ((y165).length : Int)))) rfl rfl rfl rfl rfl ?_
    refine RL.finG ?_
    refine GL.seq ?_
    refine GL.cond rfl (fun b202 => ?_) (fun b202 => ?_)
    ·have h203 : i194 < (y165).length := by have := of_decide_eq_true b202; omega
     obtain ⟨r204, hr⟩ : ∃ m, r195 = m + 1 := ⟨r195 - 1, by omega⟩
     subst hr
     obtain ⟨z196, h197, h198⟩ := rangeN_some h199
     unfold pk_TreePart_b2 at h197
     try dsimp only at h197
     refine GL.skip ?_
     refine GL.seq ?_
     refine GL.block ?_
     refine GL.seq ?_
     refine GL.region ?_
     refine RL.mv rfl rfl rfl ?_
     refine RL.asg rfl rfl rfl ?_
     refine RL.finG ?_
     refine GL.region ?_
     refine RL.fadr (off := 0) (fo := 1) 4 Try_fld41_1 rfl rfl rfl PtOf.obox (Or.inr ⟨rfl, rfl⟩) ?_
     refine RL.ldPx (off := (0 + 1)) (e' := v167) 4 Ex.raw Try_ln27 rfl rfl (Or.inl rfl) rfl PtOf.obox (Part.snd (Part.fst Part.self)) ?_
     refine RL.mv rfl rfl rfl ?_
     obtain ⟨y209, e210, h197⟩ := bind_some h197
     refine RL.idxS (sz := 1) 3 Try.underlying27 Try_ln3 rfl rfl rfl rfl rfl SlOf.own (idx_some e210).1 (idx_some e210).2.1 ?_
     refine RL.ldSx (i := i194) (e' := y209) 3 Ex.ik Try_ln3 rfl rfl rfl rfl SlOf.own (idx_some e210).2.2 Part.self ?_
     refine RL.mv rfl rfl rfl ?_
     refine RL.binI (v := .int .i64 (wsub y209 y49)) rfl rfl rfl rfl rfl ?_
     obtain ⟨y211, e212, h197⟩ := bind_some h197
     refine RL.idxS (sz := 1) 3 Try.underlying27 Try_ln3 rfl rfl rfl rfl rfl SlOf.own (idx_some e212).1 (idx_some e212).2.1 ?_
     refine RL.stS (i := i194) (e' := wsub y209 y49) (e1 := wsub y209 y49) (r := TR.int) 3 Try_ln3 rfl rfl rfl rfl VR.int rfl (idx_some e212).2.2 Upd.self ?_
     refine RL.finG ?_
     refine GL.nilB ?_
     refine GL.region ?_
     refine RL.binI (v := .int .i64 ((i194 + 1 : Nat) : Int)) rfl rfl rfl rfl (binI_succ i194 (by omega)) ?_
     refine RL.mv rfl rfl rfl ?_
     refine RL.fin ?_
     cases h197
     exact fun a w st => lop_intro (i194 + 1, r204, (List.set l177 i194 (wsub y209 y49))) ⟨by show i194 + 1 + r204 = (y165).length; omega, h198⟩ (by simp) (St.cut [0, 1, 2, 3, 4, 5] ⟨rfl, rfl, rfl, rfl, rfl, rfl, rfl, rfl, rfl, rfl, rfl, trivial⟩ (by decide) rfl st)
    have h203 : ¬ i194 < (y165).length := by have := of_decide_eq_false b202; omega
    obtain rfl : r195 = 0 := by omega
    replace h199 : some (Fl.nx _) = some y187 := h199
    cases h199
    exact GL.exit (fun a w st => mid_intro l177 h190 (St.cut [0, 1, 2, 4, 3, 5] ⟨rfl, rfl, rfl, rfl, rfl, rfl, rfl, rfl, rfl, trivial⟩ (by decide) rfl st))
   rintro l177 h213
   have h214 := h191 _ h213
   try dsimp only at h214
   refine GL.weak (env' := [(0, .int .i64 x0), (2, .int .i64 y49), (7, v15), (8, v16), (10, v58), (12, v158), (58, v56), (59, .int .i64 ((((List.take ((x1).length) x1).drop ((y49).toNat))).length : Int)), (60, .int .i64 (i141 : Int))]) (L' := [own 3 TR.int v15 y13.1, own 27 (TR.sl TR.int) v16 y13.2.1, own 41 (TR.pair TR.int (TR.pair (TR.sl TR.int) (TR.sl TR.int))) v58 l57, obox 41 (TR.pair TR.int (TR.pair TR.raw (TR.sl TR.int))) v158 (y151.1, (v167, y151.2.2)), own 3 TR.int v167 l177, imm (TR.sl (TR.pair TR.int (TR.pair (TR.sl TR.int) (TR.sl TR.int)))) v56 ((List.take ((x1).length) x1).drop ((y49).toNat))]) (fun _ _ st => st) ?_
   refine GL.region ?_
   refine RL.mv rfl rfl rfl ?_
   refine RL.weak (fun a w st => st.freeze 4 rfl) ?_
   refine RL.weak (fun a w st => st.heldB 3 4 rfl rfl (Helded.snd (Helded.fst Helded.sl))) ?_
   refine RL.ldP (off := 0) (r := (TR.pair TR.int (TR.pair (TR.sl TR.int) (TR.sl TR.int)))) (e' := (y151.1, (l177, y151.2.2))) 3 Try_ln41 rfl rfl (Or.inr ⟨rfl, rfl⟩) rfl PtOf.obox Part.self ?_
   intro v220
   refine RL.reL (L' := [own 3 TR.int v15 y13.1, own 27 (TR.sl TR.int) v16 y13.2.1, own 41 (TR.pair TR.int (TR.pair (TR.sl TR.int) (TR.sl TR.int))) v58 l57, obox 41 (TR.pair TR.int (TR.pair (TR.sl TR.int) (TR.sl TR.int))) v158 (y151.1, (l177, y151.2.2)), imm (TR.sl TR.int) v167 l177, imm (TR.sl (TR.pair TR.int (TR.pair (TR.sl TR.int) (TR.sl TR.int)))) v56 ((List.take ((x1).length) x1).drop ((y49).toNat)), imm (TR.pair TR.int (TR.pair (TR.sl TR.int) (TR.sl TR.int))) v220 (y151.1, (l177, y151.2.2))]) rfl ?_
   refine RL.bS (t := (TR.pair TR.int (TR.pair (TR.sl TR.int) (TR.sl TR.int)))) (vs := [v220]) ([(y151.1, (l177, y151.2.2))] : (List (Int × ((List Int) × (List Int))))) Try.underlying36 Try_lo41 rfl rfl rfl rfl ⟨(VR.item 6 rfl), trivial⟩ rfl (by decide) ?_
   intro v221
   obtain ⟨y222, e223, h214⟩ := bind_some h214
   replace e223 := chk_some e223
   refine RL.app 2 7 Try.underlying36 Try_lo41 rfl rfl rfl rfl rfl rfl rfl SlOf.own e223 ?_
   intro v224
   refine RL.reL (L' := [own 3 TR.int v15 y13.1, own 27 (TR.sl TR.int) v16 y13.2.1, own 41 (TR.pair TR.int (TR.pair (TR.sl TR.int) (TR.sl TR.int))) v224 (l57 ++ ([(y151.1, (l177, y151.2.2))] : (List (Int × ((List Int) × (List Int)))))), obox 41 (TR.pair TR.int (TR.pair (TR.sl TR.int) (TR.sl TR.int))) v158 (y151.1, (l177, y151.2.2)), imm (TR.sl TR.int) v167 l177, imm (TR.sl (TR.pair TR.int (TR.pair (TR.sl TR.int) (TR.sl TR.int)))) v56 ((List.take ((x1).length) x1).drop ((y49).toNat)), imm (TR.pair TR.int (TR.pair (TR.sl TR.int) (TR.sl TR.int))) v220 (y151.1, (l177, y151.2.2)), own 41 (TR.pair TR.int (TR.pair (TR.sl TR.int) (TR.sl TR.int))) v221 ([(y151.1, (l177, y151.2.2))] : (List (Int × ((List Int) × (List Int)))))]) rfl ?_
   refine RL.asg rfl rfl rfl ?_
   refine RL.finG ?_
   refine GL.nilB ?_
   refine GL.region ?_
   refine RL.binI (v := .int .i64 ((i141 + 1 : Nat) : Int)) rfl rfl rfl rfl (binI_succ i141 (by omega)) ?_
   refine RL.mv rfl rfl rfl ?_
   refine RL.fin ?_
   cases h214
   exact fun a w st => lop_intro (i141 + 1, r153, (l57 ++ ([(y151.1, (l177, y151.2.2))] : (List (Int × ((List Int) × (List Int)))))), v224) ⟨by show i141 + 1 + r153.length = (((List.take ((x1).length) x1).drop ((y49).toNat))).length; simp only [List.length_cons] at h147; omega, h154, h145⟩ (by simp) (St.cut [0, 1, 2, 5] ⟨rfl, rfl, rfl, rfl, rfl, rfl, rfl, rfl, trivial⟩ (by decide) rfl st)
  have h150 : ¬ i141 < (((List.take ((x1).length) x1).drop ((y49).toNat))).length := by have := of_decide_eq_false b149; omega
  obtain rfl : r142 = [] := by rw [← h148]; exact List.drop_of_length_le (by omega)
  replace h146 : some (Fl.nx _) = some y134 := h146
  cases h146
  exact GL.exit (fun a w st => mid_intro (l57, v58) h137 (St.cut [0, 1, 2] ⟨rfl, rfl, rfl, rfl, rfl, trivial⟩ (by decide) rfl st))
 rintro ⟨l57, v58⟩ h225
 have h226 := h138 _ h225
 try dsimp only at h226
 refine GL.weak (env' := [(0, .int .i64 x0), (2, .int .i64 y49), (7, v15), (8, v16), (10, v58)]) (L' := [own 3 TR.int v15 y13.1, own 27 (TR.sl TR.int) v16 y13.2.1, own 41 (TR.pair TR.int (TR.pair (TR.sl TR.int) (TR.sl TR.int))) v58 l57]) (fun _ _ st => st) ?_
 refine GL.seq ?_
 refine GL.region ?_
 refine RL.mv rfl rfl rfl ?_
 refine RL.mv rfl rfl rfl ?_
 refine RL.weak (fun a w st => st.freeze 2 rfl) ?_
 obtain ⟨y231, e232, h226⟩ := bind_some h226
 refine RL.call (vs := [.int .i64 x0, v58]) Try_fit15 rfl rfl rfl rfl rfl (fun S f w hS hW hi => tree_Solve_c S w hS x0 _ _ (hi 2 _ rfl) _ e232) ?_
 intro ⟨v233, v234⟩
 refine RL.reL (L' := [own 3 TR.int v15 y13.1, own 27 (TR.sl TR.int) v16 y13.2.1, imm (TR.sl (TR.pair TR.int (TR.pair (TR.sl TR.int) (TR.sl TR.int)))) v58 l57, own 3 TR.int v233 y231.1, own 27 (TR.sl TR.int) v234 y231.2.1]) rfl ?_
 refine RL.mv rfl rfl rfl ?_
 refine RL.ext rfl rfl rfl rfl ?_
 refine RL.ext rfl rfl rfl rfl ?_
 refine RL.ext rfl rfl rfl rfl ?_
 refine RL.asg rfl rfl rfl ?_
 refine RL.asg rfl rfl rfl ?_
 refine RL.asg rfl rfl rfl ?_
 refine RL.finG ?_
 refine GL.seq ?_
 obtain ⟨y260, K261, h262, h263, h264, h265, h266⟩ := bindR_K h226
 refine GL.join (ι := Bool) (fun (p : Bool) => [(6, .bool p)]) (fun (p : Bool) => []) (fun (p : Bool) => K261 (.nx p)) ?_ ?_
 ·skip
  refine GL.region ?_
  refine RL.mv rfl rfl rfl ?_
  refine RL.binI (v := .bool (y231.2.2 == (0 : Int))) rfl rfl rfl rfl rfl ?_
  refine RL.mv rfl rfl rfl ?_
  refine RL.split (t := 97) rfl (fun b267 => ?_) (fun b267 => ?_)
  ·replace h262 := ite_t b267 h262
   refine RL.mv rfl rfl rfl ?_
   refine RL.mv rfl rfl rfl ?_
   refine RL.mv rfl rfl rfl ?_
   refine RL.weak (fun a w st => st.freeze 0 rfl) ?_
   obtain ⟨y268, e269, h262⟩ := bind_some h262
   replace e269 := chk_some e269
   refine RL.slc (t := TR.int) (i := (y49).toNat) (j := (y13.1).length) (sz := 1) 0 Try.underlying27 Try_ln3 rfl rfl rfl rfl (Or.inr ⟨_, _, rfl, by rw [Int.toNat_of_nonneg (by omega)]; rfl⟩) (Or.inl ⟨rfl, rfl⟩) rfl (by omega) (by omega) ?_
   intro v270
   refine RL.reL (L' := [imm (TR.sl TR.int) v15 y13.1, own 27 (TR.sl TR.int) v16 y13.2.1, imm (TR.sl (TR.pair TR.int (TR.pair (TR.sl TR.int) (TR.sl TR.int)))) v58 l57, own 3 TR.int v233 y231.1, own 27 (TR.sl TR.int) v234 y231.2.1, imm (TR.sl TR.int) v270 ((List.take ((y13.1).length) y13.1).drop ((y49).toNat))]) rfl ?_
   obtain ⟨y271, e272, h262⟩ := bind_some h262
   refine RL.callV (v := .bool y271) (vs := [v233, v270]) Try_fit17 rfl (Or.inl rfl) rfl rfl rfl rfl (fun U w hU hW hL => slices_Equal_int_int_c U w hU _ _ (hL 3 _ _ rfl Seen.own) _ _ (hL 5 _ _ rfl Seen.imm) _ e272) ?_
   refine RL.pickT rfl rfl rfl rfl ?_
   refine RL.mv rfl rfl rfl ?_
   refine RL.split (t := 104) rfl (fun b273 => ?_) (fun b273 => ?_)
   ·replace h262 := ite_t b273 h262
    refine RL.mv rfl rfl rfl ?_
    refine RL.mv rfl rfl rfl ?_
    refine RL.mv rfl rfl rfl ?_
    refine RL.weak (fun a w st => st.freeze 1 rfl) ?_
    obtain ⟨y274, e275, h262⟩ := bind_some h262
    replace e275 := chk_some e275
    refine RL.slc (t := (TR.sl TR.int)) (i := (y49).toNat) (j := (y13.2.1).length) (sz := 1) 1 Try.underlying37 Try_ln27 rfl rfl rfl rfl (Or.inr ⟨_, _, rfl, by rw [Int.toNat_of_nonneg (by omega)]; rfl⟩) (Or.inl ⟨rfl, rfl⟩) rfl (by omega) (by omega) ?_
    intro v276
    refine RL.reL (L' := [imm (TR.sl TR.int) v15 y13.1, imm (TR.sl (TR.sl TR.int)) v16 y13.2.1, imm (TR.sl (TR.pair TR.int (TR.pair (TR.sl TR.int) (TR.sl TR.int)))) v58 l57, own 3 TR.int v233 y231.1, own 27 (TR.sl TR.int) v234 y231.2.1, imm (TR.sl TR.int) v270 ((List.take ((y13.1).length) y13.1).drop ((y49).toNat)), imm (TR.sl (TR.sl TR.int)) v276 ((List.take ((y13.2.1).length) y13.2.1).drop ((y49).toNat))]) rfl ?_
    obtain ⟨y277, e278, h262⟩ := bind_some h262
    refine RL.callV (v := .bool y277) (vs := [v234, v276, .func (.func 17) #[] #[]]) Try_fit18 rfl (Or.inl rfl) rfl rfl rfl rfl (fun U w hU hW hL => slices_EqualFunc_int_int_int_int_c U w hU _ _ (hL 4 _ _ rfl Seen.own) _ _ (hL 6 _ _ rfl Seen.imm) 17 #[] Try_fit17 (fun a0 a1 => slices_Equal_int_int_m a0 a1) (fun U' w' hle hU' u0 a0 q0 u1 a1 q1 rr hr => (slices_Equal_int_int_c U' w' hU' u0 a0 q0 u1 a1 q1 rr hr).mono (fun _ _ z => z)) _ e278) ?_
    refine RL.pickT rfl rfl rfl rfl ?_
    refine RL.asg rfl rfl rfl ?_
    refine RL.fin ?_
    cases h262
    exact fun a w st => mid_intro y277 h263 (St.cut [] ⟨rfl, trivial⟩ (by decide) rfl st)
   replace h262 := ite_f b273 h262
   refine RL.skip rfl rfl ?_
   refine RL.skip rfl rfl ?_
   refine RL.skip rfl rfl ?_
   refine RL.skip rfl rfl ?_
   refine RL.skip rfl rfl ?_
   refine RL.pickF rfl rfl rfl rfl ?_
   refine RL.asg rfl rfl rfl ?_
   refine RL.fin ?_
   cases h262
   exact fun a w st => mid_intro false h263 (St.cut [] ⟨rfl, trivial⟩ (by decide) rfl st)
  replace h262 := ite_f b267 h262
  refine RL.skip rfl rfl ?_
  refine RL.skip rfl rfl ?_
  refine RL.skip rfl rfl ?_
  refine RL.skip rfl rfl ?_
  refine RL.skip rfl rfl ?_
  refine RL.pickF rfl rfl rfl rfl ?_
  refine RL.mv rfl rfl rfl ?_
  refine RL.skip rfl rfl ?_
  refine RL.skip rfl rfl ?_
  refine RL.skip rfl rfl ?_
  refine RL.skip rfl rfl ?_
  refine RL.skip rfl rfl ?_
  refine RL.pickF rfl rfl rfl rfl ?_
  refine RL.asg rfl rfl rfl ?_
  refine RL.fin ?_
  cases h262
  exact fun a w st => mid_intro false h263 (St.cut [] ⟨rfl, trivial⟩ (by decide) rfl st)
 rintro x259 h279
 have h280 := h264 _ h279
 try dsimp only at h280
 refine GL.weak (env' := [(6, .bool x259)]) (L' := []) (fun _ _ st => st) ?_
 have h280 := Option.some.inj h280
 subst h280
 exact GL.ret (Gx.ret (v := .bool x259) (res1 rfl rfl) (fun a w st => st.toPostV))
end Go.Wk
