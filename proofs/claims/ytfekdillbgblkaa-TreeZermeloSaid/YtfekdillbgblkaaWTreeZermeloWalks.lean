/- Each function comes to what its model says; printed by a program of this repository. -/
import Derived.Test.YtfekdillbgblkaaProg
import Derived.Test.YtfekdillbgblkaaWTreeZermeloModels
import Derived.Test.YtfekdillbgblkaaFwY
namespace Go.Wk
open Go.Fw Go.Mo Go.Proofs Go.RowKit
set_option linter.all false
set_option maxRecDepth 100000
theorem loopNx {ρ σ β γ : Type} {body : σ → Option (Fl ρ β σ)} {n : Nat} {s : σ} {y : Fl ρ γ β} (h : stepM body n (.nx s) = some y) : loopM body n s = some y := h
theorem Try_info3 : (Try.prog.info? 3).map (fun i => (i.zero, i.size, i.bytes)) = some (some (.int .i64 0), 1, 8) := by kernel_rfl
theorem Try_ln3 : Ln Try.prog 3 1 false := Ln.of Try_info3 Try.underlying3 rfl
theorem Try_lo3 : LnO Try.prog 3 1 [.int .i64 0] := LnO.of Try_info3 rfl rfl (by decide) (by decide)
theorem Try_info24 : (Try.prog.info? 24).map (fun i => (i.zero, i.size, i.bytes)) = some (some (.slice none 0 0), 1, 24) := by kernel_rfl
theorem Try_ln24 : Ln Try.prog 24 1 false := Ln.of Try_info24 Try.underlying24 rfl
theorem Try_lo24 : LnO Try.prog 24 1 [.slice none 0 0] := LnO.of Try_info24 rfl rfl (by decide) (by decide)
theorem Try_info25 : (Try.prog.info? 25).map (fun i => (i.zero, i.size, i.bytes)) = some (some (.int .i64 0), 1, 8) := by kernel_rfl
theorem Try_ln25 : Ln Try.prog 25 1 false := Ln.of Try_info25 Try.underlying25 rfl
theorem Try_lo25 : LnO Try.prog 25 1 [.int .i64 0] := LnO.of Try_info25 rfl rfl (by decide) (by decide)
theorem Try_info36 : (Try.prog.info? 36).map (fun i => (i.zero, i.size, i.bytes)) = some (some (.agg #[.int .i64 0, .slice none 0 0, .slice none 0 0]), 3, 56) := by kernel_rfl
theorem Try_ln36 : Ln Try.prog 36 3 true := Ln.of Try_info36 Try.underlying36 rfl
theorem Try_lo36 : LnO Try.prog 36 3 [.int .i64 0, .slice none 0 0, .slice none 0 0] := LnO.of Try_info36 rfl rfl (by decide) (by decide)
theorem Try_bld36 (pv : List (Nat × Value)) : Try.prog.built 36 pv = Instr.fill ((mkPlaces 0 [[.int .i64 0], [.slice none 0 0], [.slice none 0 0]]).toArray[·]?) (List.flatten [[.int .i64 0], [.slice none 0 0], [.slice none 0 0]]).toArray pv := by kernel_rfl
theorem Try_fit12 : Fit Try.prog 12 := Fit.of Try.func12 (by kernel_rfl) rfl
theorem Try_fit125 : Fit Try.prog 125 := Fit.of Try.func125 (by kernel_rfl) rfl
theorem Try_fit15 : Fit Try.prog 15 := Fit.of Try.func15 (by kernel_rfl) rfl
theorem Try_fit16 : Fit Try.prog 16 := Fit.of Try.func16 (by kernel_rfl) rfl
theorem Try_fit17 : Fit Try.prog 17 := Fit.of Try.func17 (by kernel_rfl) rfl
theorem Try_fit18 : Fit Try.prog 18 := Fit.of Try.func18 (by kernel_rfl) rfl
theorem Try_fit19 : Fit Try.prog 19 := Fit.of Try.func19 (by kernel_rfl) rfl
theorem Try_fit20 : Fit Try.prog 20 := Fit.of Try.func20 (by kernel_rfl) rfl
theorem Try_fit22 : Fit Try.prog 22 := Fit.of Try.func22 (by kernel_rfl) rfl
theorem Try_fit80 : Fit Try.prog 80 := Fit.of Try.func80 (by kernel_rfl) rfl
theorem Try_fit81 : Fit Try.prog 81 := Fit.of Try.func81 (by kernel_rfl) rfl
theorem Try_fit82 : Fit Try.prog 82 := Fit.of Try.func82 (by kernel_rfl) rfl
theorem Try_fit83 : Fit Try.prog 83 := Fit.of Try.func83 (by kernel_rfl) rfl
theorem Try_fld36_0 (ad : Addr) (w : World) : (Instr.fieldAt 36 (.pointer (some ad)) 0).run Try.prog w = .ok (.pointer (some (ad.add 0))) w := by
  simp [Instr.fieldAt, run_underlying Try.underlying36, Instr.sureAddr, fieldPlace, Fw.run_sizeOf Try_ln3]
theorem Try_fld36_1 (ad : Addr) (w : World) : (Instr.fieldAt 36 (.pointer (some ad)) 1).run Try.prog w = .ok (.pointer (some (ad.add 1))) w := by
  simp [Instr.fieldAt, run_underlying Try.underlying36, Instr.sureAddr, fieldPlace, Fw.run_sizeOf Try_ln24]
theorem Try_fld36_2 (ad : Addr) (w : World) : (Instr.fieldAt 36 (.pointer (some ad)) 2).run Try.prog w = .ok (.pointer (some (ad.add 2))) w := by
  simp [Instr.fieldAt, run_underlying Try.underlying36, Instr.sureAddr, fieldPlace, Fw.run_sizeOf Try_ln24]

set_option maxHeartbeats 4000000 in
theorem tree_Check_c (S : Hp) (w : World) (hS : S.sub w) (x0 : Int) (v1 : Value) (x1 : (List (Int × ((List Int) × (List Int))))) (k1 : ((TR.sl (TR.pair TR.int (TR.pair (TR.sl TR.int) (TR.sl TR.int))))).vrep S v1 x1) (res : Int) (hm : tree_Check_m x0 x1 = some res) : Calls Try.prog 81 #[.int .i64 x0, v1] w (PostV w (.int .i64 res)) := by
 refine calls_enter 103 Try.func81 Try.ntmps81 rfl S false [(0, .int .i64 x0), (1, v1)] [imm (TR.sl (TR.pair TR.int (TR.pair (TR.sl TR.int) (TR.sl TR.int)))) v1 x1] rfl ⟨rfl, ⟨rfl, trivial⟩⟩ hS ⟨k1, trivial⟩ ?_
 unfold tree_Check_m at hm
 refine GL.seq ?_
 refine GL.region ?_
 refine RL.asg rfl rfl rfl ?_
 refine RL.finG ?_
 refine GL.seq ?_
 refine GL.seq ?_
 obtain ⟨y6, K7, h8, h9, h10, h11, h12⟩ := bindR_K hm
 refine GL.join (ι := Bool) (fun (p : Bool) => [(0, .int .i64 x0), (1, v1), (16, .bool p)]) (fun (p : Bool) => [imm (TR.sl (TR.pair TR.int (TR.pair (TR.sl TR.int) (TR.sl TR.int)))) v1 x1]) (fun (p : Bool) => K7 (.nx p)) ?_ ?_
 ·skip
  refine GL.region ?_
  refine RL.mv rfl rfl rfl ?_
  refine RL.binI (v := .bool (decide (x0 < (1 : Int)))) rfl rfl rfl rfl rfl ?_
  refine RL.mv rfl rfl rfl ?_
  refine RL.split (t := 13) rfl (fun b13 => ?_) (fun b13 => ?_)
  ·replace h8 := ite_t b13 h8
   refine RL.skip rfl rfl ?_
   refine RL.skip rfl rfl ?_
   refine RL.pickT rfl rfl rfl rfl ?_
   refine RL.fin ?_
   cases h8
   exact fun a w st => mid_intro true h9 (St.cut [0] ⟨rfl, rfl, rfl, trivial⟩ (by decide) rfl st)
  replace h8 := ite_f b13 h8
  refine RL.mv rfl rfl rfl ?_
  refine RL.binI (v := .bool (decide (x0 > (6 : Int)))) rfl rfl rfl rfl rfl ?_
  refine RL.pickF rfl rfl rfl rfl ?_
  refine RL.fin ?_
  cases h8
  exact fun a w st => mid_intro (decide (x0 > (6 : Int))) h9 (St.cut [0] ⟨rfl, rfl, rfl, trivial⟩ (by decide) rfl st)
 rintro x5 h14
 have h15 := h10 _ h14
 try dsimp only at h15
 refine GL.weak (env' := [(0, .int .i64 x0), (1, v1), (16, .bool x5)]) (L' := [imm (TR.sl (TR.pair TR.int (TR.pair (TR.sl TR.int) (TR.sl TR.int)))) v1 x1]) (fun _ _ st => st) ?_
 refine GL.cond rfl (fun b16 => ?_) (fun b16 => ?_)
 ·replace h15 := ite_t b16 h15
  refine GL.seq ?_
  refine GL.region ?_
  refine RL.asg rfl rfl rfl ?_
  refine RL.finG ?_
  have h15 := Option.some.inj h15
  subst h15
  exact GL.ret (Gx.ret (v := .int .i64 (1 : Int)) (res1 rfl rfl) (fun a w st => st.toPostV))
 replace h15 := ite_f b16 h15
 refine GL.skip ?_
 refine GL.seq ?_
 refine GL.seq ?_
 obtain ⟨y20, K21, h22, h23, h24, h25, h26⟩ := bindR_K h15
 refine GL.join (ι := Bool) (fun (p : Bool) => [(0, .int .i64 x0), (1, v1), (24, .bool p)]) (fun (p : Bool) => [imm (TR.sl (TR.pair TR.int (TR.pair (TR.sl TR.int) (TR.sl TR.int)))) v1 x1]) (fun (p : Bool) => K21 (.nx p)) ?_ ?_
 ·skip
  refine GL.region ?_
  refine RL.mv rfl rfl rfl ?_
  refine RL.lenS 0 Try.underlying33 rfl rfl rfl rfl SlOf.imm ?_
  refine RL.binI (v := .bool (decide (((x1).length : Int) < (1 : Int)))) rfl rfl rfl rfl rfl ?_
  refine RL.mv rfl rfl rfl ?_
  refine RL.split (t := 20) rfl (fun b27 => ?_) (fun b27 => ?_)
  ·replace h22 := ite_t b27 h22
   refine RL.skip rfl rfl ?_
   refine RL.skip rfl rfl ?_
   refine RL.skip rfl rfl ?_
   refine RL.pickT rfl rfl rfl rfl ?_
   refine RL.fin ?_
   cases h22
   exact fun a w st => mid_intro true h23 (St.cut [0] ⟨rfl, rfl, rfl, trivial⟩ (by decide) rfl st)
  replace h22 := ite_f b27 h22
  refine RL.mv rfl rfl rfl ?_
  refine RL.lenS 0 Try.underlying33 rfl rfl rfl rfl SlOf.imm ?_
  refine RL.binI (v := .bool (decide (((x1).length : Int) > (30 : Int)))) rfl rfl rfl rfl rfl ?_
  refine RL.pickF rfl rfl rfl rfl ?_
  refine RL.fin ?_
  cases h22
  exact fun a w st => mid_intro (decide (((x1).length : Int) > (30 : Int))) h23 (St.cut [0] ⟨rfl, rfl, rfl, trivial⟩ (by decide) rfl st)
 rintro x19 h28
 have h29 := h24 _ h28
 try dsimp only at h29
 refine GL.weak (env' := [(0, .int .i64 x0), (1, v1), (24, .bool x19)]) (L' := [imm (TR.sl (TR.pair TR.int (TR.pair (TR.sl TR.int) (TR.sl TR.int)))) v1 x1]) (fun _ _ st => st) ?_
 refine GL.cond rfl (fun b30 => ?_) (fun b30 => ?_)
 ·replace h29 := ite_t b30 h29
  refine GL.seq ?_
  refine GL.region ?_
  refine RL.asg rfl rfl rfl ?_
  refine RL.finG ?_
  have h29 := Option.some.inj h29
  subst h29
  exact GL.ret (Gx.ret (v := .int .i64 (2 : Int)) (res1 rfl rfl) (fun a w st => st.toPostV))
 replace h29 := ite_f b30 h29
 refine GL.skip ?_
 refine GL.seq ?_
 refine GL.seq ?_
 refine GL.region ?_
 refine RL.mv rfl rfl rfl ?_
 refine RL.lenS 0 Try.underlying33 rfl rfl rfl rfl SlOf.imm ?_
 refine RL.mv rfl rfl rfl ?_
 refine RL.finG ?_
 refine GL.open_ 0 rfl (fun S h => len_imm S h) (fun n216 => ?_)
 obtain ⟨y217, K218, h219, h220, h221, h222, h223⟩ := bindR_K h29
 refine GL.join (ι := Unit) (fun (p : Unit) => []) (fun (p : Unit) => []) (fun (p : Unit) => K218 (.nx ())) ?_ ?_
 ·refine GL.block ?_
  refine GL.loop (ι := Nat × (List (Int × ((List Int) × (List Int))))) (fun (p : Nat × (List (Int × ((List Int) × (List Int))))) => [(0, .int .i64 x0), (1, v1), (25, v1), (26, .int .i64 ((x1).length : Int)), (27, .int .i64 (p.1 : Int))]) (fun (p : Nat × (List (Int × ((List Int) × (List Int))))) => [imm (TR.sl (TR.pair TR.int (TR.pair (TR.sl TR.int) (TR.sl TR.int)))) v1 x1]) (fun (p : Nat × (List (Int × ((List Int) × (List Int))))) => p.1 + p.2.length = (x1).length ∧ List.drop p.1 x1 = p.2 ∧ rangeL (tree_Check_b1 x0 x1) p.2 p.1 () = some y217) (fun (p : Nat × (List (Int × ((List Int) × (List Int))))) => p.2.length) (0, x1) ⟨by simp, by simp, h219⟩ (fun a w st => St.cut [0] ⟨rfl, rfl, rfl, rfl, rfl, trivial⟩ (by decide) rfl st) ?_
  rintro ⟨i224, r225⟩ ⟨h230, h231, h229⟩
  try dsimp only at h230 h231 h229
  refine GL.weak (env' := [(0, .int .i64 x0), (1, v1), (25, v1), (26, .int .i64 ((x1).length : Int)), (27, .int .i64 (i224 : Int))]) (L' := [imm (TR.sl (TR.pair TR.int (TR.pair (TR.sl TR.int) (TR.sl TR.int)))) v1 x1]) (fun _ _ st => st) ?_
  refine GL.seq ?_
  refine GL.region ?_
  refine RL.binI (v := .bool (decide ((i224 : Int) < ((x1).length : Int)))) rfl rfl rfl rfl rfl ?_
  refine RL.finG ?_
  refine GL.seq ?_
  refine GL.cond rfl (fun b232 => ?_) (fun b232 => ?_)
  ·have h233 : i224 < (x1).length := by have := of_decide_eq_true b232; omega
   obtain ⟨y234, r236, hr, e235, h237⟩ := drop_cons h231 rfl h233
   subst hr
   obtain ⟨z226, h227, h228⟩ := rangeL_some h229
   unfold tree_Check_b1 at h227
   try dsimp only at h227
   refine GL.skip ?_
   refine GL.seq ?_
   refine GL.block ?_
   refine GL.seq ?_
   refine GL.region ?_
   refine RL.mv rfl rfl rfl ?_
   refine RL.idxS (sz := 3) 0 Try.underlying33 Try_ln36 rfl rfl rfl rfl rfl SlOf.imm (by omega) (by omega) ?_
   refine RL.ldS (i := i224) (r := (TR.pair TR.int (TR.pair (TR.sl TR.int) (TR.sl TR.int)))) (e' := y234) 0 Try_ln36 rfl rfl rfl rfl SlOf.imm e235 Part.self ?_
   intro v240
   refine RL.alloc (t := (TR.pair TR.int (TR.pair (TR.sl TR.int) (TR.sl TR.int)))) (z := ((0 : Int), ([] : (List Int)), ([] : (List Int)))) Try_lo36 (fun S => ⟨[.int .i64 0], _, rfl, rfl, ⟨[.slice none 0 0], _, rfl, ⟨_, [], rfl, ⟨none, 0, rfl, Nat.le_refl _, Nat.zero_le _, Or.inl ⟨rfl, rfl⟩⟩, rfl⟩, ⟨_, [], rfl, ⟨none, 0, rfl, Nat.le_refl _, Nat.zero_le _, Or.inl ⟨rfl, rfl⟩⟩, rfl⟩⟩⟩) rfl rfl rfl ?_
   intro v241
   refine RL.reL (L' := [imm (TR.sl (TR.pair TR.int (TR.pair (TR.sl TR.int) (TR.sl TR.int)))) v1 x1, imm (TR.pair TR.int (TR.pair (TR.sl TR.int) (TR.sl TR.int))) v240 y234, obox 36 (TR.pair TR.int (TR.pair (TR.sl TR.int) (TR.sl TR.int))) v241 ((0 : Int), ([] : (List Int)), ([] : (List Int)))]) rfl ?_
   refine RL.asg rfl rfl rfl ?_
   refine RL.stP (off := 0) (e' := y234) (d1 := y234) (r := (TR.pair TR.int (TR.pair (TR.sl TR.int) (TR.sl TR.int)))) 2 Try_ln36 rfl rfl (Or.inr ⟨rfl, rfl⟩) rfl (VR.item 1 rfl) rfl Upd.self ?_
   refine RL.finG ?_
   refine GL.seq ?_
   refine GL.seq ?_
   obtain ⟨y245, K246, h247, h248, h249, h250, h251⟩ := bindF_K h227
   refine GL.join (ι := Bool) (fun (p : Bool) => [(0, .int .i64 x0), (1, v1), (5, .int .i64 (i224 : Int)), (6, v241), (25, v1), (26, .int .i64 ((x1).length : Int)), (27, .int .i64 (i224 : Int)), (40, .bool p)]) (fun (p : Bool) => [imm (TR.sl (TR.pair TR.int (TR.pair (TR.sl TR.int) (TR.sl TR.int)))) v1 x1, obox 36 (TR.pair TR.int (TR.pair (TR.sl TR.int) (TR.sl TR.int))) v241 y234]) (fun (p : Bool) => K246 (.nx p)) ?_ ?_
   ·skip
    refine GL.region ?_
    refine RL.fadr (off := 0) (fo := 0) 2 Try_fld36_0 rfl rfl rfl PtOf.obox (Or.inr ⟨rfl, rfl⟩) ?_
    refine RL.ldPx (off := (0 + 0)) (e' := y234.1) 2 Ex.ik Try_ln3 rfl rfl (Or.inl rfl) rfl PtOf.obox (Part.fst Part.self) ?_
    refine RL.binI (v := .bool (decide (y234.1 < (-1 : Int)))) rfl rfl rfl rfl rfl ?_
    refine RL.mv rfl rfl rfl ?_
    refine RL.split (t := 35) rfl (fun b252 => ?_) (fun b252 => ?_)
    ·replace h247 := ite_t b252 h247
     refine RL.skip rfl rfl ?_
     refine RL.skip rfl rfl ?_
     refine RL.skip rfl rfl ?_
     refine RL.skip rfl rfl ?_
     refine RL.pickT rfl rfl rfl rfl ?_
     refine RL.fin ?_
     cases h247
     exact fun a w st => mid_intro true h248 (St.cut [0, 2] ⟨rfl, rfl, rfl, rfl, rfl, rfl, rfl, rfl, trivial⟩ (by decide) rfl st)
    replace h247 := ite_f b252 h247
    refine RL.fadr (off := 0) (fo := 0) 2 Try_fld36_0 rfl rfl rfl PtOf.obox (Or.inr ⟨rfl, rfl⟩) ?_
    refine RL.ldPx (off := (0 + 0)) (e' := y234.1) 2 Ex.ik Try_ln3 rfl rfl (Or.inl rfl) rfl PtOf.obox (Part.fst Part.self) ?_
    refine RL.mv rfl rfl rfl ?_
    refine RL.binI (v := .bool (decide (y234.1 ≥ x0))) rfl rfl rfl rfl rfl ?_
    refine RL.pickF rfl rfl rfl rfl ?_
    refine RL.fin ?_
    cases h247
    exact fun a w st => mid_intro (decide (y234.1 ≥ x0)) h248 (St.cut [0, 2] ⟨rfl, rfl, rfl, rfl, rfl, rfl, rfl, rfl, trivial⟩ (by decide) rfl st)
   rintro x244 h253
   have h254 := h249 _ h253
   try dsimp only at h254
   refine GL.weak (env' := [(0, .int .i64 x0), (1, v1), (5, .int .i64 (i224 : Int)), (6, v241), (25, v1), (26, .int .i64 ((x1).length : Int)), (27, .int .i64 (i224 : Int)), (40, .bool x244)]) (L' := [imm (TR.sl (TR.pair TR.int (TR.pair (TR.sl TR.int) (TR.sl TR.int)))) v1 x1, obox 36 (TR.pair TR.int (TR.pair (TR.sl TR.int) (TR.sl TR.int))) v241 y234]) (fun _ _ st => st) ?_
   refine GL.cond rfl (fun b255 => ?_) (fun b255 => ?_)
   ·replace h254 := ite_t b255 h254
    refine GL.seq ?_
    refine GL.region ?_
    refine RL.asg rfl rfl rfl ?_
    refine RL.finG ?_
    cases h254
    replace h228 : some (Fl.rt _) = some y217 := h228
    cases h228
    have hh := h222 _ h220
    subst hh
    exact GL.ret (Gx.ret (v := .int .i64 (1 : Int)) (res1 rfl rfl) (fun a w st => st.toPostV))
   replace h254 := ite_f b255 h254
   refine GL.skip ?_
   refine GL.seq ?_
   refine GL.seq ?_
   refine GL.region ?_
   refine RL.fadr (off := 0) (fo := 0) 1 Try_fld36_0 rfl rfl rfl PtOf.obox (Or.inr ⟨rfl, rfl⟩) ?_
   refine RL.ldPx (off := (0 + 0)) (e' := y234.1) 1 Ex.ik Try_ln3 rfl rfl (Or.inl rfl) rfl PtOf.obox (Part.fst Part.self) ?_
   refine RL.binI (v := .bool (decide (y234.1 < (0 : Int)))) rfl rfl rfl rfl rfl ?_
   refine RL.finG ?_
   refine GL.cond rfl (fun b256 => ?_) (fun b256 => ?_)
   ·replace h254 := ite_t b256 h254
    refine GL.seq ?_
    refine GL.seq ?_
    obtain ⟨y264, K265, h266, h267, h268, h269, h270⟩ := bindF_K h254
    refine GL.join (ι := Bool) (fun (p : Bool) => [(0, .int .i64 x0), (1, v1), (6, v241), (25, v1), (26, .int .i64 ((x1).length : Int)), (27, .int .i64 (i224 : Int)), (54, .bool p)]) (fun (p : Bool) => [imm (TR.sl (TR.pair TR.int (TR.pair (TR.sl TR.int) (TR.sl TR.int)))) v1 x1, obox 36 (TR.pair TR.int (TR.pair (TR.sl TR.int) (TR.sl TR.int))) v241 y234]) (fun (p : Bool) => K265 (.nx p)) ?_ ?_
    ·skip
     refine GL.region ?_
     refine RL.fadr (off := 0) (fo := 1) 1 Try_fld36_1 rfl rfl rfl PtOf.obox (Or.inr ⟨rfl, rfl⟩) ?_
     refine RL.ldP (off := (0 + 1)) (r := (TR.sl TR.int)) (e' := y234.2.1) 1 Try_ln24 rfl rfl (Or.inl rfl) rfl PtOf.obox (Part.snd (Part.fst Part.self)) ?_
     intro v271
     refine RL.lenS 2 Try.underlying24 rfl rfl rfl rfl SlOf.imm ?_
     refine RL.binI (v := .bool (decide (((y234.2.1).length : Int) > (0 : Int)))) rfl rfl rfl rfl rfl ?_
     refine RL.mv rfl rfl rfl ?_
     refine RL.split (t := 48) rfl (fun b272 => ?_) (fun b272 => ?_)
     ·replace h266 := ite_t b272 h266
      refine RL.skip rfl rfl ?_
      refine RL.skip rfl rfl ?_
      refine RL.skip rfl rfl ?_
      refine RL.skip rfl rfl ?_
      refine RL.skip rfl rfl ?_
      refine RL.pickT rfl rfl rfl rfl ?_
      refine RL.fin ?_
      cases h266
      exact fun a w st => mid_intro true h267 (St.cut [0, 1] ⟨rfl, rfl, rfl, rfl, rfl, rfl, rfl, trivial⟩ (by decide) rfl st)
     replace h266 := ite_f b272 h266
     refine RL.fadr (off := 0) (fo := 2) 1 Try_fld36_2 rfl rfl rfl PtOf.obox (Or.inr ⟨rfl, rfl⟩) ?_
     refine RL.ldP (off := (0 + 2)) (r := (TR.sl TR.int)) (e' := y234.2.2) 1 Try_ln24 rfl rfl (Or.inl rfl) rfl PtOf.obox (Part.snd (Part.snd Part.self)) ?_
     intro v273
     refine RL.reL (L' := [imm (TR.sl (TR.pair TR.int (TR.pair (TR.sl TR.int) (TR.sl TR.int)))) v1 x1, obox 36 (TR.pair TR.int (TR.pair (TR.sl TR.int) (TR.sl TR.int))) v241 y234, imm (TR.sl TR.int) v271 y234.2.1, imm (TR.sl TR.int) v273 y234.2.2]) rfl ?_
     refine RL.lenS 3 Try.underlying24 rfl rfl rfl rfl SlOf.imm ?_
     refine RL.mv rfl rfl rfl ?_
     refine RL.binI (v := .bool (((y234.2.2).length : Int) != x0)) rfl rfl rfl rfl rfl ?_
     refine RL.pickF rfl rfl rfl rfl ?_
     refine RL.fin ?_
     cases h266
     exact fun a w st => mid_intro (((y234.2.2).length : Int) != x0) h267 (St.cut [0, 1] ⟨rfl, rfl, rfl, rfl, rfl, rfl, rfl, trivial⟩ (by decide) rfl st)
    rintro x263 h274
    have h275 := h268 _ h274
    try dsimp only at h275
    refine GL.weak (env' := [(0, .int .i64 x0), (1, v1), (6, v241), (25, v1), (26, .int .i64 ((x1).length : Int)), (27, .int .i64 (i224 : Int)), (54, .bool x263)]) (L' := [imm (TR.sl (TR.pair TR.int (TR.pair (TR.sl TR.int) (TR.sl TR.int)))) v1 x1, obox 36 (TR.pair TR.int (TR.pair (TR.sl TR.int) (TR.sl TR.int))) v241 y234]) (fun _ _ st => st) ?_
    refine GL.cond rfl (fun b276 => ?_) (fun b276 => ?_)
    ·replace h275 := ite_t b276 h275
     refine GL.seq ?_
     refine GL.region ?_
     refine RL.asg rfl rfl rfl ?_
     refine RL.finG ?_
     cases h275
     replace h228 : some (Fl.rt _) = some y217 := h228
     cases h228
     have hh := h222 _ h220
     subst hh
     exact GL.ret (Gx.ret (v := .int .i64 (3 : Int)) (res1 rfl rfl) (fun a w st => st.toPostV))
    replace h275 := ite_f b276 h275
    refine GL.skip ?_
    refine GL.seq ?_
    refine GL.seq ?_
    refine GL.region ?_
    refine RL.fadr (off := 0) (fo := 2) 1 Try_fld36_2 rfl rfl rfl PtOf.obox (Or.inr ⟨rfl, rfl⟩) ?_
    refine RL.ldP (off := (0 + 2)) (r := (TR.sl TR.int)) (e' := y234.2.2) 1 Try_ln24 rfl rfl (Or.inl rfl) rfl PtOf.obox (Part.snd (Part.snd Part.self)) ?_
    intro v278
    refine RL.lenS 2 Try.underlying24 rfl rfl rfl rfl SlOf.imm ?_
    refine RL.mv rfl rfl rfl ?_
    refine RL.finG ?_
    refine GL.open_ 2 rfl (fun S h => len_imm S h) (fun n297 => ?_)
    obtain ⟨y298, K299, h300, h301, h302, h303, h304⟩ := bindF_K h275
    refine GL.join (ι := Unit) (fun (p : Unit) => [(0, .int .i64 x0), (1, v1), (25, v1), (26, .int .i64 ((x1).length : Int)), (27, .int .i64 (i224 : Int))]) (fun (p : Unit) => [imm (TR.sl (TR.pair TR.int (TR.pair (TR.sl TR.int) (TR.sl TR.int)))) v1 x1]) (fun (p : Unit) => K299 (.nx ())) ?_ ?_
    ·refine GL.block ?_
     refine GL.loop (ι := Nat × (List Int)) (fun (p : Nat × (List Int)) => [(0, .int .i64 x0), (1, v1), (25, v1), (26, .int .i64 ((x1).length : Int)), (27, .int .i64 (i224 : Int)), (56, v278), (57, .int .i64 ((y234.2.2).length : Int)), (58, .int .i64 (p.1 : Int))]) (fun (p : Nat × (List Int)) => [imm (TR.sl (TR.pair TR.int (TR.pair (TR.sl TR.int) (TR.sl TR.int)))) v1 x1, imm (TR.sl TR.int) v278 y234.2.2]) (fun (p : Nat × (List Int)) => p.1 + p.2.length = (y234.2.2).length ∧ List.drop p.1 y234.2.2 = p.2 ∧ rangeL tree_Check_b2 p.2 p.1 () = some y298) (fun (p : Nat × (List Int)) => p.2.length) (0, y234.2.2) ⟨by simp, by simp, h300⟩ (fun a w st => St.cut [0, 2] ⟨rfl, rfl, rfl, rfl, rfl, rfl, rfl, rfl, trivial⟩ (by decide) rfl st) ?_
     rintro ⟨i305, r306⟩ ⟨h311, h312, h310⟩
     try dsimp only at h311 h312 h310
     refine GL.weak (env' := [(0, .int .i64 x0), (1, v1), (25, v1), (26, .int .i64 ((x1).length : Int)), (27, .int .i64 (i224 : Int)), (56, v278), (57, .int .i64 ((y234.2.2).length : Int)), (58, .int .i64 (i305 : Int))]) (L' := [imm (TR.sl (TR.pair TR.int (TR.pair (TR.sl TR.int) (TR.sl TR.int)))) v1 x1, imm (TR.sl TR.int) v278 y234.2.2]) (fun _ _ st => st) ?_
     refine GL.seq ?_
     refine GL.region ?_
     refine RL.binI (v := .bool (decide ((i305 : Int) < ((y234.2.2).length : Int)))) rfl rfl rfl rfl rfl ?_
     refine RL.finG ?_
     refine GL.seq ?_
     refine GL.cond rfl (fun b313 => ?_) (fun b313 => ?_)
     ·have h314 : i305 < (y234.2.2).length := by have := of_decide_eq_true b313; omega
      obtain ⟨y315, r317, hr, e316, h318⟩ := drop_cons h312 rfl h314
      subst hr
      obtain ⟨z307, h308, h309⟩ := rangeL_some h310
      unfold tree_Check_b2 at h308
      try dsimp only at h308
      refine GL.skip ?_
      refine GL.seq ?_
      refine GL.block ?_
      refine GL.seq ?_
      refine GL.region ?_
      refine RL.idxS (sz := 1) 1 Try.underlying24 Try_ln3 rfl rfl rfl rfl rfl SlOf.imm (by omega) (by omega) ?_
      refine RL.ldSx (i := i305) (e' := y315) 1 Ex.ik Try_ln3 rfl rfl rfl rfl SlOf.imm e316 Part.self ?_
      refine RL.asg rfl rfl rfl ?_
      refine RL.finG ?_
      refine GL.seq ?_
      obtain ⟨y322, K323, h324, h325, h326, h327, h328⟩ := bindF_K h308
      refine GL.join (ι := Bool) (fun (p : Bool) => [(0, .int .i64 x0), (1, v1), (25, v1), (26, .int .i64 ((x1).length : Int)), (27, .int .i64 (i224 : Int)), (56, v278), (57, .int .i64 ((y234.2.2).length : Int)), (58, .int .i64 (i305 : Int)), (67, .bool p)]) (fun (p : Bool) => [imm (TR.sl (TR.pair TR.int (TR.pair (TR.sl TR.int) (TR.sl TR.int)))) v1 x1, imm (TR.sl TR.int) v278 y234.2.2]) (fun (p : Bool) => K323 (.nx p)) ?_ ?_
      ·skip
       refine GL.region ?_
       refine RL.mv rfl rfl rfl ?_
       refine RL.binI (v := .bool (decide (y315 < (-1000 : Int)))) rfl rfl rfl rfl rfl ?_
       refine RL.mv rfl rfl rfl ?_
       refine RL.split (t := 64) rfl (fun b329 => ?_) (fun b329 => ?_)
       ·replace h324 := ite_t b329 h324
        refine RL.skip rfl rfl ?_
        refine RL.skip rfl rfl ?_
        refine RL.pickT rfl rfl rfl rfl ?_
        refine RL.fin ?_
        cases h324
        exact fun a w st => mid_intro true h325 (St.cut [0, 1] ⟨rfl, rfl, rfl, rfl, rfl, rfl, rfl, rfl, rfl, trivial⟩ (by decide) rfl st)
       replace h324 := ite_f b329 h324
       refine RL.mv rfl rfl rfl ?_
       refine RL.binI (v := .bool (decide (y315 > (1000 : Int)))) rfl rfl rfl rfl rfl ?_
       refine RL.pickF rfl rfl rfl rfl ?_
       refine RL.fin ?_
       cases h324
       exact fun a w st => mid_intro (decide (y315 > (1000 : Int))) h325 (St.cut [0, 1] ⟨rfl, rfl, rfl, rfl, rfl, rfl, rfl, rfl, rfl, trivial⟩ (by decide) rfl st)
      rintro x321 h330
      have h331 := h326 _ h330
      try dsimp only at h331
      refine GL.weak (env' := [(0, .int .i64 x0), (1, v1), (25, v1), (26, .int .i64 ((x1).length : Int)), (27, .int .i64 (i224 : Int)), (56, v278), (57, .int .i64 ((y234.2.2).length : Int)), (58, .int .i64 (i305 : Int)), (67, .bool x321)]) (L' := [imm (TR.sl (TR.pair TR.int (TR.pair (TR.sl TR.int) (TR.sl TR.int)))) v1 x1, imm (TR.sl TR.int) v278 y234.2.2]) (fun _ _ st => st) ?_
      refine GL.cond rfl (fun b332 => ?_) (fun b332 => ?_)
      ·replace h331 := ite_t b332 h331
       refine GL.seq ?_
       refine GL.region ?_
       refine RL.asg rfl rfl rfl ?_
       refine RL.finG ?_
       cases h331
       replace h309 : some (Fl.rt _) = some y298 := h309
       cases h309
       have hh := h303 _ h301
       subst hh
       replace h228 : some (Fl.rt _) = some y217 := h228
       cases h228
       have hh := h222 _ h220
       subst hh
       exact GL.ret (Gx.ret (v := .int .i64 (1 : Int)) (res1 rfl rfl) (fun a w st => st.toPostV))
      replace h331 := ite_f b332 h331
      refine GL.skip ?_
      refine GL.nilB ?_
      refine GL.region ?_
      refine RL.binI (v := .int .i64 ((i305 + 1 : Nat) : Int)) rfl rfl rfl rfl (binI_succ i305 (by omega)) ?_
      refine RL.mv rfl rfl rfl ?_
      refine RL.fin ?_
      cases h331
      exact fun a w st => lop_intro (i305 + 1, r317) ⟨by show i305 + 1 + r317.length = (y234.2.2).length; simp only [List.length_cons] at h311; omega, h318, h309⟩ (by simp) (St.cut [0, 1] ⟨rfl, rfl, rfl, rfl, rfl, rfl, rfl, rfl, trivial⟩ (by decide) rfl st)
     have h314 : ¬ i305 < (y234.2.2).length := by have := of_decide_eq_false b313; omega
     obtain rfl : r306 = [] := by rw [← h312]; exact List.drop_of_length_le (by omega)
     replace h310 : some (Fl.nx _) = some y298 := h310
     cases h310
     exact GL.exit (fun a w st => mid_intro () h301 (St.cut [0] ⟨rfl, rfl, rfl, rfl, rfl, trivial⟩ (by decide) rfl st))
    rintro ⟨⟩ h333
    have h334 := h302 _ h333
    try dsimp only at h334
    refine GL.weak (env' := [(0, .int .i64 x0), (1, v1), (25, v1), (26, .int .i64 ((x1).length : Int)), (27, .int .i64 (i224 : Int))]) (L' := [imm (TR.sl (TR.pair TR.int (TR.pair (TR.sl TR.int) (TR.sl TR.int)))) v1 x1]) (fun _ _ st => st) ?_
    refine GL.exit ?_
    refine Gx.here ?_
    refine GL.region ?_
    refine RL.binI (v := .int .i64 ((i224 + 1 : Nat) : Int)) rfl rfl rfl rfl (binI_succ i224 (by omega)) ?_
    refine RL.mv rfl rfl rfl ?_
    refine RL.fin ?_
    cases h334
    exact fun a w st => lop_intro (i224 + 1, r236) ⟨by show i224 + 1 + r236.length = (x1).length; simp only [List.length_cons] at h230; omega, h237, h228⟩ (by simp) (St.cut [0] ⟨rfl, rfl, rfl, rfl, rfl, trivial⟩ (by decide) rfl st)
   replace h254 := ite_f b256 h254
   refine GL.skip ?_
   refine GL.seq ?_
   refine GL.seq ?_
   obtain ⟨y346, K347, h348, h349, h350, h351, h352⟩ := bindF_K h254
   refine GL.join (ι := Bool) (fun (p : Bool) => [(0, .int .i64 x0), (1, v1), (5, .int .i64 (i224 : Int)), (6, v241), (25, v1), (26, .int .i64 ((x1).length : Int)), (27, .int .i64 (i224 : Int)), (84, .bool p)]) (fun (p : Bool) => [imm (TR.sl (TR.pair TR.int (TR.pair (TR.sl TR.int) (TR.sl TR.int)))) v1 x1, obox 36 (TR.pair TR.int (TR.pair (TR.sl TR.int) (TR.sl TR.int))) v241 y234]) (fun (p : Bool) => K347 (.nx p)) ?_ ?_
   ·skip
    refine GL.region ?_
    refine RL.fadr (off := 0) (fo := 1) 1 Try_fld36_1 rfl rfl rfl PtOf.obox (Or.inr ⟨rfl, rfl⟩) ?_
    refine RL.ldP (off := (0 + 1)) (r := (TR.sl TR.int)) (e' := y234.2.1) 1 Try_ln24 rfl rfl (Or.inl rfl) rfl PtOf.obox (Part.snd (Part.fst Part.self)) ?_
    intro v353
    refine RL.lenS 2 Try.underlying24 rfl rfl rfl rfl SlOf.imm ?_
    refine RL.binI (v := .bool (decide (((y234.2.1).length : Int) < (1 : Int)))) rfl rfl rfl rfl rfl ?_
    refine RL.mv rfl rfl rfl ?_
    refine RL.split (t := 73) rfl (fun b354 => ?_) (fun b354 => ?_)
    ·replace h348 := ite_t b354 h348
     refine RL.skip rfl rfl ?_
     refine RL.skip rfl rfl ?_
     refine RL.skip rfl rfl ?_
     refine RL.skip rfl rfl ?_
     refine RL.pickT rfl rfl rfl rfl ?_
     refine RL.mv rfl rfl rfl ?_
     refine RL.skip rfl rfl ?_
     refine RL.skip rfl rfl ?_
     refine RL.skip rfl rfl ?_
     refine RL.skip rfl rfl ?_
     refine RL.pickT rfl rfl rfl rfl ?_
     refine RL.fin ?_
     cases h348
     exact fun a w st => mid_intro true h349 (St.cut [0, 1] ⟨rfl, rfl, rfl, rfl, rfl, rfl, rfl, rfl, trivial⟩ (by decide) rfl st)
    replace h348 := ite_f b354 h348
    refine RL.fadr (off := 0) (fo := 1) 1 Try_fld36_1 rfl rfl rfl PtOf.obox (Or.inr ⟨rfl, rfl⟩) ?_
    refine RL.ldP (off := (0 + 1)) (r := (TR.sl TR.int)) (e' := y234.2.1) 1 Try_ln24 rfl rfl (Or.inl rfl) rfl PtOf.obox (Part.snd (Part.fst Part.self)) ?_
    intro v355
    refine RL.reL (L' := [imm (TR.sl (TR.pair TR.int (TR.pair (TR.sl TR.int) (TR.sl TR.int)))) v1 x1, obox 36 (TR.pair TR.int (TR.pair (TR.sl TR.int) (TR.sl TR.int))) v241 y234, imm (TR.sl TR.int) v353 y234.2.1, imm (TR.sl TR.int) v355 y234.2.1]) rfl ?_
    refine RL.lenS 3 Try.underlying24 rfl rfl rfl rfl SlOf.imm ?_
    refine RL.binI (v := .bool (decide (((y234.2.1).length : Int) > (6 : Int)))) rfl rfl rfl rfl rfl ?_
    refine RL.pickF rfl rfl rfl rfl ?_
    refine RL.mv rfl rfl rfl ?_
    refine RL.split (t := 79) rfl (fun b356 => ?_) (fun b356 => ?_)
    ·replace h348 := ite_t b356 h348
     refine RL.skip rfl rfl ?_
     refine RL.skip rfl rfl ?_
     refine RL.skip rfl rfl ?_
     refine RL.skip rfl rfl ?_
     refine RL.pickT rfl rfl rfl rfl ?_
     refine RL.fin ?_
     cases h348
     exact fun a w st => mid_intro true h349 (St.cut [0, 1] ⟨rfl, rfl, rfl, rfl, rfl, rfl, rfl, rfl, trivial⟩ (by decide) rfl st)
    replace h348 := ite_f b356 h348
    refine RL.fadr (off := 0) (fo := 2) 1 Try_fld36_2 rfl rfl rfl PtOf.obox (Or.inr ⟨rfl, rfl⟩) ?_
    refine RL.ldP (off := (0 + 2)) (r := (TR.sl TR.int)) (e' := y234.2.2) 1 Try_ln24 rfl rfl (Or.inl rfl) rfl PtOf.obox (Part.snd (Part.snd Part.self)) ?_
    intro v357
    refine RL.lenS 4 Try.underlying24 rfl rfl rfl rfl SlOf.imm ?_
    refine RL.binI (v := .bool (decide (((y234.2.2).length : Int) > (0 : Int)))) rfl rfl rfl rfl rfl ?_
    refine RL.pickF rfl rfl rfl rfl ?_
    refine RL.fin ?_
    cases h348
    exact fun a w st => mid_intro (decide (((y234.2.2).length : Int) > (0 : Int))) h349 (St.cut [0, 1] ⟨rfl, rfl, rfl, rfl, rfl, rfl, rfl, rfl, trivial⟩ (by decide) rfl st)
   rintro x345 h358
   have h359 := h350 _ h358
   try dsimp only at h359
   refine GL.weak (env' := [(0, .int .i64 x0), (1, v1), (5, .int .i64 (i224 : Int)), (6, v241), (25, v1), (26, .int .i64 ((x1).length : Int)), (27, .int .i64 (i224 : Int)), (84, .bool x345)]) (L' := [imm (TR.sl (TR.pair TR.int (TR.pair (TR.sl TR.int) (TR.sl TR.int)))) v1 x1, obox 36 (TR.pair TR.int (TR.pair (TR.sl TR.int) (TR.sl TR.int))) v241 y234]) (fun _ _ st => st) ?_
   refine GL.cond rfl (fun b360 => ?_) (fun b360 => ?_)
   ·replace h359 := ite_t b360 h359
    refine GL.seq ?_
    refine GL.region ?_
    refine RL.asg rfl rfl rfl ?_
    refine RL.finG ?_
    cases h359
    replace h228 : some (Fl.rt _) = some y217 := h228
    cases h228
    have hh := h222 _ h220
    subst hh
    exact GL.ret (Gx.ret (v := .int .i64 (3 : Int)) (res1 rfl rfl) (fun a w st => st.toPostV))
   replace h359 := ite_f b360 h359
   refine GL.skip ?_
   refine GL.seq ?_
   refine GL.region ?_
   refine RL.fadr (off := 0) (fo := 1) 1 Try_fld36_1 rfl rfl rfl PtOf.obox (Or.inr ⟨rfl, rfl⟩) ?_
   refine RL.ldP (off := (0 + 1)) (r := (TR.sl TR.int)) (e' := y234.2.1) 1 Try_ln24 rfl rfl (Or.inl rfl) rfl PtOf.obox (Part.snd (Part.fst Part.self)) ?_
   intro v362
   refine RL.lenS 2 Try.underlying24 rfl rfl rfl rfl SlOf.imm ?_
   refine RL.mv rfl rfl rfl ?_
   refine RL.finG ?_
   refine GL.open_ 2 rfl (fun S h => len_imm S h) (fun n381 => ?_)
   obtain ⟨y382, K383, h384, h385, h386, h387, h388⟩ := bindF_K h359
   refine GL.join (ι := Unit) (fun (p : Unit) => [(0, .int .i64 x0), (1, v1), (25, v1), (26, .int .i64 ((x1).length : Int)), (27, .int .i64 (i224 : Int))]) (fun (p : Unit) => [imm (TR.sl (TR.pair TR.int (TR.pair (TR.sl TR.int) (TR.sl TR.int)))) v1 x1]) (fun (p : Unit) => K383 (.nx ())) ?_ ?_
   ·refine GL.block ?_
    refine GL.loop (ι := Nat × (List Int)) (fun (p : Nat × (List Int)) => [(0, .int .i64 x0), (1, v1), (5, .int .i64 (i224 : Int)), (25, v1), (26, .int .i64 ((x1).length : Int)), (27, .int .i64 (i224 : Int)), (86, v362), (87, .int .i64 ((y234.2.1).length : Int)), (88, .int .i64 (p.1 : Int))]) (fun (p : Nat × (List Int)) => [imm (TR.sl (TR.pair TR.int (TR.pair (TR.sl TR.int) (TR.sl TR.int)))) v1 x1, imm (TR.sl TR.int) v362 y234.2.1]) (fun (p : Nat × (List Int)) => p.1 + p.2.length = (y234.2.1).length ∧ List.drop p.1 y234.2.1 = p.2 ∧ rangeL (tree_Check_b3 i224 x1) p.2 p.1 () = some y382) (fun (p : Nat × (List Int)) => p.2.length) (0, y234.2.1) ⟨by simp, by simp, h384⟩ (fun a w st => St.cut [0, 2] ⟨rfl, rfl, rfl, rfl, rfl, rfl, rfl, rfl, rfl, trivial⟩ (by decide) rfl st) ?_
    rintro ⟨i389, r390⟩ ⟨h395, h396, h394⟩
    try dsimp only at h395 h396 h394
    refine GL.weak (env' := [(0, .int .i64 x0), (1, v1), (5, .int .i64 (i224 : Int)), (25, v1), (26, .int .i64 ((x1).length : Int)), (27, .int .i64 (i224 : Int)), (86, v362), (87, .int .i64 ((y234.2.1).length : Int)), (88, .int .i64 (i389 : Int))]) (L' := [imm (TR.sl (TR.pair TR.int (TR.pair (TR.sl TR.int) (TR.sl TR.int)))) v1 x1, imm (TR.sl TR.int) v362 y234.2.1]) (fun _ _ st => st) ?_
    refine GL.seq ?_
    refine GL.region ?_
    refine RL.binI (v := .bool (decide ((i389 : Int) < ((y234.2.1).length : Int)))) rfl rfl rfl rfl rfl ?_
    refine RL.finG ?_
    refine GL.seq ?_
    refine GL.cond rfl (fun b397 => ?_) (fun b397 => ?_)
    ·have h398 : i389 < (y234.2.1).length := by have := of_decide_eq_true b397; omega
     obtain ⟨y399, r401, hr, e400, h402⟩ := drop_cons h396 rfl h398
     subst hr
     obtain ⟨z391, h392, h393⟩ := rangeL_some h394
     unfold tree_Check_b3 at h392
     try dsimp only at h392
     refine GL.skip ?_
     refine GL.seq ?_
     refine GL.block ?_
     refine GL.seq ?_
     refine GL.region ?_
     refine RL.idxS (sz := 1) 1 Try.underlying24 Try_ln3 rfl rfl rfl rfl rfl SlOf.imm (by omega) (by omega) ?_
     refine RL.ldSx (i := i389) (e' := y399) 1 Ex.ik Try_ln3 rfl rfl rfl rfl SlOf.imm e400 Part.self ?_
     refine RL.asg rfl rfl rfl ?_
     refine RL.finG ?_
     refine GL.seq ?_
     obtain ⟨y406, K407, h408, h409, h410, h411, h412⟩ := bindF_K h392
     refine GL.join (ι := Bool) (fun (p : Bool) => [(0, .int .i64 x0), (1, v1), (5, .int .i64 (i224 : Int)), (25, v1), (26, .int .i64 ((x1).length : Int)), (27, .int .i64 (i224 : Int)), (86, v362), (87, .int .i64 ((y234.2.1).length : Int)), (88, .int .i64 (i389 : Int)), (100, .bool p)]) (fun (p : Bool) => [imm (TR.sl (TR.pair TR.int (TR.pair (TR.sl TR.int) (TR.sl TR.int)))) v1 x1, imm (TR.sl TR.int) v362 y234.2.1]) (fun (p : Bool) => K407 (.nx p)) ?_ ?_
     ·skip
      refine GL.region ?_
      refine RL.mv rfl rfl rfl ?_
      refine RL.mv rfl rfl rfl ?_
      refine RL.binI (v := .bool (decide (y399 ≤ (i224 : Int)))) rfl rfl rfl rfl rfl ?_
      refine RL.mv rfl rfl rfl ?_
      refine RL.split (t := 95) rfl (fun b413 => ?_) (fun b413 => ?_)
      ·replace h408 := ite_t b413 h408
       refine RL.skip rfl rfl ?_
       refine RL.skip rfl rfl ?_
       refine RL.skip rfl rfl ?_
       refine RL.skip rfl rfl ?_
       refine RL.pickT rfl rfl rfl rfl ?_
       refine RL.fin ?_
       cases h408
       exact fun a w st => mid_intro true h409 (St.cut [0, 1] ⟨rfl, rfl, rfl, rfl, rfl, rfl, rfl, rfl, rfl, rfl, trivial⟩ (by decide) rfl st)
      replace h408 := ite_f b413 h408
      refine RL.mv rfl rfl rfl ?_
      refine RL.mv rfl rfl rfl ?_
      refine RL.lenS 0 Try.underlying33 rfl rfl rfl rfl SlOf.imm ?_
      refine RL.binI (v := .bool (decide (y399 ≥ ((x1).length : Int)))) rfl rfl rfl rfl rfl ?_
      refine RL.pickF rfl rfl rfl rfl ?_
      refine RL.fin ?_
      cases h408
      exact fun a w st => mid_intro (decide (y399 ≥ ((x1).length : Int))) h409 (St.cut [0, 1] ⟨rfl, rfl, rfl, rfl, rfl, rfl, rfl, rfl, rfl, rfl, trivial⟩ (by decide) rfl st)
     rintro x405 h414
     have h415 := h410 _ h414
     try dsimp only at h415
     refine GL.weak (env' := [(0, .int .i64 x0), (1, v1), (5, .int .i64 (i224 : Int)), (25, v1), (26, .int .i64 ((x1).length : Int)), (27, .int .i64 (i224 : Int)), (86, v362), (87, .int .i64 ((y234.2.1).length : Int)), (88, .int .i64 (i389 : Int)), (100, .bool x405)]) (L' := [imm (TR.sl (TR.pair TR.int (TR.pair (TR.sl TR.int) (TR.sl TR.int)))) v1 x1, imm (TR.sl TR.int) v362 y234.2.1]) (fun _ _ st => st) ?_
     refine GL.cond rfl (fun b416 => ?_) (fun b416 => ?_)
     ·replace h415 := ite_t b416 h415
      refine GL.seq ?_
      refine GL.region ?_
      refine RL.asg rfl rfl rfl ?_
      refine RL.finG ?_
      cases h415
      replace h393 : some (Fl.rt _) = some y382 := h393
      cases h393
      have hh := h387 _ h385
      subst hh
      replace h228 : some (Fl.rt _) = some y217 := h228
      cases h228
      have hh := h222 _ h220
      subst hh
      exact GL.ret (Gx.ret (v := .int .i64 (4 : Int)) (res1 rfl rfl) (fun a w st => st.toPostV))
     replace h415 := ite_f b416 h415
     refine GL.skip ?_
     refine GL.nilB ?_
     refine GL.region ?_
     refine RL.binI (v := .int .i64 ((i389 + 1 : Nat) : Int)) rfl rfl rfl rfl (binI_succ i389 (by omega)) ?_
     refine RL.mv rfl rfl rfl ?_
     refine RL.fin ?_
     cases h415
     exact fun a w st => lop_intro (i389 + 1, r401) ⟨by show i389 + 1 + r401.length = (y234.2.1).length; simp only [List.length_cons] at h395; omega, h402, h393⟩ (by simp) (St.cut [0, 1] ⟨rfl, rfl, rfl, rfl, rfl, rfl, rfl, rfl, rfl, trivial⟩ (by decide) rfl st)
    have h398 : ¬ i389 < (y234.2.1).length := by have := of_decide_eq_false b397; omega
    obtain rfl : r390 = [] := by rw [← h396]; exact List.drop_of_length_le (by omega)
    replace h394 : some (Fl.nx _) = some y382 := h394
    cases h394
    exact GL.exit (fun a w st => mid_intro () h385 (St.cut [0] ⟨rfl, rfl, rfl, rfl, rfl, trivial⟩ (by decide) rfl st))
   rintro ⟨⟩ h417
   have h418 := h386 _ h417
   try dsimp only at h418
   refine GL.weak (env' := [(0, .int .i64 x0), (1, v1), (25, v1), (26, .int .i64 ((x1).length : Int)), (27, .int .i64 (i224 : Int))]) (L' := [imm (TR.sl (TR.pair TR.int (TR.pair (TR.sl TR.int) (TR.sl TR.int)))) v1 x1]) (fun _ _ st => st) ?_
   refine GL.nilB ?_
   refine GL.region ?_
   refine RL.binI (v := .int .i64 ((i224 + 1 : Nat) : Int)) rfl rfl rfl rfl (binI_succ i224 (by omega)) ?_
   refine RL.mv rfl rfl rfl ?_
   refine RL.fin ?_
   cases h418
   exact fun a w st => lop_intro (i224 + 1, r236) ⟨by show i224 + 1 + r236.length = (x1).length; simp only [List.length_cons] at h230; omega, h237, h228⟩ (by simp) (St.cut [0] ⟨rfl, rfl, rfl, rfl, rfl, trivial⟩ (by decide) rfl st)
  have h233 : ¬ i224 < (x1).length := by have := of_decide_eq_false b232; omega
  obtain rfl : r225 = [] := by rw [← h231]; exact List.drop_of_length_le (by omega)
  replace h229 : some (Fl.nx _) = some y217 := h229
  cases h229
  exact GL.exit (fun a w st => mid_intro () h220 (St.cut [] trivial (by decide) rfl st))
 rintro ⟨⟩ h419
 have h420 := h221 _ h419
 try dsimp only at h420
 refine GL.weak (env' := []) (L' := []) (fun _ _ st => st) ?_
 refine GL.seq ?_
 refine GL.region ?_
 refine RL.asg rfl rfl rfl ?_
 refine RL.finG ?_
 have h420 := Option.some.inj h420
 subst h420
 exact GL.ret (Gx.ret (v := .int .i64 (0 : Int)) (res1 rfl rfl) (fun a w st => st.toPostV))

set_option maxHeartbeats 4000000 in
theorem tree_Solve_c (S : Hp) (w : World) (hS : S.sub w) (x0 : Int) (v1 : Value) (x1 : (List (Int × ((List Int) × (List Int))))) (k1 : ((TR.sl (TR.pair TR.int (TR.pair (TR.sl TR.int) (TR.sl TR.int))))).vrep S v1 x1) (res : (List Int) × (List (List Int)) × Int) (hm : tree_Solve_m x0 x1 = some res) : Calls Try.prog 17 #[.int .i64 x0, v1] w (Post w S (fun (o : Value × Value) => .tuple #[o.1, o.2, .int .i64 res.2.2]) (fun (o : Value × Value) => [own 3 TR.int o.1 res.1, own 24 (TR.sl TR.int) o.2 res.2.1])) := by
 refine calls_enter 101 Try.func17 Try.ntmps17 rfl S false [(0, .int .i64 x0), (1, v1)] [imm (TR.sl (TR.pair TR.int (TR.pair (TR.sl TR.int) (TR.sl TR.int)))) v1 x1] rfl ⟨rfl, ⟨rfl, trivial⟩⟩ hS ⟨k1, trivial⟩ ?_
 unfold tree_Solve_m at hm
 refine GL.seq ?_
 refine GL.region ?_
 refine RL.asg rfl rfl rfl ?_
 refine RL.asg rfl rfl rfl ?_
 refine RL.asg rfl rfl rfl ?_
 refine RL.finG ?_
 refine GL.seq ?_
 refine GL.seq ?_
 refine GL.region ?_
 refine RL.mv rfl rfl rfl ?_
 refine RL.mv rfl rfl rfl ?_
 obtain ⟨y5, e6, hm⟩ := bind_some hm
 refine RL.callV (v := .int .i64 y5) (vs := [.int .i64 x0, v1]) Try_fit81 rfl (Or.inl rfl) rfl rfl rfl rfl (fun U w hU hW hL => tree_Check_c U w hU x0 _ _ (hL 0 _ _ rfl Seen.imm) _ e6) ?_
 refine RL.asg rfl rfl rfl ?_
 refine RL.finG ?_
 refine GL.seq ?_
 refine GL.region ?_
 refine RL.mv rfl rfl rfl ?_
 refine RL.binI (v := .bool (y5 != (0 : Int))) rfl rfl rfl rfl rfl ?_
 refine RL.finG ?_
 refine GL.cond rfl (fun b7 => ?_) (fun b7 => ?_)
 ·replace hm := ite_t b7 hm
  refine GL.seq ?_
  refine GL.region ?_
  refine RL.mv rfl rfl rfl ?_
  refine RL.asg rfl rfl rfl ?_
  refine RL.asg rfl rfl rfl ?_
  refine RL.asg rfl rfl rfl ?_
  refine RL.finG ?_
  refine GL.weak (fun a w st => st.nilOwn 3 TR.int) ?_
  refine GL.weak (fun a w st => st.nilOwn 24 (TR.sl TR.int)) ?_
  have hm := Option.some.inj hm
  subst hm
  exact GL.ret (Gx.ret (v := .tuple #[Value.slice none 0 0, Value.slice none 0 0, .int .i64 y5]) (res3 rfl rfl rfl rfl) (fun a w st => (st.pick [1, 2] (by decide) rfl).toPost (Value.slice none 0 0, Value.slice none 0 0)))
 replace hm := ite_f b7 hm
 refine GL.skip ?_
 refine GL.seq ?_
 refine GL.region ?_
 refine RL.mv rfl rfl rfl ?_
 refine RL.lenS 0 Try.underlying33 rfl rfl rfl rfl SlOf.imm ?_
 obtain ⟨y11, e12, hm⟩ := bind_some hm
 replace e12 := chk_some e12
 refine RL.mkS (t := TR.int) (z := (0 : Int)) Try.underlying24 Try_lo3 (fun S => rfl) rfl rfl rfl rfl e12.1 e12.2 ?_
 intro v13
 refine RL.asg rfl rfl rfl ?_
 refine RL.finG ?_
 refine GL.seq ?_
 refine GL.region ?_
 refine RL.mv rfl rfl rfl ?_
 refine RL.lenS 0 Try.underlying33 rfl rfl rfl rfl SlOf.imm ?_
 obtain ⟨y17, e18, hm⟩ := bind_some hm
 replace e18 := chk_some e18
 refine RL.mkS (t := (TR.sl TR.int)) (z := ([] : (List Int))) Try.underlying37 Try_lo24 (fun S => ⟨_, [], rfl, ⟨none, 0, rfl, Nat.le_refl _, Nat.zero_le _, Or.inl ⟨rfl, rfl⟩⟩, rfl⟩) rfl rfl rfl rfl e18.1 e18.2 ?_
 intro v19
 refine RL.reL (L' := [imm (TR.sl (TR.pair TR.int (TR.pair (TR.sl TR.int) (TR.sl TR.int)))) v1 x1, own 3 TR.int v13 (List.replicate (((x1).length : Int)).toNat (0 : Int)), own 24 (TR.sl TR.int) v19 (List.replicate (((x1).length : Int)).toNat ([] : (List Int)))]) rfl ?_
 refine RL.asg rfl rfl rfl ?_
 refine RL.finG ?_
 refine GL.seq ?_
 refine GL.seq ?_
 refine GL.region ?_
 refine RL.mv rfl rfl rfl ?_
 refine RL.lenS 0 Try.underlying33 rfl rfl rfl rfl SlOf.imm ?_
 refine RL.binI (v := .int .i64 (wsub ((x1).length : Int) (1 : Int))) rfl rfl rfl rfl rfl ?_
 refine RL.asg rfl rfl rfl ?_
 refine RL.finG ?_
 obtain ⟨y306, K307, h308, h309, h310, h311, h312⟩ := bindR_K hm
 refine GL.join (ι := (List Int) × (List (List Int)) × Int) (fun (p : (List Int) × (List (List Int)) × Int) => [(8, v13), (9, v19)]) (fun (p : (List Int) × (List (List Int)) × Int) => [own 3 TR.int v13 p.1, own 24 (TR.sl TR.int) v19 p.2.1]) (fun (p : (List Int) × (List (List Int)) × Int) => K307 (.nx (p.1, p.2.1, p.2.2))) ?_ ?_
 ·refine GL.block ?_
  refine GL.loop (ι := Nat × (List Int) × (List (List Int)) × Int) (fun (p : Nat × (List Int) × (List (List Int)) × Int) => [(1, v1), (8, v13), (9, v19), (10, .int .i64 p.2.2.2)]) (fun (p : Nat × (List Int) × (List (List Int)) × Int) => [imm (TR.sl (TR.pair TR.int (TR.pair (TR.sl TR.int) (TR.sl TR.int)))) v1 x1, own 3 TR.int v13 p.2.1, own 24 (TR.sl TR.int) v19 p.2.2.1]) (fun (p : Nat × (List Int) × (List (List Int)) × Int) => loopM (tree_Solve_b1 x1) p.1 (p.2.1, p.2.2.1, p.2.2.2) = some y306) (fun (p : Nat × (List Int) × (List (List Int)) × Int) => p.1) (1048576, (List.replicate (((x1).length : Int)).toNat (0 : Int)), (List.replicate (((x1).length : Int)).toNat ([] : (List Int))), wsub ((x1).length : Int) (1 : Int)) h308 (fun a w st => St.cut [0, 1, 2] ⟨rfl, rfl, rfl, rfl, trivial⟩ (by decide) rfl st) ?_
  rintro ⟨r314, l162, l163, x164⟩ h318
  try dsimp only at h318
  refine GL.weak (env' := [(1, v1), (8, v13), (9, v19), (10, .int .i64 x164)]) (L' := [imm (TR.sl (TR.pair TR.int (TR.pair (TR.sl TR.int) (TR.sl TR.int)))) v1 x1, own 3 TR.int v13 l162, own 24 (TR.sl TR.int) v19 l163]) (fun _ _ st => st) ?_
  obtain ⟨r321, z315, hr, h316, h317⟩ := loopM_some h318
  subst hr
  unfold tree_Solve_b1 at h316
  try dsimp only at h316
  refine GL.seq ?_
  refine GL.seq ?_
  refine GL.region ?_
  refine RL.mv rfl rfl rfl ?_
  refine RL.binI (v := .bool (decide (x164 ≥ (0 : Int)))) rfl rfl rfl rfl rfl ?_
  refine RL.finG ?_
  refine GL.cond rfl (fun b322 => ?_) (fun b322 => ?_)
  ·replace h316 := ite_t b322 h316
   refine GL.skip ?_
   refine GL.seq ?_
   refine GL.block ?_
   refine GL.seq ?_
   refine GL.region ?_
   refine RL.mv rfl rfl rfl ?_
   refine RL.mv rfl rfl rfl ?_
   obtain ⟨y327, e328, h316⟩ := bind_some h316
   refine RL.idxS (sz := 3) 0 Try.underlying33 Try_ln36 rfl rfl rfl rfl rfl SlOf.imm (idx_some e328).1 (idx_some e328).2.1 ?_
   refine RL.ldS (i := (x164).toNat) (r := (TR.pair TR.int (TR.pair (TR.sl TR.int) (TR.sl TR.int)))) (e' := y327) 0 Try_ln36 rfl rfl rfl rfl SlOf.imm (idx_some e328).2.2 Part.self ?_
   intro v329
   refine RL.alloc (t := (TR.pair TR.int (TR.pair (TR.sl TR.int) (TR.sl TR.int)))) (z := ((0 : Int), ([] : (List Int)), ([] : (List Int)))) Try_lo36 (fun S => ⟨[.int .i64 0], _, rfl, rfl, ⟨[.slice none 0 0], _, rfl, ⟨_, [], rfl, ⟨none, 0, rfl, Nat.le_refl _, Nat.zero_le _, Or.inl ⟨rfl, rfl⟩⟩, rfl⟩, ⟨_, [], rfl, ⟨none, 0, rfl, Nat.le_refl _, Nat.zero_le _, Or.inl ⟨rfl, rfl⟩⟩, rfl⟩⟩⟩) rfl rfl rfl ?_
   intro v330
   refine RL.reL (L' := [imm (TR.sl (TR.pair TR.int (TR.pair (TR.sl TR.int) (TR.sl TR.int)))) v1 x1, own 3 TR.int v13 l162, own 24 (TR.sl TR.int) v19 l163, imm (TR.pair TR.int (TR.pair (TR.sl TR.int) (TR.sl TR.int))) v329 y327, obox 36 (TR.pair TR.int (TR.pair (TR.sl TR.int) (TR.sl TR.int))) v330 ((0 : Int), ([] : (List Int)), ([] : (List Int)))]) rfl ?_
   refine RL.stP (off := 0) (e' := y327) (d1 := y327) (r := (TR.pair TR.int (TR.pair (TR.sl TR.int) (TR.sl TR.int)))) 4 Try_ln36 rfl rfl (Or.inr ⟨rfl, rfl⟩) rfl (VR.item 3 rfl) rfl Upd.self ?_
   refine RL.finG ?_
   refine GL.seq ?_
   refine GL.seq ?_
   refine GL.region ?_
   refine RL.fadr (off := 0) (fo := 0) 4 Try_fld36_0 rfl rfl rfl PtOf.obox (Or.inr ⟨rfl, rfl⟩) ?_
   refine RL.ldPx (off := (0 + 0)) (e' := y327.1) 4 Ex.ik Try_ln3 rfl rfl (Or.inl rfl) rfl PtOf.obox (Part.fst Part.self) ?_
   refine RL.binI (v := .bool (decide (y327.1 < (0 : Int)))) rfl rfl rfl rfl rfl ?_
   refine RL.finG ?_
   refine GL.cond rfl (fun b331 => ?_) (fun b331 => ?_)
   ·replace h316 := ite_t b331 h316
    refine GL.seq ?_
    refine GL.region ?_
    refine RL.mv rfl rfl rfl ?_
    refine RL.mv rfl rfl rfl ?_
    refine RL.bS (t := TR.int) (vs := []) ([] : (List Int)) Try.underlying24 Try_lo3 rfl rfl rfl rfl trivial rfl (by decide) ?_
    intro v339
    refine RL.reL (L' := [imm (TR.sl (TR.pair TR.int (TR.pair (TR.sl TR.int) (TR.sl TR.int)))) v1 x1, own 3 TR.int v13 l162, own 24 (TR.sl TR.int) v19 l163, imm (TR.pair TR.int (TR.pair (TR.sl TR.int) (TR.sl TR.int))) v329 y327, obox 36 (TR.pair TR.int (TR.pair (TR.sl TR.int) (TR.sl TR.int))) v330 y327, own 3 TR.int v339 ([] : (List Int))]) rfl ?_
    refine RL.fadr (off := 0) (fo := 2) 4 Try_fld36_2 rfl rfl rfl PtOf.obox (Or.inr ⟨rfl, rfl⟩) ?_
    refine RL.ldP (off := (0 + 2)) (r := (TR.sl TR.int)) (e' := y327.2.2) 4 Try_ln24 rfl rfl (Or.inl rfl) rfl PtOf.obox (Part.snd (Part.snd Part.self)) ?_
    intro v340
    obtain ⟨y341, e342, h316⟩ := bind_some h316
    replace e342 := chk_some e342
    refine RL.app 5 6 Try.underlying24 Try_lo3 rfl rfl rfl rfl rfl rfl rfl SlOf.imm e342 ?_
    intro v343
    refine RL.reL (L' := [imm (TR.sl (TR.pair TR.int (TR.pair (TR.sl TR.int) (TR.sl TR.int)))) v1 x1, own 3 TR.int v13 l162, own 24 (TR.sl TR.int) v19 l163, imm (TR.pair TR.int (TR.pair (TR.sl TR.int) (TR.sl TR.int))) v329 y327, obox 36 (TR.pair TR.int (TR.pair (TR.sl TR.int) (TR.sl TR.int))) v330 y327, own 3 TR.int v343 (([] : (List Int)) ++ y327.2.2), imm (TR.sl TR.int) v340 y327.2.2]) rfl ?_
    obtain ⟨y344, e345, h316⟩ := bind_some h316
    refine RL.idxS (sz := 1) 2 Try.underlying37 Try_ln24 rfl rfl rfl rfl rfl SlOf.own (idx_some e345).1 (idx_some e345).2.1 ?_
    refine RL.weak (fun a w st => st.freeze 5 rfl) ?_
    refine RL.stS (i := (x164).toNat) (e' := (([] : (List Int)) ++ y327.2.2)) (e1 := (([] : (List Int)) ++ y327.2.2)) (r := (TR.sl TR.int)) 2 Try_ln24 rfl rfl rfl rfl (VR.item 5 rfl) rfl (idx_some e345).2.2 Upd.self ?_
    refine RL.reL (L' := [imm (TR.sl (TR.pair TR.int (TR.pair (TR.sl TR.int) (TR.sl TR.int)))) v1 x1, own 3 TR.int v13 l162, own 24 (TR.sl TR.int) v19 (List.set l163 ((x164).toNat) (([] : (List Int)) ++ y327.2.2)), imm (TR.pair TR.int (TR.pair (TR.sl TR.int) (TR.sl TR.int))) v329 y327, obox 36 (TR.pair TR.int (TR.pair (TR.sl TR.int) (TR.sl TR.int))) v330 y327, imm (TR.sl TR.int) v343 (([] : (List Int)) ++ y327.2.2), imm (TR.sl TR.int) v340 y327.2.2]) rfl ?_
    refine RL.finG ?_
    refine GL.seq ?_
    refine GL.region ?_
    refine RL.mv rfl rfl rfl ?_
    refine RL.mv rfl rfl rfl ?_
    obtain ⟨y348, e349, h316⟩ := bind_some h316
    refine RL.idxS (sz := 1) 1 Try.underlying24 Try_ln3 rfl rfl rfl rfl rfl SlOf.own (idx_some e349).1 (idx_some e349).2.1 ?_
    refine RL.stS (i := (x164).toNat) (e' := (-1 : Int)) (e1 := (-1 : Int)) (r := TR.int) 1 Try_ln3 rfl rfl rfl rfl VR.int rfl (idx_some e349).2.2 Upd.self ?_
    refine RL.finG ?_
    refine GL.exit ?_
    refine Gx.here ?_
    refine GL.region ?_
    refine RL.mv rfl rfl rfl ?_
    refine RL.binI (v := .int .i64 (wsub x164 (1 : Int))) rfl rfl rfl rfl rfl ?_
    refine RL.asg rfl rfl rfl ?_
    refine RL.finG ?_
    cases h316
    exact fun a w st => lop_intro (r321, (List.set l162 ((x164).toNat) (-1 : Int)), (List.set l163 ((x164).toNat) (([] : (List Int)) ++ y327.2.2)), wsub x164 (1 : Int)) (by exact h317) (by simp) (St.cut [0, 1, 2] ⟨rfl, rfl, rfl, rfl, trivial⟩ (by decide) rfl st)
   replace h316 := ite_f b331 h316
   refine GL.skip ?_
   refine GL.seq ?_
   refine GL.region ?_
   refine RL.asg rfl rfl rfl ?_
   refine RL.finG ?_
   refine GL.seq ?_
   refine GL.seq ?_
   refine GL.region ?_
   refine RL.fadr (off := 0) (fo := 1) 4 Try_fld36_1 rfl rfl rfl PtOf.obox (Or.inr ⟨rfl, rfl⟩) ?_
   refine RL.ldP (off := (0 + 1)) (r := (TR.sl TR.int)) (e' := y327.2.1) 4 Try_ln24 rfl rfl (Or.inl rfl) rfl PtOf.obox (Part.snd (Part.fst Part.self)) ?_
   intro v351
   refine RL.reL (L' := [imm (TR.sl (TR.pair TR.int (TR.pair (TR.sl TR.int) (TR.sl TR.int)))) v1 x1, own 3 TR.int v13 l162, own 24 (TR.sl TR.int) v19 l163, imm (TR.pair TR.int (TR.pair (TR.sl TR.int) (TR.sl TR.int))) v329 y327, obox 36 (TR.pair TR.int (TR.pair (TR.sl TR.int) (TR.sl TR.int))) v330 y327, imm (TR.sl TR.int) v351 y327.2.1]) rfl ?_
   refine RL.lenS 5 Try.underlying24 rfl rfl rfl rfl SlOf.imm ?_
   refine RL.mv rfl rfl rfl ?_
   refine RL.finG ?_
   refine GL.open_ 5 rfl (fun S h => len_imm S h) (fun n384 => ?_)
   obtain ⟨y385, K386, h387, h388, h389, h390, h391⟩ := bindF_K h316
   refine GL.join (ι := Int) (fun (p : Int) => [(1, v1), (8, v13), (9, v19), (10, .int .i64 x164), (11, v330), (12, .int .i64 p)]) (fun (p : Int) => [imm (TR.sl (TR.pair TR.int (TR.pair (TR.sl TR.int) (TR.sl TR.int)))) v1 x1, own 3 TR.int v13 l162, own 24 (TR.sl TR.int) v19 l163, obox 36 (TR.pair TR.int (TR.pair (TR.sl TR.int) (TR.sl TR.int))) v330 y327]) (fun (p : Int) => K386 (.nx p)) ?_ ?_
   ·refine GL.block ?_
    refine GL.loop (ι := Nat × (List Int) × Int) (fun (p : Nat × (List Int) × Int) => [(1, v1), (8, v13), (9, v19), (10, .int .i64 x164), (11, v330), (12, .int .i64 p.2.2), (52, v351), (53, .int .i64 ((y327.2.1).length : Int)), (54, .int .i64 (p.1 : Int))]) (fun (p : Nat × (List Int) × Int) => [imm (TR.sl (TR.pair TR.int (TR.pair (TR.sl TR.int) (TR.sl TR.int)))) v1 x1, own 3 TR.int v13 l162, own 24 (TR.sl TR.int) v19 l163, obox 36 (TR.pair TR.int (TR.pair (TR.sl TR.int) (TR.sl TR.int))) v330 y327, imm (TR.sl TR.int) v351 y327.2.1]) (fun (p : Nat × (List Int) × Int) => p.1 + p.2.1.length = (y327.2.1).length ∧ List.drop p.1 y327.2.1 = p.2.1 ∧ rangeL (tree_Solve_b2 l163 y327) p.2.1 p.1 p.2.2 = some y385) (fun (p : Nat × (List Int) × Int) => p.2.1.length) (0, y327.2.1, (0 : Int)) ⟨by simp, by simp, h387⟩ (fun a w st => St.cut [0, 1, 2, 4, 5] ⟨rfl, rfl, rfl, rfl, rfl, rfl, rfl, rfl, rfl, trivial⟩ (by decide) rfl st) ?_
    rintro ⟨i392, r393, x352⟩ ⟨h398, h399, h397⟩
    try dsimp only at h398 h399 h397
    refine GL.weak (env' := [(1, v1), (8, v13), (9, v19), (10, .int .i64 x164), (11, v330), (12, .int .i64 x352), (52, v351), (53, .int .i64 ((y327.2.1).length : Int)), (54, .int .i64 (i392 : Int))]) (L' := [imm (TR.sl (TR.pair TR.int (TR.pair (TR.sl TR.int) (TR.sl TR.int)))) v1 x1, own 3 TR.int v13 l162, own 24 (TR.sl TR.int) v19 l163, obox 36 (TR.pair TR.int (TR.pair (TR.sl TR.int) (TR.sl TR.int))) v330 y327, imm (TR.sl TR.int) v351 y327.2.1]) (fun _ _ st => st) ?_
    refine GL.seq ?_
    refine GL.region ?_
    refine RL.binI (v := .bool (decide ((i392 : Int) < ((y327.2.1).length : Int)))) rfl rfl rfl rfl rfl ?_
    refine RL.finG ?_
    refine GL.seq ?_
    refine GL.cond rfl (fun b400 => ?_) (fun b400 => ?_)
    ·have h401 : i392 < (y327.2.1).length := by have := of_decide_eq_true b400; omega
     obtain ⟨y402, r404, hr, e403, h405⟩ := drop_cons h399 rfl h401
     subst hr
     obtain ⟨z394, h395, h396⟩ := rangeL_some h397
     unfold tree_Solve_b2 at h395
     try dsimp only at h395
     refine GL.skip ?_
     refine GL.seq ?_
     refine GL.block ?_
     refine GL.seq ?_
     refine GL.region ?_
     refine RL.mv rfl rfl rfl ?_
     refine RL.idxS (sz := 1) 4 Try.underlying24 Try_ln3 rfl rfl rfl rfl rfl SlOf.imm (by omega) (by omega) ?_
     refine RL.ldSx (i := i392) (e' := y402) 4 Ex.ik Try_ln3 rfl rfl rfl rfl SlOf.imm e403 Part.self ?_
     refine RL.asg rfl rfl rfl ?_
     refine RL.asg rfl rfl rfl ?_
     refine RL.finG ?_
     refine GL.seq ?_
     refine GL.regionQ rfl rfl (by kernel_rfl) ?_
     refine RL.mv rfl rfl rfl ?_
     refine RL.mv rfl rfl rfl ?_
     obtain ⟨y419, e420, h395⟩ := bind_some h395
     refine RL.idxS (sz := 1) 2 Try.underlying37 Try_ln24 rfl rfl rfl rfl rfl SlOf.own (idx_some e420).1 (idx_some e420).2.1 ?_
     refine RL.ldS (i := (y402).toNat) (r := (TR.sl TR.int)) (e' := y419) 2 Try_ln24 rfl rfl rfl rfl SlOf.own (idx_some e420).2.2 Part.self ?_
     intro v421
     refine RL.fadr (off := 0) (fo := 0) 3 Try_fld36_0 rfl rfl rfl PtOf.obox (Or.inr ⟨rfl, rfl⟩) ?_
     refine RL.ldPx (off := (0 + 0)) (e' := y327.1) 3 Ex.ik Try_ln3 rfl rfl (Or.inl rfl) rfl PtOf.obox (Part.fst Part.self) ?_
     obtain ⟨y422, e423, h395⟩ := bind_some h395
     refine RL.idxS (sz := 1) 5 Try.underlying24 Try_ln3 rfl rfl rfl rfl rfl SlOf.imm (idx_some e423).1 (idx_some e423).2.1 ?_
     refine RL.ldSx (i := (y327.1).toNat) (e' := y422) 5 Ex.ik Try_ln3 rfl rfl rfl rfl SlOf.imm (idx_some e423).2.2 Part.self ?_
     refine RL.mv rfl rfl rfl ?_
     refine RL.fadr (off := 0) (fo := 1) 3 Try_fld36_1 rfl rfl rfl PtOf.obox (Or.inr ⟨rfl, rfl⟩) ?_
     refine RL.ldP (off := (0 + 1)) (r := (TR.sl TR.int)) (e' := y327.2.1) 3 Try_ln24 rfl rfl (Or.inl rfl) rfl PtOf.obox (Part.snd (Part.fst Part.self)) ?_
     intro v424
     refine RL.reL (L' := [imm (TR.sl (TR.pair TR.int (TR.pair (TR.sl TR.int) (TR.sl TR.int)))) v1 x1, own 3 TR.int v13 l162, own 24 (TR.sl TR.int) v19 l163, obox 36 (TR.pair TR.int (TR.pair (TR.sl TR.int) (TR.sl TR.int))) v330 y327, imm (TR.sl TR.int) v351 y327.2.1, imm (TR.sl TR.int) v421 y419, imm (TR.sl TR.int) v424 y327.2.1]) rfl ?_
     refine RL.mv rfl rfl rfl ?_
     obtain ⟨y425, e426, h395⟩ := bind_some h395
     refine RL.idxS (sz := 1) 6 Try.underlying24 Try_ln3 rfl rfl rfl rfl rfl SlOf.imm (idx_some e426).1 (idx_some e426).2.1 ?_
     refine RL.ldSx (i := (x352).toNat) (e' := y425) 6 Ex.ik Try_ln3 rfl rfl rfl rfl SlOf.imm (idx_some e426).2.2 Part.self ?_
     obtain ⟨y427, e428, h395⟩ := bind_some h395
     refine RL.idxS (sz := 1) 2 Try.underlying37 Try_ln24 rfl rfl rfl rfl rfl SlOf.own (idx_some e428).1 (idx_some e428).2.1 ?_
     refine RL.ldS (i := (y425).toNat) (r := (TR.sl TR.int)) (e' := y427) 2 Try_ln24 rfl rfl rfl rfl SlOf.own (idx_some e428).2.2 Part.self ?_
     intro v429
     refine RL.fadr (off := 0) (fo := 0) 3 Try_fld36_0 rfl rfl rfl PtOf.obox (Or.inr ⟨rfl, rfl⟩) ?_
     refine RL.ldPx (off := (0 + 0)) (e' := y327.1) 3 Ex.ik Try_ln3 rfl rfl (Or.inl rfl) rfl PtOf.obox (Part.fst Part.self) ?_
     obtain ⟨y430, e431, h395⟩ := bind_some h395
     refine RL.idxS (sz := 1) 7 Try.underlying24 Try_ln3 rfl rfl rfl rfl rfl SlOf.imm (idx_some e431).1 (idx_some e431).2.1 ?_
     refine RL.ldSx (i := (y327.1).toNat) (e' := y430) 7 Ex.ik Try_ln3 rfl rfl rfl rfl SlOf.imm (idx_some e431).2.2 Part.self ?_
     refine RL.binI (v := .bool (decide (y422 > y430))) rfl rfl rfl rfl rfl ?_
     refine RL.finQG ?_
     refine GL.weak (env' := [(1, v1), (8, v13), (9, v19), (10, .int .i64 x164), (11, v330), (12, .int .i64 x352), (13, .int .i64 (i392 : Int)), (52, v351), (53, .int .i64 ((y327.2.1).length : Int)), (54, .int .i64 (i392 : Int)), (79, .bool (decide (y422 > y430)))]) (L' := [imm (TR.sl (TR.pair TR.int (TR.pair (TR.sl TR.int) (TR.sl TR.int)))) v1 x1, own 3 TR.int v13 l162, own 24 (TR.sl TR.int) v19 l163, obox 36 (TR.pair TR.int (TR.pair (TR.sl TR.int) (TR.sl TR.int))) v330 y327, imm (TR.sl TR.int) v351 y327.2.1]) (fun a w st => St.cut [0, 1, 2, 3, 4] ⟨rfl, rfl, rfl, rfl, rfl, rfl, rfl, rfl, rfl, rfl, rfl, trivial⟩ (by decide) rfl st) ?_
     refine GL.cond rfl (fun b432 => ?_) (fun b432 => ?_)
     ·replace h395 := ite_t b432 h395
      refine GL.region ?_
      refine RL.mv rfl rfl rfl ?_
      refine RL.asg rfl rfl rfl ?_
      refine RL.finG ?_
      refine GL.nilB ?_
      refine GL.region ?_
      refine RL.binI (v := .int .i64 ((i392 + 1 : Nat) : Int)) rfl rfl rfl rfl (binI_succ i392 (by omega)) ?_
      refine RL.mv rfl rfl rfl ?_
      refine RL.fin ?_
      cases h395
      exact fun a w st => lop_intro (i392 + 1, r404, (i392 : Int)) ⟨by show i392 + 1 + r404.length = (y327.2.1).length; simp only [List.length_cons] at h398; omega, h405, h396⟩ (by simp) (St.cut [0, 1, 2, 3, 4] ⟨rfl, rfl, rfl, rfl, rfl, rfl, rfl, rfl, rfl, trivial⟩ (by decide) rfl st)
     replace h395 := ite_f b432 h395
     refine GL.skip ?_
     refine GL.nilB ?_
     refine GL.region ?_
     refine RL.binI (v := .int .i64 ((i392 + 1 : Nat) : Int)) rfl rfl rfl rfl (binI_succ i392 (by omega)) ?_
     refine RL.mv rfl rfl rfl ?_
     refine RL.fin ?_
     cases h395
     exact fun a w st => lop_intro (i392 + 1, r404, x352) ⟨by show i392 + 1 + r404.length = (y327.2.1).length; simp only [List.length_cons] at h398; omega, h405, h396⟩ (by simp) (St.cut [0, 1, 2, 3, 4] ⟨rfl, rfl, rfl, rfl, rfl, rfl, rfl, rfl, rfl, trivial⟩ (by decide) rfl st)
    have h401 : ¬ i392 < (y327.2.1).length := by have := of_decide_eq_false b400; omega
    obtain rfl : r393 = [] := by rw [← h399]; exact List.drop_of_length_le (by omega)
    replace h397 : some (Fl.nx _) = some y385 := h397
    cases h397
    exact GL.exit (fun a w st => mid_intro x352 h388 (St.cut [0, 1, 2, 3] ⟨rfl, rfl, rfl, rfl, rfl, rfl, trivial⟩ (by decide) rfl st))
   rintro x352 h433
   have h434 := h389 _ h433
   try dsimp only at h434
   refine GL.weak (env' := [(1, v1), (8, v13), (9, v19), (10, .int .i64 x164), (11, v330), (12, .int .i64 x352)]) (L' := [imm (TR.sl (TR.pair TR.int (TR.pair (TR.sl TR.int) (TR.sl TR.int)))) v1 x1, own 3 TR.int v13 l162, own 24 (TR.sl TR.int) v19 l163, obox 36 (TR.pair TR.int (TR.pair (TR.sl TR.int) (TR.sl TR.int))) v330 y327]) (fun _ _ st => st) ?_
   refine GL.seq ?_
   refine GL.region ?_
   refine RL.mv rfl rfl rfl ?_
   refine RL.mv rfl rfl rfl ?_
   refine RL.mv rfl rfl rfl ?_
   obtain ⟨y437, e438, h434⟩ := bind_some h434
   refine RL.idxS (sz := 1) 1 Try.underlying24 Try_ln3 rfl rfl rfl rfl rfl SlOf.own (idx_some e438).1 (idx_some e438).2.1 ?_
   refine RL.stS (i := (x164).toNat) (e' := x352) (e1 := x352) (r := TR.int) 1 Try_ln3 rfl rfl rfl rfl VR.int rfl (idx_some e438).2.2 Upd.self ?_
   refine RL.finG ?_
   refine GL.region ?_
   refine RL.mv rfl rfl rfl ?_
   refine RL.mv rfl rfl rfl ?_
   refine RL.bS (t := TR.int) (vs := []) ([] : (List Int)) Try.underlying24 Try_lo3 rfl rfl rfl rfl trivial rfl (by decide) ?_
   intro v451
   refine RL.reL (L' := [imm (TR.sl (TR.pair TR.int (TR.pair (TR.sl TR.int) (TR.sl TR.int)))) v1 x1, own 3 TR.int v13 (List.set l162 ((x164).toNat) x352), own 24 (TR.sl TR.int) v19 l163, obox 36 (TR.pair TR.int (TR.pair (TR.sl TR.int) (TR.sl TR.int))) v330 y327, own 3 TR.int v451 ([] : (List Int))]) rfl ?_
   refine RL.mv rfl rfl rfl ?_
   refine RL.fadr (off := 0) (fo := 1) 3 Try_fld36_1 rfl rfl rfl PtOf.obox (Or.inr ⟨rfl, rfl⟩) ?_
   refine RL.ldP (off := (0 + 1)) (r := (TR.sl TR.int)) (e' := y327.2.1) 3 Try_ln24 rfl rfl (Or.inl rfl) rfl PtOf.obox (Part.snd (Part.fst Part.self)) ?_
   intro v452
   refine RL.mv rfl rfl rfl ?_
   obtain ⟨y453, e454, h434⟩ := bind_some h434
   refine RL.idxS (sz := 1) 5 Try.underlying24 Try_ln3 rfl rfl rfl rfl rfl SlOf.imm (idx_some e454).1 (idx_some e454).2.1 ?_
   refine RL.ldSx (i := (x352).toNat) (e' := y453) 5 Ex.ik Try_ln3 rfl rfl rfl rfl SlOf.imm (idx_some e454).2.2 Part.self ?_
   obtain ⟨y455, e456, h434⟩ := bind_some h434
   refine RL.idxS (sz := 1) 2 Try.underlying37 Try_ln24 rfl rfl rfl rfl rfl SlOf.own (idx_some e456).1 (idx_some e456).2.1 ?_
   refine RL.ldS (i := (y453).toNat) (r := (TR.sl TR.int)) (e' := y455) 2 Try_ln24 rfl rfl rfl rfl SlOf.own (idx_some e456).2.2 Part.self ?_
   intro v457
   refine RL.reL (L' := [imm (TR.sl (TR.pair TR.int (TR.pair (TR.sl TR.int) (TR.sl TR.int)))) v1 x1, own 3 TR.int v13 (List.set l162 ((x164).toNat) x352), own 24 (TR.sl TR.int) v19 l163, obox 36 (TR.pair TR.int (TR.pair (TR.sl TR.int) (TR.sl TR.int))) v330 y327, own 3 TR.int v451 ([] : (List Int)), imm (TR.sl TR.int) v452 y327.2.1, imm (TR.sl TR.int) v457 y455]) rfl ?_
   obtain ⟨y458, e459, h434⟩ := bind_some h434
   replace e459 := chk_some e459
   refine RL.app 4 6 Try.underlying24 Try_lo3 rfl rfl rfl rfl rfl rfl rfl SlOf.imm e459 ?_
   intro v460
   obtain ⟨y461, e462, h434⟩ := bind_some h434
   refine RL.idxS (sz := 1) 2 Try.underlying37 Try_ln24 rfl rfl rfl rfl rfl SlOf.own (idx_some e462).1 (idx_some e462).2.1 ?_
   refine RL.weak (fun a w st => st.freeze 4 rfl) ?_
   refine RL.stS (i := (x164).toNat) (e' := (([] : (List Int)) ++ y455)) (e1 := (([] : (List Int)) ++ y455)) (r := (TR.sl TR.int)) 2 Try_ln24 rfl rfl rfl rfl (VR.item 4 rfl) rfl (idx_some e462).2.2 Upd.self ?_
   refine RL.reL (L' := [imm (TR.sl (TR.pair TR.int (TR.pair (TR.sl TR.int) (TR.sl TR.int)))) v1 x1, own 3 TR.int v13 (List.set l162 ((x164).toNat) x352), own 24 (TR.sl TR.int) v19 (List.set l163 ((x164).toNat) (([] : (List Int)) ++ y455)), obox 36 (TR.pair TR.int (TR.pair (TR.sl TR.int) (TR.sl TR.int))) v330 y327, imm (TR.sl TR.int) v460 (([] : (List Int)) ++ y455), imm (TR.sl TR.int) v452 y327.2.1, imm (TR.sl TR.int) v457 y455]) rfl ?_
   refine RL.finG ?_
   refine GL.nilB ?_
   refine GL.region ?_
   refine RL.mv rfl rfl rfl ?_
   refine RL.binI (v := .int .i64 (wsub x164 (1 : Int))) rfl rfl rfl rfl rfl ?_
   refine RL.asg rfl rfl rfl ?_
   refine RL.finG ?_
   cases h434
   exact fun a w st => lop_intro (r321, (List.set l162 ((x164).toNat) x352), (List.set l163 ((x164).toNat) (([] : (List Int)) ++ y455)), wsub x164 (1 : Int)) (by exact h317) (by simp) (St.cut [0, 1, 2] ⟨rfl, rfl, rfl, rfl, trivial⟩ (by decide) rfl st)
  replace h316 := ite_f b322 h316
  cases h316
  replace h317 : some (Fl.nx _) = some y306 := h317
  cases h317
  exact GL.exit (fun a w st => mid_intro (l162, l163, x164) h309 (St.cut [1, 2] ⟨rfl, rfl, trivial⟩ (by decide) rfl st))
 rintro ⟨l162, l163, x164⟩ h463
 have h464 := h310 _ h463
 try dsimp only at h464
 refine GL.weak (env' := [(8, v13), (9, v19)]) (L' := [own 3 TR.int v13 l162, own 24 (TR.sl TR.int) v19 l163]) (fun _ _ st => st) ?_
 refine GL.seq ?_
 refine GL.region ?_
 refine RL.mv rfl rfl rfl ?_
 refine RL.mv rfl rfl rfl ?_
 refine RL.asg rfl rfl rfl ?_
 refine RL.asg rfl rfl rfl ?_
 refine RL.asg rfl rfl rfl ?_
 refine RL.finG ?_
 have h464 := Option.some.inj h464
 subst h464
 exact GL.ret (Gx.ret (v := .tuple #[v13, v19, .int .i64 (0 : Int)]) (res3 rfl rfl rfl rfl) (fun a w st => (st.pick [0, 1] (by decide) rfl).toPost (v13, v19)))

set_option maxHeartbeats 4000000 in
theorem slices_Equal_int_int_c (S : Hp) (w : World) (hS : S.sub w) (v0 : Value) (x0 : (List Int)) (k0 : ((TR.sl TR.int)).vrep S v0 x0) (v1 : Value) (x1 : (List Int)) (k1 : ((TR.sl TR.int)).vrep S v1 x1) (res : Bool) (hm : slices_Equal_int_int_m x0 x1 = some res) : Calls Try.prog 22 #[v0, v1] w (PostV w (.bool res)) := by
 refine calls_enter 26 Try.func22 Try.ntmps22 rfl S false [(0, v0), (1, v1)] [imm (TR.sl TR.int) v0 x0, imm (TR.sl TR.int) v1 x1] rfl ⟨rfl, ⟨rfl, trivial⟩⟩ hS ⟨k0, ⟨k1, trivial⟩⟩ ?_
 unfold slices_Equal_int_int_m at hm
 refine GL.seq ?_
 refine GL.region ?_
 refine RL.asg rfl rfl rfl ?_
 refine RL.finG ?_
 refine GL.seq ?_
 refine GL.seq ?_
 refine GL.region ?_
 refine RL.mv rfl rfl rfl ?_
 refine RL.lenS 0 Try.underlying24 rfl rfl rfl rfl SlOf.imm ?_
 refine RL.mv rfl rfl rfl ?_
 refine RL.lenS 1 Try.underlying24 rfl rfl rfl rfl SlOf.imm ?_
 refine RL.binI (v := .bool (((x0).length : Int) != ((x1).length : Int))) rfl rfl rfl rfl rfl ?_
 refine RL.finG ?_
 refine GL.cond rfl (fun b3 => ?_) (fun b3 => ?_)
 ·replace hm := ite_t b3 hm
  refine GL.seq ?_
  refine GL.region ?_
  refine RL.asg rfl rfl rfl ?_
  refine RL.finG ?_
  have hm := Option.some.inj hm
  subst hm
  exact GL.ret (Gx.ret (v := .bool false) (res1 rfl rfl) (fun a w st => st.toPostV))
 replace hm := ite_f b3 hm
 refine GL.skip ?_
 refine GL.seq ?_
 refine GL.seq ?_
 refine GL.region ?_
 refine RL.mv rfl rfl rfl ?_
 refine RL.lenS 0 Try.underlying24 rfl rfl rfl rfl SlOf.imm ?_
 refine RL.mv rfl rfl rfl ?_
 refine RL.finG ?_
 refine GL.open_ 0 rfl (fun S h => len_imm S h) (fun n13 => ?_)
 obtain ⟨y14, K15, h16, h17, h18, h19, h20⟩ := bindR_K hm
 refine GL.join (ι := Unit) (fun (p : Unit) => []) (fun (p : Unit) => []) (fun (p : Unit) => K15 (.nx ())) ?_ ?_
 ·refine GL.block ?_
  refine GL.loop (ι := Nat × (List Int)) (fun (p : Nat × (List Int)) => [(0, v0), (1, v1), (12, .int .i64 ((x0).length : Int)), (13, .int .i64 (p.1 : Int))]) (fun (p : Nat × (List Int)) => [imm (TR.sl TR.int) v0 x0, imm (TR.sl TR.int) v1 x1]) (fun (p : Nat × (List Int)) => p.1 + p.2.length = (x0).length ∧ List.drop p.1 x0 = p.2 ∧ rangeL (slices_Equal_int_int_b1 x1) p.2 p.1 () = some y14) (fun (p : Nat × (List Int)) => p.2.length) (0, x0) ⟨by simp, by simp, h16⟩ (fun a w st => St.cut [0, 1] ⟨rfl, rfl, rfl, rfl, trivial⟩ (by decide) rfl st) ?_
  rintro ⟨i21, r22⟩ ⟨h27, h28, h26⟩
  try dsimp only at h27 h28 h26
  refine GL.weak (env' := [(0, v0), (1, v1), (12, .int .i64 ((x0).length : Int)), (13, .int .i64 (i21 : Int))]) (L' := [imm (TR.sl TR.int) v0 x0, imm (TR.sl TR.int) v1 x1]) (fun _ _ st => st) ?_
  refine GL.seq ?_
  refine GL.region ?_
  refine RL.binI (v := .bool (decide ((i21 : Int) < ((x0).length : Int)))) rfl rfl rfl rfl rfl ?_
  refine RL.finG ?_
  refine GL.seq ?_
  refine GL.cond rfl (fun b29 => ?_) (fun b29 => ?_)
  ·have h30 : i21 < (x0).length := by have := of_decide_eq_true b29; omega
   obtain ⟨y31, r33, hr, e32, h34⟩ := drop_cons h28 rfl h30
   subst hr
   obtain ⟨z23, h24, h25⟩ := rangeL_some h26
   unfold slices_Equal_int_int_b1 at h24
   try dsimp only at h24
   refine GL.skip ?_
   refine GL.seq ?_
   refine GL.block ?_
   refine GL.seq ?_
   refine GL.region ?_
   refine RL.mv rfl rfl rfl ?_
   refine RL.asg rfl rfl rfl ?_
   refine RL.finG ?_
   refine GL.seq ?_
   refine GL.regionQ rfl rfl (by kernel_rfl) ?_
   refine RL.mv rfl rfl rfl ?_
   refine RL.mv rfl rfl rfl ?_
   refine RL.idxS (sz := 1) 0 Try.underlying24 Try_ln3 rfl rfl rfl rfl rfl SlOf.imm (by omega) (by omega) ?_
   refine RL.ldSx (i := i21) (e' := y31) 0 Ex.ik Try_ln3 rfl rfl rfl rfl SlOf.imm e32 Part.self ?_
   refine RL.mv rfl rfl rfl ?_
   refine RL.mv rfl rfl rfl ?_
   obtain ⟨y37, e38, h24⟩ := bind_some h24
   refine RL.idxS (sz := 1) 1 Try.underlying24 Try_ln3 rfl rfl rfl rfl rfl SlOf.imm (idx_some e38).1 (idx_some e38).2.1 ?_
   refine RL.ldSx (i := i21) (e' := y37) 1 Ex.ik Try_ln3 rfl rfl rfl rfl SlOf.imm (idx_some e38).2.2 Part.self ?_
   refine RL.binI (v := .bool (y31 != y37)) rfl rfl rfl rfl rfl ?_
   refine RL.finQG ?_
   refine GL.cond rfl (fun b39 => ?_) (fun b39 => ?_)
   ·replace h24 := ite_t b39 h24
    refine GL.seq ?_
    refine GL.region ?_
    refine RL.asg rfl rfl rfl ?_
    refine RL.finG ?_
    cases h24
    replace h25 : some (Fl.rt _) = some y14 := h25
    cases h25
    have hh := h19 _ h17
    subst hh
    exact GL.ret (Gx.ret (v := .bool false) (res1 rfl rfl) (fun a w st => st.toPostV))
   replace h24 := ite_f b39 h24
   refine GL.skip ?_
   refine GL.nilB ?_
   refine GL.region ?_
   refine RL.binI (v := .int .i64 ((i21 + 1 : Nat) : Int)) rfl rfl rfl rfl (binI_succ i21 (by omega)) ?_
   refine RL.mv rfl rfl rfl ?_
   refine RL.fin ?_
   cases h24
   exact fun a w st => lop_intro (i21 + 1, r33) ⟨by show i21 + 1 + r33.length = (x0).length; simp only [List.length_cons] at h27; omega, h34, h25⟩ (by simp) (St.cut [0, 1] ⟨rfl, rfl, rfl, rfl, trivial⟩ (by decide) rfl st)
  have h30 : ¬ i21 < (x0).length := by have := of_decide_eq_false b29; omega
  obtain rfl : r22 = [] := by rw [← h28]; exact List.drop_of_length_le (by omega)
  replace h26 : some (Fl.nx _) = some y14 := h26
  cases h26
  exact GL.exit (fun a w st => mid_intro () h17 (St.cut [] trivial (by decide) rfl st))
 rintro ⟨⟩ h40
 have h41 := h18 _ h40
 try dsimp only at h41
 refine GL.weak (env' := []) (L' := []) (fun _ _ st => st) ?_
 refine GL.seq ?_
 refine GL.region ?_
 refine RL.asg rfl rfl rfl ?_
 refine RL.finG ?_
 have h41 := Option.some.inj h41
 subst h41
 exact GL.ret (Gx.ret (v := .bool true) (res1 rfl rfl) (fun a w st => st.toPostV))

set_option maxHeartbeats 4000000 in
theorem pk_trees_c (S : Hp) (w : World) (hS : S.sub w)  (res : Bool) (hm : pk_trees_m = some res) : Calls Try.prog 15 #[] w (PostV w (.bool res)) := by
 refine calls_enter 35 Try.func15 Try.ntmps15 rfl S false [] [] rfl trivial hS trivial ?_
 unfold pk_trees_m at hm
 refine GL.seq ?_
 refine GL.region ?_
 refine RL.asg rfl rfl rfl ?_
 refine RL.finG ?_
 refine GL.seq ?_
 refine GL.region ?_
 refine RL.bS (t := TR.int) (vs := [.int .i64 (1 : Int), .int .i64 (2 : Int)]) ([(1 : Int), (2 : Int)] : (List Int)) Try.underlying24 Try_lo3 rfl rfl rfl rfl ⟨VR.int, ⟨VR.int, trivial⟩⟩ rfl (by decide) ?_
 intro v12
 refine RL.weak (fun a w st => st.freeze 0 rfl) ?_
 refine RL.bld (t := (TR.pair TR.int (TR.pair (TR.sl TR.int) (TR.sl TR.int)))) (d0 := (((0 : Int), ([(1 : Int), (2 : Int)] : (List Int)), ([] : (List Int))) : (Int × ((List Int) × (List Int))))) (pv := [(1, v12)]) rfl Try_bld36 rfl rfl rfl ⟨⟨_, _, (TR.sl TR.int), ([(1 : Int), (2 : Int)] : (List Int)), rfl, rfl, (VR.item 0 rfl)⟩, trivial⟩ (fun S f hi => by
   obtain ⟨c1, e1, r1⟩ := cells_vrep (t := (TR.sl TR.int)) (u := v12) (e := ([(1 : Int), (2 : Int)] : (List Int))) ((VR.item 0 rfl) S f hi)
   show TR.rep (TR.pair TR.int (TR.pair (TR.sl TR.int) (TR.sl TR.int))) S (List.flatten [[.int .i64 0], (v12 : Value).cells.toList, [.slice none 0 0]]) _
   simp only [e1,  List.flatten_cons, List.flatten_nil, List.append_nil]
   exact ⟨_, _, rfl, rfl, ⟨_, _, rfl, r1, ⟨_, [], rfl, ⟨none, 0, rfl, Nat.le_refl _, Nat.zero_le _, Or.inl ⟨rfl, rfl⟩⟩, rfl⟩⟩⟩) ?_
 intro v13
 refine RL.reL (L' := [imm (TR.sl TR.int) v12 ([(1 : Int), (2 : Int)] : (List Int)), imm (TR.pair TR.int (TR.pair (TR.sl TR.int) (TR.sl TR.int))) v13 (((0 : Int), ([(1 : Int), (2 : Int)] : (List Int)), ([] : (List Int))) : (Int × ((List Int) × (List Int))))]) rfl ?_
 refine RL.bS (t := TR.int) (vs := [.int .i64 (1 : Int)]) ([(1 : Int)] : (List Int)) Try.underlying24 Try_lo3 rfl rfl rfl rfl ⟨VR.int, trivial⟩ rfl (by decide) ?_
 intro v14
 refine RL.weak (fun a w st => st.freeze 2 rfl) ?_
 refine RL.bld (t := (TR.pair TR.int (TR.pair (TR.sl TR.int) (TR.sl TR.int)))) (d0 := (((-1 : Int), ([] : (List Int)), ([(1 : Int)] : (List Int))) : (Int × ((List Int) × (List Int))))) (pv := [(0, .int .i64 (-1 : Int)), (2, v14)]) rfl Try_bld36 rfl rfl rfl ⟨⟨_, _, TR.int, (-1 : Int), rfl, rfl, VR.int⟩, ⟨⟨_, _, (TR.sl TR.int), ([(1 : Int)] : (List Int)), rfl, rfl, (VR.item 2 rfl)⟩, trivial⟩⟩ (fun S f hi => by
   obtain ⟨c0, e0, r0⟩ := cells_vrep (t := TR.int) (u := .int .i64 (-1 : Int)) (e := (-1 : Int)) (VR.int S f hi)
   obtain ⟨c2, e2, r2⟩ := cells_vrep (t := (TR.sl TR.int)) (u := v14) (e := ([(1 : Int)] : (List Int))) ((VR.item 2 rfl) S f hi)
   show TR.rep (TR.pair TR.int (TR.pair (TR.sl TR.int) (TR.sl TR.int))) S (List.flatten [(.int .i64 (-1 : Int) : Value).cells.toList, [.slice none 0 0], (v14 : Value).cells.toList]) _
   simp only [e0, e2,  List.flatten_cons, List.flatten_nil, List.append_nil]
   exact ⟨_, _, rfl, r0, ⟨_, _, rfl, ⟨_, [], rfl, ⟨none, 0, rfl, Nat.le_refl _, Nat.zero_le _, Or.inl ⟨rfl, rfl⟩⟩, rfl⟩, r2⟩⟩) ?_
 intro v15
 refine RL.reL (L' := [imm (TR.sl TR.int) v12 ([(1 : Int), (2 : Int)] : (List Int)), imm (TR.pair TR.int (TR.pair (TR.sl TR.int) (TR.sl TR.int))) v13 (((0 : Int), ([(1 : Int), (2 : Int)] : (List Int)), ([] : (List Int))) : (Int × ((List Int) × (List Int)))), imm (TR.sl TR.int) v14 ([(1 : Int)] : (List Int)), imm (TR.pair TR.int (TR.pair (TR.sl TR.int) (TR.sl TR.int))) v15 (((-1 : Int), ([] : (List Int)), ([(1 : Int)] : (List Int))) : (Int × ((List Int) × (List Int))))]) rfl ?_
 refine RL.bS (t := TR.int) (vs := [.int .i64 (2 : Int)]) ([(2 : Int)] : (List Int)) Try.underlying24 Try_lo3 rfl rfl rfl rfl ⟨VR.int, trivial⟩ rfl (by decide) ?_
 intro v16
 refine RL.weak (fun a w st => st.freeze 4 rfl) ?_
 refine RL.bld (t := (TR.pair TR.int (TR.pair (TR.sl TR.int) (TR.sl TR.int)))) (d0 := (((-1 : Int), ([] : (List Int)), ([(2 : Int)] : (List Int))) : (Int × ((List Int) × (List Int))))) (pv := [(0, .int .i64 (-1 : Int)), (2, v16)]) rfl Try_bld36 rfl rfl rfl ⟨⟨_, _, TR.int, (-1 : Int), rfl, rfl, VR.int⟩, ⟨⟨_, _, (TR.sl TR.int), ([(2 : Int)] : (List Int)), rfl, rfl, (VR.item 4 rfl)⟩, trivial⟩⟩ (fun S f hi => by
   obtain ⟨c0, e0, r0⟩ := cells_vrep (t := TR.int) (u := .int .i64 (-1 : Int)) (e := (-1 : Int)) (VR.int S f hi)
   obtain ⟨c2, e2, r2⟩ := cells_vrep (t := (TR.sl TR.int)) (u := v16) (e := ([(2 : Int)] : (List Int))) ((VR.item 4 rfl) S f hi)
   show TR.rep (TR.pair TR.int (TR.pair (TR.sl TR.int) (TR.sl TR.int))) S (List.flatten [(.int .i64 (-1 : Int) : Value).cells.toList, [.slice none 0 0], (v16 : Value).cells.toList]) _
   simp only [e0, e2,  List.flatten_cons, List.flatten_nil, List.append_nil]
   exact ⟨_, _, rfl, r0, ⟨_, _, rfl, ⟨_, [], rfl, ⟨none, 0, rfl, Nat.le_refl _, Nat.zero_le _, Or.inl ⟨rfl, rfl⟩⟩, rfl⟩, r2⟩⟩) ?_
 intro v17
 refine RL.reL (L' := [imm (TR.sl TR.int) v12 ([(1 : Int), (2 : Int)] : (List Int)), imm (TR.pair TR.int (TR.pair (TR.sl TR.int) (TR.sl TR.int))) v13 (((0 : Int), ([(1 : Int), (2 : Int)] : (List Int)), ([] : (List Int))) : (Int × ((List Int) × (List Int)))), imm (TR.sl TR.int) v14 ([(1 : Int)] : (List Int)), imm (TR.pair TR.int (TR.pair (TR.sl TR.int) (TR.sl TR.int))) v15 (((-1 : Int), ([] : (List Int)), ([(1 : Int)] : (List Int))) : (Int × ((List Int) × (List Int)))), imm (TR.sl TR.int) v16 ([(2 : Int)] : (List Int)), imm (TR.pair TR.int (TR.pair (TR.sl TR.int) (TR.sl TR.int))) v17 (((-1 : Int), ([] : (List Int)), ([(2 : Int)] : (List Int))) : (Int × ((List Int) × (List Int))))]) rfl ?_
 refine RL.bS (t := (TR.pair TR.int (TR.pair (TR.sl TR.int) (TR.sl TR.int)))) (vs := [v13, v15, v17]) ([(((0 : Int), ([(1 : Int), (2 : Int)] : (List Int)), ([] : (List Int))) : (Int × ((List Int) × (List Int)))), (((-1 : Int), ([] : (List Int)), ([(1 : Int)] : (List Int))) : (Int × ((List Int) × (List Int)))), (((-1 : Int), ([] : (List Int)), ([(2 : Int)] : (List Int))) : (Int × ((List Int) × (List Int))))] : (List (Int × ((List Int) × (List Int))))) Try.underlying33 Try_lo36 rfl rfl rfl rfl ⟨(VR.item 1 rfl), ⟨(VR.item 3 rfl), ⟨(VR.item 5 rfl), trivial⟩⟩⟩ rfl (by decide) ?_
 intro v18
 refine RL.weak (fun a w st => st.freeze 6 rfl) ?_
 obtain ⟨y19, e20, hm⟩ := bind_some hm
 refine RL.call (vs := [.int .i64 (1 : Int), v18]) Try_fit17 rfl rfl rfl rfl rfl (fun S f w hS hW hi => tree_Solve_c S w hS (1 : Int) _ _ (hi 6 _ rfl) _ e20) ?_
 intro ⟨v21, v22⟩
 refine RL.reL (L' := [imm (TR.sl TR.int) v12 ([(1 : Int), (2 : Int)] : (List Int)), imm (TR.pair TR.int (TR.pair (TR.sl TR.int) (TR.sl TR.int))) v13 (((0 : Int), ([(1 : Int), (2 : Int)] : (List Int)), ([] : (List Int))) : (Int × ((List Int) × (List Int)))), imm (TR.sl TR.int) v14 ([(1 : Int)] : (List Int)), imm (TR.pair TR.int (TR.pair (TR.sl TR.int) (TR.sl TR.int))) v15 (((-1 : Int), ([] : (List Int)), ([(1 : Int)] : (List Int))) : (Int × ((List Int) × (List Int)))), imm (TR.sl TR.int) v16 ([(2 : Int)] : (List Int)), imm (TR.pair TR.int (TR.pair (TR.sl TR.int) (TR.sl TR.int))) v17 (((-1 : Int), ([] : (List Int)), ([(2 : Int)] : (List Int))) : (Int × ((List Int) × (List Int)))), imm (TR.sl (TR.pair TR.int (TR.pair (TR.sl TR.int) (TR.sl TR.int)))) v18 ([(((0 : Int), ([(1 : Int), (2 : Int)] : (List Int)), ([] : (List Int))) : (Int × ((List Int) × (List Int)))), (((-1 : Int), ([] : (List Int)), ([(1 : Int)] : (List Int))) : (Int × ((List Int) × (List Int)))), (((-1 : Int), ([] : (List Int)), ([(2 : Int)] : (List Int))) : (Int × ((List Int) × (List Int))))] : (List (Int × ((List Int) × (List Int))))), own 3 TR.int v21 y19.1, own 24 (TR.sl TR.int) v22 y19.2.1]) rfl ?_
 refine RL.mv rfl rfl rfl ?_
 refine RL.ext rfl rfl rfl rfl ?_
 refine RL.ext rfl rfl rfl rfl ?_
 refine RL.ext rfl rfl rfl rfl ?_
 refine RL.asg rfl rfl rfl ?_
 refine RL.asg rfl rfl rfl ?_
 refine RL.asg rfl rfl rfl ?_
 refine RL.finG ?_
 refine GL.seq ?_
 obtain ⟨y48, K49, h50, h51, h52, h53, h54⟩ := bindR_K hm
 refine GL.join (ι := Bool) (fun (p : Bool) => [(0, .bool p)]) (fun (p : Bool) => []) (fun (p : Bool) => K49 (.nx p)) ?_ ?_
 ·skip
  refine GL.region ?_
  refine RL.mv rfl rfl rfl ?_
  refine RL.binI (v := .bool (y19.2.2 == (0 : Int))) rfl rfl rfl rfl rfl ?_
  refine RL.mv rfl rfl rfl ?_
  refine RL.split (t := 18) rfl (fun b55 => ?_) (fun b55 => ?_)
  ·replace h50 := ite_t b55 h50
   refine RL.mv rfl rfl rfl ?_
   refine RL.bS (t := TR.int) (vs := [.int .i64 (1 : Int), .int .i64 (-1 : Int), .int .i64 (-1 : Int)]) ([(1 : Int), (-1 : Int), (-1 : Int)] : (List Int)) Try.underlying24 Try_lo3 rfl rfl rfl rfl ⟨VR.int, ⟨VR.int, ⟨VR.int, trivial⟩⟩⟩ rfl (by decide) ?_
   intro v56
   obtain ⟨y57, e58, h50⟩ := bind_some h50
   refine RL.callV (v := .bool y57) (vs := [v21, v56]) Try_fit22 rfl (Or.inl rfl) rfl rfl rfl rfl (fun U w hU hW hL => slices_Equal_int_int_c U w hU _ _ (hL 7 _ _ rfl Seen.own) _ _ (hL 9 _ _ rfl Seen.own) _ e58) ?_
   refine RL.pickT rfl rfl rfl rfl ?_
   refine RL.mv rfl rfl rfl ?_
   refine RL.split (t := 23) rfl (fun b59 => ?_) (fun b59 => ?_)
   ·replace h50 := ite_t b59 h50
    refine RL.mv rfl rfl rfl ?_
    refine RL.lenS 8 Try.underlying37 rfl rfl rfl rfl SlOf.own ?_
    refine RL.binI (v := .bool (((y19.2.1).length : Int) == (3 : Int))) rfl rfl rfl rfl rfl ?_
    refine RL.pickT rfl rfl rfl rfl ?_
    refine RL.mv rfl rfl rfl ?_
    refine RL.split (t := 28) rfl (fun b60 => ?_) (fun b60 => ?_)
    ·replace h50 := ite_t b60 h50
     refine RL.mv rfl rfl rfl ?_
     obtain ⟨y61, e62, h50⟩ := bind_some h50
     refine RL.idxS (sz := 1) 8 Try.underlying37 Try_ln24 rfl rfl rfl rfl rfl SlOf.own (idx_some e62).1 (idx_some e62).2.1 ?_
     refine RL.ldS (i := ((0 : Int)).toNat) (r := (TR.sl TR.int)) (e' := y61) 8 Try_ln24 rfl rfl rfl rfl SlOf.own (idx_some e62).2.2 Part.self ?_
     intro v63
     refine RL.reL (L' := [imm (TR.sl TR.int) v12 ([(1 : Int), (2 : Int)] : (List Int)), imm (TR.pair TR.int (TR.pair (TR.sl TR.int) (TR.sl TR.int))) v13 (((0 : Int), ([(1 : Int), (2 : Int)] : (List Int)), ([] : (List Int))) : (Int × ((List Int) × (List Int)))), imm (TR.sl TR.int) v14 ([(1 : Int)] : (List Int)), imm (TR.pair TR.int (TR.pair (TR.sl TR.int) (TR.sl TR.int))) v15 (((-1 : Int), ([] : (List Int)), ([(1 : Int)] : (List Int))) : (Int × ((List Int) × (List Int)))), imm (TR.sl TR.int) v16 ([(2 : Int)] : (List Int)), imm (TR.pair TR.int (TR.pair (TR.sl TR.int) (TR.sl TR.int))) v17 (((-1 : Int), ([] : (List Int)), ([(2 : Int)] : (List Int))) : (Int × ((List Int) × (List Int)))), imm (TR.sl (TR.pair TR.int (TR.pair (TR.sl TR.int) (TR.sl TR.int)))) v18 ([(((0 : Int), ([(1 : Int), (2 : Int)] : (List Int)), ([] : (List Int))) : (Int × ((List Int) × (List Int)))), (((-1 : Int), ([] : (List Int)), ([(1 : Int)] : (List Int))) : (Int × ((List Int) × (List Int)))), (((-1 : Int), ([] : (List Int)), ([(2 : Int)] : (List Int))) : (Int × ((List Int) × (List Int))))] : (List (Int × ((List Int) × (List Int))))), own 3 TR.int v21 y19.1, own 24 (TR.sl TR.int) v22 y19.2.1, own 3 TR.int v56 ([(1 : Int), (-1 : Int), (-1 : Int)] : (List Int)), imm (TR.sl TR.int) v63 y61]) rfl ?_
     refine RL.bS (t := TR.int) (vs := [.int .i64 (2 : Int)]) ([(2 : Int)] : (List Int)) Try.underlying24 Try_lo3 rfl rfl rfl rfl ⟨VR.int, trivial⟩ rfl (by decide) ?_
     intro v64
     obtain ⟨y65, e66, h50⟩ := bind_some h50
     refine RL.callV (v := .bool y65) (vs := [v63, v64]) Try_fit22 rfl (Or.inl rfl) rfl rfl rfl rfl (fun U w hU hW hL => slices_Equal_int_int_c U w hU _ _ (hL 10 _ _ rfl Seen.imm) _ _ (hL 11 _ _ rfl Seen.own) _ e66) ?_
     refine RL.pickT rfl rfl rfl rfl ?_
     refine RL.asg rfl rfl rfl ?_
     refine RL.fin ?_
     cases h50
     exact fun a w st => mid_intro y65 h51 (St.cut [] ⟨rfl, trivial⟩ (by decide) rfl st)
    replace h50 := ite_f b60 h50
    refine RL.skip rfl rfl ?_
    refine RL.skip rfl rfl ?_
    refine RL.skip rfl rfl ?_
    refine RL.skip rfl rfl ?_
    refine RL.skip rfl rfl ?_
    refine RL.pickF rfl rfl rfl rfl ?_
    refine RL.asg rfl rfl rfl ?_
    refine RL.fin ?_
    cases h50
    exact fun a w st => mid_intro false h51 (St.cut [] ⟨rfl, trivial⟩ (by decide) rfl st)
   replace h50 := ite_f b59 h50
   refine RL.skip rfl rfl ?_
   refine RL.skip rfl rfl ?_
   refine RL.skip rfl rfl ?_
   refine RL.pickF rfl rfl rfl rfl ?_
   refine RL.mv rfl rfl rfl ?_
   refine RL.skip rfl rfl ?_
   refine RL.skip rfl rfl ?_
   refine RL.skip rfl rfl ?_
   refine RL.skip rfl rfl ?_
   refine RL.skip rfl rfl ?_
   refine RL.pickF rfl rfl rfl rfl ?_
   refine RL.asg rfl rfl rfl ?_
   refine RL.fin ?_
   cases h50
   exact fun a w st => mid_intro false h51 (St.cut [] ⟨rfl, trivial⟩ (by decide) rfl st)
  replace h50 := ite_f b55 h50
  refine RL.skip rfl rfl ?_
  refine RL.skip rfl rfl ?_
  refine RL.skip rfl rfl ?_
  refine RL.pickF rfl rfl rfl rfl ?_
  refine RL.mv rfl rfl rfl ?_
  refine RL.skip rfl rfl ?_
  refine RL.skip rfl rfl ?_
  refine RL.skip rfl rfl ?_
  refine RL.pickF rfl rfl rfl rfl ?_
  refine RL.mv rfl rfl rfl ?_
  refine RL.skip rfl rfl ?_
  refine RL.skip rfl rfl ?_
  refine RL.skip rfl rfl ?_
  refine RL.skip rfl rfl ?_
  refine RL.skip rfl rfl ?_
  refine RL.pickF rfl rfl rfl rfl ?_
  refine RL.asg rfl rfl rfl ?_
  refine RL.fin ?_
  cases h50
  exact fun a w st => mid_intro false h51 (St.cut [] ⟨rfl, trivial⟩ (by decide) rfl st)
 rintro x47 h67
 have h68 := h52 _ h67
 try dsimp only at h68
 refine GL.weak (env' := [(0, .bool x47)]) (L' := []) (fun _ _ st => st) ?_
 have h68 := Option.some.inj h68
 subst h68
 exact GL.ret (Gx.ret (v := .bool x47) (res1 rfl rfl) (fun a w st => st.toPostV))

set_option maxHeartbeats 4000000 in
theorem slices_Clone_api_Node_api_Node_c (S : Hp) (w : World) (hS : S.sub w) (v0 : Value) (x0 : List (Int × ((List Int) × (List Int)))) (k0 : (TR.sl (TR.pair TR.int (TR.pair (TR.sl TR.int) (TR.sl TR.int)))).vrep S v0 x0) (res : List (Int × ((List Int) × (List Int)))) (hm : slices_Clone_api_Node_api_Node_m x0 = some res) : Calls Try.prog 16 #[v0] w (Post w S (fun (o : Value) => o) (fun (o : Value) => [own 36 (TR.pair TR.int (TR.pair (TR.sl TR.int) (TR.sl TR.int))) o res])) := by
  refine calls_enter 8 Try.func16 Try.ntmps16 rfl S false [(0, v0)] [imm (TR.sl (TR.pair TR.int (TR.pair (TR.sl TR.int) (TR.sl TR.int)))) v0 x0] rfl ⟨rfl, trivial⟩ hS ⟨k0, trivial⟩ ?_
  unfold slices_Clone_api_Node_api_Node_m at hm
  obtain ⟨_, hc, hm⟩ := bind_some hm
  replace hc := chk_some hc
  have hm := Option.some.inj hm
  subst hm
  refine GL.seq (GL.region (RL.asg rfl rfl rfl (RL.finG (GL.seq (GL.seq (GL.region ?_))))))
  refine RL.mv rfl rfl rfl ?_
  refine RL.eqNil 0 Try.underlying33 rfl rfl rfl rfl rfl SlOf.imm (fun b hb => ?_)
  refine RL.finG (GL.cond rfl (fun h => ?_) (fun h => ?_))
  · have := hb h
    subst this
    refine GL.seq (GL.region (RL.asg rfl rfl rfl (RL.finG ?_)))
    refine GL.weak (fun a w st => st.nilOwn 36 (TR.pair TR.int (TR.pair (TR.sl TR.int) (TR.sl TR.int)))) ?_
    exact GL.ret (Gx.ret (v := Value.slice none 0 0) (res1 rfl rfl) (fun a w st => (st.pick [1] (by decide) rfl).toPost (Value.slice none 0 0)))
  · refine GL.skip (GL.seq (GL.region ?_))
    refine RL.bS (t := (TR.pair TR.int (TR.pair (TR.sl TR.int) (TR.sl TR.int)))) (vs := []) ([] : List (Int × ((List Int) × (List Int)))) Try.underlying33 Try_lo36 rfl rfl rfl rfl trivial rfl (by decide) ?_
    intro v1
    refine RL.mv rfl rfl rfl ?_
    refine RL.appB 1 0 Try.underlying33 Try_lo36 rfl rfl rfl rfl rfl rfl rfl SlOf.imm (RoomN.of (N := 2513169434916) Try_info36 (by decide) (by decide)) (by simpa using hc) ?_
    intro v2
    refine RL.asg rfl rfl rfl (RL.finG ?_)
    exact GL.ret (Gx.ret (v := v2) (res1 rfl rfl) (fun a w st => (st.pick [1] (by decide) rfl).toPost v2))

set_option maxHeartbeats 4000000 in
theorem slices_Clone_int_int_c (S : Hp) (w : World) (hS : S.sub w) (v0 : Value) (x0 : List Int) (k0 : (TR.sl TR.int).vrep S v0 x0) (res : List Int) (hm : slices_Clone_int_int_m x0 = some res) : Calls Try.prog 18 #[v0] w (Post w S (fun (o : Value) => o) (fun (o : Value) => [own 3 TR.int o res])) := by
  refine calls_enter 8 Try.func18 Try.ntmps18 rfl S false [(0, v0)] [imm (TR.sl TR.int) v0 x0] rfl ⟨rfl, trivial⟩ hS ⟨k0, trivial⟩ ?_
  unfold slices_Clone_int_int_m at hm
  obtain ⟨_, hc, hm⟩ := bind_some hm
  replace hc := chk_some hc
  have hm := Option.some.inj hm
  subst hm
  refine GL.seq (GL.region (RL.asg rfl rfl rfl (RL.finG (GL.seq (GL.seq (GL.region ?_))))))
  refine RL.mv rfl rfl rfl ?_
  refine RL.eqNil 0 Try.underlying24 rfl rfl rfl rfl rfl SlOf.imm (fun b hb => ?_)
  refine RL.finG (GL.cond rfl (fun h => ?_) (fun h => ?_))
  · have := hb h
    subst this
    refine GL.seq (GL.region (RL.asg rfl rfl rfl (RL.finG ?_)))
    refine GL.weak (fun a w st => st.nilOwn 3 TR.int) ?_
    exact GL.ret (Gx.ret (v := Value.slice none 0 0) (res1 rfl rfl) (fun a w st => (st.pick [1] (by decide) rfl).toPost (Value.slice none 0 0)))
  · refine GL.skip (GL.seq (GL.region ?_))
    refine RL.bS (t := TR.int) (vs := []) ([] : List Int) Try.underlying24 Try_lo3 rfl rfl rfl rfl trivial rfl (by decide) ?_
    intro v1
    refine RL.mv rfl rfl rfl ?_
    refine RL.appB 1 0 Try.underlying24 Try_lo3 rfl rfl rfl rfl rfl rfl rfl SlOf.imm (RoomN.of (N := 17592186044416) Try_info3 (by decide) (by decide)) (by simpa using hc) ?_
    intro v2
    refine RL.asg rfl rfl rfl (RL.finG ?_)
    exact GL.ret (Gx.ret (v := v2) (res1 rfl rfl) (fun a w st => (st.pick [1] (by decide) rfl).toPost v2))

set_option maxHeartbeats 4000000 in
theorem ref_Rest_c (S : Hp) (w : World) (hS : S.sub w) (x0 : Int) (x1 : Int) (res : Int) (hm : ref_Rest_m x0 x1 = some res) : Calls Try.prog 80 #[.int .i64 x0, .int .i64 x1] w (PostC w (.int .i64 res)) := by
 refine calls_enter 14 Try.func80 Try.ntmps80 rfl S true [(0, .int .i64 x0), (1, .int .i64 x1)] [] rfl ⟨rfl, ⟨rfl, trivial⟩⟩ hS trivial ?_
 unfold ref_Rest_m at hm
 refine GL.seq ?_
 refine GL.region ?_
 refine RL.asg rfl rfl rfl ?_
 refine RL.finG ?_
 refine GL.seq ?_
 refine GL.region ?_
 refine RL.mv rfl rfl rfl ?_
 refine RL.mv rfl rfl rfl ?_
 obtain ⟨y5, e6, hm⟩ := bind_some hm
 replace e6 := chk_some e6
 refine RL.rem rfl rfl rfl rfl e6 ?_
 refine RL.asg rfl rfl rfl ?_
 refine RL.finG ?_
 refine GL.seq ?_
 refine GL.seq ?_
 refine GL.region ?_
 refine RL.mv rfl rfl rfl ?_
 refine RL.binI (v := .bool (decide ((Int.tmod x0 x1) < (0 : Int)))) rfl rfl rfl rfl rfl ?_
 refine RL.finG ?_
 obtain ⟨y9, K10, h11, h12, h13, h14, h15⟩ := bindR_K hm
 refine GL.join (ι := Int) (fun (p : Int) => [(0, .int .i64 p)]) (fun (p : Int) => []) (fun (p : Int) => K10 (.nx p)) ?_ ?_
 ·skip
  refine GL.cond rfl (fun b16 => ?_) (fun b16 => ?_)
  ·replace h11 := ite_t b16 h11
   refine GL.region ?_
   refine RL.mv rfl rfl rfl ?_
   refine RL.mv rfl rfl rfl ?_
   refine RL.binI (v := .int .i64 (wadd (Int.tmod x0 x1) x1)) rfl rfl rfl rfl rfl ?_
   refine RL.asg rfl rfl rfl ?_
   refine RL.finG ?_
   cases h11
   exact fun a w st => mid_intro (wadd (Int.tmod x0 x1) x1) h12 (St.cut [] ⟨rfl, trivial⟩ (by decide) rfl st)
  replace h11 := ite_f b16 h11
  refine GL.skip ?_
  cases h11
  exact fun a w st => mid_intro (Int.tmod x0 x1) h12 (St.cut [] ⟨rfl, trivial⟩ (by decide) rfl st)
 rintro x8 h17
 have h18 := h13 _ h17
 try dsimp only at h18
 refine GL.weak (env' := [(0, .int .i64 x8)]) (L' := []) (fun _ _ st => st) ?_
 refine GL.seq ?_
 refine GL.region ?_
 refine RL.mv rfl rfl rfl ?_
 refine RL.asg rfl rfl rfl ?_
 refine RL.finG ?_
 have h18 := Option.some.inj h18
 subst h18
 exact GL.ret (Gx.ret (v := .int .i64 x8) (res1 rfl rfl) (fun a w st => st.toPostC rfl))

set_option maxHeartbeats 4000000 in
theorem pk_Within_c (S : Hp) (w : World) (hS : S.sub w) (x0 : Int) (x1 : Int) (res : Int) (hm : pk_Within_m x0 x1 = some res) : Calls Try.prog 12 #[.int .i64 x0, .int .i64 x1] w (PostC w (.int .i64 res)) := by
 refine calls_enter 8 Try.func12 Try.ntmps12 rfl S true [(0, .int .i64 x0), (1, .int .i64 x1)] [] rfl ⟨rfl, ⟨rfl, trivial⟩⟩ hS trivial ?_
 unfold pk_Within_m at hm
 refine GL.seq ?_
 refine GL.region ?_
 refine RL.asg rfl rfl rfl ?_
 refine RL.finG ?_
 refine GL.seq ?_
 refine GL.region ?_
 refine RL.mv rfl rfl rfl ?_
 refine RL.mv rfl rfl rfl ?_
 obtain ⟨y5, e6, hm⟩ := bind_some hm
 refine RL.callC (v := .int .i64 y5) (vs := [.int .i64 x0, .int .i64 x1]) Try_fit80 rfl rfl rfl rfl (fun U w hU hW hL => ref_Rest_c U w hU x0 x1 _ e6) ?_
 refine RL.asg rfl rfl rfl ?_
 refine RL.finG ?_
 have hm := Option.some.inj hm
 subst hm
 exact GL.ret (Gx.ret (v := .int .i64 y5) (res1 rfl rfl) (fun a w st => st.toPostC rfl))

set_option maxHeartbeats 4000000 in
theorem tree_Play_c (S : Hp) (w : World) (hS : S.sub w) (x0 : Int) (v1 : Value) (x1 : (List (Int × ((List Int) × (List Int))))) (k1 : ((TR.sl (TR.pair TR.int (TR.pair (TR.sl TR.int) (TR.sl TR.int))))).vrep S v1 x1) (v2 : Value) (x2 : (List Int)) (k2 : ((TR.sl TR.int)).vrep S v2 x2) (res : (List Int) × (List Int) × Int) (hm : tree_Play_m x0 x1 x2 = some res) : Calls Try.prog 19 #[.int .i64 x0, v1, v2] w (Post w S (fun (o : Value × Value) => .tuple #[o.1, o.2, .int .i64 res.2.2]) (fun (o : Value × Value) => [own 3 TR.int o.1 res.1, own 3 TR.int o.2 res.2.1])) := by
 refine calls_enter 67 Try.func19 Try.ntmps19 rfl S false [(0, .int .i64 x0), (1, v1), (2, v2)] [imm (TR.sl (TR.pair TR.int (TR.pair (TR.sl TR.int) (TR.sl TR.int)))) v1 x1, imm (TR.sl TR.int) v2 x2] rfl ⟨rfl, ⟨rfl, ⟨rfl, trivial⟩⟩⟩ hS ⟨k1, ⟨k2, trivial⟩⟩ ?_
 unfold tree_Play_m at hm
 refine GL.seq ?_
 refine GL.region ?_
 refine RL.asg rfl rfl rfl ?_
 refine RL.asg rfl rfl rfl ?_
 refine RL.asg rfl rfl rfl ?_
 refine RL.finG ?_
 refine GL.seq ?_
 refine GL.seq ?_
 refine GL.region ?_
 refine RL.mv rfl rfl rfl ?_
 refine RL.mv rfl rfl rfl ?_
 obtain ⟨y6, e7, hm⟩ := bind_some hm
 refine RL.callV (v := .int .i64 y6) (vs := [.int .i64 x0, v1]) Try_fit81 rfl (Or.inl rfl) rfl rfl rfl rfl (fun U w hU hW hL => tree_Check_c U w hU x0 _ _ (hL 0 _ _ rfl Seen.imm) _ e7) ?_
 refine RL.asg rfl rfl rfl ?_
 refine RL.finG ?_
 refine GL.seq ?_
 refine GL.region ?_
 refine RL.mv rfl rfl rfl ?_
 refine RL.binI (v := .bool (y6 != (0 : Int))) rfl rfl rfl rfl rfl ?_
 refine RL.finG ?_
 refine GL.cond rfl (fun b8 => ?_) (fun b8 => ?_)
 ·replace hm := ite_t b8 hm
  refine GL.seq ?_
  refine GL.region ?_
  refine RL.mv rfl rfl rfl ?_
  refine RL.asg rfl rfl rfl ?_
  refine RL.asg rfl rfl rfl ?_
  refine RL.asg rfl rfl rfl ?_
  refine RL.finG ?_
  refine GL.weak (fun a w st => st.nilOwn 3 TR.int) ?_
  refine GL.weak (fun a w st => st.nilOwn 3 TR.int) ?_
  have hm := Option.some.inj hm
  subst hm
  exact GL.ret (Gx.ret (v := .tuple #[Value.slice none 0 0, Value.slice none 0 0, .int .i64 y6]) (res3 rfl rfl rfl rfl) (fun a w st => (st.pick [2, 3] (by decide) rfl).toPost (Value.slice none 0 0, Value.slice none 0 0)))
 replace hm := ite_f b8 hm
 refine GL.skip ?_
 refine GL.seq ?_
 refine GL.seq ?_
 refine GL.region ?_
 refine RL.mv rfl rfl rfl ?_
 refine RL.lenS 1 Try.underlying24 rfl rfl rfl rfl SlOf.imm ?_
 refine RL.mv rfl rfl rfl ?_
 refine RL.lenS 0 Try.underlying33 rfl rfl rfl rfl SlOf.imm ?_
 refine RL.binI (v := .bool (((x2).length : Int) != ((x1).length : Int))) rfl rfl rfl rfl rfl ?_
 refine RL.finG ?_
 refine GL.cond rfl (fun b9 => ?_) (fun b9 => ?_)
 ·replace hm := ite_t b9 hm
  refine GL.seq ?_
  refine GL.region ?_
  refine RL.asg rfl rfl rfl ?_
  refine RL.asg rfl rfl rfl ?_
  refine RL.asg rfl rfl rfl ?_
  refine RL.finG ?_
  refine GL.weak (fun a w st => st.nilOwn 3 TR.int) ?_
  refine GL.weak (fun a w st => st.nilOwn 3 TR.int) ?_
  have hm := Option.some.inj hm
  subst hm
  exact GL.ret (Gx.ret (v := .tuple #[Value.slice none 0 0, Value.slice none 0 0, .int .i64 (3 : Int)]) (res3 rfl rfl rfl rfl) (fun a w st => (st.pick [2, 3] (by decide) rfl).toPost (Value.slice none 0 0, Value.slice none 0 0)))
 replace hm := ite_f b9 hm
 refine GL.skip ?_
 refine GL.seq ?_
 refine GL.region ?_
 refine RL.asg rfl rfl rfl ?_
 refine RL.finG ?_
 refine GL.seq ?_
 refine GL.region ?_
 refine RL.bS (t := TR.int) (vs := [.int .i64 (0 : Int)]) ([(0 : Int)] : (List Int)) Try.underlying24 Try_lo3 rfl rfl rfl rfl ⟨VR.int, trivial⟩ rfl (by decide) ?_
 intro v11
 refine RL.asg rfl rfl rfl ?_
 refine RL.finG ?_
 refine GL.seq ?_
 obtain ⟨y65, K66, h67, h68, h69, h70, h71⟩ := bindR_K hm
 refine GL.join (ι := Int × (List Int) × Value) (fun (p : Int × (List Int) × Value) => [(1, v1), (10, .int .i64 p.1), (11, p.2.2)]) (fun (p : Int × (List Int) × Value) => [imm (TR.sl (TR.pair TR.int (TR.pair (TR.sl TR.int) (TR.sl TR.int)))) v1 x1, own 3 TR.int p.2.2 p.2.1]) (fun (p : Int × (List Int) × Value) => K66 (.nx (p.1, p.2.1))) ?_ ?_
 ·refine GL.block ?_
  refine GL.loop (ι := Nat × Int × (List Int) × Value) (fun (p : Nat × Int × (List Int) × Value) => [(1, v1), (2, v2), (10, .int .i64 p.2.1), (11, p.2.2.2)]) (fun (p : Nat × Int × (List Int) × Value) => [imm (TR.sl (TR.pair TR.int (TR.pair (TR.sl TR.int) (TR.sl TR.int)))) v1 x1, imm (TR.sl TR.int) v2 x2, own 3 TR.int p.2.2.2 p.2.2.1]) (fun (p : Nat × Int × (List Int) × Value) => loopM (tree_Play_b1 x1 x2) p.1 (p.2.1, p.2.2.1) = some y65) (fun (p : Nat × Int × (List Int) × Value) => p.1) (1048576, (0 : Int), ([(0 : Int)] : (List Int)), v11) h67 (fun a w st => St.cut [0, 1, 2] ⟨rfl, rfl, rfl, rfl, trivial⟩ (by decide) rfl st) ?_
  rintro ⟨r73, x12, l13, v14⟩ h77
  try dsimp only at h77
  refine GL.weak (env' := [(1, v1), (2, v2), (10, .int .i64 x12), (11, v14)]) (L' := [imm (TR.sl (TR.pair TR.int (TR.pair (TR.sl TR.int) (TR.sl TR.int)))) v1 x1, imm (TR.sl TR.int) v2 x2, own 3 TR.int v14 l13]) (fun _ _ st => st) ?_
  obtain ⟨r80, z74, hr, h75, h76⟩ := loopM_some h77
  subst hr
  unfold tree_Play_b1 at h75
  try dsimp only at h75
  refine GL.seq ?_
  refine GL.seq ?_
  refine GL.region ?_
  refine RL.mv rfl rfl rfl ?_
  refine RL.mv rfl rfl rfl ?_
  obtain ⟨y83, e84, h75⟩ := bind_some h75
  refine RL.idxS (sz := 3) 0 Try.underlying33 Try_ln36 rfl rfl rfl rfl rfl SlOf.imm (idx_some e84).1 (idx_some e84).2.1 ?_
  refine RL.fadrS (off := ((x12).toNat * 3)) (fo := 0) 0 Try_fld36_0 rfl rfl rfl SlOf.imm (by have := (List.getElem?_eq_some_iff.1 (idx_some e84).2.2).1; (try dsimp only at this ⊢); omega) rfl ?_
  refine RL.ldSx (i := (x12).toNat) (e' := y83.1) 0 Ex.ik Try_ln3 rfl rfl rfl rfl SlOf.imm (idx_some e84).2.2 (Part.fst Part.self) ?_
  refine RL.binI (v := .bool (decide (y83.1 ≥ (0 : Int)))) rfl rfl rfl rfl rfl ?_
  refine RL.finG ?_
  refine GL.cond rfl (fun b85 => ?_) (fun b85 => ?_)
  ·replace h75 := ite_t b85 h75
   refine GL.skip ?_
   refine GL.block ?_
   refine GL.seq ?_
   refine GL.region ?_
   refine RL.mv rfl rfl rfl ?_
   refine RL.mv rfl rfl rfl ?_
   obtain ⟨y88, e89, h75⟩ := bind_some h75
   refine RL.idxS (sz := 1) 1 Try.underlying24 Try_ln3 rfl rfl rfl rfl rfl SlOf.imm (idx_some e89).1 (idx_some e89).2.1 ?_
   refine RL.ldSx (i := (x12).toNat) (e' := y88) 1 Ex.ik Try_ln3 rfl rfl rfl rfl SlOf.imm (idx_some e89).2.2 Part.self ?_
   refine RL.asg rfl rfl rfl ?_
   refine RL.finG ?_
   refine GL.seq ?_
   refine GL.seq ?_
   obtain ⟨y99, K100, h101, h102, h103, h104, h105⟩ := bindF_K h75
   refine GL.join (ι := Bool) (fun (p : Bool) => [(1, v1), (2, v2), (10, .int .i64 x12), (11, v14), (12, .int .i64 y88), (46, .bool p)]) (fun (p : Bool) => [imm (TR.sl (TR.pair TR.int (TR.pair (TR.sl TR.int) (TR.sl TR.int)))) v1 x1, imm (TR.sl TR.int) v2 x2, own 3 TR.int v14 l13]) (fun (p : Bool) => K100 (.nx p)) ?_ ?_
   ·skip
    refine GL.region ?_
    refine RL.mv rfl rfl rfl ?_
    refine RL.binI (v := .bool (decide (y88 < (0 : Int)))) rfl rfl rfl rfl rfl ?_
    refine RL.mv rfl rfl rfl ?_
    refine RL.split (t := 37) rfl (fun b106 => ?_) (fun b106 => ?_)
    ·replace h101 := ite_t b106 h101
     refine RL.skip rfl rfl ?_
     refine RL.skip rfl rfl ?_
     refine RL.skip rfl rfl ?_
     refine RL.skip rfl rfl ?_
     refine RL.skip rfl rfl ?_
     refine RL.skip rfl rfl ?_
     refine RL.skip rfl rfl ?_
     refine RL.skip rfl rfl ?_
     refine RL.pickT rfl rfl rfl rfl ?_
     refine RL.fin ?_
     cases h101
     exact fun a w st => mid_intro true h102 (St.cut [0, 1, 2] ⟨rfl, rfl, rfl, rfl, rfl, rfl, trivial⟩ (by decide) rfl st)
    replace h101 := ite_f b106 h101
    refine RL.mv rfl rfl rfl ?_
    refine RL.mv rfl rfl rfl ?_
    refine RL.mv rfl rfl rfl ?_
    obtain ⟨y107, e108, h101⟩ := bind_some h101
    refine RL.idxS (sz := 3) 0 Try.underlying33 Try_ln36 rfl rfl rfl rfl rfl SlOf.imm (idx_some e108).1 (idx_some e108).2.1 ?_
    refine RL.fadrS (off := ((x12).toNat * 3)) (fo := 1) 0 Try_fld36_1 rfl rfl rfl SlOf.imm (by have := (List.getElem?_eq_some_iff.1 (idx_some e108).2.2).1; (try dsimp only at this ⊢); omega) rfl ?_
    refine RL.ldS (i := (x12).toNat) (r := (TR.sl TR.int)) (e' := y107.2.1) 0 Try_ln24 rfl rfl rfl rfl SlOf.imm (idx_some e108).2.2 (Part.snd (Part.fst Part.self)) ?_
    intro v109
    refine RL.lenS 3 Try.underlying24 rfl rfl rfl rfl SlOf.imm ?_
    refine RL.binI (v := .bool (decide (y88 ≥ ((y107.2.1).length : Int)))) rfl rfl rfl rfl rfl ?_
    refine RL.pickF rfl rfl rfl rfl ?_
    refine RL.fin ?_
    cases h101
    exact fun a w st => mid_intro (decide (y88 ≥ ((y107.2.1).length : Int))) h102 (St.cut [0, 1, 2] ⟨rfl, rfl, rfl, rfl, rfl, rfl, trivial⟩ (by decide) rfl st)
   rintro x98 h110
   have h111 := h103 _ h110
   try dsimp only at h111
   refine GL.weak (env' := [(1, v1), (2, v2), (10, .int .i64 x12), (11, v14), (12, .int .i64 y88), (46, .bool x98)]) (L' := [imm (TR.sl (TR.pair TR.int (TR.pair (TR.sl TR.int) (TR.sl TR.int)))) v1 x1, imm (TR.sl TR.int) v2 x2, own 3 TR.int v14 l13]) (fun _ _ st => st) ?_
   refine GL.cond rfl (fun b112 => ?_) (fun b112 => ?_)
   ·replace h111 := ite_t b112 h111
    refine GL.seq ?_
    refine GL.region ?_
    refine RL.asg rfl rfl rfl ?_
    refine RL.asg rfl rfl rfl ?_
    refine RL.asg rfl rfl rfl ?_
    refine RL.finG ?_
    refine GL.weak (fun a w st => st.nilOwn 3 TR.int) ?_
    refine GL.weak (fun a w st => st.nilOwn 3 TR.int) ?_
    cases h111
    replace h76 : some (Fl.rt _) = some y65 := h76
    cases h76
    have hh := h70 _ h68
    subst hh
    exact GL.ret (Gx.ret (v := .tuple #[Value.slice none 0 0, Value.slice none 0 0, .int .i64 (1 : Int)]) (res3 rfl rfl rfl rfl) (fun a w st => (st.pick [3, 4] (by decide) rfl).toPost (Value.slice none 0 0, Value.slice none 0 0)))
   replace h111 := ite_f b112 h111
   refine GL.skip ?_
   refine GL.seq ?_
   refine GL.region ?_
   refine RL.mv rfl rfl rfl ?_
   refine RL.mv rfl rfl rfl ?_
   obtain ⟨y118, e119, h111⟩ := bind_some h111
   refine RL.idxS (sz := 3) 0 Try.underlying33 Try_ln36 rfl rfl rfl rfl rfl SlOf.imm (idx_some e119).1 (idx_some e119).2.1 ?_
   refine RL.fadrS (off := ((x12).toNat * 3)) (fo := 1) 0 Try_fld36_1 rfl rfl rfl SlOf.imm (by have := (List.getElem?_eq_some_iff.1 (idx_some e119).2.2).1; (try dsimp only at this ⊢); omega) rfl ?_
   refine RL.ldS (i := (x12).toNat) (r := (TR.sl TR.int)) (e' := y118.2.1) 0 Try_ln24 rfl rfl rfl rfl SlOf.imm (idx_some e119).2.2 (Part.snd (Part.fst Part.self)) ?_
   intro v120
   refine RL.mv rfl rfl rfl ?_
   obtain ⟨y121, e122, h111⟩ := bind_some h111
   refine RL.idxS (sz := 1) 3 Try.underlying24 Try_ln3 rfl rfl rfl rfl rfl SlOf.imm (idx_some e122).1 (idx_some e122).2.1 ?_
   refine RL.ldSx (i := (y88).toNat) (e' := y121) 3 Ex.ik Try_ln3 rfl rfl rfl rfl SlOf.imm (idx_some e122).2.2 Part.self ?_
   refine RL.asg rfl rfl rfl ?_
   refine RL.finG ?_
   refine GL.region ?_
   refine RL.mv rfl rfl rfl ?_
   refine RL.mv rfl rfl rfl ?_
   refine RL.bS (t := TR.int) (vs := [.int .i64 y121]) ([y121] : (List Int)) Try.underlying24 Try_lo3 rfl rfl rfl rfl ⟨VR.int, trivial⟩ rfl (by decide) ?_
   intro v127
   refine RL.reL (L' := [imm (TR.sl (TR.pair TR.int (TR.pair (TR.sl TR.int) (TR.sl TR.int)))) v1 x1, imm (TR.sl TR.int) v2 x2, own 3 TR.int v14 l13, imm (TR.sl TR.int) v120 y118.2.1, own 3 TR.int v127 ([y121] : (List Int))]) rfl ?_
   obtain ⟨y128, e129, h111⟩ := bind_some h111
   replace e129 := chk_some e129
   refine RL.app 2 4 Try.underlying24 Try_lo3 rfl rfl rfl rfl rfl rfl rfl SlOf.own e129 ?_
   intro v130
   refine RL.asg rfl rfl rfl ?_
   refine RL.finG ?_
   refine GL.nilB ?_
   cases h111
   exact fun a w st => lop_intro (r80, y121, (l13 ++ ([y121] : (List Int))), v130) (by exact h76) (by simp) (St.cut [0, 1, 2] ⟨rfl, rfl, rfl, rfl, trivial⟩ (by decide) rfl st)
  replace h75 := ite_f b85 h75
  cases h75
  replace h76 : some (Fl.nx _) = some y65 := h76
  cases h76
  exact GL.exit (fun a w st => mid_intro (x12, l13, v14) h68 (St.cut [0, 2] ⟨rfl, rfl, rfl, trivial⟩ (by decide) rfl st))
 rintro ⟨x12, l13, v14⟩ h131
 have h132 := h69 _ h131
 try dsimp only at h132
 refine GL.weak (env' := [(1, v1), (10, .int .i64 x12), (11, v14)]) (L' := [imm (TR.sl (TR.pair TR.int (TR.pair (TR.sl TR.int) (TR.sl TR.int)))) v1 x1, own 3 TR.int v14 l13]) (fun _ _ st => st) ?_
 refine GL.seq ?_
 refine GL.region ?_
 refine RL.mv rfl rfl rfl ?_
 refine RL.bS (t := TR.int) (vs := []) ([] : (List Int)) Try.underlying24 Try_lo3 rfl rfl rfl rfl trivial rfl (by decide) ?_
 intro v140
 refine RL.mv rfl rfl rfl ?_
 refine RL.mv rfl rfl rfl ?_
 obtain ⟨y141, e142, h132⟩ := bind_some h132
 refine RL.idxS (sz := 3) 0 Try.underlying33 Try_ln36 rfl rfl rfl rfl rfl SlOf.imm (idx_some e142).1 (idx_some e142).2.1 ?_
 refine RL.fadrS (off := ((x12).toNat * 3)) (fo := 2) 0 Try_fld36_2 rfl rfl rfl SlOf.imm (by have := (List.getElem?_eq_some_iff.1 (idx_some e142).2.2).1; (try dsimp only at this ⊢); omega) rfl ?_
 refine RL.ldS (i := (x12).toNat) (r := (TR.sl TR.int)) (e' := y141.2.2) 0 Try_ln24 rfl rfl rfl rfl SlOf.imm (idx_some e142).2.2 (Part.snd (Part.snd Part.self)) ?_
 intro v143
 refine RL.reL (L' := [imm (TR.sl (TR.pair TR.int (TR.pair (TR.sl TR.int) (TR.sl TR.int)))) v1 x1, own 3 TR.int v14 l13, own 3 TR.int v140 ([] : (List Int)), imm (TR.sl TR.int) v143 y141.2.2]) rfl ?_
 obtain ⟨y144, e145, h132⟩ := bind_some h132
 replace e145 := chk_some e145
 refine RL.app 2 3 Try.underlying24 Try_lo3 rfl rfl rfl rfl rfl rfl rfl SlOf.imm e145 ?_
 intro v146
 refine RL.asg rfl rfl rfl ?_
 refine RL.asg rfl rfl rfl ?_
 refine RL.asg rfl rfl rfl ?_
 refine RL.finG ?_
 have h132 := Option.some.inj h132
 subst h132
 exact GL.ret (Gx.ret (v := .tuple #[v14, v146, .int .i64 (0 : Int)]) (res3 rfl rfl rfl rfl) (fun a w st => (st.pick [1, 2] (by decide) rfl).toPost (v14, v146)))

set_option maxHeartbeats 4000000 in
theorem slices_IndexFunc_api_Errno_api_Errno_c (S : Hp) (w : World) (hS : S.sub w) (v0 : Value) (x0 : (List Int)) (k0 : ((TR.sl TR.int)).vrep S v0 x0) (f1 : FuncId) (c1 : Array Value) (t1 : Fit Try.prog f1) (g1 : Int → Option Bool) (k1 : ∀ (U : Hp) (w' : World), Hp.le S U → U.sub w' → ∀ (a0 : Int) (rr : Bool), g1 a0 = some rr → Calls Try.prog f1 (#[.int .i64 a0] ++ c1) w' (PostV w' (.bool rr))) (res : Int) (hm : slices_IndexFunc_api_Errno_api_Errno_m x0 g1 = some res) : Calls Try.prog 125 #[v0, .func (.func f1) #[] c1] w (PostV w (.int .i64 res)) := by
 refine calls_enter 19 Try.func125 Try.ntmps125 rfl S false [(0, v0), (1, .func (.func f1) #[] c1)] [imm (TR.sl TR.int) v0 x0] rfl ⟨rfl, ⟨rfl, trivial⟩⟩ hS ⟨k0, trivial⟩ ?_
 unfold slices_IndexFunc_api_Errno_api_Errno_m at hm
 refine GL.seq ?_
 refine GL.region ?_
 refine RL.asg rfl rfl rfl ?_
 refine RL.finG ?_
 refine GL.seq ?_
 refine GL.seq ?_
 refine GL.region ?_
 refine RL.mv rfl rfl rfl ?_
 refine RL.lenS 0 Try.underlying101 rfl rfl rfl rfl SlOf.imm ?_
 refine RL.mv rfl rfl rfl ?_
 refine RL.finG ?_
 refine GL.open_ 0 rfl (fun S h => len_imm S h) (fun n12 => ?_)
 obtain ⟨y13, K14, h15, h16, h17, h18, h19⟩ := bindR_K hm
 refine GL.join (ι := Unit) (fun (p : Unit) => []) (fun (p : Unit) => []) (fun (p : Unit) => K14 (.nx ())) ?_ ?_
 ·refine GL.block ?_
  refine GL.loop (ι := Nat × (List Int)) (fun (p : Nat × (List Int)) => [(0, v0), (1, .func (.func f1) #[] c1), (7, .int .i64 ((x0).length : Int)), (8, .int .i64 (p.1 : Int))]) (fun (p : Nat × (List Int)) => [imm (TR.sl TR.int) v0 x0]) (fun (p : Nat × (List Int)) => p.1 + p.2.length = (x0).length ∧ List.drop p.1 x0 = p.2 ∧ rangeL (slices_IndexFunc_api_Errno_api_Errno_b1 g1) p.2 p.1 () = some y13) (fun (p : Nat × (List Int)) => p.2.length) (0, x0) ⟨by simp, by simp, h15⟩ (fun a w st => St.cut [0] ⟨rfl, rfl, rfl, rfl, trivial⟩ (by decide) rfl st) ?_
  rintro ⟨i20, r21⟩ ⟨h26, h27, h25⟩
  try dsimp only at h26 h27 h25
  refine GL.weak (env' := [(0, v0), (1, .func (.func f1) #[] c1), (7, .int .i64 ((x0).length : Int)), (8, .int .i64 (i20 : Int))]) (L' := [imm (TR.sl TR.int) v0 x0]) (fun _ _ st => st) ?_
  refine GL.seq ?_
  refine GL.region ?_
  refine RL.binI (v := .bool (decide ((i20 : Int) < ((x0).length : Int)))) rfl rfl rfl rfl rfl ?_
  refine RL.finG ?_
  refine GL.seq ?_
  refine GL.cond rfl (fun b28 => ?_) (fun b28 => ?_)
  ·have h29 : i20 < (x0).length := by have := of_decide_eq_true b28; omega
   obtain ⟨y30, r32, hr, e31, h33⟩ := drop_cons h27 rfl h29
   subst hr
   obtain ⟨z22, h23, h24⟩ := rangeL_some h25
   unfold slices_IndexFunc_api_Errno_api_Errno_b1 at h23
   try dsimp only at h23
   refine GL.skip ?_
   refine GL.seq ?_
   refine GL.block ?_
   refine GL.seq ?_
   refine GL.region ?_
   refine RL.mv rfl rfl rfl ?_
   refine RL.asg rfl rfl rfl ?_
   refine RL.finG ?_
   refine GL.seq ?_
   refine GL.region ?_
   refine RL.mv rfl rfl rfl ?_
   refine RL.mv rfl rfl rfl ?_
   refine RL.mv rfl rfl rfl ?_
   refine RL.idxS (sz := 1) 0 Try.underlying101 Try_ln25 rfl rfl rfl rfl rfl SlOf.imm (by omega) (by omega) ?_
   refine RL.ldSx (i := i20) (e' := y30) 0 Ex.ik Try_ln25 rfl rfl rfl rfl SlOf.imm e31 Part.self ?_
   obtain ⟨y36, e37, h23⟩ := bind_some h23
   refine RL.callV (v := .bool y36) (vs := [.int .i64 y30]) t1 rfl (Or.inl rfl) rfl rfl rfl rfl (fun U w hU hW hL => k1 U w hW hU y30 _ e37) ?_
   refine RL.finG ?_
   refine GL.cond rfl (fun b38 => ?_) (fun b38 => ?_)
   ·replace h23 := ite_t b38 h23
    refine GL.seq ?_
    refine GL.region ?_
    refine RL.mv rfl rfl rfl ?_
    refine RL.asg rfl rfl rfl ?_
    refine RL.finG ?_
    cases h23
    replace h24 : some (Fl.rt _) = some y13 := h24
    cases h24
    have hh := h18 _ h16
    subst hh
    exact GL.ret (Gx.ret (v := .int .i64 (i20 : Int)) (res1 rfl rfl) (fun a w st => st.toPostV))
   replace h23 := ite_f b38 h23
   refine GL.skip ?_
   refine GL.nilB ?_
   refine GL.region ?_
   refine RL.binI (v := .int .i64 ((i20 + 1 : Nat) : Int)) rfl rfl rfl rfl (binI_succ i20 (by omega)) ?_
   refine RL.mv rfl rfl rfl ?_
   refine RL.fin ?_
   cases h23
   exact fun a w st => lop_intro (i20 + 1, r32) ⟨by show i20 + 1 + r32.length = (x0).length; simp only [List.length_cons] at h26; omega, h33, h24⟩ (by simp) (St.cut [0] ⟨rfl, rfl, rfl, rfl, trivial⟩ (by decide) rfl st)
  have h29 : ¬ i20 < (x0).length := by have := of_decide_eq_false b28; omega
  obtain rfl : r21 = [] := by rw [← h27]; exact List.drop_of_length_le (by omega)
  replace h25 : some (Fl.nx _) = some y13 := h25
  cases h25
  exact GL.exit (fun a w st => mid_intro () h16 (St.cut [] trivial (by decide) rfl st))
 rintro ⟨⟩ h39
 have h40 := h17 _ h39
 try dsimp only at h40
 refine GL.weak (env' := []) (L' := []) (fun _ _ st => st) ?_
 refine GL.seq ?_
 refine GL.region ?_
 refine RL.asg rfl rfl rfl ?_
 refine RL.finG ?_
 have h40 := Option.some.inj h40
 subst h40
 exact GL.ret (Gx.ret (v := .int .i64 (-1 : Int)) (res1 rfl rfl) (fun a w st => st.toPostV))

set_option maxHeartbeats 4000000 in
theorem slices_ContainsFunc_api_Errno_api_Errno_c (S : Hp) (w : World) (hS : S.sub w) (v0 : Value) (x0 : (List Int)) (k0 : ((TR.sl TR.int)).vrep S v0 x0) (f1 : FuncId) (c1 : Array Value) (t1 : Fit Try.prog f1) (g1 : Int → Option Bool) (k1 : ∀ (U : Hp) (w' : World), Hp.le S U → U.sub w' → ∀ (a0 : Int) (rr : Bool), g1 a0 = some rr → Calls Try.prog f1 (#[.int .i64 a0] ++ c1) w' (PostV w' (.bool rr))) (res : Bool) (hm : slices_ContainsFunc_api_Errno_api_Errno_m x0 g1 = some res) : Calls Try.prog 82 #[v0, .func (.func f1) #[] c1] w (PostV w (.bool res)) := by
 refine calls_enter 9 Try.func82 Try.ntmps82 rfl S false [(0, v0), (1, .func (.func f1) #[] c1)] [imm (TR.sl TR.int) v0 x0] rfl ⟨rfl, ⟨rfl, trivial⟩⟩ hS ⟨k0, trivial⟩ ?_
 unfold slices_ContainsFunc_api_Errno_api_Errno_m at hm
 refine GL.seq ?_
 refine GL.region ?_
 refine RL.asg rfl rfl rfl ?_
 refine RL.finG ?_
 refine GL.seq ?_
 refine GL.region ?_
 refine RL.mv rfl rfl rfl ?_
 refine RL.mv rfl rfl rfl ?_
 obtain ⟨y5, e6, hm⟩ := bind_some hm
 refine RL.callV (v := .int .i64 y5) (vs := [v0, .func (.func f1) #[] c1]) Try_fit125 rfl (Or.inl rfl) rfl rfl rfl rfl (fun U w hU hW hL => slices_IndexFunc_api_Errno_api_Errno_c U w hU _ _ (hL 0 _ _ rfl Seen.imm) f1 c1 t1 g1 (fun U' w' hle => k1 U' w' (Hp.le_trans hW hle)) _ e6) ?_
 refine RL.binI (v := .bool (decide (y5 ≥ (0 : Int)))) rfl rfl rfl rfl rfl ?_
 refine RL.asg rfl rfl rfl ?_
 refine RL.finG ?_
 have hm := Option.some.inj hm
 subst hm
 exact GL.ret (Gx.ret (v := .bool (decide (y5 ≥ (0 : Int)))) (res1 rfl rfl) (fun a w st => st.toPostV))

set_option maxHeartbeats 4000000 in
theorem pk_good_1_c (S : Hp) (w : World) (hS : S.sub w) (x0 : Int) (res : Bool) (hm : pk_good_1_m x0 = some res) : Calls Try.prog 83 #[.int .i64 x0] w (PostC w (.bool res)) := by
 refine calls_enter 5 Try.func83 Try.ntmps83 rfl S true [(0, .int .i64 x0)] [] rfl ⟨rfl, trivial⟩ hS trivial ?_
 unfold pk_good_1_m at hm
 refine GL.seq ?_
 refine GL.region ?_
 refine RL.asg rfl rfl rfl ?_
 refine RL.finG ?_
 refine GL.seq ?_
 refine GL.region ?_
 refine RL.mv rfl rfl rfl ?_
 refine RL.binI (v := .bool (x0 != (0 : Int))) rfl rfl rfl rfl rfl ?_
 refine RL.asg rfl rfl rfl ?_
 refine RL.finG ?_
 have hm := Option.some.inj hm
 subst hm
 exact GL.ret (Gx.ret (v := .bool (x0 != (0 : Int))) (res1 rfl rfl) (fun a w st => st.toPostC rfl))

set_option maxHeartbeats 4000000 in
theorem pk_good_c (S : Hp) (w : World) (hS : S.sub w) (v0 : Value) (x0 : (List Int)) (k0 : ((TR.sl TR.int)).vrep S v0 x0) (res : Bool) (hm : pk_good_m x0 = some res) : Calls Try.prog 20 #[v0] w (PostV w (.bool res)) := by
 refine calls_enter 6 Try.func20 Try.ntmps20 rfl S false [(0, v0)] [imm (TR.sl TR.int) v0 x0] rfl ⟨rfl, trivial⟩ hS ⟨k0, trivial⟩ ?_
 unfold pk_good_m at hm
 refine GL.seq ?_
 refine GL.region ?_
 refine RL.asg rfl rfl rfl ?_
 refine RL.finG ?_
 refine GL.seq ?_
 refine GL.region ?_
 refine RL.mv rfl rfl rfl ?_
 obtain ⟨y4, e5, hm⟩ := bind_some hm
 refine RL.callV (v := .bool y4) (vs := [v0, .func (.func 83) #[] #[]]) Try_fit82 rfl (Or.inl rfl) rfl rfl rfl rfl (fun U w hU hW hL => slices_ContainsFunc_api_Errno_api_Errno_c U w hU _ _ (hL 0 _ _ rfl Seen.imm) 83 #[] Try_fit83 (fun a0 => pk_good_1_m a0) (fun U' w' hle hU' a0 rr hr => (pk_good_1_c U' w' hU' a0 rr hr).mono (fun _ _ z => z.toV)) _ e5) ?_
 refine RL.notB rfl rfl rfl ?_
 refine RL.asg rfl rfl rfl ?_
 refine RL.finG ?_
 have hm := Option.some.inj hm
 subst hm
 exact GL.ret (Gx.ret (v := .bool (!y4)) (res1 rfl rfl) (fun a w st => st.toPostV))

set_option maxHeartbeats 4000000 in
theorem pk_TreeZermelo_c (S : Hp) (w : World) (hS : S.sub w) (v0 : Value) (x0 : (List (Int × ((List Int) × (List Int))))) (k0 : ((TR.sl (TR.pair TR.int (TR.pair (TR.sl TR.int) (TR.sl TR.int))))).vrep S v0 x0) (v1 : Value) (x1 : (List Int)) (k1 : ((TR.sl TR.int)).vrep S v1 x1) (v2 : Value) (x2 : (List Int)) (k2 : ((TR.sl TR.int)).vrep S v2 x2) (res : Bool) (hm : pk_TreeZermelo_m x0 x1 x2 = some res) : Calls Try.prog 4 #[v0, v1, v2] w (PostV w (.bool res)) := by
 refine calls_enter 198 Try.func4 Try.ntmps4 rfl S false [(0, v0), (1, v1), (2, v2)] [imm (TR.sl (TR.pair TR.int (TR.pair (TR.sl TR.int) (TR.sl TR.int)))) v0 x0, imm (TR.sl TR.int) v1 x1, imm (TR.sl TR.int) v2 x2] rfl ⟨rfl, ⟨rfl, ⟨rfl, trivial⟩⟩⟩ hS ⟨k0, ⟨k1, ⟨k2, trivial⟩⟩⟩ ?_
 unfold pk_TreeZermelo_m at hm
 refine GL.seq ?_
 refine GL.region ?_
 refine RL.asg rfl rfl rfl ?_
 refine RL.finG ?_
 refine GL.seq ?_
 refine GL.seq ?_
 refine GL.region ?_
 obtain ⟨y6, e7, hm⟩ := bind_some hm
 refine RL.callV (v := .bool y6) (vs := []) Try_fit15 rfl (Or.inl rfl) rfl rfl rfl rfl (fun U w hU hW hL => pk_trees_c U w hU  _ e7) ?_
 refine RL.notB rfl rfl rfl ?_
 refine RL.finG ?_
 refine GL.cond rfl (fun b8 => ?_) (fun b8 => ?_)
 ·replace hm := ite_t b8 hm
  refine GL.seq ?_
  refine GL.region ?_
  refine RL.asg rfl rfl rfl ?_
  refine RL.finG ?_
  have hm := Option.some.inj hm
  subst hm
  exact GL.ret (Gx.ret (v := .bool false) (res1 rfl rfl) (fun a w st => st.toPostV))
 replace hm := ite_f b8 hm
 refine GL.skip ?_
 refine GL.seq ?_
 refine GL.region ?_
 refine RL.mv rfl rfl rfl ?_
 obtain ⟨y12, e13, hm⟩ := bind_some hm
 refine RL.call (vs := [v0]) Try_fit16 rfl rfl rfl rfl rfl (fun S f w hS hW hi => slices_Clone_api_Node_api_Node_c S w hS _ _ (hi 0 _ rfl) _ e13) ?_
 intro v14
 refine RL.asg rfl rfl rfl ?_
 refine RL.finG ?_
 refine GL.seq ?_
 refine GL.seq ?_
 refine GL.region ?_
 refine RL.mv rfl rfl rfl ?_
 refine RL.lenS 3 Try.underlying33 rfl rfl rfl rfl SlOf.own ?_
 refine RL.mv rfl rfl rfl ?_
 refine RL.finG ?_
 refine GL.lenOwn 3 rfl (fun n102 => ?_)
 obtain ⟨y103, K104, h105, h106, h107, h108, h109⟩ := bindR_K hm
 refine GL.join (ι := (List (Int × ((List Int) × (List Int))))) (fun (p : (List (Int × ((List Int) × (List Int))))) => [(0, v14), (1, v1), (2, v2)]) (fun (p : (List (Int × ((List Int) × (List Int))))) => [own 36 (TR.pair TR.int (TR.pair (TR.sl TR.int) (TR.sl TR.int))) v14 p, imm (TR.sl TR.int) v1 x1, imm (TR.sl TR.int) v2 x2]) (fun (p : (List (Int × ((List Int) × (List Int))))) => K104 (.nx p)) ?_ ?_
 ·refine GL.block ?_
  refine GL.loop (ι := Nat × Nat × (List (Int × ((List Int) × (List Int))))) (fun (p : Nat × Nat × (List (Int × ((List Int) × (List Int))))) => [(0, v14), (1, v1), (2, v2), (26, v14), (27, .int .i64 ((y12).length : Int)), (28, .int .i64 (p.1 : Int))]) (fun (p : Nat × Nat × (List (Int × ((List Int) × (List Int))))) => [own 36 (TR.pair TR.int (TR.pair (TR.sl TR.int) (TR.sl TR.int))) v14 p.2.2, imm (TR.sl TR.int) v1 x1, imm (TR.sl TR.int) v2 x2]) (fun (p : Nat × Nat × (List (Int × ((List Int) × (List Int))))) => p.1 + p.2.1 = (y12).length ∧ rangeN pk_TreeZermelo_b1 p.2.1 p.1 p.2.2 = some y103) (fun (p : Nat × Nat × (List (Int × ((List Int) × (List Int))))) => p.2.1) (0, (y12).length, y12) ⟨by simp, h105⟩ (fun a w st => St.cut [3, 1, 2] ⟨rfl, rfl, rfl, rfl, rfl, rfl, trivial⟩ (by decide) rfl st) ?_
  rintro ⟨i110, r111, l58⟩ ⟨h116, h115⟩
  try dsimp only at h116 h115
  refine GL.weak (env' := [(0, v14), (1, v1), (2, v2), (26, v14), (27, .int .i64 ((y12).length : Int)), (28, .int .i64 (i110 : Int))]) (L' := [own 36 (TR.pair TR.int (TR.pair (TR.sl TR.int) (TR.sl TR.int))) v14 l58, imm (TR.sl TR.int) v1 x1, imm (TR.sl TR.int) v2 x2]) (fun _ _ st => st) ?_
  refine GL.seq ?_
  refine GL.region ?_
  refine RL.binI (v := .bool (decide ((i110 : Int) < ((y12).length : Int)))) rfl rfl rfl rfl rfl ?_
  refine RL.finG ?_
  refine GL.seq ?_
  refine GL.cond rfl (fun b118 => ?_) (fun b118 => ?_)
  ·have h119 : i110 < (y12).length := by have := of_decide_eq_true b118; omega
   obtain ⟨r120, hr⟩ : ∃ m, r111 = m + 1 := ⟨r111 - 1, by omega⟩
   subst hr
   obtain ⟨z112, h113, h114⟩ := rangeN_some h115
   unfold pk_TreeZermelo_b1 at h113
   try dsimp only at h113
   refine GL.skip ?_
   refine GL.seq ?_
   refine GL.block ?_
   refine GL.seq ?_
   refine GL.region ?_
   refine RL.mv rfl rfl rfl ?_
   obtain ⟨y125, e126, h113⟩ := bind_some h113
   refine RL.idxS (sz := 3) 0 Try.underlying33 Try_ln36 rfl rfl rfl rfl rfl SlOf.own (idx_some e126).1 (idx_some e126).2.1 ?_
   refine RL.ldS (i := i110) (r := (TR.pair TR.int (TR.pair (TR.sl TR.int) (TR.sl TR.int)))) (e' := y125) 0 Try_ln36 rfl rfl rfl rfl SlOf.own (idx_some e126).2.2 Part.self ?_
   intro v127
   refine RL.alloc (t := (TR.pair TR.int (TR.pair (TR.sl TR.int) (TR.sl TR.int)))) (z := ((0 : Int), ([] : (List Int)), ([] : (List Int)))) Try_lo36 (fun S => ⟨[.int .i64 0], _, rfl, rfl, ⟨[.slice none 0 0], _, rfl, ⟨_, [], rfl, ⟨none, 0, rfl, Nat.le_refl _, Nat.zero_le _, Or.inl ⟨rfl, rfl⟩⟩, rfl⟩, ⟨_, [], rfl, ⟨none, 0, rfl, Nat.le_refl _, Nat.zero_le _, Or.inl ⟨rfl, rfl⟩⟩, rfl⟩⟩⟩) rfl rfl rfl ?_
   intro v128
   refine RL.reL (L' := [own 36 (TR.pair TR.int (TR.pair (TR.sl TR.int) (TR.sl TR.int))) v14 l58, imm (TR.sl TR.int) v1 x1, imm (TR.sl TR.int) v2 x2, imm (TR.pair TR.int (TR.pair (TR.sl TR.int) (TR.sl TR.int))) v127 y125, obox 36 (TR.pair TR.int (TR.pair (TR.sl TR.int) (TR.sl TR.int))) v128 ((0 : Int), ([] : (List Int)), ([] : (List Int)))]) rfl ?_
   refine RL.asg rfl rfl rfl ?_
   refine RL.stP (off := 0) (e' := y125) (d1 := y125) (r := (TR.pair TR.int (TR.pair (TR.sl TR.int) (TR.sl TR.int)))) 4 Try_ln36 rfl rfl (Or.inr ⟨rfl, rfl⟩) rfl (VR.item 3 rfl) rfl Upd.self ?_
   refine RL.finG ?_
   refine GL.seq ?_
   obtain ⟨y134, K135, h136, h137, h138, h139, h140⟩ := bindF_K h113
   refine GL.join (ι := Bool) (fun (p : Bool) => [(0, v14), (1, v1), (2, v2), (7, .int .i64 (i110 : Int)), (8, v128), (26, v14), (27, .int .i64 ((y12).length : Int)), (28, .int .i64 (i110 : Int)), (41, .bool p)]) (fun (p : Bool) => [own 36 (TR.pair TR.int (TR.pair (TR.sl TR.int) (TR.sl TR.int))) v14 l58, imm (TR.sl TR.int) v1 x1, imm (TR.sl TR.int) v2 x2, obox 36 (TR.pair TR.int (TR.pair (TR.sl TR.int) (TR.sl TR.int))) v128 y125]) (fun (p : Bool) => K135 (.nx p)) ?_ ?_
   ·skip
    refine GL.region ?_
    refine RL.fadr (off := 0) (fo := 0) 4 Try_fld36_0 rfl rfl rfl PtOf.obox (Or.inr ⟨rfl, rfl⟩) ?_
    refine RL.ldPx (off := (0 + 0)) (e' := y125.1) 4 Ex.ik Try_ln3 rfl rfl (Or.inl rfl) rfl PtOf.obox (Part.fst Part.self) ?_
    refine RL.binI (v := .bool (decide (y125.1 < (0 : Int)))) rfl rfl rfl rfl rfl ?_
    refine RL.mv rfl rfl rfl ?_
    refine RL.split (t := 36) rfl (fun b141 => ?_) (fun b141 => ?_)
    ·replace h136 := ite_t b141 h136
     refine RL.fadr (off := 0) (fo := 2) 4 Try_fld36_2 rfl rfl rfl PtOf.obox (Or.inr ⟨rfl, rfl⟩) ?_
     refine RL.ldP (off := (0 + 2)) (r := (TR.sl TR.int)) (e' := y125.2.2) 4 Try_ln24 rfl rfl (Or.inl rfl) rfl PtOf.obox (Part.snd (Part.snd Part.self)) ?_
     intro v142
     refine RL.reL (L' := [own 36 (TR.pair TR.int (TR.pair (TR.sl TR.int) (TR.sl TR.int))) v14 l58, imm (TR.sl TR.int) v1 x1, imm (TR.sl TR.int) v2 x2, imm (TR.pair TR.int (TR.pair (TR.sl TR.int) (TR.sl TR.int))) v127 y125, obox 36 (TR.pair TR.int (TR.pair (TR.sl TR.int) (TR.sl TR.int))) v128 y125, imm (TR.sl TR.int) v142 y125.2.2]) rfl ?_
     refine RL.lenS 5 Try.underlying24 rfl rfl rfl rfl SlOf.imm ?_
     refine RL.binI (v := .bool (decide (((y125.2.2).length : Int) > (0 : Int)))) rfl rfl rfl rfl rfl ?_
     refine RL.pickT rfl rfl rfl rfl ?_
     refine RL.fin ?_
     cases h136
     exact fun a w st => mid_intro (decide (((y125.2.2).length : Int) > (0 : Int))) h137 (St.cut [0, 1, 2, 4] ⟨rfl, rfl, rfl, rfl, rfl, rfl, rfl, rfl, rfl, trivial⟩ (by decide) rfl st)
    replace h136 := ite_f b141 h136
    refine RL.skip rfl rfl ?_
    refine RL.skip rfl rfl ?_
    refine RL.skip rfl rfl ?_
    refine RL.skip rfl rfl ?_
    refine RL.pickF rfl rfl rfl rfl ?_
    refine RL.fin ?_
    cases h136
    exact fun a w st => mid_intro false h137 (St.cut [0, 1, 2, 4] ⟨rfl, rfl, rfl, rfl, rfl, rfl, rfl, rfl, rfl, trivial⟩ (by decide) rfl st)
   rintro x133 h143
   have h144 := h138 _ h143
   try dsimp only at h144
   refine GL.weak (env' := [(0, v14), (1, v1), (2, v2), (7, .int .i64 (i110 : Int)), (8, v128), (26, v14), (27, .int .i64 ((y12).length : Int)), (28, .int .i64 (i110 : Int)), (41, .bool x133)]) (L' := [own 36 (TR.pair TR.int (TR.pair (TR.sl TR.int) (TR.sl TR.int))) v14 l58, imm (TR.sl TR.int) v1 x1, imm (TR.sl TR.int) v2 x2, obox 36 (TR.pair TR.int (TR.pair (TR.sl TR.int) (TR.sl TR.int))) v128 y125]) (fun _ _ st => st) ?_
   refine GL.cond rfl (fun b145 => ?_) (fun b145 => ?_)
   ·replace h144 := ite_t b145 h144
    refine GL.regionA rfl rfl ?_
    refine RA.mv 0 rfl (by kernel_rfl) rfl rfl rfl ?_
    refine RA.mv 1 rfl (by kernel_rfl) rfl rfl rfl ?_
    refine RA.still (le := #[true, true, true, true, true, true, true, true, true, true, true, false, false, false, false]) (f := 4) [2, 3, 4, 5, 6, 7, 8, 9, 10] 11 rfl (by kernel_rfl) ?_
    simp only [pickOps, List.getElem?_toArray, List.getElem?_cons_succ, List.getElem?_cons_zero]
    refine RL.fadr (off := 0) (fo := 2) 3 Try_fld36_2 rfl rfl rfl PtOf.obox (Or.inr ⟨rfl, rfl⟩) ?_
    refine RL.ldP (off := (0 + 2)) (r := (TR.sl TR.int)) (e' := y125.2.2) 3 Try_ln24 rfl rfl (Or.inl rfl) rfl PtOf.obox (Part.snd (Part.snd Part.self)) ?_
    intro v155
    obtain ⟨y156, e157, h144⟩ := bind_some h144
    refine RL.idxS (sz := 1) 4 Try.underlying24 Try_ln3 rfl rfl rfl rfl rfl SlOf.imm (idx_some e157).1 (idx_some e157).2.1 ?_
    refine RL.ldSx (i := ((0 : Int)).toNat) (e' := y156) 4 Ex.ik Try_ln3 rfl rfl rfl rfl SlOf.imm (idx_some e157).2.2 Part.self ?_
    refine RL.fadr (off := 0) (fo := 2) 3 Try_fld36_2 rfl rfl rfl PtOf.obox (Or.inr ⟨rfl, rfl⟩) ?_
    refine RL.ldP (off := (0 + 2)) (r := (TR.sl TR.int)) (e' := y125.2.2) 3 Try_ln24 rfl rfl (Or.inl rfl) rfl PtOf.obox (Part.snd (Part.snd Part.self)) ?_
    intro v158
    obtain ⟨y159, e160, h144⟩ := bind_some h144
    refine RL.idxS (sz := 1) 5 Try.underlying24 Try_ln3 rfl rfl rfl rfl rfl SlOf.imm (idx_some e160).1 (idx_some e160).2.1 ?_
    refine RL.ldSx (i := ((0 : Int)).toNat) (e' := y159) 5 Ex.ik Try_ln3 rfl rfl rfl rfl SlOf.imm (idx_some e160).2.2 Part.self ?_
    refine RL.negI rfl rfl rfl ?_
    refine RL.finH ?_
    refine RL.fin ?_
    refine RA.next ?_
    refine RA.seq 11 rfl (by kernel_rfl) ?_
    refine RL.bS (t := TR.int) (vs := [.int .i64 y156, .int .i64 (wsub 0 y159)]) ([y156, wsub 0 y159] : (List Int)) Try.underlying24 Try_lo3 rfl rfl rfl rfl ⟨VR.int, ⟨VR.int, trivial⟩⟩ rfl (by decide) ?_
    intro v161
    refine RL.fin ?_
    refine RA.next ?_
    obtain ⟨y162, e163, h144⟩ := bind_some h144
    refine RA.idxS (sz := 3) 0 Try.underlying33 Try_ln36 12 rfl (by kernel_rfl) rfl rfl rfl rfl rfl SlOf.own (idx_some e163).1 (idx_some e163).2.1 ?_
    refine RA.seq 13 rfl (by kernel_rfl) ?_
    refine RL.fadrS (off := (i110 * 3)) (fo := 2) 0 Try_fld36_2 rfl rfl rfl SlOf.own (by have := (List.getElem?_eq_some_iff.1 (idx_some e163).2.2).1; (try dsimp only at this ⊢); omega) rfl ?_
    refine RL.fin ?_
    refine RA.next ?_
    refine RA.seq 14 rfl (by kernel_rfl) ?_
    refine RL.weak (fun a w st => st.freeze 6 rfl) ?_
    refine RL.stS (i := i110) (e' := ([y156, wsub 0 y159] : (List Int))) (e1 := (y162.1, (y162.2.1, ([y156, wsub 0 y159] : (List Int))))) (r := (TR.sl TR.int)) 0 Try_ln24 rfl rfl rfl rfl (VR.item 6 rfl) rfl (idx_some e163).2.2 (Upd.snd (Upd.snd Upd.self)) ?_
    refine RL.fin ?_
    refine RA.next ?_
    refine RA.doneG (by kernel_rfl) ?_
    refine GL.weak (env' := [(0, v14), (1, v1), (2, v2), (26, v14), (27, .int .i64 ((y12).length : Int)), (28, .int .i64 (i110 : Int))]) (L' := [own 36 (TR.pair TR.int (TR.pair (TR.sl TR.int) (TR.sl TR.int))) v14 (List.set l58 i110 (y162.1, (y162.2.1, ([y156, wsub 0 y159] : (List Int))))), imm (TR.sl TR.int) v1 x1, imm (TR.sl TR.int) v2 x2]) (fun a w st => St.cut [0, 1, 2] ⟨rfl, rfl, rfl, rfl, rfl, rfl, trivial⟩ (by decide) rfl st) ?_
    refine GL.nilB ?_
    refine GL.region ?_
    refine RL.binI (v := .int .i64 ((i110 + 1 : Nat) : Int)) rfl rfl rfl rfl (binI_succ i110 (by omega)) ?_
    refine RL.mv rfl rfl rfl ?_
    refine RL.fin ?_
    cases h144
    exact fun a w st => lop_intro (i110 + 1, r120, (List.set l58 i110 (y162.1, (y162.2.1, ([y156, wsub 0 y159] : (List Int)))))) ⟨by show i110 + 1 + r120 = (y12).length; omega, h114⟩ (by simp) (St.cut [0, 1, 2] ⟨rfl, rfl, rfl, rfl, rfl, rfl, trivial⟩ (by decide) rfl st)
   replace h144 := ite_f b145 h144
   refine GL.skip ?_
   refine GL.nilB ?_
   refine GL.region ?_
   refine RL.binI (v := .int .i64 ((i110 + 1 : Nat) : Int)) rfl rfl rfl rfl (binI_succ i110 (by omega)) ?_
   refine RL.mv rfl rfl rfl ?_
   refine RL.fin ?_
   cases h144
   exact fun a w st => lop_intro (i110 + 1, r120, l58) ⟨by show i110 + 1 + r120 = (y12).length; omega, h114⟩ (by simp) (St.cut [0, 1, 2] ⟨rfl, rfl, rfl, rfl, rfl, rfl, trivial⟩ (by decide) rfl st)
  have h119 : ¬ i110 < (y12).length := by have := of_decide_eq_false b118; omega
  obtain rfl : r111 = 0 := by omega
  replace h115 : some (Fl.nx _) = some y103 := h115
  cases h115
  exact GL.exit (fun a w st => mid_intro l58 h106 (St.cut [0, 1, 2] ⟨rfl, rfl, rfl, trivial⟩ (by decide) rfl st))
 rintro l58 h164
 have h165 := h107 _ h164
 try dsimp only at h165
 refine GL.weak (env' := [(0, v14), (1, v1), (2, v2)]) (L' := [own 36 (TR.pair TR.int (TR.pair (TR.sl TR.int) (TR.sl TR.int))) v14 l58, imm (TR.sl TR.int) v1 x1, imm (TR.sl TR.int) v2 x2]) (fun _ _ st => st) ?_
 refine GL.seq ?_
 refine GL.region ?_
 refine RL.mv rfl rfl rfl ?_
 refine RL.weak (fun a w st => st.freeze 0 rfl) ?_
 obtain ⟨y170, e171, h165⟩ := bind_some h165
 refine RL.call (vs := [.int .i64 (2 : Int), v14]) Try_fit17 rfl rfl rfl rfl rfl (fun S f w hS hW hi => tree_Solve_c S w hS (2 : Int) _ _ (hi 0 _ rfl) _ e171) ?_
 intro ⟨v172, v173⟩
 refine RL.reL (L' := [imm (TR.sl (TR.pair TR.int (TR.pair (TR.sl TR.int) (TR.sl TR.int)))) v14 l58, imm (TR.sl TR.int) v1 x1, imm (TR.sl TR.int) v2 x2, own 3 TR.int v172 y170.1, own 24 (TR.sl TR.int) v173 y170.2.1]) rfl ?_
 refine RL.mv rfl rfl rfl ?_
 refine RL.ext rfl rfl rfl rfl ?_
 refine RL.ext rfl rfl rfl rfl ?_
 refine RL.ext rfl rfl rfl rfl ?_
 refine RL.asg rfl rfl rfl ?_
 refine RL.asg rfl rfl rfl ?_
 refine RL.asg rfl rfl rfl ?_
 refine RL.finG ?_
 refine GL.seq ?_
 refine GL.seq ?_
 obtain ⟨y179, K180, h181, h182, h183, h184, h185⟩ := bindR_K h165
 refine GL.join (ι := Bool) (fun (p : Bool) => [(0, v14), (1, v1), (2, v2), (9, v172), (10, v173), (11, .int .i64 y170.2.2), (78, .bool p)]) (fun (p : Bool) => [imm (TR.sl (TR.pair TR.int (TR.pair (TR.sl TR.int) (TR.sl TR.int)))) v14 l58, imm (TR.sl TR.int) v1 x1, imm (TR.sl TR.int) v2 x2, own 3 TR.int v172 y170.1, own 24 (TR.sl TR.int) v173 y170.2.1]) (fun (p : Bool) => K180 (.nx p)) ?_ ?_
 ·skip
  refine GL.region ?_
  refine RL.mv rfl rfl rfl ?_
  refine RL.binI (v := .bool (y170.2.2 != (0 : Int))) rfl rfl rfl rfl rfl ?_
  refine RL.mv rfl rfl rfl ?_
  refine RL.split (t := 65) rfl (fun b186 => ?_) (fun b186 => ?_)
  ·replace h181 := ite_t b186 h181
   refine RL.skip rfl rfl ?_
   refine RL.skip rfl rfl ?_
   refine RL.skip rfl rfl ?_
   refine RL.skip rfl rfl ?_
   refine RL.skip rfl rfl ?_
   refine RL.pickT rfl rfl rfl rfl ?_
   refine RL.mv rfl rfl rfl ?_
   refine RL.skip rfl rfl ?_
   refine RL.skip rfl rfl ?_
   refine RL.skip rfl rfl ?_
   refine RL.skip rfl rfl ?_
   refine RL.skip rfl rfl ?_
   refine RL.pickT rfl rfl rfl rfl ?_
   refine RL.fin ?_
   cases h181
   exact fun a w st => mid_intro true h182 (St.cut [0, 1, 2, 3, 4] ⟨rfl, rfl, rfl, rfl, rfl, rfl, rfl, trivial⟩ (by decide) rfl st)
  replace h181 := ite_f b186 h181
  refine RL.mv rfl rfl rfl ?_
  refine RL.lenS 3 Try.underlying24 rfl rfl rfl rfl SlOf.own ?_
  refine RL.mv rfl rfl rfl ?_
  refine RL.lenS 0 Try.underlying33 rfl rfl rfl rfl SlOf.imm ?_
  refine RL.binI (v := .bool (((y170.1).length : Int) != ((l58).length : Int))) rfl rfl rfl rfl rfl ?_
  refine RL.pickF rfl rfl rfl rfl ?_
  refine RL.mv rfl rfl rfl ?_
  refine RL.split (t := 72) rfl (fun b187 => ?_) (fun b187 => ?_)
  ·replace h181 := ite_t b187 h181
   refine RL.skip rfl rfl ?_
   refine RL.skip rfl rfl ?_
   refine RL.skip rfl rfl ?_
   refine RL.skip rfl rfl ?_
   refine RL.skip rfl rfl ?_
   refine RL.pickT rfl rfl rfl rfl ?_
   refine RL.fin ?_
   cases h181
   exact fun a w st => mid_intro true h182 (St.cut [0, 1, 2, 3, 4] ⟨rfl, rfl, rfl, rfl, rfl, rfl, rfl, trivial⟩ (by decide) rfl st)
  replace h181 := ite_f b187 h181
  refine RL.mv rfl rfl rfl ?_
  refine RL.lenS 4 Try.underlying37 rfl rfl rfl rfl SlOf.own ?_
  refine RL.mv rfl rfl rfl ?_
  refine RL.lenS 0 Try.underlying33 rfl rfl rfl rfl SlOf.imm ?_
  refine RL.binI (v := .bool (((y170.2.1).length : Int) != ((l58).length : Int))) rfl rfl rfl rfl rfl ?_
  refine RL.pickF rfl rfl rfl rfl ?_
  refine RL.fin ?_
  cases h181
  exact fun a w st => mid_intro (((y170.2.1).length : Int) != ((l58).length : Int)) h182 (St.cut [0, 1, 2, 3, 4] ⟨rfl, rfl, rfl, rfl, rfl, rfl, rfl, trivial⟩ (by decide) rfl st)
 rintro x178 h188
 have h189 := h183 _ h188
 try dsimp only at h189
 refine GL.weak (env' := [(0, v14), (1, v1), (2, v2), (9, v172), (10, v173), (11, .int .i64 y170.2.2), (78, .bool x178)]) (L' := [imm (TR.sl (TR.pair TR.int (TR.pair (TR.sl TR.int) (TR.sl TR.int)))) v14 l58, imm (TR.sl TR.int) v1 x1, imm (TR.sl TR.int) v2 x2, own 3 TR.int v172 y170.1, own 24 (TR.sl TR.int) v173 y170.2.1]) (fun _ _ st => st) ?_
 refine GL.cond rfl (fun b190 => ?_) (fun b190 => ?_)
 ·replace h189 := ite_t b190 h189
  refine GL.seq ?_
  obtain ⟨y194, K195, h196, h197, h198, h199, h200⟩ := bindR_K h189
  refine GL.join (ι := Bool) (fun (p : Bool) => [(6, .bool p)]) (fun (p : Bool) => []) (fun (p : Bool) => K195 (.nx p)) ?_ ?_
  ·skip
   refine GL.region ?_
   refine RL.mv rfl rfl rfl ?_
   refine RL.binI (v := .bool (y170.2.2 != (0 : Int))) rfl rfl rfl rfl rfl ?_
   refine RL.mv rfl rfl rfl ?_
   refine RL.split (t := 81) rfl (fun b201 => ?_) (fun b201 => ?_)
   ·replace h196 := ite_t b201 h196
    refine RL.mv rfl rfl rfl ?_
    refine RL.lenS 3 Try.underlying24 rfl rfl rfl rfl SlOf.own ?_
    refine RL.mv rfl rfl rfl ?_
    refine RL.lenS 4 Try.underlying37 rfl rfl rfl rfl SlOf.own ?_
    refine RL.binI (v := .int .i64 (wadd ((y170.1).length : Int) ((y170.2.1).length : Int))) rfl rfl rfl rfl rfl ?_
    refine RL.binI (v := .bool ((wadd ((y170.1).length : Int) ((y170.2.1).length : Int)) == (0 : Int))) rfl rfl rfl rfl rfl ?_
    refine RL.pickT rfl rfl rfl rfl ?_
    refine RL.asg rfl rfl rfl ?_
    refine RL.fin ?_
    cases h196
    exact fun a w st => mid_intro ((wadd ((y170.1).length : Int) ((y170.2.1).length : Int)) == (0 : Int)) h197 (St.cut [] ⟨rfl, trivial⟩ (by decide) rfl st)
   replace h196 := ite_f b201 h196
   refine RL.skip rfl rfl ?_
   refine RL.skip rfl rfl ?_
   refine RL.skip rfl rfl ?_
   refine RL.skip rfl rfl ?_
   refine RL.skip rfl rfl ?_
   refine RL.skip rfl rfl ?_
   refine RL.pickF rfl rfl rfl rfl ?_
   refine RL.asg rfl rfl rfl ?_
   refine RL.fin ?_
   cases h196
   exact fun a w st => mid_intro false h197 (St.cut [] ⟨rfl, trivial⟩ (by decide) rfl st)
  rintro x193 h202
  have h203 := h198 _ h202
  try dsimp only at h203
  refine GL.weak (env' := [(6, .bool x193)]) (L' := []) (fun _ _ st => st) ?_
  have h203 := Option.some.inj h203
  subst h203
  exact GL.ret (Gx.ret (v := .bool x193) (res1 rfl rfl) (fun a w st => st.toPostV))
 replace h189 := ite_f b190 h189
 refine GL.skip ?_
 refine GL.seq ?_
 refine GL.region ?_
 refine RL.mv rfl rfl rfl ?_
 obtain ⟨y210, e211, h189⟩ := bind_some h189
 refine RL.callU (vs := [v172]) (LR := fun (o : Value) => [own 3 TR.int o y210]) (fun o => ⟨Loc.own TR.flatT_ik, trivial⟩) Try_fit18 rfl rfl rfl rfl rfl (fun U w hU hW hL => slices_Clone_int_int_c U w hU _ _ (hL 3 _ _ rfl Seen.own) _ e211) ?_
 intro v212
 refine RL.mv rfl rfl rfl ?_
 obtain ⟨y213, e214, h189⟩ := bind_some h189
 refine RL.callU (vs := [v172]) (LR := fun (o : Value) => [own 3 TR.int o y213]) (fun o => ⟨Loc.own TR.flatT_ik, trivial⟩) Try_fit18 rfl rfl rfl rfl rfl (fun U w hU hW hL => slices_Clone_int_int_c U w hU _ _ (hL 3 _ _ rfl Seen.own) _ e214) ?_
 intro v215
 refine RL.asg rfl rfl rfl ?_
 refine RL.asg rfl rfl rfl ?_
 refine RL.finG ?_
 refine GL.seq ?_
 refine GL.seq ?_
 refine GL.region ?_
 refine RL.mv rfl rfl rfl ?_
 refine RL.lenS 0 Try.underlying33 rfl rfl rfl rfl SlOf.imm ?_
 refine RL.mv rfl rfl rfl ?_
 refine RL.finG ?_
 refine GL.open_ 0 rfl (fun S h => len_imm S h) (fun n396 => ?_)
 obtain ⟨y397, K398, h399, h400, h401, h402, h403⟩ := bindR_K h189
 refine GL.join (ι := (List Int) × (List Int)) (fun (p : (List Int) × (List Int)) => [(0, v14), (10, v173), (12, v212), (13, v215)]) (fun (p : (List Int) × (List Int)) => [imm (TR.sl (TR.pair TR.int (TR.pair (TR.sl TR.int) (TR.sl TR.int)))) v14 l58, own 24 (TR.sl TR.int) v173 y170.2.1, own 3 TR.int v212 p.1, own 3 TR.int v215 p.2]) (fun (p : (List Int) × (List Int)) => K398 (.nx (p.1, p.2))) ?_ ?_
 ·refine GL.block ?_
  refine GL.loop (ι := Nat × (List (Int × ((List Int) × (List Int)))) × (List Int) × (List Int)) (fun (p : Nat × (List (Int × ((List Int) × (List Int)))) × (List Int) × (List Int)) => [(0, v14), (1, v1), (2, v2), (10, v173), (12, v212), (13, v215), (93, v14), (94, .int .i64 ((l58).length : Int)), (95, .int .i64 (p.1 : Int))]) (fun (p : Nat × (List (Int × ((List Int) × (List Int)))) × (List Int) × (List Int)) => [imm (TR.sl (TR.pair TR.int (TR.pair (TR.sl TR.int) (TR.sl TR.int)))) v14 l58, imm (TR.sl TR.int) v1 x1, imm (TR.sl TR.int) v2 x2, own 24 (TR.sl TR.int) v173 y170.2.1, own 3 TR.int v212 p.2.2.1, own 3 TR.int v215 p.2.2.2]) (fun (p : Nat × (List (Int × ((List Int) × (List Int)))) × (List Int) × (List Int)) => p.1 + p.2.1.length = (l58).length ∧ List.drop p.1 l58 = p.2.1 ∧ rangeL (pk_TreeZermelo_b2 x1 x2) p.2.1 p.1 (p.2.2.1, p.2.2.2) = some y397) (fun (p : Nat × (List (Int × ((List Int) × (List Int)))) × (List Int) × (List Int)) => p.2.1.length) (0, l58, y210, y213) ⟨by simp, by simp, h399⟩ (fun a w st => St.cut [0, 1, 2, 4, 5, 6] ⟨rfl, rfl, rfl, rfl, rfl, rfl, rfl, rfl, rfl, trivial⟩ (by decide) rfl st) ?_
  rintro ⟨i404, r405, l305, l306⟩ ⟨h410, h411, h409⟩
  try dsimp only at h410 h411 h409
  refine GL.weak (env' := [(0, v14), (1, v1), (2, v2), (10, v173), (12, v212), (13, v215), (93, v14), (94, .int .i64 ((l58).length : Int)), (95, .int .i64 (i404 : Int))]) (L' := [imm (TR.sl (TR.pair TR.int (TR.pair (TR.sl TR.int) (TR.sl TR.int)))) v14 l58, imm (TR.sl TR.int) v1 x1, imm (TR.sl TR.int) v2 x2, own 24 (TR.sl TR.int) v173 y170.2.1, own 3 TR.int v212 l305, own 3 TR.int v215 l306]) (fun _ _ st => st) ?_
  refine GL.seq ?_
  refine GL.region ?_
  refine RL.binI (v := .bool (decide ((i404 : Int) < ((l58).length : Int)))) rfl rfl rfl rfl rfl ?_
  refine RL.finG ?_
  refine GL.seq ?_
  refine GL.cond rfl (fun b412 => ?_) (fun b412 => ?_)
  ·have h413 : i404 < (l58).length := by have := of_decide_eq_true b412; omega
   obtain ⟨y414, r416, hr, e415, h417⟩ := drop_cons h411 rfl h413
   subst hr
   obtain ⟨z406, h407, h408⟩ := rangeL_some h409
   unfold pk_TreeZermelo_b2 at h407
   try dsimp only at h407
   refine GL.skip ?_
   refine GL.seq ?_
   refine GL.block ?_
   refine GL.seq ?_
   refine GL.region ?_
   refine RL.mv rfl rfl rfl ?_
   refine RL.idxS (sz := 3) 0 Try.underlying33 Try_ln36 rfl rfl rfl rfl rfl SlOf.imm (by omega) (by omega) ?_
   refine RL.ldS (i := i404) (r := (TR.pair TR.int (TR.pair (TR.sl TR.int) (TR.sl TR.int)))) (e' := y414) 0 Try_ln36 rfl rfl rfl rfl SlOf.imm e415 Part.self ?_
   intro v420
   refine RL.alloc (t := (TR.pair TR.int (TR.pair (TR.sl TR.int) (TR.sl TR.int)))) (z := ((0 : Int), ([] : (List Int)), ([] : (List Int)))) Try_lo36 (fun S => ⟨[.int .i64 0], _, rfl, rfl, ⟨[.slice none 0 0], _, rfl, ⟨_, [], rfl, ⟨none, 0, rfl, Nat.le_refl _, Nat.zero_le _, Or.inl ⟨rfl, rfl⟩⟩, rfl⟩, ⟨_, [], rfl, ⟨none, 0, rfl, Nat.le_refl _, Nat.zero_le _, Or.inl ⟨rfl, rfl⟩⟩, rfl⟩⟩⟩) rfl rfl rfl ?_
   intro v421
   refine RL.reL (L' := [imm (TR.sl (TR.pair TR.int (TR.pair (TR.sl TR.int) (TR.sl TR.int)))) v14 l58, imm (TR.sl TR.int) v1 x1, imm (TR.sl TR.int) v2 x2, own 24 (TR.sl TR.int) v173 y170.2.1, own 3 TR.int v212 l305, own 3 TR.int v215 l306, imm (TR.pair TR.int (TR.pair (TR.sl TR.int) (TR.sl TR.int))) v420 y414, obox 36 (TR.pair TR.int (TR.pair (TR.sl TR.int) (TR.sl TR.int))) v421 ((0 : Int), ([] : (List Int)), ([] : (List Int)))]) rfl ?_
   refine RL.asg rfl rfl rfl ?_
   refine RL.stP (off := 0) (e' := y414) (d1 := y414) (r := (TR.pair TR.int (TR.pair (TR.sl TR.int) (TR.sl TR.int)))) 7 Try_ln36 rfl rfl (Or.inr ⟨rfl, rfl⟩) rfl (VR.item 6 rfl) rfl Upd.self ?_
   refine RL.finG ?_
   refine GL.seq ?_
   refine GL.seq ?_
   obtain ⟨y425, K426, h427, h428, h429, h430, h431⟩ := bindF_K h407
   refine GL.join (ι := Bool) (fun (p : Bool) => [(0, v14), (1, v1), (2, v2), (10, v173), (12, v212), (13, v215), (14, .int .i64 (i404 : Int)), (15, v421), (93, v14), (94, .int .i64 ((l58).length : Int)), (95, .int .i64 (i404 : Int)), (108, .bool p)]) (fun (p : Bool) => [imm (TR.sl (TR.pair TR.int (TR.pair (TR.sl TR.int) (TR.sl TR.int)))) v14 l58, imm (TR.sl TR.int) v1 x1, imm (TR.sl TR.int) v2 x2, own 24 (TR.sl TR.int) v173 y170.2.1, own 3 TR.int v212 l305, own 3 TR.int v215 l306, obox 36 (TR.pair TR.int (TR.pair (TR.sl TR.int) (TR.sl TR.int))) v421 y414]) (fun (p : Bool) => K426 (.nx p)) ?_ ?_
   ·skip
    refine GL.region ?_
    refine RL.fadr (off := 0) (fo := 0) 7 Try_fld36_0 rfl rfl rfl PtOf.obox (Or.inr ⟨rfl, rfl⟩) ?_
    refine RL.ldPx (off := (0 + 0)) (e' := y414.1) 7 Ex.ik Try_ln3 rfl rfl (Or.inl rfl) rfl PtOf.obox (Part.fst Part.self) ?_
    refine RL.binI (v := .bool (y414.1 == (1 : Int))) rfl rfl rfl rfl rfl ?_
    refine RL.mv rfl rfl rfl ?_
    refine RL.split (t := 103) rfl (fun b432 => ?_) (fun b432 => ?_)
    ·replace h427 := ite_t b432 h427
     refine RL.mv rfl rfl rfl ?_
     refine RL.mv rfl rfl rfl ?_
     refine RL.lenS 1 Try.underlying24 rfl rfl rfl rfl SlOf.imm ?_
     refine RL.binI (v := .bool (decide ((i404 : Int) < ((x1).length : Int)))) rfl rfl rfl rfl rfl ?_
     refine RL.pickT rfl rfl rfl rfl ?_
     refine RL.fin ?_
     cases h427
     exact fun a w st => mid_intro (decide ((i404 : Int) < ((x1).length : Int))) h428 (St.cut [0, 1, 2, 3, 4, 5, 7] ⟨rfl, rfl, rfl, rfl, rfl, rfl, rfl, rfl, rfl, rfl, rfl, rfl, trivial⟩ (by decide) rfl st)
    replace h427 := ite_f b432 h427
    refine RL.skip rfl rfl ?_
    refine RL.skip rfl rfl ?_
    refine RL.skip rfl rfl ?_
    refine RL.skip rfl rfl ?_
    refine RL.pickF rfl rfl rfl rfl ?_
    refine RL.fin ?_
    cases h427
    exact fun a w st => mid_intro false h428 (St.cut [0, 1, 2, 3, 4, 5, 7] ⟨rfl, rfl, rfl, rfl, rfl, rfl, rfl, rfl, rfl, rfl, rfl, rfl, trivial⟩ (by decide) rfl st)
   rintro x424 h433
   have h434 := h429 _ h433
   try dsimp only at h434
   refine GL.weak (env' := [(0, v14), (1, v1), (2, v2), (10, v173), (12, v212), (13, v215), (14, .int .i64 (i404 : Int)), (15, v421), (93, v14), (94, .int .i64 ((l58).length : Int)), (95, .int .i64 (i404 : Int)), (108, .bool x424)]) (L' := [imm (TR.sl (TR.pair TR.int (TR.pair (TR.sl TR.int) (TR.sl TR.int)))) v14 l58, imm (TR.sl TR.int) v1 x1, imm (TR.sl TR.int) v2 x2, own 24 (TR.sl TR.int) v173 y170.2.1, own 3 TR.int v212 l305, own 3 TR.int v215 l306, obox 36 (TR.pair TR.int (TR.pair (TR.sl TR.int) (TR.sl TR.int))) v421 y414]) (fun _ _ st => st) ?_
   obtain ⟨y451, K452, h453, h454, h455, h456, h457⟩ := bindF_K h434
   refine GL.join (ι := (List Int)) (fun (p : (List Int)) => [(0, v14), (1, v1), (2, v2), (10, v173), (12, v212), (13, v215), (14, .int .i64 (i404 : Int)), (15, v421), (93, v14), (94, .int .i64 ((l58).length : Int)), (95, .int .i64 (i404 : Int))]) (fun (p : (List Int)) => [imm (TR.sl (TR.pair TR.int (TR.pair (TR.sl TR.int) (TR.sl TR.int)))) v14 l58, imm (TR.sl TR.int) v1 x1, imm (TR.sl TR.int) v2 x2, own 24 (TR.sl TR.int) v173 y170.2.1, own 3 TR.int v212 p, own 3 TR.int v215 l306, obox 36 (TR.pair TR.int (TR.pair (TR.sl TR.int) (TR.sl TR.int))) v421 y414]) (fun (p : (List Int)) => K452 (.nx p)) ?_ ?_
   ·skip
    refine GL.cond rfl (fun b458 => ?_) (fun b458 => ?_)
    ·replace h453 := ite_t b458 h453
     refine GL.regionH 11 rfl rfl (by kernel_rfl) ?_
     simp only [List.take_succ_cons, List.take_zero, List.drop_succ_cons, List.drop_zero]
     refine RL.mv rfl rfl rfl ?_
     refine RL.mv rfl rfl rfl ?_
     refine RL.mv rfl rfl rfl ?_
     refine RL.mv rfl rfl rfl ?_
     obtain ⟨y466, e467, h453⟩ := bind_some h453
     refine RL.idxS (sz := 1) 1 Try.underlying24 Try_ln3 rfl rfl rfl rfl rfl SlOf.imm (idx_some e467).1 (idx_some e467).2.1 ?_
     refine RL.ldSx (i := i404) (e' := y466) 1 Ex.ik Try_ln3 rfl rfl rfl rfl SlOf.imm (idx_some e467).2.2 Part.self ?_
     refine RL.fadr (off := 0) (fo := 1) 6 Try_fld36_1 rfl rfl rfl PtOf.obox (Or.inr ⟨rfl, rfl⟩) ?_
     refine RL.ldP (off := (0 + 1)) (r := (TR.sl TR.int)) (e' := y414.2.1) 6 Try_ln24 rfl rfl (Or.inl rfl) rfl PtOf.obox (Part.snd (Part.fst Part.self)) ?_
     intro v468
     refine RL.lenS 7 Try.underlying24 rfl rfl rfl rfl SlOf.imm ?_
     obtain ⟨y469, e470, h453⟩ := bind_some h453
     refine RL.callC (v := .int .i64 y469) (vs := [.int .i64 y466, .int .i64 ((y414.2.1).length : Int)]) Try_fit12 rfl rfl rfl rfl (fun U w hU hW hL => pk_Within_c U w hU y466 ((y414.2.1).length : Int) _ e470) ?_
     obtain ⟨y471, e472, h453⟩ := bind_some h453
     refine RL.idxS (sz := 1) 4 Try.underlying24 Try_ln3 rfl rfl rfl rfl rfl SlOf.own (idx_some e472).1 (idx_some e472).2.1 ?_
     refine RL.finH ?_
     refine RL.stS (i := i404) (e' := y469) (e1 := y469) (r := TR.int) 4 Try_ln3 rfl rfl rfl rfl VR.int rfl (idx_some e472).2.2 Upd.self ?_
     refine RL.reL (L' := [imm (TR.sl (TR.pair TR.int (TR.pair (TR.sl TR.int) (TR.sl TR.int)))) v14 l58, imm (TR.sl TR.int) v1 x1, imm (TR.sl TR.int) v2 x2, own 24 (TR.sl TR.int) v173 y170.2.1, own 3 TR.int v212 (List.set l305 i404 y469), own 3 TR.int v215 l306, obox 36 (TR.pair TR.int (TR.pair (TR.sl TR.int) (TR.sl TR.int))) v421 y414, imm (TR.sl TR.int) v468 y414.2.1]) rfl ?_
     refine RL.finG ?_
     cases h453
     exact fun a w st => mid_intro (List.set l305 i404 y469) h454 (St.cut [0, 1, 2, 3, 4, 5, 6] ⟨rfl, rfl, rfl, rfl, rfl, rfl, rfl, rfl, rfl, rfl, rfl, trivial⟩ (by decide) rfl st)
    replace h453 := ite_f b458 h453
    refine GL.skip ?_
    cases h453
    exact fun a w st => mid_intro l305 h454 (St.cut [0, 1, 2, 3, 4, 5, 6] ⟨rfl, rfl, rfl, rfl, rfl, rfl, rfl, rfl, rfl, rfl, rfl, trivial⟩ (by decide) rfl st)
   rintro l450 h473
   have h474 := h455 _ h473
   try dsimp only at h474
   refine GL.weak (env' := [(0, v14), (1, v1), (2, v2), (10, v173), (12, v212), (13, v215), (14, .int .i64 (i404 : Int)), (15, v421), (93, v14), (94, .int .i64 ((l58).length : Int)), (95, .int .i64 (i404 : Int))]) (L' := [imm (TR.sl (TR.pair TR.int (TR.pair (TR.sl TR.int) (TR.sl TR.int)))) v14 l58, imm (TR.sl TR.int) v1 x1, imm (TR.sl TR.int) v2 x2, own 24 (TR.sl TR.int) v173 y170.2.1, own 3 TR.int v212 l450, own 3 TR.int v215 l306, obox 36 (TR.pair TR.int (TR.pair (TR.sl TR.int) (TR.sl TR.int))) v421 y414]) (fun _ _ st => st) ?_
   refine GL.seq ?_
   obtain ⟨y478, K479, h480, h481, h482, h483, h484⟩ := bindF_K h474
   refine GL.join (ι := Bool) (fun (p : Bool) => [(0, v14), (1, v1), (2, v2), (10, v173), (12, v212), (13, v215), (14, .int .i64 (i404 : Int)), (15, v421), (93, v14), (94, .int .i64 ((l58).length : Int)), (95, .int .i64 (i404 : Int)), (128, .bool p)]) (fun (p : Bool) => [imm (TR.sl (TR.pair TR.int (TR.pair (TR.sl TR.int) (TR.sl TR.int)))) v14 l58, imm (TR.sl TR.int) v1 x1, imm (TR.sl TR.int) v2 x2, own 24 (TR.sl TR.int) v173 y170.2.1, own 3 TR.int v212 l450, own 3 TR.int v215 l306, obox 36 (TR.pair TR.int (TR.pair (TR.sl TR.int) (TR.sl TR.int))) v421 y414]) (fun (p : Bool) => K479 (.nx p)) ?_ ?_
   ·skip
    refine GL.region ?_
    refine RL.fadr (off := 0) (fo := 0) 6 Try_fld36_0 rfl rfl rfl PtOf.obox (Or.inr ⟨rfl, rfl⟩) ?_
    refine RL.ldPx (off := (0 + 0)) (e' := y414.1) 6 Ex.ik Try_ln3 rfl rfl (Or.inl rfl) rfl PtOf.obox (Part.fst Part.self) ?_
    refine RL.binI (v := .bool (y414.1 == (0 : Int))) rfl rfl rfl rfl rfl ?_
    refine RL.mv rfl rfl rfl ?_
    refine RL.split (t := 123) rfl (fun b485 => ?_) (fun b485 => ?_)
    ·replace h480 := ite_t b485 h480
     refine RL.mv rfl rfl rfl ?_
     refine RL.mv rfl rfl rfl ?_
     refine RL.lenS 2 Try.underlying24 rfl rfl rfl rfl SlOf.imm ?_
     refine RL.binI (v := .bool (decide ((i404 : Int) < ((x2).length : Int)))) rfl rfl rfl rfl rfl ?_
     refine RL.pickT rfl rfl rfl rfl ?_
     refine RL.fin ?_
     cases h480
     exact fun a w st => mid_intro (decide ((i404 : Int) < ((x2).length : Int))) h481 (St.cut [0, 1, 2, 3, 4, 5, 6] ⟨rfl, rfl, rfl, rfl, rfl, rfl, rfl, rfl, rfl, rfl, rfl, rfl, trivial⟩ (by decide) rfl st)
    replace h480 := ite_f b485 h480
    refine RL.skip rfl rfl ?_
    refine RL.skip rfl rfl ?_
    refine RL.skip rfl rfl ?_
    refine RL.skip rfl rfl ?_
    refine RL.pickF rfl rfl rfl rfl ?_
    refine RL.fin ?_
    cases h480
    exact fun a w st => mid_intro false h481 (St.cut [0, 1, 2, 3, 4, 5, 6] ⟨rfl, rfl, rfl, rfl, rfl, rfl, rfl, rfl, rfl, rfl, rfl, rfl, trivial⟩ (by decide) rfl st)
   rintro x477 h486
   have h487 := h482 _ h486
   try dsimp only at h487
   refine GL.weak (env' := [(0, v14), (1, v1), (2, v2), (10, v173), (12, v212), (13, v215), (14, .int .i64 (i404 : Int)), (15, v421), (93, v14), (94, .int .i64 ((l58).length : Int)), (95, .int .i64 (i404 : Int)), (128, .bool x477)]) (L' := [imm (TR.sl (TR.pair TR.int (TR.pair (TR.sl TR.int) (TR.sl TR.int)))) v14 l58, imm (TR.sl TR.int) v1 x1, imm (TR.sl TR.int) v2 x2, own 24 (TR.sl TR.int) v173 y170.2.1, own 3 TR.int v212 l450, own 3 TR.int v215 l306, obox 36 (TR.pair TR.int (TR.pair (TR.sl TR.int) (TR.sl TR.int))) v421 y414]) (fun _ _ st => st) ?_
   refine GL.cond rfl (fun b488 => ?_) (fun b488 => ?_)
   ·replace h487 := ite_t b488 h487
    refine GL.regionH 11 rfl rfl (by kernel_rfl) ?_
    simp only [List.take_succ_cons, List.take_zero, List.drop_succ_cons, List.drop_zero]
    refine RL.mv rfl rfl rfl ?_
    refine RL.mv rfl rfl rfl ?_
    refine RL.mv rfl rfl rfl ?_
    refine RL.mv rfl rfl rfl ?_
    obtain ⟨y496, e497, h487⟩ := bind_some h487
    refine RL.idxS (sz := 1) 2 Try.underlying24 Try_ln3 rfl rfl rfl rfl rfl SlOf.imm (idx_some e497).1 (idx_some e497).2.1 ?_
    refine RL.ldSx (i := i404) (e' := y496) 2 Ex.ik Try_ln3 rfl rfl rfl rfl SlOf.imm (idx_some e497).2.2 Part.self ?_
    refine RL.fadr (off := 0) (fo := 1) 6 Try_fld36_1 rfl rfl rfl PtOf.obox (Or.inr ⟨rfl, rfl⟩) ?_
    refine RL.ldP (off := (0 + 1)) (r := (TR.sl TR.int)) (e' := y414.2.1) 6 Try_ln24 rfl rfl (Or.inl rfl) rfl PtOf.obox (Part.snd (Part.fst Part.self)) ?_
    intro v498
    refine RL.lenS 7 Try.underlying24 rfl rfl rfl rfl SlOf.imm ?_
    obtain ⟨y499, e500, h487⟩ := bind_some h487
    refine RL.callC (v := .int .i64 y499) (vs := [.int .i64 y496, .int .i64 ((y414.2.1).length : Int)]) Try_fit12 rfl rfl rfl rfl (fun U w hU hW hL => pk_Within_c U w hU y496 ((y414.2.1).length : Int) _ e500) ?_
    obtain ⟨y501, e502, h487⟩ := bind_some h487
    refine RL.idxS (sz := 1) 5 Try.underlying24 Try_ln3 rfl rfl rfl rfl rfl SlOf.own (idx_some e502).1 (idx_some e502).2.1 ?_
    refine RL.finH ?_
    refine RL.stS (i := i404) (e' := y499) (e1 := y499) (r := TR.int) 5 Try_ln3 rfl rfl rfl rfl VR.int rfl (idx_some e502).2.2 Upd.self ?_
    refine RL.reL (L' := [imm (TR.sl (TR.pair TR.int (TR.pair (TR.sl TR.int) (TR.sl TR.int)))) v14 l58, imm (TR.sl TR.int) v1 x1, imm (TR.sl TR.int) v2 x2, own 24 (TR.sl TR.int) v173 y170.2.1, own 3 TR.int v212 l450, own 3 TR.int v215 (List.set l306 i404 y499), obox 36 (TR.pair TR.int (TR.pair (TR.sl TR.int) (TR.sl TR.int))) v421 y414, imm (TR.sl TR.int) v498 y414.2.1]) rfl ?_
    refine RL.finG ?_
    refine GL.nilB ?_
    refine GL.region ?_
    refine RL.binI (v := .int .i64 ((i404 + 1 : Nat) : Int)) rfl rfl rfl rfl (binI_succ i404 (by omega)) ?_
    refine RL.mv rfl rfl rfl ?_
    refine RL.fin ?_
    cases h487
    exact fun a w st => lop_intro (i404 + 1, r416, l450, (List.set l306 i404 y499)) ⟨by show i404 + 1 + r416.length = (l58).length; simp only [List.length_cons] at h410; omega, h417, h408⟩ (by simp) (St.cut [0, 1, 2, 3, 4, 5] ⟨rfl, rfl, rfl, rfl, rfl, rfl, rfl, rfl, rfl, trivial⟩ (by decide) rfl st)
   replace h487 := ite_f b488 h487
   refine GL.skip ?_
   refine GL.nilB ?_
   refine GL.region ?_
   refine RL.binI (v := .int .i64 ((i404 + 1 : Nat) : Int)) rfl rfl rfl rfl (binI_succ i404 (by omega)) ?_
   refine RL.mv rfl rfl rfl ?_
   refine RL.fin ?_
   cases h487
   exact fun a w st => lop_intro (i404 + 1, r416, l450, l306) ⟨by show i404 + 1 + r416.length = (l58).length; simp only [List.length_cons] at h410; omega, h417, h408⟩ (by simp) (St.cut [0, 1, 2, 3, 4, 5] ⟨rfl, rfl, rfl, rfl, rfl, rfl, rfl, rfl, rfl, trivial⟩ (by decide) rfl st)
  have h413 : ¬ i404 < (l58).length := by have := of_decide_eq_false b412; omega
  obtain rfl : r405 = [] := by rw [← h411]; exact List.drop_of_length_le (by omega)
  replace h409 : some (Fl.nx _) = some y397 := h409
  cases h409
  exact GL.exit (fun a w st => mid_intro (l305, l306) h400 (St.cut [0, 3, 4, 5] ⟨rfl, rfl, rfl, rfl, trivial⟩ (by decide) rfl st))
 rintro ⟨l305, l306⟩ h503
 have h504 := h401 _ h503
 try dsimp only at h504
 refine GL.weak (env' := [(0, v14), (10, v173), (12, v212), (13, v215)]) (L' := [imm (TR.sl (TR.pair TR.int (TR.pair (TR.sl TR.int) (TR.sl TR.int)))) v14 l58, own 24 (TR.sl TR.int) v173 y170.2.1, own 3 TR.int v212 l305, own 3 TR.int v215 l306]) (fun _ _ st => st) ?_
 refine GL.seq ?_
 refine GL.region ?_
 refine RL.mv rfl rfl rfl ?_
 refine RL.mv rfl rfl rfl ?_
 obtain ⟨y509, e510, h504⟩ := bind_some h504
 refine RL.callU (vs := [.int .i64 (2 : Int), v14, v212]) (LR := fun (o : Value × Value) => [own 3 TR.int o.1 y509.1, own 3 TR.int o.2 y509.2.1]) (fun o => ⟨Loc.own TR.flatT_ik, ⟨Loc.own TR.flatT_ik, trivial⟩⟩) Try_fit19 rfl rfl rfl rfl rfl (fun U w hU hW hL => tree_Play_c U w hU (2 : Int) _ _ (hL 0 _ _ rfl Seen.imm) _ _ (hL 2 _ _ rfl Seen.own) _ e510) ?_
 intro ⟨v511, v512⟩
 refine RL.mv rfl rfl rfl ?_
 refine RL.ext rfl rfl rfl rfl ?_
 refine RL.ext rfl rfl rfl rfl ?_
 refine RL.ext rfl rfl rfl rfl ?_
 refine RL.asg rfl rfl rfl ?_
 refine RL.asg rfl rfl rfl ?_
 refine RL.asg rfl rfl rfl ?_
 refine RL.finG ?_
 refine GL.seq ?_
 refine GL.region ?_
 refine RL.mv rfl rfl rfl ?_
 refine RL.mv rfl rfl rfl ?_
 obtain ⟨y517, e518, h504⟩ := bind_some h504
 refine RL.callU (vs := [.int .i64 (2 : Int), v14, v215]) (LR := fun (o : Value × Value) => [own 3 TR.int o.1 y517.1, own 3 TR.int o.2 y517.2.1]) (fun o => ⟨Loc.own TR.flatT_ik, ⟨Loc.own TR.flatT_ik, trivial⟩⟩) Try_fit19 rfl rfl rfl rfl rfl (fun U w hU hW hL => tree_Play_c U w hU (2 : Int) _ _ (hL 0 _ _ rfl Seen.imm) _ _ (hL 3 _ _ rfl Seen.own) _ e518) ?_
 intro ⟨v519, v520⟩
 refine RL.mv rfl rfl rfl ?_
 refine RL.ext rfl rfl rfl rfl ?_
 refine RL.ext rfl rfl rfl rfl ?_
 refine RL.ext rfl rfl rfl rfl ?_
 refine RL.asg rfl rfl rfl ?_
 refine RL.asg rfl rfl rfl ?_
 refine RL.asg rfl rfl rfl ?_
 refine RL.finG ?_
 refine GL.seq ?_
 obtain ⟨y572, K573, h574, h575, h576, h577, h578⟩ := bindR_K h504
 refine GL.join (ι := Bool) (fun (p : Bool) => [(6, .bool p)]) (fun (p : Bool) => []) (fun (p : Bool) => K573 (.nx p)) ?_ ?_
 ·skip
  refine GL.regionA rfl rfl ?_
  refine RA.mv 0 rfl (by kernel_rfl) rfl rfl rfl ?_
  refine RA.mv 1 rfl (by kernel_rfl) rfl rfl rfl ?_
  refine RA.seq 2 rfl (by kernel_rfl) ?_
  refine RL.bS (t := TR.int) (vs := [.int .i64 y509.2.2, .int .i64 y517.2.2]) ([y509.2.2, y517.2.2] : (List Int)) Try.underlying101 Try_lo25 rfl rfl rfl rfl ⟨VR.int, ⟨VR.int, trivial⟩⟩ rfl (by decide) ?_
  intro v579
  refine RL.fin ?_
  refine RA.next ?_
  refine RA.quiet 3 rfl rfl (by kernel_rfl) ?_
  simp only [List.drop_succ_cons, List.drop_zero]
  obtain ⟨y580, e581, h574⟩ := bind_some h574
  refine RL.callV (v := .bool y580) (vs := [v579]) Try_fit20 rfl (Or.inr ⟨_, rfl⟩) rfl rfl rfl rfl (fun U w hU hW hL => pk_good_c U w hU _ _ (hL 8 _ _ rfl Seen.own) _ e581) ?_
  refine RL.mv rfl rfl rfl ?_
  refine RL.split (t := 159) rfl (fun b582 => ?_) (fun b582 => ?_)
  ·replace h574 := ite_t b582 h574
   refine RL.mv rfl rfl rfl ?_
   refine RL.lenS 5 Try.underlying24 rfl rfl rfl rfl SlOf.own ?_
   refine RL.binI (v := .bool (((y509.2.1).length : Int) == (2 : Int))) rfl rfl rfl rfl rfl ?_
   refine RL.pickT rfl rfl rfl rfl ?_
   refine RL.mv rfl rfl rfl ?_
   refine RL.split (t := 164) rfl (fun b583 => ?_) (fun b583 => ?_)
   ·replace h574 := ite_t b583 h574
    refine RL.mv rfl rfl rfl ?_
    refine RL.lenS 7 Try.underlying24 rfl rfl rfl rfl SlOf.own ?_
    refine RL.binI (v := .bool (((y517.2.1).length : Int) == (2 : Int))) rfl rfl rfl rfl rfl ?_
    refine RL.pickT rfl rfl rfl rfl ?_
    refine RL.mv rfl rfl rfl ?_
    refine RL.split (t := 169) rfl (fun b584 => ?_) (fun b584 => ?_)
    ·replace h574 := ite_t b584 h574
     refine RL.mv rfl rfl rfl ?_
     obtain ⟨y585, e586, h574⟩ := bind_some h574
     refine RL.idxS (sz := 1) 1 Try.underlying37 Try_ln24 rfl rfl rfl rfl rfl SlOf.own (idx_some e586).1 (idx_some e586).2.1 ?_
     refine RL.ldS (i := ((0 : Int)).toNat) (r := (TR.sl TR.int)) (e' := y585) 1 Try_ln24 rfl rfl rfl rfl SlOf.own (idx_some e586).2.2 Part.self ?_
     intro v587
     refine RL.lenS 9 Try.underlying24 rfl rfl rfl rfl SlOf.imm ?_
     refine RL.binI (v := .bool (((y585).length : Int) == (2 : Int))) rfl rfl rfl rfl rfl ?_
     refine RL.pickT rfl rfl rfl rfl ?_
     refine RL.mv rfl rfl rfl ?_
     refine RL.split (t := 176) rfl (fun b588 => ?_) (fun b588 => ?_)
     ·replace h574 := ite_t b588 h574
      refine RL.mv rfl rfl rfl ?_
      obtain ⟨y589, e590, h574⟩ := bind_some h574
      refine RL.idxS (sz := 1) 5 Try.underlying24 Try_ln3 rfl rfl rfl rfl rfl SlOf.own (idx_some e590).1 (idx_some e590).2.1 ?_
      refine RL.ldSx (i := ((0 : Int)).toNat) (e' := y589) 5 Ex.ik Try_ln3 rfl rfl rfl rfl SlOf.own (idx_some e590).2.2 Part.self ?_
      refine RL.mv rfl rfl rfl ?_
      obtain ⟨y591, e592, h574⟩ := bind_some h574
      refine RL.idxS (sz := 1) 1 Try.underlying37 Try_ln24 rfl rfl rfl rfl rfl SlOf.own (idx_some e592).1 (idx_some e592).2.1 ?_
      refine RL.ldS (i := ((0 : Int)).toNat) (r := (TR.sl TR.int)) (e' := y591) 1 Try_ln24 rfl rfl rfl rfl SlOf.own (idx_some e592).2.2 Part.self ?_
      intro v593
      refine RL.reL (L' := [imm (TR.sl (TR.pair TR.int (TR.pair (TR.sl TR.int) (TR.sl TR.int)))) v14 l58, own 24 (TR.sl TR.int) v173 y170.2.1, own 3 TR.int v212 l305, own 3 TR.int v215 l306, own 3 TR.int v511 y509.1, own 3 TR.int v512 y509.2.1, own 3 TR.int v519 y517.1, own 3 TR.int v520 y517.2.1, own 25 TR.int v579 ([y509.2.2, y517.2.2] : (List Int)), imm (TR.sl TR.int) v587 y585, imm (TR.sl TR.int) v593 y591]) rfl ?_
      obtain ⟨y594, e595, h574⟩ := bind_some h574
      refine RL.idxS (sz := 1) 10 Try.underlying24 Try_ln3 rfl rfl rfl rfl rfl SlOf.imm (idx_some e595).1 (idx_some e595).2.1 ?_
      refine RL.ldSx (i := ((0 : Int)).toNat) (e' := y594) 10 Ex.ik Try_ln3 rfl rfl rfl rfl SlOf.imm (idx_some e595).2.2 Part.self ?_
      refine RL.binI (v := .bool (decide (y589 ≥ y594))) rfl rfl rfl rfl rfl ?_
      refine RL.pickT rfl rfl rfl rfl ?_
      refine RL.mv rfl rfl rfl ?_
      refine RL.split (t := 187) rfl (fun b596 => ?_) (fun b596 => ?_)
      ·replace h574 := ite_t b596 h574
       refine RL.mv rfl rfl rfl ?_
       obtain ⟨y597, e598, h574⟩ := bind_some h574
       refine RL.idxS (sz := 1) 7 Try.underlying24 Try_ln3 rfl rfl rfl rfl rfl SlOf.own (idx_some e598).1 (idx_some e598).2.1 ?_
       refine RL.ldSx (i := ((0 : Int)).toNat) (e' := y597) 7 Ex.ik Try_ln3 rfl rfl rfl rfl SlOf.own (idx_some e598).2.2 Part.self ?_
       refine RL.mv rfl rfl rfl ?_
       obtain ⟨y599, e600, h574⟩ := bind_some h574
       refine RL.idxS (sz := 1) 1 Try.underlying37 Try_ln24 rfl rfl rfl rfl rfl SlOf.own (idx_some e600).1 (idx_some e600).2.1 ?_
       refine RL.ldS (i := ((0 : Int)).toNat) (r := (TR.sl TR.int)) (e' := y599) 1 Try_ln24 rfl rfl rfl rfl SlOf.own (idx_some e600).2.2 Part.self ?_
       intro v601
       obtain ⟨y602, e603, h574⟩ := bind_some h574
       refine RL.idxS (sz := 1) 11 Try.underlying24 Try_ln3 rfl rfl rfl rfl rfl SlOf.imm (idx_some e603).1 (idx_some e603).2.1 ?_
       refine RL.ldSx (i := ((0 : Int)).toNat) (e' := y602) 11 Ex.ik Try_ln3 rfl rfl rfl rfl SlOf.imm (idx_some e603).2.2 Part.self ?_
       refine RL.binI (v := .bool (decide (y597 ≤ y602))) rfl rfl rfl rfl rfl ?_
       refine RL.pickT rfl rfl rfl rfl ?_
       refine RL.asg rfl rfl rfl ?_
       refine RL.finQ ?_
       refine RA.outQ ?_
       refine GL.nil ?_
       cases h574
       exact fun a w st => mid_intro (decide (y597 ≤ y602)) h575 (St.cut [] ⟨rfl, trivial⟩ (by decide) rfl st)
      replace h574 := ite_f b596 h574
      refine RL.skip rfl rfl ?_
      refine RL.skip rfl rfl ?_
      refine RL.skip rfl rfl ?_
      refine RL.skip rfl rfl ?_
      refine RL.skip rfl rfl ?_
      refine RL.skip rfl rfl ?_
      refine RL.skip rfl rfl ?_
      refine RL.skip rfl rfl ?_
      refine RL.skip rfl rfl ?_
      refine RL.pickF rfl rfl rfl rfl ?_
      refine RL.asg rfl rfl rfl ?_
      refine RL.finQ ?_
      refine RA.outQ ?_
      refine GL.nil ?_
      cases h574
      exact fun a w st => mid_intro false h575 (St.cut [] ⟨rfl, trivial⟩ (by decide) rfl st)
     replace h574 := ite_f b588 h574
     refine RL.skip rfl rfl ?_
     refine RL.skip rfl rfl ?_
     refine RL.skip rfl rfl ?_
     refine RL.skip rfl rfl ?_
     refine RL.skip rfl rfl ?_
     refine RL.skip rfl rfl ?_
     refine RL.skip rfl rfl ?_
     refine RL.skip rfl rfl ?_
     refine RL.skip rfl rfl ?_
     refine RL.pickF rfl rfl rfl rfl ?_
     refine RL.mv rfl rfl rfl ?_
     refine RL.skip rfl rfl ?_
     refine RL.skip rfl rfl ?_
     refine RL.skip rfl rfl ?_
     refine RL.skip rfl rfl ?_
     refine RL.skip rfl rfl ?_
     refine RL.skip rfl rfl ?_
     refine RL.skip rfl rfl ?_
     refine RL.skip rfl rfl ?_
     refine RL.skip rfl rfl ?_
     refine RL.pickF rfl rfl rfl rfl ?_
     refine RL.asg rfl rfl rfl ?_
     refine RL.finQ ?_
     refine RA.outQ ?_
     refine GL.nil ?_
     cases h574
     exact fun a w st => mid_intro false h575 (St.cut [] ⟨rfl, trivial⟩ (by decide) rfl st)
    replace h574 := ite_f b584 h574
    refine RL.skip rfl rfl ?_
    refine RL.skip rfl rfl ?_
    refine RL.skip rfl rfl ?_
    refine RL.skip rfl rfl ?_
    refine RL.skip rfl rfl ?_
    refine RL.pickF rfl rfl rfl rfl ?_
    refine RL.mv rfl rfl rfl ?_
    refine RL.skip rfl rfl ?_
    refine RL.skip rfl rfl ?_
    refine RL.skip rfl rfl ?_
    refine RL.skip rfl rfl ?_
    refine RL.skip rfl rfl ?_
    refine RL.skip rfl rfl ?_
    refine RL.skip rfl rfl ?_
    refine RL.skip rfl rfl ?_
    refine RL.skip rfl rfl ?_
    refine RL.pickF rfl rfl rfl rfl ?_
    refine RL.mv rfl rfl rfl ?_
    refine RL.skip rfl rfl ?_
    refine RL.skip rfl rfl ?_
    refine RL.skip rfl rfl ?_
    refine RL.skip rfl rfl ?_
    refine RL.skip rfl rfl ?_
    refine RL.skip rfl rfl ?_
    refine RL.skip rfl rfl ?_
    refine RL.skip rfl rfl ?_
    refine RL.skip rfl rfl ?_
    refine RL.pickF rfl rfl rfl rfl ?_
    refine RL.asg rfl rfl rfl ?_
    refine RL.finQ ?_
    refine RA.outQ ?_
    refine GL.nil ?_
    cases h574
    exact fun a w st => mid_intro false h575 (St.cut [] ⟨rfl, trivial⟩ (by decide) rfl st)
   replace h574 := ite_f b583 h574
   refine RL.skip rfl rfl ?_
   refine RL.skip rfl rfl ?_
   refine RL.skip rfl rfl ?_
   refine RL.pickF rfl rfl rfl rfl ?_
   refine RL.mv rfl rfl rfl ?_
   refine RL.skip rfl rfl ?_
   refine RL.skip rfl rfl ?_
   refine RL.skip rfl rfl ?_
   refine RL.skip rfl rfl ?_
   refine RL.skip rfl rfl ?_
   refine RL.pickF rfl rfl rfl rfl ?_
   refine RL.mv rfl rfl rfl ?_
   refine RL.skip rfl rfl ?_
   refine RL.skip rfl rfl ?_
   refine RL.skip rfl rfl ?_
   refine RL.skip rfl rfl ?_
   refine RL.skip rfl rfl ?_
   refine RL.skip rfl rfl ?_
   refine RL.skip rfl rfl ?_
   refine RL.skip rfl rfl ?_
   refine RL.skip rfl rfl ?_
   refine RL.pickF rfl rfl rfl rfl ?_
   refine RL.mv rfl rfl rfl ?_
   refine RL.skip rfl rfl ?_
   refine RL.skip rfl rfl ?_
   refine RL.skip rfl rfl ?_
   refine RL.skip rfl rfl ?_
   refine RL.skip rfl rfl ?_
   refine RL.skip rfl rfl ?_
   refine RL.skip rfl rfl ?_
   refine RL.skip rfl rfl ?_
   refine RL.skip rfl rfl ?_
   refine RL.pickF rfl rfl rfl rfl ?_
   refine RL.asg rfl rfl rfl ?_
   refine RL.finQ ?_
   refine RA.outQ ?_
   refine GL.nil ?_
   cases h574
   exact fun a w st => mid_intro false h575 (St.cut [] ⟨rfl, trivial⟩ (by decide) rfl st)
  replace h574 := ite_f b582 h574
  refine RL.skip rfl rfl ?_
  refine RL.skip rfl rfl ?_
  refine RL.skip rfl rfl ?_
  refine RL.pickF rfl rfl rfl rfl ?_
  refine RL.mv rfl rfl rfl ?_
  refine RL.skip rfl rfl ?_
  refine RL.skip rfl rfl ?_
  refine RL.skip rfl rfl ?_
  refine RL.pickF rfl rfl rfl rfl ?_
  refine RL.mv rfl rfl rfl ?_
  refine RL.skip rfl rfl ?_
  refine RL.skip rfl rfl ?_
  refine RL.skip rfl rfl ?_
  refine RL.skip rfl rfl ?_
  refine RL.skip rfl rfl ?_
  refine RL.pickF rfl rfl rfl rfl ?_
  refine RL.mv rfl rfl rfl ?_
  refine RL.skip rfl rfl ?_
  refine RL.skip rfl rfl ?_
  refine RL.skip rfl rfl ?_
  refine RL.skip rfl rfl ?_
  refine RL.skip rfl rfl ?_
  refine RL.skip rfl rfl ?_
  refine RL.skip rfl rfl ?_
  refine RL.skip rfl rfl ?_
  refine RL.skip rfl rfl ?_
  refine RL.pickF rfl rfl rfl rfl ?_
  refine RL.mv rfl rfl rfl ?_
  refine RL.skip rfl rfl ?_
  refine RL.skip rfl rfl ?_
  refine RL.skip rfl rfl ?_
  refine RL.skip rfl rfl ?_
  refine RL.skip rfl rfl ?_
  refine RL.skip rfl rfl ?_
  refine RL.skip rfl rfl ?_
  refine RL.skip rfl rfl ?_
  refine RL.skip rfl rfl ?_
  refine RL.pickF rfl rfl rfl rfl ?_
  refine RL.asg rfl rfl rfl ?_
  refine RL.finQ ?_
  refine RA.outQ ?_
  refine GL.nil ?_
  cases h574
  exact fun a w st => mid_intro false h575 (St.cut [] ⟨rfl, trivial⟩ (by decide) rfl st)
 rintro x571 h604
 have h605 := h576 _ h604
 try dsimp only at h605
 refine GL.weak (env' := [(6, .bool x571)]) (L' := []) (fun _ _ st => st) ?_
 have h605 := Option.some.inj h605
 subst h605
 exact GL.ret (Gx.ret (v := .bool x571) (res1 rfl rfl) (fun a w st => st.toPostV))
end Go.Wk
