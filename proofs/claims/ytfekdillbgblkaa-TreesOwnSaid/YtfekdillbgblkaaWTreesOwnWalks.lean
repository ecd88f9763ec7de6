/- Each function comes to what its model says; printed by a program of this repository. -/
import Derived.Test.YtfekdillbgblkaaProg
import Derived.Test.YtfekdillbgblkaaWTreesOwnModels
import Derived.Test.YtfekdillbgblkaaFwY
import Derived.Test.YtfekdillbgblkaaFwV
namespace Go.Wk
open Go.Fw Go.Mo Go.Proofs Go.RowKit
set_option linter.all false
set_option maxRecDepth 100000
theorem loopNx {ρ σ β γ : Type} {body : σ → Option (Fl ρ β σ)} {n : Nat} {s : σ} {y : Fl ρ γ β} (h : stepM body n (.nx s) = some y) : loopM body n s = some y := h
theorem Try_info3 : (Try.prog.info? 3).map (fun i => (i.zero, i.size, i.bytes)) = some (some (.int .i64 0), 1, 8) := by kernel_rfl
theorem Try_ln3 : Ln Try.prog 3 1 false := Ln.of Try_info3 Try.underlying3 rfl
theorem Try_lo3 : LnO Try.prog 3 1 [.int .i64 0] := LnO.of Try_info3 rfl rfl (by decide) (by decide)
theorem Try_info24 : (Try.prog.info? 24).map (fun i => (i.zero, i.size, i.bytes)) = some (some (.slice none 0 0), 1, 24) := by kernel_rfl
theorem Try_ln24 : Ln Try.prog 24 1 false := Ln.of Try_info24 Try.underlying24 rfl
theorem Try_lo24 : LnO Try.prog 24 1 [.slice none 0 0] := LnO.of Try_info24 rfl rfl (by decide) (by decide)
theorem Try_info36 : (Try.prog.info? 36).map (fun i => (i.zero, i.size, i.bytes)) = some (some (.agg #[.int .i64 0, .slice none 0 0, .slice none 0 0]), 3, 56) := by kernel_rfl
theorem Try_ln36 : Ln Try.prog 36 3 true := Ln.of Try_info36 Try.underlying36 rfl
theorem Try_lo36 : LnO Try.prog 36 3 [.int .i64 0, .slice none 0 0, .slice none 0 0] := LnO.of Try_info36 rfl rfl (by decide) (by decide)
theorem Try_bld36 (pv : List (Nat × Value)) : Try.prog.built 36 pv = Instr.fill ((mkPlaces 0 [[.int .i64 0], [.slice none 0 0], [.slice none 0 0]]).toArray[·]?) (List.flatten [[.int .i64 0], [.slice none 0 0], [.slice none 0 0]]).toArray pv := by kernel_rfl
theorem Try_fit15 : Fit Try.prog 15 := Fit.of Try.func15 (by kernel_rfl) rfl
theorem Try_fit17 : Fit Try.prog 17 := Fit.of Try.func17 (by kernel_rfl) rfl
theorem Try_fit18 : Fit Try.prog 18 := Fit.of Try.func18 (by kernel_rfl) rfl
theorem Try_fit19 : Fit Try.prog 19 := Fit.of Try.func19 (by kernel_rfl) rfl
theorem Try_fit21 : Fit Try.prog 21 := Fit.of Try.func21 (by kernel_rfl) rfl
theorem Try_fit22 : Fit Try.prog 22 := Fit.of Try.func22 (by kernel_rfl) rfl
theorem Try_fit23 : Fit Try.prog 23 := Fit.of Try.func23 (by kernel_rfl) rfl
theorem Try_fit24 : Fit Try.prog 24 := Fit.of Try.func24 (by kernel_rfl) rfl
theorem Try_fit25 : Fit Try.prog 25 := Fit.of Try.func25 (by kernel_rfl) rfl
theorem Try_fit81 : Fit Try.prog 81 := Fit.of Try.func81 (by kernel_rfl) rfl
theorem Try_fit84 : Fit Try.prog 84 := Fit.of Try.func84 (by kernel_rfl) rfl
theorem Try_fit85 : Fit Try.prog 85 := Fit.of Try.func85 (by kernel_rfl) rfl
theorem Try_fld36_0 (ad : Addr) (w : World) : (Instr.fieldAt 36 (.pointer (some ad)) 0).run Try.prog w = .ok (.pointer (some (ad.add 0))) w := by
  simp [Instr.fieldAt, run_underlying Try.underlying36, Instr.sureAddr, fieldPlace, Fw.run_sizeOf Try_ln3]
theorem Try_fld36_1 (ad : Addr) (w : World) : (Instr.fieldAt 36 (.pointer (some ad)) 1).run Try.prog w = .ok (.pointer (some (ad.add 1))) w := by
  simp [Instr.fieldAt, run_underlying Try.underlying36, Instr.sureAddr, fieldPlace, Fw.run_sizeOf Try_ln24]
theorem Try_fld36_2 (ad : Addr) (w : World) : (Instr.fieldAt 36 (.pointer (some ad)) 2).run Try.prog w = .ok (.pointer (some (ad.add 2))) w := by
  simp [Instr.fieldAt, run_underlying Try.underlying36, Instr.sureAddr, fieldPlace, Fw.run_sizeOf Try_ln24]

set_option maxHeartbeats 4000000 in
theorem tree_Check_c (S : Hp) (w : World) (hS : S.sub w) (x0 : Int) (v1 : Value) (x1 : (List (Int × ((List Int) × (List Int))))) (k1 : ((TR.sl (TR.pair TR.int (TR.pair (TR.sl TR.int) (TR.sl TR.int))))).vrep S v1 x1) (res : Int) (hm : tree_Check_m x0 x1 = some res) : Calls Try.prog 81 #[.int .i64 x0, v1] w (PostV w (.int .i64 res)) := by
 refine calls_enter 103 Try.func81 Try.ntmps81 rfl S false [(0, .int .i64 x0), (1, v1)] [imm (TR.sl (TR.pair TR.int (TR.pair (TR.sl TR.int) (TR.sl TR.int)))) v1 x1] rfl ⟨rfl, ⟨rfl, trivial⟩⟩ hS ⟨k1, trivial⟩ ?_
 unfold tree_Check_m at hm
 refine GL.seq ?_
 refine GL.region ?_
 refine RL.asg rfl rfl rfl ?_
 refine RL.finG ?_
 refine GL.seq ?_
 refine GL.seq ?_
 obtain ⟨y6, K7, h8, h9, h10, h11, h12⟩ := bindR_K hm
 refine GL.join (ι := Bool) (fun (p : Bool) => [(0, .int .i64 x0), (1, v1), (16, .bool p)]) (fun (p : Bool) => [imm (TR.sl (TR.pair TR.int (TR.pair (TR.sl TR.int) (TR.sl TR.int)))) v1 x1]) (fun (p : Bool) => K7 (.nx p)) ?_ ?_
 ·skip
  refine GL.region ?_
  refine RL.mv rfl rfl rfl ?_
  refine RL.binI (v := .bool (decide (x0 < (1 : Int)))) rfl rfl rfl rfl rfl ?_
  refine RL.mv rfl rfl rfl ?_
  refine RL.split (t := 13) rfl (fun b13 => ?_) (fun b13 => ?_)
  ·replace h8 := ite_t b13 h8
   refine RL.skip rfl rfl ?_
   refine RL.skip rfl rfl ?_
   refine RL.pickT rfl rfl rfl rfl ?_
   refine RL.fin ?_
   cases h8
   exact fun a w st => mid_intro true h9 (St.cut [0] ⟨rfl, rfl, rfl, trivial⟩ (by decide) rfl st)
  replace h8 := ite_f b13 h8
  refine RL.mv rfl rfl rfl ?_
  refine RL.binI (v := .bool (decide (x0 > (6 : Int)))) rfl rfl rfl rfl rfl ?_
  refine RL.pickF rfl rfl rfl rfl ?_
  refine RL.fin ?_
  cases h8
  exact fun a w st => mid_intro (decide (x0 > (6 : Int))) h9 (St.cut [0] ⟨rfl, rfl, rfl, trivial⟩ (by decide) rfl st)
 rintro x5 h14
 have h15 := h10 _ h14
 try dsimp only at h15
 refine GL.weak (env' := [(0, .int .i64 x0), (1, v1), (16, .bool x5)]) (L' := [imm (TR.sl (TR.pair TR.int (TR.pair (TR.sl TR.int) (TR.sl TR.int)))) v1 x1]) (fun _ _ st => st) ?_
 refine GL.cond rfl (fun b16 => ?_) (fun b16 => ?_)
 ·replace h15 := ite_t b16 h15
  refine GL.seq ?_
  refine GL.region ?_
  refine RL.asg rfl rfl rfl ?_
  refine RL.finG ?_
  have h15 := Option.some.inj h15
  subst h15
  exact GL.ret (Gx.ret (v := .int .i64 (1 : Int)) (res1 rfl rfl) (fun a w st => st.toPostV))
 replace h15 := ite_f b16 h15
 refine GL.skip ?_
 refine GL.seq ?_
 refine GL.seq ?_
 obtain ⟨y20, K21, h22, h23, h24, h25, h26⟩ := bindR_K h15
 refine GL.join (ι := Bool) (fun (p : Bool) => [(0, .int .i64 x0), (1, v1), (24, .bool p)]) (fun (p : Bool) => [imm (TR.sl (TR.pair TR.int (TR.pair (TR.sl TR.int) (TR.sl TR.int)))) v1 x1]) (fun (p : Bool) => K21 (.nx p)) ?_ ?_
 ·skip
  refine GL.region ?_
  refine RL.mv rfl rfl rfl ?_
  refine RL.lenS 0 Try.underlying33 rfl rfl rfl rfl SlOf.imm ?_
  refine RL.binI (v := .bool (decide (((x1).length : Int) < (1 : Int)))) rfl rfl rfl rfl rfl ?_
  refine RL.mv rfl rfl rfl ?_
  refine RL.split (t := 20) rfl (fun b27 => ?_) (fun b27 => ?_)
  ·replace h22 := ite_t b27 h22
   refine RL.skip rfl rfl ?_
   refine RL.skip rfl rfl ?_
   refine RL.skip rfl rfl ?_
   refine RL.pickT rfl rfl rfl rfl ?_
   refine RL.fin ?_
   cases h22
   exact fun a w st => mid_intro true h23 (St.cut [0] ⟨rfl, rfl, rfl, trivial⟩ (by decide) rfl st)
  replace h22 := ite_f b27 h22
  refine RL.mv rfl rfl rfl ?_
  refine RL.lenS 0 Try.underlying33 rfl rfl rfl rfl SlOf.imm ?_
  refine RL.binI (v := .bool (decide (((x1).length : Int) > (30 : Int)))) rfl rfl rfl rfl rfl ?_
  refine RL.pickF rfl rfl rfl rfl ?_
  refine RL.fin ?_
  cases h22
  exact fun a w st => mid_intro (decide (((x1).length : Int) > (30 : Int))) h23 (St.cut [0] ⟨rfl, rfl, rfl, trivial⟩ (by decide) rfl st)
 rintro x19 h28
 have h29 := h24 _ h28
 try dsimp only at h29
 refine GL.weak (env' := [(0, .int .i64 x0), (1, v1), (24, .bool x19)]) (L' := [imm (TR.sl (TR.pair TR.int (TR.pair (TR.sl TR.int) (TR.sl TR.int)))) v1 x1]) (fun _ _ st => st) ?_
 refine GL.cond rfl (fun b30 => ?_) (fun b30 => ?_)
 ·replace h29 := ite_t b30 h29
  refine GL.seq ?_
  refine GL.region ?_
  refine RL.asg rfl rfl rfl ?_
  refine RL.finG ?_
  have h29 := Option.some.inj h29
  subst h29
  exact GL.ret (Gx.ret (v := .int .i64 (2 : Int)) (res1 rfl rfl) (fun a w st => st.toPostV))
 replace h29 := ite_f b30 h29
 refine GL.skip ?_
 refine GL.seq ?_
 refine GL.seq ?_
 refine GL.region ?_
 refine RL.mv rfl rfl rfl ?_
 refine RL.lenS 0 Try.underlying33 rfl rfl rfl rfl SlOf.imm ?_
 refine RL.mv rfl rfl rfl ?_
 refine RL.finG ?_
 refine GL.open_ 0 rfl (fun S h => len_imm S h) (fun n216 => ?_)
 obtain ⟨y217, K218, h219, h220, h221, h222, h223⟩ := bindR_K h29
 refine GL.join (ι := Unit) (fun (p : Unit) => []) (fun (p : Unit) => []) (fun (p : Unit) => K218 (.nx ())) ?_ ?_
 ·refine GL.block ?_
  refine GL.loop (ι := Nat × (List (Int × ((List Int) × (List Int))))) (fun (p : Nat × (List (Int × ((List Int) × (List Int))))) => [(0, .int .i64 x0), (1, v1), (25, v1), (26, .int .i64 ((x1).length : Int)), (27, .int .i64 (p.1 : Int))]) (fun (p : Nat × (List (Int × ((List Int) × (List Int))))) => [imm (TR.sl (TR.pair TR.int (TR.pair (TR.sl TR.int) (TR.sl TR.int)))) v1 x1]) (fun (p : Nat × (List (Int × ((List Int) × (List Int))))) => p.1 + p.2.length = (x1).length ∧ List.drop p.1 x1 = p.2 ∧ rangeL (tree_Check_b1 x0 x1) p.2 p.1 () = some y217) (fun (p : Nat × (List (Int × ((List Int) × (List Int))))) => p.2.length) (0, x1) ⟨by simp, by simp, h219⟩ (fun a w st => St.cut [0] ⟨rfl, rfl, rfl, rfl, rfl, trivial⟩ (by decide) rfl st) ?_
  rintro ⟨i224, r225⟩ ⟨h230, h231, h229⟩
  try dsimp only at h230 h231 h229
  refine GL.weak (env' := [(0, .int .i64 x0), (1, v1), (25, v1), (26, .int .i64 ((x1).length : Int)), (27, .int .i64 (i224 : Int))]) (L' := [imm (TR.sl (TR.pair TR.int (TR.pair (TR.sl TR.int) (TR.sl TR.int)))) v1 x1]) (fun _ _ st => st) ?_
  refine GL.seq ?_
  refine GL.region ?_
  refine RL.binI (v := .bool (decide ((i224 : Int) < ((x1).length : Int)))) rfl rfl rfl rfl rfl ?_
  refine RL.finG ?_
  refine GL.seq ?_
  refine GL.cond rfl (fun b232 => ?_) (fun b232 => ?_)
  ·have h233 : i224 < (x1).length := by have := of_decide_eq_true b232; omega
   obtain ⟨y234, r236, hr, e235, h237⟩ := drop_cons h231 rfl h233
   subst hr
   obtain ⟨z226, h227, h228⟩ := rangeL_some h229
   unfold tree_Check_b1 at h227
   try dsimp only at h227
   refine GL.skip ?_
   refine GL.seq ?_
   refine GL.block ?_
   refine GL.seq ?_
   refine GL.region ?_
   refine RL.mv rfl rfl rfl ?_
   refine RL.idxS (sz := 3) 0 Try.underlying33 Try_ln36 rfl rfl rfl rfl rfl SlOf.imm (by omega) (by omega) ?_
   refine RL.ldS (i := i224) (r := (TR.pair TR.int (TR.pair (TR.sl TR.int) (TR.sl TR.int)))) (e' := y234) 0 Try_ln36 rfl rfl rfl rfl SlOf.imm e235 Part.self ?_
   intro v240
   refine RL.alloc (t := (TR.pair TR.int (TR.pair (TR.sl TR.int) (TR.sl TR.int)))) (z := ((0 : Int), ([] : (List Int)), ([] : (List Int)))) Try_lo36 (fun S => ⟨[.int .i64 0], _, rfl, rfl, ⟨[.slice none 0 0], _, rfl, ⟨_, [], rfl, ⟨none, 0, rfl, Nat.le_refl _, Nat.zero_le _, Or.inl ⟨rfl, rfl⟩⟩, rfl⟩, ⟨_, [], rfl, ⟨none, 0, rfl, Nat.le_refl _, Nat.zero_le _, Or.inl ⟨rfl, rfl⟩⟩, rfl⟩⟩⟩) rfl rfl rfl ?_
   intro v241
   refine RL.reL (L' := [imm (TR.sl (TR.pair TR.int (TR.pair (TR.sl TR.int) (TR.sl TR.int)))) v1 x1, imm (TR.pair TR.int (TR.pair (TR.sl TR.int) (TR.sl TR.int))) v240 y234, obox 36 (TR.pair TR.int (TR.pair (TR.sl TR.int) (TR.sl TR.int))) v241 ((0 : Int), ([] : (List Int)), ([] : (List Int)))]) rfl ?_
   refine RL.asg rfl rfl rfl ?_
   refine RL.stP (off := 0) (e' := y234) (d1 := y234) (r := (TR.pair TR.int (TR.pair (TR.sl TR.int) (TR.sl TR.int)))) 2 Try_ln36 rfl rfl (Or.inr ⟨rfl, rfl⟩) rfl (VR.item 1 rfl) rfl Upd.self ?_
   refine RL.finG ?_
   refine GL.seq ?_
   refine GL.seq ?_
   obtain ⟨y245, K246, h247, h248, h249, h250, h251⟩ := bindF_K h227
   refine GL.join (ι := Bool) (fun (p : Bool) => [(0, .int .i64 x0), (1, v1), (5, .int .i64 (i224 : Int)), (6, v241), (25, v1), (26, .int .i64 ((x1).length : Int)), (27, .int .i64 (i224 : Int)), (40, .bool p)]) (fun (p : Bool) => [imm (TR.sl (TR.pair TR.int (TR.pair (TR.sl TR.int) (TR.sl TR.int)))) v1 x1, obox 36 (TR.pair TR.int (TR.pair (TR.sl TR.int) (TR.sl TR.int))) v241 y234]) (fun (p : Bool) => K246 (.nx p)) ?_ ?_
   ·skip
    refine GL.region ?_
    refine RL.fadr (off := 0) (fo := 0) 2 Try_fld36_0 rfl rfl rfl PtOf.obox (Or.inr ⟨rfl, rfl⟩) ?_
    refine RL.ldPx (off := (0 + 0)) (e' := y234.1) 2 Ex.ik Try_ln3 rfl rfl (Or.inl rfl) rfl PtOf.obox (Part.fst Part.self) ?_
    refine RL.binI (v := .bool (decide (y234.1 < (-1 : Int)))) rfl rfl rfl rfl rfl ?_
    refine RL.mv rfl rfl rfl ?_
    refine RL.split (t := 35) rfl (fun b252 => ?_) (fun b252 => ?_)
    ·replace h247 := ite_t b252 h247
     refine RL.skip rfl rfl ?_
     refine RL.skip rfl rfl ?_
     refine RL.skip rfl rfl ?_
     refine RL.skip rfl rfl ?_
     refine RL.pickT rfl rfl rfl rfl ?_
     refine RL.fin ?_
     cases h247
     exact fun a w st => mid_intro true h248 (St.cut [0, 2] ⟨rfl, rfl, rfl, rfl, rfl, rfl, rfl, rfl, trivial⟩ (by decide) rfl st)
    replace h247 := ite_f b252 h247
    refine RL.fadr (off := 0) (fo := 0) 2 Try_fld36_0 rfl rfl rfl PtOf.obox (Or.inr ⟨rfl, rfl⟩) ?_
    refine RL.ldPx (off := (0 + 0)) (e' := y234.1) 2 Ex.ik Try_ln3 rfl rfl (Or.inl rfl) rfl PtOf.obox (Part.fst Part.self) ?_
    refine RL.mv rfl rfl rfl ?_
    refine RL.binI (v := .bool (decide (y234.1 ≥ x0))) rfl rfl rfl rfl rfl ?_
    refine RL.pickF rfl rfl rfl rfl ?_
    refine RL.fin ?_
    cases h247
    exact fun a w st => mid_intro (decide (y234.1 ≥ x0)) h248 (St.cut [0, 2] ⟨rfl, rfl, rfl, rfl, rfl, rfl, rfl, rfl, trivial⟩ (by decide) rfl st)
   rintro x244 h253
   have h254 := h249 _ h253
   try dsimp only at h254
   refine GL.weak (env' := [(0, .int .i64 x0), (1, v1), (5, .int .i64 (i224 : Int)), (6, v241), (25, v1), (26, .int .i64 ((x1).length : Int)), (27, .int .i64 (i224 : Int)), (40, .bool x244)]) (L' := [imm (TR.sl (TR.pair TR.int (TR.pair (TR.sl TR.int) (TR.sl TR.int)))) v1 x1, obox 36 (TR.pair TR.int (TR.pair (TR.sl TR.int) (TR.sl TR.int))) v241 y234]) (fun _ _ st => st) ?_
   refine GL.cond rfl (fun b255 => ?_) (fun b255 => ?_)
   ·replace h254 := ite_t b255 h254
    refine GL.seq ?_
    refine GL.region ?_
    refine RL.asg rfl rfl rfl ?_
    refine RL.finG ?_
    cases h254
    replace h228 : some (Fl.rt _) = some y217 := h228
    cases h228
    have hh := h222 _ h220
    subst hh
    exact GL.ret (Gx.ret (v := .int .i64 (1 : Int)) (res1 rfl rfl) (fun a w st => st.toPostV))
   replace h254 := ite_f b255 h254
   refine GL.skip ?_
   refine GL.seq ?_
   refine GL.seq ?_
   refine GL.region ?_
   refine RL.fadr (off := 0) (fo := 0) 1 Try_fld36_0 rfl rfl rfl PtOf.obox (Or.inr ⟨rfl, rfl⟩) ?_
   refine RL.ldPx (off := (0 + 0)) (e' := y234.1) 1 Ex.ik Try_ln3 rfl rfl (Or.inl rfl) rfl PtOf.obox (Part.fst Part.self) ?_
   refine RL.binI (v := .bool (decide (y234.1 < (0 : Int)))) rfl rfl rfl rfl rfl ?_
   refine RL.finG ?_
   refine GL.cond rfl (fun b256 => ?_) (fun b256 => ?_)
   ·replace h254 := ite_t b256 h254
    refine GL.seq ?_
    refine GL.seq ?_
    obtain ⟨y264, K265, h266, h267, h268, h269, h270⟩ := bindF_K h254
    refine GL.join (ι := Bool) (fun (p : Bool) => [(0, .int .i64 x0), (1, v1), (6, v241), (25, v1), (26, .int .i64 ((x1).length : Int)), (27, .int .i64 (i224 : Int)), (54, .bool p)]) (fun (p : Bool) => [imm (TR.sl (TR.pair TR.int (TR.pair (TR.sl TR.int) (TR.sl TR.int)))) v1 x1, obox 36 (TR.pair TR.int (TR.pair (TR.sl TR.int) (TR.sl TR.int))) v241 y234]) (fun (p : Bool) => K265 (.nx p)) ?_ ?_
    ·skip
     refine GL.region ?_
     refine RL.fadr (off := 0) (fo := 1) 1 Try_fld36_1 rfl rfl rfl PtOf.obox (Or.inr ⟨rfl, rfl⟩) ?_
     refine RL.ldP (off := (0 + 1)) (r := (TR.sl TR.int)) (e' := y234.2.1) 1 Try_ln24 rfl rfl (Or.inl rfl) rfl PtOf.obox (Part.snd (Part.fst Part.self)) ?_
     intro v271
     refine RL.lenS 2 Try.underlying24 rfl rfl rfl rfl SlOf.imm ?_
     refine RL.binI (v := .bool (decide (((y234.2.1).length : Int) > (0 : Int)))) rfl rfl rfl rfl rfl ?_
     refine RL.mv rfl rfl rfl ?_
     refine RL.split (t := 48) rfl (fun b272 => ?_) (fun b272 => ?_)
     ·replace h266 := ite_t b272 h266
      refine RL.skip rfl rfl ?_
      refine RL.skip rfl rfl ?_
      refine RL.skip rfl rfl ?_
      refine RL.skip rfl rfl ?_
      refine RL.skip rfl rfl ?_
      refine RL.pickT rfl rfl rfl rfl ?_
      refine RL.fin ?_
      cases h266
      exact fun a w st => mid_intro true h267 (St.cut [0, 1] ⟨rfl, rfl, rfl, rfl, rfl, rfl, rfl, trivial⟩ (by decide) rfl st)
     replace h266 := ite_f b272 h266
     refine RL.fadr (off := 0) (fo := 2) 1 Try_fld36_2 rfl rfl rfl PtOf.obox (Or.inr ⟨rfl, rfl⟩) ?_
     refine RL.ldP (off := (0 + 2)) (r := (TR.sl TR.int)) (e' := y234.2.2) 1 Try_ln24 rfl rfl (Or.inl rfl) rfl PtOf.obox (Part.snd (Part.snd Part.self)) ?_
     intro v273
     refine RL.reL (L' := [imm (TR.sl (TR.pair TR.int (TR.pair (TR.sl TR.int) (TR.sl TR.int)))) v1 x1, obox 36 (TR.pair TR.int (TR.pair (TR.sl TR.int) (TR.sl TR.int))) v241 y234, imm (TR.sl TR.int) v271 y234.2.1, imm (TR.sl TR.int) v273 y234.2.2]) rfl ?_
     refine RL.lenS 3 Try.underlying24 rfl rfl rfl rfl SlOf.imm ?_
     refine RL.mv rfl rfl rfl ?_
     refine RL.binI (v := .bool (((y234.2.2).length : Int) != x0)) rfl rfl rfl rfl rfl ?_
     refine RL.pickF rfl rfl rfl rfl ?_
     refine RL.fin ?_
     cases h266
     exact fun a w st => mid_intro (((y234.2.2).length : Int) != x0) h267 (St.cut [0, 1] ⟨rfl, rfl, rfl, rfl, rfl, rfl, rfl, trivial⟩ (by decide) rfl st)
    rintro x263 h274
    have h275 := h268 _ h274
    try dsimp only at h275
    refine GL.weak (env' := [(0, .int .i64 x0), (1, v1), (6, v241), (25, v1), (26, .int .i64 ((x1).length : Int)), (27, .int .i64 (i224 : Int)), (54, .bool x263)]) (L' := [imm (TR.sl (TR.pair TR.int (TR.pair (TR.sl TR.int) (TR.sl TR.int)))) v1 x1, obox 36 (TR.pair TR.int (TR.pair (TR.sl TR.int) (TR.sl TR.int))) v241 y234]) (fun _ _ st => st) ?_
    refine GL.cond rfl (fun b276 => ?_) (fun b276 => ?_)
    ·replace h275 := ite_t b276 h275
     refine GL.seq ?_
     refine GL.region ?_
     refine RL.asg rfl rfl rfl ?_
     refine RL.finG ?_
     cases h275
     replace h228 : some (Fl.rt _) = some y217 := h228
     cases h228
     have hh := h222 _ h220
     subst hh
     exact GL.ret (Gx.ret (v := .int .i64 (3 : Int)) (res1 rfl rfl) (fun a w st => st.toPostV))
    replace h275 := ite_f b276 h275
    refine GL.skip ?_
    refine GL.seq ?_
    refine GL.seq ?_
    refine GL.region ?_
    refine RL.fadr (off := 0) (fo := 2) 1 Try_fld36_2 rfl rfl rfl PtOf.obox (Or.inr ⟨rfl, rfl⟩) ?_
    refine RL.ldP (off := (0 + 2)) (r := (TR.sl TR.int)) (e' := y234.2.2) 1 Try_ln24 rfl rfl (Or.inl rfl) rfl PtOf.obox (Part.snd (Part.snd Part.self)) ?_
    intro v278
    refine RL.lenS 2 Try.underlying24 rfl rfl rfl rfl SlOf.imm ?_
    refine RL.mv rfl rfl rfl ?_
    refine RL.finG ?_
    refine GL.open_ 2 rfl (fun S h => len_imm S h) (fun n297 => ?_)
    obtain ⟨y298, K299, h300, h301, h302, h303, h304⟩ := bindF_K h275
    refine GL.join (ι := Unit) (fun (p : Unit) => [(0, .int .i64 x0), (1, v1), (25, v1), (26, .int .i64 ((x1).length : Int)), (27, .int .i64 (i224 : Int))]) (fun (p : Unit) => [imm (TR.sl (TR.pair TR.int (TR.pair (TR.sl TR.int) (TR.sl TR.int)))) v1 x1]) (fun (p : Unit) => K299 (.nx ())) ?_ ?_
    ·refine GL.block ?_
     refine GL.loop (ι := Nat × (List Int)) (fun (p : Nat × (List Int)) => [(0, .int .i64 x0), (1, v1), (25, v1), (26, .int .i64 ((x1).length : Int)), (27, .int .i64 (i224 : Int)), (56, v278), (57, .int .i64 ((y234.2.2).length : Int)), (58, .int .i64 (p.1 : Int))]) (fun (p : Nat × (List Int)) => [imm (TR.sl (TR.pair TR.int (TR.pair (TR.sl TR.int) (TR.sl TR.int)))) v1 x1, imm (TR.sl TR.int) v278 y234.2.2]) (fun (p : Nat × (List Int)) => p.1 + p.2.length = (y234.2.2).length ∧ List.drop p.1 y234.2.2 = p.2 ∧ rangeL tree_Check_b2 p.2 p.1 () = some y298) (fun (p : Nat × (List Int)) => p.2.length) (0, y234.2.2) ⟨by simp, by simp, h300⟩ (fun a w st => St.cut [0, 2] ⟨rfl, rfl, rfl, rfl, rfl, rfl, rfl, rfl, trivial⟩ (by decide) rfl st) ?_
     rintro ⟨i305, r306⟩ ⟨h311, h312, h310⟩
     try dsimp only at h311 h312 h310
     refine GL.weak (env' := [(0, .int .i64 x0), (1, v1), (25, v1), (26, .int .i64 ((x1).length : Int)), (27, .int .i64 (i224 : Int)), (56, v278), (57, .int .i64 ((y234.2.2).length : Int)), (58, .int .i64 (i305 : Int))]) (L' := [imm (TR.sl (TR.pair TR.int (TR.pair (TR.sl TR.int) (TR.sl TR.int)))) v1 x1, imm (TR.sl TR.int) v278 y234.2.2]) (fun _ _ st => st) ?_
     refine GL.seq ?_
     refine GL.region ?_
     refine RL.binI (v := .bool (decide ((i305 : Int) < ((y234.2.2).length : Int)))) rfl rfl rfl rfl rfl ?_
     refine RL.finG ?_
     refine GL.seq ?_
     refine GL.cond rfl (fun b313 => ?_) (fun b313 => ?_)
     ·have h314 : i305 < (y234.2.2).length := by have := of_decide_eq_true b313; omega
      obtain ⟨y315, r317, hr, e316, h318⟩ := drop_cons h312 rfl h314
      subst hr
      obtain ⟨z307, h308, h309⟩ := rangeL_some h310
      unfold tree_Check_b2 at h308
      try dsimp only at h308
      refine GL.skip ?_
      refine GL.seq ?_
      refine GL.block ?_
      refine GL.seq ?_
      refine GL.region ?_
      refine RL.idxS (sz := 1) 1 Try.underlying24 Try_ln3 rfl rfl rfl rfl rfl SlOf.imm (by omega) (by omega) ?_
      refine RL.ldSx (i := i305) (e' := y315) 1 Ex.ik Try_ln3 rfl rfl rfl rfl SlOf.imm e316 Part.self ?_
      refine RL.asg rfl rfl rfl ?_
      refine RL.finG ?_
      refine GL.seq ?_
      obtain ⟨y322, K323, h324, h325, h326, h327, h328⟩ := bindF_K h308
      refine GL.join (ι := Bool) (fun (p : Bool) => [(0, .int .i64 x0), (1, v1), (25, v1), (26, .int .i64 ((x1).length : Int)), (27, .int .i64 (i224 : Int)), (56, v278), (57, .int .i64 ((y234.2.2).length : Int)), (58, .int .i64 (i305 : Int)), (67, .bool p)]) (fun (p : Bool) => [imm (TR.sl (TR.pair TR.int (TR.pair (TR.sl TR.int) (TR.sl TR.int)))) v1 x1, imm (TR.sl TR.int) v278 y234.2.2]) (fun (p : Bool) => K323 (.nx p)) ?_ ?_
      ·skip
       refine GL.region ?_
       refine RL.mv rfl rfl rfl ?_
       refine RL.binI (v := .bool (decide (y315 < (-1000 : Int)))) rfl rfl rfl rfl rfl ?_
       refine RL.mv rfl rfl rfl ?_
       refine RL.split (t := 64) rfl (fun b329 => ?_) (fun b329 => ?_)
       ·replace h324 := ite_t b329 h324
        refine RL.skip rfl rfl ?_
        refine RL.skip rfl rfl ?_
        refine RL.pickT rfl rfl rfl rfl ?_
        refine RL.fin ?_
        cases h324
        exact fun a w st => mid_intro true h325 (St.cut [0, 1] ⟨rfl, rfl, rfl, rfl, rfl, rfl, rfl, rfl, rfl, trivial⟩ (by decide) rfl st)
       replace h324 := ite_f b329 h324
       refine RL.mv rfl rfl rfl ?_
       refine RL.binI (v := .bool (decide (y315 > (1000 : Int)))) rfl rfl rfl rfl rfl ?_
       refine RL.pickF rfl rfl rfl rfl ?_
       refine RL.fin ?_
       cases h324
       exact fun a w st => mid_intro (decide (y315 > (1000 : Int))) h325 (St.cut [0, 1] ⟨rfl, rfl, rfl, rfl, rfl, rfl, rfl, rfl, rfl, trivial⟩ (by decide) rfl st)
      rintro x321 h330
      have h331 := h326 _ h330
      try dsimp only at h331
      refine GL.weak (env' := [(0, .int .i64 x0), (1, v1), (25, v1), (26, .int .i64 ((x1).length : Int)), (27, .int .i64 (i224 : Int)), (56, v278), (57, .int .i64 ((y234.2.2).length : Int)), (58, .int .i64 (i305 : Int)), (67, .bool x321)]) (L' := [imm (TR.sl (TR.pair TR.int (TR.pair (TR.sl TR.int) (TR.sl TR.int)))) v1 x1, imm (TR.sl TR.int) v278 y234.2.2]) (fun _ _ st => st) ?_
      refine GL.cond rfl (fun b332 => ?_) (fun b332 => ?_)
      ·replace h331 := ite_t b332 h331
       refine GL.seq ?_
       refine GL.region ?_
       refine RL.asg rfl rfl rfl ?_
       refine RL.finG ?_
       cases h331
       replace h309 : some (Fl.rt _) = some y298 := h309
       cases h309
       have hh := h303 _ h301
       subst hh
       replace h228 : some (Fl.rt _) = some y217 := h228
       cases h228
       have hh := h222 _ h220
       subst hh
       exact GL.ret (Gx.ret (v := .int .i64 (1 : Int)) (res1 rfl rfl) (fun a w st => st.toPostV))
      replace h331 := ite_f b332 h331
      refine GL.skip ?_
      refine GL.nilB ?_
      refine GL.region ?_
      refine RL.binI (v := .int .i64 ((i305 + 1 : Nat) : Int)) rfl rfl rfl rfl (binI_succ i305 (by omega)) ?_
      refine RL.mv rfl rfl rfl ?_
      refine RL.fin ?_
      cases h331
      exact fun a w st => lop_intro (i305 + 1, r317) ⟨by show i305 + 1 + r317.length = (y234.2.2).length; simp only [List.length_cons] at h311; omega, h318, h309⟩ (by simp) (St.cut [0, 1] ⟨rfl, rfl, rfl, rfl, rfl, rfl, rfl, rfl, trivial⟩ (by decide) rfl st)
     have h314 : ¬ i305 < (y234.2.2).length := by have := of_decide_eq_false b313; omega
     obtain rfl : r306 = [] := by rw [← h312]; exact List.drop_of_length_le (by omega)
     replace h310 : some (Fl.nx _) = some y298 := h310
     cases h310
     exact GL.exit (fun a w st => mid_intro () h301 (St.cut [0] ⟨rfl, rfl, rfl, rfl, rfl, trivial⟩ (by decide) rfl st))
    rintro ⟨⟩ h333
    have h334 := h302 _ h333
    try dsimp only at h334
    refine GL.weak (env' := [(0, .int .i64 x0), (1, v1), (25, v1), (26, .int .i64 ((x1).length : Int)), (27, .int .i64 (i224 : Int))]) (L' := [imm (TR.sl (TR.pair TR.int (TR.pair (TR.sl TR.int) (TR.sl TR.int)))) v1 x1]) (fun _ _ st => st) ?_
    refine GL.exit ?_
    refine Gx.here ?_
    refine GL.region ?_
    refine RL.binI (v := .int .i64 ((i224 + 1 : Nat) : Int)) rfl rfl rfl rfl (binI_succ i224 (by omega)) ?_
    refine RL.mv rfl rfl rfl ?_
    refine RL.fin ?_
    cases h334
    exact fun a w st => lop_intro (i224 + 1, r236) ⟨by show i224 + 1 + r236.length = (x1).length; simp only [List.length_cons] at h230; omega, h237, h228⟩ (by simp) (St.cut [0] ⟨rfl, rfl, rfl, rfl, rfl, trivial⟩ (by decide) rfl st)
   replace h254 := ite_f b256 h254
   refine GL.skip ?_
   refine GL.seq ?_
   refine GL.seq ?_
   obtain ⟨y346, K347, h348, h349, h350, h351, h352⟩ := bindF_K h254
   refine GL.join (ι := Bool) (fun (p : Bool) => [(0, .int .i64 x0), (1, v1), (5, .int .i64 (i224 : Int)), (6, v241), (25, v1), (26, .int .i64 ((x1).length : Int)), (27, .int .i64 (i224 : Int)), (84, .bool p)]) (fun (p : Bool) => [imm (TR.sl (TR.pair TR.int (TR.pair (TR.sl TR.int) (TR.sl TR.int)))) v1 x1, obox 36 (TR.pair TR.int (TR.pair (TR.sl TR.int) (TR.sl TR.int))) v241 y234]) (fun (p : Bool) => K347 (.nx p)) ?_ ?_
   ·skip
    refine GL.region ?_
    refine RL.fadr (off := 0) (fo := 1) 1 Try_fld36_1 rfl rfl rfl PtOf.obox (Or.inr ⟨rfl, rfl⟩) ?_
    refine RL.ldP (off := (0 + 1)) (r := (TR.sl TR.int)) (e' := y234.2.1) 1 Try_ln24 rfl rfl (Or.inl rfl) rfl PtOf.obox (Part.snd (Part.fst Part.self)) ?_
    intro v353
    refine RL.lenS 2 Try.underlying24 rfl rfl rfl rfl SlOf.imm ?_
    refine RL.binI (v := .bool (decide (((y234.2.1).length : Int) < (1 : Int)))) rfl rfl rfl rfl rfl ?_
    refine RL.mv rfl rfl rfl ?_
    refine RL.split (t := 73) rfl (fun b354 => ?_) (fun b354 => ?_)
    ·replace h348 := ite_t b354 h348
     refine RL.skip rfl rfl ?_
     refine RL.skip rfl rfl ?_
     refine RL.skip rfl rfl ?_
     refine RL.skip rfl rfl ?_
     refine RL.pickT rfl rfl rfl rfl ?_
     refine RL.mv rfl rfl rfl ?_
     refine RL.skip rfl rfl ?_
     refine RL.skip rfl rfl ?_
     refine RL.skip rfl rfl ?_
     refine RL.skip rfl rfl ?_
     refine RL.pickT rfl rfl rfl rfl ?_
     refine RL.fin ?_
     cases h348
     exact fun a w st => mid_intro true h349 (St.cut [0, 1] ⟨rfl, rfl, rfl, rfl, rfl, rfl, rfl, rfl, trivial⟩ (by decide) rfl st)
    replace h348 := ite_f b354 h348
    refine RL.fadr (off := 0) (fo := 1) 1 Try_fld36_1 rfl rfl rfl PtOf.obox (Or.inr ⟨rfl, rfl⟩) ?_
    refine RL.ldP (off := (0 + 1)) (r := (TR.sl TR.int)) (e' := y234.2.1) 1 Try_ln24 rfl rfl (Or.inl rfl) rfl PtOf.obox (Part.snd (Part.fst Part.self)) ?_
    intro v355
    refine RL.reL (L' := [imm (TR.sl (TR.pair TR.int (TR.pair (TR.sl TR.int) (TR.sl TR.int)))) v1 x1, obox 36 (TR.pair TR.int (TR.pair (TR.sl TR.int) (TR.sl TR.int))) v241 y234, imm (TR.sl TR.int) v353 y234.2.1, imm (TR.sl TR.int) v355 y234.2.1]) rfl ?_
    refine RL.lenS 3 Try.underlying24 rfl rfl rfl rfl SlOf.imm ?_
    refine RL.binI (v := .bool (decide (((y234.2.1).length : Int) > (6 : Int)))) rfl rfl rfl rfl rfl ?_
    refine RL.pickF rfl rfl rfl rfl ?_
    refine RL.mv rfl rfl rfl ?_
    refine RL.split (t := 79) rfl (fun b356 => ?_) (fun b356 => ?_)
    ·replace h348 := ite_t b356 h348
     refine RL.skip rfl rfl ?_
     refine RL.skip rfl rfl ?_
     refine RL.skip rfl rfl ?_
     refine RL.skip rfl rfl ?_
     refine RL.pickT rfl rfl rfl rfl ?_
     refine RL.fin ?_
     cases h348
     exact fun a w st => mid_intro true h349 (St.cut [0, 1] ⟨rfl, rfl, rfl, rfl, rfl, rfl, rfl, rfl, trivial⟩ (by decide) rfl st)
    replace h348 := ite_f b356 h348
    refine RL.fadr (off := 0) (fo := 2) 1 Try_fld36_2 rfl rfl rfl PtOf.obox (Or.inr ⟨rfl, rfl⟩) ?_
    refine RL.ldP (off := (0 + 2)) (r := (TR.sl TR.int)) (e' := y234.2.2) 1 Try_ln24 rfl rfl (Or.inl rfl) rfl PtOf.obox (Part.snd (Part.snd Part.self)) ?_
    intro v357
    refine RL.lenS 4 Try.underlying24 rfl rfl rfl rfl SlOf.imm ?_
    refine RL.binI (v := .bool (decide (((y234.2.2).length : Int) > (0 : Int)))) rfl rfl rfl rfl rfl ?_
    refine RL.pickF rfl rfl rfl rfl ?_
    refine RL.fin ?_
    cases h348
    exact fun a w st => mid_intro (decide (((y234.2.2).length : Int) > (0 : Int))) h349 (St.cut [0, 1] ⟨rfl, rfl, rfl, rfl, rfl, rfl, rfl, rfl, trivial⟩ (by decide) rfl st)
   rintro x345 h358
   have h359 := h350 _ h358
   try dsimp only at h359
   refine GL.weak (env' := [(0, .int .i64 x0), (1, v1), (5, .int .i64 (i224 : Int)), (6, v241), (25, v1), (26, .int .i64 ((x1).length : Int)), (27, .int .i64 (i224 : Int)), (84, .bool x345)]) (L' := [imm (TR.sl (TR.pair TR.int (TR.pair (TR.sl TR.int) (TR.sl TR.int)))) v1 x1, obox 36 (TR.pair TR.int (TR.pair (TR.sl TR.int) (TR.sl TR.int))) v241 y234]) (fun _ _ st => st) ?_
   refine GL.cond rfl (fun b360 => ?_) (fun b360 => ?_)
   ·replace h359 := ite_t b360 h359
    refine GL.seq ?_
    refine GL.region ?_
    refine RL.asg rfl rfl rfl ?_
    refine RL.finG ?_
    cases h359
    replace h228 : some (Fl.rt _) = some y217 := h228
    cases h228
    have hh := h222 _ h220
    subst hh
    exact GL.ret (Gx.ret (v := .int .i64 (3 : Int)) (res1 rfl rfl) (fun a w st => st.toPostV))
   replace h359 := ite_f b360 h359
   refine GL.skip ?_
   refine GL.seq ?_
   refine GL.region ?_
   refine RL.fadr (off := 0) (fo := 1) 1 Try_fld36_1 rfl rfl rfl PtOf.obox (Or.inr ⟨rfl, rfl⟩) ?_
   refine RL.ldP (off := (0 + 1)) (r := (TR.sl TR.int)) (e' := y234.2.1) 1 Try_ln24 rfl rfl (Or.inl rfl) rfl PtOf.obox (Part.snd (Part.fst Part.self)) ?_
   intro v362
   refine RL.lenS 2 Try.underlying24 rfl rfl rfl rfl SlOf.imm ?_
   refine RL.mv rfl rfl rfl ?_
   refine RL.finG ?_
   refine GL.open_ 2 rfl (fun S h => len_imm S h) (fun n381 => ?_)
   obtain ⟨y382, K383, h384, h385, h386, h387, h388⟩ := bindF_K h359
   refine GL.join (ι := Unit) (fun (p : Unit) => [(0, .int .i64 x0), (1, v1), (25, v1), (26, .int .i64 ((x1).length : Int)), (27, .int .i64 (i224 : Int))]) (fun (p : Unit) => [imm (TR.sl (TR.pair TR.int (TR.pair (TR.sl TR.int) (TR.sl TR.int)))) v1 x1]) (fun (p : Unit) => K383 (.nx ())) ?_ ?_
   ·refine GL.block ?_
    refine GL.loop (ι := Nat × (List Int)) (fun (p : Nat × (List Int)) => [(0, .int .i64 x0), (1, v1), (5, .int .i64 (i224 : Int)), (25, v1), (26, .int .i64 ((x1).length : Int)), (27, .int .i64 (i224 : Int)), (86, v362), (87, .int .i64 ((y234.2.1).length : Int)), (88, .int .i64 (p.1 : Int))]) (fun (p : Nat × (List Int)) => [imm (TR.sl (TR.pair TR.int (TR.pair (TR.sl TR.int) (TR.sl TR.int)))) v1 x1, imm (TR.sl TR.int) v362 y234.2.1]) (fun (p : Nat × (List Int)) => p.1 + p.2.length = (y234.2.1).length ∧ List.drop p.1 y234.2.1 = p.2 ∧ rangeL (tree_Check_b3 i224 x1) p.2 p.1 () = some y382) (fun (p : Nat × (List Int)) => p.2.length) (0, y234.2.1) ⟨by simp, by simp, h384⟩ (fun a w st => St.cut [0, 2] ⟨rfl, rfl, rfl, rfl, rfl, rfl, rfl, rfl, rfl, trivial⟩ (by decide) rfl st) ?_
    rintro ⟨i389, r390⟩ ⟨h395, h396, h394⟩
    try dsimp only at h395 h396 h394
    refine GL.weak (env' := [(0, .int .i64 x0), (1, v1), (5, .int .i64 (i224 : Int)), (25, v1), (26, .int .i64 ((x1).length : Int)), (27, .int .i64 (i224 : Int)), (86, v362), (87, .int .i64 ((y234.2.1).length : Int)), (88, .int .i64 (i389 : Int))]) (L' := [imm (TR.sl (TR.pair TR.int (TR.pair (TR.sl TR.int) (TR.sl TR.int)))) v1 x1, imm (TR.sl TR.int) v362 y234.2.1]) (fun _ _ st => st) ?_
    refine GL.seq ?_
    refine GL.region ?_
    refine RL.binI (v := .bool (decide ((i389 : Int) < ((y234.2.1).length : Int)))) rfl rfl rfl rfl rfl ?_
    refine RL.finG ?_
    refine GL.seq ?_
    refine GL.cond rfl (fun b397 => ?_) (fun b397 => ?_)
    ·have h398 : i389 < (y234.2.1).length := by have := of_decide_eq_true b397; omega
     obtain ⟨y399, r401, hr, e400, h402⟩ := drop_cons h396 rfl h398
     subst hr
     obtain ⟨z391, h392, h393⟩ := rangeL_some h394
     unfold tree_Check_b3 at h392
     try dsimp only at h392
     refine GL.skip ?_
     refine GL.seq ?_
     refine GL.block ?_
     refine GL.seq ?_
     refine GL.region ?_
     refine RL.idxS (sz := 1) 1 Try.underlying24 Try_ln3 rfl rfl rfl rfl rfl SlOf.imm (by omega) (by omega) ?_
     refine RL.ldSx (i := i389) (e' := y399) 1 Ex.ik Try_ln3 rfl rfl rfl rfl SlOf.imm e400 Part.self ?_
     refine RL.asg rfl rfl rfl ?_
     refine RL.finG ?_
     refine GL.seq ?_
     obtain ⟨y406, K407, h408, h409, h410, h411, h412⟩ := bindF_K h392
     refine GL.join (ι := Bool) (fun (p : Bool) => [(0, .int .i64 x0), (1, v1), (5, .int .i64 (i224 : Int)), (25, v1), (26, .int .i64 ((x1).length : Int)), (27, .int .i64 (i224 : Int)), (86, v362), (87, .int .i64 ((y234.2.1).length : Int)), (88, .int .i64 (i389 : Int)), (100, .bool p)]) (fun (p : Bool) => [imm (TR.sl (TR.pair TR.int (TR.pair (TR.sl TR.int) (TR.sl TR.int)))) v1 x1, imm (TR.sl TR.int) v362 y234.2.1]) (fun (p : Bool) => K407 (.nx p)) ?_ ?_
     ·skip
      refine GL.region ?_
      refine RL.mv rfl rfl rfl ?_
      refine RL.mv rfl rfl rfl ?_
      refine RL.binI (v := .bool (decide (y399 ≤ (i224 : Int)))) rfl rfl rfl rfl rfl ?_
      refine RL.mv rfl rfl rfl ?_
      refine RL.split (t := 95) rfl (fun b413 => ?_) (fun b413 => ?_)
      ·replace h408 := ite_t b413 h408
       refine RL.skip rfl rfl ?_
       refine RL.skip rfl rfl ?_
       refine RL.skip rfl rfl ?_
       refine RL.skip rfl rfl ?_
       refine RL.pickT rfl rfl rfl rfl ?_
       refine RL.fin ?_
       cases h408
       exact fun a w st => mid_intro true h409 (St.cut [0, 1] ⟨rfl, rfl, rfl, rfl, rfl, rfl, rfl, rfl, rfl, rfl, trivial⟩ (by decide) rfl st)
      replace h408 := ite_f b413 h408
      refine RL.mv rfl rfl rfl ?_
      refine RL.mv rfl rfl rfl ?_
      refine RL.lenS 0 Try.underlying33 rfl rfl rfl rfl SlOf.imm ?_
      refine RL.binI (v := .bool (decide (y399 ≥ ((x1).length : Int)))) rfl rfl rfl rfl rfl ?_
      refine RL.pickF rfl rfl rfl rfl ?_
      refine RL.fin ?_
      cases h408
      exact fun a w st => mid_intro (decide (y399 ≥ ((x1).length : Int))) h409 (St.cut [0, 1] ⟨rfl, rfl, rfl, rfl, rfl, rfl, rfl, rfl, rfl, rfl, trivial⟩ (by decide) rfl st)
     rintro x405 h414
     have h415 := h410 _ h414
     try dsimp only at h415
     refine GL.weak (env' := [(0, .int .i64 x0), (1, v1), (5, .int .i64 (i224 : Int)), (25, v1), (26, .int .i64 ((x1).length : Int)), (27, .int .i64 (i224 : Int)), (86, v362), (87, .int .i64 ((y234.2.1).length : Int)), (88, .int .i64 (i389 : Int)), (100, .bool x405)]) (L' := [imm (TR.sl (TR.pair TR.int (TR.pair (TR.sl TR.int) (TR.sl TR.int)))) v1 x1, imm (TR.sl TR.int) v362 y234.2.1]) (fun _ _ st => st) ?_
     refine GL.cond rfl (fun b416 => ?_) (fun b416 => ?_)
     ·replace h415 := ite_t b416 h415
      refine GL.seq ?_
      refine GL.region ?_
      refine RL.asg rfl rfl rfl ?_
      refine RL.finG ?_
      cases h415
      replace h393 : some (Fl.rt _) = some y382 := h393
      cases h393
      have hh := h387 _ h385
      subst hh
      replace h228 : some (Fl.rt _) = some y217 := h228
      cases h228
      have hh := h222 _ h220
      subst hh
      exact GL.ret (Gx.ret (v := .int .i64 (4 : Int)) (res1 rfl rfl) (fun a w st => st.toPostV))
     replace h415 := ite_f b416 h415
     refine GL.skip ?_
     refine GL.nilB ?_
     refine GL.region ?_
     refine RL.binI (v := .int .i64 ((i389 + 1 : Nat) : Int)) rfl rfl rfl rfl (binI_succ i389 (by omega)) ?_
     refine RL.mv rfl rfl rfl ?_
     refine RL.fin ?_
     cases h415
     exact fun a w st => lop_intro (i389 + 1, r401) ⟨by show i389 + 1 + r401.length = (y234.2.1).length; simp only [List.length_cons] at h395; omega, h402, h393⟩ (by simp) (St.cut [0, 1] ⟨rfl, rfl, rfl, rfl, rfl, rfl, rfl, rfl, rfl, trivial⟩ (by decide) rfl st)
    have h398 : ¬ i389 < (y234.2.1).length := by have := of_decide_eq_false b397; omega
    obtain rfl : r390 = [] := by rw [← h396]; exact List.drop_of_length_le (by omega)
    replace h394 : some (Fl.nx _) = some y382 := h394
    cases h394
    exact GL.exit (fun a w st => mid_intro () h385 (St.cut [0] ⟨rfl, rfl, rfl, rfl, rfl, trivial⟩ (by decide) rfl st))
   rintro ⟨⟩ h417
   have h418 := h386 _ h417
   try dsimp only at h418
   refine GL.weak (env' := [(0, .int .i64 x0), (1, v1), (25, v1), (26, .int .i64 ((x1).length : Int)), (27, .int .i64 (i224 : Int))]) (L' := [imm (TR.sl (TR.pair TR.int (TR.pair (TR.sl TR.int) (TR.sl TR.int)))) v1 x1]) (fun _ _ st => st) ?_
   refine GL.nilB ?_
   refine GL.region ?_
   refine RL.binI (v := .int .i64 ((i224 + 1 : Nat) : Int)) rfl rfl rfl rfl (binI_succ i224 (by omega)) ?_
   refine RL.mv rfl rfl rfl ?_
   refine RL.fin ?_
   cases h418
   exact fun a w st => lop_intro (i224 + 1, r236) ⟨by show i224 + 1 + r236.length = (x1).length; simp only [List.length_cons] at h230; omega, h237, h228⟩ (by simp) (St.cut [0] ⟨rfl, rfl, rfl, rfl, rfl, trivial⟩ (by decide) rfl st)
  have h233 : ¬ i224 < (x1).length := by have := of_decide_eq_false b232; omega
  obtain rfl : r225 = [] := by rw [← h231]; exact List.drop_of_length_le (by omega)
  replace h229 : some (Fl.nx _) = some y217 := h229
  cases h229
  exact GL.exit (fun a w st => mid_intro () h220 (St.cut [] trivial (by decide) rfl st))
 rintro ⟨⟩ h419
 have h420 := h221 _ h419
 try dsimp only at h420
 refine GL.weak (env' := []) (L' := []) (fun _ _ st => st) ?_
 refine GL.seq ?_
 refine GL.region ?_
 refine RL.asg rfl rfl rfl ?_
 refine RL.finG ?_
 have h420 := Option.some.inj h420
 subst h420
 exact GL.ret (Gx.ret (v := .int .i64 (0 : Int)) (res1 rfl rfl) (fun a w st => st.toPostV))

set_option maxHeartbeats 4000000 in
theorem tree_Solve_c (S : Hp) (w : World) (hS : S.sub w) (x0 : Int) (v1 : Value) (x1 : (List (Int × ((List Int) × (List Int))))) (k1 : ((TR.sl (TR.pair TR.int (TR.pair (TR.sl TR.int) (TR.sl TR.int))))).vrep S v1 x1) (res : (List Int) × (List (List Int)) × Int) (hm : tree_Solve_m x0 x1 = some res) : Calls Try.prog 17 #[.int .i64 x0, v1] w (Post w S (fun (o : Value × Value × (List Value)) => .tuple #[o.1, o.2.1, .int .i64 res.2.2]) (fun (o : Value × Value × (List Value)) => [own 3 TR.int o.1 res.1, own2 24 3 TR.int o.2.1 o.2.2 res.2.1])) := by
 refine calls_enter 101 Try.func17 Try.ntmps17 rfl S false [(0, .int .i64 x0), (1, v1)] [imm (TR.sl (TR.pair TR.int (TR.pair (TR.sl TR.int) (TR.sl TR.int)))) v1 x1] rfl ⟨rfl, ⟨rfl, trivial⟩⟩ hS ⟨k1, trivial⟩ ?_
 unfold tree_Solve_m at hm
 refine GL.seq ?_
 refine GL.region ?_
 refine RL.asg rfl rfl rfl ?_
 refine RL.asg rfl rfl rfl ?_
 refine RL.asg rfl rfl rfl ?_
 refine RL.finG ?_
 refine GL.seq ?_
 refine GL.seq ?_
 refine GL.region ?_
 refine RL.mv rfl rfl rfl ?_
 refine RL.mv rfl rfl rfl ?_
 obtain ⟨y5, e6, hm⟩ := bind_some hm
 refine RL.callV (v := .int .i64 y5) (vs := [.int .i64 x0, v1]) Try_fit81 rfl (Or.inl rfl) rfl rfl rfl rfl (fun U w hU hW hL => tree_Check_c U w hU x0 _ _ (hL 0 _ _ rfl Seen.imm) _ e6) ?_
 refine RL.asg rfl rfl rfl ?_
 refine RL.finG ?_
 refine GL.seq ?_
 refine GL.region ?_
 refine RL.mv rfl rfl rfl ?_
 refine RL.binI (v := .bool (y5 != (0 : Int))) rfl rfl rfl rfl rfl ?_
 refine RL.finG ?_
 refine GL.cond rfl (fun b7 => ?_) (fun b7 => ?_)
 ·replace hm := ite_t b7 hm
  refine GL.seq ?_
  refine GL.region ?_
  refine RL.mv rfl rfl rfl ?_
  refine RL.asg rfl rfl rfl ?_
  refine RL.asg rfl rfl rfl ?_
  refine RL.asg rfl rfl rfl ?_
  refine RL.finG ?_
  refine GL.weak (fun a w st => st.nilOwn 3 TR.int) ?_
  refine GL.weak (fun a w st => st.nilOwn 24 TR.raw) ?_
  refine GL.weak (fun a w st => St.toRows (m := 0) 3 TR.int 2 rfl st) ?_
  have hm := Option.some.inj hm
  subst hm
  exact GL.ret (Gx.ret (v := .tuple #[Value.slice none 0 0, Value.slice none 0 0, .int .i64 y5]) (res3 rfl rfl rfl rfl) (fun a w st => (st.pick [1, 2] (by decide) rfl).toPost (Value.slice none 0 0, Value.slice none 0 0, ([] : List Value))))
 replace hm := ite_f b7 hm
 refine GL.skip ?_
 refine GL.seq ?_
 refine GL.region ?_
 refine RL.mv rfl rfl rfl ?_
 refine RL.lenS 0 Try.underlying33 rfl rfl rfl rfl SlOf.imm ?_
 obtain ⟨y11, e12, hm⟩ := bind_some hm
 replace e12 := chk_some e12
 refine RL.mkS (t := TR.int) (z := (0 : Int)) Try.underlying24 Try_lo3 (fun S => rfl) rfl rfl rfl rfl e12.1 e12.2 ?_
 intro v13
 refine RL.asg rfl rfl rfl ?_
 refine RL.finG ?_
 refine GL.seq ?_
 refine GL.region ?_
 refine RL.mv rfl rfl rfl ?_
 refine RL.lenS 0 Try.underlying33 rfl rfl rfl rfl SlOf.imm ?_
 obtain ⟨y17, e18, hm⟩ := bind_some hm
 replace e18 := chk_some e18
 refine RL.mkS (t := TR.raw) (z := .slice none 0 0) Try.underlying37 Try_lo24 (fun S => ⟨rfl, rfl⟩) rfl rfl rfl rfl e18.1 e18.2 ?_
 intro v19
 refine RL.weak (fun a w st => st.toRows 3 TR.int 2 rfl) ?_
 refine RL.reL (L' := [imm (TR.sl (TR.pair TR.int (TR.pair (TR.sl TR.int) (TR.sl TR.int)))) v1 x1, own 3 TR.int v13 (List.replicate (((x1).length : Int)).toNat (0 : Int)), own2 24 3 TR.int v19 (List.replicate (((x1).length : Int)).toNat (Value.slice none 0 0)) (List.replicate (((x1).length : Int)).toNat ([] : (List Int)))]) rfl ?_
 refine RL.asg rfl rfl rfl ?_
 refine RL.finG ?_
 refine GL.seq ?_
 refine GL.seq ?_
 refine GL.region ?_
 refine RL.mv rfl rfl rfl ?_
 refine RL.lenS 0 Try.underlying33 rfl rfl rfl rfl SlOf.imm ?_
 refine RL.binI (v := .int .i64 (wsub ((x1).length : Int) (1 : Int))) rfl rfl rfl rfl rfl ?_
 refine RL.asg rfl rfl rfl ?_
 refine RL.finG ?_
 obtain ⟨y287, K288, h289, h290, h291, h292, h293⟩ := bindR_K hm
 refine GL.join (ι := (List Int) × (List (List Int)) × Int × (List Value)) (fun (p : (List Int) × (List (List Int)) × Int × (List Value)) => [(8, v13), (9, v19)]) (fun (p : (List Int) × (List (List Int)) × Int × (List Value)) => [own 3 TR.int v13 p.1, own2 24 3 TR.int v19 p.2.2.2 p.2.1]) (fun (p : (List Int) × (List (List Int)) × Int × (List Value)) => K288 (.nx (p.1, p.2.1, p.2.2.1))) ?_ ?_
 ·refine GL.block ?_
  refine GL.loop (ι := Nat × (List Int) × (List (List Int)) × Int × (List Value)) (fun (p : Nat × (List Int) × (List (List Int)) × Int × (List Value)) => [(1, v1), (8, v13), (9, v19), (10, .int .i64 p.2.2.2.1)]) (fun (p : Nat × (List Int) × (List (List Int)) × Int × (List Value)) => [imm (TR.sl (TR.pair TR.int (TR.pair (TR.sl TR.int) (TR.sl TR.int)))) v1 x1, own 3 TR.int v13 p.2.1, own2 24 3 TR.int v19 p.2.2.2.2 p.2.2.1]) (fun (p : Nat × (List Int) × (List (List Int)) × Int × (List Value)) => loopM (tree_Solve_b1 x1) p.1 (p.2.1, p.2.2.1, p.2.2.2.1) = some y287) (fun (p : Nat × (List Int) × (List (List Int)) × Int × (List Value)) => p.1) (1048576, (List.replicate (((x1).length : Int)).toNat (0 : Int)), (List.replicate (((x1).length : Int)).toNat ([] : (List Int))), wsub ((x1).length : Int) (1 : Int), (List.replicate (((x1).length : Int)).toNat (Value.slice none 0 0))) h289 (fun a w st => St.cut [0, 1, 2] ⟨rfl, rfl, rfl, rfl, trivial⟩ (by decide) rfl st) ?_
  rintro ⟨r295, l152, l153, x155, V154⟩ h299
  try dsimp only at h299
  refine GL.weak (env' := [(1, v1), (8, v13), (9, v19), (10, .int .i64 x155)]) (L' := [imm (TR.sl (TR.pair TR.int (TR.pair (TR.sl TR.int) (TR.sl TR.int)))) v1 x1, own 3 TR.int v13 l152, own2 24 3 TR.int v19 V154 l153]) (fun _ _ st => st) ?_
  obtain ⟨r302, z296, hr, h297, h298⟩ := loopM_some h299
  subst hr
  unfold tree_Solve_b1 at h297
  try dsimp only at h297
  refine GL.seq ?_
  refine GL.seq ?_
  refine GL.region ?_
  refine RL.mv rfl rfl rfl ?_
  refine RL.binI (v := .bool (decide (x155 ≥ (0 : Int)))) rfl rfl rfl rfl rfl ?_
  refine RL.finG ?_
  refine GL.cond rfl (fun b303 => ?_) (fun b303 => ?_)
  ·replace h297 := ite_t b303 h297
   refine GL.skip ?_
   refine GL.seq ?_
   refine GL.block ?_
   refine GL.seq ?_
   refine GL.region ?_
   refine RL.mv rfl rfl rfl ?_
   refine RL.mv rfl rfl rfl ?_
   obtain ⟨y308, e309, h297⟩ := bind_some h297
   refine RL.idxS (sz := 3) 0 Try.underlying33 Try_ln36 rfl rfl rfl rfl rfl SlOf.imm (idx_some e309).1 (idx_some e309).2.1 ?_
   refine RL.ldS (i := (x155).toNat) (r := (TR.pair TR.int (TR.pair (TR.sl TR.int) (TR.sl TR.int)))) (e' := y308) 0 Try_ln36 rfl rfl rfl rfl SlOf.imm (idx_some e309).2.2 Part.self ?_
   intro v310
   refine RL.alloc (t := (TR.pair TR.int (TR.pair (TR.sl TR.int) (TR.sl TR.int)))) (z := ((0 : Int), ([] : (List Int)), ([] : (List Int)))) Try_lo36 (fun S => ⟨[.int .i64 0], _, rfl, rfl, ⟨[.slice none 0 0], _, rfl, ⟨_, [], rfl, ⟨none, 0, rfl, Nat.le_refl _, Nat.zero_le _, Or.inl ⟨rfl, rfl⟩⟩, rfl⟩, ⟨_, [], rfl, ⟨none, 0, rfl, Nat.le_refl _, Nat.zero_le _, Or.inl ⟨rfl, rfl⟩⟩, rfl⟩⟩⟩) rfl rfl rfl ?_
   intro v311
   refine RL.reL (L' := [imm (TR.sl (TR.pair TR.int (TR.pair (TR.sl TR.int) (TR.sl TR.int)))) v1 x1, own 3 TR.int v13 l152, own2 24 3 TR.int v19 V154 l153, imm (TR.pair TR.int (TR.pair (TR.sl TR.int) (TR.sl TR.int))) v310 y308, obox 36 (TR.pair TR.int (TR.pair (TR.sl TR.int) (TR.sl TR.int))) v311 ((0 : Int), ([] : (List Int)), ([] : (List Int)))]) rfl ?_
   refine RL.stP (off := 0) (e' := y308) (d1 := y308) (r := (TR.pair TR.int (TR.pair (TR.sl TR.int) (TR.sl TR.int)))) 4 Try_ln36 rfl rfl (Or.inr ⟨rfl, rfl⟩) rfl (VR.item 3 rfl) rfl Upd.self ?_
   refine RL.finG ?_
   refine GL.seq ?_
   refine GL.seq ?_
   refine GL.region ?_
   refine RL.fadr (off := 0) (fo := 0) 4 Try_fld36_0 rfl rfl rfl PtOf.obox (Or.inr ⟨rfl, rfl⟩) ?_
   refine RL.ldPx (off := (0 + 0)) (e' := y308.1) 4 Ex.ik Try_ln3 rfl rfl (Or.inl rfl) rfl PtOf.obox (Part.fst Part.self) ?_
   refine RL.binI (v := .bool (decide (y308.1 < (0 : Int)))) rfl rfl rfl rfl rfl ?_
   refine RL.finG ?_
   refine GL.cond rfl (fun b312 => ?_) (fun b312 => ?_)
   ·replace h297 := ite_t b312 h297
    refine GL.seq ?_
    refine GL.region ?_
    refine RL.mv rfl rfl rfl ?_
    refine RL.mv rfl rfl rfl ?_
    refine RL.bS (t := TR.int) (vs := []) ([] : (List Int)) Try.underlying24 Try_lo3 rfl rfl rfl rfl trivial rfl (by decide) ?_
    intro v320
    refine RL.reL (L' := [imm (TR.sl (TR.pair TR.int (TR.pair (TR.sl TR.int) (TR.sl TR.int)))) v1 x1, own 3 TR.int v13 l152, own2 24 3 TR.int v19 V154 l153, imm (TR.pair TR.int (TR.pair (TR.sl TR.int) (TR.sl TR.int))) v310 y308, obox 36 (TR.pair TR.int (TR.pair (TR.sl TR.int) (TR.sl TR.int))) v311 y308, own 3 TR.int v320 ([] : (List Int))]) rfl ?_
    refine RL.fadr (off := 0) (fo := 2) 4 Try_fld36_2 rfl rfl rfl PtOf.obox (Or.inr ⟨rfl, rfl⟩) ?_
    refine RL.ldP (off := (0 + 2)) (r := (TR.sl TR.int)) (e' := y308.2.2) 4 Try_ln24 rfl rfl (Or.inl rfl) rfl PtOf.obox (Part.snd (Part.snd Part.self)) ?_
    intro v321
    obtain ⟨y322, e323, h297⟩ := bind_some h297
    replace e323 := chk_some e323
    refine RL.app 5 6 Try.underlying24 Try_lo3 rfl rfl rfl rfl rfl rfl rfl SlOf.imm e323 ?_
    intro v324
    refine RL.reL (L' := [imm (TR.sl (TR.pair TR.int (TR.pair (TR.sl TR.int) (TR.sl TR.int)))) v1 x1, own 3 TR.int v13 l152, own2 24 3 TR.int v19 V154 l153, imm (TR.pair TR.int (TR.pair (TR.sl TR.int) (TR.sl TR.int))) v310 y308, obox 36 (TR.pair TR.int (TR.pair (TR.sl TR.int) (TR.sl TR.int))) v311 y308, own 3 TR.int v324 (([] : (List Int)) ++ y308.2.2), imm (TR.sl TR.int) v321 y308.2.2]) rfl ?_
    obtain ⟨y325, e326, h297⟩ := bind_some h297
    refine RL.idxR 2 Try.underlying37 Try_ln24 rfl rfl rfl rfl rfl (idx_some e326).1 (idx_some e326).2.1 ?_
    refine RL.stSp (i := (x155).toNat) (r0 := y325) 2 5 (by decide) Try_ln24 rfl rfl rfl rfl rfl rfl (idx_some e326).2.2 ?_
    refine RL.finG ?_
    refine GL.seq ?_
    refine GL.region ?_
    refine RL.mv rfl rfl rfl ?_
    refine RL.mv rfl rfl rfl ?_
    obtain ⟨y329, e330, h297⟩ := bind_some h297
    refine RL.idxS (sz := 1) 1 Try.underlying24 Try_ln3 rfl rfl rfl rfl rfl SlOf.own (idx_some e330).1 (idx_some e330).2.1 ?_
    refine RL.stS (i := (x155).toNat) (e' := (-1 : Int)) (e1 := (-1 : Int)) (r := TR.int) 1 Try_ln3 rfl rfl rfl rfl VR.int rfl (idx_some e330).2.2 Upd.self ?_
    refine RL.reL (L' := [imm (TR.sl (TR.pair TR.int (TR.pair (TR.sl TR.int) (TR.sl TR.int)))) v1 x1, own 3 TR.int v13 (List.set l152 ((x155).toNat) (-1 : Int)), own2 24 3 TR.int v19 (List.set V154 ((x155).toNat) v324) (List.set l153 ((x155).toNat) (([] : (List Int)) ++ y308.2.2)), imm (TR.pair TR.int (TR.pair (TR.sl TR.int) (TR.sl TR.int))) v310 y308, obox 36 (TR.pair TR.int (TR.pair (TR.sl TR.int) (TR.sl TR.int))) v311 y308, gone, imm (TR.sl TR.int) v321 y308.2.2]) rfl ?_
    refine RL.finG ?_
    refine GL.exit ?_
    refine Gx.here ?_
    refine GL.region ?_
    refine RL.mv rfl rfl rfl ?_
    refine RL.binI (v := .int .i64 (wsub x155 (1 : Int))) rfl rfl rfl rfl rfl ?_
    refine RL.asg rfl rfl rfl ?_
    refine RL.finG ?_
    cases h297
    exact fun a w st => lop_intro (r302, (List.set l152 ((x155).toNat) (-1 : Int)), (List.set l153 ((x155).toNat) (([] : (List Int)) ++ y308.2.2)), wsub x155 (1 : Int), (List.set V154 ((x155).toNat) v324)) (by exact h298) (by simp) (St.cut [0, 1, 2] ⟨rfl, rfl, rfl, rfl, trivial⟩ (by decide) rfl st)
   replace h297 := ite_f b312 h297
   refine GL.skip ?_
   refine GL.seq ?_
   refine GL.region ?_
   refine RL.asg rfl rfl rfl ?_
   refine RL.finG ?_
   refine GL.seq ?_
   refine GL.seq ?_
   refine GL.region ?_
   refine RL.fadr (off := 0) (fo := 1) 4 Try_fld36_1 rfl rfl rfl PtOf.obox (Or.inr ⟨rfl, rfl⟩) ?_
   refine RL.ldP (off := (0 + 1)) (r := (TR.sl TR.int)) (e' := y308.2.1) 4 Try_ln24 rfl rfl (Or.inl rfl) rfl PtOf.obox (Part.snd (Part.fst Part.self)) ?_
   intro v332
   refine RL.reL (L' := [imm (TR.sl (TR.pair TR.int (TR.pair (TR.sl TR.int) (TR.sl TR.int)))) v1 x1, own 3 TR.int v13 l152, own2 24 3 TR.int v19 V154 l153, imm (TR.pair TR.int (TR.pair (TR.sl TR.int) (TR.sl TR.int))) v310 y308, obox 36 (TR.pair TR.int (TR.pair (TR.sl TR.int) (TR.sl TR.int))) v311 y308, imm (TR.sl TR.int) v332 y308.2.1]) rfl ?_
   refine RL.lenS 5 Try.underlying24 rfl rfl rfl rfl SlOf.imm ?_
   refine RL.mv rfl rfl rfl ?_
   refine RL.finG ?_
   refine GL.open_ 5 rfl (fun S h => len_imm S h) (fun n361 => ?_)
   obtain ⟨y362, K363, h364, h365, h366, h367, h368⟩ := bindF_K h297
   refine GL.join (ι := Int) (fun (p : Int) => [(1, v1), (8, v13), (9, v19), (10, .int .i64 x155), (11, v311), (12, .int .i64 p)]) (fun (p : Int) => [imm (TR.sl (TR.pair TR.int (TR.pair (TR.sl TR.int) (TR.sl TR.int)))) v1 x1, own 3 TR.int v13 l152, own2 24 3 TR.int v19 V154 l153, obox 36 (TR.pair TR.int (TR.pair (TR.sl TR.int) (TR.sl TR.int))) v311 y308]) (fun (p : Int) => K363 (.nx p)) ?_ ?_
   ·refine GL.block ?_
    refine GL.loop (ι := Nat × (List Int) × Int) (fun (p : Nat × (List Int) × Int) => [(1, v1), (8, v13), (9, v19), (10, .int .i64 x155), (11, v311), (12, .int .i64 p.2.2), (52, v332), (53, .int .i64 ((y308.2.1).length : Int)), (54, .int .i64 (p.1 : Int))]) (fun (p : Nat × (List Int) × Int) => [imm (TR.sl (TR.pair TR.int (TR.pair (TR.sl TR.int) (TR.sl TR.int)))) v1 x1, own 3 TR.int v13 l152, own2 24 3 TR.int v19 V154 l153, obox 36 (TR.pair TR.int (TR.pair (TR.sl TR.int) (TR.sl TR.int))) v311 y308, imm (TR.sl TR.int) v332 y308.2.1]) (fun (p : Nat × (List Int) × Int) => p.1 + p.2.1.length = (y308.2.1).length ∧ List.drop p.1 y308.2.1 = p.2.1 ∧ rangeL (tree_Solve_b2 l153 y308) p.2.1 p.1 p.2.2 = some y362) (fun (p : Nat × (List Int) × Int) => p.2.1.length) (0, y308.2.1, (0 : Int)) ⟨by simp, by simp, h364⟩ (fun a w st => St.cut [0, 1, 2, 4, 5] ⟨rfl, rfl, rfl, rfl, rfl, rfl, rfl, rfl, rfl, trivial⟩ (by decide) rfl st) ?_
    rintro ⟨i369, r370, x333⟩ ⟨h375, h376, h374⟩
    try dsimp only at h375 h376 h374
    refine GL.weak (env' := [(1, v1), (8, v13), (9, v19), (10, .int .i64 x155), (11, v311), (12, .int .i64 x333), (52, v332), (53, .int .i64 ((y308.2.1).length : Int)), (54, .int .i64 (i369 : Int))]) (L' := [imm (TR.sl (TR.pair TR.int (TR.pair (TR.sl TR.int) (TR.sl TR.int)))) v1 x1, own 3 TR.int v13 l152, own2 24 3 TR.int v19 V154 l153, obox 36 (TR.pair TR.int (TR.pair (TR.sl TR.int) (TR.sl TR.int))) v311 y308, imm (TR.sl TR.int) v332 y308.2.1]) (fun _ _ st => st) ?_
    refine GL.seq ?_
    refine GL.region ?_
    refine RL.binI (v := .bool (decide ((i369 : Int) < ((y308.2.1).length : Int)))) rfl rfl rfl rfl rfl ?_
    refine RL.finG ?_
    refine GL.seq ?_
    refine GL.cond rfl (fun b377 => ?_) (fun b377 => ?_)
    ·have h378 : i369 < (y308.2.1).length := by have := of_decide_eq_true b377; omega
     obtain ⟨y379, r381, hr, e380, h382⟩ := drop_cons h376 rfl h378
     subst hr
     obtain ⟨z371, h372, h373⟩ := rangeL_some h374
     unfold tree_Solve_b2 at h372
     try dsimp only at h372
     refine GL.skip ?_
     refine GL.seq ?_
     refine GL.block ?_
     refine GL.seq ?_
     refine GL.region ?_
     refine RL.mv rfl rfl rfl ?_
     refine RL.idxS (sz := 1) 4 Try.underlying24 Try_ln3 rfl rfl rfl rfl rfl SlOf.imm (by omega) (by omega) ?_
     refine RL.ldSx (i := i369) (e' := y379) 4 Ex.ik Try_ln3 rfl rfl rfl rfl SlOf.imm e380 Part.self ?_
     refine RL.asg rfl rfl rfl ?_
     refine RL.asg rfl rfl rfl ?_
     refine RL.finG ?_
     refine GL.seq ?_
     refine GL.regionQ rfl rfl (by kernel_rfl) ?_
     refine RL.mv rfl rfl rfl ?_
     refine RL.mv rfl rfl rfl ?_
     obtain ⟨y394, e395, h372⟩ := bind_some h372
     refine RL.idxR 2 Try.underlying37 Try_ln24 rfl rfl rfl rfl rfl (idx_some e395).1 (idx_some e395).2.1 ?_
     refine RL.ldR (i := (y379).toNat) (r := y394) 2 Try_ln24 rfl rfl rfl rfl (idx_some e395).2.2 ?_
     refine RL.fadr (off := 0) (fo := 0) 3 Try_fld36_0 rfl rfl rfl PtOf.obox (Or.inr ⟨rfl, rfl⟩) ?_
     refine RL.ldPx (off := (0 + 0)) (e' := y308.1) 3 Ex.ik Try_ln3 rfl rfl (Or.inl rfl) rfl PtOf.obox (Part.fst Part.self) ?_
     obtain ⟨y396, e397, h372⟩ := bind_some h372
     refine RL.idxS (sz := 1) 2 Try.underlying24 Try_ln3 rfl rfl rfl rfl rfl (SlOf.row (idx_some e395).2.2) (idx_some e397).1 (idx_some e397).2.1 ?_
     refine RL.ldSx (i := (y308.1).toNat) (e' := y396) 2 Ex.ik Try_ln3 rfl rfl rfl rfl (SlOf.row (idx_some e395).2.2) (idx_some e397).2.2 Part.self ?_
     refine RL.mv rfl rfl rfl ?_
     refine RL.fadr (off := 0) (fo := 1) 3 Try_fld36_1 rfl rfl rfl PtOf.obox (Or.inr ⟨rfl, rfl⟩) ?_
     refine RL.ldP (off := (0 + 1)) (r := (TR.sl TR.int)) (e' := y308.2.1) 3 Try_ln24 rfl rfl (Or.inl rfl) rfl PtOf.obox (Part.snd (Part.fst Part.self)) ?_
     intro v398
     refine RL.mv rfl rfl rfl ?_
     obtain ⟨y399, e400, h372⟩ := bind_some h372
     refine RL.idxS (sz := 1) 5 Try.underlying24 Try_ln3 rfl rfl rfl rfl rfl SlOf.imm (idx_some e400).1 (idx_some e400).2.1 ?_
     refine RL.ldSx (i := (x333).toNat) (e' := y399) 5 Ex.ik Try_ln3 rfl rfl rfl rfl SlOf.imm (idx_some e400).2.2 Part.self ?_
     obtain ⟨y401, e402, h372⟩ := bind_some h372
     refine RL.idxR 2 Try.underlying37 Try_ln24 rfl rfl rfl rfl rfl (idx_some e402).1 (idx_some e402).2.1 ?_
     refine RL.ldR (i := (y399).toNat) (r := y401) 2 Try_ln24 rfl rfl rfl rfl (idx_some e402).2.2 ?_
     refine RL.fadr (off := 0) (fo := 0) 3 Try_fld36_0 rfl rfl rfl PtOf.obox (Or.inr ⟨rfl, rfl⟩) ?_
     refine RL.ldPx (off := (0 + 0)) (e' := y308.1) 3 Ex.ik Try_ln3 rfl rfl (Or.inl rfl) rfl PtOf.obox (Part.fst Part.self) ?_
     obtain ⟨y403, e404, h372⟩ := bind_some h372
     refine RL.idxS (sz := 1) 2 Try.underlying24 Try_ln3 rfl rfl rfl rfl rfl (SlOf.row (idx_some e402).2.2) (idx_some e404).1 (idx_some e404).2.1 ?_
     refine RL.ldSx (i := (y308.1).toNat) (e' := y403) 2 Ex.ik Try_ln3 rfl rfl rfl rfl (SlOf.row (idx_some e402).2.2) (idx_some e404).2.2 Part.self ?_
     refine RL.binI (v := .bool (decide (y396 > y403))) rfl rfl rfl rfl rfl ?_
     refine RL.finQG ?_
     refine GL.weak (env' := [(1, v1), (8, v13), (9, v19), (10, .int .i64 x155), (11, v311), (12, .int .i64 x333), (13, .int .i64 (i369 : Int)), (52, v332), (53, .int .i64 ((y308.2.1).length : Int)), (54, .int .i64 (i369 : Int)), (79, .bool (decide (y396 > y403)))]) (L' := [imm (TR.sl (TR.pair TR.int (TR.pair (TR.sl TR.int) (TR.sl TR.int)))) v1 x1, own 3 TR.int v13 l152, own2 24 3 TR.int v19 V154 l153, obox 36 (TR.pair TR.int (TR.pair (TR.sl TR.int) (TR.sl TR.int))) v311 y308, imm (TR.sl TR.int) v332 y308.2.1]) (fun a w st => St.cut [0, 1, 2, 3, 4] ⟨rfl, rfl, rfl, rfl, rfl, rfl, rfl, rfl, rfl, rfl, rfl, trivial⟩ (by decide) rfl st) ?_
     refine GL.cond rfl (fun b405 => ?_) (fun b405 => ?_)
     ·replace h372 := ite_t b405 h372
      refine GL.region ?_
      refine RL.mv rfl rfl rfl ?_
      refine RL.asg rfl rfl rfl ?_
      refine RL.finG ?_
      refine GL.nilB ?_
      refine GL.region ?_
      refine RL.binI (v := .int .i64 ((i369 + 1 : Nat) : Int)) rfl rfl rfl rfl (binI_succ i369 (by omega)) ?_
      refine RL.mv rfl rfl rfl ?_
      refine RL.fin ?_
      cases h372
      exact fun a w st => lop_intro (i369 + 1, r381, (i369 : Int)) ⟨by show i369 + 1 + r381.length = (y308.2.1).length; simp only [List.length_cons] at h375; omega, h382, h373⟩ (by simp) (St.cut [0, 1, 2, 3, 4] ⟨rfl, rfl, rfl, rfl, rfl, rfl, rfl, rfl, rfl, trivial⟩ (by decide) rfl st)
     replace h372 := ite_f b405 h372
     refine GL.skip ?_
     refine GL.nilB ?_
     refine GL.region ?_
     refine RL.binI (v := .int .i64 ((i369 + 1 : Nat) : Int)) rfl rfl rfl rfl (binI_succ i369 (by omega)) ?_
     refine RL.mv rfl rfl rfl ?_
     refine RL.fin ?_
     cases h372
     exact fun a w st => lop_intro (i369 + 1, r381, x333) ⟨by show i369 + 1 + r381.length = (y308.2.1).length; simp only [List.length_cons] at h375; omega, h382, h373⟩ (by simp) (St.cut [0, 1, 2, 3, 4] ⟨rfl, rfl, rfl, rfl, rfl, rfl, rfl, rfl, rfl, trivial⟩ (by decide) rfl st)
    have h378 : ¬ i369 < (y308.2.1).length := by have := of_decide_eq_false b377; omega
    obtain rfl : r370 = [] := by rw [← h376]; exact List.drop_of_length_le (by omega)
    replace h374 : some (Fl.nx _) = some y362 := h374
    cases h374
    exact GL.exit (fun a w st => mid_intro x333 h365 (St.cut [0, 1, 2, 3] ⟨rfl, rfl, rfl, rfl, rfl, rfl, trivial⟩ (by decide) rfl st))
   rintro x333 h406
   have h407 := h366 _ h406
   try dsimp only at h407
   refine GL.weak (env' := [(1, v1), (8, v13), (9, v19), (10, .int .i64 x155), (11, v311), (12, .int .i64 x333)]) (L' := [imm (TR.sl (TR.pair TR.int (TR.pair (TR.sl TR.int) (TR.sl TR.int)))) v1 x1, own 3 TR.int v13 l152, own2 24 3 TR.int v19 V154 l153, obox 36 (TR.pair TR.int (TR.pair (TR.sl TR.int) (TR.sl TR.int))) v311 y308]) (fun _ _ st => st) ?_
   refine GL.seq ?_
   refine GL.region ?_
   refine RL.mv rfl rfl rfl ?_
   refine RL.mv rfl rfl rfl ?_
   refine RL.mv rfl rfl rfl ?_
   obtain ⟨y410, e411, h407⟩ := bind_some h407
   refine RL.idxS (sz := 1) 1 Try.underlying24 Try_ln3 rfl rfl rfl rfl rfl SlOf.own (idx_some e411).1 (idx_some e411).2.1 ?_
   refine RL.stS (i := (x155).toNat) (e' := x333) (e1 := x333) (r := TR.int) 1 Try_ln3 rfl rfl rfl rfl VR.int rfl (idx_some e411).2.2 Upd.self ?_
   refine RL.finG ?_
   refine GL.region ?_
   refine RL.mv rfl rfl rfl ?_
   refine RL.mv rfl rfl rfl ?_
   refine RL.bS (t := TR.int) (vs := []) ([] : (List Int)) Try.underlying24 Try_lo3 rfl rfl rfl rfl trivial rfl (by decide) ?_
   intro v423
   refine RL.reL (L' := [imm (TR.sl (TR.pair TR.int (TR.pair (TR.sl TR.int) (TR.sl TR.int)))) v1 x1, own 3 TR.int v13 (List.set l152 ((x155).toNat) x333), own2 24 3 TR.int v19 V154 l153, obox 36 (TR.pair TR.int (TR.pair (TR.sl TR.int) (TR.sl TR.int))) v311 y308, own 3 TR.int v423 ([] : (List Int))]) rfl ?_
   refine RL.mv rfl rfl rfl ?_
   refine RL.fadr (off := 0) (fo := 1) 3 Try_fld36_1 rfl rfl rfl PtOf.obox (Or.inr ⟨rfl, rfl⟩) ?_
   refine RL.ldP (off := (0 + 1)) (r := (TR.sl TR.int)) (e' := y308.2.1) 3 Try_ln24 rfl rfl (Or.inl rfl) rfl PtOf.obox (Part.snd (Part.fst Part.self)) ?_
   intro v424
   refine RL.mv rfl rfl rfl ?_
   obtain ⟨y425, e426, h407⟩ := bind_some h407
   refine RL.idxS (sz := 1) 5 Try.underlying24 Try_ln3 rfl rfl rfl rfl rfl SlOf.imm (idx_some e426).1 (idx_some e426).2.1 ?_
   refine RL.ldSx (i := (x333).toNat) (e' := y425) 5 Ex.ik Try_ln3 rfl rfl rfl rfl SlOf.imm (idx_some e426).2.2 Part.self ?_
   obtain ⟨y427, e428, h407⟩ := bind_some h407
   refine RL.idxR 2 Try.underlying37 Try_ln24 rfl rfl rfl rfl rfl (idx_some e428).1 (idx_some e428).2.1 ?_
   refine RL.ldR (i := (y425).toNat) (r := y427) 2 Try_ln24 rfl rfl rfl rfl (idx_some e428).2.2 ?_
   obtain ⟨y429, e430, h407⟩ := bind_some h407
   replace e430 := chk_some e430
   refine RL.app 4 2 Try.underlying24 Try_lo3 rfl rfl rfl rfl rfl rfl rfl (SlOf.row (idx_some e428).2.2) e430 ?_
   intro v431
   refine RL.reL (L' := [imm (TR.sl (TR.pair TR.int (TR.pair (TR.sl TR.int) (TR.sl TR.int)))) v1 x1, own 3 TR.int v13 (List.set l152 ((x155).toNat) x333), own2 24 3 TR.int v19 V154 l153, obox 36 (TR.pair TR.int (TR.pair (TR.sl TR.int) (TR.sl TR.int))) v311 y308, own 3 TR.int v431 (([] : (List Int)) ++ y427), imm (TR.sl TR.int) v424 y308.2.1]) rfl ?_
   obtain ⟨y432, e433, h407⟩ := bind_some h407
   refine RL.idxR 2 Try.underlying37 Try_ln24 rfl rfl rfl rfl rfl (idx_some e433).1 (idx_some e433).2.1 ?_
   refine RL.stSp (i := (x155).toNat) (r0 := y432) 2 4 (by decide) Try_ln24 rfl rfl rfl rfl rfl rfl (idx_some e433).2.2 ?_
   refine RL.finG ?_
   refine GL.nilB ?_
   refine GL.region ?_
   refine RL.mv rfl rfl rfl ?_
   refine RL.binI (v := .int .i64 (wsub x155 (1 : Int))) rfl rfl rfl rfl rfl ?_
   refine RL.asg rfl rfl rfl ?_
   refine RL.finG ?_
   cases h407
   exact fun a w st => lop_intro (r302, (List.set l152 ((x155).toNat) x333), (List.set l153 ((x155).toNat) (([] : (List Int)) ++ y427)), wsub x155 (1 : Int), (List.set V154 ((x155).toNat) v431)) (by exact h298) (by simp) (St.cut [0, 1, 2] ⟨rfl, rfl, rfl, rfl, trivial⟩ (by decide) rfl st)
  replace h297 := ite_f b303 h297
  cases h297
  replace h298 : some (Fl.nx _) = some y287 := h298
  cases h298
  exact GL.exit (fun a w st => mid_intro (l152, l153, x155, V154) h290 (St.cut [1, 2] ⟨rfl, rfl, trivial⟩ (by decide) rfl st))
 rintro ⟨l152, l153, x155, V154⟩ h434
 have h435 := h291 _ h434
 try dsimp only at h435
 refine GL.weak (env' := [(8, v13), (9, v19)]) (L' := [own 3 TR.int v13 l152, own2 24 3 TR.int v19 V154 l153]) (fun _ _ st => st) ?_
 refine GL.seq ?_
 refine GL.region ?_
 refine RL.mv rfl rfl rfl ?_
 refine RL.mv rfl rfl rfl ?_
 refine RL.asg rfl rfl rfl ?_
 refine RL.asg rfl rfl rfl ?_
 refine RL.asg rfl rfl rfl ?_
 refine RL.finG ?_
 have h435 := Option.some.inj h435
 subst h435
 exact GL.ret (Gx.ret (v := .tuple #[v13, v19, .int .i64 (0 : Int)]) (res3 rfl rfl rfl rfl) (fun a w st => (st.pick [0, 1] (by decide) rfl).toPost (v13, v19, V154)))

set_option maxHeartbeats 4000000 in
theorem slices_Equal_int_int_c (S : Hp) (w : World) (hS : S.sub w) (v0 : Value) (x0 : (List Int)) (k0 : ((TR.sl TR.int)).vrep S v0 x0) (v1 : Value) (x1 : (List Int)) (k1 : ((TR.sl TR.int)).vrep S v1 x1) (res : Bool) (hm : slices_Equal_int_int_m x0 x1 = some res) : Calls Try.prog 22 #[v0, v1] w (PostV w (.bool res)) := by
 refine calls_enter 26 Try.func22 Try.ntmps22 rfl S false [(0, v0), (1, v1)] [imm (TR.sl TR.int) v0 x0, imm (TR.sl TR.int) v1 x1] rfl ⟨rfl, ⟨rfl, trivial⟩⟩ hS ⟨k0, ⟨k1, trivial⟩⟩ ?_
 unfold slices_Equal_int_int_m at hm
 refine GL.seq ?_
 refine GL.region ?_
 refine RL.asg rfl rfl rfl ?_
 refine RL.finG ?_
 refine GL.seq ?_
 refine GL.seq ?_
 refine GL.region ?_
 refine RL.mv rfl rfl rfl ?_
 refine RL.lenS 0 Try.underlying24 rfl rfl rfl rfl SlOf.imm ?_
 refine RL.mv rfl rfl rfl ?_
 refine RL.lenS 1 Try.underlying24 rfl rfl rfl rfl SlOf.imm ?_
 refine RL.binI (v := .bool (((x0).length : Int) != ((x1).length : Int))) rfl rfl rfl rfl rfl ?_
 refine RL.finG ?_
 refine GL.cond rfl (fun b3 => ?_) (fun b3 => ?_)
 ·replace hm := ite_t b3 hm
  refine GL.seq ?_
  refine GL.region ?_
  refine RL.asg rfl rfl rfl ?_
  refine RL.finG ?_
  have hm := Option.some.inj hm
  subst hm
  exact GL.ret (Gx.ret (v := .bool false) (res1 rfl rfl) (fun a w st => st.toPostV))
 replace hm := ite_f b3 hm
 refine GL.skip ?_
 refine GL.seq ?_
 refine GL.seq ?_
 refine GL.region ?_
 refine RL.mv rfl rfl rfl ?_
 refine RL.lenS 0 Try.underlying24 rfl rfl rfl rfl SlOf.imm ?_
 refine RL.mv rfl rfl rfl ?_
 refine RL.finG ?_
 refine GL.open_ 0 rfl (fun S h => len_imm S h) (fun n13 => ?_)
 obtain ⟨y14, K15, h16, h17, h18, h19, h20⟩ := bindR_K hm
 refine GL.join (ι := Unit) (fun (p : Unit) => []) (fun (p : Unit) => []) (fun (p : Unit) => K15 (.nx ())) ?_ ?_
 ·refine GL.block ?_
  refine GL.loop (ι := Nat × (List Int)) (fun (p : Nat × (List Int)) => [(0, v0), (1, v1), (12, .int .i64 ((x0).length : Int)), (13, .int .i64 (p.1 : Int))]) (fun (p : Nat × (List Int)) => [imm (TR.sl TR.int) v0 x0, imm (TR.sl TR.int) v1 x1]) (fun (p : Nat × (List Int)) => p.1 + p.2.length = (x0).length ∧ List.drop p.1 x0 = p.2 ∧ rangeL (slices_Equal_int_int_b1 x1) p.2 p.1 () = some y14) (fun (p : Nat × (List Int)) => p.2.length) (0, x0) ⟨by simp, by simp, h16⟩ (fun a w st => St.cut [0, 1] ⟨rfl, rfl, rfl, rfl, trivial⟩ (by decide) rfl st) ?_
  rintro ⟨i21, r22⟩ ⟨h27, h28, h26⟩
  try dsimp only at h27 h28 h26
  refine GL.weak (env' := [(0, v0), (1, v1), (12, .int .i64 ((x0).length : Int)), (13, .int .i64 (i21 : Int))]) (L' := [imm (TR.sl TR.int) v0 x0, imm (TR.sl TR.int) v1 x1]) (fun _ _ st => st) ?_
  refine GL.seq ?_
  refine GL.region ?_
  refine RL.binI (v := .bool (decide ((i21 : Int) < ((x0).length : Int)))) rfl rfl rfl rfl rfl ?_
  refine RL.finG ?_
  refine GL.seq ?_
  refine GL.cond rfl (fun b29 => ?_) (fun b29 => ?_)
  ·have h30 : i21 < (x0).length := by have := of_decide_eq_true b29; omega
   obtain ⟨y31, r33, hr, e32, h34⟩ := drop_cons h28 rfl h30
   subst hr
   obtain ⟨z23, h24, h25⟩ := rangeL_some h26
   unfold slices_Equal_int_int_b1 at h24
   try dsimp only at h24
   refine GL.skip ?_
   refine GL.seq ?_
   refine GL.block ?_
   refine GL.seq ?_
   refine GL.region ?_
   refine RL.mv rfl rfl rfl ?_
   refine RL.asg rfl rfl rfl ?_
   refine RL.finG ?_
   refine GL.seq ?_
   refine GL.regionQ rfl rfl (by kernel_rfl) ?_
   refine RL.mv rfl rfl rfl ?_
   refine RL.mv rfl rfl rfl ?_
   refine RL.idxS (sz := 1) 0 Try.underlying24 Try_ln3 rfl rfl rfl rfl rfl SlOf.imm (by omega) (by omega) ?_
   refine RL.ldSx (i := i21) (e' := y31) 0 Ex.ik Try_ln3 rfl rfl rfl rfl SlOf.imm e32 Part.self ?_
   refine RL.mv rfl rfl rfl ?_
   refine RL.mv rfl rfl rfl ?_
   obtain ⟨y37, e38, h24⟩ := bind_some h24
   refine RL.idxS (sz := 1) 1 Try.underlying24 Try_ln3 rfl rfl rfl rfl rfl SlOf.imm (idx_some e38).1 (idx_some e38).2.1 ?_
   refine RL.ldSx (i := i21) (e' := y37) 1 Ex.ik Try_ln3 rfl rfl rfl rfl SlOf.imm (idx_some e38).2.2 Part.self ?_
   refine RL.binI (v := .bool (y31 != y37)) rfl rfl rfl rfl rfl ?_
   refine RL.finQG ?_
   refine GL.cond rfl (fun b39 => ?_) (fun b39 => ?_)
   ·replace h24 := ite_t b39 h24
    refine GL.seq ?_
    refine GL.region ?_
    refine RL.asg rfl rfl rfl ?_
    refine RL.finG ?_
    cases h24
    replace h25 : some (Fl.rt _) = some y14 := h25
    cases h25
    have hh := h19 _ h17
    subst hh
    exact GL.ret (Gx.ret (v := .bool false) (res1 rfl rfl) (fun a w st => st.toPostV))
   replace h24 := ite_f b39 h24
   refine GL.skip ?_
   refine GL.nilB ?_
   refine GL.region ?_
   refine RL.binI (v := .int .i64 ((i21 + 1 : Nat) : Int)) rfl rfl rfl rfl (binI_succ i21 (by omega)) ?_
   refine RL.mv rfl rfl rfl ?_
   refine RL.fin ?_
   cases h24
   exact fun a w st => lop_intro (i21 + 1, r33) ⟨by show i21 + 1 + r33.length = (x0).length; simp only [List.length_cons] at h27; omega, h34, h25⟩ (by simp) (St.cut [0, 1] ⟨rfl, rfl, rfl, rfl, trivial⟩ (by decide) rfl st)
  have h30 : ¬ i21 < (x0).length := by have := of_decide_eq_false b29; omega
  obtain rfl : r22 = [] := by rw [← h28]; exact List.drop_of_length_le (by omega)
  replace h26 : some (Fl.nx _) = some y14 := h26
  cases h26
  exact GL.exit (fun a w st => mid_intro () h17 (St.cut [] trivial (by decide) rfl st))
 rintro ⟨⟩ h40
 have h41 := h18 _ h40
 try dsimp only at h41
 refine GL.weak (env' := []) (L' := []) (fun _ _ st => st) ?_
 refine GL.seq ?_
 refine GL.region ?_
 refine RL.asg rfl rfl rfl ?_
 refine RL.finG ?_
 have h41 := Option.some.inj h41
 subst h41
 exact GL.ret (Gx.ret (v := .bool true) (res1 rfl rfl) (fun a w st => st.toPostV))

set_option maxHeartbeats 4000000 in
theorem pk_trees_c (S : Hp) (w : World) (hS : S.sub w)  (res : Bool) (hm : pk_trees_m = some res) : Calls Try.prog 15 #[] w (PostV w (.bool res)) := by
 refine calls_enter 35 Try.func15 Try.ntmps15 rfl S false [] [] rfl trivial hS trivial ?_
 unfold pk_trees_m at hm
 refine GL.seq ?_
 refine GL.region ?_
 refine RL.asg rfl rfl rfl ?_
 refine RL.finG ?_
 refine GL.seq ?_
 refine GL.region ?_
 refine RL.bS (t := TR.int) (vs := [.int .i64 (1 : Int), .int .i64 (2 : Int)]) ([(1 : Int), (2 : Int)] : (List Int)) Try.underlying24 Try_lo3 rfl rfl rfl rfl ⟨VR.int, ⟨VR.int, trivial⟩⟩ rfl (by decide) ?_
 intro v13
 refine RL.weak (fun a w st => st.freeze 0 rfl) ?_
 refine RL.bld (t := (TR.pair TR.int (TR.pair (TR.sl TR.int) (TR.sl TR.int)))) (d0 := (((0 : Int), ([(1 : Int), (2 : Int)] : (List Int)), ([] : (List Int))) : (Int × ((List Int) × (List Int))))) (pv := [(1, v13)]) rfl Try_bld36 rfl rfl rfl ⟨⟨_, _, (TR.sl TR.int), ([(1 : Int), (2 : Int)] : (List Int)), rfl, rfl, (VR.item 0 rfl)⟩, trivial⟩ (fun S f hi => by
   obtain ⟨c1, e1, r1⟩ := cells_vrep (t := (TR.sl TR.int)) (u := v13) (e := ([(1 : Int), (2 : Int)] : (List Int))) ((VR.item 0 rfl) S f hi)
   show TR.rep (TR.pair TR.int (TR.pair (TR.sl TR.int) (TR.sl TR.int))) S (List.flatten [[.int .i64 0], (v13 : Value).cells.toList, [.slice none 0 0]]) _
   simp only [e1,  List.flatten_cons, List.flatten_nil, List.append_nil]
   exact ⟨_, _, rfl, rfl, ⟨_, _, rfl, r1, ⟨_, [], rfl, ⟨none, 0, rfl, Nat.le_refl _, Nat.zero_le _, Or.inl ⟨rfl, rfl⟩⟩, rfl⟩⟩⟩) ?_
 intro v14
 refine RL.reL (L' := [imm (TR.sl TR.int) v13 ([(1 : Int), (2 : Int)] : (List Int)), imm (TR.pair TR.int (TR.pair (TR.sl TR.int) (TR.sl TR.int))) v14 (((0 : Int), ([(1 : Int), (2 : Int)] : (List Int)), ([] : (List Int))) : (Int × ((List Int) × (List Int))))]) rfl ?_
 refine RL.bS (t := TR.int) (vs := [.int .i64 (1 : Int)]) ([(1 : Int)] : (List Int)) Try.underlying24 Try_lo3 rfl rfl rfl rfl ⟨VR.int, trivial⟩ rfl (by decide) ?_
 intro v15
 refine RL.weak (fun a w st => st.freeze 2 rfl) ?_
 refine RL.bld (t := (TR.pair TR.int (TR.pair (TR.sl TR.int) (TR.sl TR.int)))) (d0 := (((-1 : Int), ([] : (List Int)), ([(1 : Int)] : (List Int))) : (Int × ((List Int) × (List Int))))) (pv := [(0, .int .i64 (-1 : Int)), (2, v15)]) rfl Try_bld36 rfl rfl rfl ⟨⟨_, _, TR.int, (-1 : Int), rfl, rfl, VR.int⟩, ⟨⟨_, _, (TR.sl TR.int), ([(1 : Int)] : (List Int)), rfl, rfl, (VR.item 2 rfl)⟩, trivial⟩⟩ (fun S f hi => by
   obtain ⟨c0, e0, r0⟩ := cells_vrep (t := TR.int) (u := .int .i64 (-1 : Int)) (e := (-1 : Int)) (VR.int S f hi)
   obtain ⟨c2, e2, r2⟩ := cells_vrep (t := (TR.sl TR.int)) (u := v15) (e := ([(1 : Int)] : (List Int))) ((VR.item 2 rfl) S f hi)
   show TR.rep (TR.pair TR.int (TR.pair (TR.sl TR.int) (TR.sl TR.int))) S (List.flatten [(.int .i64 (-1 : Int) : Value).cells.toList, [.slice none 0 0], (v15 : Value).cells.toList]) _
   simp only [e0, e2,  List.flatten_cons, List.flatten_nil, List.append_nil]
   exact ⟨_, _, rfl, r0, ⟨_, _, rfl, ⟨_, [], rfl, ⟨none, 0, rfl, Nat.le_refl _, Nat.zero_le _, Or.inl ⟨rfl, rfl⟩⟩, rfl⟩, r2⟩⟩) ?_
 intro v16
 refine RL.reL (L' := [imm (TR.sl TR.int) v13 ([(1 : Int), (2 : Int)] : (List Int)), imm (TR.pair TR.int (TR.pair (TR.sl TR.int) (TR.sl TR.int))) v14 (((0 : Int), ([(1 : Int), (2 : Int)] : (List Int)), ([] : (List Int))) : (Int × ((List Int) × (List Int)))), imm (TR.sl TR.int) v15 ([(1 : Int)] : (List Int)), imm (TR.pair TR.int (TR.pair (TR.sl TR.int) (TR.sl TR.int))) v16 (((-1 : Int), ([] : (List Int)), ([(1 : Int)] : (List Int))) : (Int × ((List Int) × (List Int))))]) rfl ?_
 refine RL.bS (t := TR.int) (vs := [.int .i64 (2 : Int)]) ([(2 : Int)] : (List Int)) Try.underlying24 Try_lo3 rfl rfl rfl rfl ⟨VR.int, trivial⟩ rfl (by decide) ?_
 intro v17
 refine RL.weak (fun a w st => st.freeze 4 rfl) ?_
 refine RL.bld (t := (TR.pair TR.int (TR.pair (TR.sl TR.int) (TR.sl TR.int)))) (d0 := (((-1 : Int), ([] : (List Int)), ([(2 : Int)] : (List Int))) : (Int × ((List Int) × (List Int))))) (pv := [(0, .int .i64 (-1 : Int)), (2, v17)]) rfl Try_bld36 rfl rfl rfl ⟨⟨_, _, TR.int, (-1 : Int), rfl, rfl, VR.int⟩, ⟨⟨_, _, (TR.sl TR.int), ([(2 : Int)] : (List Int)), rfl, rfl, (VR.item 4 rfl)⟩, trivial⟩⟩ (fun S f hi => by
   obtain ⟨c0, e0, r0⟩ := cells_vrep (t := TR.int) (u := .int .i64 (-1 : Int)) (e := (-1 : Int)) (VR.int S f hi)
   obtain ⟨c2, e2, r2⟩ := cells_vrep (t := (TR.sl TR.int)) (u := v17) (e := ([(2 : Int)] : (List Int))) ((VR.item 4 rfl) S f hi)
   show TR.rep (TR.pair TR.int (TR.pair (TR.sl TR.int) (TR.sl TR.int))) S (List.flatten [(.int .i64 (-1 : Int) : Value).cells.toList, [.slice none 0 0], (v17 : Value).cells.toList]) _
   simp only [e0, e2,  List.flatten_cons, List.flatten_nil, List.append_nil]
   exact ⟨_, _, rfl, r0, ⟨_, _, rfl, ⟨_, [], rfl, ⟨none, 0, rfl, Nat.le_refl _, Nat.zero_le _, Or.inl ⟨rfl, rfl⟩⟩, rfl⟩, r2⟩⟩) ?_
 intro v18
 refine RL.reL (L' := [imm (TR.sl TR.int) v13 ([(1 : Int), (2 : Int)] : (List Int)), imm (TR.pair TR.int (TR.pair (TR.sl TR.int) (TR.sl TR.int))) v14 (((0 : Int), ([(1 : Int), (2 : Int)] : (List Int)), ([] : (List Int))) : (Int × ((List Int) × (List Int)))), imm (TR.sl TR.int) v15 ([(1 : Int)] : (List Int)), imm (TR.pair TR.int (TR.pair (TR.sl TR.int) (TR.sl TR.int))) v16 (((-1 : Int), ([] : (List Int)), ([(1 : Int)] : (List Int))) : (Int × ((List Int) × (List Int)))), imm (TR.sl TR.int) v17 ([(2 : Int)] : (List Int)), imm (TR.pair TR.int (TR.pair (TR.sl TR.int) (TR.sl TR.int))) v18 (((-1 : Int), ([] : (List Int)), ([(2 : Int)] : (List Int))) : (Int × ((List Int) × (List Int))))]) rfl ?_
 refine RL.bS (t := (TR.pair TR.int (TR.pair (TR.sl TR.int) (TR.sl TR.int)))) (vs := [v14, v16, v18]) ([(((0 : Int), ([(1 : Int), (2 : Int)] : (List Int)), ([] : (List Int))) : (Int × ((List Int) × (List Int)))), (((-1 : Int), ([] : (List Int)), ([(1 : Int)] : (List Int))) : (Int × ((List Int) × (List Int)))), (((-1 : Int), ([] : (List Int)), ([(2 : Int)] : (List Int))) : (Int × ((List Int) × (List Int))))] : (List (Int × ((List Int) × (List Int))))) Try.underlying33 Try_lo36 rfl rfl rfl rfl ⟨(VR.item 1 rfl), ⟨(VR.item 3 rfl), ⟨(VR.item 5 rfl), trivial⟩⟩⟩ rfl (by decide) ?_
 intro v19
 refine RL.weak (fun a w st => st.freeze 6 rfl) ?_
 obtain ⟨y20, e21, hm⟩ := bind_some hm
 refine RL.call (vs := [.int .i64 (1 : Int), v19]) Try_fit17 rfl rfl rfl rfl rfl (fun S f w hS hW hi => tree_Solve_c S w hS (1 : Int) _ _ (hi 6 _ rfl) _ e21) ?_
 intro ⟨v22, v23, V24⟩
 refine RL.weak (fun a w st => st.freeze2 8 rfl) ?_
 refine RL.reL (L' := [imm (TR.sl TR.int) v13 ([(1 : Int), (2 : Int)] : (List Int)), imm (TR.pair TR.int (TR.pair (TR.sl TR.int) (TR.sl TR.int))) v14 (((0 : Int), ([(1 : Int), (2 : Int)] : (List Int)), ([] : (List Int))) : (Int × ((List Int) × (List Int)))), imm (TR.sl TR.int) v15 ([(1 : Int)] : (List Int)), imm (TR.pair TR.int (TR.pair (TR.sl TR.int) (TR.sl TR.int))) v16 (((-1 : Int), ([] : (List Int)), ([(1 : Int)] : (List Int))) : (Int × ((List Int) × (List Int)))), imm (TR.sl TR.int) v17 ([(2 : Int)] : (List Int)), imm (TR.pair TR.int (TR.pair (TR.sl TR.int) (TR.sl TR.int))) v18 (((-1 : Int), ([] : (List Int)), ([(2 : Int)] : (List Int))) : (Int × ((List Int) × (List Int)))), imm (TR.sl (TR.pair TR.int (TR.pair (TR.sl TR.int) (TR.sl TR.int)))) v19 ([(((0 : Int), ([(1 : Int), (2 : Int)] : (List Int)), ([] : (List Int))) : (Int × ((List Int) × (List Int)))), (((-1 : Int), ([] : (List Int)), ([(1 : Int)] : (List Int))) : (Int × ((List Int) × (List Int)))), (((-1 : Int), ([] : (List Int)), ([(2 : Int)] : (List Int))) : (Int × ((List Int) × (List Int))))] : (List (Int × ((List Int) × (List Int))))), own 3 TR.int v22 y20.1, imm (TR.sl (TR.sl TR.int)) v23 y20.2.1]) rfl ?_
 refine RL.mv rfl rfl rfl ?_
 refine RL.ext rfl rfl rfl rfl ?_
 refine RL.ext rfl rfl rfl rfl ?_
 refine RL.ext rfl rfl rfl rfl ?_
 refine RL.asg rfl rfl rfl ?_
 refine RL.asg rfl rfl rfl ?_
 refine RL.asg rfl rfl rfl ?_
 refine RL.finG ?_
 refine GL.seq ?_
 obtain ⟨y50, K51, h52, h53, h54, h55, h56⟩ := bindR_K hm
 refine GL.join (ι := Bool) (fun (p : Bool) => [(0, .bool p)]) (fun (p : Bool) => []) (fun (p : Bool) => K51 (.nx p)) ?_ ?_
 ·skip
  refine GL.region ?_
  refine RL.mv rfl rfl rfl ?_
  refine RL.binI (v := .bool (y20.2.2 == (0 : Int))) rfl rfl rfl rfl rfl ?_
  refine RL.mv rfl rfl rfl ?_
  refine RL.split (t := 18) rfl (fun b57 => ?_) (fun b57 => ?_)
  ·replace h52 := ite_t b57 h52
   refine RL.mv rfl rfl rfl ?_
   refine RL.bS (t := TR.int) (vs := [.int .i64 (1 : Int), .int .i64 (-1 : Int), .int .i64 (-1 : Int)]) ([(1 : Int), (-1 : Int), (-1 : Int)] : (List Int)) Try.underlying24 Try_lo3 rfl rfl rfl rfl ⟨VR.int, ⟨VR.int, ⟨VR.int, trivial⟩⟩⟩ rfl (by decide) ?_
   intro v58
   obtain ⟨y59, e60, h52⟩ := bind_some h52
   refine RL.callV (v := .bool y59) (vs := [v22, v58]) Try_fit22 rfl (Or.inl rfl) rfl rfl rfl rfl (fun U w hU hW hL => slices_Equal_int_int_c U w hU _ _ (hL 7 _ _ rfl Seen.own) _ _ (hL 9 _ _ rfl Seen.own) _ e60) ?_
   refine RL.pickT rfl rfl rfl rfl ?_
   refine RL.mv rfl rfl rfl ?_
   refine RL.split (t := 23) rfl (fun b61 => ?_) (fun b61 => ?_)
   ·replace h52 := ite_t b61 h52
    refine RL.mv rfl rfl rfl ?_
    refine RL.lenS 8 Try.underlying37 rfl rfl rfl rfl SlOf.imm ?_
    refine RL.binI (v := .bool (((y20.2.1).length : Int) == (3 : Int))) rfl rfl rfl rfl rfl ?_
    refine RL.pickT rfl rfl rfl rfl ?_
    refine RL.mv rfl rfl rfl ?_
    refine RL.split (t := 28) rfl (fun b62 => ?_) (fun b62 => ?_)
    ·replace h52 := ite_t b62 h52
     refine RL.mv rfl rfl rfl ?_
     obtain ⟨y63, e64, h52⟩ := bind_some h52
     refine RL.idxS (sz := 1) 8 Try.underlying37 Try_ln24 rfl rfl rfl rfl rfl SlOf.imm (idx_some e64).1 (idx_some e64).2.1 ?_
     refine RL.ldS (i := ((0 : Int)).toNat) (r := (TR.sl TR.int)) (e' := y63) 8 Try_ln24 rfl rfl rfl rfl SlOf.imm (idx_some e64).2.2 Part.self ?_
     intro v65
     refine RL.reL (L' := [imm (TR.sl TR.int) v13 ([(1 : Int), (2 : Int)] : (List Int)), imm (TR.pair TR.int (TR.pair (TR.sl TR.int) (TR.sl TR.int))) v14 (((0 : Int), ([(1 : Int), (2 : Int)] : (List Int)), ([] : (List Int))) : (Int × ((List Int) × (List Int)))), imm (TR.sl TR.int) v15 ([(1 : Int)] : (List Int)), imm (TR.pair TR.int (TR.pair (TR.sl TR.int) (TR.sl TR.int))) v16 (((-1 : Int), ([] : (List Int)), ([(1 : Int)] : (List Int))) : (Int × ((List Int) × (List Int)))), imm (TR.sl TR.int) v17 ([(2 : Int)] : (List Int)), imm (TR.pair TR.int (TR.pair (TR.sl TR.int) (TR.sl TR.int))) v18 (((-1 : Int), ([] : (List Int)), ([(2 : Int)] : (List Int))) : (Int × ((List Int) × (List Int)))), imm (TR.sl (TR.pair TR.int (TR.pair (TR.sl TR.int) (TR.sl TR.int)))) v19 ([(((0 : Int), ([(1 : Int), (2 : Int)] : (List Int)), ([] : (List Int))) : (Int × ((List Int) × (List Int)))), (((-1 : Int), ([] : (List Int)), ([(1 : Int)] : (List Int))) : (Int × ((List Int) × (List Int)))), (((-1 : Int), ([] : (List Int)), ([(2 : Int)] : (List Int))) : (Int × ((List Int) × (List Int))))] : (List (Int × ((List Int) × (List Int))))), own 3 TR.int v22 y20.1, imm (TR.sl (TR.sl TR.int)) v23 y20.2.1, own 3 TR.int v58 ([(1 : Int), (-1 : Int), (-1 : Int)] : (List Int)), imm (TR.sl TR.int) v65 y63]) rfl ?_
     refine RL.bS (t := TR.int) (vs := [.int .i64 (2 : Int)]) ([(2 : Int)] : (List Int)) Try.underlying24 Try_lo3 rfl rfl rfl rfl ⟨VR.int, trivial⟩ rfl (by decide) ?_
     intro v66
     obtain ⟨y67, e68, h52⟩ := bind_some h52
     refine RL.callV (v := .bool y67) (vs := [v65, v66]) Try_fit22 rfl (Or.inl rfl) rfl rfl rfl rfl (fun U w hU hW hL => slices_Equal_int_int_c U w hU _ _ (hL 10 _ _ rfl Seen.imm) _ _ (hL 11 _ _ rfl Seen.own) _ e68) ?_
     refine RL.pickT rfl rfl rfl rfl ?_
     refine RL.asg rfl rfl rfl ?_
     refine RL.fin ?_
     cases h52
     exact fun a w st => mid_intro y67 h53 (St.cut [] ⟨rfl, trivial⟩ (by decide) rfl st)
    replace h52 := ite_f b62 h52
    refine RL.skip rfl rfl ?_
    refine RL.skip rfl rfl ?_
    refine RL.skip rfl rfl ?_
    refine RL.skip rfl rfl ?_
    refine RL.skip rfl rfl ?_
    refine RL.pickF rfl rfl rfl rfl ?_
    refine RL.asg rfl rfl rfl ?_
    refine RL.fin ?_
    cases h52
    exact fun a w st => mid_intro false h53 (St.cut [] ⟨rfl, trivial⟩ (by decide) rfl st)
   replace h52 := ite_f b61 h52
   refine RL.skip rfl rfl ?_
   refine RL.skip rfl rfl ?_
   refine RL.skip rfl rfl ?_
   refine RL.pickF rfl rfl rfl rfl ?_
   refine RL.mv rfl rfl rfl ?_
   refine RL.skip rfl rfl ?_
   refine RL.skip rfl rfl ?_
   refine RL.skip rfl rfl ?_
   refine RL.skip rfl rfl ?_
   refine RL.skip rfl rfl ?_
   refine RL.pickF rfl rfl rfl rfl ?_
   refine RL.asg rfl rfl rfl ?_
   refine RL.fin ?_
   cases h52
   exact fun a w st => mid_intro false h53 (St.cut [] ⟨rfl, trivial⟩ (by decide) rfl st)
  replace h52 := ite_f b57 h52
  refine RL.skip rfl rfl ?_
  refine RL.skip rfl rfl ?_
  refine RL.skip rfl rfl ?_
  refine RL.pickF rfl rfl rfl rfl ?_
  refine RL.mv rfl rfl rfl ?_
  refine RL.skip rfl rfl ?_
  refine RL.skip rfl rfl ?_
  refine RL.skip rfl rfl ?_
  refine RL.pickF rfl rfl rfl rfl ?_
  refine RL.mv rfl rfl rfl ?_
  refine RL.skip rfl rfl ?_
  refine RL.skip rfl rfl ?_
  refine RL.skip rfl rfl ?_
  refine RL.skip rfl rfl ?_
  refine RL.skip rfl rfl ?_
  refine RL.pickF rfl rfl rfl rfl ?_
  refine RL.asg rfl rfl rfl ?_
  refine RL.fin ?_
  cases h52
  exact fun a w st => mid_intro false h53 (St.cut [] ⟨rfl, trivial⟩ (by decide) rfl st)
 rintro x49 h69
 have h70 := h54 _ h69
 try dsimp only at h70
 refine GL.weak (env' := [(0, .bool x49)]) (L' := []) (fun _ _ st => st) ?_
 have h70 := Option.some.inj h70
 subst h70
 exact GL.ret (Gx.ret (v := .bool x49) (res1 rfl rfl) (fun a w st => st.toPostV))

set_option maxHeartbeats 4000000 in
theorem slices_Clone_int_int_c (S : Hp) (w : World) (hS : S.sub w) (v0 : Value) (x0 : List Int) (k0 : (TR.sl TR.int).vrep S v0 x0) (res : List Int) (hm : slices_Clone_int_int_m x0 = some res) : Calls Try.prog 18 #[v0] w (Post w S (fun (o : Value) => o) (fun (o : Value) => [own 3 TR.int o res])) := by
  refine calls_enter 8 Try.func18 Try.ntmps18 rfl S false [(0, v0)] [imm (TR.sl TR.int) v0 x0] rfl ⟨rfl, trivial⟩ hS ⟨k0, trivial⟩ ?_
  unfold slices_Clone_int_int_m at hm
  obtain ⟨_, hc, hm⟩ := bind_some hm
  replace hc := chk_some hc
  have hm := Option.some.inj hm
  subst hm
  refine GL.seq (GL.region (RL.asg rfl rfl rfl (RL.finG (GL.seq (GL.seq (GL.region ?_))))))
  refine RL.mv rfl rfl rfl ?_
  refine RL.eqNil 0 Try.underlying24 rfl rfl rfl rfl rfl SlOf.imm (fun b hb => ?_)
  refine RL.finG (GL.cond rfl (fun h => ?_) (fun h => ?_))
  · have := hb h
    subst this
    refine GL.seq (GL.region (RL.asg rfl rfl rfl (RL.finG ?_)))
    refine GL.weak (fun a w st => st.nilOwn 3 TR.int) ?_
    exact GL.ret (Gx.ret (v := Value.slice none 0 0) (res1 rfl rfl) (fun a w st => (st.pick [1] (by decide) rfl).toPost (Value.slice none 0 0)))
  · refine GL.skip (GL.seq (GL.region ?_))
    refine RL.bS (t := TR.int) (vs := []) ([] : List Int) Try.underlying24 Try_lo3 rfl rfl rfl rfl trivial rfl (by decide) ?_
    intro v1
    refine RL.mv rfl rfl rfl ?_
    refine RL.appB 1 0 Try.underlying24 Try_lo3 rfl rfl rfl rfl rfl rfl rfl SlOf.imm (RoomN.of (N := 17592186044416) Try_info3 (by decide) (by decide)) (by simpa using hc) ?_
    intro v2
    refine RL.asg rfl rfl rfl (RL.finG ?_)
    exact GL.ret (Gx.ret (v := v2) (res1 rfl rfl) (fun a w st => (st.pick [1] (by decide) rfl).toPost v2))

set_option maxHeartbeats 4000000 in
theorem tree_Play_c (S : Hp) (w : World) (hS : S.sub w) (x0 : Int) (v1 : Value) (x1 : (List (Int × ((List Int) × (List Int))))) (k1 : ((TR.sl (TR.pair TR.int (TR.pair (TR.sl TR.int) (TR.sl TR.int))))).vrep S v1 x1) (v2 : Value) (x2 : (List Int)) (k2 : ((TR.sl TR.int)).vrep S v2 x2) (res : (List Int) × (List Int) × Int) (hm : tree_Play_m x0 x1 x2 = some res) : Calls Try.prog 19 #[.int .i64 x0, v1, v2] w (Post w S (fun (o : Value × Value) => .tuple #[o.1, o.2, .int .i64 res.2.2]) (fun (o : Value × Value) => [own 3 TR.int o.1 res.1, own 3 TR.int o.2 res.2.1])) := by
 refine calls_enter 67 Try.func19 Try.ntmps19 rfl S false [(0, .int .i64 x0), (1, v1), (2, v2)] [imm (TR.sl (TR.pair TR.int (TR.pair (TR.sl TR.int) (TR.sl TR.int)))) v1 x1, imm (TR.sl TR.int) v2 x2] rfl ⟨rfl, ⟨rfl, ⟨rfl, trivial⟩⟩⟩ hS ⟨k1, ⟨k2, trivial⟩⟩ ?_
 unfold tree_Play_m at hm
 refine GL.seq ?_
 refine GL.region ?_
 refine RL.asg rfl rfl rfl ?_
 refine RL.asg rfl rfl rfl ?_
 refine RL.asg rfl rfl rfl ?_
 refine RL.finG ?_
 refine GL.seq ?_
 refine GL.seq ?_
 refine GL.region ?_
 refine RL.mv rfl rfl rfl ?_
 refine RL.mv rfl rfl rfl ?_
 obtain ⟨y6, e7, hm⟩ := bind_some hm
 refine RL.callV (v := .int .i64 y6) (vs := [.int .i64 x0, v1]) Try_fit81 rfl (Or.inl rfl) rfl rfl rfl rfl (fun U w hU hW hL => tree_Check_c U w hU x0 _ _ (hL 0 _ _ rfl Seen.imm) _ e7) ?_
 refine RL.asg rfl rfl rfl ?_
 refine RL.finG ?_
 refine GL.seq ?_
 refine GL.region ?_
 refine RL.mv rfl rfl rfl ?_
 refine RL.binI (v := .bool (y6 != (0 : Int))) rfl rfl rfl rfl rfl ?_
 refine RL.finG ?_
 refine GL.cond rfl (fun b8 => ?_) (fun b8 => ?_)
 ·replace hm := ite_t b8 hm
  refine GL.seq ?_
  refine GL.region ?_
  refine RL.mv rfl rfl rfl ?_
  refine RL.asg rfl rfl rfl ?_
  refine RL.asg rfl rfl rfl ?_
  refine RL.asg rfl rfl rfl ?_
  refine RL.finG ?_
  refine GL.weak (fun a w st => st.nilOwn 3 TR.int) ?_
  refine GL.weak (fun a w st => st.nilOwn 3 TR.int) ?_
  have hm := Option.some.inj hm
  subst hm
  exact GL.ret (Gx.ret (v := .tuple #[Value.slice none 0 0, Value.slice none 0 0, .int .i64 y6]) (res3 rfl rfl rfl rfl) (fun a w st => (st.pick [2, 3] (by decide) rfl).toPost (Value.slice none 0 0, Value.slice none 0 0)))
 replace hm := ite_f b8 hm
 refine GL.skip ?_
 refine GL.seq ?_
 refine GL.seq ?_
 refine GL.region ?_
 refine RL.mv rfl rfl rfl ?_
 refine RL.lenS 1 Try.underlying24 rfl rfl rfl rfl SlOf.imm ?_
 refine RL.mv rfl rfl rfl ?_
 refine RL.lenS 0 Try.underlying33 rfl rfl rfl rfl SlOf.imm ?_
 refine RL.binI (v := .bool (((x2).length : Int) != ((x1).length : Int))) rfl rfl rfl rfl rfl ?_
 refine RL.finG ?_
 refine GL.cond rfl (fun b9 => ?_) (fun b9 => ?_)
 ·replace hm := ite_t b9 hm
  refine GL.seq ?_
  refine GL.region ?_
  refine RL.asg rfl rfl rfl ?_
  refine RL.asg rfl rfl rfl ?_
  refine RL.asg rfl rfl rfl ?_
  refine RL.finG ?_
  refine GL.weak (fun a w st => st.nilOwn 3 TR.int) ?_
  refine GL.weak (fun a w st => st.nilOwn 3 TR.int) ?_
  have hm := Option.some.inj hm
  subst hm
  exact GL.ret (Gx.ret (v := .tuple #[Value.slice none 0 0, Value.slice none 0 0, .int .i64 (3 : Int)]) (res3 rfl rfl rfl rfl) (fun a w st => (st.pick [2, 3] (by decide) rfl).toPost (Value.slice none 0 0, Value.slice none 0 0)))
 replace hm := ite_f b9 hm
 refine GL.skip ?_
 refine GL.seq ?_
 refine GL.region ?_
 refine RL.asg rfl rfl rfl ?_
 refine RL.finG ?_
 refine GL.seq ?_
 refine GL.region ?_
 refine RL.bS (t := TR.int) (vs := [.int .i64 (0 : Int)]) ([(0 : Int)] : (List Int)) Try.underlying24 Try_lo3 rfl rfl rfl rfl ⟨VR.int, trivial⟩ rfl (by decide) ?_
 intro v11
 refine RL.asg rfl rfl rfl ?_
 refine RL.finG ?_
 refine GL.seq ?_
 obtain ⟨y65, K66, h67, h68, h69, h70, h71⟩ := bindR_K hm
 refine GL.join (ι := Int × (List Int) × Value) (fun (p : Int × (List Int) × Value) => [(1, v1), (10, .int .i64 p.1), (11, p.2.2)]) (fun (p : Int × (List Int) × Value) => [imm (TR.sl (TR.pair TR.int (TR.pair (TR.sl TR.int) (TR.sl TR.int)))) v1 x1, own 3 TR.int p.2.2 p.2.1]) (fun (p : Int × (List Int) × Value) => K66 (.nx (p.1, p.2.1))) ?_ ?_
 ·refine GL.block ?_
  refine GL.loop (ι := Nat × Int × (List Int) × Value) (fun (p : Nat × Int × (List Int) × Value) => [(1, v1), (2, v2), (10, .int .i64 p.2.1), (11, p.2.2.2)]) (fun (p : Nat × Int × (List Int) × Value) => [imm (TR.sl (TR.pair TR.int (TR.pair (TR.sl TR.int) (TR.sl TR.int)))) v1 x1, imm (TR.sl TR.int) v2 x2, own 3 TR.int p.2.2.2 p.2.2.1]) (fun (p : Nat × Int × (List Int) × Value) => loopM (tree_Play_b1 x1 x2) p.1 (p.2.1, p.2.2.1) = some y65) (fun (p : Nat × Int × (List Int) × Value) => p.1) (1048576, (0 : Int), ([(0 : Int)] : (List Int)), v11) h67 (fun a w st => St.cut [0, 1, 2] ⟨rfl, rfl, rfl, rfl, trivial⟩ (by decide) rfl st) ?_
  rintro ⟨r73, x12, l13, v14⟩ h77
  try dsimp only at h77
  refine GL.weak (env' := [(1, v1), (2, v2), (10, .int .i64 x12), (11, v14)]) (L' := [imm (TR.sl (TR.pair TR.int (TR.pair (TR.sl TR.int) (TR.sl TR.int)))) v1 x1, imm (TR.sl TR.int) v2 x2, own 3 TR.int v14 l13]) (fun _ _ st => st) ?_
  obtain ⟨r80, z74, hr, h75, h76⟩ := loopM_some h77
  subst hr
  unfold tree_Play_b1 at h75
  try dsimp only at h75
  refine GL.seq ?_
  refine GL.seq ?_
  refine GL.region ?_
  refine RL.mv rfl rfl rfl ?_
  refine RL.mv rfl rfl rfl ?_
  obtain ⟨y83, e84, h75⟩ := bind_some h75
  refine RL.idxS (sz := 3) 0 Try.underlying33 Try_ln36 rfl rfl rfl rfl rfl SlOf.imm (idx_some e84).1 (idx_some e84).2.1 ?_
  refine RL.fadrS (off := ((x12).toNat * 3)) (fo := 0) 0 Try_fld36_0 rfl rfl rfl SlOf.imm (by have := (List.getElem?_eq_some_iff.1 (idx_some e84).2.2).1; (try dsimp only at this ⊢); omega) rfl ?_
  refine RL.ldSx (i := (x12).toNat) (e' := y83.1) 0 Ex.ik Try_ln3 rfl rfl rfl rfl SlOf.imm (idx_some e84).2.2 (Part.fst Part.self) ?_
  refine RL.binI (v := .bool (decide (y83.1 ≥ (0 : Int)))) rfl rfl rfl rfl rfl ?_
  refine RL.finG ?_
  refine GL.cond rfl (fun b85 => ?_) (fun b85 => ?_)
  ·replace h75 := ite_t b85 h75
   refine GL.skip ?_
   refine GL.block ?_
   refine GL.seq ?_
   refine GL.region ?_
   refine RL.mv rfl rfl rfl ?_
   refine RL.mv rfl rfl rfl ?_
   obtain ⟨y88, e89, h75⟩ := bind_some h75
   refine RL.idxS (sz := 1) 1 Try.underlying24 Try_ln3 rfl rfl rfl rfl rfl SlOf.imm (idx_some e89).1 (idx_some e89).2.1 ?_
   refine RL.ldSx (i := (x12).toNat) (e' := y88) 1 Ex.ik Try_ln3 rfl rfl rfl rfl SlOf.imm (idx_some e89).2.2 Part.self ?_
   refine RL.asg rfl rfl rfl ?_
   refine RL.finG ?_
   refine GL.seq ?_
   refine GL.seq ?_
   obtain ⟨y99, K100, h101, h102, h103, h104, h105⟩ := bindF_K h75
   refine GL.join (ι := Bool) (fun (p : Bool) => [(1, v1), (2, v2), (10, .int .i64 x12), (11, v14), (12, .int .i64 y88), (46, .bool p)]) (fun (p : Bool) => [imm (TR.sl (TR.pair TR.int (TR.pair (TR.sl TR.int) (TR.sl TR.int)))) v1 x1, imm (TR.sl TR.int) v2 x2, own 3 TR.int v14 l13]) (fun (p : Bool) => K100 (.nx p)) ?_ ?_
   ·skip
    refine GL.region ?_
    refine RL.mv rfl rfl rfl ?_
    refine RL.binI (v := .bool (decide (y88 < (0 : Int)))) rfl rfl rfl rfl rfl ?_
    refine RL.mv rfl rfl rfl ?_
    refine RL.split (t := 37) rfl (fun b106 => ?_) (fun b106 => ?_)
    ·replace h101 := ite_t b106 h101
     refine RL.skip rfl rfl ?_
     refine RL.skip rfl rfl ?_
     refine RL.skip rfl rfl ?_
     refine RL.skip rfl rfl ?_
     refine RL.skip rfl rfl ?_
     refine RL.skip rfl rfl ?_
     refine RL.skip rfl rfl ?_
     refine RL.skip rfl rfl ?_
     refine RL.pickT rfl rfl rfl rfl ?_
     refine RL.fin ?_
     cases h101
     exact fun a w st => mid_intro true h102 (St.cut [0, 1, 2] ⟨rfl, rfl, rfl, rfl, rfl, rfl, trivial⟩ (by decide) rfl st)
    replace h101 := ite_f b106 h101
    refine RL.mv rfl rfl rfl ?_
    refine RL.mv rfl rfl rfl ?_
    refine RL.mv rfl rfl rfl ?_
    obtain ⟨y107, e108, h101⟩ := bind_some h101
    refine RL.idxS (sz := 3) 0 Try.underlying33 Try_ln36 rfl rfl rfl rfl rfl SlOf.imm (idx_some e108).1 (idx_some e108).2.1 ?_
    refine RL.fadrS (off := ((x12).toNat * 3)) (fo := 1) 0 Try_fld36_1 rfl rfl rfl SlOf.imm (by have := (List.getElem?_eq_some_iff.1 (idx_some e108).2.2).1; (try dsimp only at this ⊢); omega) rfl ?_
    refine RL.ldS (i := (x12).toNat) (r := (TR.sl TR.int)) (e' := y107.2.1) 0 Try_ln24 rfl rfl rfl rfl SlOf.imm (idx_some e108).2.2 (Part.snd (Part.fst Part.self)) ?_
    intro v109
    refine RL.lenS 3 Try.underlying24 rfl rfl rfl rfl SlOf.imm ?_
    refine RL.binI (v := .bool (decide (y88 ≥ ((y107.2.1).length : Int)))) rfl rfl rfl rfl rfl ?_
    refine RL.pickF rfl rfl rfl rfl ?_
    refine RL.fin ?_
    cases h101
    exact fun a w st => mid_intro (decide (y88 ≥ ((y107.2.1).length : Int))) h102 (St.cut [0, 1, 2] ⟨rfl, rfl, rfl, rfl, rfl, rfl, trivial⟩ (by decide) rfl st)
   rintro x98 h110
   have h111 := h103 _ h110
   try dsimp only at h111
   refine GL.weak (env' := [(1, v1), (2, v2), (10, .int .i64 x12), (11, v14), (12, .int .i64 y88), (46, .bool x98)]) (L' := [imm (TR.sl (TR.pair TR.int (TR.pair (TR.sl TR.int) (TR.sl TR.int)))) v1 x1, imm (TR.sl TR.int) v2 x2, own 3 TR.int v14 l13]) (fun _ _ st => st) ?_
   refine GL.cond rfl (fun b112 => ?_) (fun b112 => ?_)
   ·replace h111 := ite_t b112 h111
    refine GL.seq ?_
    refine GL.region ?_
    refine RL.asg rfl rfl rfl ?_
    refine RL.asg rfl rfl rfl ?_
    refine RL.asg rfl rfl rfl ?_
    refine RL.finG ?_
    refine GL.weak (fun a w st => st.nilOwn 3 TR.int) ?_
    refine GL.weak (fun a w st => st.nilOwn 3 TR.int) ?_
    cases h111
    replace h76 : some (Fl.rt _) = some y65 := h76
    cases h76
    have hh := h70 _ h68
    subst hh
    exact GL.ret (Gx.ret (v := .tuple #[Value.slice none 0 0, Value.slice none 0 0, .int .i64 (1 : Int)]) (res3 rfl rfl rfl rfl) (fun a w st => (st.pick [3, 4] (by decide) rfl).toPost (Value.slice none 0 0, Value.slice none 0 0)))
   replace h111 := ite_f b112 h111
   refine GL.skip ?_
   refine GL.seq ?_
   refine GL.region ?_
   refine RL.mv rfl rfl rfl ?_
   refine RL.mv rfl rfl rfl ?_
   obtain ⟨y118, e119, h111⟩ := bind_some h111
   refine RL.idxS (sz := 3) 0 Try.underlying33 Try_ln36 rfl rfl rfl rfl rfl SlOf.imm (idx_some e119).1 (idx_some e119).2.1 ?_
   refine RL.fadrS (off := ((x12).toNat * 3)) (fo := 1) 0 Try_fld36_1 rfl rfl rfl SlOf.imm (by have := (List.getElem?_eq_some_iff.1 (idx_some e119).2.2).1; (try dsimp only at this ⊢); omega) rfl ?_
   refine RL.ldS (i := (x12).toNat) (r := (TR.sl TR.int)) (e' := y118.2.1) 0 Try_ln24 rfl rfl rfl rfl SlOf.imm (idx_some e119).2.2 (Part.snd (Part.fst Part.self)) ?_
   intro v120
   refine RL.mv rfl rfl rfl ?_
   obtain ⟨y121, e122, h111⟩ := bind_some h111
   refine RL.idxS (sz := 1) 3 Try.underlying24 Try_ln3 rfl rfl rfl rfl rfl SlOf.imm (idx_some e122).1 (idx_some e122).2.1 ?_
   refine RL.ldSx (i := (y88).toNat) (e' := y121) 3 Ex.ik Try_ln3 rfl rfl rfl rfl SlOf.imm (idx_some e122).2.2 Part.self ?_
   refine RL.asg rfl rfl rfl ?_
   refine RL.finG ?_
   refine GL.region ?_
   refine RL.mv rfl rfl rfl ?_
   refine RL.mv rfl rfl rfl ?_
   refine RL.bS (t := TR.int) (vs := [.int .i64 y121]) ([y121] : (List Int)) Try.underlying24 Try_lo3 rfl rfl rfl rfl ⟨VR.int, trivial⟩ rfl (by decide) ?_
   intro v127
   refine RL.reL (L' := [imm (TR.sl (TR.pair TR.int (TR.pair (TR.sl TR.int) (TR.sl TR.int)))) v1 x1, imm (TR.sl TR.int) v2 x2, own 3 TR.int v14 l13, imm (TR.sl TR.int) v120 y118.2.1, own 3 TR.int v127 ([y121] : (List Int))]) rfl ?_
   obtain ⟨y128, e129, h111⟩ := bind_some h111
   replace e129 := chk_some e129
   refine RL.app 2 4 Try.underlying24 Try_lo3 rfl rfl rfl rfl rfl rfl rfl SlOf.own e129 ?_
   intro v130
   refine RL.asg rfl rfl rfl ?_
   refine RL.finG ?_
   refine GL.nilB ?_
   cases h111
   exact fun a w st => lop_intro (r80, y121, (l13 ++ ([y121] : (List Int))), v130) (by exact h76) (by simp) (St.cut [0, 1, 2] ⟨rfl, rfl, rfl, rfl, trivial⟩ (by decide) rfl st)
  replace h75 := ite_f b85 h75
  cases h75
  replace h76 : some (Fl.nx _) = some y65 := h76
  cases h76
  exact GL.exit (fun a w st => mid_intro (x12, l13, v14) h68 (St.cut [0, 2] ⟨rfl, rfl, rfl, trivial⟩ (by decide) rfl st))
 rintro ⟨x12, l13, v14⟩ h131
 have h132 := h69 _ h131
 try dsimp only at h132
 refine GL.weak (env' := [(1, v1), (10, .int .i64 x12), (11, v14)]) (L' := [imm (TR.sl (TR.pair TR.int (TR.pair (TR.sl TR.int) (TR.sl TR.int)))) v1 x1, own 3 TR.int v14 l13]) (fun _ _ st => st) ?_
 refine GL.seq ?_
 refine GL.region ?_
 refine RL.mv rfl rfl rfl ?_
 refine RL.bS (t := TR.int) (vs := []) ([] : (List Int)) Try.underlying24 Try_lo3 rfl rfl rfl rfl trivial rfl (by decide) ?_
 intro v140
 refine RL.mv rfl rfl rfl ?_
 refine RL.mv rfl rfl rfl ?_
 obtain ⟨y141, e142, h132⟩ := bind_some h132
 refine RL.idxS (sz := 3) 0 Try.underlying33 Try_ln36 rfl rfl rfl rfl rfl SlOf.imm (idx_some e142).1 (idx_some e142).2.1 ?_
 refine RL.fadrS (off := ((x12).toNat * 3)) (fo := 2) 0 Try_fld36_2 rfl rfl rfl SlOf.imm (by have := (List.getElem?_eq_some_iff.1 (idx_some e142).2.2).1; (try dsimp only at this ⊢); omega) rfl ?_
 refine RL.ldS (i := (x12).toNat) (r := (TR.sl TR.int)) (e' := y141.2.2) 0 Try_ln24 rfl rfl rfl rfl SlOf.imm (idx_some e142).2.2 (Part.snd (Part.snd Part.self)) ?_
 intro v143
 refine RL.reL (L' := [imm (TR.sl (TR.pair TR.int (TR.pair (TR.sl TR.int) (TR.sl TR.int)))) v1 x1, own 3 TR.int v14 l13, own 3 TR.int v140 ([] : (List Int)), imm (TR.sl TR.int) v143 y141.2.2]) rfl ?_
 obtain ⟨y144, e145, h132⟩ := bind_some h132
 replace e145 := chk_some e145
 refine RL.app 2 3 Try.underlying24 Try_lo3 rfl rfl rfl rfl rfl rfl rfl SlOf.imm e145 ?_
 intro v146
 refine RL.asg rfl rfl rfl ?_
 refine RL.asg rfl rfl rfl ?_
 refine RL.asg rfl rfl rfl ?_
 refine RL.finG ?_
 have h132 := Option.some.inj h132
 subst h132
 exact GL.ret (Gx.ret (v := .tuple #[v14, v146, .int .i64 (0 : Int)]) (res3 rfl rfl rfl rfl) (fun a w st => (st.pick [1, 2] (by decide) rfl).toPost (v14, v146)))

set_option maxHeartbeats 4000000 in
theorem pk_spoil_int_c (B : World) (S X : Hp) (f : Nat → Hp) (w : World) (v0 : Value) (x0 : List Int) (hO : HeapOk B.heap.size S f [own 3 TR.int v0 x0, keep X].length w) (hB : Below B.heap.size B w) (hI : Its [own 3 TR.int v0 x0, keep X] S f) (x1 : Int) (res : List Int) (hm : pk_spoil_int_m x0 x1 = some res) : Calls Try.prog 21 #[v0, .int .i64 x1] w (PostM B S (fun (_ : Unit) => .tuple #[]) (fun (_ : Unit) => [own 3 TR.int v0 res, keep X])) := by
  unfold pk_spoil_int_m at hm
  have hm := Option.some.inj hm
  subst hm
  refine calls_enterM 19 Try.func21 Try.ntmps21 rfl B S f [(0, v0), (1, .int .i64 x1)] [own 3 TR.int v0 x0, keep X] [] rfl ⟨rfl, rfl, trivial⟩ hB hO hI trivial ?_
  refine GL.capO 0 rfl (fun hcap hmax hrl hcr => ?_)
  replace hmax : capv v0 ≤ 9223372036854775807 := hmax
  refine GL.weak (fun a w st => st.relenO 0 rfl) ?_
  refine GL.seq ?_
  refine GL.region ?_
  refine RL.mv rfl rfl rfl ?_
  refine RL.mv rfl rfl rfl ?_
  refine RL.capS 0 Try.underlying24 rfl rfl rfl rfl ?_
  refine RL.cutAll 0 Try.underlying24 Try_ln3 rfl rfl rfl rfl rfl ?_
  refine RL.asg rfl rfl rfl ?_
  refine RL.finG ?_
  refine GL.seq ?_
  refine GL.region ?_
  refine RL.mv rfl rfl rfl ?_
  refine RL.lenNx (m := capv v0) 0 Try.underlying24 rfl rfl rfl rfl ?_
  refine RL.mv rfl rfl rfl ?_
  refine RL.finG ?_
  refine GL.join (ι := Unit) (fun _ => []) (fun _ => [own 3 TR.int (relen v0 (capv v0)) (List.replicate (capv v0) x1), keep X]) (fun _ => True) ?_ ?_
  · refine GL.block ?_
    refine GL.loop (ι := Nat) (fun i => [(0, relen v0 (capv v0)), (1, .int .i64 x1), (10, .int .i64 ((capv v0 : Nat) : Int)), (11, .int .i64 ((i : Nat) : Int))]) (fun i => [own 3 TR.int (relen v0 i) (List.replicate i x1), keep X]) (fun i => i ≤ capv v0) (fun i => capv v0 - i) 0 (Nat.zero_le _) (fun a w st => St.cut [0, 1] ⟨rfl, rfl, rfl, rfl, trivial⟩ (by decide) rfl st) ?_
    intro i hG
    refine GL.seq ?_
    refine GL.region ?_
    refine RL.binI (v := .bool (decide ((i : Int) < ((capv v0 : Nat) : Int)))) rfl rfl rfl rfl rfl ?_
    refine RL.finG ?_
    refine GL.seq ?_
    refine GL.cond rfl (fun hb => ?_) (fun hb => ?_)
    · have hi : i < capv v0 := by have := of_decide_eq_true hb; omega
      refine GL.skip ?_
      refine GL.seq ?_
      refine GL.block ?_
      refine GL.seq ?_
      refine GL.region ?_
      refine RL.mv rfl rfl rfl ?_
      refine RL.asg rfl rfl rfl ?_
      refine RL.finG ?_
      refine GL.region ?_
      refine RL.mv rfl rfl rfl ?_
      refine RL.mv rfl rfl rfl ?_
      refine RL.mv rfl rfl rfl ?_
      refine RL.idxNx (sz := 1) 0 Try.underlying24 Try_ln3 rfl rfl rfl rfl rfl hi ?_
      refine RL.stNx (t := TR.int) (e' := x1) 0 Try_ln3 rfl rfl rfl rfl VR.int rfl (by simp) hi ?_
      rw [replicate_snoc]
      refine RL.finG ?_
      refine GL.nilB ?_
      refine GL.region ?_
      refine RL.binI (v := .int .i64 ((i + 1 : Nat) : Int)) rfl rfl rfl rfl (binI_succ i (by omega)) ?_
      refine RL.mv rfl rfl rfl ?_
      refine RL.fin ?_
      exact fun a w st => lop_intro (i + 1) (by show i + 1 ≤ capv v0; omega) (by show capv v0 - (i + 1) < capv v0 - i; omega) (St.cut [0, 1] ⟨rfl, rfl, rfl, rfl, trivial⟩ (by decide) rfl st)
    · have hi : ¬ i < capv v0 := by have := of_decide_eq_false hb; omega
      obtain rfl : i = capv v0 := by omega
      exact GL.exit (fun a w st => mid_intro () trivial (St.cut [0, 1] trivial (by decide) rfl st))
  · intro _ _
    refine GL.weak (fun a w st => st.spoiled (m := x0.length) 0 rfl hcap hrl) ?_
    exact GL.nil (Gx.retN (v := .tuple #[]) (res0 rfl) (fun a w st => (st.pick [0, 1] (by decide) rfl).toPostM (V := fun (_ : Unit) => .tuple #[]) (LR := fun (_ : Unit) => [own 3 TR.int v0 (List.replicate x0.length x1), keep X]) ()))

set_option maxHeartbeats 4000000 in
theorem slices_IndexFunc_int_int_c (S : Hp) (w : World) (hS : S.sub w) (v0 : Value) (x0 : (List Int)) (k0 : ((TR.sl TR.int)).vrep S v0 x0) (f1 : FuncId) (c1 : Array Value) (t1 : Fit Try.prog f1) (g1 : Int → Option Bool) (k1 : ∀ (U : Hp) (w' : World), Hp.le S U → U.sub w' → ∀ (a0 : Int) (rr : Bool), g1 a0 = some rr → Calls Try.prog f1 (#[.int .i64 a0] ++ c1) w' (PostV w' (.bool rr))) (res : Int) (hm : slices_IndexFunc_int_int_m x0 g1 = some res) : Calls Try.prog 84 #[v0, .func (.func f1) #[] c1] w (PostV w (.int .i64 res)) := by
 refine calls_enter 19 Try.func84 Try.ntmps84 rfl S false [(0, v0), (1, .func (.func f1) #[] c1)] [imm (TR.sl TR.int) v0 x0] rfl ⟨rfl, ⟨rfl, trivial⟩⟩ hS ⟨k0, trivial⟩ ?_
 unfold slices_IndexFunc_int_int_m at hm
 refine GL.seq ?_
 refine GL.region ?_
 refine RL.asg rfl rfl rfl ?_
 refine RL.finG ?_
 refine GL.seq ?_
 refine GL.seq ?_
 refine GL.region ?_
 refine RL.mv rfl rfl rfl ?_
 refine RL.lenS 0 Try.underlying24 rfl rfl rfl rfl SlOf.imm ?_
 refine RL.mv rfl rfl rfl ?_
 refine RL.finG ?_
 refine GL.open_ 0 rfl (fun S h => len_imm S h) (fun n12 => ?_)
 obtain ⟨y13, K14, h15, h16, h17, h18, h19⟩ := bindR_K hm
 refine GL.join (ι := Unit) (fun (p : Unit) => []) (fun (p : Unit) => []) (fun (p : Unit) => K14 (.nx ())) ?_ ?_
 ·refine GL.block ?_
  refine GL.loop (ι := Nat × (List Int)) (fun (p : Nat × (List Int)) => [(0, v0), (1, .func (.func f1) #[] c1), (7, .int .i64 ((x0).length : Int)), (8, .int .i64 (p.1 : Int))]) (fun (p : Nat × (List Int)) => [imm (TR.sl TR.int) v0 x0]) (fun (p : Nat × (List Int)) => p.1 + p.2.length = (x0).length ∧ List.drop p.1 x0 = p.2 ∧ rangeL (slices_IndexFunc_int_int_b1 g1) p.2 p.1 () = some y13) (fun (p : Nat × (List Int)) => p.2.length) (0, x0) ⟨by simp, by simp, h15⟩ (fun a w st => St.cut [0] ⟨rfl, rfl, rfl, rfl, trivial⟩ (by decide) rfl st) ?_
  rintro ⟨i20, r21⟩ ⟨h26, h27, h25⟩
  try dsimp only at h26 h27 h25
  refine GL.weak (env' := [(0, v0), (1, .func (.func f1) #[] c1), (7, .int .i64 ((x0).length : Int)), (8, .int .i64 (i20 : Int))]) (L' := [imm (TR.sl TR.int) v0 x0]) (fun _ _ st => st) ?_
  refine GL.seq ?_
  refine GL.region ?_
  refine RL.binI (v := .bool (decide ((i20 : Int) < ((x0).length : Int)))) rfl rfl rfl rfl rfl ?_
  refine RL.finG ?_
  refine GL.seq ?_
  refine GL.cond rfl (fun b28 => ?_) (fun b28 => ?_)
  ·have h29 : i20 < (x0).length := by have := of_decide_eq_true b28; omega
   obtain ⟨y30, r32, hr, e31, h33⟩ := drop_cons h27 rfl h29
   subst hr
   obtain ⟨z22, h23, h24⟩ := rangeL_some h25
   unfold slices_IndexFunc_int_int_b1 at h23
   try dsimp only at h23
   refine GL.skip ?_
   refine GL.seq ?_
   refine GL.block ?_
   refine GL.seq ?_
   refine GL.region ?_
   refine RL.mv rfl rfl rfl ?_
   refine RL.asg rfl rfl rfl ?_
   refine RL.finG ?_
   refine GL.seq ?_
   refine GL.region ?_
   refine RL.mv rfl rfl rfl ?_
   refine RL.mv rfl rfl rfl ?_
   refine RL.mv rfl rfl rfl ?_
   refine RL.idxS (sz := 1) 0 Try.underlying24 Try_ln3 rfl rfl rfl rfl rfl SlOf.imm (by omega) (by omega) ?_
   refine RL.ldSx (i := i20) (e' := y30) 0 Ex.ik Try_ln3 rfl rfl rfl rfl SlOf.imm e31 Part.self ?_
   obtain ⟨y36, e37, h23⟩ := bind_some h23
   refine RL.callV (v := .bool y36) (vs := [.int .i64 y30]) t1 rfl (Or.inl rfl) rfl rfl rfl rfl (fun U w hU hW hL => k1 U w hW hU y30 _ e37) ?_
   refine RL.finG ?_
   refine GL.cond rfl (fun b38 => ?_) (fun b38 => ?_)
   ·replace h23 := ite_t b38 h23
    refine GL.seq ?_
    refine GL.region ?_
    refine RL.mv rfl rfl rfl ?_
    refine RL.asg rfl rfl rfl ?_
    refine RL.finG ?_
    cases h23
    replace h24 : some (Fl.rt _) = some y13 := h24
    cases h24
    have hh := h18 _ h16
    subst hh
    exact GL.ret (Gx.ret (v := .int .i64 (i20 : Int)) (res1 rfl rfl) (fun a w st => st.toPostV))
   replace h23 := ite_f b38 h23
   refine GL.skip ?_
   refine GL.nilB ?_
   refine GL.region ?_
   refine RL.binI (v := .int .i64 ((i20 + 1 : Nat) : Int)) rfl rfl rfl rfl (binI_succ i20 (by omega)) ?_
   refine RL.mv rfl rfl rfl ?_
   refine RL.fin ?_
   cases h23
   exact fun a w st => lop_intro (i20 + 1, r32) ⟨by show i20 + 1 + r32.length = (x0).length; simp only [List.length_cons] at h26; omega, h33, h24⟩ (by simp) (St.cut [0] ⟨rfl, rfl, rfl, rfl, trivial⟩ (by decide) rfl st)
  have h29 : ¬ i20 < (x0).length := by have := of_decide_eq_false b28; omega
  obtain rfl : r21 = [] := by rw [← h27]; exact List.drop_of_length_le (by omega)
  replace h25 : some (Fl.nx _) = some y13 := h25
  cases h25
  exact GL.exit (fun a w st => mid_intro () h16 (St.cut [] trivial (by decide) rfl st))
 rintro ⟨⟩ h39
 have h40 := h17 _ h39
 try dsimp only at h40
 refine GL.weak (env' := []) (L' := []) (fun _ _ st => st) ?_
 refine GL.seq ?_
 refine GL.region ?_
 refine RL.asg rfl rfl rfl ?_
 refine RL.finG ?_
 have h40 := Option.some.inj h40
 subst h40
 exact GL.ret (Gx.ret (v := .int .i64 (-1 : Int)) (res1 rfl rfl) (fun a w st => st.toPostV))

set_option maxHeartbeats 4000000 in
theorem slices_ContainsFunc_int_int_c (S : Hp) (w : World) (hS : S.sub w) (v0 : Value) (x0 : (List Int)) (k0 : ((TR.sl TR.int)).vrep S v0 x0) (f1 : FuncId) (c1 : Array Value) (t1 : Fit Try.prog f1) (g1 : Int → Option Bool) (k1 : ∀ (U : Hp) (w' : World), Hp.le S U → U.sub w' → ∀ (a0 : Int) (rr : Bool), g1 a0 = some rr → Calls Try.prog f1 (#[.int .i64 a0] ++ c1) w' (PostV w' (.bool rr))) (res : Bool) (hm : slices_ContainsFunc_int_int_m x0 g1 = some res) : Calls Try.prog 23 #[v0, .func (.func f1) #[] c1] w (PostV w (.bool res)) := by
 refine calls_enter 9 Try.func23 Try.ntmps23 rfl S false [(0, v0), (1, .func (.func f1) #[] c1)] [imm (TR.sl TR.int) v0 x0] rfl ⟨rfl, ⟨rfl, trivial⟩⟩ hS ⟨k0, trivial⟩ ?_
 unfold slices_ContainsFunc_int_int_m at hm
 refine GL.seq ?_
 refine GL.region ?_
 refine RL.asg rfl rfl rfl ?_
 refine RL.finG ?_
 refine GL.seq ?_
 refine GL.region ?_
 refine RL.mv rfl rfl rfl ?_
 refine RL.mv rfl rfl rfl ?_
 obtain ⟨y5, e6, hm⟩ := bind_some hm
 refine RL.callV (v := .int .i64 y5) (vs := [v0, .func (.func f1) #[] c1]) Try_fit84 rfl (Or.inl rfl) rfl rfl rfl rfl (fun U w hU hW hL => slices_IndexFunc_int_int_c U w hU _ _ (hL 0 _ _ rfl Seen.imm) f1 c1 t1 g1 (fun U' w' hle => k1 U' w' (Hp.le_trans hW hle)) _ e6) ?_
 refine RL.binI (v := .bool (decide (y5 ≥ (0 : Int)))) rfl rfl rfl rfl rfl ?_
 refine RL.asg rfl rfl rfl ?_
 refine RL.finG ?_
 have hm := Option.some.inj hm
 subst hm
 exact GL.ret (Gx.ret (v := .bool (decide (y5 ≥ (0 : Int)))) (res1 rfl rfl) (fun a w st => st.toPostV))

set_option maxHeartbeats 4000000 in
theorem pk_TreesOwn_1_c (S : Hp) (w : World) (hS : S.sub w) (x0 : Int) (v1 : Value) (x1 : Int) (k1 : ((TR.ptr TR.int)).vrep S v1 x1) (res : Bool) (hm : pk_TreesOwn_1_m x0 x1 = some res) : Calls Try.prog 24 #[.int .i64 x0, v1] w (PostC w (.bool res)) := by
 refine calls_enter 8 Try.func24 Try.ntmps24 rfl S true [(0, .int .i64 x0), (1, v1)] [imm (TR.ptr TR.int) v1 x1] rfl ⟨rfl, ⟨rfl, trivial⟩⟩ hS ⟨k1, trivial⟩ ?_
 unfold pk_TreesOwn_1_m at hm
 refine GL.seq ?_
 refine GL.region ?_
 refine RL.asg rfl rfl rfl ?_
 refine RL.finG ?_
 refine GL.seq ?_
 refine GL.region ?_
 refine RL.mv rfl rfl rfl ?_
 refine RL.ldPx (off := 0) (e' := x1) 0 Ex.ik Try_ln3 rfl rfl (Or.inr ⟨rfl, rfl⟩) rfl PtOf.imm Part.self ?_
 refine RL.binI (v := .int .i64 (wsub (-7 : Int) x1)) rfl rfl rfl rfl rfl ?_
 refine RL.binI (v := .bool (x0 != (wsub (-7 : Int) x1))) rfl rfl rfl rfl rfl ?_
 refine RL.asg rfl rfl rfl ?_
 refine RL.finG ?_
 have hm := Option.some.inj hm
 subst hm
 exact GL.ret (Gx.ret (v := .bool (x0 != (wsub (-7 : Int) x1))) (res1 rfl rfl) (fun a w st => st.toPostC rfl))

set_option maxHeartbeats 4000000 in
theorem slices_Index_int_int_c (S : Hp) (w : World) (hS : S.sub w) (v0 : Value) (x0 : (List Int)) (k0 : ((TR.sl TR.int)).vrep S v0 x0) (x1 : Int) (res : Int) (hm : slices_Index_int_int_m x0 x1 = some res) : Calls Try.prog 85 #[v0, .int .i64 x1] w (PostC w (.int .i64 res)) := by
 refine calls_enter 19 Try.func85 Try.ntmps85 rfl S true [(0, v0), (1, .int .i64 x1)] [imm (TR.sl TR.int) v0 x0] rfl ⟨rfl, ⟨rfl, trivial⟩⟩ hS ⟨k0, trivial⟩ ?_
 unfold slices_Index_int_int_m at hm
 refine GL.seq ?_
 refine GL.region ?_
 refine RL.asg rfl rfl rfl ?_
 refine RL.finG ?_
 refine GL.seq ?_
 refine GL.seq ?_
 refine GL.region ?_
 refine RL.mv rfl rfl rfl ?_
 refine RL.lenS 0 Try.underlying24 rfl rfl rfl rfl SlOf.imm ?_
 refine RL.mv rfl rfl rfl ?_
 refine RL.finG ?_
 refine GL.open_ 0 rfl (fun S h => len_imm S h) (fun n8 => ?_)
 obtain ⟨y9, K10, h11, h12, h13, h14, h15⟩ := bindR_K hm
 refine GL.join (ι := Unit) (fun (p : Unit) => []) (fun (p : Unit) => []) (fun (p : Unit) => K10 (.nx ())) ?_ ?_
 ·refine GL.block ?_
  refine GL.loop (ι := Nat × (List Int)) (fun (p : Nat × (List Int)) => [(0, v0), (1, .int .i64 x1), (7, .int .i64 ((x0).length : Int)), (8, .int .i64 (p.1 : Int))]) (fun (p : Nat × (List Int)) => [imm (TR.sl TR.int) v0 x0]) (fun (p : Nat × (List Int)) => p.1 + p.2.length = (x0).length ∧ List.drop p.1 x0 = p.2 ∧ rangeL (slices_Index_int_int_b1 x1) p.2 p.1 () = some y9) (fun (p : Nat × (List Int)) => p.2.length) (0, x0) ⟨by simp, by simp, h11⟩ (fun a w st => St.cut [0] ⟨rfl, rfl, rfl, rfl, trivial⟩ (by decide) rfl st) ?_
  rintro ⟨i17, r18⟩ ⟨h23, h24, h22⟩
  try dsimp only at h23 h24 h22
  refine GL.weak (env' := [(0, v0), (1, .int .i64 x1), (7, .int .i64 ((x0).length : Int)), (8, .int .i64 (i17 : Int))]) (L' := [imm (TR.sl TR.int) v0 x0]) (fun _ _ st => st) ?_
  refine GL.seq ?_
  refine GL.region ?_
  refine RL.binI (v := .bool (decide ((i17 : Int) < ((x0).length : Int)))) rfl rfl rfl rfl rfl ?_
  refine RL.finG ?_
  refine GL.seq ?_
  refine GL.cond rfl (fun b25 => ?_) (fun b25 => ?_)
  ·have h26 : i17 < (x0).length := by have := of_decide_eq_true b25; omega
   obtain ⟨y27, r29, hr, e28, h30⟩ := drop_cons h24 rfl h26
   subst hr
   obtain ⟨z19, h20, h21⟩ := rangeL_some h22
   unfold slices_Index_int_int_b1 at h20
   try dsimp only at h20
   refine GL.skip ?_
   refine GL.seq ?_
   refine GL.block ?_
   refine GL.seq ?_
   refine GL.region ?_
   refine RL.mv rfl rfl rfl ?_
   refine RL.asg rfl rfl rfl ?_
   refine RL.finG ?_
   refine GL.seq ?_
   refine GL.region ?_
   refine RL.mv rfl rfl rfl ?_
   refine RL.mv rfl rfl rfl ?_
   refine RL.mv rfl rfl rfl ?_
   refine RL.idxS (sz := 1) 0 Try.underlying24 Try_ln3 rfl rfl rfl rfl rfl SlOf.imm (by omega) (by omega) ?_
   refine RL.ldSx (i := i17) (e' := y27) 0 Ex.ik Try_ln3 rfl rfl rfl rfl SlOf.imm e28 Part.self ?_
   refine RL.binI (v := .bool (x1 == y27)) rfl rfl rfl rfl rfl ?_
   refine RL.finG ?_
   refine GL.cond rfl (fun b31 => ?_) (fun b31 => ?_)
   ·replace h20 := ite_t b31 h20
    refine GL.seq ?_
    refine GL.region ?_
    refine RL.mv rfl rfl rfl ?_
    refine RL.asg rfl rfl rfl ?_
    refine RL.finG ?_
    cases h20
    replace h21 : some (Fl.rt _) = some y9 := h21
    cases h21
    have hh := h14 _ h12
    subst hh
    exact GL.ret (Gx.ret (v := .int .i64 (i17 : Int)) (res1 rfl rfl) (fun a w st => st.toPostC rfl))
   replace h20 := ite_f b31 h20
   refine GL.skip ?_
   refine GL.nilB ?_
   refine GL.region ?_
   refine RL.binI (v := .int .i64 ((i17 + 1 : Nat) : Int)) rfl rfl rfl rfl (binI_succ i17 (by omega)) ?_
   refine RL.mv rfl rfl rfl ?_
   refine RL.fin ?_
   cases h20
   exact fun a w st => lop_intro (i17 + 1, r29) ⟨by show i17 + 1 + r29.length = (x0).length; simp only [List.length_cons] at h23; omega, h30, h21⟩ (by simp) (St.cut [0] ⟨rfl, rfl, rfl, rfl, trivial⟩ (by decide) rfl st)
  have h26 : ¬ i17 < (x0).length := by have := of_decide_eq_false b25; omega
  obtain rfl : r18 = [] := by rw [← h24]; exact List.drop_of_length_le (by omega)
  replace h22 : some (Fl.nx _) = some y9 := h22
  cases h22
  exact GL.exit (fun a w st => mid_intro () h12 (St.cut [] trivial (by decide) rfl st))
 rintro ⟨⟩ h32
 have h33 := h13 _ h32
 try dsimp only at h33
 refine GL.weak (env' := []) (L' := []) (fun _ _ st => st) ?_
 refine GL.seq ?_
 refine GL.region ?_
 refine RL.asg rfl rfl rfl ?_
 refine RL.finG ?_
 have h33 := Option.some.inj h33
 subst h33
 exact GL.ret (Gx.ret (v := .int .i64 (-1 : Int)) (res1 rfl rfl) (fun a w st => st.toPostC rfl))

set_option maxHeartbeats 4000000 in
theorem slices_Contains_int_int_c (S : Hp) (w : World) (hS : S.sub w) (v0 : Value) (x0 : (List Int)) (k0 : ((TR.sl TR.int)).vrep S v0 x0) (x1 : Int) (res : Bool) (hm : slices_Contains_int_int_m x0 x1 = some res) : Calls Try.prog 25 #[v0, .int .i64 x1] w (PostC w (.bool res)) := by
 refine calls_enter 9 Try.func25 Try.ntmps25 rfl S true [(0, v0), (1, .int .i64 x1)] [imm (TR.sl TR.int) v0 x0] rfl ⟨rfl, ⟨rfl, trivial⟩⟩ hS ⟨k0, trivial⟩ ?_
 unfold slices_Contains_int_int_m at hm
 refine GL.seq ?_
 refine GL.region ?_
 refine RL.asg rfl rfl rfl ?_
 refine RL.finG ?_
 refine GL.seq ?_
 refine GL.region ?_
 refine RL.mv rfl rfl rfl ?_
 refine RL.mv rfl rfl rfl ?_
 obtain ⟨y5, e6, hm⟩ := bind_some hm
 refine RL.callC (v := .int .i64 y5) (vs := [v0, .int .i64 x1]) Try_fit85 rfl rfl rfl rfl (fun U w hU hW hL => slices_Index_int_int_c U w hU _ _ (hL 0 _ _ rfl Seen.imm) x1 _ e6) ?_
 refine RL.binI (v := .bool (decide (y5 ≥ (0 : Int)))) rfl rfl rfl rfl rfl ?_
 refine RL.asg rfl rfl rfl ?_
 refine RL.finG ?_
 have hm := Option.some.inj hm
 subst hm
 exact GL.ret (Gx.ret (v := .bool (decide (y5 ≥ (0 : Int)))) (res1 rfl rfl) (fun a w st => st.toPostC rfl))

set_option maxHeartbeats 4000000 in
theorem pk_TreesOwn_c (S : Hp) (w : World) (hS : S.sub w) (x0 : Int) (v1 : Value) (x1 : (List (Int × ((List Int) × (List Int))))) (k1 : ((TR.sl (TR.pair TR.int (TR.pair (TR.sl TR.int) (TR.sl TR.int))))).vrep S v1 x1) (res : Bool) (hm : pk_TreesOwn_m x0 x1 = some res) : Calls Try.prog 5 #[.int .i64 x0, v1] w (PostV w (.bool res)) := by
 refine calls_enter 128 Try.func5 Try.ntmps5 rfl S false [(0, .int .i64 x0), (1, v1)] [imm (TR.sl (TR.pair TR.int (TR.pair (TR.sl TR.int) (TR.sl TR.int)))) v1 x1] rfl ⟨rfl, ⟨rfl, trivial⟩⟩ hS ⟨k1, trivial⟩ ?_
 unfold pk_TreesOwn_m at hm
 refine GL.seq ?_
 refine GL.region ?_
 refine RL.asg rfl rfl rfl ?_
 refine RL.finG ?_
 refine GL.seq ?_
 refine GL.seq ?_
 refine GL.region ?_
 obtain ⟨y5, e6, hm⟩ := bind_some hm
 refine RL.callV (v := .bool y5) (vs := []) Try_fit15 rfl (Or.inl rfl) rfl rfl rfl rfl (fun U w hU hW hL => pk_trees_c U w hU  _ e6) ?_
 refine RL.notB rfl rfl rfl ?_
 refine RL.finG ?_
 refine GL.cond rfl (fun b7 => ?_) (fun b7 => ?_)
 ·replace hm := ite_t b7 hm
  refine GL.seq ?_
  refine GL.region ?_
  refine RL.asg rfl rfl rfl ?_
  refine RL.finG ?_
  have hm := Option.some.inj hm
  subst hm
  exact GL.ret (Gx.ret (v := .bool false) (res1 rfl rfl) (fun a w st => st.toPostV))
 replace hm := ite_f b7 hm
 refine GL.skip ?_
 refine GL.seq ?_
 refine GL.region ?_
 refine RL.asg rfl rfl rfl ?_
 refine RL.asg rfl rfl rfl ?_
 refine RL.finG ?_
 refine GL.seq ?_
 refine GL.seq ?_
 refine GL.region ?_
 refine RL.mv rfl rfl rfl ?_
 refine RL.lenS 0 Try.underlying33 rfl rfl rfl rfl SlOf.imm ?_
 refine RL.mv rfl rfl rfl ?_
 refine RL.finG ?_
 refine GL.weak (fun a w st => st.nilOwn 24 (TR.sl TR.int)) ?_
 refine GL.weak (fun a w st => st.nilOwn 24 (TR.sl TR.int)) ?_
 refine GL.open_ 0 rfl (fun S h => len_imm S h) (fun n144 => ?_)
 obtain ⟨y145, K146, h147, h148, h149, h150, h151⟩ := bindR_K hm
 refine GL.join (ι := (List (List Int)) × (List (List Int)) × Value × Value) (fun (p : (List (List Int)) × (List (List Int)) × Value × Value) => [(0, .int .i64 x0), (1, v1), (5, p.2.2.1), (6, p.2.2.2)]) (fun (p : (List (List Int)) × (List (List Int)) × Value × Value) => [imm (TR.sl (TR.pair TR.int (TR.pair (TR.sl TR.int) (TR.sl TR.int)))) v1 x1, own 24 (TR.sl TR.int) p.2.2.1 p.1, own 24 (TR.sl TR.int) p.2.2.2 p.2.1]) (fun (p : (List (List Int)) × (List (List Int)) × Value × Value) => K146 (.nx (p.1, p.2.1))) ?_ ?_
 ·refine GL.block ?_
  refine GL.loop (ι := Nat × (List (Int × ((List Int) × (List Int)))) × (List (List Int)) × (List (List Int)) × Value × Value) (fun (p : Nat × (List (Int × ((List Int) × (List Int)))) × (List (List Int)) × (List (List Int)) × Value × Value) => [(0, .int .i64 x0), (1, v1), (5, p.2.2.2.2.1), (6, p.2.2.2.2.2), (26, v1), (27, .int .i64 ((x1).length : Int)), (28, .int .i64 (p.1 : Int))]) (fun (p : Nat × (List (Int × ((List Int) × (List Int)))) × (List (List Int)) × (List (List Int)) × Value × Value) => [imm (TR.sl (TR.pair TR.int (TR.pair (TR.sl TR.int) (TR.sl TR.int)))) v1 x1, own 24 (TR.sl TR.int) p.2.2.2.2.1 p.2.2.1, own 24 (TR.sl TR.int) p.2.2.2.2.2 p.2.2.2.1]) (fun (p : Nat × (List (Int × ((List Int) × (List Int)))) × (List (List Int)) × (List (List Int)) × Value × Value) => p.1 + p.2.1.length = (x1).length ∧ List.drop p.1 x1 = p.2.1 ∧ rangeL pk_TreesOwn_b1 p.2.1 p.1 (p.2.2.1, p.2.2.2.1) = some y145) (fun (p : Nat × (List (Int × ((List Int) × (List Int)))) × (List (List Int)) × (List (List Int)) × Value × Value) => p.2.1.length) (0, x1, [], [], Value.slice none 0 0, Value.slice none 0 0) ⟨by simp, by simp, h147⟩ (fun a w st => St.cut [0, 1, 2] ⟨rfl, rfl, rfl, rfl, rfl, rfl, rfl, trivial⟩ (by decide) rfl st) ?_
  rintro ⟨i152, r153, l8, l10, v9, v11⟩ ⟨h158, h159, h157⟩
  try dsimp only at h158 h159 h157
  refine GL.weak (env' := [(0, .int .i64 x0), (1, v1), (5, v9), (6, v11), (26, v1), (27, .int .i64 ((x1).length : Int)), (28, .int .i64 (i152 : Int))]) (L' := [imm (TR.sl (TR.pair TR.int (TR.pair (TR.sl TR.int) (TR.sl TR.int)))) v1 x1, own 24 (TR.sl TR.int) v9 l8, own 24 (TR.sl TR.int) v11 l10]) (fun _ _ st => st) ?_
  refine GL.seq ?_
  refine GL.region ?_
  refine RL.binI (v := .bool (decide ((i152 : Int) < ((x1).length : Int)))) rfl rfl rfl rfl rfl ?_
  refine RL.finG ?_
  refine GL.seq ?_
  refine GL.cond rfl (fun b160 => ?_) (fun b160 => ?_)
  ·have h161 : i152 < (x1).length := by have := of_decide_eq_true b160; omega
   obtain ⟨y162, r164, hr, e163, h165⟩ := drop_cons h159 rfl h161
   subst hr
   obtain ⟨z154, h155, h156⟩ := rangeL_some h157
   unfold pk_TreesOwn_b1 at h155
   try dsimp only at h155
   refine GL.skip ?_
   refine GL.seq ?_
   refine GL.block ?_
   refine GL.seq ?_
   refine GL.region ?_
   refine RL.idxS (sz := 3) 0 Try.underlying33 Try_ln36 rfl rfl rfl rfl rfl SlOf.imm (by omega) (by omega) ?_
   refine RL.ldS (i := i152) (r := (TR.pair TR.int (TR.pair (TR.sl TR.int) (TR.sl TR.int)))) (e' := y162) 0 Try_ln36 rfl rfl rfl rfl SlOf.imm e163 Part.self ?_
   intro v168
   refine RL.alloc (t := (TR.pair TR.int (TR.pair (TR.sl TR.int) (TR.sl TR.int)))) (z := ((0 : Int), ([] : (List Int)), ([] : (List Int)))) Try_lo36 (fun S => ⟨[.int .i64 0], _, rfl, rfl, ⟨[.slice none 0 0], _, rfl, ⟨_, [], rfl, ⟨none, 0, rfl, Nat.le_refl _, Nat.zero_le _, Or.inl ⟨rfl, rfl⟩⟩, rfl⟩, ⟨_, [], rfl, ⟨none, 0, rfl, Nat.le_refl _, Nat.zero_le _, Or.inl ⟨rfl, rfl⟩⟩, rfl⟩⟩⟩) rfl rfl rfl ?_
   intro v169
   refine RL.reL (L' := [imm (TR.sl (TR.pair TR.int (TR.pair (TR.sl TR.int) (TR.sl TR.int)))) v1 x1, own 24 (TR.sl TR.int) v9 l8, own 24 (TR.sl TR.int) v11 l10, imm (TR.pair TR.int (TR.pair (TR.sl TR.int) (TR.sl TR.int))) v168 y162, obox 36 (TR.pair TR.int (TR.pair (TR.sl TR.int) (TR.sl TR.int))) v169 ((0 : Int), ([] : (List Int)), ([] : (List Int)))]) rfl ?_
   refine RL.stP (off := 0) (e' := y162) (d1 := y162) (r := (TR.pair TR.int (TR.pair (TR.sl TR.int) (TR.sl TR.int)))) 4 Try_ln36 rfl rfl (Or.inr ⟨rfl, rfl⟩) rfl (VR.item 3 rfl) rfl Upd.self ?_
   refine RL.finG ?_
   refine GL.regionA rfl rfl ?_
   refine RA.mv 0 rfl (by kernel_rfl) rfl rfl rfl ?_
   refine RA.mv 6 rfl (by kernel_rfl) rfl rfl rfl ?_
   obtain ⟨y233, e234, h155⟩ := bind_some h155
   obtain ⟨y237, e238, h155⟩ := bind_some h155
   replace e238 := chk_some e238
   refine RA.meet (ι := Value × Value) (fun (p : Value × Value) => [(0, .int .i64 x0), (1, v1), (6, v11), (26, v1), (27, .int .i64 ((x1).length : Int)), (28, .int .i64 (i152 : Int)), (37, p.1), (38, v11), (40, p.2)]) (fun (p : Value × Value) => [imm (TR.sl (TR.pair TR.int (TR.pair (TR.sl TR.int) (TR.sl TR.int)))) v1 x1, own 24 (TR.sl TR.int) v11 l10, own 24 (TR.sl TR.int) p.1 (l8 ++ ([y233] : (List (List Int)))), imm (TR.sl TR.int) p.2 y162.2.2]) 5 #[true, true, true, true, true, true, true, true, true, false, false, false, false, false] (fun h252 => ?_) ?_
   ·skip
    refine RA.meet (ι := Value) (fun (p : Value) => [(0, .int .i64 x0), (1, v1), (6, v11), (26, v1), (27, .int .i64 ((x1).length : Int)), (28, .int .i64 (i152 : Int)), (37, p), (38, v11), (39, adr v169 (0 + 2))]) (fun (p : Value) => [imm (TR.sl (TR.pair TR.int (TR.pair (TR.sl TR.int) (TR.sl TR.int)))) v1 x1, own 24 (TR.sl TR.int) v11 l10, own 24 (TR.sl TR.int) p (l8 ++ ([y233] : (List (List Int)))), obox 36 (TR.pair TR.int (TR.pair (TR.sl TR.int) (TR.sl TR.int))) v169 y162]) 6 #[true, true, true, true, true, true, true, true, false, false, false, false, false, false] (fun h253 => ?_) ?_
    rotate_left
    ·rintro v249
     refine RA.weak (env' := [(0, .int .i64 x0), (1, v1), (6, v11), (26, v1), (27, .int .i64 ((x1).length : Int)), (28, .int .i64 (i152 : Int)), (37, v249), (38, v11), (39, adr v169 (0 + 2))]) (L' := [imm (TR.sl (TR.pair TR.int (TR.pair (TR.sl TR.int) (TR.sl TR.int)))) v1 x1, own 24 (TR.sl TR.int) v11 l10, own 24 (TR.sl TR.int) v249 (l8 ++ ([y233] : (List (List Int)))), obox 36 (TR.pair TR.int (TR.pair (TR.sl TR.int) (TR.sl TR.int))) v169 y162]) (fun _ _ st => st) ?_
     refine RA.seq 8 rfl (by kernel_rfl) ?_
     refine RL.ldP (off := (0 + 2)) (r := (TR.sl TR.int)) (e' := y162.2.2) 3 Try_ln24 rfl rfl (Or.inl rfl) rfl PtOf.obox (Part.snd (Part.snd Part.self)) ?_
     intro v286
     refine RL.fin ?_
     refine RA.next ?_
     refine RA.relist 5 #[true, true, true, true, true, true, true, true, true, false, false, false, false, false] rfl (by kernel_rfl) ?_
     exact fun a w st => h252 (v249, v286) a w (St.cut [0, 1, 2, 4] ⟨rfl, rfl, rfl, rfl, rfl, rfl, rfl, rfl, rfl, trivial⟩ (by decide) rfl st)
    refine RA.meet (ι := Value × Value) (fun (p : Value × Value) => [(0, .int .i64 x0), (1, v1), (5, v9), (6, v11), (26, v1), (27, .int .i64 ((x1).length : Int)), (28, .int .i64 (i152 : Int)), (32, v9), (36, p.1), (38, v11), (40, p.2)]) (fun (p : Value × Value) => [imm (TR.sl (TR.pair TR.int (TR.pair (TR.sl TR.int) (TR.sl TR.int)))) v1 x1, own 24 (TR.sl TR.int) v9 l8, own 24 (TR.sl TR.int) v11 l10, own 24 (TR.sl TR.int) p.1 ([y233] : (List (List Int))), imm (TR.sl TR.int) p.2 y162.2.2]) 6 #[true, true, true, true, true, false, true, true, true, false, false, false, false, false] (fun h254 => ?_) ?_
    rotate_left
    ·rintro ⟨v246, v250⟩
     refine RA.weak (env' := [(0, .int .i64 x0), (1, v1), (5, v9), (6, v11), (26, v1), (27, .int .i64 ((x1).length : Int)), (28, .int .i64 (i152 : Int)), (32, v9), (36, v246), (38, v11), (40, v250)]) (L' := [imm (TR.sl (TR.pair TR.int (TR.pair (TR.sl TR.int) (TR.sl TR.int)))) v1 x1, own 24 (TR.sl TR.int) v9 l8, own 24 (TR.sl TR.int) v11 l10, own 24 (TR.sl TR.int) v246 ([y233] : (List (List Int))), imm (TR.sl TR.int) v250 y162.2.2]) (fun _ _ st => st) ?_
     refine RA.seq 5 rfl (by kernel_rfl) ?_
     refine RL.appB 1 3 Try.underlying37 Try_lo24 rfl rfl rfl rfl rfl rfl rfl SlOf.own (RoomN.of (N := 5864062014805) Try_info24 (by decide) (by decide)) e238 ?_
     intro v285
     refine RL.fin ?_
     refine RA.next ?_
     refine RA.relist 5 #[true, true, true, true, true, true, true, true, true, false, false, false, false, false] rfl (by kernel_rfl) ?_
     exact fun a w st => h252 (v285, v250) a w (St.cut [0, 2, 1, 4] ⟨rfl, rfl, rfl, rfl, rfl, rfl, rfl, rfl, rfl, trivial⟩ (by decide) rfl st)
    refine RA.meet (ι := Value) (fun (p : Value) => [(0, .int .i64 x0), (1, v1), (5, v9), (6, v11), (26, v1), (27, .int .i64 ((x1).length : Int)), (28, .int .i64 (i152 : Int)), (32, v9), (36, p), (38, v11), (39, adr v169 (0 + 2))]) (fun (p : Value) => [imm (TR.sl (TR.pair TR.int (TR.pair (TR.sl TR.int) (TR.sl TR.int)))) v1 x1, own 24 (TR.sl TR.int) v9 l8, own 24 (TR.sl TR.int) v11 l10, own 24 (TR.sl TR.int) p ([y233] : (List (List Int))), obox 36 (TR.pair TR.int (TR.pair (TR.sl TR.int) (TR.sl TR.int))) v169 y162]) 7 #[true, true, true, true, true, false, true, true, false, false, false, false, false, false] (fun h255 => ?_) ?_
    rotate_left
    ·rintro v246
     refine RA.weak (env' := [(0, .int .i64 x0), (1, v1), (5, v9), (6, v11), (26, v1), (27, .int .i64 ((x1).length : Int)), (28, .int .i64 (i152 : Int)), (32, v9), (36, v246), (38, v11), (39, adr v169 (0 + 2))]) (L' := [imm (TR.sl (TR.pair TR.int (TR.pair (TR.sl TR.int) (TR.sl TR.int)))) v1 x1, own 24 (TR.sl TR.int) v9 l8, own 24 (TR.sl TR.int) v11 l10, own 24 (TR.sl TR.int) v246 ([y233] : (List (List Int))), obox 36 (TR.pair TR.int (TR.pair (TR.sl TR.int) (TR.sl TR.int))) v169 y162]) (fun _ _ st => st) ?_
     refine RA.many [5, 8] (by kernel_rfl) ⟨⟨_, rfl, ?_⟩, ⟨_, rfl, ?_⟩, trivial⟩
     ·skip
      refine RL.appB 1 3 Try.underlying37 Try_lo24 rfl rfl rfl rfl rfl rfl rfl SlOf.own (RoomN.of (N := 5864062014805) Try_info24 (by decide) (by decide)) e238 ?_
      intro v283
      refine RL.fin ?_
      refine RA.next ?_
      refine RA.relist 6 #[true, true, true, true, true, true, true, true, false, false, false, false, false, false] rfl (by kernel_rfl) ?_
      exact fun a w st => h253 v283 a w (St.cut [0, 2, 1, 4] ⟨rfl, rfl, rfl, rfl, rfl, rfl, rfl, rfl, rfl, trivial⟩ (by decide) rfl st)
     refine RL.ldP (off := (0 + 2)) (r := (TR.sl TR.int)) (e' := y162.2.2) 4 Try_ln24 rfl rfl (Or.inl rfl) rfl PtOf.obox (Part.snd (Part.snd Part.self)) ?_
     intro v284
     refine RL.fin ?_
     refine RA.next ?_
     refine RA.relist 6 #[true, true, true, true, true, false, true, true, true, false, false, false, false, false] rfl (by kernel_rfl) ?_
     exact fun a w st => h254 (v246, v284) a w (St.cut [0, 1, 2, 3, 5] ⟨rfl, rfl, rfl, rfl, rfl, rfl, rfl, rfl, rfl, rfl, rfl, trivial⟩ (by decide) rfl st)
    refine RA.meet (ι := Value × Value) (fun (p : Value × Value) => [(0, .int .i64 x0), (1, v1), (5, v9), (6, v11), (26, v1), (27, .int .i64 ((x1).length : Int)), (28, .int .i64 (i152 : Int)), (32, v9), (35, p.1), (38, v11), (40, p.2)]) (fun (p : Value × Value) => [imm (TR.sl (TR.pair TR.int (TR.pair (TR.sl TR.int) (TR.sl TR.int)))) v1 x1, own 24 (TR.sl TR.int) v9 l8, own 24 (TR.sl TR.int) v11 l10, own 3 TR.int p.1 y233, imm (TR.sl TR.int) p.2 y162.2.2]) 7 #[true, true, true, true, false, false, true, true, true, false, false, false, false, false] (fun h256 => ?_) ?_
    rotate_left
    ·rintro ⟨v244, v248⟩
     refine RA.weak (env' := [(0, .int .i64 x0), (1, v1), (5, v9), (6, v11), (26, v1), (27, .int .i64 ((x1).length : Int)), (28, .int .i64 (i152 : Int)), (32, v9), (35, v244), (38, v11), (40, v248)]) (L' := [imm (TR.sl (TR.pair TR.int (TR.pair (TR.sl TR.int) (TR.sl TR.int)))) v1 x1, own 24 (TR.sl TR.int) v9 l8, own 24 (TR.sl TR.int) v11 l10, own 3 TR.int v244 y233, imm (TR.sl TR.int) v248 y162.2.2]) (fun _ _ st => st) ?_
     refine RA.seq 4 rfl (by kernel_rfl) ?_
     refine RL.weak (fun a w st => st.freeze 3 rfl) ?_
     refine RL.bS (t := (TR.sl TR.int)) (vs := [v244]) ([y233] : (List (List Int))) Try.underlying37 Try_lo24 rfl rfl rfl rfl ⟨(VR.item 3 rfl), trivial⟩ rfl (by decide) ?_
     intro v282
     refine RL.fin ?_
     refine RA.next ?_
     refine RA.relist 6 #[true, true, true, true, true, false, true, true, true, false, false, false, false, false] rfl (by kernel_rfl) ?_
     exact fun a w st => h254 (v282, v248) a w (St.cut [0, 1, 2, 5, 4] ⟨rfl, rfl, rfl, rfl, rfl, rfl, rfl, rfl, rfl, rfl, rfl, trivial⟩ (by decide) rfl st)
    refine RA.meet (ι := Value) (fun (p : Value) => [(0, .int .i64 x0), (1, v1), (6, v11), (8, v169), (26, v1), (27, .int .i64 ((x1).length : Int)), (28, .int .i64 (i152 : Int)), (37, p), (38, v11)]) (fun (p : Value) => [imm (TR.sl (TR.pair TR.int (TR.pair (TR.sl TR.int) (TR.sl TR.int)))) v1 x1, own 24 (TR.sl TR.int) v11 l10, obox 36 (TR.pair TR.int (TR.pair (TR.sl TR.int) (TR.sl TR.int))) v169 y162, own 24 (TR.sl TR.int) p (l8 ++ ([y233] : (List (List Int))))]) 7 #[true, true, true, true, true, true, true, false, false, false, false, false, false, false] (fun h257 => ?_) ?_
    rotate_left
    ·rintro v247
     refine RA.weak (env' := [(0, .int .i64 x0), (1, v1), (6, v11), (8, v169), (26, v1), (27, .int .i64 ((x1).length : Int)), (28, .int .i64 (i152 : Int)), (37, v247), (38, v11)]) (L' := [imm (TR.sl (TR.pair TR.int (TR.pair (TR.sl TR.int) (TR.sl TR.int)))) v1 x1, own 24 (TR.sl TR.int) v11 l10, obox 36 (TR.pair TR.int (TR.pair (TR.sl TR.int) (TR.sl TR.int))) v169 y162, own 24 (TR.sl TR.int) v247 (l8 ++ ([y233] : (List (List Int))))]) (fun _ _ st => st) ?_
     refine RA.seq 7 rfl (by kernel_rfl) ?_
     refine RL.fadr (off := 0) (fo := 2) 2 Try_fld36_2 rfl rfl rfl PtOf.obox (Or.inr ⟨rfl, rfl⟩) ?_
     refine RL.fin ?_
     refine RA.next ?_
     refine RA.relist 6 #[true, true, true, true, true, true, true, true, false, false, false, false, false, false] rfl (by kernel_rfl) ?_
     exact fun a w st => h253 v247 a w (St.cut [0, 1, 3, 2] ⟨rfl, rfl, rfl, rfl, rfl, rfl, rfl, rfl, rfl, trivial⟩ (by decide) rfl st)
    refine RA.meet (ι := Value) (fun (p : Value) => [(0, .int .i64 x0), (1, v1), (5, v9), (6, v11), (8, v169), (26, v1), (27, .int .i64 ((x1).length : Int)), (28, .int .i64 (i152 : Int)), (32, v9), (36, p), (38, v11)]) (fun (p : Value) => [imm (TR.sl (TR.pair TR.int (TR.pair (TR.sl TR.int) (TR.sl TR.int)))) v1 x1, own 24 (TR.sl TR.int) v9 l8, own 24 (TR.sl TR.int) v11 l10, obox 36 (TR.pair TR.int (TR.pair (TR.sl TR.int) (TR.sl TR.int))) v169 y162, own 24 (TR.sl TR.int) p ([y233] : (List (List Int)))]) 8 #[true, true, true, true, true, false, true, false, false, false, false, false, false, false] (fun h258 => ?_) ?_
    rotate_left
    ·rintro v246
     refine RA.weak (env' := [(0, .int .i64 x0), (1, v1), (5, v9), (6, v11), (8, v169), (26, v1), (27, .int .i64 ((x1).length : Int)), (28, .int .i64 (i152 : Int)), (32, v9), (36, v246), (38, v11)]) (L' := [imm (TR.sl (TR.pair TR.int (TR.pair (TR.sl TR.int) (TR.sl TR.int)))) v1 x1, own 24 (TR.sl TR.int) v9 l8, own 24 (TR.sl TR.int) v11 l10, obox 36 (TR.pair TR.int (TR.pair (TR.sl TR.int) (TR.sl TR.int))) v169 y162, own 24 (TR.sl TR.int) v246 ([y233] : (List (List Int)))]) (fun _ _ st => st) ?_
     refine RA.many [5, 7] (by kernel_rfl) ⟨⟨_, rfl, ?_⟩, ⟨_, rfl, ?_⟩, trivial⟩
     ·skip
      refine RL.appB 1 4 Try.underlying37 Try_lo24 rfl rfl rfl rfl rfl rfl rfl SlOf.own (RoomN.of (N := 5864062014805) Try_info24 (by decide) (by decide)) e238 ?_
      intro v281
      refine RL.fin ?_
      refine RA.next ?_
      refine RA.relist 7 #[true, true, true, true, true, true, true, false, false, false, false, false, false, false] rfl (by kernel_rfl) ?_
      exact fun a w st => h257 v281 a w (St.cut [0, 2, 3, 1] ⟨rfl, rfl, rfl, rfl, rfl, rfl, rfl, rfl, rfl, trivial⟩ (by decide) rfl st)
     refine RL.fadr (off := 0) (fo := 2) 3 Try_fld36_2 rfl rfl rfl PtOf.obox (Or.inr ⟨rfl, rfl⟩) ?_
     refine RL.fin ?_
     refine RA.next ?_
     refine RA.relist 7 #[true, true, true, true, true, false, true, true, false, false, false, false, false, false] rfl (by kernel_rfl) ?_
     exact fun a w st => h255 v246 a w (St.cut [0, 1, 2, 4, 3] ⟨rfl, rfl, rfl, rfl, rfl, rfl, rfl, rfl, rfl, rfl, rfl, trivial⟩ (by decide) rfl st)
    refine RA.meet (ι := Value) (fun (p : Value) => [(0, .int .i64 x0), (1, v1), (5, v9), (6, v11), (26, v1), (27, .int .i64 ((x1).length : Int)), (28, .int .i64 (i152 : Int)), (32, v9), (35, p), (38, v11), (39, adr v169 (0 + 2))]) (fun (p : Value) => [imm (TR.sl (TR.pair TR.int (TR.pair (TR.sl TR.int) (TR.sl TR.int)))) v1 x1, own 24 (TR.sl TR.int) v9 l8, own 24 (TR.sl TR.int) v11 l10, own 3 TR.int p y233, obox 36 (TR.pair TR.int (TR.pair (TR.sl TR.int) (TR.sl TR.int))) v169 y162]) 8 #[true, true, true, true, false, false, true, true, false, false, false, false, false, false] (fun h259 => ?_) ?_
    rotate_left
    ·rintro v244
     refine RA.weak (env' := [(0, .int .i64 x0), (1, v1), (5, v9), (6, v11), (26, v1), (27, .int .i64 ((x1).length : Int)), (28, .int .i64 (i152 : Int)), (32, v9), (35, v244), (38, v11), (39, adr v169 (0 + 2))]) (L' := [imm (TR.sl (TR.pair TR.int (TR.pair (TR.sl TR.int) (TR.sl TR.int)))) v1 x1, own 24 (TR.sl TR.int) v9 l8, own 24 (TR.sl TR.int) v11 l10, own 3 TR.int v244 y233, obox 36 (TR.pair TR.int (TR.pair (TR.sl TR.int) (TR.sl TR.int))) v169 y162]) (fun _ _ st => st) ?_
     refine RA.many [4, 8] (by kernel_rfl) ⟨⟨_, rfl, ?_⟩, ⟨_, rfl, ?_⟩, trivial⟩
     ·skip
      refine RL.weak (fun a w st => st.freeze 3 rfl) ?_
      refine RL.bS (t := (TR.sl TR.int)) (vs := [v244]) ([y233] : (List (List Int))) Try.underlying37 Try_lo24 rfl rfl rfl rfl ⟨(VR.item 3 rfl), trivial⟩ rfl (by decide) ?_
      intro v279
      refine RL.fin ?_
      refine RA.next ?_
      refine RA.relist 7 #[true, true, true, true, true, false, true, true, false, false, false, false, false, false] rfl (by kernel_rfl) ?_
      exact fun a w st => h255 v279 a w (St.cut [0, 1, 2, 5, 4] ⟨rfl, rfl, rfl, rfl, rfl, rfl, rfl, rfl, rfl, rfl, rfl, trivial⟩ (by decide) rfl st)
     refine RL.ldP (off := (0 + 2)) (r := (TR.sl TR.int)) (e' := y162.2.2) 4 Try_ln24 rfl rfl (Or.inl rfl) rfl PtOf.obox (Part.snd (Part.snd Part.self)) ?_
     intro v280
     refine RL.fin ?_
     refine RA.next ?_
     refine RA.relist 7 #[true, true, true, true, false, false, true, true, true, false, false, false, false, false] rfl (by kernel_rfl) ?_
     exact fun a w st => h256 (v244, v280) a w (St.cut [0, 1, 2, 3, 5] ⟨rfl, rfl, rfl, rfl, rfl, rfl, rfl, rfl, rfl, rfl, rfl, trivial⟩ (by decide) rfl st)
    refine RA.meet (ι := Value × Value) (fun (p : Value × Value) => [(0, .int .i64 x0), (1, v1), (5, v9), (6, v11), (26, v1), (27, .int .i64 ((x1).length : Int)), (28, .int .i64 (i152 : Int)), (32, v9), (34, p.1), (38, v11), (40, p.2)]) (fun (p : Value × Value) => [imm (TR.sl (TR.pair TR.int (TR.pair (TR.sl TR.int) (TR.sl TR.int)))) v1 x1, own 24 (TR.sl TR.int) v9 l8, own 24 (TR.sl TR.int) v11 l10, imm (TR.sl TR.int) p.1 y162.2.1, imm (TR.sl TR.int) p.2 y162.2.2]) 8 #[true, true, true, false, false, false, true, true, true, false, false, false, false, false] (fun h260 => ?_) ?_
    rotate_left
    ·rintro ⟨v242, v245⟩
     refine RA.weak (env' := [(0, .int .i64 x0), (1, v1), (5, v9), (6, v11), (26, v1), (27, .int .i64 ((x1).length : Int)), (28, .int .i64 (i152 : Int)), (32, v9), (34, v242), (38, v11), (40, v245)]) (L' := [imm (TR.sl (TR.pair TR.int (TR.pair (TR.sl TR.int) (TR.sl TR.int)))) v1 x1, own 24 (TR.sl TR.int) v9 l8, own 24 (TR.sl TR.int) v11 l10, imm (TR.sl TR.int) v242 y162.2.1, imm (TR.sl TR.int) v245 y162.2.2]) (fun _ _ st => st) ?_
     refine RA.seq 3 rfl (by kernel_rfl) ?_
     refine RL.call (vs := [v242]) Try_fit18 rfl rfl rfl rfl rfl (fun S f w hS hW hi => slices_Clone_int_int_c S w hS _ _ (hi 3 _ rfl) _ e234) ?_
     intro v278
     refine RL.fin ?_
     refine RA.next ?_
     refine RA.relist 7 #[true, true, true, true, false, false, true, true, true, false, false, false, false, false] rfl (by kernel_rfl) ?_
     exact fun a w st => h256 (v278, v245) a w (St.cut [0, 1, 2, 5, 4] ⟨rfl, rfl, rfl, rfl, rfl, rfl, rfl, rfl, rfl, rfl, rfl, trivial⟩ (by decide) rfl st)
    refine RA.meet (ι := Value) (fun (p : Value) => [(0, .int .i64 x0), (1, v1), (5, v9), (6, v11), (26, v1), (27, .int .i64 ((x1).length : Int)), (28, .int .i64 (i152 : Int)), (32, v9), (34, p), (38, v11), (39, adr v169 (0 + 2))]) (fun (p : Value) => [imm (TR.sl (TR.pair TR.int (TR.pair (TR.sl TR.int) (TR.sl TR.int)))) v1 x1, own 24 (TR.sl TR.int) v9 l8, own 24 (TR.sl TR.int) v11 l10, imm (TR.sl TR.int) p y162.2.1, obox 36 (TR.pair TR.int (TR.pair (TR.sl TR.int) (TR.sl TR.int))) v169 y162]) 9 #[true, true, true, false, false, false, true, true, false, false, false, false, false, false] (fun h261 => ?_) ?_
    rotate_left
    ·rintro v242
     refine RA.weak (env' := [(0, .int .i64 x0), (1, v1), (5, v9), (6, v11), (26, v1), (27, .int .i64 ((x1).length : Int)), (28, .int .i64 (i152 : Int)), (32, v9), (34, v242), (38, v11), (39, adr v169 (0 + 2))]) (L' := [imm (TR.sl (TR.pair TR.int (TR.pair (TR.sl TR.int) (TR.sl TR.int)))) v1 x1, own 24 (TR.sl TR.int) v9 l8, own 24 (TR.sl TR.int) v11 l10, imm (TR.sl TR.int) v242 y162.2.1, obox 36 (TR.pair TR.int (TR.pair (TR.sl TR.int) (TR.sl TR.int))) v169 y162]) (fun _ _ st => st) ?_
     refine RA.many [3, 8] (by kernel_rfl) ⟨⟨_, rfl, ?_⟩, ⟨_, rfl, ?_⟩, trivial⟩
     ·skip
      refine RL.call (vs := [v242]) Try_fit18 rfl rfl rfl rfl rfl (fun S f w hS hW hi => slices_Clone_int_int_c S w hS _ _ (hi 3 _ rfl) _ e234) ?_
      intro v276
      refine RL.fin ?_
      refine RA.next ?_
      refine RA.relist 8 #[true, true, true, true, false, false, true, true, false, false, false, false, false, false] rfl (by kernel_rfl) ?_
      exact fun a w st => h259 v276 a w (St.cut [0, 1, 2, 5, 4] ⟨rfl, rfl, rfl, rfl, rfl, rfl, rfl, rfl, rfl, rfl, rfl, trivial⟩ (by decide) rfl st)
     refine RL.ldP (off := (0 + 2)) (r := (TR.sl TR.int)) (e' := y162.2.2) 4 Try_ln24 rfl rfl (Or.inl rfl) rfl PtOf.obox (Part.snd (Part.snd Part.self)) ?_
     intro v277
     refine RL.fin ?_
     refine RA.next ?_
     refine RA.relist 8 #[true, true, true, false, false, false, true, true, true, false, false, false, false, false] rfl (by kernel_rfl) ?_
     exact fun a w st => h260 (v242, v277) a w (St.cut [0, 1, 2, 3, 5] ⟨rfl, rfl, rfl, rfl, rfl, rfl, rfl, rfl, rfl, rfl, rfl, trivial⟩ (by decide) rfl st)
    refine RA.meet (ι := Value) (fun (p : Value) => [(0, .int .i64 x0), (1, v1), (5, v9), (6, v11), (26, v1), (27, .int .i64 ((x1).length : Int)), (28, .int .i64 (i152 : Int)), (32, v9), (33, adr v169 (0 + 1)), (38, v11), (40, p)]) (fun (p : Value) => [imm (TR.sl (TR.pair TR.int (TR.pair (TR.sl TR.int) (TR.sl TR.int)))) v1 x1, own 24 (TR.sl TR.int) v9 l8, own 24 (TR.sl TR.int) v11 l10, obox 36 (TR.pair TR.int (TR.pair (TR.sl TR.int) (TR.sl TR.int))) v169 y162, imm (TR.sl TR.int) p y162.2.2]) 9 #[true, true, false, false, false, false, true, true, true, false, false, false, false, false] (fun h262 => ?_) ?_
    rotate_left
    ·rintro v241
     refine RA.weak (env' := [(0, .int .i64 x0), (1, v1), (5, v9), (6, v11), (26, v1), (27, .int .i64 ((x1).length : Int)), (28, .int .i64 (i152 : Int)), (32, v9), (33, adr v169 (0 + 1)), (38, v11), (40, v241)]) (L' := [imm (TR.sl (TR.pair TR.int (TR.pair (TR.sl TR.int) (TR.sl TR.int)))) v1 x1, own 24 (TR.sl TR.int) v9 l8, own 24 (TR.sl TR.int) v11 l10, obox 36 (TR.pair TR.int (TR.pair (TR.sl TR.int) (TR.sl TR.int))) v169 y162, imm (TR.sl TR.int) v241 y162.2.2]) (fun _ _ st => st) ?_
     refine RA.seq 2 rfl (by kernel_rfl) ?_
     refine RL.ldP (off := (0 + 1)) (r := (TR.sl TR.int)) (e' := y162.2.1) 3 Try_ln24 rfl rfl (Or.inl rfl) rfl PtOf.obox (Part.snd (Part.fst Part.self)) ?_
     intro v275
     refine RL.fin ?_
     refine RA.next ?_
     refine RA.relist 8 #[true, true, true, false, false, false, true, true, true, false, false, false, false, false] rfl (by kernel_rfl) ?_
     exact fun a w st => h260 (v275, v241) a w (St.cut [0, 1, 2, 5, 4] ⟨rfl, rfl, rfl, rfl, rfl, rfl, rfl, rfl, rfl, rfl, rfl, trivial⟩ (by decide) rfl st)
    refine RA.meet (ι := Value) (fun (p : Value) => [(0, .int .i64 x0), (1, v1), (5, v9), (6, v11), (8, v169), (26, v1), (27, .int .i64 ((x1).length : Int)), (28, .int .i64 (i152 : Int)), (32, v9), (35, p), (38, v11)]) (fun (p : Value) => [imm (TR.sl (TR.pair TR.int (TR.pair (TR.sl TR.int) (TR.sl TR.int)))) v1 x1, own 24 (TR.sl TR.int) v9 l8, own 24 (TR.sl TR.int) v11 l10, obox 36 (TR.pair TR.int (TR.pair (TR.sl TR.int) (TR.sl TR.int))) v169 y162, own 3 TR.int p y233]) 9 #[true, true, true, true, false, false, true, false, false, false, false, false, false, false] (fun h263 => ?_) ?_
    rotate_left
    ·rintro v243
     refine RA.weak (env' := [(0, .int .i64 x0), (1, v1), (5, v9), (6, v11), (8, v169), (26, v1), (27, .int .i64 ((x1).length : Int)), (28, .int .i64 (i152 : Int)), (32, v9), (35, v243), (38, v11)]) (L' := [imm (TR.sl (TR.pair TR.int (TR.pair (TR.sl TR.int) (TR.sl TR.int)))) v1 x1, own 24 (TR.sl TR.int) v9 l8, own 24 (TR.sl TR.int) v11 l10, obox 36 (TR.pair TR.int (TR.pair (TR.sl TR.int) (TR.sl TR.int))) v169 y162, own 3 TR.int v243 y233]) (fun _ _ st => st) ?_
     refine RA.many [4, 7] (by kernel_rfl) ⟨⟨_, rfl, ?_⟩, ⟨_, rfl, ?_⟩, trivial⟩
     ·skip
      refine RL.weak (fun a w st => st.freeze 4 rfl) ?_
      refine RL.bS (t := (TR.sl TR.int)) (vs := [v243]) ([y233] : (List (List Int))) Try.underlying37 Try_lo24 rfl rfl rfl rfl ⟨(VR.item 4 rfl), trivial⟩ rfl (by decide) ?_
      intro v274
      refine RL.fin ?_
      refine RA.next ?_
      refine RA.relist 8 #[true, true, true, true, true, false, true, false, false, false, false, false, false, false] rfl (by kernel_rfl) ?_
      exact fun a w st => h258 v274 a w (St.cut [0, 1, 2, 3, 5] ⟨rfl, rfl, rfl, rfl, rfl, rfl, rfl, rfl, rfl, rfl, rfl, trivial⟩ (by decide) rfl st)
     refine RL.fadr (off := 0) (fo := 2) 3 Try_fld36_2 rfl rfl rfl PtOf.obox (Or.inr ⟨rfl, rfl⟩) ?_
     refine RL.fin ?_
     refine RA.next ?_
     refine RA.relist 8 #[true, true, true, true, false, false, true, true, false, false, false, false, false, false] rfl (by kernel_rfl) ?_
     exact fun a w st => h259 v243 a w (St.cut [0, 1, 2, 4, 3] ⟨rfl, rfl, rfl, rfl, rfl, rfl, rfl, rfl, rfl, rfl, rfl, trivial⟩ (by decide) rfl st)
    refine RA.meet (ι := Value) (fun (p : Value) => [(0, .int .i64 x0), (1, v1), (5, v9), (6, v11), (8, v169), (26, v1), (27, .int .i64 ((x1).length : Int)), (28, .int .i64 (i152 : Int)), (32, v9), (38, v11), (40, p)]) (fun (p : Value) => [imm (TR.sl (TR.pair TR.int (TR.pair (TR.sl TR.int) (TR.sl TR.int)))) v1 x1, own 24 (TR.sl TR.int) v9 l8, own 24 (TR.sl TR.int) v11 l10, obox 36 (TR.pair TR.int (TR.pair (TR.sl TR.int) (TR.sl TR.int))) v169 y162, imm (TR.sl TR.int) p y162.2.2]) 10 #[true, false, false, false, false, false, true, true, true, false, false, false, false, false] (fun h264 => ?_) ?_
    rotate_left
    ·rintro v241
     refine RA.weak (env' := [(0, .int .i64 x0), (1, v1), (5, v9), (6, v11), (8, v169), (26, v1), (27, .int .i64 ((x1).length : Int)), (28, .int .i64 (i152 : Int)), (32, v9), (38, v11), (40, v241)]) (L' := [imm (TR.sl (TR.pair TR.int (TR.pair (TR.sl TR.int) (TR.sl TR.int)))) v1 x1, own 24 (TR.sl TR.int) v9 l8, own 24 (TR.sl TR.int) v11 l10, obox 36 (TR.pair TR.int (TR.pair (TR.sl TR.int) (TR.sl TR.int))) v169 y162, imm (TR.sl TR.int) v241 y162.2.2]) (fun _ _ st => st) ?_
     refine RA.seq 1 rfl (by kernel_rfl) ?_
     refine RL.fadr (off := 0) (fo := 1) 3 Try_fld36_1 rfl rfl rfl PtOf.obox (Or.inr ⟨rfl, rfl⟩) ?_
     refine RL.fin ?_
     refine RA.next ?_
     refine RA.relist 9 #[true, true, false, false, false, false, true, true, true, false, false, false, false, false] rfl (by kernel_rfl) ?_
     exact fun a w st => h262 v241 a w (St.cut [0, 1, 2, 3, 4] ⟨rfl, rfl, rfl, rfl, rfl, rfl, rfl, rfl, rfl, rfl, rfl, trivial⟩ (by decide) rfl st)
    refine RA.meet (ι := Value) (fun (p : Value) => [(0, .int .i64 x0), (1, v1), (5, v9), (6, v11), (8, v169), (26, v1), (27, .int .i64 ((x1).length : Int)), (28, .int .i64 (i152 : Int)), (32, v9), (34, p), (38, v11)]) (fun (p : Value) => [imm (TR.sl (TR.pair TR.int (TR.pair (TR.sl TR.int) (TR.sl TR.int)))) v1 x1, own 24 (TR.sl TR.int) v9 l8, own 24 (TR.sl TR.int) v11 l10, obox 36 (TR.pair TR.int (TR.pair (TR.sl TR.int) (TR.sl TR.int))) v169 y162, imm (TR.sl TR.int) p y162.2.1]) 10 #[true, true, true, false, false, false, true, false, false, false, false, false, false, false] (fun h265 => ?_) ?_
    rotate_left
    ·rintro v242
     refine RA.weak (env' := [(0, .int .i64 x0), (1, v1), (5, v9), (6, v11), (8, v169), (26, v1), (27, .int .i64 ((x1).length : Int)), (28, .int .i64 (i152 : Int)), (32, v9), (34, v242), (38, v11)]) (L' := [imm (TR.sl (TR.pair TR.int (TR.pair (TR.sl TR.int) (TR.sl TR.int)))) v1 x1, own 24 (TR.sl TR.int) v9 l8, own 24 (TR.sl TR.int) v11 l10, obox 36 (TR.pair TR.int (TR.pair (TR.sl TR.int) (TR.sl TR.int))) v169 y162, imm (TR.sl TR.int) v242 y162.2.1]) (fun _ _ st => st) ?_
     refine RA.many [3, 7] (by kernel_rfl) ⟨⟨_, rfl, ?_⟩, ⟨_, rfl, ?_⟩, trivial⟩
     ·skip
      refine RL.call (vs := [v242]) Try_fit18 rfl rfl rfl rfl rfl (fun S f w hS hW hi => slices_Clone_int_int_c S w hS _ _ (hi 4 _ rfl) _ e234) ?_
      intro v273
      refine RL.fin ?_
      refine RA.next ?_
      refine RA.relist 9 #[true, true, true, true, false, false, true, false, false, false, false, false, false, false] rfl (by kernel_rfl) ?_
      exact fun a w st => h263 v273 a w (St.cut [0, 1, 2, 3, 5] ⟨rfl, rfl, rfl, rfl, rfl, rfl, rfl, rfl, rfl, rfl, rfl, trivial⟩ (by decide) rfl st)
     refine RL.fadr (off := 0) (fo := 2) 3 Try_fld36_2 rfl rfl rfl PtOf.obox (Or.inr ⟨rfl, rfl⟩) ?_
     refine RL.fin ?_
     refine RA.next ?_
     refine RA.relist 9 #[true, true, true, false, false, false, true, true, false, false, false, false, false, false] rfl (by kernel_rfl) ?_
     exact fun a w st => h261 v242 a w (St.cut [0, 1, 2, 4, 3] ⟨rfl, rfl, rfl, rfl, rfl, rfl, rfl, rfl, rfl, rfl, rfl, trivial⟩ (by decide) rfl st)
    refine RA.meet (ι := Unit) (fun (p : Unit) => [(0, .int .i64 x0), (1, v1), (5, v9), (6, v11), (26, v1), (27, .int .i64 ((x1).length : Int)), (28, .int .i64 (i152 : Int)), (32, v9), (33, adr v169 (0 + 1)), (38, v11), (39, adr v169 (0 + 2))]) (fun (p : Unit) => [imm (TR.sl (TR.pair TR.int (TR.pair (TR.sl TR.int) (TR.sl TR.int)))) v1 x1, own 24 (TR.sl TR.int) v9 l8, own 24 (TR.sl TR.int) v11 l10, obox 36 (TR.pair TR.int (TR.pair (TR.sl TR.int) (TR.sl TR.int))) v169 y162]) 10 #[true, true, false, false, false, false, true, true, false, false, false, false, false, false] (fun h266 => ?_) ?_
    rotate_left
    ·rintro ⟨⟩
     refine RA.weak (env' := [(0, .int .i64 x0), (1, v1), (5, v9), (6, v11), (26, v1), (27, .int .i64 ((x1).length : Int)), (28, .int .i64 (i152 : Int)), (32, v9), (33, adr v169 (0 + 1)), (38, v11), (39, adr v169 (0 + 2))]) (L' := [imm (TR.sl (TR.pair TR.int (TR.pair (TR.sl TR.int) (TR.sl TR.int)))) v1 x1, own 24 (TR.sl TR.int) v9 l8, own 24 (TR.sl TR.int) v11 l10, obox 36 (TR.pair TR.int (TR.pair (TR.sl TR.int) (TR.sl TR.int))) v169 y162]) (fun _ _ st => st) ?_
     refine RA.many [2, 8] (by kernel_rfl) ⟨⟨_, rfl, ?_⟩, ⟨_, rfl, ?_⟩, trivial⟩
     ·skip
      refine RL.ldP (off := (0 + 1)) (r := (TR.sl TR.int)) (e' := y162.2.1) 3 Try_ln24 rfl rfl (Or.inl rfl) rfl PtOf.obox (Part.snd (Part.fst Part.self)) ?_
      intro v271
      refine RL.fin ?_
      refine RA.next ?_
      refine RA.relist 9 #[true, true, true, false, false, false, true, true, false, false, false, false, false, false] rfl (by kernel_rfl) ?_
      exact fun a w st => h261 v271 a w (St.cut [0, 1, 2, 4, 3] ⟨rfl, rfl, rfl, rfl, rfl, rfl, rfl, rfl, rfl, rfl, rfl, trivial⟩ (by decide) rfl st)
     refine RL.ldP (off := (0 + 2)) (r := (TR.sl TR.int)) (e' := y162.2.2) 3 Try_ln24 rfl rfl (Or.inl rfl) rfl PtOf.obox (Part.snd (Part.snd Part.self)) ?_
     intro v272
     refine RL.fin ?_
     refine RA.next ?_
     refine RA.relist 9 #[true, true, false, false, false, false, true, true, true, false, false, false, false, false] rfl (by kernel_rfl) ?_
     exact fun a w st => h262 v272 a w (St.cut [0, 1, 2, 3, 4] ⟨rfl, rfl, rfl, rfl, rfl, rfl, rfl, rfl, rfl, rfl, rfl, trivial⟩ (by decide) rfl st)
    refine RA.meet (ι := Unit) (fun (p : Unit) => [(0, .int .i64 x0), (1, v1), (5, v9), (6, v11), (8, v169), (26, v1), (27, .int .i64 ((x1).length : Int)), (28, .int .i64 (i152 : Int)), (32, v9), (38, v11), (39, adr v169 (0 + 2))]) (fun (p : Unit) => [imm (TR.sl (TR.pair TR.int (TR.pair (TR.sl TR.int) (TR.sl TR.int)))) v1 x1, own 24 (TR.sl TR.int) v9 l8, own 24 (TR.sl TR.int) v11 l10, obox 36 (TR.pair TR.int (TR.pair (TR.sl TR.int) (TR.sl TR.int))) v169 y162]) 11 #[true, false, false, false, false, false, true, true, false, false, false, false, false, false] (fun h267 => ?_) ?_
    rotate_left
    ·rintro ⟨⟩
     refine RA.weak (env' := [(0, .int .i64 x0), (1, v1), (5, v9), (6, v11), (8, v169), (26, v1), (27, .int .i64 ((x1).length : Int)), (28, .int .i64 (i152 : Int)), (32, v9), (38, v11), (39, adr v169 (0 + 2))]) (L' := [imm (TR.sl (TR.pair TR.int (TR.pair (TR.sl TR.int) (TR.sl TR.int)))) v1 x1, own 24 (TR.sl TR.int) v9 l8, own 24 (TR.sl TR.int) v11 l10, obox 36 (TR.pair TR.int (TR.pair (TR.sl TR.int) (TR.sl TR.int))) v169 y162]) (fun _ _ st => st) ?_
     refine RA.many [1, 8] (by kernel_rfl) ⟨⟨_, rfl, ?_⟩, ⟨_, rfl, ?_⟩, trivial⟩
     ·skip
      refine RL.fadr (off := 0) (fo := 1) 3 Try_fld36_1 rfl rfl rfl PtOf.obox (Or.inr ⟨rfl, rfl⟩) ?_
      refine RL.fin ?_
      refine RA.next ?_
      refine RA.relist 10 #[true, true, false, false, false, false, true, true, false, false, false, false, false, false] rfl (by kernel_rfl) ?_
      exact fun a w st => h266 () a w (St.cut [0, 1, 2, 3] ⟨rfl, rfl, rfl, rfl, rfl, rfl, rfl, rfl, rfl, rfl, rfl, trivial⟩ (by decide) rfl st)
     refine RL.ldP (off := (0 + 2)) (r := (TR.sl TR.int)) (e' := y162.2.2) 3 Try_ln24 rfl rfl (Or.inl rfl) rfl PtOf.obox (Part.snd (Part.snd Part.self)) ?_
     intro v270
     refine RL.fin ?_
     refine RA.next ?_
     refine RA.relist 10 #[true, false, false, false, false, false, true, true, true, false, false, false, false, false] rfl (by kernel_rfl) ?_
     exact fun a w st => h264 v270 a w (St.cut [0, 1, 2, 3, 4] ⟨rfl, rfl, rfl, rfl, rfl, rfl, rfl, rfl, rfl, rfl, rfl, trivial⟩ (by decide) rfl st)
    refine RA.meet (ι := Unit) (fun (p : Unit) => [(0, .int .i64 x0), (1, v1), (5, v9), (6, v11), (8, v169), (26, v1), (27, .int .i64 ((x1).length : Int)), (28, .int .i64 (i152 : Int)), (32, v9), (33, adr v169 (0 + 1)), (38, v11)]) (fun (p : Unit) => [imm (TR.sl (TR.pair TR.int (TR.pair (TR.sl TR.int) (TR.sl TR.int)))) v1 x1, own 24 (TR.sl TR.int) v9 l8, own 24 (TR.sl TR.int) v11 l10, obox 36 (TR.pair TR.int (TR.pair (TR.sl TR.int) (TR.sl TR.int))) v169 y162]) 11 #[true, true, false, false, false, false, true, false, false, false, false, false, false, false] (fun h268 => ?_) ?_
    rotate_left
    ·rintro ⟨⟩
     refine RA.weak (env' := [(0, .int .i64 x0), (1, v1), (5, v9), (6, v11), (8, v169), (26, v1), (27, .int .i64 ((x1).length : Int)), (28, .int .i64 (i152 : Int)), (32, v9), (33, adr v169 (0 + 1)), (38, v11)]) (L' := [imm (TR.sl (TR.pair TR.int (TR.pair (TR.sl TR.int) (TR.sl TR.int)))) v1 x1, own 24 (TR.sl TR.int) v9 l8, own 24 (TR.sl TR.int) v11 l10, obox 36 (TR.pair TR.int (TR.pair (TR.sl TR.int) (TR.sl TR.int))) v169 y162]) (fun _ _ st => st) ?_
     refine RA.many [2, 7] (by kernel_rfl) ⟨⟨_, rfl, ?_⟩, ⟨_, rfl, ?_⟩, trivial⟩
     ·skip
      refine RL.ldP (off := (0 + 1)) (r := (TR.sl TR.int)) (e' := y162.2.1) 3 Try_ln24 rfl rfl (Or.inl rfl) rfl PtOf.obox (Part.snd (Part.fst Part.self)) ?_
      intro v269
      refine RL.fin ?_
      refine RA.next ?_
      refine RA.relist 10 #[true, true, true, false, false, false, true, false, false, false, false, false, false, false] rfl (by kernel_rfl) ?_
      exact fun a w st => h265 v269 a w (St.cut [0, 1, 2, 3, 4] ⟨rfl, rfl, rfl, rfl, rfl, rfl, rfl, rfl, rfl, rfl, rfl, trivial⟩ (by decide) rfl st)
     refine RL.fadr (off := 0) (fo := 2) 3 Try_fld36_2 rfl rfl rfl PtOf.obox (Or.inr ⟨rfl, rfl⟩) ?_
     refine RL.fin ?_
     refine RA.next ?_
     refine RA.relist 10 #[true, true, false, false, false, false, true, true, false, false, false, false, false, false] rfl (by kernel_rfl) ?_
     exact fun a w st => h266 () a w (St.cut [0, 1, 2, 3] ⟨rfl, rfl, rfl, rfl, rfl, rfl, rfl, rfl, rfl, rfl, rfl, trivial⟩ (by decide) rfl st)
    refine RA.many [1, 7] (by kernel_rfl) ⟨⟨_, rfl, ?_⟩, ⟨_, rfl, ?_⟩, trivial⟩
    ·skip
     refine RL.fadr (off := 0) (fo := 1) 4 Try_fld36_1 rfl rfl rfl PtOf.obox (Or.inr ⟨rfl, rfl⟩) ?_
     refine RL.fin ?_
     refine RA.next ?_
     refine RA.relist 11 #[true, true, false, false, false, false, true, false, false, false, false, false, false, false] rfl (by kernel_rfl) ?_
     exact fun a w st => h268 () a w (St.cut [0, 1, 2, 4] ⟨rfl, rfl, rfl, rfl, rfl, rfl, rfl, rfl, rfl, rfl, rfl, trivial⟩ (by decide) rfl st)
    refine RL.fadr (off := 0) (fo := 2) 4 Try_fld36_2 rfl rfl rfl PtOf.obox (Or.inr ⟨rfl, rfl⟩) ?_
    refine RL.fin ?_
    refine RA.next ?_
    refine RA.relist 11 #[true, false, false, false, false, false, true, true, false, false, false, false, false, false] rfl (by kernel_rfl) ?_
    exact fun a w st => h267 () a w (St.cut [0, 1, 2, 4] ⟨rfl, rfl, rfl, rfl, rfl, rfl, rfl, rfl, rfl, rfl, rfl, trivial⟩ (by decide) rfl st)
   rintro ⟨v249, v251⟩
   refine RA.weak (env' := [(0, .int .i64 x0), (1, v1), (6, v11), (26, v1), (27, .int .i64 ((x1).length : Int)), (28, .int .i64 (i152 : Int)), (37, v249), (38, v11), (40, v251)]) (L' := [imm (TR.sl (TR.pair TR.int (TR.pair (TR.sl TR.int) (TR.sl TR.int)))) v1 x1, own 24 (TR.sl TR.int) v11 l10, own 24 (TR.sl TR.int) v249 (l8 ++ ([y233] : (List (List Int)))), imm (TR.sl TR.int) v251 y162.2.2]) (fun _ _ st => st) ?_
   refine RA.seq 9 rfl (by kernel_rfl) ?_
   obtain ⟨y287, e288, h155⟩ := bind_some h155
   refine RL.call (vs := [v251]) Try_fit18 rfl rfl rfl rfl rfl (fun S f w hS hW hi => slices_Clone_int_int_c S w hS _ _ (hi 3 _ rfl) _ e288) ?_
   intro v289
   refine RL.fin ?_
   refine RA.next ?_
   refine RA.seq 10 rfl (by kernel_rfl) ?_
   refine RL.weak (fun a w st => st.freeze 4 rfl) ?_
   refine RL.bS (t := (TR.sl TR.int)) (vs := [v289]) ([y287] : (List (List Int))) Try.underlying37 Try_lo24 rfl rfl rfl rfl ⟨(VR.item 4 rfl), trivial⟩ rfl (by decide) ?_
   intro v290
   refine RL.fin ?_
   refine RA.next ?_
   refine RA.seq 11 rfl (by kernel_rfl) ?_
   obtain ⟨y291, e292, h155⟩ := bind_some h155
   replace e292 := chk_some e292
   refine RL.appB 1 5 Try.underlying37 Try_lo24 rfl rfl rfl rfl rfl rfl rfl SlOf.own (RoomN.of (N := 5864062014805) Try_info24 (by decide) (by decide)) e292 ?_
   intro v293
   refine RL.fin ?_
   refine RA.next ?_
   refine RA.quiet 12 rfl rfl (by kernel_rfl) ?_
   simp only [List.drop_succ_cons, List.drop_zero]
   refine RL.asg rfl rfl rfl ?_
   refine RL.asg rfl rfl rfl ?_
   refine RL.finQ ?_
   refine RA.outQ ?_
   refine GL.weak (env' := [(0, .int .i64 x0), (1, v1), (5, v249), (6, v293), (26, v1), (27, .int .i64 ((x1).length : Int)), (28, .int .i64 (i152 : Int))]) (L' := [imm (TR.sl (TR.pair TR.int (TR.pair (TR.sl TR.int) (TR.sl TR.int)))) v1 x1, own 24 (TR.sl TR.int) v249 (l8 ++ ([y233] : (List (List Int)))), own 24 (TR.sl TR.int) v293 (l10 ++ ([y287] : (List (List Int))))]) (fun a w st => St.cut [0, 2, 1] ⟨rfl, rfl, rfl, rfl, rfl, rfl, rfl, trivial⟩ (by decide) rfl st) ?_
   refine GL.nilB ?_
   refine GL.region ?_
   refine RL.binI (v := .int .i64 ((i152 + 1 : Nat) : Int)) rfl rfl rfl rfl (binI_succ i152 (by omega)) ?_
   refine RL.mv rfl rfl rfl ?_
   refine RL.fin ?_
   cases h155
   exact fun a w st => lop_intro (i152 + 1, r164, (l8 ++ ([y233] : (List (List Int)))), (l10 ++ ([y287] : (List (List Int)))), v249, v293) ⟨by show i152 + 1 + r164.length = (x1).length; simp only [List.length_cons] at h158; omega, h165, h156⟩ (by simp) (St.cut [0, 1, 2] ⟨rfl, rfl, rfl, rfl, rfl, rfl, rfl, trivial⟩ (by decide) rfl st)
  have h161 : ¬ i152 < (x1).length := by have := of_decide_eq_false b160; omega
  obtain rfl : r153 = [] := by rw [← h159]; exact List.drop_of_length_le (by omega)
  replace h157 : some (Fl.nx _) = some y145 := h157
  cases h157
  exact GL.exit (fun a w st => mid_intro (l8, l10, v9, v11) h148 (St.cut [0, 1, 2] ⟨rfl, rfl, rfl, rfl, trivial⟩ (by decide) rfl st))
 rintro ⟨l8, l10, v9, v11⟩ h294
 have h295 := h149 _ h294
 try dsimp only at h295
 refine GL.weak (env' := [(0, .int .i64 x0), (1, v1), (5, v9), (6, v11)]) (L' := [imm (TR.sl (TR.pair TR.int (TR.pair (TR.sl TR.int) (TR.sl TR.int)))) v1 x1, own 24 (TR.sl TR.int) v9 l8, own 24 (TR.sl TR.int) v11 l10]) (fun _ _ st => st) ?_
 refine GL.seq ?_
 refine GL.region ?_
 refine RL.mv rfl rfl rfl ?_
 refine RL.mv rfl rfl rfl ?_
 obtain ⟨y301, e302, h295⟩ := bind_some h295
 refine RL.call (vs := [.int .i64 x0, v1]) Try_fit17 rfl rfl rfl rfl rfl (fun S f w hS hW hi => tree_Solve_c S w hS x0 _ _ (hi 0 _ rfl) _ e302) ?_
 intro ⟨v303, v304, V305⟩
 refine RL.mv rfl rfl rfl ?_
 refine RL.ext rfl rfl rfl rfl ?_
 refine RL.ext rfl rfl rfl rfl ?_
 refine RL.ext rfl rfl rfl rfl ?_
 refine RL.asg rfl rfl rfl ?_
 refine RL.asg rfl rfl rfl ?_
 refine RL.asg rfl rfl rfl ?_
 refine RL.finG ?_
 refine GL.seq ?_
 refine GL.region ?_
 refine RL.mv rfl rfl rfl ?_
 refine RL.mv rfl rfl rfl ?_
 refine RL.mv rfl rfl rfl ?_
 obtain ⟨y310, e311, h295⟩ := bind_some h295
 refine RL.callU (vs := [.int .i64 x0, v1, v303]) (LR := fun (o : Value × Value) => [own 3 TR.int o.1 y310.1, own 3 TR.int o.2 y310.2.1]) (fun o => ⟨Loc.own TR.flatT_ik, ⟨Loc.own TR.flatT_ik, trivial⟩⟩) Try_fit19 rfl rfl rfl rfl rfl (fun U w hU hW hL => tree_Play_c U w hU x0 _ _ (hL 0 _ _ rfl Seen.imm) _ _ (hL 3 _ _ rfl Seen.own) _ e311) ?_
 intro ⟨v312, v313⟩
 refine RL.mv rfl rfl rfl ?_
 refine RL.ext rfl rfl rfl rfl ?_
 refine RL.ext rfl rfl rfl rfl ?_
 refine RL.ext rfl rfl rfl rfl ?_
 refine RL.asg rfl rfl rfl ?_
 refine RL.asg rfl rfl rfl ?_
 refine RL.asg rfl rfl rfl ?_
 refine RL.finG ?_
 refine GL.seq ?_
 refine GL.region ?_
 refine RL.mv rfl rfl rfl ?_
 obtain ⟨y316, e317, h295⟩ := bind_some h295
 refine RL.callK (vs := [v313, .int .i64 (-7 : Int)]) (V := fun (o : Unit) => .tuple #[]) (LR := fun (o : Unit) => [own 3 TR.int v313 y316]) (Ls := [own 3 TR.int v313 y310.2.1]) [6] (by decide) Try_fit21 rfl rfl rfl rfl rfl rfl (fun S f X w hO hB hW hI hL => pk_spoil_int_c _ S X f w _ _  hO hB hI (-7 : Int) _ e317) ?_
 intro _
 refine RL.reL (L' := [imm (TR.sl (TR.pair TR.int (TR.pair (TR.sl TR.int) (TR.sl TR.int)))) v1 x1, own 24 (TR.sl TR.int) v9 l8, own 24 (TR.sl TR.int) v11 l10, own 3 TR.int v303 y301.1, own2 24 3 TR.int v304 V305 y301.2.1, own 3 TR.int v312 y310.1, gone, own 3 TR.int v313 y316]) rfl ?_
 refine RL.finG ?_
 refine GL.seq ?_
 refine GL.seq ?_
 refine GL.region ?_
 refine RL.mv rfl rfl rfl ?_
 refine RL.lenR 4 Try.underlying37 rfl rfl rfl rfl ?_
 refine RL.mv rfl rfl rfl ?_
 refine RL.finG ?_
 refine GL.lenR 4 rfl (fun n336 => ?_)
 obtain ⟨y337, K338, h339, h340, h341, h342, h343⟩ := bindR_K h295
 refine GL.join (ι := (List (List Int)) × (List Value)) (fun (p : (List (List Int)) × (List Value)) => [(0, .int .i64 x0), (1, v1), (5, v9), (6, v11), (9, v303), (10, v304), (11, .int .i64 y301.2.2)]) (fun (p : (List (List Int)) × (List Value)) => [imm (TR.sl (TR.pair TR.int (TR.pair (TR.sl TR.int) (TR.sl TR.int)))) v1 x1, own 24 (TR.sl TR.int) v9 l8, own 24 (TR.sl TR.int) v11 l10, own 3 TR.int v303 y301.1, own2 24 3 TR.int v304 p.2 p.1]) (fun (p : (List (List Int)) × (List Value)) => K338 (.nx p.1)) ?_ ?_
 ·refine GL.block ?_
  refine GL.loop (ι := Nat × Nat × (List (List Int)) × (List Value)) (fun (p : Nat × Nat × (List (List Int)) × (List Value)) => [(0, .int .i64 x0), (1, v1), (5, v9), (6, v11), (9, v303), (10, v304), (11, .int .i64 y301.2.2), (62, v304), (63, .int .i64 ((y301.2.1).length : Int)), (64, .int .i64 (p.1 : Int))]) (fun (p : Nat × Nat × (List (List Int)) × (List Value)) => [imm (TR.sl (TR.pair TR.int (TR.pair (TR.sl TR.int) (TR.sl TR.int)))) v1 x1, own 24 (TR.sl TR.int) v9 l8, own 24 (TR.sl TR.int) v11 l10, own 3 TR.int v303 y301.1, own2 24 3 TR.int v304 p.2.2.2 p.2.2.1]) (fun (p : Nat × Nat × (List (List Int)) × (List Value)) => p.1 + p.2.1 = (y301.2.1).length ∧ rangeN pk_TreesOwn_b2 p.2.1 p.1 p.2.2.1 = some y337) (fun (p : Nat × Nat × (List (List Int)) × (List Value)) => p.2.1) (0, (y301.2.1).length, y301.2.1, V305) ⟨by simp, h339⟩ (fun a w st => St.cut [0, 1, 2, 3, 4] ⟨rfl, rfl, rfl, rfl, rfl, rfl, rfl, rfl, rfl, rfl, trivial⟩ (by decide) rfl st) ?_
  rintro ⟨i344, r345, l326, V327⟩ ⟨h350, h349⟩
  try dsimp only at h350 h349
  refine GL.weak (env' := [(0, .int .i64 x0), (1, v1), (5, v9), (6, v11), (9, v303), (10, v304), (11, .int .i64 y301.2.2), (62, v304), (63, .int .i64 ((y301.2.1).length : Int)), (64, .int .i64 (i344 : Int))]) (L' := [imm (TR.sl (TR.pair TR.int (TR.pair (TR.sl TR.int) (TR.sl TR.int)))) v1 x1, own 24 (TR.sl TR.int) v9 l8, own 24 (TR.sl TR.int) v11 l10, own 3 TR.int v303 y301.1, own2 24 3 TR.int v304 V327 l326]) (fun _ _ st => st) ?_
  refine GL.seq ?_
  refine GL.region ?_
  refine RL.binI (v := .bool (decide ((i344 : Int) < ((y301.2.1).length : Int)))) rfl rfl rfl rfl rfl ?_
  refine RL.finG ?_
  refine GL.seq ?_
  refine GL.cond rfl (fun b352 => ?_) (fun b352 => ?_)
  ·have h353 : i344 < (y301.2.1).length := by have := of_decide_eq_true b352; omega
   obtain ⟨r354, hr⟩ : ∃ m, r345 = m + 1 := ⟨r345 - 1, by omega⟩
   subst hr
   obtain ⟨z346, h347, h348⟩ := rangeN_some h349
   unfold pk_TreesOwn_b2 at h347
   try dsimp only at h347
   refine GL.skip ?_
   refine GL.seq ?_
   refine GL.block ?_
   refine GL.seq ?_
   refine GL.region ?_
   refine RL.mv rfl rfl rfl ?_
   obtain ⟨y357, e358, h347⟩ := bind_some h347
   refine RL.idxR 4 Try.underlying37 Try_ln24 rfl rfl rfl rfl rfl (idx_some e358).1 (idx_some e358).2.1 ?_
   refine RL.ldR (i := i344) (r := y357) 4 Try_ln24 rfl rfl rfl rfl (idx_some e358).2.2 ?_
   refine RL.asg rfl rfl rfl ?_
   refine RL.asg rfl rfl rfl ?_
   refine RL.finG ?_
   refine GL.region ?_
   refine RL.mv rfl rfl rfl ?_
   refine RL.mv rfl rfl rfl ?_
   refine RL.binI (v := .int .i64 (wsub (-7 : Int) (i344 : Int))) rfl rfl rfl rfl rfl ?_
   refine RL.weak (fun a w st => st.takeRow 4 rfl (idx_some e358).2.2) ?_
   refine RL.reL (L' := [imm (TR.sl (TR.pair TR.int (TR.pair (TR.sl TR.int) (TR.sl TR.int)))) v1 x1, own 24 (TR.sl TR.int) v9 l8, own 24 (TR.sl TR.int) v11 l10, own 3 TR.int v303 y301.1, own2x i344 24 3 TR.int v304 V327 l326, own 3 TR.int (rowv V327 i344) y357]) rfl ?_
   obtain ⟨y361, e362, h347⟩ := bind_some h347
   refine RL.callK (vs := [rowv V327 i344, .int .i64 (wsub (-7 : Int) (i344 : Int))]) (V := fun (o : Unit) => .tuple #[]) (LR := fun (o : Unit) => [own 3 TR.int (rowv V327 i344) y361]) (Ls := [own 3 TR.int (rowv V327 i344) y357]) [5] (by decide) Try_fit21 rfl rfl rfl rfl rfl rfl (fun S f X w hO hB hW hI hL => pk_spoil_int_c _ S X f w _ _  hO hB hI (wsub (-7 : Int) (i344 : Int)) _ e362) ?_
   intro _
   refine RL.weak (fun a w st => st.putRow 4 6 (by decide) rfl rfl (idx_some e358).2.2) ?_
   refine RL.reL (L' := [imm (TR.sl (TR.pair TR.int (TR.pair (TR.sl TR.int) (TR.sl TR.int)))) v1 x1, own 24 (TR.sl TR.int) v9 l8, own 24 (TR.sl TR.int) v11 l10, own 3 TR.int v303 y301.1, own2 24 3 TR.int v304 V327 (List.set l326 i344 y361), gone, gone]) rfl ?_
   refine RL.finG ?_
   refine GL.nilB ?_
   refine GL.region ?_
   refine RL.binI (v := .int .i64 ((i344 + 1 : Nat) : Int)) rfl rfl rfl rfl (binI_succ i344 (by omega)) ?_
   refine RL.mv rfl rfl rfl ?_
   refine RL.fin ?_
   cases h347
   exact fun a w st => lop_intro (i344 + 1, r354, (List.set l326 i344 y361), V327) ⟨by show i344 + 1 + r354 = (y301.2.1).length; omega, h348⟩ (by simp) (St.cut [0, 1, 2, 3, 4] ⟨rfl, rfl, rfl, rfl, rfl, rfl, rfl, rfl, rfl, rfl, trivial⟩ (by decide) rfl st)
  have h353 : ¬ i344 < (y301.2.1).length := by have := of_decide_eq_false b352; omega
  obtain rfl : r345 = 0 := by omega
  replace h349 : some (Fl.nx _) = some y337 := h349
  cases h349
  exact GL.exit (fun a w st => mid_intro (l326, V327) h340 (St.cut [0, 1, 2, 3, 4] ⟨rfl, rfl, rfl, rfl, rfl, rfl, rfl, trivial⟩ (by decide) rfl st))
 rintro ⟨l326, V327⟩ h363
 have h364 := h341 _ h363
 try dsimp only at h364
 refine GL.weak (env' := [(0, .int .i64 x0), (1, v1), (5, v9), (6, v11), (9, v303), (10, v304), (11, .int .i64 y301.2.2)]) (L' := [imm (TR.sl (TR.pair TR.int (TR.pair (TR.sl TR.int) (TR.sl TR.int)))) v1 x1, own 24 (TR.sl TR.int) v9 l8, own 24 (TR.sl TR.int) v11 l10, own 3 TR.int v303 y301.1, own2 24 3 TR.int v304 V327 l326]) (fun _ _ st => st) ?_
 refine GL.seq ?_
 refine GL.region ?_
 refine RL.mv rfl rfl rfl ?_
 obtain ⟨y367, e368, h364⟩ := bind_some h364
 refine RL.callK (vs := [v303, .int .i64 (-7 : Int)]) (V := fun (o : Unit) => .tuple #[]) (LR := fun (o : Unit) => [own 3 TR.int v303 y367]) (Ls := [own 3 TR.int v303 y301.1]) [3] (by decide) Try_fit21 rfl rfl rfl rfl rfl rfl (fun S f X w hO hB hW hI hL => pk_spoil_int_c _ S X f w _ _  hO hB hI (-7 : Int) _ e368) ?_
 intro _
 refine RL.reL (L' := [imm (TR.sl (TR.pair TR.int (TR.pair (TR.sl TR.int) (TR.sl TR.int)))) v1 x1, own 24 (TR.sl TR.int) v9 l8, own 24 (TR.sl TR.int) v11 l10, gone, own2 24 3 TR.int v304 V327 l326, own 3 TR.int v303 y367]) rfl ?_
 refine RL.finG ?_
 refine GL.seq ?_
 refine GL.seq ?_
 refine GL.region ?_
 refine RL.mv rfl rfl rfl ?_
 refine RL.lenS 0 Try.underlying33 rfl rfl rfl rfl SlOf.imm ?_
 refine RL.mv rfl rfl rfl ?_
 refine RL.finG ?_
 refine GL.open_ 0 rfl (fun S h => len_imm S h) (fun n427 => ?_)
 obtain ⟨y428, K429, h430, h431, h432, h433, h434⟩ := bindR_K h364
 refine GL.join (ι := Unit) (fun (p : Unit) => [(0, .int .i64 x0), (1, v1), (10, v304), (11, .int .i64 y301.2.2)]) (fun (p : Unit) => [imm (TR.sl (TR.pair TR.int (TR.pair (TR.sl TR.int) (TR.sl TR.int)))) v1 x1, own2 24 3 TR.int v304 V327 l326]) (fun (p : Unit) => K429 (.nx ())) ?_ ?_
 ·refine GL.block ?_
  refine GL.loop (ι := Nat × (List (Int × ((List Int) × (List Int))))) (fun (p : Nat × (List (Int × ((List Int) × (List Int))))) => [(0, .int .i64 x0), (1, v1), (5, v9), (6, v11), (10, v304), (11, .int .i64 y301.2.2), (76, v1), (77, .int .i64 ((x1).length : Int)), (78, .int .i64 (p.1 : Int))]) (fun (p : Nat × (List (Int × ((List Int) × (List Int))))) => [imm (TR.sl (TR.pair TR.int (TR.pair (TR.sl TR.int) (TR.sl TR.int)))) v1 x1, own 24 (TR.sl TR.int) v9 l8, own 24 (TR.sl TR.int) v11 l10, own2 24 3 TR.int v304 V327 l326]) (fun (p : Nat × (List (Int × ((List Int) × (List Int))))) => p.1 + p.2.length = (x1).length ∧ List.drop p.1 x1 = p.2 ∧ rangeL (pk_TreesOwn_b3 l8 l10) p.2 p.1 () = some y428) (fun (p : Nat × (List (Int × ((List Int) × (List Int))))) => p.2.length) (0, x1) ⟨by simp, by simp, h430⟩ (fun a w st => St.cut [0, 1, 2, 4] ⟨rfl, rfl, rfl, rfl, rfl, rfl, rfl, rfl, rfl, trivial⟩ (by decide) rfl st) ?_
  rintro ⟨i435, r436⟩ ⟨h441, h442, h440⟩
  try dsimp only at h441 h442 h440
  refine GL.weak (env' := [(0, .int .i64 x0), (1, v1), (5, v9), (6, v11), (10, v304), (11, .int .i64 y301.2.2), (76, v1), (77, .int .i64 ((x1).length : Int)), (78, .int .i64 (i435 : Int))]) (L' := [imm (TR.sl (TR.pair TR.int (TR.pair (TR.sl TR.int) (TR.sl TR.int)))) v1 x1, own 24 (TR.sl TR.int) v9 l8, own 24 (TR.sl TR.int) v11 l10, own2 24 3 TR.int v304 V327 l326]) (fun _ _ st => st) ?_
  refine GL.seq ?_
  refine GL.region ?_
  refine RL.binI (v := .bool (decide ((i435 : Int) < ((x1).length : Int)))) rfl rfl rfl rfl rfl ?_
  refine RL.finG ?_
  refine GL.seq ?_
  refine GL.cond rfl (fun b443 => ?_) (fun b443 => ?_)
  ·have h444 : i435 < (x1).length := by have := of_decide_eq_true b443; omega
   obtain ⟨y445, r447, hr, e446, h448⟩ := drop_cons h442 rfl h444
   subst hr
   obtain ⟨z437, h438, h439⟩ := rangeL_some h440
   unfold pk_TreesOwn_b3 at h438
   try dsimp only at h438
   refine GL.skip ?_
   refine GL.seq ?_
   refine GL.block ?_
   refine GL.seq ?_
   refine GL.region ?_
   refine RL.mv rfl rfl rfl ?_
   refine RL.idxS (sz := 3) 0 Try.underlying33 Try_ln36 rfl rfl rfl rfl rfl SlOf.imm (by omega) (by omega) ?_
   refine RL.ldS (i := i435) (r := (TR.pair TR.int (TR.pair (TR.sl TR.int) (TR.sl TR.int)))) (e' := y445) 0 Try_ln36 rfl rfl rfl rfl SlOf.imm e446 Part.self ?_
   intro v451
   refine RL.alloc (t := (TR.pair TR.int (TR.pair (TR.sl TR.int) (TR.sl TR.int)))) (z := ((0 : Int), ([] : (List Int)), ([] : (List Int)))) Try_lo36 (fun S => ⟨[.int .i64 0], _, rfl, rfl, ⟨[.slice none 0 0], _, rfl, ⟨_, [], rfl, ⟨none, 0, rfl, Nat.le_refl _, Nat.zero_le _, Or.inl ⟨rfl, rfl⟩⟩, rfl⟩, ⟨_, [], rfl, ⟨none, 0, rfl, Nat.le_refl _, Nat.zero_le _, Or.inl ⟨rfl, rfl⟩⟩, rfl⟩⟩⟩) rfl rfl rfl ?_
   intro v452
   refine RL.reL (L' := [imm (TR.sl (TR.pair TR.int (TR.pair (TR.sl TR.int) (TR.sl TR.int)))) v1 x1, own 24 (TR.sl TR.int) v9 l8, own 24 (TR.sl TR.int) v11 l10, own2 24 3 TR.int v304 V327 l326, imm (TR.pair TR.int (TR.pair (TR.sl TR.int) (TR.sl TR.int))) v451 y445, obox 36 (TR.pair TR.int (TR.pair (TR.sl TR.int) (TR.sl TR.int))) v452 ((0 : Int), ([] : (List Int)), ([] : (List Int)))]) rfl ?_
   refine RL.asg rfl rfl rfl ?_
   refine RL.stP (off := 0) (e' := y445) (d1 := y445) (r := (TR.pair TR.int (TR.pair (TR.sl TR.int) (TR.sl TR.int)))) 5 Try_ln36 rfl rfl (Or.inr ⟨rfl, rfl⟩) rfl (VR.item 4 rfl) rfl Upd.self ?_
   refine RL.finG ?_
   refine GL.seq ?_
   obtain ⟨y480, K481, h482, h483, h484, h485, h486⟩ := bindF_K h438
   refine GL.join (ι := Bool) (fun (p : Bool) => [(0, .int .i64 x0), (1, v1), (5, v9), (6, v11), (10, v304), (11, .int .i64 y301.2.2), (76, v1), (77, .int .i64 ((x1).length : Int)), (78, .int .i64 (i435 : Int)), (100, .bool p)]) (fun (p : Bool) => [imm (TR.sl (TR.pair TR.int (TR.pair (TR.sl TR.int) (TR.sl TR.int)))) v1 x1, own 24 (TR.sl TR.int) v9 l8, own 24 (TR.sl TR.int) v11 l10, own2 24 3 TR.int v304 V327 l326]) (fun (p : Bool) => K481 (.nx p)) ?_ ?_
   ·skip
    refine GL.regionQ rfl rfl (by kernel_rfl) ?_
    refine RL.fadr (off := 0) (fo := 1) 5 Try_fld36_1 rfl rfl rfl PtOf.obox (Or.inr ⟨rfl, rfl⟩) ?_
    refine RL.ldP (off := (0 + 1)) (r := (TR.sl TR.int)) (e' := y445.2.1) 5 Try_ln24 rfl rfl (Or.inl rfl) rfl PtOf.obox (Part.snd (Part.fst Part.self)) ?_
    intro v487
    refine RL.reL (L' := [imm (TR.sl (TR.pair TR.int (TR.pair (TR.sl TR.int) (TR.sl TR.int)))) v1 x1, own 24 (TR.sl TR.int) v9 l8, own 24 (TR.sl TR.int) v11 l10, own2 24 3 TR.int v304 V327 l326, imm (TR.pair TR.int (TR.pair (TR.sl TR.int) (TR.sl TR.int))) v451 y445, obox 36 (TR.pair TR.int (TR.pair (TR.sl TR.int) (TR.sl TR.int))) v452 y445, imm (TR.sl TR.int) v487 y445.2.1]) rfl ?_
    refine RL.mv rfl rfl rfl ?_
    refine RL.mv rfl rfl rfl ?_
    obtain ⟨y488, e489, h482⟩ := bind_some h482
    refine RL.idxS (sz := 1) 1 Try.underlying37 Try_ln24 rfl rfl rfl rfl rfl SlOf.own (idx_some e489).1 (idx_some e489).2.1 ?_
    refine RL.ldS (i := i435) (r := (TR.sl TR.int)) (e' := y488) 1 Try_ln24 rfl rfl rfl rfl SlOf.own (idx_some e489).2.2 Part.self ?_
    intro v490
    obtain ⟨y491, e492, h482⟩ := bind_some h482
    refine RL.callV (v := .bool y491) (vs := [v487, v490]) Try_fit22 rfl (Or.inr ⟨_, rfl⟩) rfl rfl rfl rfl (fun U w hU hW hL => slices_Equal_int_int_c U w hU _ _ (hL 6 _ _ rfl Seen.imm) _ _ (hL 7 _ _ rfl Seen.imm) _ e492) ?_
    refine RL.notB rfl rfl rfl ?_
    refine RL.mv rfl rfl rfl ?_
    refine RL.split (t := 91) rfl (fun b493 => ?_) (fun b493 => ?_)
    ·replace h482 := ite_t b493 h482
     refine RL.skip rfl rfl ?_
     refine RL.skip rfl rfl ?_
     refine RL.skip rfl rfl ?_
     refine RL.skip rfl rfl ?_
     refine RL.skip rfl rfl ?_
     refine RL.skip rfl rfl ?_
     refine RL.skip rfl rfl ?_
     refine RL.skip rfl rfl ?_
     refine RL.pickT rfl rfl rfl rfl ?_
     refine RL.finQ ?_
     cases h482
     exact fun a w st => mid_intro true h483 (St.cut [0, 1, 2, 3] ⟨rfl, rfl, rfl, rfl, rfl, rfl, rfl, rfl, rfl, rfl, trivial⟩ (by decide) rfl st)
    replace h482 := ite_f b493 h482
    refine RL.fadr (off := 0) (fo := 2) 5 Try_fld36_2 rfl rfl rfl PtOf.obox (Or.inr ⟨rfl, rfl⟩) ?_
    refine RL.ldP (off := (0 + 2)) (r := (TR.sl TR.int)) (e' := y445.2.2) 5 Try_ln24 rfl rfl (Or.inl rfl) rfl PtOf.obox (Part.snd (Part.snd Part.self)) ?_
    intro v494
    refine RL.reL (L' := [imm (TR.sl (TR.pair TR.int (TR.pair (TR.sl TR.int) (TR.sl TR.int)))) v1 x1, own 24 (TR.sl TR.int) v9 l8, own 24 (TR.sl TR.int) v11 l10, own2 24 3 TR.int v304 V327 l326, imm (TR.pair TR.int (TR.pair (TR.sl TR.int) (TR.sl TR.int))) v451 y445, obox 36 (TR.pair TR.int (TR.pair (TR.sl TR.int) (TR.sl TR.int))) v452 y445, imm (TR.sl TR.int) v487 y445.2.1, imm (TR.sl TR.int) v490 y488, imm (TR.sl TR.int) v494 y445.2.2]) rfl ?_
    refine RL.mv rfl rfl rfl ?_
    refine RL.mv rfl rfl rfl ?_
    obtain ⟨y495, e496, h482⟩ := bind_some h482
    refine RL.idxS (sz := 1) 2 Try.underlying37 Try_ln24 rfl rfl rfl rfl rfl SlOf.own (idx_some e496).1 (idx_some e496).2.1 ?_
    refine RL.ldS (i := i435) (r := (TR.sl TR.int)) (e' := y495) 2 Try_ln24 rfl rfl rfl rfl SlOf.own (idx_some e496).2.2 Part.self ?_
    intro v497
    obtain ⟨y498, e499, h482⟩ := bind_some h482
    refine RL.callV (v := .bool y498) (vs := [v494, v497]) Try_fit22 rfl (Or.inr ⟨_, rfl⟩) rfl rfl rfl rfl (fun U w hU hW hL => slices_Equal_int_int_c U w hU _ _ (hL 8 _ _ rfl Seen.imm) _ _ (hL 9 _ _ rfl Seen.imm) _ e499) ?_
    refine RL.notB rfl rfl rfl ?_
    refine RL.pickF rfl rfl rfl rfl ?_
    refine RL.finQ ?_
    cases h482
    exact fun a w st => mid_intro (!y498) h483 (St.cut [0, 1, 2, 3] ⟨rfl, rfl, rfl, rfl, rfl, rfl, rfl, rfl, rfl, rfl, trivial⟩ (by decide) rfl st)
   rintro x479 h500
   have h501 := h484 _ h500
   try dsimp only at h501
   refine GL.weak (env' := [(0, .int .i64 x0), (1, v1), (5, v9), (6, v11), (10, v304), (11, .int .i64 y301.2.2), (76, v1), (77, .int .i64 ((x1).length : Int)), (78, .int .i64 (i435 : Int)), (100, .bool x479)]) (L' := [imm (TR.sl (TR.pair TR.int (TR.pair (TR.sl TR.int) (TR.sl TR.int)))) v1 x1, own 24 (TR.sl TR.int) v9 l8, own 24 (TR.sl TR.int) v11 l10, own2 24 3 TR.int v304 V327 l326]) (fun _ _ st => st) ?_
   refine GL.cond rfl (fun b502 => ?_) (fun b502 => ?_)
   ·replace h501 := ite_t b502 h501
    refine GL.seq ?_
    refine GL.region ?_
    refine RL.asg rfl rfl rfl ?_
    refine RL.finG ?_
    cases h501
    replace h439 : some (Fl.rt _) = some y428 := h439
    cases h439
    have hh := h433 _ h431
    subst hh
    exact GL.ret (Gx.ret (v := .bool false) (res1 rfl rfl) (fun a w st => st.toPostV))
   replace h501 := ite_f b502 h501
   refine GL.skip ?_
   refine GL.nilB ?_
   refine GL.region ?_
   refine RL.binI (v := .int .i64 ((i435 + 1 : Nat) : Int)) rfl rfl rfl rfl (binI_succ i435 (by omega)) ?_
   refine RL.mv rfl rfl rfl ?_
   refine RL.fin ?_
   cases h501
   exact fun a w st => lop_intro (i435 + 1, r447) ⟨by show i435 + 1 + r447.length = (x1).length; simp only [List.length_cons] at h441; omega, h448, h439⟩ (by simp) (St.cut [0, 1, 2, 3] ⟨rfl, rfl, rfl, rfl, rfl, rfl, rfl, rfl, rfl, trivial⟩ (by decide) rfl st)
  have h444 : ¬ i435 < (x1).length := by have := of_decide_eq_false b443; omega
  obtain rfl : r436 = [] := by rw [← h442]; exact List.drop_of_length_le (by omega)
  replace h440 : some (Fl.nx _) = some y428 := h440
  cases h440
  exact GL.exit (fun a w st => mid_intro () h431 (St.cut [0, 3] ⟨rfl, rfl, rfl, rfl, trivial⟩ (by decide) rfl st))
 rintro ⟨⟩ h503
 have h504 := h432 _ h503
 try dsimp only at h504
 refine GL.weak (env' := [(0, .int .i64 x0), (1, v1), (10, v304), (11, .int .i64 y301.2.2)]) (L' := [imm (TR.sl (TR.pair TR.int (TR.pair (TR.sl TR.int) (TR.sl TR.int)))) v1 x1, own2 24 3 TR.int v304 V327 l326]) (fun _ _ st => st) ?_
 refine GL.seq ?_
 refine GL.region ?_
 refine RL.mv rfl rfl rfl ?_
 refine RL.mv rfl rfl rfl ?_
 obtain ⟨y510, e511, h504⟩ := bind_some h504
 refine RL.call (vs := [.int .i64 x0, v1]) Try_fit17 rfl rfl rfl rfl rfl (fun S f w hS hW hi => tree_Solve_c S w hS x0 _ _ (hi 0 _ rfl) _ e511) ?_
 intro ⟨v512, v513, V514⟩
 refine RL.mv rfl rfl rfl ?_
 refine RL.ext rfl rfl rfl rfl ?_
 refine RL.ext rfl rfl rfl rfl ?_
 refine RL.ext rfl rfl rfl rfl ?_
 refine RL.asg rfl rfl rfl ?_
 refine RL.asg rfl rfl rfl ?_
 refine RL.asg rfl rfl rfl ?_
 refine RL.finG ?_
 refine GL.seq ?_
 refine GL.seq ?_
 refine GL.region ?_
 refine RL.mv rfl rfl rfl ?_
 refine RL.lenR 1 Try.underlying37 rfl rfl rfl rfl ?_
 refine RL.mv rfl rfl rfl ?_
 refine RL.finG ?_
 refine GL.lenR 1 rfl (fun n526 => ?_)
 obtain ⟨y527, K528, h529, h530, h531, h532, h533⟩ := bindR_K h504
 refine GL.join (ι := Unit) (fun (p : Unit) => [(11, .int .i64 y301.2.2), (19, v512), (21, .int .i64 y510.2.2)]) (fun (p : Unit) => [own 3 TR.int v512 y510.1]) (fun (p : Unit) => K528 (.nx ())) ?_ ?_
 ·refine GL.block ?_
  refine GL.loop (ι := Nat × Nat) (fun (p : Nat × Nat) => [(11, .int .i64 y301.2.2), (19, v512), (21, .int .i64 y510.2.2), (109, v304), (110, .int .i64 ((l326).length : Int)), (111, .int .i64 (p.1 : Int))]) (fun (p : Nat × Nat) => [own 3 TR.int v512 y510.1, own2 24 3 TR.int v304 V327 l326]) (fun (p : Nat × Nat) => p.1 + p.2 = (l326).length ∧ rangeN (pk_TreesOwn_b4 l326) p.2 p.1 () = some y527) (fun (p : Nat × Nat) => p.2) (0, (l326).length) ⟨by simp, h529⟩ (fun a w st => St.cut [2, 1] ⟨rfl, rfl, rfl, rfl, rfl, rfl, trivial⟩ (by decide) rfl st) ?_
  rintro ⟨i534, r535⟩ ⟨h540, h539⟩
  try dsimp only at h540 h539
  refine GL.weak (env' := [(11, .int .i64 y301.2.2), (19, v512), (21, .int .i64 y510.2.2), (109, v304), (110, .int .i64 ((l326).length : Int)), (111, .int .i64 (i534 : Int))]) (L' := [own 3 TR.int v512 y510.1, own2 24 3 TR.int v304 V327 l326]) (fun _ _ st => st) ?_
  refine GL.seq ?_
  refine GL.region ?_
  refine RL.binI (v := .bool (decide ((i534 : Int) < ((l326).length : Int)))) rfl rfl rfl rfl rfl ?_
  refine RL.finG ?_
  refine GL.seq ?_
  refine GL.cond rfl (fun b542 => ?_) (fun b542 => ?_)
  ·have h543 : i534 < (l326).length := by have := of_decide_eq_true b542; omega
   obtain ⟨r544, hr⟩ : ∃ m, r535 = m + 1 := ⟨r535 - 1, by omega⟩
   subst hr
   obtain ⟨z536, h537, h538⟩ := rangeN_some h539
   unfold pk_TreesOwn_b4 at h537
   try dsimp only at h537
   refine GL.skip ?_
   refine GL.seq ?_
   refine GL.block ?_
   refine GL.seq ?_
   refine GL.region ?_
   refine RL.mv rfl rfl rfl ?_
   obtain ⟨y548, e549, h537⟩ := bind_some h537
   refine RL.idxR 1 Try.underlying37 Try_ln24 rfl rfl rfl rfl rfl (idx_some e549).1 (idx_some e549).2.1 ?_
   refine RL.ldR (i := i534) (r := y548) 1 Try_ln24 rfl rfl rfl rfl (idx_some e549).2.2 ?_
   refine RL.alloc (t := TR.int) (z := (0 : Int)) Try_lo3 (fun S => rfl) rfl rfl rfl ?_
   intro v550
   refine RL.stP (off := 0) (e' := (i534 : Int)) (d1 := (i534 : Int)) (r := TR.int) 2 Try_ln3 rfl rfl (Or.inr ⟨rfl, rfl⟩) rfl VR.int rfl Upd.self ?_
   refine RL.reL (L' := [own 3 TR.int v512 y510.1, own2 24 3 TR.int v304 V327 l326, obox 3 TR.int v550 (i534 : Int)]) rfl ?_
   refine RL.asg rfl rfl rfl ?_
   refine RL.finG ?_
   refine GL.seq ?_
   refine GL.region ?_
   refine RL.mv rfl rfl rfl ?_
   refine RL.mkF (vs := [v550]) rfl rfl rfl ?_
   obtain ⟨y553, e554, h537⟩ := bind_some h537
   refine RL.callV (v := .bool y553) (vs := [rowv V327 i534, .func (.func 24) #[] #[v550]]) Try_fit23 rfl (Or.inl rfl) rfl rfl rfl rfl (fun U w hU hW hL => slices_ContainsFunc_int_int_c U w hU _ _ (hL 1 _ _ rfl (Seen.row (idx_some e549).2.2)) 24 #[v550] Try_fit24 (fun a0 => pk_TreesOwn_1_m a0 (i534 : Int)) (fun U' w' hle hU' a0 rr hr => (pk_TreesOwn_1_c U' w' hU' a0 _ _ (TR.vrep_mono hle (hL 2 _ _ rfl Seen.obox)) rr hr).mono (fun _ _ z => z.toV)) _ e554) ?_
   refine RL.finG ?_
   refine GL.cond rfl (fun b555 => ?_) (fun b555 => ?_)
   ·replace h537 := ite_t b555 h537
    refine GL.seq ?_
    refine GL.region ?_
    refine RL.asg rfl rfl rfl ?_
    refine RL.finG ?_
    cases h537
    replace h538 : some (Fl.rt _) = some y527 := h538
    cases h538
    have hh := h532 _ h530
    subst hh
    exact GL.ret (Gx.ret (v := .bool false) (res1 rfl rfl) (fun a w st => st.toPostV))
   replace h537 := ite_f b555 h537
   refine GL.skip ?_
   refine GL.nilB ?_
   refine GL.region ?_
   refine RL.binI (v := .int .i64 ((i534 + 1 : Nat) : Int)) rfl rfl rfl rfl (binI_succ i534 (by omega)) ?_
   refine RL.mv rfl rfl rfl ?_
   refine RL.fin ?_
   cases h537
   exact fun a w st => lop_intro (i534 + 1, r544) ⟨by show i534 + 1 + r544 = (l326).length; omega, h538⟩ (by simp) (St.cut [0, 1] ⟨rfl, rfl, rfl, rfl, rfl, rfl, trivial⟩ (by decide) rfl st)
  have h543 : ¬ i534 < (l326).length := by have := of_decide_eq_false b542; omega
  obtain rfl : r535 = 0 := by omega
  replace h539 : some (Fl.nx _) = some y527 := h539
  cases h539
  exact GL.exit (fun a w st => mid_intro () h530 (St.cut [0] ⟨rfl, rfl, rfl, trivial⟩ (by decide) rfl st))
 rintro ⟨⟩ h556
 have h557 := h531 _ h556
 try dsimp only at h557
 refine GL.weak (env' := [(11, .int .i64 y301.2.2), (19, v512), (21, .int .i64 y510.2.2)]) (L' := [own 3 TR.int v512 y510.1]) (fun _ _ st => st) ?_
 refine GL.seq ?_
 obtain ⟨y565, K566, h567, h568, h569, h570, h571⟩ := bindR_K h557
 refine GL.join (ι := Bool) (fun (p : Bool) => [(4, .bool p)]) (fun (p : Bool) => []) (fun (p : Bool) => K566 (.nx p)) ?_ ?_
 ·skip
  refine GL.region ?_
  refine RL.mv rfl rfl rfl ?_
  refine RL.mv rfl rfl rfl ?_
  refine RL.binI (v := .bool (y301.2.2 == y510.2.2)) rfl rfl rfl rfl rfl ?_
  refine RL.mv rfl rfl rfl ?_
  refine RL.split (t := 123) rfl (fun b572 => ?_) (fun b572 => ?_)
  ·replace h567 := ite_t b572 h567
   refine RL.mv rfl rfl rfl ?_
   obtain ⟨y573, e574, h567⟩ := bind_some h567
   refine RL.callC (v := .bool y573) (vs := [v512, .int .i64 (-7 : Int)]) Try_fit25 rfl rfl rfl rfl (fun U w hU hW hL => slices_Contains_int_int_c U w hU _ _ (hL 0 _ _ rfl Seen.own) (-7 : Int) _ e574) ?_
   refine RL.notB rfl rfl rfl ?_
   refine RL.pickT rfl rfl rfl rfl ?_
   refine RL.asg rfl rfl rfl ?_
   refine RL.fin ?_
   cases h567
   exact fun a w st => mid_intro (!y573) h568 (St.cut [] ⟨rfl, trivial⟩ (by decide) rfl st)
  replace h567 := ite_f b572 h567
  refine RL.skip rfl rfl ?_
  refine RL.skip rfl rfl ?_
  refine RL.skip rfl rfl ?_
  refine RL.pickF rfl rfl rfl rfl ?_
  refine RL.asg rfl rfl rfl ?_
  refine RL.fin ?_
  cases h567
  exact fun a w st => mid_intro false h568 (St.cut [] ⟨rfl, trivial⟩ (by decide) rfl st)
 rintro x564 h575
 have h576 := h569 _ h575
 try dsimp only at h576
 refine GL.weak (env' := [(4, .bool x564)]) (L' := []) (fun _ _ st => st) ?_
 have h576 := Option.some.inj h576
 subst h576
 exact GL.ret (Gx.ret (v := .bool x564) (res1 rfl rfl) (fun a w st => st.toPostV))
end Go.Wk
