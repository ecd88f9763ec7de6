/- Each function comes to what its model says; printed by a program of this repository. -/
import Derived.Test.YtnkhelpadbickaaProg
import Derived.Test.YtnkhelpadbickaaWTreeZermeloModels
namespace Go.Wk
open Go.Fw Go.Mo Go.Proofs Go.RowKit
set_option linter.unusedVariables false
set_option maxRecDepth 100000
theorem loopNx {ρ σ β γ : Type} {body : σ → Option (Fl ρ β σ)} {n : Nat} {s : σ} {y : Fl ρ γ β} (h : stepM body n (.nx s) = some y) : loopM body n s = some y := h
theorem Try_info3 : (Try.prog.info? 3).map (fun i => (i.zero, i.size, i.bytes)) = some (some (.int .i64 0), 1, 8) := by kernel_rfl
theorem Try_ln3 : Ln Try.prog 3 1 false := Ln.of Try_info3 Try.underlying3 rfl
theorem Try_lo3 : LnO Try.prog 3 1 [.int .i64 0] := LnO.of Try_info3 rfl rfl (by decide) (by decide)
theorem Try_info24 : (Try.prog.info? 24).map (fun i => (i.zero, i.size, i.bytes)) = some (some (.slice none 0 0), 1, 24) := by kernel_rfl
theorem Try_ln24 : Ln Try.prog 24 1 false := Ln.of Try_info24 Try.underlying24 rfl
theorem Try_lo24 : LnO Try.prog 24 1 [.slice none 0 0] := LnO.of Try_info24 rfl rfl (by decide) (by decide)
theorem Try_info26 : (Try.prog.info? 26).map (fun i => (i.zero, i.size, i.bytes)) = some (some (.int .i64 0), 1, 8) := by kernel_rfl
theorem Try_ln26 : Ln Try.prog 26 1 false := Ln.of Try_info26 Try.underlying26 rfl
theorem Try_lo26 : LnO Try.prog 26 1 [.int .i64 0] := LnO.of Try_info26 rfl rfl (by decide) (by decide)
theorem Try_info31 : (Try.prog.info? 31).map (fun i => (i.zero, i.size, i.bytes)) = some (some (.agg #[.int .i64 0, .slice none 0 0, .slice none 0 0]), 3, 56) := by kernel_rfl
theorem Try_ln31 : Ln Try.prog 31 3 true := Ln.of Try_info31 Try.underlying31 rfl
theorem Try_lo31 : LnO Try.prog 31 3 [.int .i64 0, .slice none 0 0, .slice none 0 0] := LnO.of Try_info31 rfl rfl (by decide) (by decide)
theorem Try_bld31 (pv : List (Nat × Value)) : Try.prog.built 31 pv = Instr.fill ((mkPlaces 0 [[.int .i64 0], [.slice none 0 0], [.slice none 0 0]]).toArray[·]?) (List.flatten [[.int .i64 0], [.slice none 0 0], [.slice none 0 0]]).toArray pv := by kernel_rfl
theorem Try_fit15 : Fit Try.prog 15 := Fit.of Try.func15 (by kernel_rfl) rfl
theorem Try_fit16 : Fit Try.prog 16 := Fit.of Try.func16 (by kernel_rfl) rfl
theorem Try_fit17 : Fit Try.prog 17 := Fit.of Try.func17 (by kernel_rfl) rfl
theorem Try_fit18 : Fit Try.prog 18 := Fit.of Try.func18 (by kernel_rfl) rfl
theorem Try_fit19 : Fit Try.prog 19 := Fit.of Try.func19 (by kernel_rfl) rfl
theorem Try_fit21 : Fit Try.prog 21 := Fit.of Try.func21 (by kernel_rfl) rfl
theorem Try_fit26 : Fit Try.prog 26 := Fit.of Try.func26 (by kernel_rfl) rfl
theorem Try_fit27 : Fit Try.prog 27 := Fit.of Try.func27 (by kernel_rfl) rfl
theorem Try_fit42 : Fit Try.prog 42 := Fit.of Try.func42 (by kernel_rfl) rfl
theorem Try_fit43 : Fit Try.prog 43 := Fit.of Try.func43 (by kernel_rfl) rfl
theorem Try_fit46 : Fit Try.prog 46 := Fit.of Try.func46 (by kernel_rfl) rfl
theorem Try_fit47 : Fit Try.prog 47 := Fit.of Try.func47 (by kernel_rfl) rfl
theorem Try_fit55 : Fit Try.prog 55 := Fit.of Try.func55 (by kernel_rfl) rfl
theorem Try_fld31_0 (ad : Addr) (w : World) : (Instr.fieldAt 31 (.pointer (some ad)) 0).run Try.prog w = .ok (.pointer (some (ad.add 0))) w := by
  simp [Instr.fieldAt, run_underlying Try.underlying31, Instr.sureAddr, fieldPlace, Fw.run_sizeOf Try_ln3]
theorem Try_fld31_1 (ad : Addr) (w : World) : (Instr.fieldAt 31 (.pointer (some ad)) 1).run Try.prog w = .ok (.pointer (some (ad.add 1))) w := by
  simp [Instr.fieldAt, run_underlying Try.underlying31, Instr.sureAddr, fieldPlace, Fw.run_sizeOf Try_ln24]
theorem Try_fld31_2 (ad : Addr) (w : World) : (Instr.fieldAt 31 (.pointer (some ad)) 2).run Try.prog w = .ok (.pointer (some (ad.add 2))) w := by
  simp [Instr.fieldAt, run_underlying Try.underlying31, Instr.sureAddr, fieldPlace, Fw.run_sizeOf Try_ln24]

set_option maxHeartbeats 4000000 in
theorem tree_Check_c (S : Hp) (w : World) (hS : S.sub w) (x0 : Int) (v1 : Value) (x1 : (List (Int × ((List Int) × (List Int))))) (k1 : ((TR.sl (TR.pair TR.int (TR.pair (TR.sl TR.int) (TR.sl TR.int))))).vrep S v1 x1) (res : Int) (hm : tree_Check_m x0 x1 = some res) : Calls Try.prog 42 #[.int .i64 x0, v1] w (PostV w (.int .i64 res)) := by
  refine calls_enter 103 Try.func42 Try.ntmps42 rfl S false [(0, .int .i64 x0), (1, v1)] [imm (TR.sl (TR.pair TR.int (TR.pair (TR.sl TR.int) (TR.sl TR.int)))) v1 x1] rfl ⟨rfl, ⟨rfl, trivial⟩⟩ hS ⟨k1, trivial⟩ ?_
  unfold tree_Check_m at hm
  refine GL.seq ?_
  refine GL.region ?_
  refine RL.asg rfl rfl rfl ?_
  refine RL.finG ?_
  refine GL.seq ?_
  refine GL.seq ?_
  obtain ⟨y6, K7, h8, h9, h10, h11, h12⟩ := bindR_K hm
  refine GL.join (ι := Bool) (fun (p : Bool) => [(0, .int .i64 x0), (1, v1), (16, .bool p)]) (fun (p : Bool) => [imm (TR.sl (TR.pair TR.int (TR.pair (TR.sl TR.int) (TR.sl TR.int)))) v1 x1]) (fun (p : Bool) => K7 (.nx p)) ?_ ?_
  · skip
    refine GL.region ?_
    refine RL.mv rfl rfl rfl ?_
    refine RL.binI (v := .bool (decide (x0 < (1 : Int)))) rfl rfl rfl rfl rfl ?_
    refine RL.mv rfl rfl rfl ?_
    refine RL.split (t := 13) rfl (fun b13 => ?_) (fun b13 => ?_)
    · replace h8 := ite_t b13 h8
      refine RL.skip rfl rfl ?_
      refine RL.skip rfl rfl ?_
      refine RL.pickT rfl rfl rfl rfl ?_
      refine RL.fin ?_
      cases h8
      exact fun a w st => mid_intro true h9 (St.cut [0] ⟨rfl, rfl, rfl, trivial⟩ (by decide) rfl st)
    · replace h8 := ite_f b13 h8
      refine RL.mv rfl rfl rfl ?_
      refine RL.binI (v := .bool (decide (x0 > (6 : Int)))) rfl rfl rfl rfl rfl ?_
      refine RL.pickF rfl rfl rfl rfl ?_
      refine RL.fin ?_
      cases h8
      exact fun a w st => mid_intro (decide (x0 > (6 : Int))) h9 (St.cut [0] ⟨rfl, rfl, rfl, trivial⟩ (by decide) rfl st)
  · rintro x5 h14
    have h15 := h10 _ h14
    try dsimp only at h15
    refine GL.weak (env' := [(0, .int .i64 x0), (1, v1), (16, .bool x5)]) (L' := [imm (TR.sl (TR.pair TR.int (TR.pair (TR.sl TR.int) (TR.sl TR.int)))) v1 x1]) (fun _ _ st => st) ?_
    refine GL.cond rfl (fun b16 => ?_) (fun b16 => ?_)
    · replace h15 := ite_t b16 h15
      refine GL.seq ?_
      refine GL.region ?_
      refine RL.asg rfl rfl rfl ?_
      refine RL.finG ?_
      have h15 := Option.some.inj h15
      subst h15
      exact GL.ret (Gx.ret (v := .int .i64 (1 : Int)) (res1 rfl rfl) (fun a w st => st.toPostV))
    · replace h15 := ite_f b16 h15
      refine GL.skip ?_
      refine GL.seq ?_
      refine GL.seq ?_
      obtain ⟨y20, K21, h22, h23, h24, h25, h26⟩ := bindR_K h15
      refine GL.join (ι := Bool) (fun (p : Bool) => [(0, .int .i64 x0), (1, v1), (24, .bool p)]) (fun (p : Bool) => [imm (TR.sl (TR.pair TR.int (TR.pair (TR.sl TR.int) (TR.sl TR.int)))) v1 x1]) (fun (p : Bool) => K21 (.nx p)) ?_ ?_
      · skip
        refine GL.region ?_
        refine RL.mv rfl rfl rfl ?_
        refine RL.lenS 0 Try.underlying22 rfl rfl rfl rfl SlOf.imm ?_
        refine RL.binI (v := .bool (decide (((x1).length : Int) < (1 : Int)))) rfl rfl rfl rfl rfl ?_
        refine RL.mv rfl rfl rfl ?_
        refine RL.split (t := 20) rfl (fun b27 => ?_) (fun b27 => ?_)
        · replace h22 := ite_t b27 h22
          refine RL.skip rfl rfl ?_
          refine RL.skip rfl rfl ?_
          refine RL.skip rfl rfl ?_
          refine RL.pickT rfl rfl rfl rfl ?_
          refine RL.fin ?_
          cases h22
          exact fun a w st => mid_intro true h23 (St.cut [0] ⟨rfl, rfl, rfl, trivial⟩ (by decide) rfl st)
        · replace h22 := ite_f b27 h22
          refine RL.mv rfl rfl rfl ?_
          refine RL.lenS 0 Try.underlying22 rfl rfl rfl rfl SlOf.imm ?_
          refine RL.binI (v := .bool (decide (((x1).length : Int) > (30 : Int)))) rfl rfl rfl rfl rfl ?_
          refine RL.pickF rfl rfl rfl rfl ?_
          refine RL.fin ?_
          cases h22
          exact fun a w st => mid_intro (decide (((x1).length : Int) > (30 : Int))) h23 (St.cut [0] ⟨rfl, rfl, rfl, trivial⟩ (by decide) rfl st)
      · rintro x19 h28
        have h29 := h24 _ h28
        try dsimp only at h29
        refine GL.weak (env' := [(0, .int .i64 x0), (1, v1), (24, .bool x19)]) (L' := [imm (TR.sl (TR.pair TR.int (TR.pair (TR.sl TR.int) (TR.sl TR.int)))) v1 x1]) (fun _ _ st => st) ?_
        refine GL.cond rfl (fun b30 => ?_) (fun b30 => ?_)
        · replace h29 := ite_t b30 h29
          refine GL.seq ?_
          refine GL.region ?_
          refine RL.asg rfl rfl rfl ?_
          refine RL.finG ?_
          have h29 := Option.some.inj h29
          subst h29
          exact GL.ret (Gx.ret (v := .int .i64 (2 : Int)) (res1 rfl rfl) (fun a w st => st.toPostV))
        · replace h29 := ite_f b30 h29
          refine GL.skip ?_
          refine GL.seq ?_
          refine GL.seq ?_
          refine GL.region ?_
          refine RL.mv rfl rfl rfl ?_
          refine RL.lenS 0 Try.underlying22 rfl rfl rfl rfl SlOf.imm ?_
          refine RL.mv rfl rfl rfl ?_
          refine RL.finG ?_
          refine GL.open_ 0 rfl (fun S h => len_imm S h) (fun n216 => ?_)
          obtain ⟨y217, K218, h219, h220, h221, h222, h223⟩ := bindR_K h29
          refine GL.join (ι := Unit) (fun (p : Unit) => []) (fun (p : Unit) => []) (fun (p : Unit) => K218 (.nx ())) ?_ ?_
          · refine GL.block ?_
            refine GL.loop (ι := Nat × (List (Int × ((List Int) × (List Int))))) (fun (p : Nat × (List (Int × ((List Int) × (List Int))))) => [(0, .int .i64 x0), (1, v1), (25, v1), (26, .int .i64 ((x1).length : Int)), (27, .int .i64 (p.1 : Int))]) (fun (p : Nat × (List (Int × ((List Int) × (List Int))))) => [imm (TR.sl (TR.pair TR.int (TR.pair (TR.sl TR.int) (TR.sl TR.int)))) v1 x1]) (fun (p : Nat × (List (Int × ((List Int) × (List Int))))) => p.1 + p.2.length = (x1).length ∧ List.drop p.1 x1 = p.2 ∧ rangeL (tree_Check_b1 x0 x1) p.2 p.1 () = some y217) (fun (p : Nat × (List (Int × ((List Int) × (List Int))))) => p.2.length) (0, x1) ⟨by simp, by simp, h219⟩ (fun a w st => St.cut [0] ⟨rfl, rfl, rfl, rfl, rfl, trivial⟩ (by decide) rfl st) ?_
            rintro ⟨i224, r225⟩ ⟨h230, h231, h229⟩
            try dsimp only at h230 h231 h229
            refine GL.weak (env' := [(0, .int .i64 x0), (1, v1), (25, v1), (26, .int .i64 ((x1).length : Int)), (27, .int .i64 (i224 : Int))]) (L' := [imm (TR.sl (TR.pair TR.int (TR.pair (TR.sl TR.int) (TR.sl TR.int)))) v1 x1]) (fun _ _ st => st) ?_
            refine GL.seq ?_
            refine GL.region ?_
            refine RL.binI (v := .bool (decide ((i224 : Int) < ((x1).length : Int)))) rfl rfl rfl rfl rfl ?_
            refine RL.finG ?_
            refine GL.seq ?_
            refine GL.cond rfl (fun b232 => ?_) (fun b232 => ?_)
            · have h233 : i224 < (x1).length := by have := of_decide_eq_true b232; omega
              obtain ⟨y234, r236, hr, e235, h237⟩ := drop_cons h231 rfl h233
              subst hr
              obtain ⟨z226, h227, h228⟩ := rangeL_some h229
              unfold tree_Check_b1 at h227
              try dsimp only at h227
              refine GL.skip ?_
              refine GL.seq ?_
              refine GL.block ?_
              refine GL.seq ?_
              refine GL.region ?_
              refine RL.mv rfl rfl rfl ?_
              refine RL.idxS (sz := 3) 0 Try.underlying22 Try_ln31 rfl rfl rfl rfl rfl SlOf.imm (by omega) (by omega) ?_
              refine RL.ldS (i := i224) (r := (TR.pair TR.int (TR.pair (TR.sl TR.int) (TR.sl TR.int)))) (e' := y234) 0 Try_ln31 rfl rfl rfl rfl SlOf.imm e235 Part.self ?_
              intro v240
              refine RL.alloc (t := (TR.pair TR.int (TR.pair (TR.sl TR.int) (TR.sl TR.int)))) (z := ((0 : Int), ([] : (List Int)), ([] : (List Int)))) Try_lo31 (fun S => ⟨[.int .i64 0], _, rfl, rfl, ⟨[.slice none 0 0], _, rfl, ⟨_, [], rfl, ⟨none, 0, rfl, Nat.le_refl _, Nat.zero_le _, Or.inl ⟨rfl, rfl⟩⟩, rfl⟩, ⟨_, [], rfl, ⟨none, 0, rfl, Nat.le_refl _, Nat.zero_le _, Or.inl ⟨rfl, rfl⟩⟩, rfl⟩⟩⟩) rfl rfl rfl ?_
              intro v241
              refine RL.reL (L' := [imm (TR.sl (TR.pair TR.int (TR.pair (TR.sl TR.int) (TR.sl TR.int)))) v1 x1, imm (TR.pair TR.int (TR.pair (TR.sl TR.int) (TR.sl TR.int))) v240 y234, obox 31 (TR.pair TR.int (TR.pair (TR.sl TR.int) (TR.sl TR.int))) v241 ((0 : Int), ([] : (List Int)), ([] : (List Int)))]) rfl ?_
              refine RL.asg rfl rfl rfl ?_
              refine RL.stP (off := 0) (e' := y234) (d1 := y234) (r := (TR.pair TR.int (TR.pair (TR.sl TR.int) (TR.sl TR.int)))) 2 Try_ln31 rfl rfl (Or.inr ⟨rfl, rfl⟩) rfl (VR.item 1 rfl) rfl Upd.self ?_
              refine RL.finG ?_
              refine GL.seq ?_
              refine GL.seq ?_
              obtain ⟨y245, K246, h247, h248, h249, h250, h251⟩ := bindF_K h227
              refine GL.join (ι := Bool) (fun (p : Bool) => [(0, .int .i64 x0), (1, v1), (5, .int .i64 (i224 : Int)), (6, v241), (25, v1), (26, .int .i64 ((x1).length : Int)), (27, .int .i64 (i224 : Int)), (40, .bool p)]) (fun (p : Bool) => [imm (TR.sl (TR.pair TR.int (TR.pair (TR.sl TR.int) (TR.sl TR.int)))) v1 x1, obox 31 (TR.pair TR.int (TR.pair (TR.sl TR.int) (TR.sl TR.int))) v241 y234]) (fun (p : Bool) => K246 (.nx p)) ?_ ?_
              · skip
                refine GL.region ?_
                refine RL.fadr (off := 0) (fo := 0) 2 Try_fld31_0 rfl rfl rfl PtOf.obox (Or.inr ⟨rfl, rfl⟩) ?_
                refine RL.ldPx (off := (0 + 0)) (e' := y234.1) 2 Ex.ik Try_ln3 rfl rfl (Or.inl rfl) rfl PtOf.obox (Part.fst Part.self) ?_
                refine RL.binI (v := .bool (decide (y234.1 < (-1 : Int)))) rfl rfl rfl rfl rfl ?_
                refine RL.mv rfl rfl rfl ?_
                refine RL.split (t := 35) rfl (fun b252 => ?_) (fun b252 => ?_)
                · replace h247 := ite_t b252 h247
                  refine RL.skip rfl rfl ?_
                  refine RL.skip rfl rfl ?_
                  refine RL.skip rfl rfl ?_
                  refine RL.skip rfl rfl ?_
                  refine RL.pickT rfl rfl rfl rfl ?_
                  refine RL.fin ?_
                  cases h247
                  exact fun a w st => mid_intro true h248 (St.cut [0, 2] ⟨rfl, rfl, rfl, rfl, rfl, rfl, rfl, rfl, trivial⟩ (by decide) rfl st)
                · replace h247 := ite_f b252 h247
                  refine RL.fadr (off := 0) (fo := 0) 2 Try_fld31_0 rfl rfl rfl PtOf.obox (Or.inr ⟨rfl, rfl⟩) ?_
                  refine RL.ldPx (off := (0 + 0)) (e' := y234.1) 2 Ex.ik Try_ln3 rfl rfl (Or.inl rfl) rfl PtOf.obox (Part.fst Part.self) ?_
                  refine RL.mv rfl rfl rfl ?_
                  refine RL.binI (v := .bool (decide (y234.1 ≥ x0))) rfl rfl rfl rfl rfl ?_
                  refine RL.pickF rfl rfl rfl rfl ?_
                  refine RL.fin ?_
                  cases h247
                  exact fun a w st => mid_intro (decide (y234.1 ≥ x0)) h248 (St.cut [0, 2] ⟨rfl, rfl, rfl, rfl, rfl, rfl, rfl, rfl, trivial⟩ (by decide) rfl st)
              · rintro x244 h253
                have h254 := h249 _ h253
                try dsimp only at h254
                refine GL.weak (env' := [(0, .int .i64 x0), (1, v1), (5, .int .i64 (i224 : Int)), (6, v241), (25, v1), (26, .int .i64 ((x1).length : Int)), (27, .int .i64 (i224 : Int)), (40, .bool x244)]) (L' := [imm (TR.sl (TR.pair TR.int (TR.pair (TR.sl TR.int) (TR.sl TR.int)))) v1 x1, obox 31 (TR.pair TR.int (TR.pair (TR.sl TR.int) (TR.sl TR.int))) v241 y234]) (fun _ _ st => st) ?_
                refine GL.cond rfl (fun b255 => ?_) (fun b255 => ?_)
                · replace h254 := ite_t b255 h254
                  refine GL.seq ?_
                  refine GL.region ?_
                  refine RL.asg rfl rfl rfl ?_
                  refine RL.finG ?_
                  cases h254
                  replace h228 : some (Fl.rt _) = some y217 := h228
                  cases h228
                  have hh := h222 _ h220
                  subst hh
                  exact GL.ret (Gx.ret (v := .int .i64 (1 : Int)) (res1 rfl rfl) (fun a w st => st.toPostV))
                · replace h254 := ite_f b255 h254
                  refine GL.skip ?_
                  refine GL.seq ?_
                  refine GL.seq ?_
                  refine GL.region ?_
                  refine RL.fadr (off := 0) (fo := 0) 1 Try_fld31_0 rfl rfl rfl PtOf.obox (Or.inr ⟨rfl, rfl⟩) ?_
                  refine RL.ldPx (off := (0 + 0)) (e' := y234.1) 1 Ex.ik Try_ln3 rfl rfl (Or.inl rfl) rfl PtOf.obox (Part.fst Part.self) ?_
                  refine RL.binI (v := .bool (decide (y234.1 < (0 : Int)))) rfl rfl rfl rfl rfl ?_
                  refine RL.finG ?_
                  refine GL.cond rfl (fun b256 => ?_) (fun b256 => ?_)
                  · replace h254 := ite_t b256 h254
                    refine GL.seq ?_
                    refine GL.seq ?_
                    obtain ⟨y264, K265, h266, h267, h268, h269, h270⟩ := bindF_K h254
                    refine GL.join (ι := Bool) (fun (p : Bool) => [(0, .int .i64 x0), (1, v1), (6, v241), (25, v1), (26, .int .i64 ((x1).length : Int)), (27, .int .i64 (i224 : Int)), (54, .bool p)]) (fun (p : Bool) => [imm (TR.sl (TR.pair TR.int (TR.pair (TR.sl TR.int) (TR.sl TR.int)))) v1 x1, obox 31 (TR.pair TR.int (TR.pair (TR.sl TR.int) (TR.sl TR.int))) v241 y234]) (fun (p : Bool) => K265 (.nx p)) ?_ ?_
                    · skip
                      refine GL.region ?_
                      refine RL.fadr (off := 0) (fo := 1) 1 Try_fld31_1 rfl rfl rfl PtOf.obox (Or.inr ⟨rfl, rfl⟩) ?_
                      refine RL.ldP (off := (0 + 1)) (r := (TR.sl TR.int)) (e' := y234.2.1) 1 Try_ln24 rfl rfl (Or.inl rfl) rfl PtOf.obox (Part.snd (Part.fst Part.self)) ?_
                      intro v271
                      refine RL.lenS 2 Try.underlying24 rfl rfl rfl rfl SlOf.imm ?_
                      refine RL.binI (v := .bool (decide (((y234.2.1).length : Int) > (0 : Int)))) rfl rfl rfl rfl rfl ?_
                      refine RL.mv rfl rfl rfl ?_
                      refine RL.split (t := 48) rfl (fun b272 => ?_) (fun b272 => ?_)
                      · replace h266 := ite_t b272 h266
                        refine RL.skip rfl rfl ?_
                        refine RL.skip rfl rfl ?_
                        refine RL.skip rfl rfl ?_
                        refine RL.skip rfl rfl ?_
                        refine RL.skip rfl rfl ?_
                        refine RL.pickT rfl rfl rfl rfl ?_
                        refine RL.fin ?_
                        cases h266
                        exact fun a w st => mid_intro true h267 (St.cut [0, 1] ⟨rfl, rfl, rfl, rfl, rfl, rfl, rfl, trivial⟩ (by decide) rfl st)
                      · replace h266 := ite_f b272 h266
                        refine RL.fadr (off := 0) (fo := 2) 1 Try_fld31_2 rfl rfl rfl PtOf.obox (Or.inr ⟨rfl, rfl⟩) ?_
                        refine RL.ldP (off := (0 + 2)) (r := (TR.sl TR.int)) (e' := y234.2.2) 1 Try_ln24 rfl rfl (Or.inl rfl) rfl PtOf.obox (Part.snd (Part.snd Part.self)) ?_
                        intro v273
                        refine RL.reL (L' := [imm (TR.sl (TR.pair TR.int (TR.pair (TR.sl TR.int) (TR.sl TR.int)))) v1 x1, obox 31 (TR.pair TR.int (TR.pair (TR.sl TR.int) (TR.sl TR.int))) v241 y234, imm (TR.sl TR.int) v271 y234.2.1, imm (TR.sl TR.int) v273 y234.2.2]) rfl ?_
                        refine RL.lenS 3 Try.underlying24 rfl rfl rfl rfl SlOf.imm ?_
                        refine RL.mv rfl rfl rfl ?_
                        refine RL.binI (v := .bool (((y234.2.2).length : Int) != x0)) rfl rfl rfl rfl rfl ?_
                        refine RL.pickF rfl rfl rfl rfl ?_
                        refine RL.fin ?_
                        cases h266
                        exact fun a w st => mid_intro (((y234.2.2).length : Int) != x0) h267 (St.cut [0, 1] ⟨rfl, rfl, rfl, rfl, rfl, rfl, rfl, trivial⟩ (by decide) rfl st)
                    · rintro x263 h274
                      have h275 := h268 _ h274
                      try dsimp only at h275
                      refine GL.weak (env' := [(0, .int .i64 x0), (1, v1), (6, v241), (25, v1), (26, .int .i64 ((x1).length : Int)), (27, .int .i64 (i224 : Int)), (54, .bool x263)]) (L' := [imm (TR.sl (TR.pair TR.int (TR.pair (TR.sl TR.int) (TR.sl TR.int)))) v1 x1, obox 31 (TR.pair TR.int (TR.pair (TR.sl TR.int) (TR.sl TR.int))) v241 y234]) (fun _ _ st => st) ?_
                      refine GL.cond rfl (fun b276 => ?_) (fun b276 => ?_)
                      · replace h275 := ite_t b276 h275
                        refine GL.seq ?_
                        refine GL.region ?_
                        refine RL.asg rfl rfl rfl ?_
                        refine RL.finG ?_
                        cases h275
                        replace h228 : some (Fl.rt _) = some y217 := h228
                        cases h228
                        have hh := h222 _ h220
                        subst hh
                        exact GL.ret (Gx.ret (v := .int .i64 (3 : Int)) (res1 rfl rfl) (fun a w st => st.toPostV))
                      · replace h275 := ite_f b276 h275
                        refine GL.skip ?_
                        refine GL.seq ?_
                        refine GL.seq ?_
                        refine GL.region ?_
                        refine RL.fadr (off := 0) (fo := 2) 1 Try_fld31_2 rfl rfl rfl PtOf.obox (Or.inr ⟨rfl, rfl⟩) ?_
                        refine RL.ldP (off := (0 + 2)) (r := (TR.sl TR.int)) (e' := y234.2.2) 1 Try_ln24 rfl rfl (Or.inl rfl) rfl PtOf.obox (Part.snd (Part.snd Part.self)) ?_
                        intro v278
                        refine RL.lenS 2 Try.underlying24 rfl rfl rfl rfl SlOf.imm ?_
                        refine RL.mv rfl rfl rfl ?_
                        refine RL.finG ?_
                        refine GL.open_ 2 rfl (fun S h => len_imm S h) (fun n297 => ?_)
                        obtain ⟨y298, K299, h300, h301, h302, h303, h304⟩ := bindF_K h275
                        refine GL.join (ι := Unit) (fun (p : Unit) => [(0, .int .i64 x0), (1, v1), (25, v1), (26, .int .i64 ((x1).length : Int)), (27, .int .i64 (i224 : Int))]) (fun (p : Unit) => [imm (TR.sl (TR.pair TR.int (TR.pair (TR.sl TR.int) (TR.sl TR.int)))) v1 x1]) (fun (p : Unit) => K299 (.nx ())) ?_ ?_
                        · refine GL.block ?_
                          refine GL.loop (ι := Nat × (List Int)) (fun (p : Nat × (List Int)) => [(0, .int .i64 x0), (1, v1), (25, v1), (26, .int .i64 ((x1).length : Int)), (27, .int .i64 (i224 : Int)), (56, v278), (57, .int .i64 ((y234.2.2).length : Int)), (58, .int .i64 (p.1 : Int))]) (fun (p : Nat × (List Int)) => [imm (TR.sl (TR.pair TR.int (TR.pair (TR.sl TR.int) (TR.sl TR.int)))) v1 x1, imm (TR.sl TR.int) v278 y234.2.2]) (fun (p : Nat × (List Int)) => p.1 + p.2.length = (y234.2.2).length ∧ List.drop p.1 y234.2.2 = p.2 ∧ rangeL tree_Check_b2 p.2 p.1 () = some y298) (fun (p : Nat × (List Int)) => p.2.length) (0, y234.2.2) ⟨by simp, by simp, h300⟩ (fun a w st => St.cut [0, 2] ⟨rfl, rfl, rfl, rfl, rfl, rfl, rfl, rfl, trivial⟩ (by decide) rfl st) ?_
                          rintro ⟨i305, r306⟩ ⟨h311, h312, h310⟩
                          try dsimp only at h311 h312 h310
                          refine GL.weak (env' := [(0, .int .i64 x0), (1, v1), (25, v1), (26, .int .i64 ((x1).length : Int)), (27, .int .i64 (i224 : Int)), (56, v278), (57, .int .i64 ((y234.2.2).length : Int)), (58, .int .i64 (i305 : Int))]) (L' := [imm (TR.sl (TR.pair TR.int (TR.pair (TR.sl TR.int) (TR.sl TR.int)))) v1 x1, imm (TR.sl TR.int) v278 y234.2.2]) (fun _ _ st => st) ?_
                          refine GL.seq ?_
                          refine GL.region ?_
                          refine RL.binI (v := .bool (decide ((i305 : Int) < ((y234.2.2).length : Int)))) rfl rfl rfl rfl rfl ?_
                          refine RL.finG ?_
                          refine GL.seq ?_
                          refine GL.cond rfl (fun b313 => ?_) (fun b313 => ?_)
                          · have h314 : i305 < (y234.2.2).length := by have := of_decide_eq_true b313; omega
                            obtain ⟨y315, r317, hr, e316, h318⟩ := drop_cons h312 rfl h314
                            subst hr
                            obtain ⟨z307, h308, h309⟩ := rangeL_some h310
                            unfold tree_Check_b2 at h308
                            try dsimp only at h308
                            refine GL.skip ?_
                            refine GL.seq ?_
                            refine GL.block ?_
                            refine GL.seq ?_
                            refine GL.region ?_
                            refine RL.idxS (sz := 1) 1 Try.underlying24 Try_ln3 rfl rfl rfl rfl rfl SlOf.imm (by omega) (by omega) ?_
                            refine RL.ldSx (i := i305) (e' := y315) 1 Ex.ik Try_ln3 rfl rfl rfl rfl SlOf.imm e316 Part.self ?_
                            refine RL.asg rfl rfl rfl ?_
                            refine RL.finG ?_
                            refine GL.seq ?_
                            obtain ⟨y322, K323, h324, h325, h326, h327, h328⟩ := bindF_K h308
                            refine GL.join (ι := Bool) (fun (p : Bool) => [(0, .int .i64 x0), (1, v1), (25, v1), (26, .int .i64 ((x1).length : Int)), (27, .int .i64 (i224 : Int)), (56, v278), (57, .int .i64 ((y234.2.2).length : Int)), (58, .int .i64 (i305 : Int)), (67, .bool p)]) (fun (p : Bool) => [imm (TR.sl (TR.pair TR.int (TR.pair (TR.sl TR.int) (TR.sl TR.int)))) v1 x1, imm (TR.sl TR.int) v278 y234.2.2]) (fun (p : Bool) => K323 (.nx p)) ?_ ?_
                            · skip
                              refine GL.region ?_
                              refine RL.mv rfl rfl rfl ?_
                              refine RL.binI (v := .bool (decide (y315 < (-1000 : Int)))) rfl rfl rfl rfl rfl ?_
                              refine RL.mv rfl rfl rfl ?_
                              refine RL.split (t := 64) rfl (fun b329 => ?_) (fun b329 => ?_)
                              · replace h324 := ite_t b329 h324
                                refine RL.skip rfl rfl ?_
                                refine RL.skip rfl rfl ?_
                                refine RL.pickT rfl rfl rfl rfl ?_
                                refine RL.fin ?_
                                cases h324
                                exact fun a w st => mid_intro true h325 (St.cut [0, 1] ⟨rfl, rfl, rfl, rfl, rfl, rfl, rfl, rfl, rfl, trivial⟩ (by decide) rfl st)
                              · replace h324 := ite_f b329 h324
                                refine RL.mv rfl rfl rfl ?_
                                refine RL.binI (v := .bool (decide (y315 > (1000 : Int)))) rfl rfl rfl rfl rfl ?_
                                refine RL.pickF rfl rfl rfl rfl ?_
                                refine RL.fin ?_
                                cases h324
                                exact fun a w st => mid_intro (decide (y315 > (1000 : Int))) h325 (St.cut [0, 1] ⟨rfl, rfl, rfl, rfl, rfl, rfl, rfl, rfl, rfl, trivial⟩ (by decide) rfl st)
                            · rintro x321 h330
                              have h331 := h326 _ h330
                              try dsimp only at h331
                              refine GL.weak (env' := [(0, .int .i64 x0), (1, v1), (25, v1), (26, .int .i64 ((x1).length : Int)), (27, .int .i64 (i224 : Int)), (56, v278), (57, .int .i64 ((y234.2.2).length : Int)), (58, .int .i64 (i305 : Int)), (67, .bool x321)]) (L' := [imm (TR.sl (TR.pair TR.int (TR.pair (TR.sl TR.int) (TR.sl TR.int)))) v1 x1, imm (TR.sl TR.int) v278 y234.2.2]) (fun _ _ st => st) ?_
                              refine GL.cond rfl (fun b332 => ?_) (fun b332 => ?_)
                              · replace h331 := ite_t b332 h331
                                refine GL.seq ?_
                                refine GL.region ?_
                                refine RL.asg rfl rfl rfl ?_
                                refine RL.finG ?_
                                cases h331
                                replace h309 : some (Fl.rt _) = some y298 := h309
                                cases h309
                                have hh := h303 _ h301
                                subst hh
                                replace h228 : some (Fl.rt _) = some y217 := h228
                                cases h228
                                have hh := h222 _ h220
                                subst hh
                                exact GL.ret (Gx.ret (v := .int .i64 (1 : Int)) (res1 rfl rfl) (fun a w st => st.toPostV))
                              · replace h331 := ite_f b332 h331
                                refine GL.skip ?_
                                refine GL.nilB ?_
                                refine GL.region ?_
                                refine RL.binI (v := .int .i64 ((i305 + 1 : Nat) : Int)) rfl rfl rfl rfl (binI_succ i305 (by omega)) ?_
                                refine RL.mv rfl rfl rfl ?_
                                refine RL.fin ?_
                                cases h331
                                exact fun a w st => lop_intro (i305 + 1, r317) ⟨by show i305 + 1 + r317.length = (y234.2.2).length; simp only [List.length_cons] at h311; omega, h318, h309⟩ (by simp) (St.cut [0, 1] ⟨rfl, rfl, rfl, rfl, rfl, rfl, rfl, rfl, trivial⟩ (by decide) rfl st)
                          · have h314 : ¬ i305 < (y234.2.2).length := by have := of_decide_eq_false b313; omega
                            obtain rfl : r306 = [] := by rw [← h312]; exact List.drop_of_length_le (by omega)
                            replace h310 : some (Fl.nx _) = some y298 := h310
                            cases h310
                            exact GL.exit (fun a w st => mid_intro () h301 (St.cut [0] ⟨rfl, rfl, rfl, rfl, rfl, trivial⟩ (by decide) rfl st))
                        · rintro ⟨⟩ h333
                          have h334 := h302 _ h333
                          try dsimp only at h334
                          refine GL.weak (env' := [(0, .int .i64 x0), (1, v1), (25, v1), (26, .int .i64 ((x1).length : Int)), (27, .int .i64 (i224 : Int))]) (L' := [imm (TR.sl (TR.pair TR.int (TR.pair (TR.sl TR.int) (TR.sl TR.int)))) v1 x1]) (fun _ _ st => st) ?_
                          refine GL.exit ?_
                          refine Gx.here ?_
                          refine GL.region ?_
                          refine RL.binI (v := .int .i64 ((i224 + 1 : Nat) : Int)) rfl rfl rfl rfl (binI_succ i224 (by omega)) ?_
                          refine RL.mv rfl rfl rfl ?_
                          refine RL.fin ?_
                          cases h334
                          exact fun a w st => lop_intro (i224 + 1, r236) ⟨by show i224 + 1 + r236.length = (x1).length; simp only [List.length_cons] at h230; omega, h237, h228⟩ (by simp) (St.cut [0] ⟨rfl, rfl, rfl, rfl, rfl, trivial⟩ (by decide) rfl st)
                  · replace h254 := ite_f b256 h254
                    refine GL.skip ?_
                    refine GL.seq ?_
                    refine GL.seq ?_
                    obtain ⟨y346, K347, h348, h349, h350, h351, h352⟩ := bindF_K h254
                    refine GL.join (ι := Bool) (fun (p : Bool) => [(0, .int .i64 x0), (1, v1), (5, .int .i64 (i224 : Int)), (6, v241), (25, v1), (26, .int .i64 ((x1).length : Int)), (27, .int .i64 (i224 : Int)), (84, .bool p)]) (fun (p : Bool) => [imm (TR.sl (TR.pair TR.int (TR.pair (TR.sl TR.int) (TR.sl TR.int)))) v1 x1, obox 31 (TR.pair TR.int (TR.pair (TR.sl TR.int) (TR.sl TR.int))) v241 y234]) (fun (p : Bool) => K347 (.nx p)) ?_ ?_
                    · skip
                      refine GL.region ?_
                      refine RL.fadr (off := 0) (fo := 1) 1 Try_fld31_1 rfl rfl rfl PtOf.obox (Or.inr ⟨rfl, rfl⟩) ?_
                      refine RL.ldP (off := (0 + 1)) (r := (TR.sl TR.int)) (e' := y234.2.1) 1 Try_ln24 rfl rfl (Or.inl rfl) rfl PtOf.obox (Part.snd (Part.fst Part.self)) ?_
                      intro v353
                      refine RL.lenS 2 Try.underlying24 rfl rfl rfl rfl SlOf.imm ?_
                      refine RL.binI (v := .bool (decide (((y234.2.1).length : Int) < (1 : Int)))) rfl rfl rfl rfl rfl ?_
                      refine RL.mv rfl rfl rfl ?_
                      refine RL.split (t := 73) rfl (fun b354 => ?_) (fun b354 => ?_)
                      · replace h348 := ite_t b354 h348
                        refine RL.skip rfl rfl ?_
                        refine RL.skip rfl rfl ?_
                        refine RL.skip rfl rfl ?_
                        refine RL.skip rfl rfl ?_
                        refine RL.pickT rfl rfl rfl rfl ?_
                        refine RL.mv rfl rfl rfl ?_
                        refine RL.skip rfl rfl ?_
                        refine RL.skip rfl rfl ?_
                        refine RL.skip rfl rfl ?_
                        refine RL.skip rfl rfl ?_
                        refine RL.pickT rfl rfl rfl rfl ?_
                        refine RL.fin ?_
                        cases h348
                        exact fun a w st => mid_intro true h349 (St.cut [0, 1] ⟨rfl, rfl, rfl, rfl, rfl, rfl, rfl, rfl, trivial⟩ (by decide) rfl st)
                      · replace h348 := ite_f b354 h348
                        refine RL.fadr (off := 0) (fo := 1) 1 Try_fld31_1 rfl rfl rfl PtOf.obox (Or.inr ⟨rfl, rfl⟩) ?_
                        refine RL.ldP (off := (0 + 1)) (r := (TR.sl TR.int)) (e' := y234.2.1) 1 Try_ln24 rfl rfl (Or.inl rfl) rfl PtOf.obox (Part.snd (Part.fst Part.self)) ?_
                        intro v355
                        refine RL.reL (L' := [imm (TR.sl (TR.pair TR.int (TR.pair (TR.sl TR.int) (TR.sl TR.int)))) v1 x1, obox 31 (TR.pair TR.int (TR.pair (TR.sl TR.int) (TR.sl TR.int))) v241 y234, imm (TR.sl TR.int) v353 y234.2.1, imm (TR.sl TR.int) v355 y234.2.1]) rfl ?_
                        refine RL.lenS 3 Try.underlying24 rfl rfl rfl rfl SlOf.imm ?_
                        refine RL.binI (v := .bool (decide (((y234.2.1).length : Int) > (6 : Int)))) rfl rfl rfl rfl rfl ?_
                        refine RL.pickF rfl rfl rfl rfl ?_
                        refine RL.mv rfl rfl rfl ?_
                        refine RL.split (t := 79) rfl (fun b356 => ?_) (fun b356 => ?_)
                        · replace h348 := ite_t b356 h348
                          refine RL.skip rfl rfl ?_
                          refine RL.skip rfl rfl ?_
                          refine RL.skip rfl rfl ?_
                          refine RL.skip rfl rfl ?_
                          refine RL.pickT rfl rfl rfl rfl ?_
                          refine RL.fin ?_
                          cases h348
                          exact fun a w st => mid_intro true h349 (St.cut [0, 1] ⟨rfl, rfl, rfl, rfl, rfl, rfl, rfl, rfl, trivial⟩ (by decide) rfl st)
                        · replace h348 := ite_f b356 h348
                          refine RL.fadr (off := 0) (fo := 2) 1 Try_fld31_2 rfl rfl rfl PtOf.obox (Or.inr ⟨rfl, rfl⟩) ?_
                          refine RL.ldP (off := (0 + 2)) (r := (TR.sl TR.int)) (e' := y234.2.2) 1 Try_ln24 rfl rfl (Or.inl rfl) rfl PtOf.obox (Part.snd (Part.snd Part.self)) ?_
                          intro v357
                          refine RL.lenS 4 Try.underlying24 rfl rfl rfl rfl SlOf.imm ?_
                          refine RL.binI (v := .bool (decide (((y234.2.2).length : Int) > (0 : Int)))) rfl rfl rfl rfl rfl ?_
                          refine RL.pickF rfl rfl rfl rfl ?_
                          refine RL.fin ?_
                          cases h348
                          exact fun a w st => mid_intro (decide (((y234.2.2).length : Int) > (0 : Int))) h349 (St.cut [0, 1] ⟨rfl, rfl, rfl, rfl, rfl, rfl, rfl, rfl, trivial⟩ (by decide) rfl st)
                    · rintro x345 h358
                      have h359 := h350 _ h358
                      try dsimp only at h359
                      refine GL.weak (env' := [(0, .int .i64 x0), (1, v1), (5, .int .i64 (i224 : Int)), (6, v241), (25, v1), (26, .int .i64 ((x1).length : Int)), (27, .int .i64 (i224 : Int)), (84, .bool x345)]) (L' := [imm (TR.sl (TR.pair TR.int (TR.pair (TR.sl TR.int) (TR.sl TR.int)))) v1 x1, obox 31 (TR.pair TR.int (TR.pair (TR.sl TR.int) (TR.sl TR.int))) v241 y234]) (fun _ _ st => st) ?_
                      refine GL.cond rfl (fun b360 => ?_) (fun b360 => ?_)
                      · replace h359 := ite_t b360 h359
                        refine GL.seq ?_
                        refine GL.region ?_
                        refine RL.asg rfl rfl rfl ?_
                        refine RL.finG ?_
                        cases h359
                        replace h228 : some (Fl.rt _) = some y217 := h228
                        cases h228
                        have hh := h222 _ h220
                        subst hh
                        exact GL.ret (Gx.ret (v := .int .i64 (3 : Int)) (res1 rfl rfl) (fun a w st => st.toPostV))
                      · replace h359 := ite_f b360 h359
                        refine GL.skip ?_
                        refine GL.seq ?_
                        refine GL.region ?_
                        refine RL.fadr (off := 0) (fo := 1) 1 Try_fld31_1 rfl rfl rfl PtOf.obox (Or.inr ⟨rfl, rfl⟩) ?_
                        refine RL.ldP (off := (0 + 1)) (r := (TR.sl TR.int)) (e' := y234.2.1) 1 Try_ln24 rfl rfl (Or.inl rfl) rfl PtOf.obox (Part.snd (Part.fst Part.self)) ?_
                        intro v362
                        refine RL.lenS 2 Try.underlying24 rfl rfl rfl rfl SlOf.imm ?_
                        refine RL.mv rfl rfl rfl ?_
                        refine RL.finG ?_
                        refine GL.open_ 2 rfl (fun S h => len_imm S h) (fun n381 => ?_)
                        obtain ⟨y382, K383, h384, h385, h386, h387, h388⟩ := bindF_K h359
                        refine GL.join (ι := Unit) (fun (p : Unit) => [(0, .int .i64 x0), (1, v1), (25, v1), (26, .int .i64 ((x1).length : Int)), (27, .int .i64 (i224 : Int))]) (fun (p : Unit) => [imm (TR.sl (TR.pair TR.int (TR.pair (TR.sl TR.int) (TR.sl TR.int)))) v1 x1]) (fun (p : Unit) => K383 (.nx ())) ?_ ?_
                        · refine GL.block ?_
                          refine GL.loop (ι := Nat × (List Int)) (fun (p : Nat × (List Int)) => [(0, .int .i64 x0), (1, v1), (5, .int .i64 (i224 : Int)), (25, v1), (26, .int .i64 ((x1).length : Int)), (27, .int .i64 (i224 : Int)), (86, v362), (87, .int .i64 ((y234.2.1).length : Int)), (88, .int .i64 (p.1 : Int))]) (fun (p : Nat × (List Int)) => [imm (TR.sl (TR.pair TR.int (TR.pair (TR.sl TR.int) (TR.sl TR.int)))) v1 x1, imm (TR.sl TR.int) v362 y234.2.1]) (fun (p : Nat × (List Int)) => p.1 + p.2.length = (y234.2.1).length ∧ List.drop p.1 y234.2.1 = p.2 ∧ rangeL (tree_Check_b3 i224 x1) p.2 p.1 () = some y382) (fun (p : Nat × (List Int)) => p.2.length) (0, y234.2.1) ⟨by simp, by simp, h384⟩ (fun a w st => St.cut [0, 2] ⟨rfl, rfl, rfl, rfl, rfl, rfl, rfl, rfl, rfl, trivial⟩ (by decide) rfl st) ?_
                          rintro ⟨i389, r390⟩ ⟨h395, h396, h394⟩
                          try dsimp only at h395 h396 h394
                          refine GL.weak (env' := [(0, .int .i64 x0), (1, v1), (5, .int .i64 (i224 : Int)), (25, v1), (26, .int .i64 ((x1).length : Int)), (27, .int .i64 (i224 : Int)), (86, v362), (87, .int .i64 ((y234.2.1).length : Int)), (88, .int .i64 (i389 : Int))]) (L' := [imm (TR.sl (TR.pair TR.int (TR.pair (TR.sl TR.int) (TR.sl TR.int)))) v1 x1, imm (TR.sl TR.int) v362 y234.2.1]) (fun _ _ st => st) ?_
                          refine GL.seq ?_
                          refine GL.region ?_
                          refine RL.binI (v := .bool (decide ((i389 : Int) < ((y234.2.1).length : Int)))) rfl rfl rfl rfl rfl ?_
                          refine RL.finG ?_
                          refine GL.seq ?_
                          refine GL.cond rfl (fun b397 => ?_) (fun b397 => ?_)
                          · have h398 : i389 < (y234.2.1).length := by have := of_decide_eq_true b397; omega
                            obtain ⟨y399, r401, hr, e400, h402⟩ := drop_cons h396 rfl h398
                            subst hr
                            obtain ⟨z391, h392, h393⟩ := rangeL_some h394
                            unfold tree_Check_b3 at h392
                            try dsimp only at h392
                            refine GL.skip ?_
                            refine GL.seq ?_
                            refine GL.block ?_
                            refine GL.seq ?_
                            refine GL.region ?_
                            refine RL.idxS (sz := 1) 1 Try.underlying24 Try_ln3 rfl rfl rfl rfl rfl SlOf.imm (by omega) (by omega) ?_
                            refine RL.ldSx (i := i389) (e' := y399) 1 Ex.ik Try_ln3 rfl rfl rfl rfl SlOf.imm e400 Part.self ?_
                            refine RL.asg rfl rfl rfl ?_
                            refine RL.finG ?_
                            refine GL.seq ?_
                            obtain ⟨y406, K407, h408, h409, h410, h411, h412⟩ := bindF_K h392
                            refine GL.join (ι := Bool) (fun (p : Bool) => [(0, .int .i64 x0), (1, v1), (5, .int .i64 (i224 : Int)), (25, v1), (26, .int .i64 ((x1).length : Int)), (27, .int .i64 (i224 : Int)), (86, v362), (87, .int .i64 ((y234.2.1).length : Int)), (88, .int .i64 (i389 : Int)), (100, .bool p)]) (fun (p : Bool) => [imm (TR.sl (TR.pair TR.int (TR.pair (TR.sl TR.int) (TR.sl TR.int)))) v1 x1, imm (TR.sl TR.int) v362 y234.2.1]) (fun (p : Bool) => K407 (.nx p)) ?_ ?_
                            · skip
                              refine GL.region ?_
                              refine RL.mv rfl rfl rfl ?_
                              refine RL.mv rfl rfl rfl ?_
                              refine RL.binI (v := .bool (decide (y399 ≤ (i224 : Int)))) rfl rfl rfl rfl rfl ?_
                              refine RL.mv rfl rfl rfl ?_
                              refine RL.split (t := 95) rfl (fun b413 => ?_) (fun b413 => ?_)
                              · replace h408 := ite_t b413 h408
                                refine RL.skip rfl rfl ?_
                                refine RL.skip rfl rfl ?_
                                refine RL.skip rfl rfl ?_
                                refine RL.skip rfl rfl ?_
                                refine RL.pickT rfl rfl rfl rfl ?_
                                refine RL.fin ?_
                                cases h408
                                exact fun a w st => mid_intro true h409 (St.cut [0, 1] ⟨rfl, rfl, rfl, rfl, rfl, rfl, rfl, rfl, rfl, rfl, trivial⟩ (by decide) rfl st)
                              · replace h408 := ite_f b413 h408
                                refine RL.mv rfl rfl rfl ?_
                                refine RL.mv rfl rfl rfl ?_
                                refine RL.lenS 0 Try.underlying22 rfl rfl rfl rfl SlOf.imm ?_
                                refine RL.binI (v := .bool (decide (y399 ≥ ((x1).length : Int)))) rfl rfl rfl rfl rfl ?_
                                refine RL.pickF rfl rfl rfl rfl ?_
                                refine RL.fin ?_
                                cases h408
                                exact fun a w st => mid_intro (decide (y399 ≥ ((x1).length : Int))) h409 (St.cut [0, 1] ⟨rfl, rfl, rfl, rfl, rfl, rfl, rfl, rfl, rfl, rfl, trivial⟩ (by decide) rfl st)
                            · rintro x405 h414
                              have h415 := h410 _ h414
                              try dsimp only at h415
                              refine GL.weak (env' := [(0, .int .i64 x0), (1, v1), (5, .int .i64 (i224 : Int)), (25, v1), (26, .int .i64 ((x1).length : Int)), (27, .int .i64 (i224 : Int)), (86, v362), (87, .int .i64 ((y234.2.1).length : Int)), (88, .int .i64 (i389 : Int)), (100, .bool x405)]) (L' := [imm (TR.sl (TR.pair TR.int (TR.pair (TR.sl TR.int) (TR.sl TR.int)))) v1 x1, imm (TR.sl TR.int) v362 y234.2.1]) (fun _ _ st => st) ?_
                              refine GL.cond rfl (fun b416 => ?_) (fun b416 => ?_)
                              · replace h415 := ite_t b416 h415
                                refine GL.seq ?_
                                refine GL.region ?_
                                refine RL.asg rfl rfl rfl ?_
                                refine RL.finG ?_
                                cases h415
                                replace h393 : some (Fl.rt _) = some y382 := h393
                                cases h393
                                have hh := h387 _ h385
                                subst hh
                                replace h228 : some (Fl.rt _) = some y217 := h228
                                cases h228
                                have hh := h222 _ h220
                                subst hh
                                exact GL.ret (Gx.ret (v := .int .i64 (4 : Int)) (res1 rfl rfl) (fun a w st => st.toPostV))
                              · replace h415 := ite_f b416 h415
                                refine GL.skip ?_
                                refine GL.nilB ?_
                                refine GL.region ?_
                                refine RL.binI (v := .int .i64 ((i389 + 1 : Nat) : Int)) rfl rfl rfl rfl (binI_succ i389 (by omega)) ?_
                                refine RL.mv rfl rfl rfl ?_
                                refine RL.fin ?_
                                cases h415
                                exact fun a w st => lop_intro (i389 + 1, r401) ⟨by show i389 + 1 + r401.length = (y234.2.1).length; simp only [List.length_cons] at h395; omega, h402, h393⟩ (by simp) (St.cut [0, 1] ⟨rfl, rfl, rfl, rfl, rfl, rfl, rfl, rfl, rfl, trivial⟩ (by decide) rfl st)
                          · have h398 : ¬ i389 < (y234.2.1).length := by have := of_decide_eq_false b397; omega
                            obtain rfl : r390 = [] := by rw [← h396]; exact List.drop_of_length_le (by omega)
                            replace h394 : some (Fl.nx _) = some y382 := h394
                            cases h394
                            exact GL.exit (fun a w st => mid_intro () h385 (St.cut [0] ⟨rfl, rfl, rfl, rfl, rfl, trivial⟩ (by decide) rfl st))
                        · rintro ⟨⟩ h417
                          have h418 := h386 _ h417
                          try dsimp only at h418
                          refine GL.weak (env' := [(0, .int .i64 x0), (1, v1), (25, v1), (26, .int .i64 ((x1).length : Int)), (27, .int .i64 (i224 : Int))]) (L' := [imm (TR.sl (TR.pair TR.int (TR.pair (TR.sl TR.int) (TR.sl TR.int)))) v1 x1]) (fun _ _ st => st) ?_
                          refine GL.nilB ?_
                          refine GL.region ?_
                          refine RL.binI (v := .int .i64 ((i224 + 1 : Nat) : Int)) rfl rfl rfl rfl (binI_succ i224 (by omega)) ?_
                          refine RL.mv rfl rfl rfl ?_
                          refine RL.fin ?_
                          cases h418
                          exact fun a w st => lop_intro (i224 + 1, r236) ⟨by show i224 + 1 + r236.length = (x1).length; simp only [List.length_cons] at h230; omega, h237, h228⟩ (by simp) (St.cut [0] ⟨rfl, rfl, rfl, rfl, rfl, trivial⟩ (by decide) rfl st)
            · have h233 : ¬ i224 < (x1).length := by have := of_decide_eq_false b232; omega
              obtain rfl : r225 = [] := by rw [← h231]; exact List.drop_of_length_le (by omega)
              replace h229 : some (Fl.nx _) = some y217 := h229
              cases h229
              exact GL.exit (fun a w st => mid_intro () h220 (St.cut [] trivial (by decide) rfl st))
          · rintro ⟨⟩ h419
            have h420 := h221 _ h419
            try dsimp only at h420
            refine GL.weak (env' := []) (L' := []) (fun _ _ st => st) ?_
            refine GL.seq ?_
            refine GL.region ?_
            refine RL.asg rfl rfl rfl ?_
            refine RL.finG ?_
            have h420 := Option.some.inj h420
            subst h420
            exact GL.ret (Gx.ret (v := .int .i64 (0 : Int)) (res1 rfl rfl) (fun a w st => st.toPostV))

set_option maxHeartbeats 4000000 in
theorem tree_Solve_c (S : Hp) (w : World) (hS : S.sub w) (x0 : Int) (v1 : Value) (x1 : (List (Int × ((List Int) × (List Int))))) (k1 : ((TR.sl (TR.pair TR.int (TR.pair (TR.sl TR.int) (TR.sl TR.int))))).vrep S v1 x1) (res : (List Int) × (List (List Int)) × Int) (hm : tree_Solve_m x0 x1 = some res) : Calls Try.prog 16 #[.int .i64 x0, v1] w (Post w S (fun (o : Value × Value) => .tuple #[o.1, o.2, .int .i64 res.2.2]) (fun (o : Value × Value) => [own 3 TR.int o.1 res.1, own 24 (TR.sl TR.int) o.2 res.2.1])) := by
  refine calls_enter 101 Try.func16 Try.ntmps16 rfl S false [(0, .int .i64 x0), (1, v1)] [imm (TR.sl (TR.pair TR.int (TR.pair (TR.sl TR.int) (TR.sl TR.int)))) v1 x1] rfl ⟨rfl, ⟨rfl, trivial⟩⟩ hS ⟨k1, trivial⟩ ?_
  unfold tree_Solve_m at hm
  refine GL.seq ?_
  refine GL.region ?_
  refine RL.asg rfl rfl rfl ?_
  refine RL.asg rfl rfl rfl ?_
  refine RL.asg rfl rfl rfl ?_
  refine RL.finG ?_
  refine GL.seq ?_
  refine GL.seq ?_
  refine GL.region ?_
  refine RL.mv rfl rfl rfl ?_
  refine RL.mv rfl rfl rfl ?_
  obtain ⟨y5, e6, hm⟩ := bind_some hm
  refine RL.callV (v := .int .i64 y5) (vs := [.int .i64 x0, v1]) Try_fit42 rfl (Or.inl rfl) rfl rfl rfl rfl (fun U w hU hW hL => tree_Check_c U w hU x0 _ _ (hL 0 _ _ rfl Seen.imm) _ e6) ?_
  refine RL.asg rfl rfl rfl ?_
  refine RL.finG ?_
  refine GL.seq ?_
  refine GL.region ?_
  refine RL.mv rfl rfl rfl ?_
  refine RL.binI (v := .bool (y5 != (0 : Int))) rfl rfl rfl rfl rfl ?_
  refine RL.finG ?_
  refine GL.cond rfl (fun b7 => ?_) (fun b7 => ?_)
  · replace hm := ite_t b7 hm
    refine GL.seq ?_
    refine GL.region ?_
    refine RL.mv rfl rfl rfl ?_
    refine RL.asg rfl rfl rfl ?_
    refine RL.asg rfl rfl rfl ?_
    refine RL.asg rfl rfl rfl ?_
    refine RL.finG ?_
    refine GL.weak (fun a w st => st.nilOwn 3 TR.int) ?_
    refine GL.weak (fun a w st => st.nilOwn 24 (TR.sl TR.int)) ?_
    have hm := Option.some.inj hm
    subst hm
    exact GL.ret (Gx.ret (v := .tuple #[Value.slice none 0 0, Value.slice none 0 0, .int .i64 y5]) (res3 rfl rfl rfl rfl) (fun a w st => (st.pick [1, 2] (by decide) rfl).toPost (Value.slice none 0 0, Value.slice none 0 0)))
  · replace hm := ite_f b7 hm
    refine GL.skip ?_
    refine GL.seq ?_
    refine GL.region ?_
    refine RL.mv rfl rfl rfl ?_
    refine RL.lenS 0 Try.underlying22 rfl rfl rfl rfl SlOf.imm ?_
    obtain ⟨y11, e12, hm⟩ := bind_some hm
    replace e12 := chk_some e12
    refine RL.mkS (t := TR.int) (z := (0 : Int)) Try.underlying24 Try_lo3 (fun S => rfl) rfl rfl rfl rfl e12.1 e12.2 ?_
    intro v13
    refine RL.asg rfl rfl rfl ?_
    refine RL.finG ?_
    refine GL.seq ?_
    refine GL.region ?_
    refine RL.mv rfl rfl rfl ?_
    refine RL.lenS 0 Try.underlying22 rfl rfl rfl rfl SlOf.imm ?_
    obtain ⟨y17, e18, hm⟩ := bind_some hm
    replace e18 := chk_some e18
    refine RL.mkS (t := (TR.sl TR.int)) (z := ([] : (List Int))) Try.underlying25 Try_lo24 (fun S => ⟨_, [], rfl, ⟨none, 0, rfl, Nat.le_refl _, Nat.zero_le _, Or.inl ⟨rfl, rfl⟩⟩, rfl⟩) rfl rfl rfl rfl e18.1 e18.2 ?_
    intro v19
    refine RL.reL (L' := [imm (TR.sl (TR.pair TR.int (TR.pair (TR.sl TR.int) (TR.sl TR.int)))) v1 x1, own 3 TR.int v13 (List.replicate (((x1).length : Int)).toNat (0 : Int)), own 24 (TR.sl TR.int) v19 (List.replicate (((x1).length : Int)).toNat ([] : (List Int)))]) rfl ?_
    refine RL.asg rfl rfl rfl ?_
    refine RL.finG ?_
    refine GL.seq ?_
    refine GL.seq ?_
    refine GL.region ?_
    refine RL.mv rfl rfl rfl ?_
    refine RL.lenS 0 Try.underlying22 rfl rfl rfl rfl SlOf.imm ?_
    refine RL.binI (v := .int .i64 (wsub ((x1).length : Int) (1 : Int))) rfl rfl rfl rfl rfl ?_
    refine RL.asg rfl rfl rfl ?_
    refine RL.finG ?_
    obtain ⟨y308, K309, h310, h311, h312, h313, h314⟩ := bindR_K hm
    refine GL.join (ι := (List Int) × (List (List Int)) × Int × Value × Value) (fun (p : (List Int) × (List (List Int)) × Int × Value × Value) => [(8, p.2.2.2.1), (9, p.2.2.2.2)]) (fun (p : (List Int) × (List (List Int)) × Int × Value × Value) => [own 3 TR.int p.2.2.2.1 p.1, own 24 (TR.sl TR.int) p.2.2.2.2 p.2.1]) (fun (p : (List Int) × (List (List Int)) × Int × Value × Value) => K309 (.nx (p.1, p.2.1, p.2.2.1))) ?_ ?_
    · refine GL.block ?_
      refine GL.loop (ι := Nat × (List Int) × (List (List Int)) × Int × Value × Value) (fun (p : Nat × (List Int) × (List (List Int)) × Int × Value × Value) => [(1, v1), (8, p.2.2.2.2.1), (9, p.2.2.2.2.2), (10, .int .i64 p.2.2.2.1)]) (fun (p : Nat × (List Int) × (List (List Int)) × Int × Value × Value) => [imm (TR.sl (TR.pair TR.int (TR.pair (TR.sl TR.int) (TR.sl TR.int)))) v1 x1, own 3 TR.int p.2.2.2.2.1 p.2.1, own 24 (TR.sl TR.int) p.2.2.2.2.2 p.2.2.1]) (fun (p : Nat × (List Int) × (List (List Int)) × Int × Value × Value) => loopM (tree_Solve_b1 x1) p.1 (p.2.1, p.2.2.1, p.2.2.2.1) = some y308) (fun (p : Nat × (List Int) × (List (List Int)) × Int × Value × Value) => p.1) (1048576, (List.replicate (((x1).length : Int)).toNat (0 : Int)), (List.replicate (((x1).length : Int)).toNat ([] : (List Int))), wsub ((x1).length : Int) (1 : Int), v13, v19) h310 (fun a w st => St.cut [0, 1, 2] ⟨rfl, rfl, rfl, rfl, trivial⟩ (by decide) rfl st) ?_
      rintro ⟨r316, l162, l164, x166, v163, v165⟩ h320
      try dsimp only at h320
      refine GL.weak (env' := [(1, v1), (8, v163), (9, v165), (10, .int .i64 x166)]) (L' := [imm (TR.sl (TR.pair TR.int (TR.pair (TR.sl TR.int) (TR.sl TR.int)))) v1 x1, own 3 TR.int v163 l162, own 24 (TR.sl TR.int) v165 l164]) (fun _ _ st => st) ?_
      obtain ⟨r323, z317, hr, h318, h319⟩ := loopM_some h320
      subst hr
      unfold tree_Solve_b1 at h318
      try dsimp only at h318
      refine GL.seq ?_
      refine GL.seq ?_
      refine GL.region ?_
      refine RL.mv rfl rfl rfl ?_
      refine RL.binI (v := .bool (decide (x166 ≥ (0 : Int)))) rfl rfl rfl rfl rfl ?_
      refine RL.finG ?_
      refine GL.cond rfl (fun b324 => ?_) (fun b324 => ?_)
      · replace h318 := ite_t b324 h318
        refine GL.skip ?_
        refine GL.seq ?_
        refine GL.block ?_
        refine GL.seq ?_
        refine GL.region ?_
        refine RL.mv rfl rfl rfl ?_
        refine RL.mv rfl rfl rfl ?_
        obtain ⟨y329, e330, h318⟩ := bind_some h318
        refine RL.idxS (sz := 3) 0 Try.underlying22 Try_ln31 rfl rfl rfl rfl rfl SlOf.imm (idx_some e330).1 (idx_some e330).2.1 ?_
        refine RL.ldS (i := (x166).toNat) (r := (TR.pair TR.int (TR.pair (TR.sl TR.int) (TR.sl TR.int)))) (e' := y329) 0 Try_ln31 rfl rfl rfl rfl SlOf.imm (idx_some e330).2.2 Part.self ?_
        intro v331
        refine RL.alloc (t := (TR.pair TR.int (TR.pair (TR.sl TR.int) (TR.sl TR.int)))) (z := ((0 : Int), ([] : (List Int)), ([] : (List Int)))) Try_lo31 (fun S => ⟨[.int .i64 0], _, rfl, rfl, ⟨[.slice none 0 0], _, rfl, ⟨_, [], rfl, ⟨none, 0, rfl, Nat.le_refl _, Nat.zero_le _, Or.inl ⟨rfl, rfl⟩⟩, rfl⟩, ⟨_, [], rfl, ⟨none, 0, rfl, Nat.le_refl _, Nat.zero_le _, Or.inl ⟨rfl, rfl⟩⟩, rfl⟩⟩⟩) rfl rfl rfl ?_
        intro v332
        refine RL.reL (L' := [imm (TR.sl (TR.pair TR.int (TR.pair (TR.sl TR.int) (TR.sl TR.int)))) v1 x1, own 3 TR.int v163 l162, own 24 (TR.sl TR.int) v165 l164, imm (TR.pair TR.int (TR.pair (TR.sl TR.int) (TR.sl TR.int))) v331 y329, obox 31 (TR.pair TR.int (TR.pair (TR.sl TR.int) (TR.sl TR.int))) v332 ((0 : Int), ([] : (List Int)), ([] : (List Int)))]) rfl ?_
        refine RL.stP (off := 0) (e' := y329) (d1 := y329) (r := (TR.pair TR.int (TR.pair (TR.sl TR.int) (TR.sl TR.int)))) 4 Try_ln31 rfl rfl (Or.inr ⟨rfl, rfl⟩) rfl (VR.item 3 rfl) rfl Upd.self ?_
        refine RL.finG ?_
        refine GL.seq ?_
        refine GL.seq ?_
        refine GL.region ?_
        refine RL.fadr (off := 0) (fo := 0) 4 Try_fld31_0 rfl rfl rfl PtOf.obox (Or.inr ⟨rfl, rfl⟩) ?_
        refine RL.ldPx (off := (0 + 0)) (e' := y329.1) 4 Ex.ik Try_ln3 rfl rfl (Or.inl rfl) rfl PtOf.obox (Part.fst Part.self) ?_
        refine RL.binI (v := .bool (decide (y329.1 < (0 : Int)))) rfl rfl rfl rfl rfl ?_
        refine RL.finG ?_
        refine GL.cond rfl (fun b333 => ?_) (fun b333 => ?_)
        · replace h318 := ite_t b333 h318
          refine GL.seq ?_
          refine GL.region ?_
          refine RL.mv rfl rfl rfl ?_
          refine RL.mv rfl rfl rfl ?_
          refine RL.bS (t := TR.int) (vs := []) ([] : (List Int)) Try.underlying24 Try_lo3 rfl rfl rfl rfl trivial rfl (by decide) ?_
          intro v341
          refine RL.reL (L' := [imm (TR.sl (TR.pair TR.int (TR.pair (TR.sl TR.int) (TR.sl TR.int)))) v1 x1, own 3 TR.int v163 l162, own 24 (TR.sl TR.int) v165 l164, imm (TR.pair TR.int (TR.pair (TR.sl TR.int) (TR.sl TR.int))) v331 y329, obox 31 (TR.pair TR.int (TR.pair (TR.sl TR.int) (TR.sl TR.int))) v332 y329, own 3 TR.int v341 ([] : (List Int))]) rfl ?_
          refine RL.fadr (off := 0) (fo := 2) 4 Try_fld31_2 rfl rfl rfl PtOf.obox (Or.inr ⟨rfl, rfl⟩) ?_
          refine RL.ldP (off := (0 + 2)) (r := (TR.sl TR.int)) (e' := y329.2.2) 4 Try_ln24 rfl rfl (Or.inl rfl) rfl PtOf.obox (Part.snd (Part.snd Part.self)) ?_
          intro v342
          obtain ⟨y343, e344, h318⟩ := bind_some h318
          replace e344 := chk_some e344
          refine RL.app 5 6 Try.underlying24 Try_lo3 rfl rfl rfl rfl rfl rfl rfl SlOf.imm e344 ?_
          intro v345
          refine RL.reL (L' := [imm (TR.sl (TR.pair TR.int (TR.pair (TR.sl TR.int) (TR.sl TR.int)))) v1 x1, own 3 TR.int v163 l162, own 24 (TR.sl TR.int) v165 l164, imm (TR.pair TR.int (TR.pair (TR.sl TR.int) (TR.sl TR.int))) v331 y329, obox 31 (TR.pair TR.int (TR.pair (TR.sl TR.int) (TR.sl TR.int))) v332 y329, own 3 TR.int v345 (([] : (List Int)) ++ y329.2.2), imm (TR.sl TR.int) v342 y329.2.2]) rfl ?_
          obtain ⟨y346, e347, h318⟩ := bind_some h318
          refine RL.idxS (sz := 1) 2 Try.underlying25 Try_ln24 rfl rfl rfl rfl rfl SlOf.own (idx_some e347).1 (idx_some e347).2.1 ?_
          refine RL.weak (fun a w st => st.freeze 5 rfl) ?_
          refine RL.stS (i := (x166).toNat) (e' := (([] : (List Int)) ++ y329.2.2)) (e1 := (([] : (List Int)) ++ y329.2.2)) (r := (TR.sl TR.int)) 2 Try_ln24 rfl rfl rfl rfl (VR.item 5 rfl) rfl (idx_some e347).2.2 Upd.self ?_
          refine RL.reL (L' := [imm (TR.sl (TR.pair TR.int (TR.pair (TR.sl TR.int) (TR.sl TR.int)))) v1 x1, own 3 TR.int v163 l162, own 24 (TR.sl TR.int) v165 (List.set l164 ((x166).toNat) (([] : (List Int)) ++ y329.2.2)), imm (TR.pair TR.int (TR.pair (TR.sl TR.int) (TR.sl TR.int))) v331 y329, obox 31 (TR.pair TR.int (TR.pair (TR.sl TR.int) (TR.sl TR.int))) v332 y329, imm (TR.sl TR.int) v345 (([] : (List Int)) ++ y329.2.2), imm (TR.sl TR.int) v342 y329.2.2]) rfl ?_
          refine RL.finG ?_
          refine GL.seq ?_
          refine GL.region ?_
          refine RL.mv rfl rfl rfl ?_
          refine RL.mv rfl rfl rfl ?_
          obtain ⟨y350, e351, h318⟩ := bind_some h318
          refine RL.idxS (sz := 1) 1 Try.underlying24 Try_ln3 rfl rfl rfl rfl rfl SlOf.own (idx_some e351).1 (idx_some e351).2.1 ?_
          refine RL.stS (i := (x166).toNat) (e' := (-1 : Int)) (e1 := (-1 : Int)) (r := TR.int) 1 Try_ln3 rfl rfl rfl rfl VR.int rfl (idx_some e351).2.2 Upd.self ?_
          refine RL.finG ?_
          refine GL.exit ?_
          refine Gx.here ?_
          refine GL.region ?_
          refine RL.mv rfl rfl rfl ?_
          refine RL.binI (v := .int .i64 (wsub x166 (1 : Int))) rfl rfl rfl rfl rfl ?_
          refine RL.asg rfl rfl rfl ?_
          refine RL.finG ?_
          cases h318
          exact fun a w st => lop_intro (r323, (List.set l162 ((x166).toNat) (-1 : Int)), (List.set l164 ((x166).toNat) (([] : (List Int)) ++ y329.2.2)), wsub x166 (1 : Int), v163, v165) (by exact h319) (by simp) (St.cut [0, 1, 2] ⟨rfl, rfl, rfl, rfl, trivial⟩ (by decide) rfl st)
        · replace h318 := ite_f b333 h318
          refine GL.skip ?_
          refine GL.seq ?_
          refine GL.region ?_
          refine RL.asg rfl rfl rfl ?_
          refine RL.finG ?_
          refine GL.seq ?_
          refine GL.seq ?_
          refine GL.region ?_
          refine RL.fadr (off := 0) (fo := 1) 4 Try_fld31_1 rfl rfl rfl PtOf.obox (Or.inr ⟨rfl, rfl⟩) ?_
          refine RL.ldP (off := (0 + 1)) (r := (TR.sl TR.int)) (e' := y329.2.1) 4 Try_ln24 rfl rfl (Or.inl rfl) rfl PtOf.obox (Part.snd (Part.fst Part.self)) ?_
          intro v353
          refine RL.reL (L' := [imm (TR.sl (TR.pair TR.int (TR.pair (TR.sl TR.int) (TR.sl TR.int)))) v1 x1, own 3 TR.int v163 l162, own 24 (TR.sl TR.int) v165 l164, imm (TR.pair TR.int (TR.pair (TR.sl TR.int) (TR.sl TR.int))) v331 y329, obox 31 (TR.pair TR.int (TR.pair (TR.sl TR.int) (TR.sl TR.int))) v332 y329, imm (TR.sl TR.int) v353 y329.2.1]) rfl ?_
          refine RL.lenS 5 Try.underlying24 rfl rfl rfl rfl SlOf.imm ?_
          refine RL.mv rfl rfl rfl ?_
          refine RL.finG ?_
          refine GL.open_ 5 rfl (fun S h => len_imm S h) (fun n386 => ?_)
          obtain ⟨y387, K388, h389, h390, h391, h392, h393⟩ := bindF_K h318
          refine GL.join (ι := Int) (fun (p : Int) => [(1, v1), (8, v163), (9, v165), (10, .int .i64 x166), (11, v332), (12, .int .i64 p)]) (fun (p : Int) => [imm (TR.sl (TR.pair TR.int (TR.pair (TR.sl TR.int) (TR.sl TR.int)))) v1 x1, own 3 TR.int v163 l162, own 24 (TR.sl TR.int) v165 l164, obox 31 (TR.pair TR.int (TR.pair (TR.sl TR.int) (TR.sl TR.int))) v332 y329]) (fun (p : Int) => K388 (.nx p)) ?_ ?_
          · refine GL.block ?_
            refine GL.loop (ι := Nat × (List Int) × Int) (fun (p : Nat × (List Int) × Int) => [(1, v1), (8, v163), (9, v165), (10, .int .i64 x166), (11, v332), (12, .int .i64 p.2.2), (52, v353), (53, .int .i64 ((y329.2.1).length : Int)), (54, .int .i64 (p.1 : Int))]) (fun (p : Nat × (List Int) × Int) => [imm (TR.sl (TR.pair TR.int (TR.pair (TR.sl TR.int) (TR.sl TR.int)))) v1 x1, own 3 TR.int v163 l162, own 24 (TR.sl TR.int) v165 l164, obox 31 (TR.pair TR.int (TR.pair (TR.sl TR.int) (TR.sl TR.int))) v332 y329, imm (TR.sl TR.int) v353 y329.2.1]) (fun (p : Nat × (List Int) × Int) => p.1 + p.2.1.length = (y329.2.1).length ∧ List.drop p.1 y329.2.1 = p.2.1 ∧ rangeL (tree_Solve_b2 l164 y329) p.2.1 p.1 p.2.2 = some y387) (fun (p : Nat × (List Int) × Int) => p.2.1.length) (0, y329.2.1, (0 : Int)) ⟨by simp, by simp, h389⟩ (fun a w st => St.cut [0, 1, 2, 4, 5] ⟨rfl, rfl, rfl, rfl, rfl, rfl, rfl, rfl, rfl, trivial⟩ (by decide) rfl st) ?_
            rintro ⟨i394, r395, x354⟩ ⟨h400, h401, h399⟩
            try dsimp only at h400 h401 h399
            refine GL.weak (env' := [(1, v1), (8, v163), (9, v165), (10, .int .i64 x166), (11, v332), (12, .int .i64 x354), (52, v353), (53, .int .i64 ((y329.2.1).length : Int)), (54, .int .i64 (i394 : Int))]) (L' := [imm (TR.sl (TR.pair TR.int (TR.pair (TR.sl TR.int) (TR.sl TR.int)))) v1 x1, own 3 TR.int v163 l162, own 24 (TR.sl TR.int) v165 l164, obox 31 (TR.pair TR.int (TR.pair (TR.sl TR.int) (TR.sl TR.int))) v332 y329, imm (TR.sl TR.int) v353 y329.2.1]) (fun _ _ st => st) ?_
            refine GL.seq ?_
            refine GL.region ?_
            refine RL.binI (v := .bool (decide ((i394 : Int) < ((y329.2.1).length : Int)))) rfl rfl rfl rfl rfl ?_
            refine RL.finG ?_
            refine GL.seq ?_
            refine GL.cond rfl (fun b402 => ?_) (fun b402 => ?_)
            · have h403 : i394 < (y329.2.1).length := by have := of_decide_eq_true b402; omega
              obtain ⟨y404, r406, hr, e405, h407⟩ := drop_cons h401 rfl h403
              subst hr
              obtain ⟨z396, h397, h398⟩ := rangeL_some h399
              unfold tree_Solve_b2 at h397
              try dsimp only at h397
              refine GL.skip ?_
              refine GL.seq ?_
              refine GL.block ?_
              refine GL.seq ?_
              refine GL.region ?_
              refine RL.mv rfl rfl rfl ?_
              refine RL.idxS (sz := 1) 4 Try.underlying24 Try_ln3 rfl rfl rfl rfl rfl SlOf.imm (by omega) (by omega) ?_
              refine RL.ldSx (i := i394) (e' := y404) 4 Ex.ik Try_ln3 rfl rfl rfl rfl SlOf.imm e405 Part.self ?_
              refine RL.asg rfl rfl rfl ?_
              refine RL.asg rfl rfl rfl ?_
              refine RL.finG ?_
              refine GL.seq ?_
              refine GL.regionQ rfl rfl (by kernel_rfl) ?_
              refine RL.mv rfl rfl rfl ?_
              refine RL.mv rfl rfl rfl ?_
              obtain ⟨y421, e422, h397⟩ := bind_some h397
              refine RL.idxS (sz := 1) 2 Try.underlying25 Try_ln24 rfl rfl rfl rfl rfl SlOf.own (idx_some e422).1 (idx_some e422).2.1 ?_
              refine RL.ldS (i := (y404).toNat) (r := (TR.sl TR.int)) (e' := y421) 2 Try_ln24 rfl rfl rfl rfl SlOf.own (idx_some e422).2.2 Part.self ?_
              intro v423
              refine RL.fadr (off := 0) (fo := 0) 3 Try_fld31_0 rfl rfl rfl PtOf.obox (Or.inr ⟨rfl, rfl⟩) ?_
              refine RL.ldPx (off := (0 + 0)) (e' := y329.1) 3 Ex.ik Try_ln3 rfl rfl (Or.inl rfl) rfl PtOf.obox (Part.fst Part.self) ?_
              obtain ⟨y424, e425, h397⟩ := bind_some h397
              refine RL.idxS (sz := 1) 5 Try.underlying24 Try_ln3 rfl rfl rfl rfl rfl SlOf.imm (idx_some e425).1 (idx_some e425).2.1 ?_
              refine RL.ldSx (i := (y329.1).toNat) (e' := y424) 5 Ex.ik Try_ln3 rfl rfl rfl rfl SlOf.imm (idx_some e425).2.2 Part.self ?_
              refine RL.mv rfl rfl rfl ?_
              refine RL.fadr (off := 0) (fo := 1) 3 Try_fld31_1 rfl rfl rfl PtOf.obox (Or.inr ⟨rfl, rfl⟩) ?_
              refine RL.ldP (off := (0 + 1)) (r := (TR.sl TR.int)) (e' := y329.2.1) 3 Try_ln24 rfl rfl (Or.inl rfl) rfl PtOf.obox (Part.snd (Part.fst Part.self)) ?_
              intro v426
              refine RL.reL (L' := [imm (TR.sl (TR.pair TR.int (TR.pair (TR.sl TR.int) (TR.sl TR.int)))) v1 x1, own 3 TR.int v163 l162, own 24 (TR.sl TR.int) v165 l164, obox 31 (TR.pair TR.int (TR.pair (TR.sl TR.int) (TR.sl TR.int))) v332 y329, imm (TR.sl TR.int) v353 y329.2.1, imm (TR.sl TR.int) v423 y421, imm (TR.sl TR.int) v426 y329.2.1]) rfl ?_
              refine RL.mv rfl rfl rfl ?_
              obtain ⟨y427, e428, h397⟩ := bind_some h397
              refine RL.idxS (sz := 1) 6 Try.underlying24 Try_ln3 rfl rfl rfl rfl rfl SlOf.imm (idx_some e428).1 (idx_some e428).2.1 ?_
              refine RL.ldSx (i := (x354).toNat) (e' := y427) 6 Ex.ik Try_ln3 rfl rfl rfl rfl SlOf.imm (idx_some e428).2.2 Part.self ?_
              obtain ⟨y429, e430, h397⟩ := bind_some h397
              refine RL.idxS (sz := 1) 2 Try.underlying25 Try_ln24 rfl rfl rfl rfl rfl SlOf.own (idx_some e430).1 (idx_some e430).2.1 ?_
              refine RL.ldS (i := (y427).toNat) (r := (TR.sl TR.int)) (e' := y429) 2 Try_ln24 rfl rfl rfl rfl SlOf.own (idx_some e430).2.2 Part.self ?_
              intro v431
              refine RL.fadr (off := 0) (fo := 0) 3 Try_fld31_0 rfl rfl rfl PtOf.obox (Or.inr ⟨rfl, rfl⟩) ?_
              refine RL.ldPx (off := (0 + 0)) (e' := y329.1) 3 Ex.ik Try_ln3 rfl rfl (Or.inl rfl) rfl PtOf.obox (Part.fst Part.self) ?_
              obtain ⟨y432, e433, h397⟩ := bind_some h397
              refine RL.idxS (sz := 1) 7 Try.underlying24 Try_ln3 rfl rfl rfl rfl rfl SlOf.imm (idx_some e433).1 (idx_some e433).2.1 ?_
              refine RL.ldSx (i := (y329.1).toNat) (e' := y432) 7 Ex.ik Try_ln3 rfl rfl rfl rfl SlOf.imm (idx_some e433).2.2 Part.self ?_
              refine RL.binI (v := .bool (decide (y424 > y432))) rfl rfl rfl rfl rfl ?_
              refine RL.finQG ?_
              refine GL.weak (env' := [(1, v1), (8, v163), (9, v165), (10, .int .i64 x166), (11, v332), (12, .int .i64 x354), (13, .int .i64 (i394 : Int)), (52, v353), (53, .int .i64 ((y329.2.1).length : Int)), (54, .int .i64 (i394 : Int)), (79, .bool (decide (y424 > y432)))]) (L' := [imm (TR.sl (TR.pair TR.int (TR.pair (TR.sl TR.int) (TR.sl TR.int)))) v1 x1, own 3 TR.int v163 l162, own 24 (TR.sl TR.int) v165 l164, obox 31 (TR.pair TR.int (TR.pair (TR.sl TR.int) (TR.sl TR.int))) v332 y329, imm (TR.sl TR.int) v353 y329.2.1]) (fun a w st => St.cut [0, 1, 2, 3, 4] ⟨rfl, rfl, rfl, rfl, rfl, rfl, rfl, rfl, rfl, rfl, rfl, trivial⟩ (by decide) rfl st) ?_
              refine GL.cond rfl (fun b434 => ?_) (fun b434 => ?_)
              · replace h397 := ite_t b434 h397
                refine GL.region ?_
                refine RL.mv rfl rfl rfl ?_
                refine RL.asg rfl rfl rfl ?_
                refine RL.finG ?_
                refine GL.nilB ?_
                refine GL.region ?_
                refine RL.binI (v := .int .i64 ((i394 + 1 : Nat) : Int)) rfl rfl rfl rfl (binI_succ i394 (by omega)) ?_
                refine RL.mv rfl rfl rfl ?_
                refine RL.fin ?_
                cases h397
                exact fun a w st => lop_intro (i394 + 1, r406, (i394 : Int)) ⟨by show i394 + 1 + r406.length = (y329.2.1).length; simp only [List.length_cons] at h400; omega, h407, h398⟩ (by simp) (St.cut [0, 1, 2, 3, 4] ⟨rfl, rfl, rfl, rfl, rfl, rfl, rfl, rfl, rfl, trivial⟩ (by decide) rfl st)
              · replace h397 := ite_f b434 h397
                refine GL.skip ?_
                refine GL.nilB ?_
                refine GL.region ?_
                refine RL.binI (v := .int .i64 ((i394 + 1 : Nat) : Int)) rfl rfl rfl rfl (binI_succ i394 (by omega)) ?_
                refine RL.mv rfl rfl rfl ?_
                refine RL.fin ?_
                cases h397
                exact fun a w st => lop_intro (i394 + 1, r406, x354) ⟨by show i394 + 1 + r406.length = (y329.2.1).length; simp only [List.length_cons] at h400; omega, h407, h398⟩ (by simp) (St.cut [0, 1, 2, 3, 4] ⟨rfl, rfl, rfl, rfl, rfl, rfl, rfl, rfl, rfl, trivial⟩ (by decide) rfl st)
            · have h403 : ¬ i394 < (y329.2.1).length := by have := of_decide_eq_false b402; omega
              obtain rfl : r395 = [] := by rw [← h401]; exact List.drop_of_length_le (by omega)
              replace h399 : some (Fl.nx _) = some y387 := h399
              cases h399
              exact GL.exit (fun a w st => mid_intro x354 h390 (St.cut [0, 1, 2, 3] ⟨rfl, rfl, rfl, rfl, rfl, rfl, trivial⟩ (by decide) rfl st))
          · rintro x354 h435
            have h436 := h391 _ h435
            try dsimp only at h436
            refine GL.weak (env' := [(1, v1), (8, v163), (9, v165), (10, .int .i64 x166), (11, v332), (12, .int .i64 x354)]) (L' := [imm (TR.sl (TR.pair TR.int (TR.pair (TR.sl TR.int) (TR.sl TR.int)))) v1 x1, own 3 TR.int v163 l162, own 24 (TR.sl TR.int) v165 l164, obox 31 (TR.pair TR.int (TR.pair (TR.sl TR.int) (TR.sl TR.int))) v332 y329]) (fun _ _ st => st) ?_
            refine GL.seq ?_
            refine GL.region ?_
            refine RL.mv rfl rfl rfl ?_
            refine RL.mv rfl rfl rfl ?_
            refine RL.mv rfl rfl rfl ?_
            obtain ⟨y439, e440, h436⟩ := bind_some h436
            refine RL.idxS (sz := 1) 1 Try.underlying24 Try_ln3 rfl rfl rfl rfl rfl SlOf.own (idx_some e440).1 (idx_some e440).2.1 ?_
            refine RL.stS (i := (x166).toNat) (e' := x354) (e1 := x354) (r := TR.int) 1 Try_ln3 rfl rfl rfl rfl VR.int rfl (idx_some e440).2.2 Upd.self ?_
            refine RL.finG ?_
            refine GL.region ?_
            refine RL.mv rfl rfl rfl ?_
            refine RL.mv rfl rfl rfl ?_
            refine RL.bS (t := TR.int) (vs := []) ([] : (List Int)) Try.underlying24 Try_lo3 rfl rfl rfl rfl trivial rfl (by decide) ?_
            intro v453
            refine RL.reL (L' := [imm (TR.sl (TR.pair TR.int (TR.pair (TR.sl TR.int) (TR.sl TR.int)))) v1 x1, own 3 TR.int v163 (List.set l162 ((x166).toNat) x354), own 24 (TR.sl TR.int) v165 l164, obox 31 (TR.pair TR.int (TR.pair (TR.sl TR.int) (TR.sl TR.int))) v332 y329, own 3 TR.int v453 ([] : (List Int))]) rfl ?_
            refine RL.mv rfl rfl rfl ?_
            refine RL.fadr (off := 0) (fo := 1) 3 Try_fld31_1 rfl rfl rfl PtOf.obox (Or.inr ⟨rfl, rfl⟩) ?_
            refine RL.ldP (off := (0 + 1)) (r := (TR.sl TR.int)) (e' := y329.2.1) 3 Try_ln24 rfl rfl (Or.inl rfl) rfl PtOf.obox (Part.snd (Part.fst Part.self)) ?_
            intro v454
            refine RL.mv rfl rfl rfl ?_
            obtain ⟨y455, e456, h436⟩ := bind_some h436
            refine RL.idxS (sz := 1) 5 Try.underlying24 Try_ln3 rfl rfl rfl rfl rfl SlOf.imm (idx_some e456).1 (idx_some e456).2.1 ?_
            refine RL.ldSx (i := (x354).toNat) (e' := y455) 5 Ex.ik Try_ln3 rfl rfl rfl rfl SlOf.imm (idx_some e456).2.2 Part.self ?_
            obtain ⟨y457, e458, h436⟩ := bind_some h436
            refine RL.idxS (sz := 1) 2 Try.underlying25 Try_ln24 rfl rfl rfl rfl rfl SlOf.own (idx_some e458).1 (idx_some e458).2.1 ?_
            refine RL.ldS (i := (y455).toNat) (r := (TR.sl TR.int)) (e' := y457) 2 Try_ln24 rfl rfl rfl rfl SlOf.own (idx_some e458).2.2 Part.self ?_
            intro v459
            refine RL.reL (L' := [imm (TR.sl (TR.pair TR.int (TR.pair (TR.sl TR.int) (TR.sl TR.int)))) v1 x1, own 3 TR.int v163 (List.set l162 ((x166).toNat) x354), own 24 (TR.sl TR.int) v165 l164, obox 31 (TR.pair TR.int (TR.pair (TR.sl TR.int) (TR.sl TR.int))) v332 y329, own 3 TR.int v453 ([] : (List Int)), imm (TR.sl TR.int) v454 y329.2.1, imm (TR.sl TR.int) v459 y457]) rfl ?_
            obtain ⟨y460, e461, h436⟩ := bind_some h436
            replace e461 := chk_some e461
            refine RL.app 4 6 Try.underlying24 Try_lo3 rfl rfl rfl rfl rfl rfl rfl SlOf.imm e461 ?_
            intro v462
            obtain ⟨y463, e464, h436⟩ := bind_some h436
            refine RL.idxS (sz := 1) 2 Try.underlying25 Try_ln24 rfl rfl rfl rfl rfl SlOf.own (idx_some e464).1 (idx_some e464).2.1 ?_
            refine RL.weak (fun a w st => st.freeze 4 rfl) ?_
            refine RL.stS (i := (x166).toNat) (e' := (([] : (List Int)) ++ y457)) (e1 := (([] : (List Int)) ++ y457)) (r := (TR.sl TR.int)) 2 Try_ln24 rfl rfl rfl rfl (VR.item 4 rfl) rfl (idx_some e464).2.2 Upd.self ?_
            refine RL.reL (L' := [imm (TR.sl (TR.pair TR.int (TR.pair (TR.sl TR.int) (TR.sl TR.int)))) v1 x1, own 3 TR.int v163 (List.set l162 ((x166).toNat) x354), own 24 (TR.sl TR.int) v165 (List.set l164 ((x166).toNat) (([] : (List Int)) ++ y457)), obox 31 (TR.pair TR.int (TR.pair (TR.sl TR.int) (TR.sl TR.int))) v332 y329, imm (TR.sl TR.int) v462 (([] : (List Int)) ++ y457), imm (TR.sl TR.int) v454 y329.2.1, imm (TR.sl TR.int) v459 y457]) rfl ?_
            refine RL.finG ?_
            refine GL.nilB ?_
            refine GL.region ?_
            refine RL.mv rfl rfl rfl ?_
            refine RL.binI (v := .int .i64 (wsub x166 (1 : Int))) rfl rfl rfl rfl rfl ?_
            refine RL.asg rfl rfl rfl ?_
            refine RL.finG ?_
            cases h436
            exact fun a w st => lop_intro (r323, (List.set l162 ((x166).toNat) x354), (List.set l164 ((x166).toNat) (([] : (List Int)) ++ y457)), wsub x166 (1 : Int), v163, v165) (by exact h319) (by simp) (St.cut [0, 1, 2] ⟨rfl, rfl, rfl, rfl, trivial⟩ (by decide) rfl st)
      · replace h318 := ite_f b324 h318
        cases h318
        replace h319 : some (Fl.nx _) = some y308 := h319
        cases h319
        exact GL.exit (fun a w st => mid_intro (l162, l164, x166, v163, v165) h311 (St.cut [1, 2] ⟨rfl, rfl, trivial⟩ (by decide) rfl st))
    · rintro ⟨l162, l164, x166, v163, v165⟩ h465
      have h466 := h312 _ h465
      try dsimp only at h466
      refine GL.weak (env' := [(8, v163), (9, v165)]) (L' := [own 3 TR.int v163 l162, own 24 (TR.sl TR.int) v165 l164]) (fun _ _ st => st) ?_
      refine GL.seq ?_
      refine GL.region ?_
      refine RL.mv rfl rfl rfl ?_
      refine RL.mv rfl rfl rfl ?_
      refine RL.asg rfl rfl rfl ?_
      refine RL.asg rfl rfl rfl ?_
      refine RL.asg rfl rfl rfl ?_
      refine RL.finG ?_
      have h466 := Option.some.inj h466
      subst h466
      exact GL.ret (Gx.ret (v := .tuple #[v163, v165, .int .i64 (0 : Int)]) (res3 rfl rfl rfl rfl) (fun a w st => (st.pick [0, 1] (by decide) rfl).toPost (v163, v165)))

set_option maxHeartbeats 4000000 in
theorem slices_Equal_int_int_c (S : Hp) (w : World) (hS : S.sub w) (v0 : Value) (x0 : (List Int)) (k0 : ((TR.sl TR.int)).vrep S v0 x0) (v1 : Value) (x1 : (List Int)) (k1 : ((TR.sl TR.int)).vrep S v1 x1) (res : Bool) (hm : slices_Equal_int_int_m x0 x1 = some res) : Calls Try.prog 19 #[v0, v1] w (PostV w (.bool res)) := by
  refine calls_enter 26 Try.func19 Try.ntmps19 rfl S false [(0, v0), (1, v1)] [imm (TR.sl TR.int) v0 x0, imm (TR.sl TR.int) v1 x1] rfl ⟨rfl, ⟨rfl, trivial⟩⟩ hS ⟨k0, ⟨k1, trivial⟩⟩ ?_
  unfold slices_Equal_int_int_m at hm
  refine GL.seq ?_
  refine GL.region ?_
  refine RL.asg rfl rfl rfl ?_
  refine RL.finG ?_
  refine GL.seq ?_
  refine GL.seq ?_
  refine GL.region ?_
  refine RL.mv rfl rfl rfl ?_
  refine RL.lenS 0 Try.underlying24 rfl rfl rfl rfl SlOf.imm ?_
  refine RL.mv rfl rfl rfl ?_
  refine RL.lenS 1 Try.underlying24 rfl rfl rfl rfl SlOf.imm ?_
  refine RL.binI (v := .bool (((x0).length : Int) != ((x1).length : Int))) rfl rfl rfl rfl rfl ?_
  refine RL.finG ?_
  refine GL.cond rfl (fun b3 => ?_) (fun b3 => ?_)
  · replace hm := ite_t b3 hm
    refine GL.seq ?_
    refine GL.region ?_
    refine RL.asg rfl rfl rfl ?_
    refine RL.finG ?_
    have hm := Option.some.inj hm
    subst hm
    exact GL.ret (Gx.ret (v := .bool false) (res1 rfl rfl) (fun a w st => st.toPostV))
  · replace hm := ite_f b3 hm
    refine GL.skip ?_
    refine GL.seq ?_
    refine GL.seq ?_
    refine GL.region ?_
    refine RL.mv rfl rfl rfl ?_
    refine RL.lenS 0 Try.underlying24 rfl rfl rfl rfl SlOf.imm ?_
    refine RL.mv rfl rfl rfl ?_
    refine RL.finG ?_
    refine GL.open_ 0 rfl (fun S h => len_imm S h) (fun n13 => ?_)
    obtain ⟨y14, K15, h16, h17, h18, h19, h20⟩ := bindR_K hm
    refine GL.join (ι := Unit) (fun (p : Unit) => []) (fun (p : Unit) => []) (fun (p : Unit) => K15 (.nx ())) ?_ ?_
    · refine GL.block ?_
      refine GL.loop (ι := Nat × (List Int)) (fun (p : Nat × (List Int)) => [(0, v0), (1, v1), (12, .int .i64 ((x0).length : Int)), (13, .int .i64 (p.1 : Int))]) (fun (p : Nat × (List Int)) => [imm (TR.sl TR.int) v0 x0, imm (TR.sl TR.int) v1 x1]) (fun (p : Nat × (List Int)) => p.1 + p.2.length = (x0).length ∧ List.drop p.1 x0 = p.2 ∧ rangeL (slices_Equal_int_int_b1 x1) p.2 p.1 () = some y14) (fun (p : Nat × (List Int)) => p.2.length) (0, x0) ⟨by simp, by simp, h16⟩ (fun a w st => St.cut [0, 1] ⟨rfl, rfl, rfl, rfl, trivial⟩ (by decide) rfl st) ?_
      rintro ⟨i21, r22⟩ ⟨h27, h28, h26⟩
      try dsimp only at h27 h28 h26
      refine GL.weak (env' := [(0, v0), (1, v1), (12, .int .i64 ((x0).length : Int)), (13, .int .i64 (i21 : Int))]) (L' := [imm (TR.sl TR.int) v0 x0, imm (TR.sl TR.int) v1 x1]) (fun _ _ st => st) ?_
      refine GL.seq ?_
      refine GL.region ?_
      refine RL.binI (v := .bool (decide ((i21 : Int) < ((x0).length : Int)))) rfl rfl rfl rfl rfl ?_
      refine RL.finG ?_
      refine GL.seq ?_
      refine GL.cond rfl (fun b29 => ?_) (fun b29 => ?_)
      · have h30 : i21 < (x0).length := by have := of_decide_eq_true b29; omega
        obtain ⟨y31, r33, hr, e32, h34⟩ := drop_cons h28 rfl h30
        subst hr
        obtain ⟨z23, h24, h25⟩ := rangeL_some h26
        unfold slices_Equal_int_int_b1 at h24
        try dsimp only at h24
        refine GL.skip ?_
        refine GL.seq ?_
        refine GL.block ?_
        refine GL.seq ?_
        refine GL.region ?_
        refine RL.mv rfl rfl rfl ?_
        refine RL.asg rfl rfl rfl ?_
        refine RL.finG ?_
        refine GL.seq ?_
        refine GL.regionQ rfl rfl (by kernel_rfl) ?_
        refine RL.mv rfl rfl rfl ?_
        refine RL.mv rfl rfl rfl ?_
        refine RL.idxS (sz := 1) 0 Try.underlying24 Try_ln3 rfl rfl rfl rfl rfl SlOf.imm (by omega) (by omega) ?_
        refine RL.ldSx (i := i21) (e' := y31) 0 Ex.ik Try_ln3 rfl rfl rfl rfl SlOf.imm e32 Part.self ?_
        refine RL.mv rfl rfl rfl ?_
        refine RL.mv rfl rfl rfl ?_
        obtain ⟨y37, e38, h24⟩ := bind_some h24
        refine RL.idxS (sz := 1) 1 Try.underlying24 Try_ln3 rfl rfl rfl rfl rfl SlOf.imm (idx_some e38).1 (idx_some e38).2.1 ?_
        refine RL.ldSx (i := i21) (e' := y37) 1 Ex.ik Try_ln3 rfl rfl rfl rfl SlOf.imm (idx_some e38).2.2 Part.self ?_
        refine RL.binI (v := .bool (y31 != y37)) rfl rfl rfl rfl rfl ?_
        refine RL.finQG ?_
        refine GL.cond rfl (fun b39 => ?_) (fun b39 => ?_)
        · replace h24 := ite_t b39 h24
          refine GL.seq ?_
          refine GL.region ?_
          refine RL.asg rfl rfl rfl ?_
          refine RL.finG ?_
          cases h24
          replace h25 : some (Fl.rt _) = some y14 := h25
          cases h25
          have hh := h19 _ h17
          subst hh
          exact GL.ret (Gx.ret (v := .bool false) (res1 rfl rfl) (fun a w st => st.toPostV))
        · replace h24 := ite_f b39 h24
          refine GL.skip ?_
          refine GL.nilB ?_
          refine GL.region ?_
          refine RL.binI (v := .int .i64 ((i21 + 1 : Nat) : Int)) rfl rfl rfl rfl (binI_succ i21 (by omega)) ?_
          refine RL.mv rfl rfl rfl ?_
          refine RL.fin ?_
          cases h24
          exact fun a w st => lop_intro (i21 + 1, r33) ⟨by show i21 + 1 + r33.length = (x0).length; simp only [List.length_cons] at h27; omega, h34, h25⟩ (by simp) (St.cut [0, 1] ⟨rfl, rfl, rfl, rfl, trivial⟩ (by decide) rfl st)
      · have h30 : ¬ i21 < (x0).length := by have := of_decide_eq_false b29; omega
        obtain rfl : r22 = [] := by rw [← h28]; exact List.drop_of_length_le (by omega)
        replace h26 : some (Fl.nx _) = some y14 := h26
        cases h26
        exact GL.exit (fun a w st => mid_intro () h17 (St.cut [] trivial (by decide) rfl st))
    · rintro ⟨⟩ h40
      have h41 := h18 _ h40
      try dsimp only at h41
      refine GL.weak (env' := []) (L' := []) (fun _ _ st => st) ?_
      refine GL.seq ?_
      refine GL.region ?_
      refine RL.asg rfl rfl rfl ?_
      refine RL.finG ?_
      have h41 := Option.some.inj h41
      subst h41
      exact GL.ret (Gx.ret (v := .bool true) (res1 rfl rfl) (fun a w st => st.toPostV))

set_option maxHeartbeats 4000000 in
theorem pk_trees_c (S : Hp) (w : World) (hS : S.sub w)  (res : Bool) (hm : pk_trees_m = some res) : Calls Try.prog 15 #[] w (PostV w (.bool res)) := by
  refine calls_enter 35 Try.func15 Try.ntmps15 rfl S false [] [] rfl trivial hS trivial ?_
  unfold pk_trees_m at hm
  refine GL.seq ?_
  refine GL.region ?_
  refine RL.asg rfl rfl rfl ?_
  refine RL.finG ?_
  refine GL.seq ?_
  refine GL.region ?_
  refine RL.bS (t := TR.int) (vs := [.int .i64 (1 : Int), .int .i64 (2 : Int)]) ([(1 : Int), (2 : Int)] : (List Int)) Try.underlying24 Try_lo3 rfl rfl rfl rfl ⟨VR.int, ⟨VR.int, trivial⟩⟩ rfl (by decide) ?_
  intro v12
  refine RL.weak (fun a w st => st.freeze 0 rfl) ?_
  refine RL.bld (t := (TR.pair TR.int (TR.pair (TR.sl TR.int) (TR.sl TR.int)))) (d0 := (((0 : Int), ([(1 : Int), (2 : Int)] : (List Int)), ([] : (List Int))) : (Int × ((List Int) × (List Int))))) (pv := [(1, v12)]) rfl Try_bld31 rfl rfl rfl ⟨⟨_, _, (TR.sl TR.int), ([(1 : Int), (2 : Int)] : (List Int)), rfl, rfl, (VR.item 0 rfl)⟩, trivial⟩ (fun S f hi => by
      obtain ⟨c1, e1, r1⟩ := cells_vrep (t := (TR.sl TR.int)) (u := v12) (e := ([(1 : Int), (2 : Int)] : (List Int))) ((VR.item 0 rfl) S f hi)
      show TR.rep (TR.pair TR.int (TR.pair (TR.sl TR.int) (TR.sl TR.int))) S (List.flatten [[.int .i64 0], (v12 : Value).cells.toList, [.slice none 0 0]]) _
      simp only [e1,  List.flatten_cons, List.flatten_nil, List.append_nil]
      exact ⟨_, _, rfl, rfl, ⟨_, _, rfl, r1, ⟨_, [], rfl, ⟨none, 0, rfl, Nat.le_refl _, Nat.zero_le _, Or.inl ⟨rfl, rfl⟩⟩, rfl⟩⟩⟩) ?_
  intro v13
  refine RL.reL (L' := [imm (TR.sl TR.int) v12 ([(1 : Int), (2 : Int)] : (List Int)), imm (TR.pair TR.int (TR.pair (TR.sl TR.int) (TR.sl TR.int))) v13 (((0 : Int), ([(1 : Int), (2 : Int)] : (List Int)), ([] : (List Int))) : (Int × ((List Int) × (List Int))))]) rfl ?_
  refine RL.bS (t := TR.int) (vs := [.int .i64 (1 : Int)]) ([(1 : Int)] : (List Int)) Try.underlying24 Try_lo3 rfl rfl rfl rfl ⟨VR.int, trivial⟩ rfl (by decide) ?_
  intro v14
  refine RL.weak (fun a w st => st.freeze 2 rfl) ?_
  refine RL.bld (t := (TR.pair TR.int (TR.pair (TR.sl TR.int) (TR.sl TR.int)))) (d0 := (((-1 : Int), ([] : (List Int)), ([(1 : Int)] : (List Int))) : (Int × ((List Int) × (List Int))))) (pv := [(0, .int .i64 (-1 : Int)), (2, v14)]) rfl Try_bld31 rfl rfl rfl ⟨⟨_, _, TR.int, (-1 : Int), rfl, rfl, VR.int⟩, ⟨⟨_, _, (TR.sl TR.int), ([(1 : Int)] : (List Int)), rfl, rfl, (VR.item 2 rfl)⟩, trivial⟩⟩ (fun S f hi => by
      obtain ⟨c0, e0, r0⟩ := cells_vrep (t := TR.int) (u := .int .i64 (-1 : Int)) (e := (-1 : Int)) (VR.int S f hi)
      obtain ⟨c2, e2, r2⟩ := cells_vrep (t := (TR.sl TR.int)) (u := v14) (e := ([(1 : Int)] : (List Int))) ((VR.item 2 rfl) S f hi)
      show TR.rep (TR.pair TR.int (TR.pair (TR.sl TR.int) (TR.sl TR.int))) S (List.flatten [(.int .i64 (-1 : Int) : Value).cells.toList, [.slice none 0 0], (v14 : Value).cells.toList]) _
      simp only [e0, e2,  List.flatten_cons, List.flatten_nil, List.append_nil]
      exact ⟨_, _, rfl, r0, ⟨_, _, rfl, ⟨_, [], rfl, ⟨none, 0, rfl, Nat.le_refl _, Nat.zero_le _, Or.inl ⟨rfl, rfl⟩⟩, rfl⟩, r2⟩⟩) ?_
  intro v15
  refine RL.reL (L' := [imm (TR.sl TR.int) v12 ([(1 : Int), (2 : Int)] : (List Int)), imm (TR.pair TR.int (TR.pair (TR.sl TR.int) (TR.sl TR.int))) v13 (((0 : Int), ([(1 : Int), (2 : Int)] : (List Int)), ([] : (List Int))) : (Int × ((List Int) × (List Int)))), imm (TR.sl TR.int) v14 ([(1 : Int)] : (List Int)), imm (TR.pair TR.int (TR.pair (TR.sl TR.int) (TR.sl TR.int))) v15 (((-1 : Int), ([] : (List Int)), ([(1 : Int)] : (List Int))) : (Int × ((List Int) × (List Int))))]) rfl ?_
  refine RL.bS (t := TR.int) (vs := [.int .i64 (2 : Int)]) ([(2 : Int)] : (List Int)) Try.underlying24 Try_lo3 rfl rfl rfl rfl ⟨VR.int, trivial⟩ rfl (by decide) ?_
  intro v16
  refine RL.weak (fun a w st => st.freeze 4 rfl) ?_
  refine RL.bld (t := (TR.pair TR.int (TR.pair (TR.sl TR.int) (TR.sl TR.int)))) (d0 := (((-1 : Int), ([] : (List Int)), ([(2 : Int)] : (List Int))) : (Int × ((List Int) × (List Int))))) (pv := [(0, .int .i64 (-1 : Int)), (2, v16)]) rfl Try_bld31 rfl rfl rfl ⟨⟨_, _, TR.int, (-1 : Int), rfl, rfl, VR.int⟩, ⟨⟨_, _, (TR.sl TR.int), ([(2 : Int)] : (List Int)), rfl, rfl, (VR.item 4 rfl)⟩, trivial⟩⟩ (fun S f hi => by
      obtain ⟨c0, e0, r0⟩ := cells_vrep (t := TR.int) (u := .int .i64 (-1 : Int)) (e := (-1 : Int)) (VR.int S f hi)
      obtain ⟨c2, e2, r2⟩ := cells_vrep (t := (TR.sl TR.int)) (u := v16) (e := ([(2 : Int)] : (List Int))) ((VR.item 4 rfl) S f hi)
      show TR.rep (TR.pair TR.int (TR.pair (TR.sl TR.int) (TR.sl TR.int))) S (List.flatten [(.int .i64 (-1 : Int) : Value).cells.toList, [.slice none 0 0], (v16 : Value).cells.toList]) _
      simp only [e0, e2,  List.flatten_cons, List.flatten_nil, List.append_nil]
      exact ⟨_, _, rfl, r0, ⟨_, _, rfl, ⟨_, [], rfl, ⟨none, 0, rfl, Nat.le_refl _, Nat.zero_le _, Or.inl ⟨rfl, rfl⟩⟩, rfl⟩, r2⟩⟩) ?_
  intro v17
  refine RL.reL (L' := [imm (TR.sl TR.int) v12 ([(1 : Int), (2 : Int)] : (List Int)), imm (TR.pair TR.int (TR.pair (TR.sl TR.int) (TR.sl TR.int))) v13 (((0 : Int), ([(1 : Int), (2 : Int)] : (List Int)), ([] : (List Int))) : (Int × ((List Int) × (List Int)))), imm (TR.sl TR.int) v14 ([(1 : Int)] : (List Int)), imm (TR.pair TR.int (TR.pair (TR.sl TR.int) (TR.sl TR.int))) v15 (((-1 : Int), ([] : (List Int)), ([(1 : Int)] : (List Int))) : (Int × ((List Int) × (List Int)))), imm (TR.sl TR.int) v16 ([(2 : Int)] : (List Int)), imm (TR.pair TR.int (TR.pair (TR.sl TR.int) (TR.sl TR.int))) v17 (((-1 : Int), ([] : (List Int)), ([(2 : Int)] : (List Int))) : (Int × ((List Int) × (List Int))))]) rfl ?_
  refine RL.bS (t := (TR.pair TR.int (TR.pair (TR.sl TR.int) (TR.sl TR.int)))) (vs := [v13, v15, v17]) ([(((0 : Int), ([(1 : Int), (2 : Int)] : (List Int)), ([] : (List Int))) : (Int × ((List Int) × (List Int)))), (((-1 : Int), ([] : (List Int)), ([(1 : Int)] : (List Int))) : (Int × ((List Int) × (List Int)))), (((-1 : Int), ([] : (List Int)), ([(2 : Int)] : (List Int))) : (Int × ((List Int) × (List Int))))] : (List (Int × ((List Int) × (List Int))))) Try.underlying22 Try_lo31 rfl rfl rfl rfl ⟨(VR.item 1 rfl), ⟨(VR.item 3 rfl), ⟨(VR.item 5 rfl), trivial⟩⟩⟩ rfl (by decide) ?_
  intro v18
  refine RL.weak (fun a w st => st.freeze 6 rfl) ?_
  obtain ⟨y19, e20, hm⟩ := bind_some hm
  refine RL.call (vs := [.int .i64 (1 : Int), v18]) Try_fit16 rfl rfl rfl rfl rfl (fun S f w hS hW hi => tree_Solve_c S w hS (1 : Int) _ _ (hi 6 _ rfl) _ e20) ?_
  intro ⟨v21, v22⟩
  refine RL.reL (L' := [imm (TR.sl TR.int) v12 ([(1 : Int), (2 : Int)] : (List Int)), imm (TR.pair TR.int (TR.pair (TR.sl TR.int) (TR.sl TR.int))) v13 (((0 : Int), ([(1 : Int), (2 : Int)] : (List Int)), ([] : (List Int))) : (Int × ((List Int) × (List Int)))), imm (TR.sl TR.int) v14 ([(1 : Int)] : (List Int)), imm (TR.pair TR.int (TR.pair (TR.sl TR.int) (TR.sl TR.int))) v15 (((-1 : Int), ([] : (List Int)), ([(1 : Int)] : (List Int))) : (Int × ((List Int) × (List Int)))), imm (TR.sl TR.int) v16 ([(2 : Int)] : (List Int)), imm (TR.pair TR.int (TR.pair (TR.sl TR.int) (TR.sl TR.int))) v17 (((-1 : Int), ([] : (List Int)), ([(2 : Int)] : (List Int))) : (Int × ((List Int) × (List Int)))), imm (TR.sl (TR.pair TR.int (TR.pair (TR.sl TR.int) (TR.sl TR.int)))) v18 ([(((0 : Int), ([(1 : Int), (2 : Int)] : (List Int)), ([] : (List Int))) : (Int × ((List Int) × (List Int)))), (((-1 : Int), ([] : (List Int)), ([(1 : Int)] : (List Int))) : (Int × ((List Int) × (List Int)))), (((-1 : Int), ([] : (List Int)), ([(2 : Int)] : (List Int))) : (Int × ((List Int) × (List Int))))] : (List (Int × ((List Int) × (List Int))))), own 3 TR.int v21 y19.1, own 24 (TR.sl TR.int) v22 y19.2.1]) rfl ?_
  refine RL.mv rfl rfl rfl ?_
  refine RL.ext rfl rfl rfl rfl ?_
  refine RL.ext rfl rfl rfl rfl ?_
  refine RL.ext rfl rfl rfl rfl ?_
  refine RL.asg rfl rfl rfl ?_
  refine RL.asg rfl rfl rfl ?_
  refine RL.asg rfl rfl rfl ?_
  refine RL.finG ?_
  refine GL.seq ?_
  obtain ⟨y48, K49, h50, h51, h52, h53, h54⟩ := bindR_K hm
  refine GL.join (ι := Bool) (fun (p : Bool) => [(0, .bool p)]) (fun (p : Bool) => []) (fun (p : Bool) => K49 (.nx p)) ?_ ?_
  · skip
    refine GL.region ?_
    refine RL.mv rfl rfl rfl ?_
    refine RL.binI (v := .bool (y19.2.2 == (0 : Int))) rfl rfl rfl rfl rfl ?_
    refine RL.mv rfl rfl rfl ?_
    refine RL.split (t := 18) rfl (fun b55 => ?_) (fun b55 => ?_)
    · replace h50 := ite_t b55 h50
      refine RL.mv rfl rfl rfl ?_
      refine RL.bS (t := TR.int) (vs := [.int .i64 (1 : Int), .int .i64 (-1 : Int), .int .i64 (-1 : Int)]) ([(1 : Int), (-1 : Int), (-1 : Int)] : (List Int)) Try.underlying24 Try_lo3 rfl rfl rfl rfl ⟨VR.int, ⟨VR.int, ⟨VR.int, trivial⟩⟩⟩ rfl (by decide) ?_
      intro v56
      obtain ⟨y57, e58, h50⟩ := bind_some h50
      refine RL.callV (v := .bool y57) (vs := [v21, v56]) Try_fit19 rfl (Or.inl rfl) rfl rfl rfl rfl (fun U w hU hW hL => slices_Equal_int_int_c U w hU _ _ (hL 7 _ _ rfl Seen.own) _ _ (hL 9 _ _ rfl Seen.own) _ e58) ?_
      refine RL.pickT rfl rfl rfl rfl ?_
      refine RL.mv rfl rfl rfl ?_
      refine RL.split (t := 23) rfl (fun b59 => ?_) (fun b59 => ?_)
      · replace h50 := ite_t b59 h50
        refine RL.mv rfl rfl rfl ?_
        refine RL.lenS 8 Try.underlying25 rfl rfl rfl rfl SlOf.own ?_
        refine RL.binI (v := .bool (((y19.2.1).length : Int) == (3 : Int))) rfl rfl rfl rfl rfl ?_
        refine RL.pickT rfl rfl rfl rfl ?_
        refine RL.mv rfl rfl rfl ?_
        refine RL.split (t := 28) rfl (fun b60 => ?_) (fun b60 => ?_)
        · replace h50 := ite_t b60 h50
          refine RL.mv rfl rfl rfl ?_
          obtain ⟨y61, e62, h50⟩ := bind_some h50
          refine RL.idxS (sz := 1) 8 Try.underlying25 Try_ln24 rfl rfl rfl rfl rfl SlOf.own (idx_some e62).1 (idx_some e62).2.1 ?_
          refine RL.ldS (i := ((0 : Int)).toNat) (r := (TR.sl TR.int)) (e' := y61) 8 Try_ln24 rfl rfl rfl rfl SlOf.own (idx_some e62).2.2 Part.self ?_
          intro v63
          refine RL.reL (L' := [imm (TR.sl TR.int) v12 ([(1 : Int), (2 : Int)] : (List Int)), imm (TR.pair TR.int (TR.pair (TR.sl TR.int) (TR.sl TR.int))) v13 (((0 : Int), ([(1 : Int), (2 : Int)] : (List Int)), ([] : (List Int))) : (Int × ((List Int) × (List Int)))), imm (TR.sl TR.int) v14 ([(1 : Int)] : (List Int)), imm (TR.pair TR.int (TR.pair (TR.sl TR.int) (TR.sl TR.int))) v15 (((-1 : Int), ([] : (List Int)), ([(1 : Int)] : (List Int))) : (Int × ((List Int) × (List Int)))), imm (TR.sl TR.int) v16 ([(2 : Int)] : (List Int)), imm (TR.pair TR.int (TR.pair (TR.sl TR.int) (TR.sl TR.int))) v17 (((-1 : Int), ([] : (List Int)), ([(2 : Int)] : (List Int))) : (Int × ((List Int) × (List Int)))), imm (TR.sl (TR.pair TR.int (TR.pair (TR.sl TR.int) (TR.sl TR.int)))) v18 ([(((0 : Int), ([(1 : Int), (2 : Int)] : (List Int)), ([] : (List Int))) : (Int × ((List Int) × (List Int)))), (((-1 : Int), ([] : (List Int)), ([(1 : Int)] : (List Int))) : (Int × ((List Int) × (List Int)))), (((-1 : Int), ([] : (List Int)), ([(2 : Int)] : (List Int))) : (Int × ((List Int) × (List Int))))] : (List (Int × ((List Int) × (List Int))))), own 3 TR.int v21 y19.1, own 24 (TR.sl TR.int) v22 y19.2.1, own 3 TR.int v56 ([(1 : Int), (-1 : Int), (-1 : Int)] : (List Int)), imm (TR.sl TR.int) v63 y61]) rfl ?_
          refine RL.bS (t := TR.int) (vs := [.int .i64 (2 : Int)]) ([(2 : Int)] : (List Int)) Try.underlying24 Try_lo3 rfl rfl rfl rfl ⟨VR.int, trivial⟩ rfl (by decide) ?_
          intro v64
          obtain ⟨y65, e66, h50⟩ := bind_some h50
          refine RL.callV (v := .bool y65) (vs := [v63, v64]) Try_fit19 rfl (Or.inl rfl) rfl rfl rfl rfl (fun U w hU hW hL => slices_Equal_int_int_c U w hU _ _ (hL 10 _ _ rfl Seen.imm) _ _ (hL 11 _ _ rfl Seen.own) _ e66) ?_
          refine RL.pickT rfl rfl rfl rfl ?_
          refine RL.asg rfl rfl rfl ?_
          refine RL.fin ?_
          cases h50
          exact fun a w st => mid_intro y65 h51 (St.cut [] ⟨rfl, trivial⟩ (by decide) rfl st)
        · replace h50 := ite_f b60 h50
          refine RL.skip rfl rfl ?_
          refine RL.skip rfl rfl ?_
          refine RL.skip rfl rfl ?_
          refine RL.skip rfl rfl ?_
          refine RL.skip rfl rfl ?_
          refine RL.pickF rfl rfl rfl rfl ?_
          refine RL.asg rfl rfl rfl ?_
          refine RL.fin ?_
          cases h50
          exact fun a w st => mid_intro false h51 (St.cut [] ⟨rfl, trivial⟩ (by decide) rfl st)
      · replace h50 := ite_f b59 h50
        refine RL.skip rfl rfl ?_
        refine RL.skip rfl rfl ?_
        refine RL.skip rfl rfl ?_
        refine RL.pickF rfl rfl rfl rfl ?_
        refine RL.mv rfl rfl rfl ?_
        refine RL.skip rfl rfl ?_
        refine RL.skip rfl rfl ?_
        refine RL.skip rfl rfl ?_
        refine RL.skip rfl rfl ?_
        refine RL.skip rfl rfl ?_
        refine RL.pickF rfl rfl rfl rfl ?_
        refine RL.asg rfl rfl rfl ?_
        refine RL.fin ?_
        cases h50
        exact fun a w st => mid_intro false h51 (St.cut [] ⟨rfl, trivial⟩ (by decide) rfl st)
    · replace h50 := ite_f b55 h50
      refine RL.skip rfl rfl ?_
      refine RL.skip rfl rfl ?_
      refine RL.skip rfl rfl ?_
      refine RL.pickF rfl rfl rfl rfl ?_
      refine RL.mv rfl rfl rfl ?_
      refine RL.skip rfl rfl ?_
      refine RL.skip rfl rfl ?_
      refine RL.skip rfl rfl ?_
      refine RL.pickF rfl rfl rfl rfl ?_
      refine RL.mv rfl rfl rfl ?_
      refine RL.skip rfl rfl ?_
      refine RL.skip rfl rfl ?_
      refine RL.skip rfl rfl ?_
      refine RL.skip rfl rfl ?_
      refine RL.skip rfl rfl ?_
      refine RL.pickF rfl rfl rfl rfl ?_
      refine RL.asg rfl rfl rfl ?_
      refine RL.fin ?_
      cases h50
      exact fun a w st => mid_intro false h51 (St.cut [] ⟨rfl, trivial⟩ (by decide) rfl st)
  · rintro x47 h67
    have h68 := h52 _ h67
    try dsimp only at h68
    refine GL.weak (env' := [(0, .bool x47)]) (L' := []) (fun _ _ st => st) ?_
    have h68 := Option.some.inj h68
    subst h68
    exact GL.ret (Gx.ret (v := .bool x47) (res1 rfl rfl) (fun a w st => st.toPostV))

set_option maxHeartbeats 4000000 in
theorem slices_Clone_api_Node_api_Node_c (S : Hp) (w : World) (hS : S.sub w) (v0 : Value) (x0 : List (Int × ((List Int) × (List Int)))) (k0 : (TR.sl (TR.pair TR.int (TR.pair (TR.sl TR.int) (TR.sl TR.int)))).vrep S v0 x0) (res : List (Int × ((List Int) × (List Int)))) (hm : slices_Clone_api_Node_api_Node_m x0 = some res) : Calls Try.prog 27 #[v0] w (Post w S (fun (o : Value) => o) (fun (o : Value) => [own 31 (TR.pair TR.int (TR.pair (TR.sl TR.int) (TR.sl TR.int))) o res])) := by
  refine calls_enter 8 Try.func27 Try.ntmps27 rfl S false [(0, v0)] [imm (TR.sl (TR.pair TR.int (TR.pair (TR.sl TR.int) (TR.sl TR.int)))) v0 x0] rfl ⟨rfl, trivial⟩ hS ⟨k0, trivial⟩ ?_
  unfold slices_Clone_api_Node_api_Node_m at hm
  obtain ⟨_, hc, hm⟩ := bind_some hm
  replace hc := chk_some hc
  have hm := Option.some.inj hm
  subst hm
  refine GL.seq (GL.region (RL.asg rfl rfl rfl (RL.finG (GL.seq (GL.seq (GL.region ?_))))))
  refine RL.mv rfl rfl rfl ?_
  refine RL.eqNil 0 Try.underlying22 rfl rfl rfl rfl rfl SlOf.imm (fun b hb => ?_)
  refine RL.finG (GL.cond rfl (fun h => ?_) (fun h => ?_))
  · have := hb h
    subst this
    refine GL.seq (GL.region (RL.asg rfl rfl rfl (RL.finG ?_)))
    refine GL.weak (fun a w st => st.nilOwn 31 (TR.pair TR.int (TR.pair (TR.sl TR.int) (TR.sl TR.int)))) ?_
    exact GL.ret (Gx.ret (v := Value.slice none 0 0) (res1 rfl rfl) (fun a w st => (st.pick [1] (by decide) rfl).toPost (Value.slice none 0 0)))
  · refine GL.skip (GL.seq (GL.region ?_))
    refine RL.bS (t := (TR.pair TR.int (TR.pair (TR.sl TR.int) (TR.sl TR.int)))) (vs := []) ([] : List (Int × ((List Int) × (List Int)))) Try.underlying22 Try_lo31 rfl rfl rfl rfl trivial rfl (by decide) ?_
    intro v1
    refine RL.mv rfl rfl rfl ?_
    refine RL.app 1 0 Try.underlying22 Try_lo31 rfl rfl rfl rfl rfl rfl rfl SlOf.imm (by simpa using hc) ?_
    intro v2
    refine RL.asg rfl rfl rfl (RL.finG ?_)
    exact GL.ret (Gx.ret (v := v2) (res1 rfl rfl) (fun a w st => (st.pick [1] (by decide) rfl).toPost v2))

set_option maxHeartbeats 4000000 in
theorem slices_Clone_int_int_c (S : Hp) (w : World) (hS : S.sub w) (v0 : Value) (x0 : List Int) (k0 : (TR.sl TR.int).vrep S v0 x0) (res : List Int) (hm : slices_Clone_int_int_m x0 = some res) : Calls Try.prog 18 #[v0] w (Post w S (fun (o : Value) => o) (fun (o : Value) => [own 3 TR.int o res])) := by
  refine calls_enter 8 Try.func18 Try.ntmps18 rfl S false [(0, v0)] [imm (TR.sl TR.int) v0 x0] rfl ⟨rfl, trivial⟩ hS ⟨k0, trivial⟩ ?_
  unfold slices_Clone_int_int_m at hm
  obtain ⟨_, hc, hm⟩ := bind_some hm
  replace hc := chk_some hc
  have hm := Option.some.inj hm
  subst hm
  refine GL.seq (GL.region (RL.asg rfl rfl rfl (RL.finG (GL.seq (GL.seq (GL.region ?_))))))
  refine RL.mv rfl rfl rfl ?_
  refine RL.eqNil 0 Try.underlying24 rfl rfl rfl rfl rfl SlOf.imm (fun b hb => ?_)
  refine RL.finG (GL.cond rfl (fun h => ?_) (fun h => ?_))
  · have := hb h
    subst this
    refine GL.seq (GL.region (RL.asg rfl rfl rfl (RL.finG ?_)))
    refine GL.weak (fun a w st => st.nilOwn 3 TR.int) ?_
    exact GL.ret (Gx.ret (v := Value.slice none 0 0) (res1 rfl rfl) (fun a w st => (st.pick [1] (by decide) rfl).toPost (Value.slice none 0 0)))
  · refine GL.skip (GL.seq (GL.region ?_))
    refine RL.bS (t := TR.int) (vs := []) ([] : List Int) Try.underlying24 Try_lo3 rfl rfl rfl rfl trivial rfl (by decide) ?_
    intro v1
    refine RL.mv rfl rfl rfl ?_
    refine RL.app 1 0 Try.underlying24 Try_lo3 rfl rfl rfl rfl rfl rfl rfl SlOf.imm (by simpa using hc) ?_
    intro v2
    refine RL.asg rfl rfl rfl (RL.finG ?_)
    exact GL.ret (Gx.ret (v := v2) (res1 rfl rfl) (fun a w st => (st.pick [1] (by decide) rfl).toPost v2))

set_option maxHeartbeats 4000000 in
theorem ref_Rest_c (S : Hp) (w : World) (hS : S.sub w) (x0 : Int) (x1 : Int) (res : Int) (hm : ref_Rest_m x0 x1 = some res) : Calls Try.prog 43 #[.int .i64 x0, .int .i64 x1] w (PostC w (.int .i64 res)) := by
  refine calls_enter 14 Try.func43 Try.ntmps43 rfl S true [(0, .int .i64 x0), (1, .int .i64 x1)] [] rfl ⟨rfl, ⟨rfl, trivial⟩⟩ hS trivial ?_
  unfold ref_Rest_m at hm
  refine GL.seq ?_
  refine GL.region ?_
  refine RL.asg rfl rfl rfl ?_
  refine RL.finG ?_
  refine GL.seq ?_
  refine GL.region ?_
  refine RL.mv rfl rfl rfl ?_
  refine RL.mv rfl rfl rfl ?_
  obtain ⟨y5, e6, hm⟩ := bind_some hm
  replace e6 := chk_some e6
  refine RL.rem rfl rfl rfl rfl e6 ?_
  refine RL.asg rfl rfl rfl ?_
  refine RL.finG ?_
  refine GL.seq ?_
  refine GL.seq ?_
  refine GL.region ?_
  refine RL.mv rfl rfl rfl ?_
  refine RL.binI (v := .bool (decide ((Int.tmod x0 x1) < (0 : Int)))) rfl rfl rfl rfl rfl ?_
  refine RL.finG ?_
  obtain ⟨y9, K10, h11, h12, h13, h14, h15⟩ := bindR_K hm
  refine GL.join (ι := Int) (fun (p : Int) => [(0, .int .i64 p)]) (fun (p : Int) => []) (fun (p : Int) => K10 (.nx p)) ?_ ?_
  · skip
    refine GL.cond rfl (fun b16 => ?_) (fun b16 => ?_)
    · replace h11 := ite_t b16 h11
      refine GL.region ?_
      refine RL.mv rfl rfl rfl ?_
      refine RL.mv rfl rfl rfl ?_
      refine RL.binI (v := .int .i64 (wadd (Int.tmod x0 x1) x1)) rfl rfl rfl rfl rfl ?_
      refine RL.asg rfl rfl rfl ?_
      refine RL.finG ?_
      cases h11
      exact fun a w st => mid_intro (wadd (Int.tmod x0 x1) x1) h12 (St.cut [] ⟨rfl, trivial⟩ (by decide) rfl st)
    · replace h11 := ite_f b16 h11
      refine GL.skip ?_
      cases h11
      exact fun a w st => mid_intro (Int.tmod x0 x1) h12 (St.cut [] ⟨rfl, trivial⟩ (by decide) rfl st)
  · rintro x8 h17
    have h18 := h13 _ h17
    try dsimp only at h18
    refine GL.weak (env' := [(0, .int .i64 x8)]) (L' := []) (fun _ _ st => st) ?_
    refine GL.seq ?_
    refine GL.region ?_
    refine RL.mv rfl rfl rfl ?_
    refine RL.asg rfl rfl rfl ?_
    refine RL.finG ?_
    have h18 := Option.some.inj h18
    subst h18
    exact GL.ret (Gx.ret (v := .int .i64 x8) (res1 rfl rfl) (fun a w st => st.toPostC rfl))

set_option maxHeartbeats 4000000 in
theorem pk_Within_c (S : Hp) (w : World) (hS : S.sub w) (x0 : Int) (x1 : Int) (res : Int) (hm : pk_Within_m x0 x1 = some res) : Calls Try.prog 17 #[.int .i64 x0, .int .i64 x1] w (PostC w (.int .i64 res)) := by
  refine calls_enter 8 Try.func17 Try.ntmps17 rfl S true [(0, .int .i64 x0), (1, .int .i64 x1)] [] rfl ⟨rfl, ⟨rfl, trivial⟩⟩ hS trivial ?_
  unfold pk_Within_m at hm
  refine GL.seq ?_
  refine GL.region ?_
  refine RL.asg rfl rfl rfl ?_
  refine RL.finG ?_
  refine GL.seq ?_
  refine GL.region ?_
  refine RL.mv rfl rfl rfl ?_
  refine RL.mv rfl rfl rfl ?_
  obtain ⟨y5, e6, hm⟩ := bind_some hm
  refine RL.callC (v := .int .i64 y5) (vs := [.int .i64 x0, .int .i64 x1]) Try_fit43 rfl rfl rfl rfl (fun U w hU hW hL => ref_Rest_c U w hU x0 x1 _ e6) ?_
  refine RL.asg rfl rfl rfl ?_
  refine RL.finG ?_
  have hm := Option.some.inj hm
  subst hm
  exact GL.ret (Gx.ret (v := .int .i64 y5) (res1 rfl rfl) (fun a w st => st.toPostC rfl))

set_option maxHeartbeats 4000000 in
theorem tree_Play_c (S : Hp) (w : World) (hS : S.sub w) (x0 : Int) (v1 : Value) (x1 : (List (Int × ((List Int) × (List Int))))) (k1 : ((TR.sl (TR.pair TR.int (TR.pair (TR.sl TR.int) (TR.sl TR.int))))).vrep S v1 x1) (v2 : Value) (x2 : (List Int)) (k2 : ((TR.sl TR.int)).vrep S v2 x2) (res : (List Int) × (List Int) × Int) (hm : tree_Play_m x0 x1 x2 = some res) : Calls Try.prog 21 #[.int .i64 x0, v1, v2] w (Post w S (fun (o : Value × Value) => .tuple #[o.1, o.2, .int .i64 res.2.2]) (fun (o : Value × Value) => [own 3 TR.int o.1 res.1, own 3 TR.int o.2 res.2.1])) := by
  refine calls_enter 67 Try.func21 Try.ntmps21 rfl S false [(0, .int .i64 x0), (1, v1), (2, v2)] [imm (TR.sl (TR.pair TR.int (TR.pair (TR.sl TR.int) (TR.sl TR.int)))) v1 x1, imm (TR.sl TR.int) v2 x2] rfl ⟨rfl, ⟨rfl, ⟨rfl, trivial⟩⟩⟩ hS ⟨k1, ⟨k2, trivial⟩⟩ ?_
  unfold tree_Play_m at hm
  refine GL.seq ?_
  refine GL.region ?_
  refine RL.asg rfl rfl rfl ?_
  refine RL.asg rfl rfl rfl ?_
  refine RL.asg rfl rfl rfl ?_
  refine RL.finG ?_
  refine GL.seq ?_
  refine GL.seq ?_
  refine GL.region ?_
  refine RL.mv rfl rfl rfl ?_
  refine RL.mv rfl rfl rfl ?_
  obtain ⟨y6, e7, hm⟩ := bind_some hm
  refine RL.callV (v := .int .i64 y6) (vs := [.int .i64 x0, v1]) Try_fit42 rfl (Or.inl rfl) rfl rfl rfl rfl (fun U w hU hW hL => tree_Check_c U w hU x0 _ _ (hL 0 _ _ rfl Seen.imm) _ e7) ?_
  refine RL.asg rfl rfl rfl ?_
  refine RL.finG ?_
  refine GL.seq ?_
  refine GL.region ?_
  refine RL.mv rfl rfl rfl ?_
  refine RL.binI (v := .bool (y6 != (0 : Int))) rfl rfl rfl rfl rfl ?_
  refine RL.finG ?_
  refine GL.cond rfl (fun b8 => ?_) (fun b8 => ?_)
  · replace hm := ite_t b8 hm
    refine GL.seq ?_
    refine GL.region ?_
    refine RL.mv rfl rfl rfl ?_
    refine RL.asg rfl rfl rfl ?_
    refine RL.asg rfl rfl rfl ?_
    refine RL.asg rfl rfl rfl ?_
    refine RL.finG ?_
    refine GL.weak (fun a w st => st.nilOwn 3 TR.int) ?_
    refine GL.weak (fun a w st => st.nilOwn 3 TR.int) ?_
    have hm := Option.some.inj hm
    subst hm
    exact GL.ret (Gx.ret (v := .tuple #[Value.slice none 0 0, Value.slice none 0 0, .int .i64 y6]) (res3 rfl rfl rfl rfl) (fun a w st => (st.pick [2, 3] (by decide) rfl).toPost (Value.slice none 0 0, Value.slice none 0 0)))
  · replace hm := ite_f b8 hm
    refine GL.skip ?_
    refine GL.seq ?_
    refine GL.seq ?_
    refine GL.region ?_
    refine RL.mv rfl rfl rfl ?_
    refine RL.lenS 1 Try.underlying24 rfl rfl rfl rfl SlOf.imm ?_
    refine RL.mv rfl rfl rfl ?_
    refine RL.lenS 0 Try.underlying22 rfl rfl rfl rfl SlOf.imm ?_
    refine RL.binI (v := .bool (((x2).length : Int) != ((x1).length : Int))) rfl rfl rfl rfl rfl ?_
    refine RL.finG ?_
    refine GL.cond rfl (fun b9 => ?_) (fun b9 => ?_)
    · replace hm := ite_t b9 hm
      refine GL.seq ?_
      refine GL.region ?_
      refine RL.asg rfl rfl rfl ?_
      refine RL.asg rfl rfl rfl ?_
      refine RL.asg rfl rfl rfl ?_
      refine RL.finG ?_
      refine GL.weak (fun a w st => st.nilOwn 3 TR.int) ?_
      refine GL.weak (fun a w st => st.nilOwn 3 TR.int) ?_
      have hm := Option.some.inj hm
      subst hm
      exact GL.ret (Gx.ret (v := .tuple #[Value.slice none 0 0, Value.slice none 0 0, .int .i64 (3 : Int)]) (res3 rfl rfl rfl rfl) (fun a w st => (st.pick [2, 3] (by decide) rfl).toPost (Value.slice none 0 0, Value.slice none 0 0)))
    · replace hm := ite_f b9 hm
      refine GL.skip ?_
      refine GL.seq ?_
      refine GL.region ?_
      refine RL.asg rfl rfl rfl ?_
      refine RL.finG ?_
      refine GL.seq ?_
      refine GL.region ?_
      refine RL.bS (t := TR.int) (vs := [.int .i64 (0 : Int)]) ([(0 : Int)] : (List Int)) Try.underlying24 Try_lo3 rfl rfl rfl rfl ⟨VR.int, trivial⟩ rfl (by decide) ?_
      intro v11
      refine RL.asg rfl rfl rfl ?_
      refine RL.finG ?_
      refine GL.seq ?_
      obtain ⟨y65, K66, h67, h68, h69, h70, h71⟩ := bindR_K hm
      refine GL.join (ι := Int × (List Int) × Value) (fun (p : Int × (List Int) × Value) => [(1, v1), (10, .int .i64 p.1), (11, p.2.2)]) (fun (p : Int × (List Int) × Value) => [imm (TR.sl (TR.pair TR.int (TR.pair (TR.sl TR.int) (TR.sl TR.int)))) v1 x1, own 3 TR.int p.2.2 p.2.1]) (fun (p : Int × (List Int) × Value) => K66 (.nx (p.1, p.2.1))) ?_ ?_
      · refine GL.block ?_
        refine GL.loop (ι := Nat × Int × (List Int) × Value) (fun (p : Nat × Int × (List Int) × Value) => [(1, v1), (2, v2), (10, .int .i64 p.2.1), (11, p.2.2.2)]) (fun (p : Nat × Int × (List Int) × Value) => [imm (TR.sl (TR.pair TR.int (TR.pair (TR.sl TR.int) (TR.sl TR.int)))) v1 x1, imm (TR.sl TR.int) v2 x2, own 3 TR.int p.2.2.2 p.2.2.1]) (fun (p : Nat × Int × (List Int) × Value) => loopM (tree_Play_b1 x1 x2) p.1 (p.2.1, p.2.2.1) = some y65) (fun (p : Nat × Int × (List Int) × Value) => p.1) (1048576, (0 : Int), ([(0 : Int)] : (List Int)), v11) h67 (fun a w st => St.cut [0, 1, 2] ⟨rfl, rfl, rfl, rfl, trivial⟩ (by decide) rfl st) ?_
        rintro ⟨r73, x12, l13, v14⟩ h77
        try dsimp only at h77
        refine GL.weak (env' := [(1, v1), (2, v2), (10, .int .i64 x12), (11, v14)]) (L' := [imm (TR.sl (TR.pair TR.int (TR.pair (TR.sl TR.int) (TR.sl TR.int)))) v1 x1, imm (TR.sl TR.int) v2 x2, own 3 TR.int v14 l13]) (fun _ _ st => st) ?_
        obtain ⟨r80, z74, hr, h75, h76⟩ := loopM_some h77
        subst hr
        unfold tree_Play_b1 at h75
        try dsimp only at h75
        refine GL.seq ?_
        refine GL.seq ?_
        refine GL.region ?_
        refine RL.mv rfl rfl rfl ?_
        refine RL.mv rfl rfl rfl ?_
        obtain ⟨y83, e84, h75⟩ := bind_some h75
        refine RL.idxS (sz := 3) 0 Try.underlying22 Try_ln31 rfl rfl rfl rfl rfl SlOf.imm (idx_some e84).1 (idx_some e84).2.1 ?_
        refine RL.fadrS (off := ((x12).toNat * 3)) (fo := 0) 0 Try_fld31_0 rfl rfl rfl SlOf.imm (by have := (List.getElem?_eq_some_iff.1 (idx_some e84).2.2).1; omega) rfl ?_
        refine RL.ldSx (i := (x12).toNat) (e' := y83.1) 0 Ex.ik Try_ln3 rfl rfl rfl rfl SlOf.imm (idx_some e84).2.2 (Part.fst Part.self) ?_
        refine RL.binI (v := .bool (decide (y83.1 ≥ (0 : Int)))) rfl rfl rfl rfl rfl ?_
        refine RL.finG ?_
        refine GL.cond rfl (fun b85 => ?_) (fun b85 => ?_)
        · replace h75 := ite_t b85 h75
          refine GL.skip ?_
          refine GL.block ?_
          refine GL.seq ?_
          refine GL.region ?_
          refine RL.mv rfl rfl rfl ?_
          refine RL.mv rfl rfl rfl ?_
          obtain ⟨y88, e89, h75⟩ := bind_some h75
          refine RL.idxS (sz := 1) 1 Try.underlying24 Try_ln3 rfl rfl rfl rfl rfl SlOf.imm (idx_some e89).1 (idx_some e89).2.1 ?_
          refine RL.ldSx (i := (x12).toNat) (e' := y88) 1 Ex.ik Try_ln3 rfl rfl rfl rfl SlOf.imm (idx_some e89).2.2 Part.self ?_
          refine RL.asg rfl rfl rfl ?_
          refine RL.finG ?_
          refine GL.seq ?_
          refine GL.seq ?_
          obtain ⟨y99, K100, h101, h102, h103, h104, h105⟩ := bindF_K h75
          refine GL.join (ι := Bool) (fun (p : Bool) => [(1, v1), (2, v2), (10, .int .i64 x12), (11, v14), (12, .int .i64 y88), (46, .bool p)]) (fun (p : Bool) => [imm (TR.sl (TR.pair TR.int (TR.pair (TR.sl TR.int) (TR.sl TR.int)))) v1 x1, imm (TR.sl TR.int) v2 x2, own 3 TR.int v14 l13]) (fun (p : Bool) => K100 (.nx p)) ?_ ?_
          · skip
            refine GL.region ?_
            refine RL.mv rfl rfl rfl ?_
            refine RL.binI (v := .bool (decide (y88 < (0 : Int)))) rfl rfl rfl rfl rfl ?_
            refine RL.mv rfl rfl rfl ?_
            refine RL.split (t := 37) rfl (fun b106 => ?_) (fun b106 => ?_)
            · replace h101 := ite_t b106 h101
              refine RL.skip rfl rfl ?_
              refine RL.skip rfl rfl ?_
              refine RL.skip rfl rfl ?_
              refine RL.skip rfl rfl ?_
              refine RL.skip rfl rfl ?_
              refine RL.skip rfl rfl ?_
              refine RL.skip rfl rfl ?_
              refine RL.skip rfl rfl ?_
              refine RL.pickT rfl rfl rfl rfl ?_
              refine RL.fin ?_
              cases h101
              exact fun a w st => mid_intro true h102 (St.cut [0, 1, 2] ⟨rfl, rfl, rfl, rfl, rfl, rfl, trivial⟩ (by decide) rfl st)
            · replace h101 := ite_f b106 h101
              refine RL.mv rfl rfl rfl ?_
              refine RL.mv rfl rfl rfl ?_
              refine RL.mv rfl rfl rfl ?_
              obtain ⟨y107, e108, h101⟩ := bind_some h101
              refine RL.idxS (sz := 3) 0 Try.underlying22 Try_ln31 rfl rfl rfl rfl rfl SlOf.imm (idx_some e108).1 (idx_some e108).2.1 ?_
              refine RL.fadrS (off := ((x12).toNat * 3)) (fo := 1) 0 Try_fld31_1 rfl rfl rfl SlOf.imm (by have := (List.getElem?_eq_some_iff.1 (idx_some e108).2.2).1; omega) rfl ?_
              refine RL.ldS (i := (x12).toNat) (r := (TR.sl TR.int)) (e' := y107.2.1) 0 Try_ln24 rfl rfl rfl rfl SlOf.imm (idx_some e108).2.2 (Part.snd (Part.fst Part.self)) ?_
              intro v109
              refine RL.lenS 3 Try.underlying24 rfl rfl rfl rfl SlOf.imm ?_
              refine RL.binI (v := .bool (decide (y88 ≥ ((y107.2.1).length : Int)))) rfl rfl rfl rfl rfl ?_
              refine RL.pickF rfl rfl rfl rfl ?_
              refine RL.fin ?_
              cases h101
              exact fun a w st => mid_intro (decide (y88 ≥ ((y107.2.1).length : Int))) h102 (St.cut [0, 1, 2] ⟨rfl, rfl, rfl, rfl, rfl, rfl, trivial⟩ (by decide) rfl st)
          · rintro x98 h110
            have h111 := h103 _ h110
            try dsimp only at h111
            refine GL.weak (env' := [(1, v1), (2, v2), (10, .int .i64 x12), (11, v14), (12, .int .i64 y88), (46, .bool x98)]) (L' := [imm (TR.sl (TR.pair TR.int (TR.pair (TR.sl TR.int) (TR.sl TR.int)))) v1 x1, imm (TR.sl TR.int) v2 x2, own 3 TR.int v14 l13]) (fun _ _ st => st) ?_
            refine GL.cond rfl (fun b112 => ?_) (fun b112 => ?_)
            · replace h111 := ite_t b112 h111
              refine GL.seq ?_
              refine GL.region ?_
              refine RL.asg rfl rfl rfl ?_
              refine RL.asg rfl rfl rfl ?_
              refine RL.asg rfl rfl rfl ?_
              refine RL.finG ?_
              refine GL.weak (fun a w st => st.nilOwn 3 TR.int) ?_
              refine GL.weak (fun a w st => st.nilOwn 3 TR.int) ?_
              cases h111
              replace h76 : some (Fl.rt _) = some y65 := h76
              cases h76
              have hh := h70 _ h68
              subst hh
              exact GL.ret (Gx.ret (v := .tuple #[Value.slice none 0 0, Value.slice none 0 0, .int .i64 (1 : Int)]) (res3 rfl rfl rfl rfl) (fun a w st => (st.pick [3, 4] (by decide) rfl).toPost (Value.slice none 0 0, Value.slice none 0 0)))
            · replace h111 := ite_f b112 h111
              refine GL.skip ?_
              refine GL.seq ?_
              refine GL.region ?_
              refine RL.mv rfl rfl rfl ?_
              refine RL.mv rfl rfl rfl ?_
              obtain ⟨y118, e119, h111⟩ := bind_some h111
              refine RL.idxS (sz := 3) 0 Try.underlying22 Try_ln31 rfl rfl rfl rfl rfl SlOf.imm (idx_some e119).1 (idx_some e119).2.1 ?_
              refine RL.fadrS (off := ((x12).toNat * 3)) (fo := 1) 0 Try_fld31_1 rfl rfl rfl SlOf.imm (by have := (List.getElem?_eq_some_iff.1 (idx_some e119).2.2).1; omega) rfl ?_
              refine RL.ldS (i := (x12).toNat) (r := (TR.sl TR.int)) (e' := y118.2.1) 0 Try_ln24 rfl rfl rfl rfl SlOf.imm (idx_some e119).2.2 (Part.snd (Part.fst Part.self)) ?_
              intro v120
              refine RL.mv rfl rfl rfl ?_
              obtain ⟨y121, e122, h111⟩ := bind_some h111
              refine RL.idxS (sz := 1) 3 Try.underlying24 Try_ln3 rfl rfl rfl rfl rfl SlOf.imm (idx_some e122).1 (idx_some e122).2.1 ?_
              refine RL.ldSx (i := (y88).toNat) (e' := y121) 3 Ex.ik Try_ln3 rfl rfl rfl rfl SlOf.imm (idx_some e122).2.2 Part.self ?_
              refine RL.asg rfl rfl rfl ?_
              refine RL.finG ?_
              refine GL.region ?_
              refine RL.mv rfl rfl rfl ?_
              refine RL.mv rfl rfl rfl ?_
              refine RL.bS (t := TR.int) (vs := [.int .i64 y121]) ([y121] : (List Int)) Try.underlying24 Try_lo3 rfl rfl rfl rfl ⟨VR.int, trivial⟩ rfl (by decide) ?_
              intro v127
              refine RL.reL (L' := [imm (TR.sl (TR.pair TR.int (TR.pair (TR.sl TR.int) (TR.sl TR.int)))) v1 x1, imm (TR.sl TR.int) v2 x2, own 3 TR.int v14 l13, imm (TR.sl TR.int) v120 y118.2.1, own 3 TR.int v127 ([y121] : (List Int))]) rfl ?_
              obtain ⟨y128, e129, h111⟩ := bind_some h111
              replace e129 := chk_some e129
              refine RL.app 2 4 Try.underlying24 Try_lo3 rfl rfl rfl rfl rfl rfl rfl SlOf.own e129 ?_
              intro v130
              refine RL.asg rfl rfl rfl ?_
              refine RL.finG ?_
              refine GL.nilB ?_
              cases h111
              exact fun a w st => lop_intro (r80, y121, (l13 ++ ([y121] : (List Int))), v130) (by exact h76) (by simp) (St.cut [0, 1, 2] ⟨rfl, rfl, rfl, rfl, trivial⟩ (by decide) rfl st)
        · replace h75 := ite_f b85 h75
          cases h75
          replace h76 : some (Fl.nx _) = some y65 := h76
          cases h76
          exact GL.exit (fun a w st => mid_intro (x12, l13, v14) h68 (St.cut [0, 2] ⟨rfl, rfl, rfl, trivial⟩ (by decide) rfl st))
      · rintro ⟨x12, l13, v14⟩ h131
        have h132 := h69 _ h131
        try dsimp only at h132
        refine GL.weak (env' := [(1, v1), (10, .int .i64 x12), (11, v14)]) (L' := [imm (TR.sl (TR.pair TR.int (TR.pair (TR.sl TR.int) (TR.sl TR.int)))) v1 x1, own 3 TR.int v14 l13]) (fun _ _ st => st) ?_
        refine GL.seq ?_
        refine GL.region ?_
        refine RL.mv rfl rfl rfl ?_
        refine RL.bS (t := TR.int) (vs := []) ([] : (List Int)) Try.underlying24 Try_lo3 rfl rfl rfl rfl trivial rfl (by decide) ?_
        intro v140
        refine RL.mv rfl rfl rfl ?_
        refine RL.mv rfl rfl rfl ?_
        obtain ⟨y141, e142, h132⟩ := bind_some h132
        refine RL.idxS (sz := 3) 0 Try.underlying22 Try_ln31 rfl rfl rfl rfl rfl SlOf.imm (idx_some e142).1 (idx_some e142).2.1 ?_
        refine RL.fadrS (off := ((x12).toNat * 3)) (fo := 2) 0 Try_fld31_2 rfl rfl rfl SlOf.imm (by have := (List.getElem?_eq_some_iff.1 (idx_some e142).2.2).1; omega) rfl ?_
        refine RL.ldS (i := (x12).toNat) (r := (TR.sl TR.int)) (e' := y141.2.2) 0 Try_ln24 rfl rfl rfl rfl SlOf.imm (idx_some e142).2.2 (Part.snd (Part.snd Part.self)) ?_
        intro v143
        refine RL.reL (L' := [imm (TR.sl (TR.pair TR.int (TR.pair (TR.sl TR.int) (TR.sl TR.int)))) v1 x1, own 3 TR.int v14 l13, own 3 TR.int v140 ([] : (List Int)), imm (TR.sl TR.int) v143 y141.2.2]) rfl ?_
        obtain ⟨y144, e145, h132⟩ := bind_some h132
        replace e145 := chk_some e145
        refine RL.app 2 3 Try.underlying24 Try_lo3 rfl rfl rfl rfl rfl rfl rfl SlOf.imm e145 ?_
        intro v146
        refine RL.asg rfl rfl rfl ?_
        refine RL.asg rfl rfl rfl ?_
        refine RL.asg rfl rfl rfl ?_
        refine RL.finG ?_
        have h132 := Option.some.inj h132
        subst h132
        exact GL.ret (Gx.ret (v := .tuple #[v14, v146, .int .i64 (0 : Int)]) (res3 rfl rfl rfl rfl) (fun a w st => (st.pick [1, 2] (by decide) rfl).toPost (v14, v146)))

set_option maxHeartbeats 4000000 in
theorem slices_IndexFunc_api_Errno_api_Errno_c (S : Hp) (w : World) (hS : S.sub w) (v0 : Value) (x0 : (List Int)) (k0 : ((TR.sl TR.int)).vrep S v0 x0) (f1 : FuncId) (c1 : Array Value) (t1 : Fit Try.prog f1) (g1 : Int → Option Bool) (k1 : ∀ (U : Hp) (w' : World), Hp.le S U → U.sub w' → ∀ (a0 : Int) (rr : Bool), g1 a0 = some rr → Calls Try.prog f1 (#[.int .i64 a0] ++ c1) w' (PostV w' (.bool rr))) (res : Int) (hm : slices_IndexFunc_api_Errno_api_Errno_m x0 g1 = some res) : Calls Try.prog 55 #[v0, .func (.func f1) #[] c1] w (PostV w (.int .i64 res)) := by
  refine calls_enter 19 Try.func55 Try.ntmps55 rfl S false [(0, v0), (1, .func (.func f1) #[] c1)] [imm (TR.sl TR.int) v0 x0] rfl ⟨rfl, ⟨rfl, trivial⟩⟩ hS ⟨k0, trivial⟩ ?_
  unfold slices_IndexFunc_api_Errno_api_Errno_m at hm
  refine GL.seq ?_
  refine GL.region ?_
  refine RL.asg rfl rfl rfl ?_
  refine RL.finG ?_
  refine GL.seq ?_
  refine GL.seq ?_
  refine GL.region ?_
  refine RL.mv rfl rfl rfl ?_
  refine RL.lenS 0 Try.underlying77 rfl rfl rfl rfl SlOf.imm ?_
  refine RL.mv rfl rfl rfl ?_
  refine RL.finG ?_
  refine GL.open_ 0 rfl (fun S h => len_imm S h) (fun n12 => ?_)
  obtain ⟨y13, K14, h15, h16, h17, h18, h19⟩ := bindR_K hm
  refine GL.join (ι := Unit) (fun (p : Unit) => []) (fun (p : Unit) => []) (fun (p : Unit) => K14 (.nx ())) ?_ ?_
  · refine GL.block ?_
    refine GL.loop (ι := Nat × (List Int)) (fun (p : Nat × (List Int)) => [(0, v0), (1, .func (.func f1) #[] c1), (7, .int .i64 ((x0).length : Int)), (8, .int .i64 (p.1 : Int))]) (fun (p : Nat × (List Int)) => [imm (TR.sl TR.int) v0 x0]) (fun (p : Nat × (List Int)) => p.1 + p.2.length = (x0).length ∧ List.drop p.1 x0 = p.2 ∧ rangeL (slices_IndexFunc_api_Errno_api_Errno_b1 g1) p.2 p.1 () = some y13) (fun (p : Nat × (List Int)) => p.2.length) (0, x0) ⟨by simp, by simp, h15⟩ (fun a w st => St.cut [0] ⟨rfl, rfl, rfl, rfl, trivial⟩ (by decide) rfl st) ?_
    rintro ⟨i20, r21⟩ ⟨h26, h27, h25⟩
    try dsimp only at h26 h27 h25
    refine GL.weak (env' := [(0, v0), (1, .func (.func f1) #[] c1), (7, .int .i64 ((x0).length : Int)), (8, .int .i64 (i20 : Int))]) (L' := [imm (TR.sl TR.int) v0 x0]) (fun _ _ st => st) ?_
    refine GL.seq ?_
    refine GL.region ?_
    refine RL.binI (v := .bool (decide ((i20 : Int) < ((x0).length : Int)))) rfl rfl rfl rfl rfl ?_
    refine RL.finG ?_
    refine GL.seq ?_
    refine GL.cond rfl (fun b28 => ?_) (fun b28 => ?_)
    · have h29 : i20 < (x0).length := by have := of_decide_eq_true b28; omega
      obtain ⟨y30, r32, hr, e31, h33⟩ := drop_cons h27 rfl h29
      subst hr
      obtain ⟨z22, h23, h24⟩ := rangeL_some h25
      unfold slices_IndexFunc_api_Errno_api_Errno_b1 at h23
      try dsimp only at h23
      refine GL.skip ?_
      refine GL.seq ?_
      refine GL.block ?_
      refine GL.seq ?_
      refine GL.region ?_
      refine RL.mv rfl rfl rfl ?_
      refine RL.asg rfl rfl rfl ?_
      refine RL.finG ?_
      refine GL.seq ?_
      refine GL.region ?_
      refine RL.mv rfl rfl rfl ?_
      refine RL.mv rfl rfl rfl ?_
      refine RL.mv rfl rfl rfl ?_
      refine RL.idxS (sz := 1) 0 Try.underlying77 Try_ln26 rfl rfl rfl rfl rfl SlOf.imm (by omega) (by omega) ?_
      refine RL.ldSx (i := i20) (e' := y30) 0 Ex.ik Try_ln26 rfl rfl rfl rfl SlOf.imm e31 Part.self ?_
      obtain ⟨y36, e37, h23⟩ := bind_some h23
      refine RL.callV (v := .bool y36) (vs := [.int .i64 y30]) t1 rfl (Or.inl rfl) rfl rfl rfl rfl (fun U w hU hW hL => k1 U w hW hU y30 _ e37) ?_
      refine RL.finG ?_
      refine GL.cond rfl (fun b38 => ?_) (fun b38 => ?_)
      · replace h23 := ite_t b38 h23
        refine GL.seq ?_
        refine GL.region ?_
        refine RL.mv rfl rfl rfl ?_
        refine RL.asg rfl rfl rfl ?_
        refine RL.finG ?_
        cases h23
        replace h24 : some (Fl.rt _) = some y13 := h24
        cases h24
        have hh := h18 _ h16
        subst hh
        exact GL.ret (Gx.ret (v := .int .i64 (i20 : Int)) (res1 rfl rfl) (fun a w st => st.toPostV))
      · replace h23 := ite_f b38 h23
        refine GL.skip ?_
        refine GL.nilB ?_
        refine GL.region ?_
        refine RL.binI (v := .int .i64 ((i20 + 1 : Nat) : Int)) rfl rfl rfl rfl (binI_succ i20 (by omega)) ?_
        refine RL.mv rfl rfl rfl ?_
        refine RL.fin ?_
        cases h23
        exact fun a w st => lop_intro (i20 + 1, r32) ⟨by show i20 + 1 + r32.length = (x0).length; simp only [List.length_cons] at h26; omega, h33, h24⟩ (by simp) (St.cut [0] ⟨rfl, rfl, rfl, rfl, trivial⟩ (by decide) rfl st)
    · have h29 : ¬ i20 < (x0).length := by have := of_decide_eq_false b28; omega
      obtain rfl : r21 = [] := by rw [← h27]; exact List.drop_of_length_le (by omega)
      replace h25 : some (Fl.nx _) = some y13 := h25
      cases h25
      exact GL.exit (fun a w st => mid_intro () h16 (St.cut [] trivial (by decide) rfl st))
  · rintro ⟨⟩ h39
    have h40 := h17 _ h39
    try dsimp only at h40
    refine GL.weak (env' := []) (L' := []) (fun _ _ st => st) ?_
    refine GL.seq ?_
    refine GL.region ?_
    refine RL.asg rfl rfl rfl ?_
    refine RL.finG ?_
    have h40 := Option.some.inj h40
    subst h40
    exact GL.ret (Gx.ret (v := .int .i64 (-1 : Int)) (res1 rfl rfl) (fun a w st => st.toPostV))

set_option maxHeartbeats 4000000 in
theorem slices_ContainsFunc_api_Errno_api_Errno_c (S : Hp) (w : World) (hS : S.sub w) (v0 : Value) (x0 : (List Int)) (k0 : ((TR.sl TR.int)).vrep S v0 x0) (f1 : FuncId) (c1 : Array Value) (t1 : Fit Try.prog f1) (g1 : Int → Option Bool) (k1 : ∀ (U : Hp) (w' : World), Hp.le S U → U.sub w' → ∀ (a0 : Int) (rr : Bool), g1 a0 = some rr → Calls Try.prog f1 (#[.int .i64 a0] ++ c1) w' (PostV w' (.bool rr))) (res : Bool) (hm : slices_ContainsFunc_api_Errno_api_Errno_m x0 g1 = some res) : Calls Try.prog 46 #[v0, .func (.func f1) #[] c1] w (PostV w (.bool res)) := by
  refine calls_enter 9 Try.func46 Try.ntmps46 rfl S false [(0, v0), (1, .func (.func f1) #[] c1)] [imm (TR.sl TR.int) v0 x0] rfl ⟨rfl, ⟨rfl, trivial⟩⟩ hS ⟨k0, trivial⟩ ?_
  unfold slices_ContainsFunc_api_Errno_api_Errno_m at hm
  refine GL.seq ?_
  refine GL.region ?_
  refine RL.asg rfl rfl rfl ?_
  refine RL.finG ?_
  refine GL.seq ?_
  refine GL.region ?_
  refine RL.mv rfl rfl rfl ?_
  refine RL.mv rfl rfl rfl ?_
  obtain ⟨y5, e6, hm⟩ := bind_some hm
  refine RL.callV (v := .int .i64 y5) (vs := [v0, .func (.func f1) #[] c1]) Try_fit55 rfl (Or.inl rfl) rfl rfl rfl rfl (fun U w hU hW hL => slices_IndexFunc_api_Errno_api_Errno_c U w hU _ _ (hL 0 _ _ rfl Seen.imm) f1 c1 t1 g1 (fun U' w' hle => k1 U' w' (Hp.le_trans hW hle)) _ e6) ?_
  refine RL.binI (v := .bool (decide (y5 ≥ (0 : Int)))) rfl rfl rfl rfl rfl ?_
  refine RL.asg rfl rfl rfl ?_
  refine RL.finG ?_
  have hm := Option.some.inj hm
  subst hm
  exact GL.ret (Gx.ret (v := .bool (decide (y5 ≥ (0 : Int)))) (res1 rfl rfl) (fun a w st => st.toPostV))

set_option maxHeartbeats 4000000 in
theorem pk_good_1_c (S : Hp) (w : World) (hS : S.sub w) (x0 : Int) (res : Bool) (hm : pk_good_1_m x0 = some res) : Calls Try.prog 47 #[.int .i64 x0] w (PostC w (.bool res)) := by
  refine calls_enter 5 Try.func47 Try.ntmps47 rfl S true [(0, .int .i64 x0)] [] rfl ⟨rfl, trivial⟩ hS trivial ?_
  unfold pk_good_1_m at hm
  refine GL.seq ?_
  refine GL.region ?_
  refine RL.asg rfl rfl rfl ?_
  refine RL.finG ?_
  refine GL.seq ?_
  refine GL.region ?_
  refine RL.mv rfl rfl rfl ?_
  refine RL.binI (v := .bool (x0 != (0 : Int))) rfl rfl rfl rfl rfl ?_
  refine RL.asg rfl rfl rfl ?_
  refine RL.finG ?_
  have hm := Option.some.inj hm
  subst hm
  exact GL.ret (Gx.ret (v := .bool (x0 != (0 : Int))) (res1 rfl rfl) (fun a w st => st.toPostC rfl))

set_option maxHeartbeats 4000000 in
theorem pk_good_c (S : Hp) (w : World) (hS : S.sub w) (v0 : Value) (x0 : (List Int)) (k0 : ((TR.sl TR.int)).vrep S v0 x0) (res : Bool) (hm : pk_good_m x0 = some res) : Calls Try.prog 26 #[v0] w (PostV w (.bool res)) := by
  refine calls_enter 6 Try.func26 Try.ntmps26 rfl S false [(0, v0)] [imm (TR.sl TR.int) v0 x0] rfl ⟨rfl, trivial⟩ hS ⟨k0, trivial⟩ ?_
  unfold pk_good_m at hm
  refine GL.seq ?_
  refine GL.region ?_
  refine RL.asg rfl rfl rfl ?_
  refine RL.finG ?_
  refine GL.seq ?_
  refine GL.region ?_
  refine RL.mv rfl rfl rfl ?_
  obtain ⟨y4, e5, hm⟩ := bind_some hm
  refine RL.callV (v := .bool y4) (vs := [v0, .func (.func 47) #[] #[]]) Try_fit46 rfl (Or.inl rfl) rfl rfl rfl rfl (fun U w hU hW hL => slices_ContainsFunc_api_Errno_api_Errno_c U w hU _ _ (hL 0 _ _ rfl Seen.imm) 47 #[] Try_fit47 (fun a0 => pk_good_1_m a0) (fun U' w' hle hU' a0 rr hr => (pk_good_1_c U' w' hU' a0 rr hr).mono (fun _ _ z => z.toV)) _ e5) ?_
  refine RL.notB rfl rfl rfl ?_
  refine RL.asg rfl rfl rfl ?_
  refine RL.finG ?_
  have hm := Option.some.inj hm
  subst hm
  exact GL.ret (Gx.ret (v := .bool (!y4)) (res1 rfl rfl) (fun a w st => st.toPostV))

set_option maxHeartbeats 4000000 in
theorem pk_TreeZermelo_c (S : Hp) (w : World) (hS : S.sub w) (v0 : Value) (x0 : (List (Int × ((List Int) × (List Int))))) (k0 : ((TR.sl (TR.pair TR.int (TR.pair (TR.sl TR.int) (TR.sl TR.int))))).vrep S v0 x0) (v1 : Value) (x1 : (List Int)) (k1 : ((TR.sl TR.int)).vrep S v1 x1) (v2 : Value) (x2 : (List Int)) (k2 : ((TR.sl TR.int)).vrep S v2 x2) (res : Bool) (hm : pk_TreeZermelo_m x0 x1 x2 = some res) : Calls Try.prog 6 #[v0, v1, v2] w (PostV w (.bool res)) := by
  refine calls_enter 198 Try.func6 Try.ntmps6 rfl S false [(0, v0), (1, v1), (2, v2)] [imm (TR.sl (TR.pair TR.int (TR.pair (TR.sl TR.int) (TR.sl TR.int)))) v0 x0, imm (TR.sl TR.int) v1 x1, imm (TR.sl TR.int) v2 x2] rfl ⟨rfl, ⟨rfl, ⟨rfl, trivial⟩⟩⟩ hS ⟨k0, ⟨k1, ⟨k2, trivial⟩⟩⟩ ?_
  unfold pk_TreeZermelo_m at hm
  refine GL.seq ?_
  refine GL.region ?_
  refine RL.asg rfl rfl rfl ?_
  refine RL.finG ?_
  refine GL.seq ?_
  refine GL.seq ?_
  refine GL.region ?_
  obtain ⟨y6, e7, hm⟩ := bind_some hm
  refine RL.callV (v := .bool y6) (vs := []) Try_fit15 rfl (Or.inl rfl) rfl rfl rfl rfl (fun U w hU hW hL => pk_trees_c U w hU  _ e7) ?_
  refine RL.notB rfl rfl rfl ?_
  refine RL.finG ?_
  refine GL.cond rfl (fun b8 => ?_) (fun b8 => ?_)
  · replace hm := ite_t b8 hm
    refine GL.seq ?_
    refine GL.region ?_
    refine RL.asg rfl rfl rfl ?_
    refine RL.finG ?_
    have hm := Option.some.inj hm
    subst hm
    exact GL.ret (Gx.ret (v := .bool false) (res1 rfl rfl) (fun a w st => st.toPostV))
  · replace hm := ite_f b8 hm
    refine GL.skip ?_
    refine GL.seq ?_
    refine GL.region ?_
    refine RL.mv rfl rfl rfl ?_
    obtain ⟨y12, e13, hm⟩ := bind_some hm
    refine RL.call (vs := [v0]) Try_fit27 rfl rfl rfl rfl rfl (fun S f w hS hW hi => slices_Clone_api_Node_api_Node_c S w hS _ _ (hi 0 _ rfl) _ e13) ?_
    intro v14
    refine RL.asg rfl rfl rfl ?_
    refine RL.finG ?_
    refine GL.seq ?_
    refine GL.seq ?_
    refine GL.region ?_
    refine RL.mv rfl rfl rfl ?_
    refine RL.lenS 3 Try.underlying22 rfl rfl rfl rfl SlOf.own ?_
    refine RL.mv rfl rfl rfl ?_
    refine RL.finG ?_
    refine GL.lenOwn 3 rfl (fun n103 => ?_)
    obtain ⟨y104, K105, h106, h107, h108, h109, h110⟩ := bindR_K hm
    refine GL.join (ι := (List (Int × ((List Int) × (List Int)))) × Value) (fun (p : (List (Int × ((List Int) × (List Int)))) × Value) => [(0, p.2), (1, v1), (2, v2)]) (fun (p : (List (Int × ((List Int) × (List Int)))) × Value) => [own 31 (TR.pair TR.int (TR.pair (TR.sl TR.int) (TR.sl TR.int))) p.2 p.1, imm (TR.sl TR.int) v1 x1, imm (TR.sl TR.int) v2 x2]) (fun (p : (List (Int × ((List Int) × (List Int)))) × Value) => K105 (.nx p.1)) ?_ ?_
    · refine GL.block ?_
      refine GL.loop (ι := Nat × Nat × (List (Int × ((List Int) × (List Int)))) × Value) (fun (p : Nat × Nat × (List (Int × ((List Int) × (List Int)))) × Value) => [(0, p.2.2.2), (1, v1), (2, v2), (26, p.2.2.2), (27, .int .i64 ((y12).length : Int)), (28, .int .i64 (p.1 : Int))]) (fun (p : Nat × Nat × (List (Int × ((List Int) × (List Int)))) × Value) => [own 31 (TR.pair TR.int (TR.pair (TR.sl TR.int) (TR.sl TR.int))) p.2.2.2 p.2.2.1, imm (TR.sl TR.int) v1 x1, imm (TR.sl TR.int) v2 x2]) (fun (p : Nat × Nat × (List (Int × ((List Int) × (List Int)))) × Value) => p.1 + p.2.1 = (y12).length ∧ rangeN pk_TreeZermelo_b1 p.2.1 p.1 p.2.2.1 = some y104) (fun (p : Nat × Nat × (List (Int × ((List Int) × (List Int)))) × Value) => p.2.1) (0, (y12).length, y12, v14) ⟨by simp, h106⟩ (fun a w st => St.cut [3, 1, 2] ⟨rfl, rfl, rfl, rfl, rfl, rfl, trivial⟩ (by decide) rfl st) ?_
      rintro ⟨i111, r112, l58, v59⟩ ⟨h117, h116⟩
      try dsimp only at h117 h116
      refine GL.weak (env' := [(0, v59), (1, v1), (2, v2), (26, v59), (27, .int .i64 ((y12).length : Int)), (28, .int .i64 (i111 : Int))]) (L' := [own 31 (TR.pair TR.int (TR.pair (TR.sl TR.int) (TR.sl TR.int))) v59 l58, imm (TR.sl TR.int) v1 x1, imm (TR.sl TR.int) v2 x2]) (fun _ _ st => st) ?_
      refine GL.seq ?_
      refine GL.region ?_
      refine RL.binI (v := .bool (decide ((i111 : Int) < ((y12).length : Int)))) rfl rfl rfl rfl rfl ?_
      refine RL.finG ?_
      refine GL.seq ?_
      refine GL.cond rfl (fun b119 => ?_) (fun b119 => ?_)
      · have h120 : i111 < (y12).length := by have := of_decide_eq_true b119; omega
        obtain ⟨r121, hr⟩ : ∃ m, r112 = m + 1 := ⟨r112 - 1, by omega⟩
        subst hr
        obtain ⟨z113, h114, h115⟩ := rangeN_some h116
        unfold pk_TreeZermelo_b1 at h114
        try dsimp only at h114
        refine GL.skip ?_
        refine GL.seq ?_
        refine GL.block ?_
        refine GL.seq ?_
        refine GL.region ?_
        refine RL.mv rfl rfl rfl ?_
        obtain ⟨y126, e127, h114⟩ := bind_some h114
        refine RL.idxS (sz := 3) 0 Try.underlying22 Try_ln31 rfl rfl rfl rfl rfl SlOf.own (idx_some e127).1 (idx_some e127).2.1 ?_
        refine RL.ldS (i := i111) (r := (TR.pair TR.int (TR.pair (TR.sl TR.int) (TR.sl TR.int)))) (e' := y126) 0 Try_ln31 rfl rfl rfl rfl SlOf.own (idx_some e127).2.2 Part.self ?_
        intro v128
        refine RL.alloc (t := (TR.pair TR.int (TR.pair (TR.sl TR.int) (TR.sl TR.int)))) (z := ((0 : Int), ([] : (List Int)), ([] : (List Int)))) Try_lo31 (fun S => ⟨[.int .i64 0], _, rfl, rfl, ⟨[.slice none 0 0], _, rfl, ⟨_, [], rfl, ⟨none, 0, rfl, Nat.le_refl _, Nat.zero_le _, Or.inl ⟨rfl, rfl⟩⟩, rfl⟩, ⟨_, [], rfl, ⟨none, 0, rfl, Nat.le_refl _, Nat.zero_le _, Or.inl ⟨rfl, rfl⟩⟩, rfl⟩⟩⟩) rfl rfl rfl ?_
        intro v129
        refine RL.reL (L' := [own 31 (TR.pair TR.int (TR.pair (TR.sl TR.int) (TR.sl TR.int))) v59 l58, imm (TR.sl TR.int) v1 x1, imm (TR.sl TR.int) v2 x2, imm (TR.pair TR.int (TR.pair (TR.sl TR.int) (TR.sl TR.int))) v128 y126, obox 31 (TR.pair TR.int (TR.pair (TR.sl TR.int) (TR.sl TR.int))) v129 ((0 : Int), ([] : (List Int)), ([] : (List Int)))]) rfl ?_
        refine RL.asg rfl rfl rfl ?_
        refine RL.stP (off := 0) (e' := y126) (d1 := y126) (r := (TR.pair TR.int (TR.pair (TR.sl TR.int) (TR.sl TR.int)))) 4 Try_ln31 rfl rfl (Or.inr ⟨rfl, rfl⟩) rfl (VR.item 3 rfl) rfl Upd.self ?_
        refine RL.finG ?_
        refine GL.seq ?_
        obtain ⟨y135, K136, h137, h138, h139, h140, h141⟩ := bindF_K h114
        refine GL.join (ι := Bool) (fun (p : Bool) => [(0, v59), (1, v1), (2, v2), (7, .int .i64 (i111 : Int)), (8, v129), (26, v59), (27, .int .i64 ((y12).length : Int)), (28, .int .i64 (i111 : Int)), (41, .bool p)]) (fun (p : Bool) => [own 31 (TR.pair TR.int (TR.pair (TR.sl TR.int) (TR.sl TR.int))) v59 l58, imm (TR.sl TR.int) v1 x1, imm (TR.sl TR.int) v2 x2, obox 31 (TR.pair TR.int (TR.pair (TR.sl TR.int) (TR.sl TR.int))) v129 y126]) (fun (p : Bool) => K136 (.nx p)) ?_ ?_
        · skip
          refine GL.region ?_
          refine RL.fadr (off := 0) (fo := 0) 4 Try_fld31_0 rfl rfl rfl PtOf.obox (Or.inr ⟨rfl, rfl⟩) ?_
          refine RL.ldPx (off := (0 + 0)) (e' := y126.1) 4 Ex.ik Try_ln3 rfl rfl (Or.inl rfl) rfl PtOf.obox (Part.fst Part.self) ?_
          refine RL.binI (v := .bool (decide (y126.1 < (0 : Int)))) rfl rfl rfl rfl rfl ?_
          refine RL.mv rfl rfl rfl ?_
          refine RL.split (t := 36) rfl (fun b142 => ?_) (fun b142 => ?_)
          · replace h137 := ite_t b142 h137
            refine RL.fadr (off := 0) (fo := 2) 4 Try_fld31_2 rfl rfl rfl PtOf.obox (Or.inr ⟨rfl, rfl⟩) ?_
            refine RL.ldP (off := (0 + 2)) (r := (TR.sl TR.int)) (e' := y126.2.2) 4 Try_ln24 rfl rfl (Or.inl rfl) rfl PtOf.obox (Part.snd (Part.snd Part.self)) ?_
            intro v143
            refine RL.reL (L' := [own 31 (TR.pair TR.int (TR.pair (TR.sl TR.int) (TR.sl TR.int))) v59 l58, imm (TR.sl TR.int) v1 x1, imm (TR.sl TR.int) v2 x2, imm (TR.pair TR.int (TR.pair (TR.sl TR.int) (TR.sl TR.int))) v128 y126, obox 31 (TR.pair TR.int (TR.pair (TR.sl TR.int) (TR.sl TR.int))) v129 y126, imm (TR.sl TR.int) v143 y126.2.2]) rfl ?_
            refine RL.lenS 5 Try.underlying24 rfl rfl rfl rfl SlOf.imm ?_
            refine RL.binI (v := .bool (decide (((y126.2.2).length : Int) > (0 : Int)))) rfl rfl rfl rfl rfl ?_
            refine RL.pickT rfl rfl rfl rfl ?_
            refine RL.fin ?_
            cases h137
            exact fun a w st => mid_intro (decide (((y126.2.2).length : Int) > (0 : Int))) h138 (St.cut [0, 1, 2, 4] ⟨rfl, rfl, rfl, rfl, rfl, rfl, rfl, rfl, rfl, trivial⟩ (by decide) rfl st)
          · replace h137 := ite_f b142 h137
            refine RL.skip rfl rfl ?_
            refine RL.skip rfl rfl ?_
            refine RL.skip rfl rfl ?_
            refine RL.skip rfl rfl ?_
            refine RL.pickF rfl rfl rfl rfl ?_
            refine RL.fin ?_
            cases h137
            exact fun a w st => mid_intro false h138 (St.cut [0, 1, 2, 4] ⟨rfl, rfl, rfl, rfl, rfl, rfl, rfl, rfl, rfl, trivial⟩ (by decide) rfl st)
        · rintro x134 h144
          have h145 := h139 _ h144
          try dsimp only at h145
          refine GL.weak (env' := [(0, v59), (1, v1), (2, v2), (7, .int .i64 (i111 : Int)), (8, v129), (26, v59), (27, .int .i64 ((y12).length : Int)), (28, .int .i64 (i111 : Int)), (41, .bool x134)]) (L' := [own 31 (TR.pair TR.int (TR.pair (TR.sl TR.int) (TR.sl TR.int))) v59 l58, imm (TR.sl TR.int) v1 x1, imm (TR.sl TR.int) v2 x2, obox 31 (TR.pair TR.int (TR.pair (TR.sl TR.int) (TR.sl TR.int))) v129 y126]) (fun _ _ st => st) ?_
          refine GL.cond rfl (fun b146 => ?_) (fun b146 => ?_)
          · replace h145 := ite_t b146 h145
            refine GL.regionA rfl rfl ?_
            refine RA.mv 0 rfl (by kernel_rfl) rfl rfl rfl ?_
            refine RA.mv 1 rfl (by kernel_rfl) rfl rfl rfl ?_
            refine RA.still (le := #[true, true, true, true, true, true, true, true, true, true, true, false, false, false, false]) (f := 4) [2, 3, 4, 5, 6, 7, 8, 9, 10] 11 rfl (by kernel_rfl) ?_
            simp only [pickOps, List.getElem?_toArray, List.getElem?_cons_succ, List.getElem?_cons_zero]
            refine RL.fadr (off := 0) (fo := 2) 3 Try_fld31_2 rfl rfl rfl PtOf.obox (Or.inr ⟨rfl, rfl⟩) ?_
            refine RL.ldP (off := (0 + 2)) (r := (TR.sl TR.int)) (e' := y126.2.2) 3 Try_ln24 rfl rfl (Or.inl rfl) rfl PtOf.obox (Part.snd (Part.snd Part.self)) ?_
            intro v156
            obtain ⟨y157, e158, h145⟩ := bind_some h145
            refine RL.idxS (sz := 1) 4 Try.underlying24 Try_ln3 rfl rfl rfl rfl rfl SlOf.imm (idx_some e158).1 (idx_some e158).2.1 ?_
            refine RL.ldSx (i := ((0 : Int)).toNat) (e' := y157) 4 Ex.ik Try_ln3 rfl rfl rfl rfl SlOf.imm (idx_some e158).2.2 Part.self ?_
            refine RL.fadr (off := 0) (fo := 2) 3 Try_fld31_2 rfl rfl rfl PtOf.obox (Or.inr ⟨rfl, rfl⟩) ?_
            refine RL.ldP (off := (0 + 2)) (r := (TR.sl TR.int)) (e' := y126.2.2) 3 Try_ln24 rfl rfl (Or.inl rfl) rfl PtOf.obox (Part.snd (Part.snd Part.self)) ?_
            intro v159
            obtain ⟨y160, e161, h145⟩ := bind_some h145
            refine RL.idxS (sz := 1) 5 Try.underlying24 Try_ln3 rfl rfl rfl rfl rfl SlOf.imm (idx_some e161).1 (idx_some e161).2.1 ?_
            refine RL.ldSx (i := ((0 : Int)).toNat) (e' := y160) 5 Ex.ik Try_ln3 rfl rfl rfl rfl SlOf.imm (idx_some e161).2.2 Part.self ?_
            refine RL.negI rfl rfl rfl ?_
            refine RL.finH ?_
            refine RL.fin ?_
            refine RA.next ?_
            refine RA.seq 11 rfl (by kernel_rfl) ?_
            refine RL.bS (t := TR.int) (vs := [.int .i64 y157, .int .i64 (wsub 0 y160)]) ([y157, wsub 0 y160] : (List Int)) Try.underlying24 Try_lo3 rfl rfl rfl rfl ⟨VR.int, ⟨VR.int, trivial⟩⟩ rfl (by decide) ?_
            intro v162
            refine RL.fin ?_
            refine RA.next ?_
            obtain ⟨y163, e164, h145⟩ := bind_some h145
            refine RA.idxS (sz := 3) 0 Try.underlying22 Try_ln31 12 rfl (by kernel_rfl) rfl rfl rfl rfl rfl SlOf.own (idx_some e164).1 (idx_some e164).2.1 ?_
            refine RA.seq 13 rfl (by kernel_rfl) ?_
            refine RL.fadrS (off := (i111 * 3)) (fo := 2) 0 Try_fld31_2 rfl rfl rfl SlOf.own (by have := (List.getElem?_eq_some_iff.1 (idx_some e164).2.2).1; omega) rfl ?_
            refine RL.fin ?_
            refine RA.next ?_
            refine RA.seq 14 rfl (by kernel_rfl) ?_
            refine RL.weak (fun a w st => st.freeze 6 rfl) ?_
            refine RL.stS (i := i111) (e' := ([y157, wsub 0 y160] : (List Int))) (e1 := (y163.1, (y163.2.1, ([y157, wsub 0 y160] : (List Int))))) (r := (TR.sl TR.int)) 0 Try_ln24 rfl rfl rfl rfl (VR.item 6 rfl) rfl (idx_some e164).2.2 (Upd.snd (Upd.snd Upd.self)) ?_
            refine RL.fin ?_
            refine RA.next ?_
            refine RA.doneG (by kernel_rfl) ?_
            refine GL.weak (env' := [(0, v59), (1, v1), (2, v2), (26, v59), (27, .int .i64 ((y12).length : Int)), (28, .int .i64 (i111 : Int))]) (L' := [own 31 (TR.pair TR.int (TR.pair (TR.sl TR.int) (TR.sl TR.int))) v59 (List.set l58 i111 (y163.1, (y163.2.1, ([y157, wsub 0 y160] : (List Int))))), imm (TR.sl TR.int) v1 x1, imm (TR.sl TR.int) v2 x2]) (fun a w st => St.cut [0, 1, 2] ⟨rfl, rfl, rfl, rfl, rfl, rfl, trivial⟩ (by decide) rfl st) ?_
            refine GL.nilB ?_
            refine GL.region ?_
            refine RL.binI (v := .int .i64 ((i111 + 1 : Nat) : Int)) rfl rfl rfl rfl (binI_succ i111 (by omega)) ?_
            refine RL.mv rfl rfl rfl ?_
            refine RL.fin ?_
            cases h145
            exact fun a w st => lop_intro (i111 + 1, r121, (List.set l58 i111 (y163.1, (y163.2.1, ([y157, wsub 0 y160] : (List Int))))), v59) ⟨by show i111 + 1 + r121 = (y12).length; omega, h115⟩ (by simp) (St.cut [0, 1, 2] ⟨rfl, rfl, rfl, rfl, rfl, rfl, trivial⟩ (by decide) rfl st)
          · replace h145 := ite_f b146 h145
            refine GL.skip ?_
            refine GL.nilB ?_
            refine GL.region ?_
            refine RL.binI (v := .int .i64 ((i111 + 1 : Nat) : Int)) rfl rfl rfl rfl (binI_succ i111 (by omega)) ?_
            refine RL.mv rfl rfl rfl ?_
            refine RL.fin ?_
            cases h145
            exact fun a w st => lop_intro (i111 + 1, r121, l58, v59) ⟨by show i111 + 1 + r121 = (y12).length; omega, h115⟩ (by simp) (St.cut [0, 1, 2] ⟨rfl, rfl, rfl, rfl, rfl, rfl, trivial⟩ (by decide) rfl st)
      · have h120 : ¬ i111 < (y12).length := by have := of_decide_eq_false b119; omega
        obtain rfl : r112 = 0 := by omega
        replace h116 : some (Fl.nx _) = some y104 := h116
        cases h116
        exact GL.exit (fun a w st => mid_intro (l58, v59) h107 (St.cut [0, 1, 2] ⟨rfl, rfl, rfl, trivial⟩ (by decide) rfl st))
    · rintro ⟨l58, v59⟩ h165
      have h166 := h108 _ h165
      try dsimp only at h166
      refine GL.weak (env' := [(0, v59), (1, v1), (2, v2)]) (L' := [own 31 (TR.pair TR.int (TR.pair (TR.sl TR.int) (TR.sl TR.int))) v59 l58, imm (TR.sl TR.int) v1 x1, imm (TR.sl TR.int) v2 x2]) (fun _ _ st => st) ?_
      refine GL.seq ?_
      refine GL.region ?_
      refine RL.mv rfl rfl rfl ?_
      refine RL.weak (fun a w st => st.freeze 0 rfl) ?_
      obtain ⟨y171, e172, h166⟩ := bind_some h166
      refine RL.call (vs := [.int .i64 (2 : Int), v59]) Try_fit16 rfl rfl rfl rfl rfl (fun S f w hS hW hi => tree_Solve_c S w hS (2 : Int) _ _ (hi 0 _ rfl) _ e172) ?_
      intro ⟨v173, v174⟩
      refine RL.reL (L' := [imm (TR.sl (TR.pair TR.int (TR.pair (TR.sl TR.int) (TR.sl TR.int)))) v59 l58, imm (TR.sl TR.int) v1 x1, imm (TR.sl TR.int) v2 x2, own 3 TR.int v173 y171.1, own 24 (TR.sl TR.int) v174 y171.2.1]) rfl ?_
      refine RL.mv rfl rfl rfl ?_
      refine RL.ext rfl rfl rfl rfl ?_
      refine RL.ext rfl rfl rfl rfl ?_
      refine RL.ext rfl rfl rfl rfl ?_
      refine RL.asg rfl rfl rfl ?_
      refine RL.asg rfl rfl rfl ?_
      refine RL.asg rfl rfl rfl ?_
      refine RL.finG ?_
      refine GL.seq ?_
      refine GL.seq ?_
      obtain ⟨y180, K181, h182, h183, h184, h185, h186⟩ := bindR_K h166
      refine GL.join (ι := Bool) (fun (p : Bool) => [(0, v59), (1, v1), (2, v2), (9, v173), (10, v174), (11, .int .i64 y171.2.2), (78, .bool p)]) (fun (p : Bool) => [imm (TR.sl (TR.pair TR.int (TR.pair (TR.sl TR.int) (TR.sl TR.int)))) v59 l58, imm (TR.sl TR.int) v1 x1, imm (TR.sl TR.int) v2 x2, own 3 TR.int v173 y171.1, own 24 (TR.sl TR.int) v174 y171.2.1]) (fun (p : Bool) => K181 (.nx p)) ?_ ?_
      · skip
        refine GL.region ?_
        refine RL.mv rfl rfl rfl ?_
        refine RL.binI (v := .bool (y171.2.2 != (0 : Int))) rfl rfl rfl rfl rfl ?_
        refine RL.mv rfl rfl rfl ?_
        refine RL.split (t := 65) rfl (fun b187 => ?_) (fun b187 => ?_)
        · replace h182 := ite_t b187 h182
          refine RL.skip rfl rfl ?_
          refine RL.skip rfl rfl ?_
          refine RL.skip rfl rfl ?_
          refine RL.skip rfl rfl ?_
          refine RL.skip rfl rfl ?_
          refine RL.pickT rfl rfl rfl rfl ?_
          refine RL.mv rfl rfl rfl ?_
          refine RL.skip rfl rfl ?_
          refine RL.skip rfl rfl ?_
          refine RL.skip rfl rfl ?_
          refine RL.skip rfl rfl ?_
          refine RL.skip rfl rfl ?_
          refine RL.pickT rfl rfl rfl rfl ?_
          refine RL.fin ?_
          cases h182
          exact fun a w st => mid_intro true h183 (St.cut [0, 1, 2, 3, 4] ⟨rfl, rfl, rfl, rfl, rfl, rfl, rfl, trivial⟩ (by decide) rfl st)
        · replace h182 := ite_f b187 h182
          refine RL.mv rfl rfl rfl ?_
          refine RL.lenS 3 Try.underlying24 rfl rfl rfl rfl SlOf.own ?_
          refine RL.mv rfl rfl rfl ?_
          refine RL.lenS 0 Try.underlying22 rfl rfl rfl rfl SlOf.imm ?_
          refine RL.binI (v := .bool (((y171.1).length : Int) != ((l58).length : Int))) rfl rfl rfl rfl rfl ?_
          refine RL.pickF rfl rfl rfl rfl ?_
          refine RL.mv rfl rfl rfl ?_
          refine RL.split (t := 72) rfl (fun b188 => ?_) (fun b188 => ?_)
          · replace h182 := ite_t b188 h182
            refine RL.skip rfl rfl ?_
            refine RL.skip rfl rfl ?_
            refine RL.skip rfl rfl ?_
            refine RL.skip rfl rfl ?_
            refine RL.skip rfl rfl ?_
            refine RL.pickT rfl rfl rfl rfl ?_
            refine RL.fin ?_
            cases h182
            exact fun a w st => mid_intro true h183 (St.cut [0, 1, 2, 3, 4] ⟨rfl, rfl, rfl, rfl, rfl, rfl, rfl, trivial⟩ (by decide) rfl st)
          · replace h182 := ite_f b188 h182
            refine RL.mv rfl rfl rfl ?_
            refine RL.lenS 4 Try.underlying25 rfl rfl rfl rfl SlOf.own ?_
            refine RL.mv rfl rfl rfl ?_
            refine RL.lenS 0 Try.underlying22 rfl rfl rfl rfl SlOf.imm ?_
            refine RL.binI (v := .bool (((y171.2.1).length : Int) != ((l58).length : Int))) rfl rfl rfl rfl rfl ?_
            refine RL.pickF rfl rfl rfl rfl ?_
            refine RL.fin ?_
            cases h182
            exact fun a w st => mid_intro (((y171.2.1).length : Int) != ((l58).length : Int)) h183 (St.cut [0, 1, 2, 3, 4] ⟨rfl, rfl, rfl, rfl, rfl, rfl, rfl, trivial⟩ (by decide) rfl st)
      · rintro x179 h189
        have h190 := h184 _ h189
        try dsimp only at h190
        refine GL.weak (env' := [(0, v59), (1, v1), (2, v2), (9, v173), (10, v174), (11, .int .i64 y171.2.2), (78, .bool x179)]) (L' := [imm (TR.sl (TR.pair TR.int (TR.pair (TR.sl TR.int) (TR.sl TR.int)))) v59 l58, imm (TR.sl TR.int) v1 x1, imm (TR.sl TR.int) v2 x2, own 3 TR.int v173 y171.1, own 24 (TR.sl TR.int) v174 y171.2.1]) (fun _ _ st => st) ?_
        refine GL.cond rfl (fun b191 => ?_) (fun b191 => ?_)
        · replace h190 := ite_t b191 h190
          refine GL.seq ?_
          obtain ⟨y195, K196, h197, h198, h199, h200, h201⟩ := bindR_K h190
          refine GL.join (ι := Bool) (fun (p : Bool) => [(6, .bool p)]) (fun (p : Bool) => []) (fun (p : Bool) => K196 (.nx p)) ?_ ?_
          · skip
            refine GL.region ?_
            refine RL.mv rfl rfl rfl ?_
            refine RL.binI (v := .bool (y171.2.2 != (0 : Int))) rfl rfl rfl rfl rfl ?_
            refine RL.mv rfl rfl rfl ?_
            refine RL.split (t := 81) rfl (fun b202 => ?_) (fun b202 => ?_)
            · replace h197 := ite_t b202 h197
              refine RL.mv rfl rfl rfl ?_
              refine RL.lenS 3 Try.underlying24 rfl rfl rfl rfl SlOf.own ?_
              refine RL.mv rfl rfl rfl ?_
              refine RL.lenS 4 Try.underlying25 rfl rfl rfl rfl SlOf.own ?_
              refine RL.binI (v := .int .i64 (wadd ((y171.1).length : Int) ((y171.2.1).length : Int))) rfl rfl rfl rfl rfl ?_
              refine RL.binI (v := .bool ((wadd ((y171.1).length : Int) ((y171.2.1).length : Int)) == (0 : Int))) rfl rfl rfl rfl rfl ?_
              refine RL.pickT rfl rfl rfl rfl ?_
              refine RL.asg rfl rfl rfl ?_
              refine RL.fin ?_
              cases h197
              exact fun a w st => mid_intro ((wadd ((y171.1).length : Int) ((y171.2.1).length : Int)) == (0 : Int)) h198 (St.cut [] ⟨rfl, trivial⟩ (by decide) rfl st)
            · replace h197 := ite_f b202 h197
              refine RL.skip rfl rfl ?_
              refine RL.skip rfl rfl ?_
              refine RL.skip rfl rfl ?_
              refine RL.skip rfl rfl ?_
              refine RL.skip rfl rfl ?_
              refine RL.skip rfl rfl ?_
              refine RL.pickF rfl rfl rfl rfl ?_
              refine RL.asg rfl rfl rfl ?_
              refine RL.fin ?_
              cases h197
              exact fun a w st => mid_intro false h198 (St.cut [] ⟨rfl, trivial⟩ (by decide) rfl st)
          · rintro x194 h203
            have h204 := h199 _ h203
            try dsimp only at h204
            refine GL.weak (env' := [(6, .bool x194)]) (L' := []) (fun _ _ st => st) ?_
            have h204 := Option.some.inj h204
            subst h204
            exact GL.ret (Gx.ret (v := .bool x194) (res1 rfl rfl) (fun a w st => st.toPostV))
        · replace h190 := ite_f b191 h190
          refine GL.skip ?_
          refine GL.seq ?_
          refine GL.region ?_
          refine RL.mv rfl rfl rfl ?_
          refine RL.weak (fun a w st => st.freeze 3 rfl) ?_
          obtain ⟨y211, e212, h190⟩ := bind_some h190
          refine RL.call (vs := [v173]) Try_fit18 rfl rfl rfl rfl rfl (fun S f w hS hW hi => slices_Clone_int_int_c S w hS _ _ (hi 3 _ rfl) _ e212) ?_
          intro v213
          refine RL.reL (L' := [imm (TR.sl (TR.pair TR.int (TR.pair (TR.sl TR.int) (TR.sl TR.int)))) v59 l58, imm (TR.sl TR.int) v1 x1, imm (TR.sl TR.int) v2 x2, imm (TR.sl TR.int) v173 y171.1, own 24 (TR.sl TR.int) v174 y171.2.1, own 3 TR.int v213 y211]) rfl ?_
          refine RL.mv rfl rfl rfl ?_
          obtain ⟨y214, e215, h190⟩ := bind_some h190
          refine RL.call (vs := [v173]) Try_fit18 rfl rfl rfl rfl rfl (fun S f w hS hW hi => slices_Clone_int_int_c S w hS _ _ (hi 3 _ rfl) _ e215) ?_
          intro v216
          refine RL.asg rfl rfl rfl ?_
          refine RL.asg rfl rfl rfl ?_
          refine RL.finG ?_
          refine GL.seq ?_
          refine GL.seq ?_
          refine GL.region ?_
          refine RL.mv rfl rfl rfl ?_
          refine RL.lenS 0 Try.underlying22 rfl rfl rfl rfl SlOf.imm ?_
          refine RL.mv rfl rfl rfl ?_
          refine RL.finG ?_
          refine GL.open_ 0 rfl (fun S h => len_imm S h) (fun n399 => ?_)
          obtain ⟨y400, K401, h402, h403, h404, h405, h406⟩ := bindR_K h190
          refine GL.join (ι := (List Int) × (List Int) × Value × Value) (fun (p : (List Int) × (List Int) × Value × Value) => [(0, v59), (10, v174), (12, p.2.2.1), (13, p.2.2.2)]) (fun (p : (List Int) × (List Int) × Value × Value) => [imm (TR.sl (TR.pair TR.int (TR.pair (TR.sl TR.int) (TR.sl TR.int)))) v59 l58, own 24 (TR.sl TR.int) v174 y171.2.1, own 3 TR.int p.2.2.1 p.1, own 3 TR.int p.2.2.2 p.2.1]) (fun (p : (List Int) × (List Int) × Value × Value) => K401 (.nx (p.1, p.2.1))) ?_ ?_
          · refine GL.block ?_
            refine GL.loop (ι := Nat × (List (Int × ((List Int) × (List Int)))) × (List Int) × (List Int) × Value × Value) (fun (p : Nat × (List (Int × ((List Int) × (List Int)))) × (List Int) × (List Int) × Value × Value) => [(0, v59), (1, v1), (2, v2), (10, v174), (12, p.2.2.2.2.1), (13, p.2.2.2.2.2), (93, v59), (94, .int .i64 ((l58).length : Int)), (95, .int .i64 (p.1 : Int))]) (fun (p : Nat × (List (Int × ((List Int) × (List Int)))) × (List Int) × (List Int) × Value × Value) => [imm (TR.sl (TR.pair TR.int (TR.pair (TR.sl TR.int) (TR.sl TR.int)))) v59 l58, imm (TR.sl TR.int) v1 x1, imm (TR.sl TR.int) v2 x2, own 24 (TR.sl TR.int) v174 y171.2.1, own 3 TR.int p.2.2.2.2.1 p.2.2.1, own 3 TR.int p.2.2.2.2.2 p.2.2.2.1]) (fun (p : Nat × (List (Int × ((List Int) × (List Int)))) × (List Int) × (List Int) × Value × Value) => p.1 + p.2.1.length = (l58).length ∧ List.drop p.1 l58 = p.2.1 ∧ rangeL (pk_TreeZermelo_b2 x1 x2) p.2.1 p.1 (p.2.2.1, p.2.2.2.1) = some y400) (fun (p : Nat × (List (Int × ((List Int) × (List Int)))) × (List Int) × (List Int) × Value × Value) => p.2.1.length) (0, l58, y211, y214, v213, v216) ⟨by simp, by simp, h402⟩ (fun a w st => St.cut [0, 1, 2, 4, 5, 6] ⟨rfl, rfl, rfl, rfl, rfl, rfl, rfl, rfl, rfl, trivial⟩ (by decide) rfl st) ?_
            rintro ⟨i407, r408, l306, l308, v307, v309⟩ ⟨h413, h414, h412⟩
            try dsimp only at h413 h414 h412
            refine GL.weak (env' := [(0, v59), (1, v1), (2, v2), (10, v174), (12, v307), (13, v309), (93, v59), (94, .int .i64 ((l58).length : Int)), (95, .int .i64 (i407 : Int))]) (L' := [imm (TR.sl (TR.pair TR.int (TR.pair (TR.sl TR.int) (TR.sl TR.int)))) v59 l58, imm (TR.sl TR.int) v1 x1, imm (TR.sl TR.int) v2 x2, own 24 (TR.sl TR.int) v174 y171.2.1, own 3 TR.int v307 l306, own 3 TR.int v309 l308]) (fun _ _ st => st) ?_
            refine GL.seq ?_
            refine GL.region ?_
            refine RL.binI (v := .bool (decide ((i407 : Int) < ((l58).length : Int)))) rfl rfl rfl rfl rfl ?_
            refine RL.finG ?_
            refine GL.seq ?_
            refine GL.cond rfl (fun b415 => ?_) (fun b415 => ?_)
            · have h416 : i407 < (l58).length := by have := of_decide_eq_true b415; omega
              obtain ⟨y417, r419, hr, e418, h420⟩ := drop_cons h414 rfl h416
              subst hr
              obtain ⟨z409, h410, h411⟩ := rangeL_some h412
              unfold pk_TreeZermelo_b2 at h410
              try dsimp only at h410
              refine GL.skip ?_
              refine GL.seq ?_
              refine GL.block ?_
              refine GL.seq ?_
              refine GL.region ?_
              refine RL.mv rfl rfl rfl ?_
              refine RL.idxS (sz := 3) 0 Try.underlying22 Try_ln31 rfl rfl rfl rfl rfl SlOf.imm (by omega) (by omega) ?_
              refine RL.ldS (i := i407) (r := (TR.pair TR.int (TR.pair (TR.sl TR.int) (TR.sl TR.int)))) (e' := y417) 0 Try_ln31 rfl rfl rfl rfl SlOf.imm e418 Part.self ?_
              intro v423
              refine RL.alloc (t := (TR.pair TR.int (TR.pair (TR.sl TR.int) (TR.sl TR.int)))) (z := ((0 : Int), ([] : (List Int)), ([] : (List Int)))) Try_lo31 (fun S => ⟨[.int .i64 0], _, rfl, rfl, ⟨[.slice none 0 0], _, rfl, ⟨_, [], rfl, ⟨none, 0, rfl, Nat.le_refl _, Nat.zero_le _, Or.inl ⟨rfl, rfl⟩⟩, rfl⟩, ⟨_, [], rfl, ⟨none, 0, rfl, Nat.le_refl _, Nat.zero_le _, Or.inl ⟨rfl, rfl⟩⟩, rfl⟩⟩⟩) rfl rfl rfl ?_
              intro v424
              refine RL.reL (L' := [imm (TR.sl (TR.pair TR.int (TR.pair (TR.sl TR.int) (TR.sl TR.int)))) v59 l58, imm (TR.sl TR.int) v1 x1, imm (TR.sl TR.int) v2 x2, own 24 (TR.sl TR.int) v174 y171.2.1, own 3 TR.int v307 l306, own 3 TR.int v309 l308, imm (TR.pair TR.int (TR.pair (TR.sl TR.int) (TR.sl TR.int))) v423 y417, obox 31 (TR.pair TR.int (TR.pair (TR.sl TR.int) (TR.sl TR.int))) v424 ((0 : Int), ([] : (List Int)), ([] : (List Int)))]) rfl ?_
              refine RL.asg rfl rfl rfl ?_
              refine RL.stP (off := 0) (e' := y417) (d1 := y417) (r := (TR.pair TR.int (TR.pair (TR.sl TR.int) (TR.sl TR.int)))) 7 Try_ln31 rfl rfl (Or.inr ⟨rfl, rfl⟩) rfl (VR.item 6 rfl) rfl Upd.self ?_
              refine RL.finG ?_
              refine GL.seq ?_
              refine GL.seq ?_
              obtain ⟨y428, K429, h430, h431, h432, h433, h434⟩ := bindF_K h410
              refine GL.join (ι := Bool) (fun (p : Bool) => [(0, v59), (1, v1), (2, v2), (10, v174), (12, v307), (13, v309), (14, .int .i64 (i407 : Int)), (15, v424), (93, v59), (94, .int .i64 ((l58).length : Int)), (95, .int .i64 (i407 : Int)), (108, .bool p)]) (fun (p : Bool) => [imm (TR.sl (TR.pair TR.int (TR.pair (TR.sl TR.int) (TR.sl TR.int)))) v59 l58, imm (TR.sl TR.int) v1 x1, imm (TR.sl TR.int) v2 x2, own 24 (TR.sl TR.int) v174 y171.2.1, own 3 TR.int v307 l306, own 3 TR.int v309 l308, obox 31 (TR.pair TR.int (TR.pair (TR.sl TR.int) (TR.sl TR.int))) v424 y417]) (fun (p : Bool) => K429 (.nx p)) ?_ ?_
              · skip
                refine GL.region ?_
                refine RL.fadr (off := 0) (fo := 0) 7 Try_fld31_0 rfl rfl rfl PtOf.obox (Or.inr ⟨rfl, rfl⟩) ?_
                refine RL.ldPx (off := (0 + 0)) (e' := y417.1) 7 Ex.ik Try_ln3 rfl rfl (Or.inl rfl) rfl PtOf.obox (Part.fst Part.self) ?_
                refine RL.binI (v := .bool (y417.1 == (1 : Int))) rfl rfl rfl rfl rfl ?_
                refine RL.mv rfl rfl rfl ?_
                refine RL.split (t := 103) rfl (fun b435 => ?_) (fun b435 => ?_)
                · replace h430 := ite_t b435 h430
                  refine RL.mv rfl rfl rfl ?_
                  refine RL.mv rfl rfl rfl ?_
                  refine RL.lenS 1 Try.underlying24 rfl rfl rfl rfl SlOf.imm ?_
                  refine RL.binI (v := .bool (decide ((i407 : Int) < ((x1).length : Int)))) rfl rfl rfl rfl rfl ?_
                  refine RL.pickT rfl rfl rfl rfl ?_
                  refine RL.fin ?_
                  cases h430
                  exact fun a w st => mid_intro (decide ((i407 : Int) < ((x1).length : Int))) h431 (St.cut [0, 1, 2, 3, 4, 5, 7] ⟨rfl, rfl, rfl, rfl, rfl, rfl, rfl, rfl, rfl, rfl, rfl, rfl, trivial⟩ (by decide) rfl st)
                · replace h430 := ite_f b435 h430
                  refine RL.skip rfl rfl ?_
                  refine RL.skip rfl rfl ?_
                  refine RL.skip rfl rfl ?_
                  refine RL.skip rfl rfl ?_
                  refine RL.pickF rfl rfl rfl rfl ?_
                  refine RL.fin ?_
                  cases h430
                  exact fun a w st => mid_intro false h431 (St.cut [0, 1, 2, 3, 4, 5, 7] ⟨rfl, rfl, rfl, rfl, rfl, rfl, rfl, rfl, rfl, rfl, rfl, rfl, trivial⟩ (by decide) rfl st)
              · rintro x427 h436
                have h437 := h432 _ h436
                try dsimp only at h437
                refine GL.weak (env' := [(0, v59), (1, v1), (2, v2), (10, v174), (12, v307), (13, v309), (14, .int .i64 (i407 : Int)), (15, v424), (93, v59), (94, .int .i64 ((l58).length : Int)), (95, .int .i64 (i407 : Int)), (108, .bool x427)]) (L' := [imm (TR.sl (TR.pair TR.int (TR.pair (TR.sl TR.int) (TR.sl TR.int)))) v59 l58, imm (TR.sl TR.int) v1 x1, imm (TR.sl TR.int) v2 x2, own 24 (TR.sl TR.int) v174 y171.2.1, own 3 TR.int v307 l306, own 3 TR.int v309 l308, obox 31 (TR.pair TR.int (TR.pair (TR.sl TR.int) (TR.sl TR.int))) v424 y417]) (fun _ _ st => st) ?_
                obtain ⟨y454, K455, h456, h457, h458, h459, h460⟩ := bindF_K h437
                refine GL.join (ι := (List Int)) (fun (p : (List Int)) => [(0, v59), (1, v1), (2, v2), (10, v174), (12, v307), (13, v309), (14, .int .i64 (i407 : Int)), (15, v424), (93, v59), (94, .int .i64 ((l58).length : Int)), (95, .int .i64 (i407 : Int))]) (fun (p : (List Int)) => [imm (TR.sl (TR.pair TR.int (TR.pair (TR.sl TR.int) (TR.sl TR.int)))) v59 l58, imm (TR.sl TR.int) v1 x1, imm (TR.sl TR.int) v2 x2, own 24 (TR.sl TR.int) v174 y171.2.1, own 3 TR.int v307 p, own 3 TR.int v309 l308, obox 31 (TR.pair TR.int (TR.pair (TR.sl TR.int) (TR.sl TR.int))) v424 y417]) (fun (p : (List Int)) => K455 (.nx p)) ?_ ?_
                · skip
                  refine GL.cond rfl (fun b461 => ?_) (fun b461 => ?_)
                  · replace h456 := ite_t b461 h456
                    refine GL.regionH 11 rfl rfl (by kernel_rfl) ?_
                    simp only [List.take_succ_cons, List.take_zero, List.drop_succ_cons, List.drop_zero]
                    refine RL.mv rfl rfl rfl ?_
                    refine RL.mv rfl rfl rfl ?_
                    refine RL.mv rfl rfl rfl ?_
                    refine RL.mv rfl rfl rfl ?_
                    obtain ⟨y469, e470, h456⟩ := bind_some h456
                    refine RL.idxS (sz := 1) 1 Try.underlying24 Try_ln3 rfl rfl rfl rfl rfl SlOf.imm (idx_some e470).1 (idx_some e470).2.1 ?_
                    refine RL.ldSx (i := i407) (e' := y469) 1 Ex.ik Try_ln3 rfl rfl rfl rfl SlOf.imm (idx_some e470).2.2 Part.self ?_
                    refine RL.fadr (off := 0) (fo := 1) 6 Try_fld31_1 rfl rfl rfl PtOf.obox (Or.inr ⟨rfl, rfl⟩) ?_
                    refine RL.ldP (off := (0 + 1)) (r := (TR.sl TR.int)) (e' := y417.2.1) 6 Try_ln24 rfl rfl (Or.inl rfl) rfl PtOf.obox (Part.snd (Part.fst Part.self)) ?_
                    intro v471
                    refine RL.lenS 7 Try.underlying24 rfl rfl rfl rfl SlOf.imm ?_
                    obtain ⟨y472, e473, h456⟩ := bind_some h456
                    refine RL.callC (v := .int .i64 y472) (vs := [.int .i64 y469, .int .i64 ((y417.2.1).length : Int)]) Try_fit17 rfl rfl rfl rfl (fun U w hU hW hL => pk_Within_c U w hU y469 ((y417.2.1).length : Int) _ e473) ?_
                    obtain ⟨y474, e475, h456⟩ := bind_some h456
                    refine RL.idxS (sz := 1) 4 Try.underlying24 Try_ln3 rfl rfl rfl rfl rfl SlOf.own (idx_some e475).1 (idx_some e475).2.1 ?_
                    refine RL.finH ?_
                    refine RL.stS (i := i407) (e' := y472) (e1 := y472) (r := TR.int) 4 Try_ln3 rfl rfl rfl rfl VR.int rfl (idx_some e475).2.2 Upd.self ?_
                    refine RL.reL (L' := [imm (TR.sl (TR.pair TR.int (TR.pair (TR.sl TR.int) (TR.sl TR.int)))) v59 l58, imm (TR.sl TR.int) v1 x1, imm (TR.sl TR.int) v2 x2, own 24 (TR.sl TR.int) v174 y171.2.1, own 3 TR.int v307 (List.set l306 i407 y472), own 3 TR.int v309 l308, obox 31 (TR.pair TR.int (TR.pair (TR.sl TR.int) (TR.sl TR.int))) v424 y417, imm (TR.sl TR.int) v471 y417.2.1]) rfl ?_
                    refine RL.finG ?_
                    cases h456
                    exact fun a w st => mid_intro (List.set l306 i407 y472) h457 (St.cut [0, 1, 2, 3, 4, 5, 6] ⟨rfl, rfl, rfl, rfl, rfl, rfl, rfl, rfl, rfl, rfl, rfl, trivial⟩ (by decide) rfl st)
                  · replace h456 := ite_f b461 h456
                    refine GL.skip ?_
                    cases h456
                    exact fun a w st => mid_intro l306 h457 (St.cut [0, 1, 2, 3, 4, 5, 6] ⟨rfl, rfl, rfl, rfl, rfl, rfl, rfl, rfl, rfl, rfl, rfl, trivial⟩ (by decide) rfl st)
                · rintro l453 h476
                  have h477 := h458 _ h476
                  try dsimp only at h477
                  refine GL.weak (env' := [(0, v59), (1, v1), (2, v2), (10, v174), (12, v307), (13, v309), (14, .int .i64 (i407 : Int)), (15, v424), (93, v59), (94, .int .i64 ((l58).length : Int)), (95, .int .i64 (i407 : Int))]) (L' := [imm (TR.sl (TR.pair TR.int (TR.pair (TR.sl TR.int) (TR.sl TR.int)))) v59 l58, imm (TR.sl TR.int) v1 x1, imm (TR.sl TR.int) v2 x2, own 24 (TR.sl TR.int) v174 y171.2.1, own 3 TR.int v307 l453, own 3 TR.int v309 l308, obox 31 (TR.pair TR.int (TR.pair (TR.sl TR.int) (TR.sl TR.int))) v424 y417]) (fun _ _ st => st) ?_
                  refine GL.seq ?_
                  obtain ⟨y481, K482, h483, h484, h485, h486, h487⟩ := bindF_K h477
                  refine GL.join (ι := Bool) (fun (p : Bool) => [(0, v59), (1, v1), (2, v2), (10, v174), (12, v307), (13, v309), (14, .int .i64 (i407 : Int)), (15, v424), (93, v59), (94, .int .i64 ((l58).length : Int)), (95, .int .i64 (i407 : Int)), (128, .bool p)]) (fun (p : Bool) => [imm (TR.sl (TR.pair TR.int (TR.pair (TR.sl TR.int) (TR.sl TR.int)))) v59 l58, imm (TR.sl TR.int) v1 x1, imm (TR.sl TR.int) v2 x2, own 24 (TR.sl TR.int) v174 y171.2.1, own 3 TR.int v307 l453, own 3 TR.int v309 l308, obox 31 (TR.pair TR.int (TR.pair (TR.sl TR.int) (TR.sl TR.int))) v424 y417]) (fun (p : Bool) => K482 (.nx p)) ?_ ?_
                  · skip
                    refine GL.region ?_
                    refine RL.fadr (off := 0) (fo := 0) 6 Try_fld31_0 rfl rfl rfl PtOf.obox (Or.inr ⟨rfl, rfl⟩) ?_
                    refine RL.ldPx (off := (0 + 0)) (e' := y417.1) 6 Ex.ik Try_ln3 rfl rfl (Or.inl rfl) rfl PtOf.obox (Part.fst Part.self) ?_
                    refine RL.binI (v := .bool (y417.1 == (0 : Int))) rfl rfl rfl rfl rfl ?_
                    refine RL.mv rfl rfl rfl ?_
                    refine RL.split (t := 123) rfl (fun b488 => ?_) (fun b488 => ?_)
                    · replace h483 := ite_t b488 h483
                      refine RL.mv rfl rfl rfl ?_
                      refine RL.mv rfl rfl rfl ?_
                      refine RL.lenS 2 Try.underlying24 rfl rfl rfl rfl SlOf.imm ?_
                      refine RL.binI (v := .bool (decide ((i407 : Int) < ((x2).length : Int)))) rfl rfl rfl rfl rfl ?_
                      refine RL.pickT rfl rfl rfl rfl ?_
                      refine RL.fin ?_
                      cases h483
                      exact fun a w st => mid_intro (decide ((i407 : Int) < ((x2).length : Int))) h484 (St.cut [0, 1, 2, 3, 4, 5, 6] ⟨rfl, rfl, rfl, rfl, rfl, rfl, rfl, rfl, rfl, rfl, rfl, rfl, trivial⟩ (by decide) rfl st)
                    · replace h483 := ite_f b488 h483
                      refine RL.skip rfl rfl ?_
                      refine RL.skip rfl rfl ?_
                      refine RL.skip rfl rfl ?_
                      refine RL.skip rfl rfl ?_
                      refine RL.pickF rfl rfl rfl rfl ?_
                      refine RL.fin ?_
                      cases h483
                      exact fun a w st => mid_intro false h484 (St.cut [0, 1, 2, 3, 4, 5, 6] ⟨rfl, rfl, rfl, rfl, rfl, rfl, rfl, rfl, rfl, rfl, rfl, rfl, trivial⟩ (by decide) rfl st)
                  · rintro x480 h489
                    have h490 := h485 _ h489
                    try dsimp only at h490
                    refine GL.weak (env' := [(0, v59), (1, v1), (2, v2), (10, v174), (12, v307), (13, v309), (14, .int .i64 (i407 : Int)), (15, v424), (93, v59), (94, .int .i64 ((l58).length : Int)), (95, .int .i64 (i407 : Int)), (128, .bool x480)]) (L' := [imm (TR.sl (TR.pair TR.int (TR.pair (TR.sl TR.int) (TR.sl TR.int)))) v59 l58, imm (TR.sl TR.int) v1 x1, imm (TR.sl TR.int) v2 x2, own 24 (TR.sl TR.int) v174 y171.2.1, own 3 TR.int v307 l453, own 3 TR.int v309 l308, obox 31 (TR.pair TR.int (TR.pair (TR.sl TR.int) (TR.sl TR.int))) v424 y417]) (fun _ _ st => st) ?_
                    refine GL.cond rfl (fun b491 => ?_) (fun b491 => ?_)
                    · replace h490 := ite_t b491 h490
                      refine GL.regionH 11 rfl rfl (by kernel_rfl) ?_
                      simp only [List.take_succ_cons, List.take_zero, List.drop_succ_cons, List.drop_zero]
                      refine RL.mv rfl rfl rfl ?_
                      refine RL.mv rfl rfl rfl ?_
                      refine RL.mv rfl rfl rfl ?_
                      refine RL.mv rfl rfl rfl ?_
                      obtain ⟨y499, e500, h490⟩ := bind_some h490
                      refine RL.idxS (sz := 1) 2 Try.underlying24 Try_ln3 rfl rfl rfl rfl rfl SlOf.imm (idx_some e500).1 (idx_some e500).2.1 ?_
                      refine RL.ldSx (i := i407) (e' := y499) 2 Ex.ik Try_ln3 rfl rfl rfl rfl SlOf.imm (idx_some e500).2.2 Part.self ?_
                      refine RL.fadr (off := 0) (fo := 1) 6 Try_fld31_1 rfl rfl rfl PtOf.obox (Or.inr ⟨rfl, rfl⟩) ?_
                      refine RL.ldP (off := (0 + 1)) (r := (TR.sl TR.int)) (e' := y417.2.1) 6 Try_ln24 rfl rfl (Or.inl rfl) rfl PtOf.obox (Part.snd (Part.fst Part.self)) ?_
                      intro v501
                      refine RL.lenS 7 Try.underlying24 rfl rfl rfl rfl SlOf.imm ?_
                      obtain ⟨y502, e503, h490⟩ := bind_some h490
                      refine RL.callC (v := .int .i64 y502) (vs := [.int .i64 y499, .int .i64 ((y417.2.1).length : Int)]) Try_fit17 rfl rfl rfl rfl (fun U w hU hW hL => pk_Within_c U w hU y499 ((y417.2.1).length : Int) _ e503) ?_
                      obtain ⟨y504, e505, h490⟩ := bind_some h490
                      refine RL.idxS (sz := 1) 5 Try.underlying24 Try_ln3 rfl rfl rfl rfl rfl SlOf.own (idx_some e505).1 (idx_some e505).2.1 ?_
                      refine RL.finH ?_
                      refine RL.stS (i := i407) (e' := y502) (e1 := y502) (r := TR.int) 5 Try_ln3 rfl rfl rfl rfl VR.int rfl (idx_some e505).2.2 Upd.self ?_
                      refine RL.reL (L' := [imm (TR.sl (TR.pair TR.int (TR.pair (TR.sl TR.int) (TR.sl TR.int)))) v59 l58, imm (TR.sl TR.int) v1 x1, imm (TR.sl TR.int) v2 x2, own 24 (TR.sl TR.int) v174 y171.2.1, own 3 TR.int v307 l453, own 3 TR.int v309 (List.set l308 i407 y502), obox 31 (TR.pair TR.int (TR.pair (TR.sl TR.int) (TR.sl TR.int))) v424 y417, imm (TR.sl TR.int) v501 y417.2.1]) rfl ?_
                      refine RL.finG ?_
                      refine GL.nilB ?_
                      refine GL.region ?_
                      refine RL.binI (v := .int .i64 ((i407 + 1 : Nat) : Int)) rfl rfl rfl rfl (binI_succ i407 (by omega)) ?_
                      refine RL.mv rfl rfl rfl ?_
                      refine RL.fin ?_
                      cases h490
                      exact fun a w st => lop_intro (i407 + 1, r419, l453, (List.set l308 i407 y502), v307, v309) ⟨by show i407 + 1 + r419.length = (l58).length; simp only [List.length_cons] at h413; omega, h420, h411⟩ (by simp) (St.cut [0, 1, 2, 3, 4, 5] ⟨rfl, rfl, rfl, rfl, rfl, rfl, rfl, rfl, rfl, trivial⟩ (by decide) rfl st)
                    · replace h490 := ite_f b491 h490
                      refine GL.skip ?_
                      refine GL.nilB ?_
                      refine GL.region ?_
                      refine RL.binI (v := .int .i64 ((i407 + 1 : Nat) : Int)) rfl rfl rfl rfl (binI_succ i407 (by omega)) ?_
                      refine RL.mv rfl rfl rfl ?_
                      refine RL.fin ?_
                      cases h490
                      exact fun a w st => lop_intro (i407 + 1, r419, l453, l308, v307, v309) ⟨by show i407 + 1 + r419.length = (l58).length; simp only [List.length_cons] at h413; omega, h420, h411⟩ (by simp) (St.cut [0, 1, 2, 3, 4, 5] ⟨rfl, rfl, rfl, rfl, rfl, rfl, rfl, rfl, rfl, trivial⟩ (by decide) rfl st)
            · have h416 : ¬ i407 < (l58).length := by have := of_decide_eq_false b415; omega
              obtain rfl : r408 = [] := by rw [← h414]; exact List.drop_of_length_le (by omega)
              replace h412 : some (Fl.nx _) = some y400 := h412
              cases h412
              exact GL.exit (fun a w st => mid_intro (l306, l308, v307, v309) h403 (St.cut [0, 3, 4, 5] ⟨rfl, rfl, rfl, rfl, trivial⟩ (by decide) rfl st))
          · rintro ⟨l306, l308, v307, v309⟩ h506
            have h507 := h404 _ h506
            try dsimp only at h507
            refine GL.weak (env' := [(0, v59), (10, v174), (12, v307), (13, v309)]) (L' := [imm (TR.sl (TR.pair TR.int (TR.pair (TR.sl TR.int) (TR.sl TR.int)))) v59 l58, own 24 (TR.sl TR.int) v174 y171.2.1, own 3 TR.int v307 l306, own 3 TR.int v309 l308]) (fun _ _ st => st) ?_
            refine GL.seq ?_
            refine GL.region ?_
            refine RL.mv rfl rfl rfl ?_
            refine RL.mv rfl rfl rfl ?_
            refine RL.weak (fun a w st => st.freeze 2 rfl) ?_
            obtain ⟨y512, e513, h507⟩ := bind_some h507
            refine RL.call (vs := [.int .i64 (2 : Int), v59, v307]) Try_fit21 rfl rfl rfl rfl rfl (fun S f w hS hW hi => tree_Play_c S w hS (2 : Int) _ _ (hi 0 _ rfl) _ _ (hi 2 _ rfl) _ e513) ?_
            intro ⟨v514, v515⟩
            refine RL.reL (L' := [imm (TR.sl (TR.pair TR.int (TR.pair (TR.sl TR.int) (TR.sl TR.int)))) v59 l58, own 24 (TR.sl TR.int) v174 y171.2.1, imm (TR.sl TR.int) v307 l306, own 3 TR.int v309 l308, own 3 TR.int v514 y512.1, own 3 TR.int v515 y512.2.1]) rfl ?_
            refine RL.mv rfl rfl rfl ?_
            refine RL.ext rfl rfl rfl rfl ?_
            refine RL.ext rfl rfl rfl rfl ?_
            refine RL.ext rfl rfl rfl rfl ?_
            refine RL.asg rfl rfl rfl ?_
            refine RL.asg rfl rfl rfl ?_
            refine RL.asg rfl rfl rfl ?_
            refine RL.finG ?_
            refine GL.seq ?_
            refine GL.region ?_
            refine RL.mv rfl rfl rfl ?_
            refine RL.mv rfl rfl rfl ?_
            refine RL.weak (fun a w st => st.freeze 3 rfl) ?_
            obtain ⟨y520, e521, h507⟩ := bind_some h507
            refine RL.call (vs := [.int .i64 (2 : Int), v59, v309]) Try_fit21 rfl rfl rfl rfl rfl (fun S f w hS hW hi => tree_Play_c S w hS (2 : Int) _ _ (hi 0 _ rfl) _ _ (hi 3 _ rfl) _ e521) ?_
            intro ⟨v522, v523⟩
            refine RL.reL (L' := [imm (TR.sl (TR.pair TR.int (TR.pair (TR.sl TR.int) (TR.sl TR.int)))) v59 l58, own 24 (TR.sl TR.int) v174 y171.2.1, imm (TR.sl TR.int) v307 l306, imm (TR.sl TR.int) v309 l308, own 3 TR.int v514 y512.1, own 3 TR.int v515 y512.2.1, own 3 TR.int v522 y520.1, own 3 TR.int v523 y520.2.1]) rfl ?_
            refine RL.mv rfl rfl rfl ?_
            refine RL.ext rfl rfl rfl rfl ?_
            refine RL.ext rfl rfl rfl rfl ?_
            refine RL.ext rfl rfl rfl rfl ?_
            refine RL.asg rfl rfl rfl ?_
            refine RL.asg rfl rfl rfl ?_
            refine RL.asg rfl rfl rfl ?_
            refine RL.finG ?_
            refine GL.seq ?_
            obtain ⟨y575, K576, h577, h578, h579, h580, h581⟩ := bindR_K h507
            refine GL.join (ι := Bool) (fun (p : Bool) => [(6, .bool p)]) (fun (p : Bool) => []) (fun (p : Bool) => K576 (.nx p)) ?_ ?_
            · skip
              refine GL.regionA rfl rfl ?_
              refine RA.mv 0 rfl (by kernel_rfl) rfl rfl rfl ?_
              refine RA.mv 1 rfl (by kernel_rfl) rfl rfl rfl ?_
              refine RA.seq 2 rfl (by kernel_rfl) ?_
              refine RL.bS (t := TR.int) (vs := [.int .i64 y512.2.2, .int .i64 y520.2.2]) ([y512.2.2, y520.2.2] : (List Int)) Try.underlying77 Try_lo26 rfl rfl rfl rfl ⟨VR.int, ⟨VR.int, trivial⟩⟩ rfl (by decide) ?_
              intro v582
              refine RL.fin ?_
              refine RA.next ?_
              refine RA.quiet 3 rfl rfl (by kernel_rfl) ?_
              simp only [List.drop_succ_cons, List.drop_zero]
              obtain ⟨y583, e584, h577⟩ := bind_some h577
              refine RL.callV (v := .bool y583) (vs := [v582]) Try_fit26 rfl (Or.inr ⟨_, rfl⟩) rfl rfl rfl rfl (fun U w hU hW hL => pk_good_c U w hU _ _ (hL 8 _ _ rfl Seen.own) _ e584) ?_
              refine RL.mv rfl rfl rfl ?_
              refine RL.split (t := 159) rfl (fun b585 => ?_) (fun b585 => ?_)
              · replace h577 := ite_t b585 h577
                refine RL.mv rfl rfl rfl ?_
                refine RL.lenS 5 Try.underlying24 rfl rfl rfl rfl SlOf.own ?_
                refine RL.binI (v := .bool (((y512.2.1).length : Int) == (2 : Int))) rfl rfl rfl rfl rfl ?_
                refine RL.pickT rfl rfl rfl rfl ?_
                refine RL.mv rfl rfl rfl ?_
                refine RL.split (t := 164) rfl (fun b586 => ?_) (fun b586 => ?_)
                · replace h577 := ite_t b586 h577
                  refine RL.mv rfl rfl rfl ?_
                  refine RL.lenS 7 Try.underlying24 rfl rfl rfl rfl SlOf.own ?_
                  refine RL.binI (v := .bool (((y520.2.1).length : Int) == (2 : Int))) rfl rfl rfl rfl rfl ?_
                  refine RL.pickT rfl rfl rfl rfl ?_
                  refine RL.mv rfl rfl rfl ?_
                  refine RL.split (t := 169) rfl (fun b587 => ?_) (fun b587 => ?_)
                  · replace h577 := ite_t b587 h577
                    refine RL.mv rfl rfl rfl ?_
                    obtain ⟨y588, e589, h577⟩ := bind_some h577
                    refine RL.idxS (sz := 1) 1 Try.underlying25 Try_ln24 rfl rfl rfl rfl rfl SlOf.own (idx_some e589).1 (idx_some e589).2.1 ?_
                    refine RL.ldS (i := ((0 : Int)).toNat) (r := (TR.sl TR.int)) (e' := y588) 1 Try_ln24 rfl rfl rfl rfl SlOf.own (idx_some e589).2.2 Part.self ?_
                    intro v590
                    refine RL.lenS 9 Try.underlying24 rfl rfl rfl rfl SlOf.imm ?_
                    refine RL.binI (v := .bool (((y588).length : Int) == (2 : Int))) rfl rfl rfl rfl rfl ?_
                    refine RL.pickT rfl rfl rfl rfl ?_
                    refine RL.mv rfl rfl rfl ?_
                    refine RL.split (t := 176) rfl (fun b591 => ?_) (fun b591 => ?_)
                    · replace h577 := ite_t b591 h577
                      refine RL.mv rfl rfl rfl ?_
                      obtain ⟨y592, e593, h577⟩ := bind_some h577
                      refine RL.idxS (sz := 1) 5 Try.underlying24 Try_ln3 rfl rfl rfl rfl rfl SlOf.own (idx_some e593).1 (idx_some e593).2.1 ?_
                      refine RL.ldSx (i := ((0 : Int)).toNat) (e' := y592) 5 Ex.ik Try_ln3 rfl rfl rfl rfl SlOf.own (idx_some e593).2.2 Part.self ?_
                      refine RL.mv rfl rfl rfl ?_
                      obtain ⟨y594, e595, h577⟩ := bind_some h577
                      refine RL.idxS (sz := 1) 1 Try.underlying25 Try_ln24 rfl rfl rfl rfl rfl SlOf.own (idx_some e595).1 (idx_some e595).2.1 ?_
                      refine RL.ldS (i := ((0 : Int)).toNat) (r := (TR.sl TR.int)) (e' := y594) 1 Try_ln24 rfl rfl rfl rfl SlOf.own (idx_some e595).2.2 Part.self ?_
                      intro v596
                      refine RL.reL (L' := [imm (TR.sl (TR.pair TR.int (TR.pair (TR.sl TR.int) (TR.sl TR.int)))) v59 l58, own 24 (TR.sl TR.int) v174 y171.2.1, imm (TR.sl TR.int) v307 l306, imm (TR.sl TR.int) v309 l308, own 3 TR.int v514 y512.1, own 3 TR.int v515 y512.2.1, own 3 TR.int v522 y520.1, own 3 TR.int v523 y520.2.1, own 26 TR.int v582 ([y512.2.2, y520.2.2] : (List Int)), imm (TR.sl TR.int) v590 y588, imm (TR.sl TR.int) v596 y594]) rfl ?_
                      obtain ⟨y597, e598, h577⟩ := bind_some h577
                      refine RL.idxS (sz := 1) 10 Try.underlying24 Try_ln3 rfl rfl rfl rfl rfl SlOf.imm (idx_some e598).1 (idx_some e598).2.1 ?_
                      refine RL.ldSx (i := ((0 : Int)).toNat) (e' := y597) 10 Ex.ik Try_ln3 rfl rfl rfl rfl SlOf.imm (idx_some e598).2.2 Part.self ?_
                      refine RL.binI (v := .bool (decide (y592 ≥ y597))) rfl rfl rfl rfl rfl ?_
                      refine RL.pickT rfl rfl rfl rfl ?_
                      refine RL.mv rfl rfl rfl ?_
                      refine RL.split (t := 187) rfl (fun b599 => ?_) (fun b599 => ?_)
                      · replace h577 := ite_t b599 h577
                        refine RL.mv rfl rfl rfl ?_
                        obtain ⟨y600, e601, h577⟩ := bind_some h577
                        refine RL.idxS (sz := 1) 7 Try.underlying24 Try_ln3 rfl rfl rfl rfl rfl SlOf.own (idx_some e601).1 (idx_some e601).2.1 ?_
                        refine RL.ldSx (i := ((0 : Int)).toNat) (e' := y600) 7 Ex.ik Try_ln3 rfl rfl rfl rfl SlOf.own (idx_some e601).2.2 Part.self ?_
                        refine RL.mv rfl rfl rfl ?_
                        obtain ⟨y602, e603, h577⟩ := bind_some h577
                        refine RL.idxS (sz := 1) 1 Try.underlying25 Try_ln24 rfl rfl rfl rfl rfl SlOf.own (idx_some e603).1 (idx_some e603).2.1 ?_
                        refine RL.ldS (i := ((0 : Int)).toNat) (r := (TR.sl TR.int)) (e' := y602) 1 Try_ln24 rfl rfl rfl rfl SlOf.own (idx_some e603).2.2 Part.self ?_
                        intro v604
                        obtain ⟨y605, e606, h577⟩ := bind_some h577
                        refine RL.idxS (sz := 1) 11 Try.underlying24 Try_ln3 rfl rfl rfl rfl rfl SlOf.imm (idx_some e606).1 (idx_some e606).2.1 ?_
                        refine RL.ldSx (i := ((0 : Int)).toNat) (e' := y605) 11 Ex.ik Try_ln3 rfl rfl rfl rfl SlOf.imm (idx_some e606).2.2 Part.self ?_
                        refine RL.binI (v := .bool (decide (y600 ≤ y605))) rfl rfl rfl rfl rfl ?_
                        refine RL.pickT rfl rfl rfl rfl ?_
                        refine RL.asg rfl rfl rfl ?_
                        refine RL.finQ ?_
                        refine RA.outQ ?_
                        refine GL.nil ?_
                        cases h577
                        exact fun a w st => mid_intro (decide (y600 ≤ y605)) h578 (St.cut [] ⟨rfl, trivial⟩ (by decide) rfl st)
                      · replace h577 := ite_f b599 h577
                        refine RL.skip rfl rfl ?_
                        refine RL.skip rfl rfl ?_
                        refine RL.skip rfl rfl ?_
                        refine RL.skip rfl rfl ?_
                        refine RL.skip rfl rfl ?_
                        refine RL.skip rfl rfl ?_
                        refine RL.skip rfl rfl ?_
                        refine RL.skip rfl rfl ?_
                        refine RL.skip rfl rfl ?_
                        refine RL.pickF rfl rfl rfl rfl ?_
                        refine RL.asg rfl rfl rfl ?_
                        refine RL.finQ ?_
                        refine RA.outQ ?_
                        refine GL.nil ?_
                        cases h577
                        exact fun a w st => mid_intro false h578 (St.cut [] ⟨rfl, trivial⟩ (by decide) rfl st)
                    · replace h577 := ite_f b591 h577
                      refine RL.skip rfl rfl ?_
                      refine RL.skip rfl rfl ?_
                      refine RL.skip rfl rfl ?_
                      refine RL.skip rfl rfl ?_
                      refine RL.skip rfl rfl ?_
                      refine RL.skip rfl rfl ?_
                      refine RL.skip rfl rfl ?_
                      refine RL.skip rfl rfl ?_
                      refine RL.skip rfl rfl ?_
                      refine RL.pickF rfl rfl rfl rfl ?_
                      refine RL.mv rfl rfl rfl ?_
                      refine RL.skip rfl rfl ?_
                      refine RL.skip rfl rfl ?_
                      refine RL.skip rfl rfl ?_
                      refine RL.skip rfl rfl ?_
                      refine RL.skip rfl rfl ?_
                      refine RL.skip rfl rfl ?_
                      refine RL.skip rfl rfl ?_
                      refine RL.skip rfl rfl ?_
                      refine RL.skip rfl rfl ?_
                      refine RL.pickF rfl rfl rfl rfl ?_
                      refine RL.asg rfl rfl rfl ?_
                      refine RL.finQ ?_
                      refine RA.outQ ?_
                      refine GL.nil ?_
                      cases h577
                      exact fun a w st => mid_intro false h578 (St.cut [] ⟨rfl, trivial⟩ (by decide) rfl st)
                  · replace h577 := ite_f b587 h577
                    refine RL.skip rfl rfl ?_
                    refine RL.skip rfl rfl ?_
                    refine RL.skip rfl rfl ?_
                    refine RL.skip rfl rfl ?_
                    refine RL.skip rfl rfl ?_
                    refine RL.pickF rfl rfl rfl rfl ?_
                    refine RL.mv rfl rfl rfl ?_
                    refine RL.skip rfl rfl ?_
                    refine RL.skip rfl rfl ?_
                    refine RL.skip rfl rfl ?_
                    refine RL.skip rfl rfl ?_
                    refine RL.skip rfl rfl ?_
                    refine RL.skip rfl rfl ?_
                    refine RL.skip rfl rfl ?_
                    refine RL.skip rfl rfl ?_
                    refine RL.skip rfl rfl ?_
                    refine RL.pickF rfl rfl rfl rfl ?_
                    refine RL.mv rfl rfl rfl ?_
                    refine RL.skip rfl rfl ?_
                    refine RL.skip rfl rfl ?_
                    refine RL.skip rfl rfl ?_
                    refine RL.skip rfl rfl ?_
                    refine RL.skip rfl rfl ?_
                    refine RL.skip rfl rfl ?_
                    refine RL.skip rfl rfl ?_
                    refine RL.skip rfl rfl ?_
                    refine RL.skip rfl rfl ?_
                    refine RL.pickF rfl rfl rfl rfl ?_
                    refine RL.asg rfl rfl rfl ?_
                    refine RL.finQ ?_
                    refine RA.outQ ?_
                    refine GL.nil ?_
                    cases h577
                    exact fun a w st => mid_intro false h578 (St.cut [] ⟨rfl, trivial⟩ (by decide) rfl st)
                · replace h577 := ite_f b586 h577
                  refine RL.skip rfl rfl ?_
                  refine RL.skip rfl rfl ?_
                  refine RL.skip rfl rfl ?_
                  refine RL.pickF rfl rfl rfl rfl ?_
                  refine RL.mv rfl rfl rfl ?_
                  refine RL.skip rfl rfl ?_
                  refine RL.skip rfl rfl ?_
                  refine RL.skip rfl rfl ?_
                  refine RL.skip rfl rfl ?_
                  refine RL.skip rfl rfl ?_
                  refine RL.pickF rfl rfl rfl rfl ?_
                  refine RL.mv rfl rfl rfl ?_
                  refine RL.skip rfl rfl ?_
                  refine RL.skip rfl rfl ?_
                  refine RL.skip rfl rfl ?_
                  refine RL.skip rfl rfl ?_
                  refine RL.skip rfl rfl ?_
                  refine RL.skip rfl rfl ?_
                  refine RL.skip rfl rfl ?_
                  refine RL.skip rfl rfl ?_
                  refine RL.skip rfl rfl ?_
                  refine RL.pickF rfl rfl rfl rfl ?_
                  refine RL.mv rfl rfl rfl ?_
                  refine RL.skip rfl rfl ?_
                  refine RL.skip rfl rfl ?_
                  refine RL.skip rfl rfl ?_
                  refine RL.skip rfl rfl ?_
                  refine RL.skip rfl rfl ?_
                  refine RL.skip rfl rfl ?_
                  refine RL.skip rfl rfl ?_
                  refine RL.skip rfl rfl ?_
                  refine RL.skip rfl rfl ?_
                  refine RL.pickF rfl rfl rfl rfl ?_
                  refine RL.asg rfl rfl rfl ?_
                  refine RL.finQ ?_
                  refine RA.outQ ?_
                  refine GL.nil ?_
                  cases h577
                  exact fun a w st => mid_intro false h578 (St.cut [] ⟨rfl, trivial⟩ (by decide) rfl st)
              · replace h577 := ite_f b585 h577
                refine RL.skip rfl rfl ?_
                refine RL.skip rfl rfl ?_
                refine RL.skip rfl rfl ?_
                refine RL.pickF rfl rfl rfl rfl ?_
                refine RL.mv rfl rfl rfl ?_
                refine RL.skip rfl rfl ?_
                refine RL.skip rfl rfl ?_
                refine RL.skip rfl rfl ?_
                refine RL.pickF rfl rfl rfl rfl ?_
                refine RL.mv rfl rfl rfl ?_
                refine RL.skip rfl rfl ?_
                refine RL.skip rfl rfl ?_
                refine RL.skip rfl rfl ?_
                refine RL.skip rfl rfl ?_
                refine RL.skip rfl rfl ?_
                refine RL.pickF rfl rfl rfl rfl ?_
                refine RL.mv rfl rfl rfl ?_
                refine RL.skip rfl rfl ?_
                refine RL.skip rfl rfl ?_
                refine RL.skip rfl rfl ?_
                refine RL.skip rfl rfl ?_
                refine RL.skip rfl rfl ?_
                refine RL.skip rfl rfl ?_
                refine RL.skip rfl rfl ?_
                refine RL.skip rfl rfl ?_
                refine RL.skip rfl rfl ?_
                refine RL.pickF rfl rfl rfl rfl ?_
                refine RL.mv rfl rfl rfl ?_
                refine RL.skip rfl rfl ?_
                refine RL.skip rfl rfl ?_
                refine RL.skip rfl rfl ?_
                refine RL.skip rfl rfl ?_
                refine RL.skip rfl rfl ?_
                refine RL.skip rfl rfl ?_
                refine RL.skip rfl rfl ?_
                refine RL.skip rfl rfl ?_
                refine RL.skip rfl rfl ?_
                refine RL.pickF rfl rfl rfl rfl ?_
                refine RL.asg rfl rfl rfl ?_
                refine RL.finQ ?_
                refine RA.outQ ?_
                refine GL.nil ?_
                cases h577
                exact fun a w st => mid_intro false h578 (St.cut [] ⟨rfl, trivial⟩ (by decide) rfl st)
            · rintro x574 h607
              have h608 := h579 _ h607
              try dsimp only at h608
              refine GL.weak (env' := [(6, .bool x574)]) (L' := []) (fun _ _ st => st) ?_
              have h608 := Option.some.inj h608
              subst h608
              exact GL.ret (Gx.ret (v := .bool x574) (res1 rfl rfl) (fun a w st => st.toPostV))
end Go.Wk
