/- Each function comes to what its model says; printed by a program of this repository. -/
import Derived.Test.YtnkhelpadbickaaProg
import Derived.Test.YtnkhelpadbickaaWRoadsRestModels
namespace Go.Wk
open Go.Fw Go.Mo Go.Proofs Go.RowKit
set_option linter.unusedVariables false
set_option maxRecDepth 100000
theorem loopNx {ρ σ β γ : Type} {body : σ → Option (Fl ρ β σ)} {n : Nat} {s : σ} {y : Fl ρ γ β} (h : stepM body n (.nx s) = some y) : loopM body n s = some y := h
theorem Try_info3 : (Try.prog.info? 3).map (fun i => (i.zero, i.size, i.bytes)) = some (some (.int .i64 0), 1, 8) := by kernel_rfl
theorem Try_ln3 : Ln Try.prog 3 1 false := Ln.of Try_info3 Try.underlying3 rfl
theorem Try_lo3 : LnO Try.prog 3 1 [.int .i64 0] := LnO.of Try_info3 rfl rfl (by decide) (by decide)
theorem Try_info24 : (Try.prog.info? 24).map (fun i => (i.zero, i.size, i.bytes)) = some (some (.slice none 0 0), 1, 24) := by kernel_rfl
theorem Try_ln24 : Ln Try.prog 24 1 false := Ln.of Try_info24 Try.underlying24 rfl
theorem Try_lo24 : LnO Try.prog 24 1 [.slice none 0 0] := LnO.of Try_info24 rfl rfl (by decide) (by decide)
theorem Try_info26 : (Try.prog.info? 26).map (fun i => (i.zero, i.size, i.bytes)) = some (some (.int .i64 0), 1, 8) := by kernel_rfl
theorem Try_ln26 : Ln Try.prog 26 1 false := Ln.of Try_info26 Try.underlying26 rfl
theorem Try_lo26 : LnO Try.prog 26 1 [.int .i64 0] := LnO.of Try_info26 rfl rfl (by decide) (by decide)
theorem Try_info74 : (Try.prog.info? 74).map (fun i => (i.zero, i.size, i.bytes)) = some (some (.agg #[.slice none 0 0]), 1, 24) := by kernel_rfl
theorem Try_ln74 : Ln Try.prog 74 1 true := Ln.of Try_info74 Try.underlying74 rfl
theorem Try_lo74 : LnO Try.prog 74 1 [.slice none 0 0] := LnO.of Try_info74 rfl rfl (by decide) (by decide)
theorem Try_bld74 (pv : List (Nat × Value)) : Try.prog.built 74 pv = Instr.fill ((mkPlaces 0 [[.slice none 0 0]]).toArray[·]?) (List.flatten [[.slice none 0 0]]).toArray pv := by kernel_rfl
theorem Try_fit18 : Fit Try.prog 18 := Fit.of Try.func18 (by kernel_rfl) rfl
theorem Try_fit19 : Fit Try.prog 19 := Fit.of Try.func19 (by kernel_rfl) rfl
theorem Try_fit22 : Fit Try.prog 22 := Fit.of Try.func22 (by kernel_rfl) rfl
theorem Try_fit23 : Fit Try.prog 23 := Fit.of Try.func23 (by kernel_rfl) rfl
theorem Try_fit24 : Fit Try.prog 24 := Fit.of Try.func24 (by kernel_rfl) rfl
theorem Try_fit25 : Fit Try.prog 25 := Fit.of Try.func25 (by kernel_rfl) rfl
theorem Try_fit26 : Fit Try.prog 26 := Fit.of Try.func26 (by kernel_rfl) rfl
theorem Try_fit44 : Fit Try.prog 44 := Fit.of Try.func44 (by kernel_rfl) rfl
theorem Try_fit45 : Fit Try.prog 45 := Fit.of Try.func45 (by kernel_rfl) rfl
theorem Try_fit46 : Fit Try.prog 46 := Fit.of Try.func46 (by kernel_rfl) rfl
theorem Try_fit47 : Fit Try.prog 47 := Fit.of Try.func47 (by kernel_rfl) rfl
theorem Try_fit55 : Fit Try.prog 55 := Fit.of Try.func55 (by kernel_rfl) rfl
theorem Try_fld74_0 (ad : Addr) (w : World) : (Instr.fieldAt 74 (.pointer (some ad)) 0).run Try.prog w = .ok (.pointer (some (ad.add 0))) w := by
  simp [Instr.fieldAt, run_underlying Try.underlying74, Instr.sureAddr, fieldPlace, Fw.run_sizeOf Try_ln24]

set_option maxHeartbeats 4000000 in
theorem roads_Check_c (S : Hp) (w : World) (hS : S.sub w) (v0 : Value) (x0 : (List (List Int))) (k0 : ((TR.sl (TR.rec1 (TR.sl TR.int)))).vrep S v0 x0) (v1 : Value) (x1 : (List Int)) (k1 : ((TR.sl TR.int)).vrep S v1 x1) (res : Int) (hm : roads_Check_m x0 x1 = some res) : Calls Try.prog 44 #[v0, v1] w (PostV w (.int .i64 res)) := by
  refine calls_enter 79 Try.func44 Try.ntmps44 rfl S false [(0, v0), (1, v1)] [imm (TR.sl (TR.rec1 (TR.sl TR.int))) v0 x0, imm (TR.sl TR.int) v1 x1] rfl ⟨rfl, ⟨rfl, trivial⟩⟩ hS ⟨k0, ⟨k1, trivial⟩⟩ ?_
  unfold roads_Check_m at hm
  refine GL.seq ?_
  refine GL.region ?_
  refine RL.asg rfl rfl rfl ?_
  refine RL.finG ?_
  refine GL.seq ?_
  refine GL.seq ?_
  obtain ⟨y8, K9, h10, h11, h12, h13, h14⟩ := bindR_K hm
  refine GL.join (ι := Bool) (fun (p : Bool) => [(0, v0), (1, v1), (23, .bool p)]) (fun (p : Bool) => [imm (TR.sl (TR.rec1 (TR.sl TR.int))) v0 x0, imm (TR.sl TR.int) v1 x1]) (fun (p : Bool) => K9 (.nx p)) ?_ ?_
  · skip
    refine GL.region ?_
    refine RL.mv rfl rfl rfl ?_
    refine RL.lenS 0 Try.underlying39 rfl rfl rfl rfl SlOf.imm ?_
    refine RL.binI (v := .bool (decide (((x0).length : Int) < (1 : Int)))) rfl rfl rfl rfl rfl ?_
    refine RL.mv rfl rfl rfl ?_
    refine RL.split (t := 14) rfl (fun b15 => ?_) (fun b15 => ?_)
    · replace h10 := ite_t b15 h10
      refine RL.skip rfl rfl ?_
      refine RL.skip rfl rfl ?_
      refine RL.skip rfl rfl ?_
      refine RL.pickT rfl rfl rfl rfl ?_
      refine RL.mv rfl rfl rfl ?_
      refine RL.skip rfl rfl ?_
      refine RL.skip rfl rfl ?_
      refine RL.skip rfl rfl ?_
      refine RL.pickT rfl rfl rfl rfl ?_
      refine RL.fin ?_
      cases h10
      exact fun a w st => mid_intro true h11 (St.cut [0, 1] ⟨rfl, rfl, rfl, trivial⟩ (by decide) rfl st)
    · replace h10 := ite_f b15 h10
      refine RL.mv rfl rfl rfl ?_
      refine RL.lenS 0 Try.underlying39 rfl rfl rfl rfl SlOf.imm ?_
      refine RL.binI (v := .bool (decide (((x0).length : Int) > (4 : Int)))) rfl rfl rfl rfl rfl ?_
      refine RL.pickF rfl rfl rfl rfl ?_
      refine RL.mv rfl rfl rfl ?_
      refine RL.split (t := 19) rfl (fun b16 => ?_) (fun b16 => ?_)
      · replace h10 := ite_t b16 h10
        refine RL.skip rfl rfl ?_
        refine RL.skip rfl rfl ?_
        refine RL.skip rfl rfl ?_
        refine RL.pickT rfl rfl rfl rfl ?_
        refine RL.fin ?_
        cases h10
        exact fun a w st => mid_intro true h11 (St.cut [0, 1] ⟨rfl, rfl, rfl, trivial⟩ (by decide) rfl st)
      · replace h10 := ite_f b16 h10
        refine RL.mv rfl rfl rfl ?_
        refine RL.lenS 1 Try.underlying24 rfl rfl rfl rfl SlOf.imm ?_
        refine RL.binI (v := .bool (decide (((x1).length : Int) > (6 : Int)))) rfl rfl rfl rfl rfl ?_
        refine RL.pickF rfl rfl rfl rfl ?_
        refine RL.fin ?_
        cases h10
        exact fun a w st => mid_intro (decide (((x1).length : Int) > (6 : Int))) h11 (St.cut [0, 1] ⟨rfl, rfl, rfl, trivial⟩ (by decide) rfl st)
  · rintro x7 h17
    have h18 := h12 _ h17
    try dsimp only at h18
    refine GL.weak (env' := [(0, v0), (1, v1), (23, .bool x7)]) (L' := [imm (TR.sl (TR.rec1 (TR.sl TR.int))) v0 x0, imm (TR.sl TR.int) v1 x1]) (fun _ _ st => st) ?_
    refine GL.cond rfl (fun b19 => ?_) (fun b19 => ?_)
    · replace h18 := ite_t b19 h18
      refine GL.seq ?_
      refine GL.region ?_
      refine RL.asg rfl rfl rfl ?_
      refine RL.finG ?_
      have h18 := Option.some.inj h18
      subst h18
      exact GL.ret (Gx.ret (v := .int .i64 (2 : Int)) (res1 rfl rfl) (fun a w st => st.toPostV))
    · replace h18 := ite_f b19 h18
      refine GL.skip ?_
      refine GL.seq ?_
      refine GL.seq ?_
      refine GL.region ?_
      refine RL.mv rfl rfl rfl ?_
      refine RL.lenS 0 Try.underlying39 rfl rfl rfl rfl SlOf.imm ?_
      refine RL.mv rfl rfl rfl ?_
      refine RL.finG ?_
      refine GL.open_ 0 rfl (fun S h => len_imm S h) (fun n135 => ?_)
      obtain ⟨y136, K137, h138, h139, h140, h141, h142⟩ := bindR_K h18
      refine GL.join (ι := Unit) (fun (p : Unit) => [(0, v0), (1, v1)]) (fun (p : Unit) => [imm (TR.sl (TR.rec1 (TR.sl TR.int))) v0 x0, imm (TR.sl TR.int) v1 x1]) (fun (p : Unit) => K137 (.nx ())) ?_ ?_
      · refine GL.block ?_
        refine GL.loop (ι := Nat × (List (List Int))) (fun (p : Nat × (List (List Int))) => [(0, v0), (1, v1), (24, v0), (25, .int .i64 ((x0).length : Int)), (26, .int .i64 (p.1 : Int))]) (fun (p : Nat × (List (List Int))) => [imm (TR.sl (TR.rec1 (TR.sl TR.int))) v0 x0, imm (TR.sl TR.int) v1 x1]) (fun (p : Nat × (List (List Int))) => p.1 + p.2.length = (x0).length ∧ List.drop p.1 x0 = p.2 ∧ rangeL (roads_Check_b1 x1) p.2 p.1 () = some y136) (fun (p : Nat × (List (List Int))) => p.2.length) (0, x0) ⟨by simp, by simp, h138⟩ (fun a w st => St.cut [0, 1] ⟨rfl, rfl, rfl, rfl, rfl, trivial⟩ (by decide) rfl st) ?_
        rintro ⟨i143, r144⟩ ⟨h149, h150, h148⟩
        try dsimp only at h149 h150 h148
        refine GL.weak (env' := [(0, v0), (1, v1), (24, v0), (25, .int .i64 ((x0).length : Int)), (26, .int .i64 (i143 : Int))]) (L' := [imm (TR.sl (TR.rec1 (TR.sl TR.int))) v0 x0, imm (TR.sl TR.int) v1 x1]) (fun _ _ st => st) ?_
        refine GL.seq ?_
        refine GL.region ?_
        refine RL.binI (v := .bool (decide ((i143 : Int) < ((x0).length : Int)))) rfl rfl rfl rfl rfl ?_
        refine RL.finG ?_
        refine GL.seq ?_
        refine GL.cond rfl (fun b151 => ?_) (fun b151 => ?_)
        · have h152 : i143 < (x0).length := by have := of_decide_eq_true b151; omega
          obtain ⟨y153, r155, hr, e154, h156⟩ := drop_cons h150 rfl h152
          subst hr
          obtain ⟨z145, h146, h147⟩ := rangeL_some h148
          unfold roads_Check_b1 at h146
          try dsimp only at h146
          refine GL.skip ?_
          refine GL.seq ?_
          refine GL.block ?_
          refine GL.seq ?_
          refine GL.region ?_
          refine RL.idxS (sz := 1) 0 Try.underlying39 Try_ln74 rfl rfl rfl rfl rfl SlOf.imm (by omega) (by omega) ?_
          refine RL.ldS (i := i143) (r := (TR.rec1 (TR.sl TR.int))) (e' := y153) 0 Try_ln74 rfl rfl rfl rfl SlOf.imm e154 Part.self ?_
          intro v159
          refine RL.alloc (t := (TR.rec1 (TR.sl TR.int))) (z := ([] : (List Int))) Try_lo74 (fun S => ⟨_, [], rfl, ⟨none, 0, rfl, Nat.le_refl _, Nat.zero_le _, Or.inl ⟨rfl, rfl⟩⟩, rfl⟩) rfl rfl rfl ?_
          intro v160
          refine RL.reL (L' := [imm (TR.sl (TR.rec1 (TR.sl TR.int))) v0 x0, imm (TR.sl TR.int) v1 x1, imm (TR.rec1 (TR.sl TR.int)) v159 y153, obox 74 (TR.rec1 (TR.sl TR.int)) v160 ([] : (List Int))]) rfl ?_
          refine RL.stP (off := 0) (e' := y153) (d1 := y153) (r := (TR.rec1 (TR.sl TR.int))) 3 Try_ln74 rfl rfl (Or.inr ⟨rfl, rfl⟩) rfl (VR.item 2 rfl) rfl Upd.self ?_
          refine RL.finG ?_
          refine GL.seq ?_
          refine GL.seq ?_
          refine GL.region ?_
          refine RL.fadr (off := 0) (fo := 0) 3 Try_fld74_0 rfl rfl rfl PtOf.obox (Or.inr ⟨rfl, rfl⟩) ?_
          refine RL.ldP (off := (0 + 0)) (r := (TR.sl TR.int)) (e' := y153) 3 Try_ln24 rfl rfl (Or.inl rfl) rfl PtOf.obox (Part.rec1 Part.self) ?_
          intro v162
          refine RL.reL (L' := [imm (TR.sl (TR.rec1 (TR.sl TR.int))) v0 x0, imm (TR.sl TR.int) v1 x1, imm (TR.rec1 (TR.sl TR.int)) v159 y153, obox 74 (TR.rec1 (TR.sl TR.int)) v160 y153, imm (TR.sl TR.int) v162 y153]) rfl ?_
          refine RL.lenS 4 Try.underlying24 rfl rfl rfl rfl SlOf.imm ?_
          refine RL.mv rfl rfl rfl ?_
          refine RL.lenS 1 Try.underlying24 rfl rfl rfl rfl SlOf.imm ?_
          refine RL.binI (v := .bool (((y153).length : Int) != ((x1).length : Int))) rfl rfl rfl rfl rfl ?_
          refine RL.finG ?_
          refine GL.cond rfl (fun b163 => ?_) (fun b163 => ?_)
          · replace h146 := ite_t b163 h146
            refine GL.seq ?_
            refine GL.region ?_
            refine RL.asg rfl rfl rfl ?_
            refine RL.finG ?_
            cases h146
            replace h147 : some (Fl.rt _) = some y136 := h147
            cases h147
            have hh := h141 _ h139
            subst hh
            exact GL.ret (Gx.ret (v := .int .i64 (3 : Int)) (res1 rfl rfl) (fun a w st => st.toPostV))
          · replace h146 := ite_f b163 h146
            refine GL.skip ?_
            refine GL.seq ?_
            refine GL.region ?_
            refine RL.fadr (off := 0) (fo := 0) 3 Try_fld74_0 rfl rfl rfl PtOf.obox (Or.inr ⟨rfl, rfl⟩) ?_
            refine RL.ldP (off := (0 + 0)) (r := (TR.sl TR.int)) (e' := y153) 3 Try_ln24 rfl rfl (Or.inl rfl) rfl PtOf.obox (Part.rec1 Part.self) ?_
            intro v165
            refine RL.lenS 5 Try.underlying24 rfl rfl rfl rfl SlOf.imm ?_
            refine RL.mv rfl rfl rfl ?_
            refine RL.finG ?_
            refine GL.open_ 5 rfl (fun S h => len_imm S h) (fun n207 => ?_)
            obtain ⟨y208, K209, h210, h211, h212, h213, h214⟩ := bindF_K h146
            refine GL.join (ι := Unit) (fun (p : Unit) => [(0, v0), (1, v1), (24, v0), (25, .int .i64 ((x0).length : Int)), (26, .int .i64 (i143 : Int))]) (fun (p : Unit) => [imm (TR.sl (TR.rec1 (TR.sl TR.int))) v0 x0, imm (TR.sl TR.int) v1 x1]) (fun (p : Unit) => K209 (.nx ())) ?_ ?_
            · refine GL.block ?_
              refine GL.loop (ι := Nat × (List Int)) (fun (p : Nat × (List Int)) => [(0, v0), (1, v1), (6, v160), (24, v0), (25, .int .i64 ((x0).length : Int)), (26, .int .i64 (i143 : Int)), (37, v165), (38, .int .i64 ((y153).length : Int)), (39, .int .i64 (p.1 : Int))]) (fun (p : Nat × (List Int)) => [imm (TR.sl (TR.rec1 (TR.sl TR.int))) v0 x0, imm (TR.sl TR.int) v1 x1, obox 74 (TR.rec1 (TR.sl TR.int)) v160 y153, imm (TR.sl TR.int) v165 y153]) (fun (p : Nat × (List Int)) => p.1 + p.2.length = (y153).length ∧ List.drop p.1 y153 = p.2 ∧ rangeL (roads_Check_b2 y153) p.2 p.1 () = some y208) (fun (p : Nat × (List Int)) => p.2.length) (0, y153) ⟨by simp, by simp, h210⟩ (fun a w st => St.cut [0, 1, 3, 5] ⟨rfl, rfl, rfl, rfl, rfl, rfl, rfl, rfl, rfl, trivial⟩ (by decide) rfl st) ?_
              rintro ⟨i215, r216⟩ ⟨h221, h222, h220⟩
              try dsimp only at h221 h222 h220
              refine GL.weak (env' := [(0, v0), (1, v1), (6, v160), (24, v0), (25, .int .i64 ((x0).length : Int)), (26, .int .i64 (i143 : Int)), (37, v165), (38, .int .i64 ((y153).length : Int)), (39, .int .i64 (i215 : Int))]) (L' := [imm (TR.sl (TR.rec1 (TR.sl TR.int))) v0 x0, imm (TR.sl TR.int) v1 x1, obox 74 (TR.rec1 (TR.sl TR.int)) v160 y153, imm (TR.sl TR.int) v165 y153]) (fun _ _ st => st) ?_
              refine GL.seq ?_
              refine GL.region ?_
              refine RL.binI (v := .bool (decide ((i215 : Int) < ((y153).length : Int)))) rfl rfl rfl rfl rfl ?_
              refine RL.finG ?_
              refine GL.seq ?_
              refine GL.cond rfl (fun b223 => ?_) (fun b223 => ?_)
              · have h224 : i215 < (y153).length := by have := of_decide_eq_true b223; omega
                obtain ⟨y225, r227, hr, e226, h228⟩ := drop_cons h222 rfl h224
                subst hr
                obtain ⟨z217, h218, h219⟩ := rangeL_some h220
                unfold roads_Check_b2 at h218
                try dsimp only at h218
                refine GL.skip ?_
                refine GL.seq ?_
                refine GL.block ?_
                refine GL.seq ?_
                refine GL.region ?_
                refine RL.mv rfl rfl rfl ?_
                refine RL.idxS (sz := 1) 3 Try.underlying24 Try_ln3 rfl rfl rfl rfl rfl SlOf.imm (by omega) (by omega) ?_
                refine RL.ldSx (i := i215) (e' := y225) 3 Ex.ik Try_ln3 rfl rfl rfl rfl SlOf.imm e226 Part.self ?_
                refine RL.asg rfl rfl rfl ?_
                refine RL.asg rfl rfl rfl ?_
                refine RL.finG ?_
                refine GL.seq ?_
                refine GL.seq ?_
                obtain ⟨y232, K233, h234, h235, h236, h237, h238⟩ := bindF_K h218
                refine GL.join (ι := Bool) (fun (p : Bool) => [(0, v0), (1, v1), (6, v160), (7, .int .i64 (i215 : Int)), (8, .int .i64 y225), (24, v0), (25, .int .i64 ((x0).length : Int)), (26, .int .i64 (i143 : Int)), (37, v165), (38, .int .i64 ((y153).length : Int)), (39, .int .i64 (i215 : Int)), (49, .bool p)]) (fun (p : Bool) => [imm (TR.sl (TR.rec1 (TR.sl TR.int))) v0 x0, imm (TR.sl TR.int) v1 x1, obox 74 (TR.rec1 (TR.sl TR.int)) v160 y153, imm (TR.sl TR.int) v165 y153]) (fun (p : Bool) => K233 (.nx p)) ?_ ?_
                · skip
                  refine GL.region ?_
                  refine RL.mv rfl rfl rfl ?_
                  refine RL.binI (v := .bool (decide (y225 < (0 : Int)))) rfl rfl rfl rfl rfl ?_
                  refine RL.mv rfl rfl rfl ?_
                  refine RL.split (t := 46) rfl (fun b239 => ?_) (fun b239 => ?_)
                  · replace h234 := ite_t b239 h234
                    refine RL.skip rfl rfl ?_
                    refine RL.skip rfl rfl ?_
                    refine RL.pickT rfl rfl rfl rfl ?_
                    refine RL.fin ?_
                    cases h234
                    exact fun a w st => mid_intro true h235 (St.cut [0, 1, 2, 3] ⟨rfl, rfl, rfl, rfl, rfl, rfl, rfl, rfl, rfl, rfl, rfl, rfl, trivial⟩ (by decide) rfl st)
                  · replace h234 := ite_f b239 h234
                    refine RL.mv rfl rfl rfl ?_
                    refine RL.binI (v := .bool (decide (y225 > (100 : Int)))) rfl rfl rfl rfl rfl ?_
                    refine RL.pickF rfl rfl rfl rfl ?_
                    refine RL.fin ?_
                    cases h234
                    exact fun a w st => mid_intro (decide (y225 > (100 : Int))) h235 (St.cut [0, 1, 2, 3] ⟨rfl, rfl, rfl, rfl, rfl, rfl, rfl, rfl, rfl, rfl, rfl, rfl, trivial⟩ (by decide) rfl st)
                · rintro x231 h240
                  have h241 := h236 _ h240
                  try dsimp only at h241
                  refine GL.weak (env' := [(0, v0), (1, v1), (6, v160), (7, .int .i64 (i215 : Int)), (8, .int .i64 y225), (24, v0), (25, .int .i64 ((x0).length : Int)), (26, .int .i64 (i143 : Int)), (37, v165), (38, .int .i64 ((y153).length : Int)), (39, .int .i64 (i215 : Int)), (49, .bool x231)]) (L' := [imm (TR.sl (TR.rec1 (TR.sl TR.int))) v0 x0, imm (TR.sl TR.int) v1 x1, obox 74 (TR.rec1 (TR.sl TR.int)) v160 y153, imm (TR.sl TR.int) v165 y153]) (fun _ _ st => st) ?_
                  refine GL.cond rfl (fun b242 => ?_) (fun b242 => ?_)
                  · replace h241 := ite_t b242 h241
                    refine GL.seq ?_
                    refine GL.region ?_
                    refine RL.asg rfl rfl rfl ?_
                    refine RL.finG ?_
                    cases h241
                    replace h219 : some (Fl.rt _) = some y208 := h219
                    cases h219
                    have hh := h213 _ h211
                    subst hh
                    replace h147 : some (Fl.rt _) = some y136 := h147
                    cases h147
                    have hh := h141 _ h139
                    subst hh
                    exact GL.ret (Gx.ret (v := .int .i64 (1 : Int)) (res1 rfl rfl) (fun a w st => st.toPostV))
                  · replace h241 := ite_f b242 h241
                    refine GL.skip ?_
                    refine GL.seq ?_
                    obtain ⟨y252, K253, h254, h255, h256, h257, h258⟩ := bindF_K h241
                    refine GL.join (ι := Bool) (fun (p : Bool) => [(0, v0), (1, v1), (6, v160), (24, v0), (25, .int .i64 ((x0).length : Int)), (26, .int .i64 (i143 : Int)), (37, v165), (38, .int .i64 ((y153).length : Int)), (39, .int .i64 (i215 : Int)), (61, .bool p)]) (fun (p : Bool) => [imm (TR.sl (TR.rec1 (TR.sl TR.int))) v0 x0, imm (TR.sl TR.int) v1 x1, obox 74 (TR.rec1 (TR.sl TR.int)) v160 y153, imm (TR.sl TR.int) v165 y153]) (fun (p : Bool) => K253 (.nx p)) ?_ ?_
                    · skip
                      refine GL.region ?_
                      refine RL.mv rfl rfl rfl ?_
                      refine RL.binI (v := .bool (decide ((i215 : Int) > (0 : Int)))) rfl rfl rfl rfl rfl ?_
                      refine RL.mv rfl rfl rfl ?_
                      refine RL.split (t := 52) rfl (fun b259 => ?_) (fun b259 => ?_)
                      · replace h254 := ite_t b259 h254
                        refine RL.mv rfl rfl rfl ?_
                        refine RL.fadr (off := 0) (fo := 0) 2 Try_fld74_0 rfl rfl rfl PtOf.obox (Or.inr ⟨rfl, rfl⟩) ?_
                        refine RL.ldP (off := (0 + 0)) (r := (TR.sl TR.int)) (e' := y153) 2 Try_ln24 rfl rfl (Or.inl rfl) rfl PtOf.obox (Part.rec1 Part.self) ?_
                        intro v260
                        refine RL.mv rfl rfl rfl ?_
                        refine RL.binI (v := .int .i64 (wsub (i215 : Int) (1 : Int))) rfl rfl rfl rfl rfl ?_
                        obtain ⟨y261, e262, h254⟩ := bind_some h254
                        refine RL.idxS (sz := 1) 4 Try.underlying24 Try_ln3 rfl rfl rfl rfl rfl SlOf.imm (idx_some e262).1 (idx_some e262).2.1 ?_
                        refine RL.ldSx (i := (wsub (i215 : Int) (1 : Int)).toNat) (e' := y261) 4 Ex.ik Try_ln3 rfl rfl rfl rfl SlOf.imm (idx_some e262).2.2 Part.self ?_
                        refine RL.binI (v := .bool (decide (y225 < y261))) rfl rfl rfl rfl rfl ?_
                        refine RL.pickT rfl rfl rfl rfl ?_
                        refine RL.fin ?_
                        cases h254
                        exact fun a w st => mid_intro (decide (y225 < y261)) h255 (St.cut [0, 1, 2, 3] ⟨rfl, rfl, rfl, rfl, rfl, rfl, rfl, rfl, rfl, rfl, trivial⟩ (by decide) rfl st)
                      · replace h254 := ite_f b259 h254
                        refine RL.skip rfl rfl ?_
                        refine RL.skip rfl rfl ?_
                        refine RL.skip rfl rfl ?_
                        refine RL.skip rfl rfl ?_
                        refine RL.skip rfl rfl ?_
                        refine RL.skip rfl rfl ?_
                        refine RL.skip rfl rfl ?_
                        refine RL.skip rfl rfl ?_
                        refine RL.pickF rfl rfl rfl rfl ?_
                        refine RL.fin ?_
                        cases h254
                        exact fun a w st => mid_intro false h255 (St.cut [0, 1, 2, 3] ⟨rfl, rfl, rfl, rfl, rfl, rfl, rfl, rfl, rfl, rfl, trivial⟩ (by decide) rfl st)
                    · rintro x251 h263
                      have h264 := h256 _ h263
                      try dsimp only at h264
                      refine GL.weak (env' := [(0, v0), (1, v1), (6, v160), (24, v0), (25, .int .i64 ((x0).length : Int)), (26, .int .i64 (i143 : Int)), (37, v165), (38, .int .i64 ((y153).length : Int)), (39, .int .i64 (i215 : Int)), (61, .bool x251)]) (L' := [imm (TR.sl (TR.rec1 (TR.sl TR.int))) v0 x0, imm (TR.sl TR.int) v1 x1, obox 74 (TR.rec1 (TR.sl TR.int)) v160 y153, imm (TR.sl TR.int) v165 y153]) (fun _ _ st => st) ?_
                      refine GL.cond rfl (fun b265 => ?_) (fun b265 => ?_)
                      · replace h264 := ite_t b265 h264
                        refine GL.seq ?_
                        refine GL.region ?_
                        refine RL.asg rfl rfl rfl ?_
                        refine RL.finG ?_
                        cases h264
                        replace h219 : some (Fl.rt _) = some y208 := h219
                        cases h219
                        have hh := h213 _ h211
                        subst hh
                        replace h147 : some (Fl.rt _) = some y136 := h147
                        cases h147
                        have hh := h141 _ h139
                        subst hh
                        exact GL.ret (Gx.ret (v := .int .i64 (3 : Int)) (res1 rfl rfl) (fun a w st => st.toPostV))
                      · replace h264 := ite_f b265 h264
                        refine GL.skip ?_
                        refine GL.nilB ?_
                        refine GL.region ?_
                        refine RL.binI (v := .int .i64 ((i215 + 1 : Nat) : Int)) rfl rfl rfl rfl (binI_succ i215 (by omega)) ?_
                        refine RL.mv rfl rfl rfl ?_
                        refine RL.fin ?_
                        cases h264
                        exact fun a w st => lop_intro (i215 + 1, r227) ⟨by show i215 + 1 + r227.length = (y153).length; simp only [List.length_cons] at h221; omega, h228, h219⟩ (by simp) (St.cut [0, 1, 2, 3] ⟨rfl, rfl, rfl, rfl, rfl, rfl, rfl, rfl, rfl, trivial⟩ (by decide) rfl st)
              · have h224 : ¬ i215 < (y153).length := by have := of_decide_eq_false b223; omega
                obtain rfl : r216 = [] := by rw [← h222]; exact List.drop_of_length_le (by omega)
                replace h220 : some (Fl.nx _) = some y208 := h220
                cases h220
                exact GL.exit (fun a w st => mid_intro () h211 (St.cut [0, 1] ⟨rfl, rfl, rfl, rfl, rfl, trivial⟩ (by decide) rfl st))
            · rintro ⟨⟩ h266
              have h267 := h212 _ h266
              try dsimp only at h267
              refine GL.weak (env' := [(0, v0), (1, v1), (24, v0), (25, .int .i64 ((x0).length : Int)), (26, .int .i64 (i143 : Int))]) (L' := [imm (TR.sl (TR.rec1 (TR.sl TR.int))) v0 x0, imm (TR.sl TR.int) v1 x1]) (fun _ _ st => st) ?_
              refine GL.nilB ?_
              refine GL.region ?_
              refine RL.binI (v := .int .i64 ((i143 + 1 : Nat) : Int)) rfl rfl rfl rfl (binI_succ i143 (by omega)) ?_
              refine RL.mv rfl rfl rfl ?_
              refine RL.fin ?_
              cases h267
              exact fun a w st => lop_intro (i143 + 1, r155) ⟨by show i143 + 1 + r155.length = (x0).length; simp only [List.length_cons] at h149; omega, h156, h147⟩ (by simp) (St.cut [0, 1] ⟨rfl, rfl, rfl, rfl, rfl, trivial⟩ (by decide) rfl st)
        · have h152 : ¬ i143 < (x0).length := by have := of_decide_eq_false b151; omega
          obtain rfl : r144 = [] := by rw [← h150]; exact List.drop_of_length_le (by omega)
          replace h148 : some (Fl.nx _) = some y136 := h148
          cases h148
          exact GL.exit (fun a w st => mid_intro () h139 (St.cut [0, 1] ⟨rfl, rfl, trivial⟩ (by decide) rfl st))
      · rintro ⟨⟩ h268
        have h269 := h140 _ h268
        try dsimp only at h269
        refine GL.weak (env' := [(0, v0), (1, v1)]) (L' := [imm (TR.sl (TR.rec1 (TR.sl TR.int))) v0 x0, imm (TR.sl TR.int) v1 x1]) (fun _ _ st => st) ?_
        refine GL.seq ?_
        refine GL.seq ?_
        refine GL.region ?_
        refine RL.mv rfl rfl rfl ?_
        refine RL.lenS 1 Try.underlying24 rfl rfl rfl rfl SlOf.imm ?_
        refine RL.mv rfl rfl rfl ?_
        refine RL.finG ?_
        refine GL.open_ 1 rfl (fun S h => len_imm S h) (fun n288 => ?_)
        obtain ⟨y289, K290, h291, h292, h293, h294, h295⟩ := bindR_K h269
        refine GL.join (ι := Unit) (fun (p : Unit) => []) (fun (p : Unit) => []) (fun (p : Unit) => K290 (.nx ())) ?_ ?_
        · refine GL.block ?_
          refine GL.loop (ι := Nat × (List Int)) (fun (p : Nat × (List Int)) => [(0, v0), (64, v1), (65, .int .i64 ((x1).length : Int)), (66, .int .i64 (p.1 : Int))]) (fun (p : Nat × (List Int)) => [imm (TR.sl (TR.rec1 (TR.sl TR.int))) v0 x0, imm (TR.sl TR.int) v1 x1]) (fun (p : Nat × (List Int)) => p.1 + p.2.length = (x1).length ∧ List.drop p.1 x1 = p.2 ∧ rangeL (roads_Check_b3 x0) p.2 p.1 () = some y289) (fun (p : Nat × (List Int)) => p.2.length) (0, x1) ⟨by simp, by simp, h291⟩ (fun a w st => St.cut [0, 1] ⟨rfl, rfl, rfl, rfl, trivial⟩ (by decide) rfl st) ?_
          rintro ⟨i296, r297⟩ ⟨h302, h303, h301⟩
          try dsimp only at h302 h303 h301
          refine GL.weak (env' := [(0, v0), (64, v1), (65, .int .i64 ((x1).length : Int)), (66, .int .i64 (i296 : Int))]) (L' := [imm (TR.sl (TR.rec1 (TR.sl TR.int))) v0 x0, imm (TR.sl TR.int) v1 x1]) (fun _ _ st => st) ?_
          refine GL.seq ?_
          refine GL.region ?_
          refine RL.binI (v := .bool (decide ((i296 : Int) < ((x1).length : Int)))) rfl rfl rfl rfl rfl ?_
          refine RL.finG ?_
          refine GL.seq ?_
          refine GL.cond rfl (fun b304 => ?_) (fun b304 => ?_)
          · have h305 : i296 < (x1).length := by have := of_decide_eq_true b304; omega
            obtain ⟨y306, r308, hr, e307, h309⟩ := drop_cons h303 rfl h305
            subst hr
            obtain ⟨z298, h299, h300⟩ := rangeL_some h301
            unfold roads_Check_b3 at h299
            try dsimp only at h299
            refine GL.skip ?_
            refine GL.seq ?_
            refine GL.block ?_
            refine GL.seq ?_
            refine GL.region ?_
            refine RL.idxS (sz := 1) 1 Try.underlying24 Try_ln3 rfl rfl rfl rfl rfl SlOf.imm (by omega) (by omega) ?_
            refine RL.ldSx (i := i296) (e' := y306) 1 Ex.ik Try_ln3 rfl rfl rfl rfl SlOf.imm e307 Part.self ?_
            refine RL.asg rfl rfl rfl ?_
            refine RL.finG ?_
            refine GL.seq ?_
            obtain ⟨y313, K314, h315, h316, h317, h318, h319⟩ := bindF_K h299
            refine GL.join (ι := Bool) (fun (p : Bool) => [(0, v0), (64, v1), (65, .int .i64 ((x1).length : Int)), (66, .int .i64 (i296 : Int)), (77, .bool p)]) (fun (p : Bool) => [imm (TR.sl (TR.rec1 (TR.sl TR.int))) v0 x0, imm (TR.sl TR.int) v1 x1]) (fun (p : Bool) => K314 (.nx p)) ?_ ?_
            · skip
              refine GL.region ?_
              refine RL.mv rfl rfl rfl ?_
              refine RL.binI (v := .bool (decide (y306 < (0 : Int)))) rfl rfl rfl rfl rfl ?_
              refine RL.mv rfl rfl rfl ?_
              refine RL.split (t := 72) rfl (fun b320 => ?_) (fun b320 => ?_)
              · replace h315 := ite_t b320 h315
                refine RL.skip rfl rfl ?_
                refine RL.skip rfl rfl ?_
                refine RL.skip rfl rfl ?_
                refine RL.skip rfl rfl ?_
                refine RL.pickT rfl rfl rfl rfl ?_
                refine RL.fin ?_
                cases h315
                exact fun a w st => mid_intro true h316 (St.cut [0, 1] ⟨rfl, rfl, rfl, rfl, rfl, trivial⟩ (by decide) rfl st)
              · replace h315 := ite_f b320 h315
                refine RL.mv rfl rfl rfl ?_
                refine RL.mv rfl rfl rfl ?_
                refine RL.lenS 0 Try.underlying39 rfl rfl rfl rfl SlOf.imm ?_
                refine RL.binI (v := .bool (decide (y306 ≥ ((x0).length : Int)))) rfl rfl rfl rfl rfl ?_
                refine RL.pickF rfl rfl rfl rfl ?_
                refine RL.fin ?_
                cases h315
                exact fun a w st => mid_intro (decide (y306 ≥ ((x0).length : Int))) h316 (St.cut [0, 1] ⟨rfl, rfl, rfl, rfl, rfl, trivial⟩ (by decide) rfl st)
            · rintro x312 h321
              have h322 := h317 _ h321
              try dsimp only at h322
              refine GL.weak (env' := [(0, v0), (64, v1), (65, .int .i64 ((x1).length : Int)), (66, .int .i64 (i296 : Int)), (77, .bool x312)]) (L' := [imm (TR.sl (TR.rec1 (TR.sl TR.int))) v0 x0, imm (TR.sl TR.int) v1 x1]) (fun _ _ st => st) ?_
              refine GL.cond rfl (fun b323 => ?_) (fun b323 => ?_)
              · replace h322 := ite_t b323 h322
                refine GL.seq ?_
                refine GL.region ?_
                refine RL.asg rfl rfl rfl ?_
                refine RL.finG ?_
                cases h322
                replace h300 : some (Fl.rt _) = some y289 := h300
                cases h300
                have hh := h294 _ h292
                subst hh
                exact GL.ret (Gx.ret (v := .int .i64 (4 : Int)) (res1 rfl rfl) (fun a w st => st.toPostV))
              · replace h322 := ite_f b323 h322
                refine GL.skip ?_
                refine GL.nilB ?_
                refine GL.region ?_
                refine RL.binI (v := .int .i64 ((i296 + 1 : Nat) : Int)) rfl rfl rfl rfl (binI_succ i296 (by omega)) ?_
                refine RL.mv rfl rfl rfl ?_
                refine RL.fin ?_
                cases h322
                exact fun a w st => lop_intro (i296 + 1, r308) ⟨by show i296 + 1 + r308.length = (x1).length; simp only [List.length_cons] at h302; omega, h309, h300⟩ (by simp) (St.cut [0, 1] ⟨rfl, rfl, rfl, rfl, trivial⟩ (by decide) rfl st)
          · have h305 : ¬ i296 < (x1).length := by have := of_decide_eq_false b304; omega
            obtain rfl : r297 = [] := by rw [← h303]; exact List.drop_of_length_le (by omega)
            replace h301 : some (Fl.nx _) = some y289 := h301
            cases h301
            exact GL.exit (fun a w st => mid_intro () h292 (St.cut [] trivial (by decide) rfl st))
        · rintro ⟨⟩ h324
          have h325 := h293 _ h324
          try dsimp only at h325
          refine GL.weak (env' := []) (L' := []) (fun _ _ st => st) ?_
          refine GL.seq ?_
          refine GL.region ?_
          refine RL.asg rfl rfl rfl ?_
          refine RL.finG ?_
          have h325 := Option.some.inj h325
          subst h325
          exact GL.ret (Gx.ret (v := .int .i64 (0 : Int)) (res1 rfl rfl) (fun a w st => st.toPostV))

set_option maxHeartbeats 4000000 in
theorem slices_Clone_int_int_c (S : Hp) (w : World) (hS : S.sub w) (v0 : Value) (x0 : List Int) (k0 : (TR.sl TR.int).vrep S v0 x0) (res : List Int) (hm : slices_Clone_int_int_m x0 = some res) : Calls Try.prog 18 #[v0] w (Post w S (fun (o : Value) => o) (fun (o : Value) => [own 3 TR.int o res])) := by
  refine calls_enter 8 Try.func18 Try.ntmps18 rfl S false [(0, v0)] [imm (TR.sl TR.int) v0 x0] rfl ⟨rfl, trivial⟩ hS ⟨k0, trivial⟩ ?_
  unfold slices_Clone_int_int_m at hm
  obtain ⟨_, hc, hm⟩ := bind_some hm
  replace hc := chk_some hc
  have hm := Option.some.inj hm
  subst hm
  refine GL.seq (GL.region (RL.asg rfl rfl rfl (RL.finG (GL.seq (GL.seq (GL.region ?_))))))
  refine RL.mv rfl rfl rfl ?_
  refine RL.eqNil 0 Try.underlying24 rfl rfl rfl rfl rfl SlOf.imm (fun b hb => ?_)
  refine RL.finG (GL.cond rfl (fun h => ?_) (fun h => ?_))
  · have := hb h
    subst this
    refine GL.seq (GL.region (RL.asg rfl rfl rfl (RL.finG ?_)))
    refine GL.weak (fun a w st => st.nilOwn 3 TR.int) ?_
    exact GL.ret (Gx.ret (v := Value.slice none 0 0) (res1 rfl rfl) (fun a w st => (st.pick [1] (by decide) rfl).toPost (Value.slice none 0 0)))
  · refine GL.skip (GL.seq (GL.region ?_))
    refine RL.bS (t := TR.int) (vs := []) ([] : List Int) Try.underlying24 Try_lo3 rfl rfl rfl rfl trivial rfl (by decide) ?_
    intro v1
    refine RL.mv rfl rfl rfl ?_
    refine RL.app 1 0 Try.underlying24 Try_lo3 rfl rfl rfl rfl rfl rfl rfl SlOf.imm (by simpa using hc) ?_
    intro v2
    refine RL.asg rfl rfl rfl (RL.finG ?_)
    exact GL.ret (Gx.ret (v := v2) (res1 rfl rfl) (fun a w st => (st.pick [1] (by decide) rfl).toPost v2))

set_option maxHeartbeats 4000000 in
theorem roads_load_c (S : Hp) (w : World) (hS : S.sub w) (v0 : Value) (x0 : (List (List Int))) (k0 : ((TR.sl (TR.rec1 (TR.sl TR.int)))).vrep S v0 x0) (v1 : Value) (x1 : (List Int)) (k1 : ((TR.sl TR.int)).vrep S v1 x1) (res : (List Int)) (hm : roads_load_m x0 x1 = some res) : Calls Try.prog 45 #[v0, v1] w (Post w S (fun (o : Value) => o) (fun (o : Value) => [own 3 TR.int o res])) := by
  refine calls_enter 25 Try.func45 Try.ntmps45 rfl S false [(0, v0), (1, v1)] [imm (TR.sl (TR.rec1 (TR.sl TR.int))) v0 x0, imm (TR.sl TR.int) v1 x1] rfl ⟨rfl, ⟨rfl, trivial⟩⟩ hS ⟨k0, ⟨k1, trivial⟩⟩ ?_
  unfold roads_load_m at hm
  refine GL.seq ?_
  refine GL.region ?_
  refine RL.asg rfl rfl rfl ?_
  refine RL.finG ?_
  refine GL.seq ?_
  refine GL.region ?_
  refine RL.mv rfl rfl rfl ?_
  refine RL.lenS 0 Try.underlying39 rfl rfl rfl rfl SlOf.imm ?_
  obtain ⟨y6, e7, hm⟩ := bind_some hm
  replace e7 := chk_some e7
  refine RL.mkS (t := TR.int) (z := (0 : Int)) Try.underlying24 Try_lo3 (fun S => rfl) rfl rfl rfl rfl e7.1 e7.2 ?_
  intro v8
  refine RL.asg rfl rfl rfl ?_
  refine RL.finG ?_
  refine GL.seq ?_
  refine GL.seq ?_
  refine GL.region ?_
  refine RL.mv rfl rfl rfl ?_
  refine RL.lenS 1 Try.underlying24 rfl rfl rfl rfl SlOf.imm ?_
  refine RL.mv rfl rfl rfl ?_
  refine RL.finG ?_
  refine GL.open_ 1 rfl (fun S h => len_imm S h) (fun n35 => ?_)
  obtain ⟨y36, K37, h38, h39, h40, h41, h42⟩ := bindR_K hm
  refine GL.join (ι := (List Int) × Value) (fun (p : (List Int) × Value) => [(5, p.2)]) (fun (p : (List Int) × Value) => [own 3 TR.int p.2 p.1]) (fun (p : (List Int) × Value) => K37 (.nx p.1)) ?_ ?_
  · refine GL.block ?_
    refine GL.loop (ι := Nat × (List Int) × (List Int) × Value) (fun (p : Nat × (List Int) × (List Int) × Value) => [(5, p.2.2.2), (11, v1), (12, .int .i64 ((x1).length : Int)), (13, .int .i64 (p.1 : Int))]) (fun (p : Nat × (List Int) × (List Int) × Value) => [own 3 TR.int p.2.2.2 p.2.2.1, imm (TR.sl TR.int) v1 x1]) (fun (p : Nat × (List Int) × (List Int) × Value) => p.1 + p.2.1.length = (x1).length ∧ List.drop p.1 x1 = p.2.1 ∧ rangeL roads_load_b1 p.2.1 p.1 p.2.2.1 = some y36) (fun (p : Nat × (List Int) × (List Int) × Value) => p.2.1.length) (0, x1, (List.replicate (((x0).length : Int)).toNat (0 : Int)), v8) ⟨by simp, by simp, h38⟩ (fun a w st => St.cut [2, 1] ⟨rfl, rfl, rfl, rfl, trivial⟩ (by decide) rfl st) ?_
    rintro ⟨i43, r44, l21, v22⟩ ⟨h49, h50, h48⟩
    try dsimp only at h49 h50 h48
    refine GL.weak (env' := [(5, v22), (11, v1), (12, .int .i64 ((x1).length : Int)), (13, .int .i64 (i43 : Int))]) (L' := [own 3 TR.int v22 l21, imm (TR.sl TR.int) v1 x1]) (fun _ _ st => st) ?_
    refine GL.seq ?_
    refine GL.region ?_
    refine RL.binI (v := .bool (decide ((i43 : Int) < ((x1).length : Int)))) rfl rfl rfl rfl rfl ?_
    refine RL.finG ?_
    refine GL.seq ?_
    refine GL.cond rfl (fun b51 => ?_) (fun b51 => ?_)
    · have h52 : i43 < (x1).length := by have := of_decide_eq_true b51; omega
      obtain ⟨y53, r55, hr, e54, h56⟩ := drop_cons h50 rfl h52
      subst hr
      obtain ⟨z45, h46, h47⟩ := rangeL_some h48
      unfold roads_load_b1 at h46
      try dsimp only at h46
      refine GL.skip ?_
      refine GL.seq ?_
      refine GL.block ?_
      refine GL.seq ?_
      refine GL.region ?_
      refine RL.idxS (sz := 1) 1 Try.underlying24 Try_ln3 rfl rfl rfl rfl rfl SlOf.imm (by omega) (by omega) ?_
      refine RL.ldSx (i := i43) (e' := y53) 1 Ex.ik Try_ln3 rfl rfl rfl rfl SlOf.imm e54 Part.self ?_
      refine RL.asg rfl rfl rfl ?_
      refine RL.finG ?_
      refine GL.region ?_
      refine RL.mv rfl rfl rfl ?_
      refine RL.mv rfl rfl rfl ?_
      obtain ⟨y61, e62, h46⟩ := bind_some h46
      refine RL.idxS (sz := 1) 0 Try.underlying24 Try_ln3 rfl rfl rfl rfl rfl SlOf.own (idx_some e62).1 (idx_some e62).2.1 ?_
      refine RL.ldSx (i := (y53).toNat) (e' := y61) 0 Ex.ik Try_ln3 rfl rfl rfl rfl SlOf.own (idx_some e62).2.2 Part.self ?_
      refine RL.binI (v := .int .i64 (wadd y61 (1 : Int))) rfl rfl rfl rfl rfl ?_
      obtain ⟨y63, e64, h46⟩ := bind_some h46
      refine RL.idxS (sz := 1) 0 Try.underlying24 Try_ln3 rfl rfl rfl rfl rfl SlOf.own (idx_some e64).1 (idx_some e64).2.1 ?_
      refine RL.stS (i := (y53).toNat) (e' := wadd y61 (1 : Int)) (e1 := wadd y61 (1 : Int)) (r := TR.int) 0 Try_ln3 rfl rfl rfl rfl VR.int rfl (idx_some e64).2.2 Upd.self ?_
      refine RL.finG ?_
      refine GL.nilB ?_
      refine GL.region ?_
      refine RL.binI (v := .int .i64 ((i43 + 1 : Nat) : Int)) rfl rfl rfl rfl (binI_succ i43 (by omega)) ?_
      refine RL.mv rfl rfl rfl ?_
      refine RL.fin ?_
      cases h46
      exact fun a w st => lop_intro (i43 + 1, r55, (List.set l21 ((y53).toNat) (wadd y61 (1 : Int))), v22) ⟨by show i43 + 1 + r55.length = (x1).length; simp only [List.length_cons] at h49; omega, h56, h47⟩ (by simp) (St.cut [0, 1] ⟨rfl, rfl, rfl, rfl, trivial⟩ (by decide) rfl st)
    · have h52 : ¬ i43 < (x1).length := by have := of_decide_eq_false b51; omega
      obtain rfl : r44 = [] := by rw [← h50]; exact List.drop_of_length_le (by omega)
      replace h48 : some (Fl.nx _) = some y36 := h48
      cases h48
      exact GL.exit (fun a w st => mid_intro (l21, v22) h39 (St.cut [0] ⟨rfl, trivial⟩ (by decide) rfl st))
  · rintro ⟨l21, v22⟩ h65
    have h66 := h40 _ h65
    try dsimp only at h66
    refine GL.weak (env' := [(5, v22)]) (L' := [own 3 TR.int v22 l21]) (fun _ _ st => st) ?_
    refine GL.seq ?_
    refine GL.region ?_
    refine RL.mv rfl rfl rfl ?_
    refine RL.asg rfl rfl rfl ?_
    refine RL.finG ?_
    have h66 := Option.some.inj h66
    subst h66
    exact GL.ret (Gx.ret (v := v22) (res1 rfl rfl) (fun a w st => (st.pick [0] (by decide) rfl).toPost v22))

set_option maxHeartbeats 4000000 in
theorem roads_Better_c (S : Hp) (w : World) (hS : S.sub w) (v0 : Value) (x0 : (List (List Int))) (k0 : ((TR.sl (TR.rec1 (TR.sl TR.int)))).vrep S v0 x0) (v1 : Value) (x1 : (List Int)) (k1 : ((TR.sl TR.int)).vrep S v1 x1) (x2 : Int) (res : Int × Int) (hm : roads_Better_m x0 x1 x2 = some res) : Calls Try.prog 25 #[v0, v1, .int .i64 x2] w (PostV w (.tuple #[.int .i64 res.1, .int .i64 res.2])) := by
  refine calls_enter 83 Try.func25 Try.ntmps25 rfl S false [(0, v0), (1, v1), (2, .int .i64 x2)] [imm (TR.sl (TR.rec1 (TR.sl TR.int))) v0 x0, imm (TR.sl TR.int) v1 x1] rfl ⟨rfl, ⟨rfl, ⟨rfl, trivial⟩⟩⟩ hS ⟨k0, ⟨k1, trivial⟩⟩ ?_
  unfold roads_Better_m at hm
  refine GL.seq ?_
  refine GL.region ?_
  refine RL.asg rfl rfl rfl ?_
  refine RL.asg rfl rfl rfl ?_
  refine RL.finG ?_
  refine GL.seq ?_
  refine GL.seq ?_
  refine GL.region ?_
  refine RL.mv rfl rfl rfl ?_
  refine RL.mv rfl rfl rfl ?_
  obtain ⟨y6, e7, hm⟩ := bind_some hm
  refine RL.callV (v := .int .i64 y6) (vs := [v0, v1]) Try_fit44 rfl (Or.inl rfl) rfl rfl rfl rfl (fun U w hU hW hL => roads_Check_c U w hU _ _ (hL 0 _ _ rfl Seen.imm) _ _ (hL 1 _ _ rfl Seen.imm) _ e7) ?_
  refine RL.asg rfl rfl rfl ?_
  refine RL.finG ?_
  refine GL.seq ?_
  refine GL.region ?_
  refine RL.mv rfl rfl rfl ?_
  refine RL.binI (v := .bool (y6 != (0 : Int))) rfl rfl rfl rfl rfl ?_
  refine RL.finG ?_
  refine GL.cond rfl (fun b8 => ?_) (fun b8 => ?_)
  · replace hm := ite_t b8 hm
    refine GL.seq ?_
    refine GL.region ?_
    refine RL.mv rfl rfl rfl ?_
    refine RL.asg rfl rfl rfl ?_
    refine RL.asg rfl rfl rfl ?_
    refine RL.finG ?_
    have hm := Option.some.inj hm
    subst hm
    exact GL.ret (Gx.ret (v := .tuple #[.int .i64 (0 : Int), .int .i64 y6]) (res2 rfl rfl rfl) (fun a w st => st.toPostV))
  · replace hm := ite_f b8 hm
    refine GL.skip ?_
    refine GL.seq ?_
    refine GL.seq ?_
    obtain ⟨y12, K13, h14, h15, h16, h17, h18⟩ := bindR_K hm
    refine GL.join (ι := Bool) (fun (p : Bool) => [(0, v0), (1, v1), (2, .int .i64 x2), (27, .bool p)]) (fun (p : Bool) => [imm (TR.sl (TR.rec1 (TR.sl TR.int))) v0 x0, imm (TR.sl TR.int) v1 x1]) (fun (p : Bool) => K13 (.nx p)) ?_ ?_
    · skip
      refine GL.region ?_
      refine RL.mv rfl rfl rfl ?_
      refine RL.binI (v := .bool (decide (x2 < (0 : Int)))) rfl rfl rfl rfl rfl ?_
      refine RL.mv rfl rfl rfl ?_
      refine RL.split (t := 22) rfl (fun b19 => ?_) (fun b19 => ?_)
      · replace h14 := ite_t b19 h14
        refine RL.skip rfl rfl ?_
        refine RL.skip rfl rfl ?_
        refine RL.skip rfl rfl ?_
        refine RL.skip rfl rfl ?_
        refine RL.pickT rfl rfl rfl rfl ?_
        refine RL.fin ?_
        cases h14
        exact fun a w st => mid_intro true h15 (St.cut [0, 1] ⟨rfl, rfl, rfl, rfl, trivial⟩ (by decide) rfl st)
      · replace h14 := ite_f b19 h14
        refine RL.mv rfl rfl rfl ?_
        refine RL.mv rfl rfl rfl ?_
        refine RL.lenS 1 Try.underlying24 rfl rfl rfl rfl SlOf.imm ?_
        refine RL.binI (v := .bool (decide (x2 ≥ ((x1).length : Int)))) rfl rfl rfl rfl rfl ?_
        refine RL.pickF rfl rfl rfl rfl ?_
        refine RL.fin ?_
        cases h14
        exact fun a w st => mid_intro (decide (x2 ≥ ((x1).length : Int))) h15 (St.cut [0, 1] ⟨rfl, rfl, rfl, rfl, trivial⟩ (by decide) rfl st)
    · rintro x11 h20
      have h21 := h16 _ h20
      try dsimp only at h21
      refine GL.weak (env' := [(0, v0), (1, v1), (2, .int .i64 x2), (27, .bool x11)]) (L' := [imm (TR.sl (TR.rec1 (TR.sl TR.int))) v0 x0, imm (TR.sl TR.int) v1 x1]) (fun _ _ st => st) ?_
      refine GL.cond rfl (fun b22 => ?_) (fun b22 => ?_)
      · replace h21 := ite_t b22 h21
        refine GL.seq ?_
        refine GL.region ?_
        refine RL.asg rfl rfl rfl ?_
        refine RL.asg rfl rfl rfl ?_
        refine RL.finG ?_
        have h21 := Option.some.inj h21
        subst h21
        exact GL.ret (Gx.ret (v := .tuple #[.int .i64 (0 : Int), .int .i64 (1 : Int)]) (res2 rfl rfl rfl) (fun a w st => st.toPostV))
      · replace h21 := ite_f b22 h21
        refine GL.skip ?_
        refine GL.seq ?_
        refine GL.region ?_
        refine RL.mv rfl rfl rfl ?_
        refine RL.mv rfl rfl rfl ?_
        obtain ⟨y26, e27, h21⟩ := bind_some h21
        refine RL.call (vs := [v0, v1]) Try_fit45 rfl rfl rfl rfl rfl (fun S f w hS hW hi => roads_load_c S w hS _ _ (hi 0 _ rfl) _ _ (hi 1 _ rfl) _ e27) ?_
        intro v28
        refine RL.asg rfl rfl rfl ?_
        refine RL.finG ?_
        refine GL.seq ?_
        refine GL.region ?_
        refine RL.mv rfl rfl rfl ?_
        refine RL.mv rfl rfl rfl ?_
        obtain ⟨y31, e32, h21⟩ := bind_some h21
        refine RL.idxS (sz := 1) 1 Try.underlying24 Try_ln3 rfl rfl rfl rfl rfl SlOf.imm (idx_some e32).1 (idx_some e32).2.1 ?_
        refine RL.ldSx (i := (x2).toNat) (e' := y31) 1 Ex.ik Try_ln3 rfl rfl rfl rfl SlOf.imm (idx_some e32).2.2 Part.self ?_
        refine RL.asg rfl rfl rfl ?_
        refine RL.finG ?_
        refine GL.seq ?_
        refine GL.regionQ rfl rfl (by kernel_rfl) ?_
        refine RL.mv rfl rfl rfl ?_
        refine RL.mv rfl rfl rfl ?_
        obtain ⟨y40, e41, h21⟩ := bind_some h21
        refine RL.idxS (sz := 1) 0 Try.underlying39 Try_ln74 rfl rfl rfl rfl rfl SlOf.imm (idx_some e41).1 (idx_some e41).2.1 ?_
        refine RL.fadrS (off := ((y31).toNat * 1)) (fo := 0) 0 Try_fld74_0 rfl rfl rfl SlOf.imm (by have := (List.getElem?_eq_some_iff.1 (idx_some e41).2.2).1; omega) rfl ?_
        refine RL.ldS (i := (y31).toNat) (r := (TR.sl TR.int)) (e' := y40) 0 Try_ln24 rfl rfl rfl rfl SlOf.imm (idx_some e41).2.2 (Part.rec1 Part.self) ?_
        intro v42
        refine RL.reL (L' := [imm (TR.sl (TR.rec1 (TR.sl TR.int))) v0 x0, imm (TR.sl TR.int) v1 x1, own 3 TR.int v28 y26, imm (TR.sl TR.int) v42 y40]) rfl ?_
        refine RL.mv rfl rfl rfl ?_
        refine RL.mv rfl rfl rfl ?_
        obtain ⟨y43, e44, h21⟩ := bind_some h21
        refine RL.idxS (sz := 1) 2 Try.underlying24 Try_ln3 rfl rfl rfl rfl rfl SlOf.own (idx_some e44).1 (idx_some e44).2.1 ?_
        refine RL.ldSx (i := (y31).toNat) (e' := y43) 2 Ex.ik Try_ln3 rfl rfl rfl rfl SlOf.own (idx_some e44).2.2 Part.self ?_
        refine RL.binI (v := .int .i64 (wsub y43 (1 : Int))) rfl rfl rfl rfl rfl ?_
        obtain ⟨y45, e46, h21⟩ := bind_some h21
        refine RL.idxS (sz := 1) 3 Try.underlying24 Try_ln3 rfl rfl rfl rfl rfl SlOf.imm (idx_some e46).1 (idx_some e46).2.1 ?_
        refine RL.ldSx (i := (wsub y43 (1 : Int)).toNat) (e' := y45) 3 Ex.ik Try_ln3 rfl rfl rfl rfl SlOf.imm (idx_some e46).2.2 Part.self ?_
        refine RL.asg rfl rfl rfl ?_
        refine RL.finQG ?_
        refine GL.seq ?_
        refine GL.seq ?_
        refine GL.region ?_
        refine RL.mv rfl rfl rfl ?_
        refine RL.lenS 0 Try.underlying39 rfl rfl rfl rfl SlOf.imm ?_
        refine RL.mv rfl rfl rfl ?_
        refine RL.finG ?_
        refine GL.open_ 0 rfl (fun S h => len_imm S h) (fun n102 => ?_)
        obtain ⟨y103, K104, h105, h106, h107, h108, h109⟩ := bindR_K h21
        refine GL.join (ι := Int × Int) (fun (p : Int × Int) => [(10, .int .i64 p.1)]) (fun (p : Int × Int) => []) (fun (p : Int × Int) => K104 (.nx (p.1, p.2))) ?_ ?_
        · refine GL.block ?_
          refine GL.loop (ι := Nat × (List (List Int)) × Int × Int) (fun (p : Nat × (List (List Int)) × Int × Int) => [(1, v1), (2, .int .i64 x2), (9, v28), (10, .int .i64 p.2.2.1), (11, .int .i64 p.2.2.2), (47, v0), (48, .int .i64 ((x0).length : Int)), (49, .int .i64 (p.1 : Int))]) (fun (p : Nat × (List (List Int)) × Int × Int) => [imm (TR.sl TR.int) v1 x1, own 3 TR.int v28 y26, imm (TR.sl (TR.rec1 (TR.sl TR.int))) v0 x0]) (fun (p : Nat × (List (List Int)) × Int × Int) => p.1 + p.2.1.length = (x0).length ∧ List.drop p.1 x0 = p.2.1 ∧ rangeL (roads_Better_b1 x1 x2 y26) p.2.1 p.1 (p.2.2.1, p.2.2.2) = some y103) (fun (p : Nat × (List (List Int)) × Int × Int) => p.2.1.length) (0, x0, y31, y45) ⟨by simp, by simp, h105⟩ (fun a w st => St.cut [1, 2, 0] ⟨rfl, rfl, rfl, rfl, rfl, rfl, rfl, rfl, trivial⟩ (by decide) rfl st) ?_
          rintro ⟨i110, r111, x47, x48⟩ ⟨h116, h117, h115⟩
          try dsimp only at h116 h117 h115
          refine GL.weak (env' := [(1, v1), (2, .int .i64 x2), (9, v28), (10, .int .i64 x47), (11, .int .i64 x48), (47, v0), (48, .int .i64 ((x0).length : Int)), (49, .int .i64 (i110 : Int))]) (L' := [imm (TR.sl TR.int) v1 x1, own 3 TR.int v28 y26, imm (TR.sl (TR.rec1 (TR.sl TR.int))) v0 x0]) (fun _ _ st => st) ?_
          refine GL.seq ?_
          refine GL.region ?_
          refine RL.binI (v := .bool (decide ((i110 : Int) < ((x0).length : Int)))) rfl rfl rfl rfl rfl ?_
          refine RL.finG ?_
          refine GL.seq ?_
          refine GL.cond rfl (fun b118 => ?_) (fun b118 => ?_)
          · have h119 : i110 < (x0).length := by have := of_decide_eq_true b118; omega
            obtain ⟨y120, r122, hr, e121, h123⟩ := drop_cons h117 rfl h119
            subst hr
            obtain ⟨z112, h113, h114⟩ := rangeL_some h115
            unfold roads_Better_b1 at h113
            try dsimp only at h113
            refine GL.skip ?_
            refine GL.seq ?_
            refine GL.block ?_
            refine GL.seq ?_
            refine GL.region ?_
            refine RL.mv rfl rfl rfl ?_
            refine RL.idxS (sz := 1) 2 Try.underlying39 Try_ln74 rfl rfl rfl rfl rfl SlOf.imm (by omega) (by omega) ?_
            refine RL.ldS (i := i110) (r := (TR.rec1 (TR.sl TR.int))) (e' := y120) 2 Try_ln74 rfl rfl rfl rfl SlOf.imm e121 Part.self ?_
            intro v126
            refine RL.alloc (t := (TR.rec1 (TR.sl TR.int))) (z := ([] : (List Int))) Try_lo74 (fun S => ⟨_, [], rfl, ⟨none, 0, rfl, Nat.le_refl _, Nat.zero_le _, Or.inl ⟨rfl, rfl⟩⟩, rfl⟩) rfl rfl rfl ?_
            intro v127
            refine RL.reL (L' := [imm (TR.sl TR.int) v1 x1, own 3 TR.int v28 y26, imm (TR.sl (TR.rec1 (TR.sl TR.int))) v0 x0, imm (TR.rec1 (TR.sl TR.int)) v126 y120, obox 74 (TR.rec1 (TR.sl TR.int)) v127 ([] : (List Int))]) rfl ?_
            refine RL.asg rfl rfl rfl ?_
            refine RL.stP (off := 0) (e' := y120) (d1 := y120) (r := (TR.rec1 (TR.sl TR.int))) 4 Try_ln74 rfl rfl (Or.inr ⟨rfl, rfl⟩) rfl (VR.item 3 rfl) rfl Upd.self ?_
            refine RL.finG ?_
            refine GL.seq ?_
            obtain ⟨y145, K146, h147, h148, h149, h150, h151⟩ := bindF_K h113
            refine GL.join (ι := Bool) (fun (p : Bool) => [(1, v1), (2, .int .i64 x2), (9, v28), (10, .int .i64 x47), (11, .int .i64 x48), (12, .int .i64 (i110 : Int)), (13, v127), (47, v0), (48, .int .i64 ((x0).length : Int)), (49, .int .i64 (i110 : Int)), (71, .bool p)]) (fun (p : Bool) => [imm (TR.sl TR.int) v1 x1, own 3 TR.int v28 y26, obox 74 (TR.rec1 (TR.sl TR.int)) v127 y120, imm (TR.sl (TR.rec1 (TR.sl TR.int))) v0 x0]) (fun (p : Bool) => K146 (.nx p)) ?_ ?_
            · skip
              refine GL.regionQ rfl rfl (by kernel_rfl) ?_
              refine RL.mv rfl rfl rfl ?_
              refine RL.mv rfl rfl rfl ?_
              refine RL.mv rfl rfl rfl ?_
              obtain ⟨y152, e153, h147⟩ := bind_some h147
              refine RL.idxS (sz := 1) 0 Try.underlying24 Try_ln3 rfl rfl rfl rfl rfl SlOf.imm (idx_some e153).1 (idx_some e153).2.1 ?_
              refine RL.ldSx (i := (x2).toNat) (e' := y152) 0 Ex.ik Try_ln3 rfl rfl rfl rfl SlOf.imm (idx_some e153).2.2 Part.self ?_
              refine RL.binI (v := .bool ((i110 : Int) != y152)) rfl rfl rfl rfl rfl ?_
              refine RL.mv rfl rfl rfl ?_
              refine RL.split (t := 60) rfl (fun b154 => ?_) (fun b154 => ?_)
              · replace h147 := ite_t b154 h147
                refine RL.fadr (off := 0) (fo := 0) 4 Try_fld74_0 rfl rfl rfl PtOf.obox (Or.inr ⟨rfl, rfl⟩) ?_
                refine RL.ldP (off := (0 + 0)) (r := (TR.sl TR.int)) (e' := y120) 4 Try_ln24 rfl rfl (Or.inl rfl) rfl PtOf.obox (Part.rec1 Part.self) ?_
                intro v155
                refine RL.reL (L' := [imm (TR.sl TR.int) v1 x1, own 3 TR.int v28 y26, imm (TR.sl (TR.rec1 (TR.sl TR.int))) v0 x0, imm (TR.rec1 (TR.sl TR.int)) v126 y120, obox 74 (TR.rec1 (TR.sl TR.int)) v127 y120, imm (TR.sl TR.int) v155 y120]) rfl ?_
                refine RL.mv rfl rfl rfl ?_
                refine RL.mv rfl rfl rfl ?_
                obtain ⟨y156, e157, h147⟩ := bind_some h147
                refine RL.idxS (sz := 1) 1 Try.underlying24 Try_ln3 rfl rfl rfl rfl rfl SlOf.own (idx_some e157).1 (idx_some e157).2.1 ?_
                refine RL.ldSx (i := i110) (e' := y156) 1 Ex.ik Try_ln3 rfl rfl rfl rfl SlOf.own (idx_some e157).2.2 Part.self ?_
                obtain ⟨y158, e159, h147⟩ := bind_some h147
                refine RL.idxS (sz := 1) 5 Try.underlying24 Try_ln3 rfl rfl rfl rfl rfl SlOf.imm (idx_some e159).1 (idx_some e159).2.1 ?_
                refine RL.ldSx (i := (y156).toNat) (e' := y158) 5 Ex.ik Try_ln3 rfl rfl rfl rfl SlOf.imm (idx_some e159).2.2 Part.self ?_
                refine RL.mv rfl rfl rfl ?_
                refine RL.binI (v := .bool (decide (y158 < x48))) rfl rfl rfl rfl rfl ?_
                refine RL.pickT rfl rfl rfl rfl ?_
                refine RL.finQ ?_
                cases h147
                exact fun a w st => mid_intro (decide (y158 < x48)) h148 (St.cut [0, 1, 4, 2] ⟨rfl, rfl, rfl, rfl, rfl, rfl, rfl, rfl, rfl, rfl, rfl, trivial⟩ (by decide) rfl st)
              · replace h147 := ite_f b154 h147
                refine RL.skip rfl rfl ?_
                refine RL.skip rfl rfl ?_
                refine RL.skip rfl rfl ?_
                refine RL.skip rfl rfl ?_
                refine RL.skip rfl rfl ?_
                refine RL.skip rfl rfl ?_
                refine RL.skip rfl rfl ?_
                refine RL.skip rfl rfl ?_
                refine RL.skip rfl rfl ?_
                refine RL.skip rfl rfl ?_
                refine RL.pickF rfl rfl rfl rfl ?_
                refine RL.finQ ?_
                cases h147
                exact fun a w st => mid_intro false h148 (St.cut [0, 1, 4, 2] ⟨rfl, rfl, rfl, rfl, rfl, rfl, rfl, rfl, rfl, rfl, rfl, trivial⟩ (by decide) rfl st)
            · rintro x144 h160
              have h161 := h149 _ h160
              try dsimp only at h161
              refine GL.weak (env' := [(1, v1), (2, .int .i64 x2), (9, v28), (10, .int .i64 x47), (11, .int .i64 x48), (12, .int .i64 (i110 : Int)), (13, v127), (47, v0), (48, .int .i64 ((x0).length : Int)), (49, .int .i64 (i110 : Int)), (71, .bool x144)]) (L' := [imm (TR.sl TR.int) v1 x1, own 3 TR.int v28 y26, obox 74 (TR.rec1 (TR.sl TR.int)) v127 y120, imm (TR.sl (TR.rec1 (TR.sl TR.int))) v0 x0]) (fun _ _ st => st) ?_
              refine GL.cond rfl (fun b162 => ?_) (fun b162 => ?_)
              · replace h161 := ite_t b162 h161
                refine GL.regionQ rfl rfl (by kernel_rfl) ?_
                refine RL.mv rfl rfl rfl ?_
                refine RL.fadr (off := 0) (fo := 0) 2 Try_fld74_0 rfl rfl rfl PtOf.obox (Or.inr ⟨rfl, rfl⟩) ?_
                refine RL.ldP (off := (0 + 0)) (r := (TR.sl TR.int)) (e' := y120) 2 Try_ln24 rfl rfl (Or.inl rfl) rfl PtOf.obox (Part.rec1 Part.self) ?_
                intro v168
                refine RL.mv rfl rfl rfl ?_
                refine RL.mv rfl rfl rfl ?_
                obtain ⟨y169, e170, h161⟩ := bind_some h161
                refine RL.idxS (sz := 1) 1 Try.underlying24 Try_ln3 rfl rfl rfl rfl rfl SlOf.own (idx_some e170).1 (idx_some e170).2.1 ?_
                refine RL.ldSx (i := i110) (e' := y169) 1 Ex.ik Try_ln3 rfl rfl rfl rfl SlOf.own (idx_some e170).2.2 Part.self ?_
                obtain ⟨y171, e172, h161⟩ := bind_some h161
                refine RL.idxS (sz := 1) 4 Try.underlying24 Try_ln3 rfl rfl rfl rfl rfl SlOf.imm (idx_some e172).1 (idx_some e172).2.1 ?_
                refine RL.ldSx (i := (y169).toNat) (e' := y171) 4 Ex.ik Try_ln3 rfl rfl rfl rfl SlOf.imm (idx_some e172).2.2 Part.self ?_
                refine RL.asg rfl rfl rfl ?_
                refine RL.asg rfl rfl rfl ?_
                refine RL.finQG ?_
                refine GL.nilB ?_
                refine GL.region ?_
                refine RL.binI (v := .int .i64 ((i110 + 1 : Nat) : Int)) rfl rfl rfl rfl (binI_succ i110 (by omega)) ?_
                refine RL.mv rfl rfl rfl ?_
                refine RL.fin ?_
                cases h161
                exact fun a w st => lop_intro (i110 + 1, r122, (i110 : Int), y171) ⟨by show i110 + 1 + r122.length = (x0).length; simp only [List.length_cons] at h116; omega, h123, h114⟩ (by simp) (St.cut [0, 1, 3] ⟨rfl, rfl, rfl, rfl, rfl, rfl, rfl, rfl, trivial⟩ (by decide) rfl st)
              · replace h161 := ite_f b162 h161
                refine GL.skip ?_
                refine GL.nilB ?_
                refine GL.region ?_
                refine RL.binI (v := .int .i64 ((i110 + 1 : Nat) : Int)) rfl rfl rfl rfl (binI_succ i110 (by omega)) ?_
                refine RL.mv rfl rfl rfl ?_
                refine RL.fin ?_
                cases h161
                exact fun a w st => lop_intro (i110 + 1, r122, x47, x48) ⟨by show i110 + 1 + r122.length = (x0).length; simp only [List.length_cons] at h116; omega, h123, h114⟩ (by simp) (St.cut [0, 1, 3] ⟨rfl, rfl, rfl, rfl, rfl, rfl, rfl, rfl, trivial⟩ (by decide) rfl st)
          · have h119 : ¬ i110 < (x0).length := by have := of_decide_eq_false b118; omega
            obtain rfl : r111 = [] := by rw [← h117]; exact List.drop_of_length_le (by omega)
            replace h115 : some (Fl.nx _) = some y103 := h115
            cases h115
            exact GL.exit (fun a w st => mid_intro (x47, x48) h106 (St.cut [] ⟨rfl, trivial⟩ (by decide) rfl st))
        · rintro ⟨x47, x48⟩ h173
          have h174 := h107 _ h173
          try dsimp only at h174
          refine GL.weak (env' := [(10, .int .i64 x47)]) (L' := []) (fun _ _ st => st) ?_
          refine GL.seq ?_
          refine GL.region ?_
          refine RL.mv rfl rfl rfl ?_
          refine RL.asg rfl rfl rfl ?_
          refine RL.asg rfl rfl rfl ?_
          refine RL.finG ?_
          have h174 := Option.some.inj h174
          subst h174
          exact GL.ret (Gx.ret (v := .tuple #[.int .i64 x47, .int .i64 (0 : Int)]) (res2 rfl rfl rfl) (fun a w st => st.toPostV))

set_option maxHeartbeats 4000000 in
theorem roads_Settle_c (S : Hp) (w : World) (hS : S.sub w) (v0 : Value) (x0 : (List (List Int))) (k0 : ((TR.sl (TR.rec1 (TR.sl TR.int)))).vrep S v0 x0) (v1 : Value) (x1 : (List Int)) (k1 : ((TR.sl TR.int)).vrep S v1 x1) (res : (List Int) × Int × Int) (hm : roads_Settle_m x0 x1 = some res) : Calls Try.prog 23 #[v0, v1] w (Post w S (fun (o : Value) => .tuple #[o, .int .i64 res.2.1, .int .i64 res.2.2]) (fun (o : Value) => [own 3 TR.int o res.1])) := by
  refine calls_enter 48 Try.func23 Try.ntmps23 rfl S false [(0, v0), (1, v1)] [imm (TR.sl (TR.rec1 (TR.sl TR.int))) v0 x0, imm (TR.sl TR.int) v1 x1] rfl ⟨rfl, ⟨rfl, trivial⟩⟩ hS ⟨k0, ⟨k1, trivial⟩⟩ ?_
  unfold roads_Settle_m at hm
  refine GL.seq ?_
  refine GL.region ?_
  refine RL.asg rfl rfl rfl ?_
  refine RL.asg rfl rfl rfl ?_
  refine RL.asg rfl rfl rfl ?_
  refine RL.finG ?_
  refine GL.seq ?_
  refine GL.seq ?_
  refine GL.region ?_
  refine RL.mv rfl rfl rfl ?_
  refine RL.mv rfl rfl rfl ?_
  obtain ⟨y5, e6, hm⟩ := bind_some hm
  refine RL.callV (v := .int .i64 y5) (vs := [v0, v1]) Try_fit44 rfl (Or.inl rfl) rfl rfl rfl rfl (fun U w hU hW hL => roads_Check_c U w hU _ _ (hL 0 _ _ rfl Seen.imm) _ _ (hL 1 _ _ rfl Seen.imm) _ e6) ?_
  refine RL.asg rfl rfl rfl ?_
  refine RL.finG ?_
  refine GL.seq ?_
  refine GL.region ?_
  refine RL.mv rfl rfl rfl ?_
  refine RL.binI (v := .bool (y5 != (0 : Int))) rfl rfl rfl rfl rfl ?_
  refine RL.finG ?_
  refine GL.cond rfl (fun b7 => ?_) (fun b7 => ?_)
  · replace hm := ite_t b7 hm
    refine GL.seq ?_
    refine GL.region ?_
    refine RL.mv rfl rfl rfl ?_
    refine RL.asg rfl rfl rfl ?_
    refine RL.asg rfl rfl rfl ?_
    refine RL.asg rfl rfl rfl ?_
    refine RL.finG ?_
    refine GL.weak (fun a w st => st.nilOwn 3 TR.int) ?_
    have hm := Option.some.inj hm
    subst hm
    exact GL.ret (Gx.ret (v := .tuple #[Value.slice none 0 0, .int .i64 (0 : Int), .int .i64 y5]) (res3 rfl rfl rfl rfl) (fun a w st => (st.pick [2] (by decide) rfl).toPost (Value.slice none 0 0)))
  · replace hm := ite_f b7 hm
    refine GL.skip ?_
    refine GL.seq ?_
    refine GL.region ?_
    refine RL.mv rfl rfl rfl ?_
    obtain ⟨y11, e12, hm⟩ := bind_some hm
    refine RL.call (vs := [v1]) Try_fit18 rfl rfl rfl rfl rfl (fun S f w hS hW hi => slices_Clone_int_int_c S w hS _ _ (hi 1 _ rfl) _ e12) ?_
    intro v13
    refine RL.asg rfl rfl rfl ?_
    refine RL.finG ?_
    refine GL.seq ?_
    refine GL.region ?_
    refine RL.asg rfl rfl rfl ?_
    refine RL.finG ?_
    refine GL.seq ?_
    refine GL.seq ?_
    refine GL.region ?_
    refine RL.asg rfl rfl rfl ?_
    refine RL.finG ?_
    obtain ⟨y48, K49, h50, h51, h52, h53, h54⟩ := bindR_K hm
    refine GL.join (ι := (List Int) × Int × Int × Value) (fun (p : (List Int) × Int × Int × Value) => [(8, p.2.2.2), (9, .int .i64 p.2.1)]) (fun (p : (List Int) × Int × Int × Value) => [own 3 TR.int p.2.2.2 p.1]) (fun (p : (List Int) × Int × Int × Value) => K49 (.nx (p.1, p.2.1, p.2.2.1))) ?_ ?_
    · refine GL.block ?_
      refine GL.loop (ι := Nat × (List Int) × Int × Int × Value) (fun (p : Nat × (List Int) × Int × Int × Value) => [(0, v0), (8, p.2.2.2.2), (9, .int .i64 p.2.2.1), (10, .int .i64 p.2.2.2.1)]) (fun (p : Nat × (List Int) × Int × Int × Value) => [imm (TR.sl (TR.rec1 (TR.sl TR.int))) v0 x0, own 3 TR.int p.2.2.2.2 p.2.1]) (fun (p : Nat × (List Int) × Int × Int × Value) => loopM (roads_Settle_b1 x0) p.1 (p.2.1, p.2.2.1, p.2.2.2.1) = some y48) (fun (p : Nat × (List Int) × Int × Int × Value) => p.1) (1048576, y11, (0 : Int), (0 : Int), v13) h50 (fun a w st => St.cut [0, 2] ⟨rfl, rfl, rfl, rfl, trivial⟩ (by decide) rfl st) ?_
      rintro ⟨r56, l30, x32, x33, v31⟩ h60
      try dsimp only at h60
      refine GL.weak (env' := [(0, v0), (8, v31), (9, .int .i64 x32), (10, .int .i64 x33)]) (L' := [imm (TR.sl (TR.rec1 (TR.sl TR.int))) v0 x0, own 3 TR.int v31 l30]) (fun _ _ st => st) ?_
      obtain ⟨r63, z57, hr, h58, h59⟩ := loopM_some h60
      subst hr
      unfold roads_Settle_b1 at h58
      try dsimp only at h58
      refine GL.seq ?_
      refine GL.seq ?_
      refine GL.region ?_
      refine RL.mv rfl rfl rfl ?_
      refine RL.mv rfl rfl rfl ?_
      refine RL.lenS 1 Try.underlying24 rfl rfl rfl rfl SlOf.own ?_
      refine RL.binI (v := .bool (decide (x33 < ((l30).length : Int)))) rfl rfl rfl rfl rfl ?_
      refine RL.finG ?_
      refine GL.cond rfl (fun b64 => ?_) (fun b64 => ?_)
      · replace h58 := ite_t b64 h58
        refine GL.skip ?_
        refine GL.seq ?_
        refine GL.block ?_
        refine GL.seq ?_
        refine GL.region ?_
        refine RL.mv rfl rfl rfl ?_
        refine RL.mv rfl rfl rfl ?_
        refine RL.mv rfl rfl rfl ?_
        obtain ⟨y67, e68, h58⟩ := bind_some h58
        refine RL.callV (v := .tuple #[.int .i64 y67.1, .int .i64 y67.2]) (vs := [v0, v31, .int .i64 x33]) Try_fit25 rfl (Or.inl rfl) rfl rfl rfl rfl (fun U w hU hW hL => roads_Better_c U w hU _ _ (hL 0 _ _ rfl Seen.imm) _ _ (hL 1 _ _ rfl Seen.own) x33 _ e68) ?_
        refine RL.mv rfl rfl rfl ?_
        refine RL.ext rfl rfl rfl rfl ?_
        refine RL.ext rfl rfl rfl rfl ?_
        refine RL.asg rfl rfl rfl ?_
        refine RL.asg rfl rfl rfl ?_
        refine RL.finG ?_
        refine GL.seq ?_
        refine GL.region ?_
        refine RL.mv rfl rfl rfl ?_
        refine RL.mv rfl rfl rfl ?_
        refine RL.mv rfl rfl rfl ?_
        obtain ⟨y71, e72, h58⟩ := bind_some h58
        refine RL.idxS (sz := 1) 1 Try.underlying24 Try_ln3 rfl rfl rfl rfl rfl SlOf.own (idx_some e72).1 (idx_some e72).2.1 ?_
        refine RL.ldSx (i := (x33).toNat) (e' := y71) 1 Ex.ik Try_ln3 rfl rfl rfl rfl SlOf.own (idx_some e72).2.2 Part.self ?_
        refine RL.binI (v := .bool (y67.1 != y71)) rfl rfl rfl rfl rfl ?_
        refine RL.finG ?_
        refine GL.cond rfl (fun b73 => ?_) (fun b73 => ?_)
        · replace h58 := ite_t b73 h58
          refine GL.seq ?_
          refine GL.region ?_
          refine RL.mv rfl rfl rfl ?_
          refine RL.mv rfl rfl rfl ?_
          refine RL.mv rfl rfl rfl ?_
          obtain ⟨y76, e77, h58⟩ := bind_some h58
          refine RL.idxS (sz := 1) 1 Try.underlying24 Try_ln3 rfl rfl rfl rfl rfl SlOf.own (idx_some e77).1 (idx_some e77).2.1 ?_
          refine RL.stS (i := (x33).toNat) (e' := y67.1) (e1 := y67.1) (r := TR.int) 1 Try_ln3 rfl rfl rfl rfl VR.int rfl (idx_some e77).2.2 Upd.self ?_
          refine RL.finG ?_
          refine GL.seq ?_
          refine GL.region ?_
          refine RL.mv rfl rfl rfl ?_
          refine RL.binI (v := .int .i64 (wadd x32 (1 : Int))) rfl rfl rfl rfl rfl ?_
          refine RL.asg rfl rfl rfl ?_
          refine RL.finG ?_
          refine GL.region ?_
          refine RL.asg rfl rfl rfl ?_
          refine RL.finG ?_
          refine GL.nilB ?_
          refine GL.region ?_
          refine RL.mv rfl rfl rfl ?_
          refine RL.binI (v := .int .i64 (wadd (-1 : Int) (1 : Int))) rfl rfl rfl rfl rfl ?_
          refine RL.asg rfl rfl rfl ?_
          refine RL.finG ?_
          cases h58
          exact fun a w st => lop_intro (r63, (List.set l30 ((x33).toNat) y67.1), wadd x32 (1 : Int), wadd (-1 : Int) (1 : Int), v31) (by exact h59) (by simp) (St.cut [0, 1] ⟨rfl, rfl, rfl, rfl, trivial⟩ (by decide) rfl st)
        · replace h58 := ite_f b73 h58
          refine GL.skip ?_
          refine GL.nilB ?_
          refine GL.region ?_
          refine RL.mv rfl rfl rfl ?_
          refine RL.binI (v := .int .i64 (wadd x33 (1 : Int))) rfl rfl rfl rfl rfl ?_
          refine RL.asg rfl rfl rfl ?_
          refine RL.finG ?_
          cases h58
          exact fun a w st => lop_intro (r63, l30, x32, wadd x33 (1 : Int), v31) (by exact h59) (by simp) (St.cut [0, 1] ⟨rfl, rfl, rfl, rfl, trivial⟩ (by decide) rfl st)
      · replace h58 := ite_f b64 h58
        cases h58
        replace h59 : some (Fl.nx _) = some y48 := h59
        cases h59
        exact GL.exit (fun a w st => mid_intro (l30, x32, x33, v31) h51 (St.cut [1] ⟨rfl, rfl, trivial⟩ (by decide) rfl st))
    · rintro ⟨l30, x32, x33, v31⟩ h78
      have h79 := h52 _ h78
      try dsimp only at h79
      refine GL.weak (env' := [(8, v31), (9, .int .i64 x32)]) (L' := [own 3 TR.int v31 l30]) (fun _ _ st => st) ?_
      refine GL.seq ?_
      refine GL.region ?_
      refine RL.mv rfl rfl rfl ?_
      refine RL.mv rfl rfl rfl ?_
      refine RL.asg rfl rfl rfl ?_
      refine RL.asg rfl rfl rfl ?_
      refine RL.asg rfl rfl rfl ?_
      refine RL.finG ?_
      have h79 := Option.some.inj h79
      subst h79
      exact GL.ret (Gx.ret (v := .tuple #[v31, .int .i64 x32, .int .i64 (0 : Int)]) (res3 rfl rfl rfl rfl) (fun a w st => (st.pick [0] (by decide) rfl).toPost v31))

set_option maxHeartbeats 4000000 in
theorem slices_Equal_int_int_c (S : Hp) (w : World) (hS : S.sub w) (v0 : Value) (x0 : (List Int)) (k0 : ((TR.sl TR.int)).vrep S v0 x0) (v1 : Value) (x1 : (List Int)) (k1 : ((TR.sl TR.int)).vrep S v1 x1) (res : Bool) (hm : slices_Equal_int_int_m x0 x1 = some res) : Calls Try.prog 19 #[v0, v1] w (PostV w (.bool res)) := by
  refine calls_enter 26 Try.func19 Try.ntmps19 rfl S false [(0, v0), (1, v1)] [imm (TR.sl TR.int) v0 x0, imm (TR.sl TR.int) v1 x1] rfl ⟨rfl, ⟨rfl, trivial⟩⟩ hS ⟨k0, ⟨k1, trivial⟩⟩ ?_
  unfold slices_Equal_int_int_m at hm
  refine GL.seq ?_
  refine GL.region ?_
  refine RL.asg rfl rfl rfl ?_
  refine RL.finG ?_
  refine GL.seq ?_
  refine GL.seq ?_
  refine GL.region ?_
  refine RL.mv rfl rfl rfl ?_
  refine RL.lenS 0 Try.underlying24 rfl rfl rfl rfl SlOf.imm ?_
  refine RL.mv rfl rfl rfl ?_
  refine RL.lenS 1 Try.underlying24 rfl rfl rfl rfl SlOf.imm ?_
  refine RL.binI (v := .bool (((x0).length : Int) != ((x1).length : Int))) rfl rfl rfl rfl rfl ?_
  refine RL.finG ?_
  refine GL.cond rfl (fun b3 => ?_) (fun b3 => ?_)
  · replace hm := ite_t b3 hm
    refine GL.seq ?_
    refine GL.region ?_
    refine RL.asg rfl rfl rfl ?_
    refine RL.finG ?_
    have hm := Option.some.inj hm
    subst hm
    exact GL.ret (Gx.ret (v := .bool false) (res1 rfl rfl) (fun a w st => st.toPostV))
  · replace hm := ite_f b3 hm
    refine GL.skip ?_
    refine GL.seq ?_
    refine GL.seq ?_
    refine GL.region ?_
    refine RL.mv rfl rfl rfl ?_
    refine RL.lenS 0 Try.underlying24 rfl rfl rfl rfl SlOf.imm ?_
    refine RL.mv rfl rfl rfl ?_
    refine RL.finG ?_
    refine GL.open_ 0 rfl (fun S h => len_imm S h) (fun n13 => ?_)
    obtain ⟨y14, K15, h16, h17, h18, h19, h20⟩ := bindR_K hm
    refine GL.join (ι := Unit) (fun (p : Unit) => []) (fun (p : Unit) => []) (fun (p : Unit) => K15 (.nx ())) ?_ ?_
    · refine GL.block ?_
      refine GL.loop (ι := Nat × (List Int)) (fun (p : Nat × (List Int)) => [(0, v0), (1, v1), (12, .int .i64 ((x0).length : Int)), (13, .int .i64 (p.1 : Int))]) (fun (p : Nat × (List Int)) => [imm (TR.sl TR.int) v0 x0, imm (TR.sl TR.int) v1 x1]) (fun (p : Nat × (List Int)) => p.1 + p.2.length = (x0).length ∧ List.drop p.1 x0 = p.2 ∧ rangeL (slices_Equal_int_int_b1 x1) p.2 p.1 () = some y14) (fun (p : Nat × (List Int)) => p.2.length) (0, x0) ⟨by simp, by simp, h16⟩ (fun a w st => St.cut [0, 1] ⟨rfl, rfl, rfl, rfl, trivial⟩ (by decide) rfl st) ?_
      rintro ⟨i21, r22⟩ ⟨h27, h28, h26⟩
      try dsimp only at h27 h28 h26
      refine GL.weak (env' := [(0, v0), (1, v1), (12, .int .i64 ((x0).length : Int)), (13, .int .i64 (i21 : Int))]) (L' := [imm (TR.sl TR.int) v0 x0, imm (TR.sl TR.int) v1 x1]) (fun _ _ st => st) ?_
      refine GL.seq ?_
      refine GL.region ?_
      refine RL.binI (v := .bool (decide ((i21 : Int) < ((x0).length : Int)))) rfl rfl rfl rfl rfl ?_
      refine RL.finG ?_
      refine GL.seq ?_
      refine GL.cond rfl (fun b29 => ?_) (fun b29 => ?_)
      · have h30 : i21 < (x0).length := by have := of_decide_eq_true b29; omega
        obtain ⟨y31, r33, hr, e32, h34⟩ := drop_cons h28 rfl h30
        subst hr
        obtain ⟨z23, h24, h25⟩ := rangeL_some h26
        unfold slices_Equal_int_int_b1 at h24
        try dsimp only at h24
        refine GL.skip ?_
        refine GL.seq ?_
        refine GL.block ?_
        refine GL.seq ?_
        refine GL.region ?_
        refine RL.mv rfl rfl rfl ?_
        refine RL.asg rfl rfl rfl ?_
        refine RL.finG ?_
        refine GL.seq ?_
        refine GL.regionQ rfl rfl (by kernel_rfl) ?_
        refine RL.mv rfl rfl rfl ?_
        refine RL.mv rfl rfl rfl ?_
        refine RL.idxS (sz := 1) 0 Try.underlying24 Try_ln3 rfl rfl rfl rfl rfl SlOf.imm (by omega) (by omega) ?_
        refine RL.ldSx (i := i21) (e' := y31) 0 Ex.ik Try_ln3 rfl rfl rfl rfl SlOf.imm e32 Part.self ?_
        refine RL.mv rfl rfl rfl ?_
        refine RL.mv rfl rfl rfl ?_
        obtain ⟨y37, e38, h24⟩ := bind_some h24
        refine RL.idxS (sz := 1) 1 Try.underlying24 Try_ln3 rfl rfl rfl rfl rfl SlOf.imm (idx_some e38).1 (idx_some e38).2.1 ?_
        refine RL.ldSx (i := i21) (e' := y37) 1 Ex.ik Try_ln3 rfl rfl rfl rfl SlOf.imm (idx_some e38).2.2 Part.self ?_
        refine RL.binI (v := .bool (y31 != y37)) rfl rfl rfl rfl rfl ?_
        refine RL.finQG ?_
        refine GL.cond rfl (fun b39 => ?_) (fun b39 => ?_)
        · replace h24 := ite_t b39 h24
          refine GL.seq ?_
          refine GL.region ?_
          refine RL.asg rfl rfl rfl ?_
          refine RL.finG ?_
          cases h24
          replace h25 : some (Fl.rt _) = some y14 := h25
          cases h25
          have hh := h19 _ h17
          subst hh
          exact GL.ret (Gx.ret (v := .bool false) (res1 rfl rfl) (fun a w st => st.toPostV))
        · replace h24 := ite_f b39 h24
          refine GL.skip ?_
          refine GL.nilB ?_
          refine GL.region ?_
          refine RL.binI (v := .int .i64 ((i21 + 1 : Nat) : Int)) rfl rfl rfl rfl (binI_succ i21 (by omega)) ?_
          refine RL.mv rfl rfl rfl ?_
          refine RL.fin ?_
          cases h24
          exact fun a w st => lop_intro (i21 + 1, r33) ⟨by show i21 + 1 + r33.length = (x0).length; simp only [List.length_cons] at h27; omega, h34, h25⟩ (by simp) (St.cut [0, 1] ⟨rfl, rfl, rfl, rfl, trivial⟩ (by decide) rfl st)
      · have h30 : ¬ i21 < (x0).length := by have := of_decide_eq_false b29; omega
        obtain rfl : r22 = [] := by rw [← h28]; exact List.drop_of_length_le (by omega)
        replace h26 : some (Fl.nx _) = some y14 := h26
        cases h26
        exact GL.exit (fun a w st => mid_intro () h17 (St.cut [] trivial (by decide) rfl st))
    · rintro ⟨⟩ h40
      have h41 := h18 _ h40
      try dsimp only at h41
      refine GL.weak (env' := []) (L' := []) (fun _ _ st => st) ?_
      refine GL.seq ?_
      refine GL.region ?_
      refine RL.asg rfl rfl rfl ?_
      refine RL.finG ?_
      have h41 := Option.some.inj h41
      subst h41
      exact GL.ret (Gx.ret (v := .bool true) (res1 rfl rfl) (fun a w st => st.toPostV))

set_option maxHeartbeats 4000000 in
theorem pk_crowds_c (S : Hp) (w : World) (hS : S.sub w)  (res : Bool) (hm : pk_crowds_m = some res) : Calls Try.prog 22 #[] w (PostV w (.bool res)) := by
  refine calls_enter 26 Try.func22 Try.ntmps22 rfl S false [] [] rfl trivial hS trivial ?_
  unfold pk_crowds_m at hm
  refine GL.seq ?_
  refine GL.region ?_
  refine RL.asg rfl rfl rfl ?_
  refine RL.finG ?_
  refine GL.seq ?_
  refine GL.region ?_
  refine RL.bS (t := TR.int) (vs := [.int .i64 (1 : Int), .int .i64 (3 : Int)]) ([(1 : Int), (3 : Int)] : (List Int)) Try.underlying24 Try_lo3 rfl rfl rfl rfl ⟨VR.int, ⟨VR.int, trivial⟩⟩ rfl (by decide) ?_
  intro v10
  refine RL.weak (fun a w st => st.freeze 0 rfl) ?_
  refine RL.bld (t := (TR.rec1 (TR.sl TR.int))) (d0 := (([(1 : Int), (3 : Int)] : (List Int)) : (List Int))) (pv := [(0, v10)]) rfl Try_bld74 rfl rfl rfl ⟨⟨_, _, (TR.sl TR.int), ([(1 : Int), (3 : Int)] : (List Int)), rfl, rfl, (VR.item 0 rfl)⟩, trivial⟩ (fun S f hi => by
      obtain ⟨c0, e0, r0⟩ := cells_vrep (t := (TR.sl TR.int)) (u := v10) (e := ([(1 : Int), (3 : Int)] : (List Int))) ((VR.item 0 rfl) S f hi)
      show TR.rep (TR.rec1 (TR.sl TR.int)) S (List.flatten [(v10 : Value).cells.toList]) _
      simp only [e0,  List.flatten_cons, List.flatten_nil, List.append_nil]
      exact r0) ?_
  intro v11
  refine RL.reL (L' := [imm (TR.sl TR.int) v10 ([(1 : Int), (3 : Int)] : (List Int)), imm (TR.rec1 (TR.sl TR.int)) v11 ([(1 : Int), (3 : Int)] : (List Int))]) rfl ?_
  refine RL.bS (t := TR.int) (vs := [.int .i64 (2 : Int), .int .i64 (2 : Int)]) ([(2 : Int), (2 : Int)] : (List Int)) Try.underlying24 Try_lo3 rfl rfl rfl rfl ⟨VR.int, ⟨VR.int, trivial⟩⟩ rfl (by decide) ?_
  intro v12
  refine RL.weak (fun a w st => st.freeze 2 rfl) ?_
  refine RL.bld (t := (TR.rec1 (TR.sl TR.int))) (d0 := (([(2 : Int), (2 : Int)] : (List Int)) : (List Int))) (pv := [(0, v12)]) rfl Try_bld74 rfl rfl rfl ⟨⟨_, _, (TR.sl TR.int), ([(2 : Int), (2 : Int)] : (List Int)), rfl, rfl, (VR.item 2 rfl)⟩, trivial⟩ (fun S f hi => by
      obtain ⟨c0, e0, r0⟩ := cells_vrep (t := (TR.sl TR.int)) (u := v12) (e := ([(2 : Int), (2 : Int)] : (List Int))) ((VR.item 2 rfl) S f hi)
      show TR.rep (TR.rec1 (TR.sl TR.int)) S (List.flatten [(v12 : Value).cells.toList]) _
      simp only [e0,  List.flatten_cons, List.flatten_nil, List.append_nil]
      exact r0) ?_
  intro v13
  refine RL.reL (L' := [imm (TR.sl TR.int) v10 ([(1 : Int), (3 : Int)] : (List Int)), imm (TR.rec1 (TR.sl TR.int)) v11 ([(1 : Int), (3 : Int)] : (List Int)), imm (TR.sl TR.int) v12 ([(2 : Int), (2 : Int)] : (List Int)), imm (TR.rec1 (TR.sl TR.int)) v13 ([(2 : Int), (2 : Int)] : (List Int))]) rfl ?_
  refine RL.bS (t := (TR.rec1 (TR.sl TR.int))) (vs := [v11, v13]) ([([(1 : Int), (3 : Int)] : (List Int)), ([(2 : Int), (2 : Int)] : (List Int))] : (List (List Int))) Try.underlying39 Try_lo74 rfl rfl rfl rfl ⟨(VR.item 1 rfl), ⟨(VR.item 3 rfl), trivial⟩⟩ rfl (by decide) ?_
  intro v14
  refine RL.bS (t := TR.int) (vs := [.int .i64 (0 : Int), .int .i64 (0 : Int)]) ([(0 : Int), (0 : Int)] : (List Int)) Try.underlying24 Try_lo3 rfl rfl rfl rfl ⟨VR.int, ⟨VR.int, trivial⟩⟩ rfl (by decide) ?_
  intro v15
  refine RL.reL (L' := [imm (TR.sl TR.int) v10 ([(1 : Int), (3 : Int)] : (List Int)), imm (TR.rec1 (TR.sl TR.int)) v11 ([(1 : Int), (3 : Int)] : (List Int)), imm (TR.sl TR.int) v12 ([(2 : Int), (2 : Int)] : (List Int)), imm (TR.rec1 (TR.sl TR.int)) v13 ([(2 : Int), (2 : Int)] : (List Int)), own 74 (TR.rec1 (TR.sl TR.int)) v14 ([([(1 : Int), (3 : Int)] : (List Int)), ([(2 : Int), (2 : Int)] : (List Int))] : (List (List Int))), own 3 TR.int v15 ([(0 : Int), (0 : Int)] : (List Int))]) rfl ?_
  refine RL.weak (fun a w st => st.freeze 4 rfl) ?_
  refine RL.weak (fun a w st => st.freeze 5 rfl) ?_
  obtain ⟨y16, e17, hm⟩ := bind_some hm
  refine RL.call (vs := [v14, v15]) Try_fit23 rfl rfl rfl rfl rfl (fun S f w hS hW hi => roads_Settle_c S w hS _ _ (hi 4 _ rfl) _ _ (hi 5 _ rfl) _ e17) ?_
  intro v18
  refine RL.reL (L' := [imm (TR.sl TR.int) v10 ([(1 : Int), (3 : Int)] : (List Int)), imm (TR.rec1 (TR.sl TR.int)) v11 ([(1 : Int), (3 : Int)] : (List Int)), imm (TR.sl TR.int) v12 ([(2 : Int), (2 : Int)] : (List Int)), imm (TR.rec1 (TR.sl TR.int)) v13 ([(2 : Int), (2 : Int)] : (List Int)), imm (TR.sl (TR.rec1 (TR.sl TR.int))) v14 ([([(1 : Int), (3 : Int)] : (List Int)), ([(2 : Int), (2 : Int)] : (List Int))] : (List (List Int))), imm (TR.sl TR.int) v15 ([(0 : Int), (0 : Int)] : (List Int)), own 3 TR.int v18 y16.1]) rfl ?_
  refine RL.mv rfl rfl rfl ?_
  refine RL.ext rfl rfl rfl rfl ?_
  refine RL.ext rfl rfl rfl rfl ?_
  refine RL.ext rfl rfl rfl rfl ?_
  refine RL.asg rfl rfl rfl ?_
  refine RL.asg rfl rfl rfl ?_
  refine RL.asg rfl rfl rfl ?_
  refine RL.finG ?_
  refine GL.seq ?_
  obtain ⟨y30, K31, h32, h33, h34, h35, h36⟩ := bindR_K hm
  refine GL.join (ι := Bool) (fun (p : Bool) => [(0, .bool p)]) (fun (p : Bool) => []) (fun (p : Bool) => K31 (.nx p)) ?_ ?_
  · skip
    refine GL.region ?_
    refine RL.mv rfl rfl rfl ?_
    refine RL.binI (v := .bool (y16.2.2 == (0 : Int))) rfl rfl rfl rfl rfl ?_
    refine RL.mv rfl rfl rfl ?_
    refine RL.split (t := 17) rfl (fun b37 => ?_) (fun b37 => ?_)
    · replace h32 := ite_t b37 h32
      refine RL.mv rfl rfl rfl ?_
      refine RL.binI (v := .bool (y16.2.1 == (1 : Int))) rfl rfl rfl rfl rfl ?_
      refine RL.pickT rfl rfl rfl rfl ?_
      refine RL.mv rfl rfl rfl ?_
      refine RL.split (t := 21) rfl (fun b38 => ?_) (fun b38 => ?_)
      · replace h32 := ite_t b38 h32
        refine RL.mv rfl rfl rfl ?_
        refine RL.bS (t := TR.int) (vs := [.int .i64 (1 : Int), .int .i64 (0 : Int)]) ([(1 : Int), (0 : Int)] : (List Int)) Try.underlying24 Try_lo3 rfl rfl rfl rfl ⟨VR.int, ⟨VR.int, trivial⟩⟩ rfl (by decide) ?_
        intro v39
        obtain ⟨y40, e41, h32⟩ := bind_some h32
        refine RL.callV (v := .bool y40) (vs := [v18, v39]) Try_fit19 rfl (Or.inl rfl) rfl rfl rfl rfl (fun U w hU hW hL => slices_Equal_int_int_c U w hU _ _ (hL 6 _ _ rfl Seen.own) _ _ (hL 7 _ _ rfl Seen.own) _ e41) ?_
        refine RL.pickT rfl rfl rfl rfl ?_
        refine RL.asg rfl rfl rfl ?_
        refine RL.fin ?_
        cases h32
        exact fun a w st => mid_intro y40 h33 (St.cut [] ⟨rfl, trivial⟩ (by decide) rfl st)
      · replace h32 := ite_f b38 h32
        refine RL.skip rfl rfl ?_
        refine RL.skip rfl rfl ?_
        refine RL.skip rfl rfl ?_
        refine RL.pickF rfl rfl rfl rfl ?_
        refine RL.asg rfl rfl rfl ?_
        refine RL.fin ?_
        cases h32
        exact fun a w st => mid_intro false h33 (St.cut [] ⟨rfl, trivial⟩ (by decide) rfl st)
    · replace h32 := ite_f b37 h32
      refine RL.skip rfl rfl ?_
      refine RL.skip rfl rfl ?_
      refine RL.pickF rfl rfl rfl rfl ?_
      refine RL.mv rfl rfl rfl ?_
      refine RL.skip rfl rfl ?_
      refine RL.skip rfl rfl ?_
      refine RL.skip rfl rfl ?_
      refine RL.pickF rfl rfl rfl rfl ?_
      refine RL.asg rfl rfl rfl ?_
      refine RL.fin ?_
      cases h32
      exact fun a w st => mid_intro false h33 (St.cut [] ⟨rfl, trivial⟩ (by decide) rfl st)
  · rintro x29 h42
    have h43 := h34 _ h42
    try dsimp only at h43
    refine GL.weak (env' := [(0, .bool x29)]) (L' := []) (fun _ _ st => st) ?_
    have h43 := Option.some.inj h43
    subst h43
    exact GL.ret (Gx.ret (v := .bool x29) (res1 rfl rfl) (fun a w st => st.toPostV))

set_option maxHeartbeats 4000000 in
theorem roads_Height_c (S : Hp) (w : World) (hS : S.sub w) (v0 : Value) (x0 : (List (List Int))) (k0 : ((TR.sl (TR.rec1 (TR.sl TR.int)))).vrep S v0 x0) (v1 : Value) (x1 : (List Int)) (k1 : ((TR.sl TR.int)).vrep S v1 x1) (res : Int × Int) (hm : roads_Height_m x0 x1 = some res) : Calls Try.prog 24 #[v0, v1] w (PostV w (.tuple #[.int .i64 res.1, .int .i64 res.2])) := by
  refine calls_enter 45 Try.func24 Try.ntmps24 rfl S false [(0, v0), (1, v1)] [imm (TR.sl (TR.rec1 (TR.sl TR.int))) v0 x0, imm (TR.sl TR.int) v1 x1] rfl ⟨rfl, ⟨rfl, trivial⟩⟩ hS ⟨k0, ⟨k1, trivial⟩⟩ ?_
  unfold roads_Height_m at hm
  refine GL.seq ?_
  refine GL.region ?_
  refine RL.asg rfl rfl rfl ?_
  refine RL.asg rfl rfl rfl ?_
  refine RL.finG ?_
  refine GL.seq ?_
  refine GL.seq ?_
  refine GL.region ?_
  refine RL.mv rfl rfl rfl ?_
  refine RL.mv rfl rfl rfl ?_
  obtain ⟨y5, e6, hm⟩ := bind_some hm
  refine RL.callV (v := .int .i64 y5) (vs := [v0, v1]) Try_fit44 rfl (Or.inl rfl) rfl rfl rfl rfl (fun U w hU hW hL => roads_Check_c U w hU _ _ (hL 0 _ _ rfl Seen.imm) _ _ (hL 1 _ _ rfl Seen.imm) _ e6) ?_
  refine RL.asg rfl rfl rfl ?_
  refine RL.finG ?_
  refine GL.seq ?_
  refine GL.region ?_
  refine RL.mv rfl rfl rfl ?_
  refine RL.binI (v := .bool (y5 != (0 : Int))) rfl rfl rfl rfl rfl ?_
  refine RL.finG ?_
  refine GL.cond rfl (fun b7 => ?_) (fun b7 => ?_)
  · replace hm := ite_t b7 hm
    refine GL.seq ?_
    refine GL.region ?_
    refine RL.mv rfl rfl rfl ?_
    refine RL.asg rfl rfl rfl ?_
    refine RL.asg rfl rfl rfl ?_
    refine RL.finG ?_
    have hm := Option.some.inj hm
    subst hm
    exact GL.ret (Gx.ret (v := .tuple #[.int .i64 (0 : Int), .int .i64 y5]) (res2 rfl rfl rfl) (fun a w st => st.toPostV))
  · replace hm := ite_f b7 hm
    refine GL.skip ?_
    refine GL.seq ?_
    refine GL.region ?_
    refine RL.asg rfl rfl rfl ?_
    refine RL.finG ?_
    refine GL.seq ?_
    refine GL.seq ?_
    refine GL.region ?_
    refine RL.mv rfl rfl rfl ?_
    refine RL.mv rfl rfl rfl ?_
    obtain ⟨y11, e12, hm⟩ := bind_some hm
    refine RL.call (vs := [v0, v1]) Try_fit45 rfl rfl rfl rfl rfl (fun S f w hS hW hi => roads_load_c S w hS _ _ (hi 0 _ rfl) _ _ (hi 1 _ rfl) _ e12) ?_
    intro v13
    refine RL.lenS 2 Try.underlying24 rfl rfl rfl rfl SlOf.own ?_
    refine RL.mv rfl rfl rfl ?_
    refine RL.finG ?_
    refine GL.lenOwn 2 rfl (fun n60 => ?_)
    obtain ⟨y61, K62, h63, h64, h65, h66, h67⟩ := bindR_K hm
    refine GL.join (ι := Int) (fun (p : Int) => [(7, .int .i64 p)]) (fun (p : Int) => []) (fun (p : Int) => K62 (.nx p)) ?_ ?_
    · refine GL.block ?_
      refine GL.loop (ι := Nat × Nat × Int) (fun (p : Nat × Nat × Int) => [(0, v0), (7, .int .i64 p.2.2), (20, v13), (21, .int .i64 ((y11).length : Int)), (22, .int .i64 (p.1 : Int))]) (fun (p : Nat × Nat × Int) => [imm (TR.sl (TR.rec1 (TR.sl TR.int))) v0 x0, own 3 TR.int v13 y11]) (fun (p : Nat × Nat × Int) => p.1 + p.2.1 = (y11).length ∧ rangeN (roads_Height_b1 y11 x0) p.2.1 p.1 p.2.2 = some y61) (fun (p : Nat × Nat × Int) => p.2.1) (0, (y11).length, (0 : Int)) ⟨by simp, h63⟩ (fun a w st => St.cut [0, 2] ⟨rfl, rfl, rfl, rfl, rfl, trivial⟩ (by decide) rfl st) ?_
      rintro ⟨i68, r69, x14⟩ ⟨h74, h73⟩
      try dsimp only at h74 h73
      refine GL.weak (env' := [(0, v0), (7, .int .i64 x14), (20, v13), (21, .int .i64 ((y11).length : Int)), (22, .int .i64 (i68 : Int))]) (L' := [imm (TR.sl (TR.rec1 (TR.sl TR.int))) v0 x0, own 3 TR.int v13 y11]) (fun _ _ st => st) ?_
      refine GL.seq ?_
      refine GL.region ?_
      refine RL.binI (v := .bool (decide ((i68 : Int) < ((y11).length : Int)))) rfl rfl rfl rfl rfl ?_
      refine RL.finG ?_
      refine GL.seq ?_
      refine GL.cond rfl (fun b76 => ?_) (fun b76 => ?_)
      · have h77 : i68 < (y11).length := by have := of_decide_eq_true b76; omega
        obtain ⟨r78, hr⟩ : ∃ m, r69 = m + 1 := ⟨r69 - 1, by omega⟩
        subst hr
        obtain ⟨z70, h71, h72⟩ := rangeN_some h73
        unfold roads_Height_b1 at h71
        try dsimp only at h71
        refine GL.skip ?_
        refine GL.seq ?_
        refine GL.block ?_
        refine GL.seq ?_
        refine GL.region ?_
        refine RL.mv rfl rfl rfl ?_
        obtain ⟨y81, e82, h71⟩ := bind_some h71
        refine RL.idxS (sz := 1) 1 Try.underlying24 Try_ln3 rfl rfl rfl rfl rfl SlOf.own (idx_some e82).1 (idx_some e82).2.1 ?_
        refine RL.ldSx (i := i68) (e' := y81) 1 Ex.ik Try_ln3 rfl rfl rfl rfl SlOf.own (idx_some e82).2.2 Part.self ?_
        refine RL.asg rfl rfl rfl ?_
        refine RL.asg rfl rfl rfl ?_
        refine RL.finG ?_
        refine GL.seq ?_
        refine GL.region ?_
        refine RL.mv rfl rfl rfl ?_
        refine RL.mv rfl rfl rfl ?_
        obtain ⟨y89, e90, h71⟩ := bind_some h71
        refine RL.idxS (sz := 1) 0 Try.underlying39 Try_ln74 rfl rfl rfl rfl rfl SlOf.imm (idx_some e90).1 (idx_some e90).2.1 ?_
        refine RL.fadrS (off := (i68 * 1)) (fo := 0) 0 Try_fld74_0 rfl rfl rfl SlOf.imm (by have := (List.getElem?_eq_some_iff.1 (idx_some e90).2.2).1; omega) rfl ?_
        refine RL.ldS (i := i68) (r := (TR.sl TR.int)) (e' := y89) 0 Try_ln24 rfl rfl rfl rfl SlOf.imm (idx_some e90).2.2 (Part.rec1 Part.self) ?_
        intro v91
        refine RL.mv rfl rfl rfl ?_
        obtain ⟨y92, e93, h71⟩ := bind_some h71
        replace e93 := chk_some e93
        refine RL.slc (t := TR.int) (i := 0) (j := (y81).toNat) (sz := 1) 2 Try.underlying24 Try_ln3 rfl rfl rfl rfl (Or.inl ⟨rfl, rfl⟩) (Or.inr ⟨_, _, rfl, by rw [Int.toNat_of_nonneg (by omega)]; rfl⟩) rfl (by omega) (by omega) ?_
        intro v94
        refine RL.reL (L' := [imm (TR.sl (TR.rec1 (TR.sl TR.int))) v0 x0, own 3 TR.int v13 y11, imm (TR.sl TR.int) v91 y89, imm (TR.sl TR.int) v94 ((List.take ((y81).toNat) y89).drop 0)]) rfl ?_
        refine RL.lenS 3 Try.underlying24 rfl rfl rfl rfl SlOf.imm ?_
        refine RL.mv rfl rfl rfl ?_
        refine RL.finG ?_
        refine GL.open_ 3 rfl (fun S h => len_imm S h) (fun n100 => ?_)
        obtain ⟨y101, K102, h103, h104, h105, h106, h107⟩ := bindF_K h71
        refine GL.join (ι := Int) (fun (p : Int) => [(0, v0), (7, .int .i64 p), (20, v13), (21, .int .i64 ((y11).length : Int)), (22, .int .i64 (i68 : Int))]) (fun (p : Int) => [imm (TR.sl (TR.rec1 (TR.sl TR.int))) v0 x0, own 3 TR.int v13 y11]) (fun (p : Int) => K102 (.nx p)) ?_ ?_
        · refine GL.block ?_
          refine GL.loop (ι := Nat × (List Int) × Int) (fun (p : Nat × (List Int) × Int) => [(0, v0), (7, .int .i64 p.2.2), (20, v13), (21, .int .i64 ((y11).length : Int)), (22, .int .i64 (i68 : Int)), (33, v94), (34, .int .i64 ((((List.take ((y81).toNat) y89).drop 0)).length : Int)), (35, .int .i64 (p.1 : Int))]) (fun (p : Nat × (List Int) × Int) => [imm (TR.sl (TR.rec1 (TR.sl TR.int))) v0 x0, own 3 TR.int v13 y11, imm (TR.sl TR.int) v94 ((List.take ((y81).toNat) y89).drop 0)]) (fun (p : Nat × (List Int) × Int) => p.1 + p.2.1.length = (((List.take ((y81).toNat) y89).drop 0)).length ∧ List.drop p.1 ((List.take ((y81).toNat) y89).drop 0) = p.2.1 ∧ rangeL roads_Height_b2 p.2.1 p.1 p.2.2 = some y101) (fun (p : Nat × (List Int) × Int) => p.2.1.length) (0, ((List.take ((y81).toNat) y89).drop 0), x14) ⟨by simp, by simp, h103⟩ (fun a w st => St.cut [0, 1, 3] ⟨rfl, rfl, rfl, rfl, rfl, rfl, rfl, rfl, trivial⟩ (by decide) rfl st) ?_
          rintro ⟨i108, r109, x95⟩ ⟨h114, h115, h113⟩
          try dsimp only at h114 h115 h113
          refine GL.weak (env' := [(0, v0), (7, .int .i64 x95), (20, v13), (21, .int .i64 ((y11).length : Int)), (22, .int .i64 (i68 : Int)), (33, v94), (34, .int .i64 ((((List.take ((y81).toNat) y89).drop 0)).length : Int)), (35, .int .i64 (i108 : Int))]) (L' := [imm (TR.sl (TR.rec1 (TR.sl TR.int))) v0 x0, own 3 TR.int v13 y11, imm (TR.sl TR.int) v94 ((List.take ((y81).toNat) y89).drop 0)]) (fun _ _ st => st) ?_
          refine GL.seq ?_
          refine GL.region ?_
          refine RL.binI (v := .bool (decide ((i108 : Int) < ((((List.take ((y81).toNat) y89).drop 0)).length : Int)))) rfl rfl rfl rfl rfl ?_
          refine RL.finG ?_
          refine GL.seq ?_
          refine GL.cond rfl (fun b116 => ?_) (fun b116 => ?_)
          · have h117 : i108 < (((List.take ((y81).toNat) y89).drop 0)).length := by have := of_decide_eq_true b116; omega
            obtain ⟨y118, r120, hr, e119, h121⟩ := drop_cons h115 rfl h117
            subst hr
            obtain ⟨z110, h111, h112⟩ := rangeL_some h113
            unfold roads_Height_b2 at h111
            try dsimp only at h111
            refine GL.skip ?_
            refine GL.seq ?_
            refine GL.block ?_
            refine GL.seq ?_
            refine GL.region ?_
            refine RL.idxS (sz := 1) 2 Try.underlying24 Try_ln3 rfl rfl rfl rfl rfl SlOf.imm (by omega) (by omega) ?_
            refine RL.ldSx (i := i108) (e' := y118) 2 Ex.ik Try_ln3 rfl rfl rfl rfl SlOf.imm e119 Part.self ?_
            refine RL.asg rfl rfl rfl ?_
            refine RL.finG ?_
            refine GL.region ?_
            refine RL.mv rfl rfl rfl ?_
            refine RL.mv rfl rfl rfl ?_
            refine RL.binI (v := .int .i64 (wadd x95 y118)) rfl rfl rfl rfl rfl ?_
            refine RL.asg rfl rfl rfl ?_
            refine RL.finG ?_
            refine GL.nilB ?_
            refine GL.region ?_
            refine RL.binI (v := .int .i64 ((i108 + 1 : Nat) : Int)) rfl rfl rfl rfl (binI_succ i108 (by omega)) ?_
            refine RL.mv rfl rfl rfl ?_
            refine RL.fin ?_
            cases h111
            exact fun a w st => lop_intro (i108 + 1, r120, wadd x95 y118) ⟨by show i108 + 1 + r120.length = (((List.take ((y81).toNat) y89).drop 0)).length; simp only [List.length_cons] at h114; omega, h121, h112⟩ (by simp) (St.cut [0, 1, 2] ⟨rfl, rfl, rfl, rfl, rfl, rfl, rfl, rfl, trivial⟩ (by decide) rfl st)
          · have h117 : ¬ i108 < (((List.take ((y81).toNat) y89).drop 0)).length := by have := of_decide_eq_false b116; omega
            obtain rfl : r109 = [] := by rw [← h115]; exact List.drop_of_length_le (by omega)
            replace h113 : some (Fl.nx _) = some y101 := h113
            cases h113
            exact GL.exit (fun a w st => mid_intro x95 h104 (St.cut [0, 1] ⟨rfl, rfl, rfl, rfl, rfl, trivial⟩ (by decide) rfl st))
        · rintro x95 h122
          have h123 := h105 _ h122
          try dsimp only at h123
          refine GL.weak (env' := [(0, v0), (7, .int .i64 x95), (20, v13), (21, .int .i64 ((y11).length : Int)), (22, .int .i64 (i68 : Int))]) (L' := [imm (TR.sl (TR.rec1 (TR.sl TR.int))) v0 x0, own 3 TR.int v13 y11]) (fun _ _ st => st) ?_
          refine GL.nilB ?_
          refine GL.region ?_
          refine RL.binI (v := .int .i64 ((i68 + 1 : Nat) : Int)) rfl rfl rfl rfl (binI_succ i68 (by omega)) ?_
          refine RL.mv rfl rfl rfl ?_
          refine RL.fin ?_
          cases h123
          exact fun a w st => lop_intro (i68 + 1, r78, x95) ⟨by show i68 + 1 + r78 = (y11).length; omega, h72⟩ (by simp) (St.cut [0, 1] ⟨rfl, rfl, rfl, rfl, rfl, trivial⟩ (by decide) rfl st)
      · have h77 : ¬ i68 < (y11).length := by have := of_decide_eq_false b76; omega
        obtain rfl : r69 = 0 := by omega
        replace h73 : some (Fl.nx _) = some y61 := h73
        cases h73
        exact GL.exit (fun a w st => mid_intro x14 h64 (St.cut [] ⟨rfl, trivial⟩ (by decide) rfl st))
    · rintro x14 h124
      have h125 := h65 _ h124
      try dsimp only at h125
      refine GL.weak (env' := [(7, .int .i64 x14)]) (L' := []) (fun _ _ st => st) ?_
      refine GL.seq ?_
      refine GL.region ?_
      refine RL.mv rfl rfl rfl ?_
      refine RL.asg rfl rfl rfl ?_
      refine RL.asg rfl rfl rfl ?_
      refine RL.finG ?_
      have h125 := Option.some.inj h125
      subst h125
      exact GL.ret (Gx.ret (v := .tuple #[.int .i64 x14, .int .i64 (0 : Int)]) (res2 rfl rfl rfl) (fun a w st => st.toPostV))

set_option maxHeartbeats 4000000 in
theorem slices_IndexFunc_api_Errno_api_Errno_c (S : Hp) (w : World) (hS : S.sub w) (v0 : Value) (x0 : (List Int)) (k0 : ((TR.sl TR.int)).vrep S v0 x0) (f1 : FuncId) (c1 : Array Value) (t1 : Fit Try.prog f1) (g1 : Int → Option Bool) (k1 : ∀ (U : Hp) (w' : World), Hp.le S U → U.sub w' → ∀ (a0 : Int) (rr : Bool), g1 a0 = some rr → Calls Try.prog f1 (#[.int .i64 a0] ++ c1) w' (PostV w' (.bool rr))) (res : Int) (hm : slices_IndexFunc_api_Errno_api_Errno_m x0 g1 = some res) : Calls Try.prog 55 #[v0, .func (.func f1) #[] c1] w (PostV w (.int .i64 res)) := by
  refine calls_enter 19 Try.func55 Try.ntmps55 rfl S false [(0, v0), (1, .func (.func f1) #[] c1)] [imm (TR.sl TR.int) v0 x0] rfl ⟨rfl, ⟨rfl, trivial⟩⟩ hS ⟨k0, trivial⟩ ?_
  unfold slices_IndexFunc_api_Errno_api_Errno_m at hm
  refine GL.seq ?_
  refine GL.region ?_
  refine RL.asg rfl rfl rfl ?_
  refine RL.finG ?_
  refine GL.seq ?_
  refine GL.seq ?_
  refine GL.region ?_
  refine RL.mv rfl rfl rfl ?_
  refine RL.lenS 0 Try.underlying77 rfl rfl rfl rfl SlOf.imm ?_
  refine RL.mv rfl rfl rfl ?_
  refine RL.finG ?_
  refine GL.open_ 0 rfl (fun S h => len_imm S h) (fun n12 => ?_)
  obtain ⟨y13, K14, h15, h16, h17, h18, h19⟩ := bindR_K hm
  refine GL.join (ι := Unit) (fun (p : Unit) => []) (fun (p : Unit) => []) (fun (p : Unit) => K14 (.nx ())) ?_ ?_
  · refine GL.block ?_
    refine GL.loop (ι := Nat × (List Int)) (fun (p : Nat × (List Int)) => [(0, v0), (1, .func (.func f1) #[] c1), (7, .int .i64 ((x0).length : Int)), (8, .int .i64 (p.1 : Int))]) (fun (p : Nat × (List Int)) => [imm (TR.sl TR.int) v0 x0]) (fun (p : Nat × (List Int)) => p.1 + p.2.length = (x0).length ∧ List.drop p.1 x0 = p.2 ∧ rangeL (slices_IndexFunc_api_Errno_api_Errno_b1 g1) p.2 p.1 () = some y13) (fun (p : Nat × (List Int)) => p.2.length) (0, x0) ⟨by simp, by simp, h15⟩ (fun a w st => St.cut [0] ⟨rfl, rfl, rfl, rfl, trivial⟩ (by decide) rfl st) ?_
    rintro ⟨i20, r21⟩ ⟨h26, h27, h25⟩
    try dsimp only at h26 h27 h25
    refine GL.weak (env' := [(0, v0), (1, .func (.func f1) #[] c1), (7, .int .i64 ((x0).length : Int)), (8, .int .i64 (i20 : Int))]) (L' := [imm (TR.sl TR.int) v0 x0]) (fun _ _ st => st) ?_
    refine GL.seq ?_
    refine GL.region ?_
    refine RL.binI (v := .bool (decide ((i20 : Int) < ((x0).length : Int)))) rfl rfl rfl rfl rfl ?_
    refine RL.finG ?_
    refine GL.seq ?_
    refine GL.cond rfl (fun b28 => ?_) (fun b28 => ?_)
    · have h29 : i20 < (x0).length := by have := of_decide_eq_true b28; omega
      obtain ⟨y30, r32, hr, e31, h33⟩ := drop_cons h27 rfl h29
      subst hr
      obtain ⟨z22, h23, h24⟩ := rangeL_some h25
      unfold slices_IndexFunc_api_Errno_api_Errno_b1 at h23
      try dsimp only at h23
      refine GL.skip ?_
      refine GL.seq ?_
      refine GL.block ?_
      refine GL.seq ?_
      refine GL.region ?_
      refine RL.mv rfl rfl rfl ?_
      refine RL.asg rfl rfl rfl ?_
      refine RL.finG ?_
      refine GL.seq ?_
      refine GL.region ?_
      refine RL.mv rfl rfl rfl ?_
      refine RL.mv rfl rfl rfl ?_
      refine RL.mv rfl rfl rfl ?_
      refine RL.idxS (sz := 1) 0 Try.underlying77 Try_ln26 rfl rfl rfl rfl rfl SlOf.imm (by omega) (by omega) ?_
      refine RL.ldSx (i := i20) (e' := y30) 0 Ex.ik Try_ln26 rfl rfl rfl rfl SlOf.imm e31 Part.self ?_
      obtain ⟨y36, e37, h23⟩ := bind_some h23
      refine RL.callV (v := .bool y36) (vs := [.int .i64 y30]) t1 rfl (Or.inl rfl) rfl rfl rfl rfl (fun U w hU hW hL => k1 U w hW hU y30 _ e37) ?_
      refine RL.finG ?_
      refine GL.cond rfl (fun b38 => ?_) (fun b38 => ?_)
      · replace h23 := ite_t b38 h23
        refine GL.seq ?_
        refine GL.region ?_
        refine RL.mv rfl rfl rfl ?_
        refine RL.asg rfl rfl rfl ?_
        refine RL.finG ?_
        cases h23
        replace h24 : some (Fl.rt _) = some y13 := h24
        cases h24
        have hh := h18 _ h16
        subst hh
        exact GL.ret (Gx.ret (v := .int .i64 (i20 : Int)) (res1 rfl rfl) (fun a w st => st.toPostV))
      · replace h23 := ite_f b38 h23
        refine GL.skip ?_
        refine GL.nilB ?_
        refine GL.region ?_
        refine RL.binI (v := .int .i64 ((i20 + 1 : Nat) : Int)) rfl rfl rfl rfl (binI_succ i20 (by omega)) ?_
        refine RL.mv rfl rfl rfl ?_
        refine RL.fin ?_
        cases h23
        exact fun a w st => lop_intro (i20 + 1, r32) ⟨by show i20 + 1 + r32.length = (x0).length; simp only [List.length_cons] at h26; omega, h33, h24⟩ (by simp) (St.cut [0] ⟨rfl, rfl, rfl, rfl, trivial⟩ (by decide) rfl st)
    · have h29 : ¬ i20 < (x0).length := by have := of_decide_eq_false b28; omega
      obtain rfl : r21 = [] := by rw [← h27]; exact List.drop_of_length_le (by omega)
      replace h25 : some (Fl.nx _) = some y13 := h25
      cases h25
      exact GL.exit (fun a w st => mid_intro () h16 (St.cut [] trivial (by decide) rfl st))
  · rintro ⟨⟩ h39
    have h40 := h17 _ h39
    try dsimp only at h40
    refine GL.weak (env' := []) (L' := []) (fun _ _ st => st) ?_
    refine GL.seq ?_
    refine GL.region ?_
    refine RL.asg rfl rfl rfl ?_
    refine RL.finG ?_
    have h40 := Option.some.inj h40
    subst h40
    exact GL.ret (Gx.ret (v := .int .i64 (-1 : Int)) (res1 rfl rfl) (fun a w st => st.toPostV))

set_option maxHeartbeats 4000000 in
theorem slices_ContainsFunc_api_Errno_api_Errno_c (S : Hp) (w : World) (hS : S.sub w) (v0 : Value) (x0 : (List Int)) (k0 : ((TR.sl TR.int)).vrep S v0 x0) (f1 : FuncId) (c1 : Array Value) (t1 : Fit Try.prog f1) (g1 : Int → Option Bool) (k1 : ∀ (U : Hp) (w' : World), Hp.le S U → U.sub w' → ∀ (a0 : Int) (rr : Bool), g1 a0 = some rr → Calls Try.prog f1 (#[.int .i64 a0] ++ c1) w' (PostV w' (.bool rr))) (res : Bool) (hm : slices_ContainsFunc_api_Errno_api_Errno_m x0 g1 = some res) : Calls Try.prog 46 #[v0, .func (.func f1) #[] c1] w (PostV w (.bool res)) := by
  refine calls_enter 9 Try.func46 Try.ntmps46 rfl S false [(0, v0), (1, .func (.func f1) #[] c1)] [imm (TR.sl TR.int) v0 x0] rfl ⟨rfl, ⟨rfl, trivial⟩⟩ hS ⟨k0, trivial⟩ ?_
  unfold slices_ContainsFunc_api_Errno_api_Errno_m at hm
  refine GL.seq ?_
  refine GL.region ?_
  refine RL.asg rfl rfl rfl ?_
  refine RL.finG ?_
  refine GL.seq ?_
  refine GL.region ?_
  refine RL.mv rfl rfl rfl ?_
  refine RL.mv rfl rfl rfl ?_
  obtain ⟨y5, e6, hm⟩ := bind_some hm
  refine RL.callV (v := .int .i64 y5) (vs := [v0, .func (.func f1) #[] c1]) Try_fit55 rfl (Or.inl rfl) rfl rfl rfl rfl (fun U w hU hW hL => slices_IndexFunc_api_Errno_api_Errno_c U w hU _ _ (hL 0 _ _ rfl Seen.imm) f1 c1 t1 g1 (fun U' w' hle => k1 U' w' (Hp.le_trans hW hle)) _ e6) ?_
  refine RL.binI (v := .bool (decide (y5 ≥ (0 : Int)))) rfl rfl rfl rfl rfl ?_
  refine RL.asg rfl rfl rfl ?_
  refine RL.finG ?_
  have hm := Option.some.inj hm
  subst hm
  exact GL.ret (Gx.ret (v := .bool (decide (y5 ≥ (0 : Int)))) (res1 rfl rfl) (fun a w st => st.toPostV))

set_option maxHeartbeats 4000000 in
theorem pk_good_1_c (S : Hp) (w : World) (hS : S.sub w) (x0 : Int) (res : Bool) (hm : pk_good_1_m x0 = some res) : Calls Try.prog 47 #[.int .i64 x0] w (PostC w (.bool res)) := by
  refine calls_enter 5 Try.func47 Try.ntmps47 rfl S true [(0, .int .i64 x0)] [] rfl ⟨rfl, trivial⟩ hS trivial ?_
  unfold pk_good_1_m at hm
  refine GL.seq ?_
  refine GL.region ?_
  refine RL.asg rfl rfl rfl ?_
  refine RL.finG ?_
  refine GL.seq ?_
  refine GL.region ?_
  refine RL.mv rfl rfl rfl ?_
  refine RL.binI (v := .bool (x0 != (0 : Int))) rfl rfl rfl rfl rfl ?_
  refine RL.asg rfl rfl rfl ?_
  refine RL.finG ?_
  have hm := Option.some.inj hm
  subst hm
  exact GL.ret (Gx.ret (v := .bool (x0 != (0 : Int))) (res1 rfl rfl) (fun a w st => st.toPostC rfl))

set_option maxHeartbeats 4000000 in
theorem pk_good_c (S : Hp) (w : World) (hS : S.sub w) (v0 : Value) (x0 : (List Int)) (k0 : ((TR.sl TR.int)).vrep S v0 x0) (res : Bool) (hm : pk_good_m x0 = some res) : Calls Try.prog 26 #[v0] w (PostV w (.bool res)) := by
  refine calls_enter 6 Try.func26 Try.ntmps26 rfl S false [(0, v0)] [imm (TR.sl TR.int) v0 x0] rfl ⟨rfl, trivial⟩ hS ⟨k0, trivial⟩ ?_
  unfold pk_good_m at hm
  refine GL.seq ?_
  refine GL.region ?_
  refine RL.asg rfl rfl rfl ?_
  refine RL.finG ?_
  refine GL.seq ?_
  refine GL.region ?_
  refine RL.mv rfl rfl rfl ?_
  obtain ⟨y4, e5, hm⟩ := bind_some hm
  refine RL.callV (v := .bool y4) (vs := [v0, .func (.func 47) #[] #[]]) Try_fit46 rfl (Or.inl rfl) rfl rfl rfl rfl (fun U w hU hW hL => slices_ContainsFunc_api_Errno_api_Errno_c U w hU _ _ (hL 0 _ _ rfl Seen.imm) 47 #[] Try_fit47 (fun a0 => pk_good_1_m a0) (fun U' w' hle hU' a0 rr hr => (pk_good_1_c U' w' hU' a0 rr hr).mono (fun _ _ z => z.toV)) _ e5) ?_
  refine RL.notB rfl rfl rfl ?_
  refine RL.asg rfl rfl rfl ?_
  refine RL.finG ?_
  have hm := Option.some.inj hm
  subst hm
  exact GL.ret (Gx.ret (v := .bool (!y4)) (res1 rfl rfl) (fun a w st => st.toPostV))

set_option maxHeartbeats 4000000 in
theorem pk_RoadsRest_c (S : Hp) (w : World) (hS : S.sub w) (v0 : Value) (x0 : (List (List Int))) (k0 : ((TR.sl (TR.rec1 (TR.sl TR.int)))).vrep S v0 x0) (v1 : Value) (x1 : (List Int)) (k1 : ((TR.sl TR.int)).vrep S v1 x1) (res : Bool) (hm : pk_RoadsRest_m x0 x1 = some res) : Calls Try.prog 5 #[v0, v1] w (PostV w (.bool res)) := by
  refine calls_enter 102 Try.func5 Try.ntmps5 rfl S false [(0, v0), (1, v1)] [imm (TR.sl (TR.rec1 (TR.sl TR.int))) v0 x0, imm (TR.sl TR.int) v1 x1] rfl ⟨rfl, ⟨rfl, trivial⟩⟩ hS ⟨k0, ⟨k1, trivial⟩⟩ ?_
  unfold pk_RoadsRest_m at hm
  refine GL.seq ?_
  refine GL.region ?_
  refine RL.asg rfl rfl rfl ?_
  refine RL.finG ?_
  refine GL.seq ?_
  refine GL.seq ?_
  refine GL.region ?_
  obtain ⟨y5, e6, hm⟩ := bind_some hm
  refine RL.callV (v := .bool y5) (vs := []) Try_fit22 rfl (Or.inl rfl) rfl rfl rfl rfl (fun U w hU hW hL => pk_crowds_c U w hU  _ e6) ?_
  refine RL.notB rfl rfl rfl ?_
  refine RL.finG ?_
  refine GL.cond rfl (fun b7 => ?_) (fun b7 => ?_)
  · replace hm := ite_t b7 hm
    refine GL.seq ?_
    refine GL.region ?_
    refine RL.asg rfl rfl rfl ?_
    refine RL.finG ?_
    have hm := Option.some.inj hm
    subst hm
    exact GL.ret (Gx.ret (v := .bool false) (res1 rfl rfl) (fun a w st => st.toPostV))
  · replace hm := ite_f b7 hm
    refine GL.skip ?_
    refine GL.seq ?_
    refine GL.region ?_
    refine RL.mv rfl rfl rfl ?_
    refine RL.mv rfl rfl rfl ?_
    obtain ⟨y11, e12, hm⟩ := bind_some hm
    refine RL.call (vs := [v0, v1]) Try_fit23 rfl rfl rfl rfl rfl (fun S f w hS hW hi => roads_Settle_c S w hS _ _ (hi 0 _ rfl) _ _ (hi 1 _ rfl) _ e12) ?_
    intro v13
    refine RL.mv rfl rfl rfl ?_
    refine RL.ext rfl rfl rfl rfl ?_
    refine RL.ext rfl rfl rfl rfl ?_
    refine RL.ext rfl rfl rfl rfl ?_
    refine RL.asg rfl rfl rfl ?_
    refine RL.asg rfl rfl rfl ?_
    refine RL.asg rfl rfl rfl ?_
    refine RL.finG ?_
    refine GL.seq ?_
    refine GL.seq ?_
    obtain ⟨y17, K18, h19, h20, h21, h22, h23⟩ := bindR_K hm
    refine GL.join (ι := Bool) (fun (p : Bool) => [(0, v0), (1, v1), (5, v13), (6, .int .i64 y11.2.1), (7, .int .i64 y11.2.2), (32, .bool p)]) (fun (p : Bool) => [imm (TR.sl (TR.rec1 (TR.sl TR.int))) v0 x0, imm (TR.sl TR.int) v1 x1, own 3 TR.int v13 y11.1]) (fun (p : Bool) => K18 (.nx p)) ?_ ?_
    · skip
      refine GL.region ?_
      refine RL.mv rfl rfl rfl ?_
      refine RL.binI (v := .bool (y11.2.2 != (0 : Int))) rfl rfl rfl rfl rfl ?_
      refine RL.mv rfl rfl rfl ?_
      refine RL.split (t := 26) rfl (fun b24 => ?_) (fun b24 => ?_)
      · replace h19 := ite_t b24 h19
        refine RL.skip rfl rfl ?_
        refine RL.skip rfl rfl ?_
        refine RL.skip rfl rfl ?_
        refine RL.skip rfl rfl ?_
        refine RL.skip rfl rfl ?_
        refine RL.pickT rfl rfl rfl rfl ?_
        refine RL.fin ?_
        cases h19
        exact fun a w st => mid_intro true h20 (St.cut [0, 1, 2] ⟨rfl, rfl, rfl, rfl, rfl, rfl, trivial⟩ (by decide) rfl st)
      · replace h19 := ite_f b24 h19
        refine RL.mv rfl rfl rfl ?_
        refine RL.lenS 2 Try.underlying24 rfl rfl rfl rfl SlOf.own ?_
        refine RL.mv rfl rfl rfl ?_
        refine RL.lenS 1 Try.underlying24 rfl rfl rfl rfl SlOf.imm ?_
        refine RL.binI (v := .bool (((y11.1).length : Int) != ((x1).length : Int))) rfl rfl rfl rfl rfl ?_
        refine RL.pickF rfl rfl rfl rfl ?_
        refine RL.fin ?_
        cases h19
        exact fun a w st => mid_intro (((y11.1).length : Int) != ((x1).length : Int)) h20 (St.cut [0, 1, 2] ⟨rfl, rfl, rfl, rfl, rfl, rfl, trivial⟩ (by decide) rfl st)
    · rintro x16 h25
      have h26 := h21 _ h25
      try dsimp only at h26
      refine GL.weak (env' := [(0, v0), (1, v1), (5, v13), (6, .int .i64 y11.2.1), (7, .int .i64 y11.2.2), (32, .bool x16)]) (L' := [imm (TR.sl (TR.rec1 (TR.sl TR.int))) v0 x0, imm (TR.sl TR.int) v1 x1, own 3 TR.int v13 y11.1]) (fun _ _ st => st) ?_
      refine GL.cond rfl (fun b27 => ?_) (fun b27 => ?_)
      · replace h26 := ite_t b27 h26
        refine GL.seq ?_
        obtain ⟨y33, K34, h35, h36, h37, h38, h39⟩ := bindR_K h26
        refine GL.join (ι := Bool) (fun (p : Bool) => [(4, .bool p)]) (fun (p : Bool) => []) (fun (p : Bool) => K34 (.nx p)) ?_ ?_
        · skip
          refine GL.region ?_
          refine RL.mv rfl rfl rfl ?_
          refine RL.binI (v := .bool (y11.2.2 != (0 : Int))) rfl rfl rfl rfl rfl ?_
          refine RL.mv rfl rfl rfl ?_
          refine RL.split (t := 35) rfl (fun b40 => ?_) (fun b40 => ?_)
          · replace h35 := ite_t b40 h35
            refine RL.mv rfl rfl rfl ?_
            refine RL.lenS 2 Try.underlying24 rfl rfl rfl rfl SlOf.own ?_
            refine RL.binI (v := .bool (((y11.1).length : Int) == (0 : Int))) rfl rfl rfl rfl rfl ?_
            refine RL.pickT rfl rfl rfl rfl ?_
            refine RL.mv rfl rfl rfl ?_
            refine RL.split (t := 40) rfl (fun b41 => ?_) (fun b41 => ?_)
            · replace h35 := ite_t b41 h35
              refine RL.mv rfl rfl rfl ?_
              refine RL.binI (v := .bool (y11.2.1 == (0 : Int))) rfl rfl rfl rfl rfl ?_
              refine RL.pickT rfl rfl rfl rfl ?_
              refine RL.asg rfl rfl rfl ?_
              refine RL.fin ?_
              cases h35
              exact fun a w st => mid_intro (y11.2.1 == (0 : Int)) h36 (St.cut [] ⟨rfl, trivial⟩ (by decide) rfl st)
            · replace h35 := ite_f b41 h35
              refine RL.skip rfl rfl ?_
              refine RL.skip rfl rfl ?_
              refine RL.pickF rfl rfl rfl rfl ?_
              refine RL.asg rfl rfl rfl ?_
              refine RL.fin ?_
              cases h35
              exact fun a w st => mid_intro false h36 (St.cut [] ⟨rfl, trivial⟩ (by decide) rfl st)
          · replace h35 := ite_f b40 h35
            refine RL.skip rfl rfl ?_
            refine RL.skip rfl rfl ?_
            refine RL.skip rfl rfl ?_
            refine RL.pickF rfl rfl rfl rfl ?_
            refine RL.mv rfl rfl rfl ?_
            refine RL.skip rfl rfl ?_
            refine RL.skip rfl rfl ?_
            refine RL.pickF rfl rfl rfl rfl ?_
            refine RL.asg rfl rfl rfl ?_
            refine RL.fin ?_
            cases h35
            exact fun a w st => mid_intro false h36 (St.cut [] ⟨rfl, trivial⟩ (by decide) rfl st)
        · rintro x32 h42
          have h43 := h37 _ h42
          try dsimp only at h43
          refine GL.weak (env' := [(4, .bool x32)]) (L' := []) (fun _ _ st => st) ?_
          have h43 := Option.some.inj h43
          subst h43
          exact GL.ret (Gx.ret (v := .bool x32) (res1 rfl rfl) (fun a w st => st.toPostV))
      · replace h26 := ite_f b27 h26
        refine GL.skip ?_
        refine GL.seq ?_
        refine GL.region ?_
        refine RL.mv rfl rfl rfl ?_
        refine RL.mv rfl rfl rfl ?_
        obtain ⟨y46, e47, h26⟩ := bind_some h26
        refine RL.callV (v := .tuple #[.int .i64 y46.1, .int .i64 y46.2]) (vs := [v0, v1]) Try_fit24 rfl (Or.inl rfl) rfl rfl rfl rfl (fun U w hU hW hL => roads_Height_c U w hU _ _ (hL 0 _ _ rfl Seen.imm) _ _ (hL 1 _ _ rfl Seen.imm) _ e47) ?_
        refine RL.mv rfl rfl rfl ?_
        refine RL.ext rfl rfl rfl rfl ?_
        refine RL.ext rfl rfl rfl rfl ?_
        refine RL.asg rfl rfl rfl ?_
        refine RL.asg rfl rfl rfl ?_
        refine RL.finG ?_
        refine GL.seq ?_
        refine GL.region ?_
        refine RL.mv rfl rfl rfl ?_
        refine RL.mv rfl rfl rfl ?_
        obtain ⟨y50, e51, h26⟩ := bind_some h26
        refine RL.callV (v := .tuple #[.int .i64 y50.1, .int .i64 y50.2]) (vs := [v0, v13]) Try_fit24 rfl (Or.inl rfl) rfl rfl rfl rfl (fun U w hU hW hL => roads_Height_c U w hU _ _ (hL 0 _ _ rfl Seen.imm) _ _ (hL 2 _ _ rfl Seen.own) _ e51) ?_
        refine RL.mv rfl rfl rfl ?_
        refine RL.ext rfl rfl rfl rfl ?_
        refine RL.ext rfl rfl rfl rfl ?_
        refine RL.asg rfl rfl rfl ?_
        refine RL.asg rfl rfl rfl ?_
        refine RL.finG ?_
        refine GL.seq ?_
        refine GL.seq ?_
        refine GL.region ?_
        refine RL.mv rfl rfl rfl ?_
        refine RL.lenS 2 Try.underlying24 rfl rfl rfl rfl SlOf.own ?_
        refine RL.mv rfl rfl rfl ?_
        refine RL.finG ?_
        refine GL.lenOwn 2 rfl (fun n76 => ?_)
        obtain ⟨y77, K78, h79, h80, h81, h82, h83⟩ := bindR_K h26
        refine GL.join (ι := Unit) (fun (p : Unit) => [(1, v1), (5, v13), (6, .int .i64 y11.2.1), (8, .int .i64 y46.1), (9, .int .i64 y46.2), (10, .int .i64 y50.1), (11, .int .i64 y50.2)]) (fun (p : Unit) => [imm (TR.sl TR.int) v1 x1, own 3 TR.int v13 y11.1]) (fun (p : Unit) => K78 (.nx ())) ?_ ?_
        · refine GL.block ?_
          refine GL.loop (ι := Nat × Nat) (fun (p : Nat × Nat) => [(0, v0), (1, v1), (5, v13), (6, .int .i64 y11.2.1), (8, .int .i64 y46.1), (9, .int .i64 y46.2), (10, .int .i64 y50.1), (11, .int .i64 y50.2), (57, .int .i64 ((y11.1).length : Int)), (58, .int .i64 (p.1 : Int))]) (fun (p : Nat × Nat) => [imm (TR.sl (TR.rec1 (TR.sl TR.int))) v0 x0, imm (TR.sl TR.int) v1 x1, own 3 TR.int v13 y11.1]) (fun (p : Nat × Nat) => p.1 + p.2 = (y11.1).length ∧ rangeN (pk_RoadsRest_b1 x0 y11) p.2 p.1 () = some y77) (fun (p : Nat × Nat) => p.2) (0, (y11.1).length) ⟨by simp, h79⟩ (fun a w st => St.cut [0, 1, 2] ⟨rfl, rfl, rfl, rfl, rfl, rfl, rfl, rfl, rfl, rfl, trivial⟩ (by decide) rfl st) ?_
          rintro ⟨i84, r85⟩ ⟨h90, h89⟩
          try dsimp only at h90 h89
          refine GL.weak (env' := [(0, v0), (1, v1), (5, v13), (6, .int .i64 y11.2.1), (8, .int .i64 y46.1), (9, .int .i64 y46.2), (10, .int .i64 y50.1), (11, .int .i64 y50.2), (57, .int .i64 ((y11.1).length : Int)), (58, .int .i64 (i84 : Int))]) (L' := [imm (TR.sl (TR.rec1 (TR.sl TR.int))) v0 x0, imm (TR.sl TR.int) v1 x1, own 3 TR.int v13 y11.1]) (fun _ _ st => st) ?_
          refine GL.seq ?_
          refine GL.region ?_
          refine RL.binI (v := .bool (decide ((i84 : Int) < ((y11.1).length : Int)))) rfl rfl rfl rfl rfl ?_
          refine RL.finG ?_
          refine GL.seq ?_
          refine GL.cond rfl (fun b92 => ?_) (fun b92 => ?_)
          · have h93 : i84 < (y11.1).length := by have := of_decide_eq_true b92; omega
            obtain ⟨r94, hr⟩ : ∃ m, r85 = m + 1 := ⟨r85 - 1, by omega⟩
            subst hr
            obtain ⟨z86, h87, h88⟩ := rangeN_some h89
            unfold pk_RoadsRest_b1 at h87
            try dsimp only at h87
            refine GL.skip ?_
            refine GL.seq ?_
            refine GL.block ?_
            refine GL.seq ?_
            refine GL.region ?_
            refine RL.mv rfl rfl rfl ?_
            refine RL.asg rfl rfl rfl ?_
            refine RL.finG ?_
            refine GL.seq ?_
            refine GL.region ?_
            refine RL.mv rfl rfl rfl ?_
            refine RL.mv rfl rfl rfl ?_
            refine RL.mv rfl rfl rfl ?_
            obtain ⟨y97, e98, h87⟩ := bind_some h87
            refine RL.callV (v := .tuple #[.int .i64 y97.1, .int .i64 y97.2]) (vs := [v0, v13, .int .i64 (i84 : Int)]) Try_fit25 rfl (Or.inl rfl) rfl rfl rfl rfl (fun U w hU hW hL => roads_Better_c U w hU _ _ (hL 0 _ _ rfl Seen.imm) _ _ (hL 2 _ _ rfl Seen.own) (i84 : Int) _ e98) ?_
            refine RL.mv rfl rfl rfl ?_
            refine RL.ext rfl rfl rfl rfl ?_
            refine RL.ext rfl rfl rfl rfl ?_
            refine RL.asg rfl rfl rfl ?_
            refine RL.asg rfl rfl rfl ?_
            refine RL.finG ?_
            refine GL.seq ?_
            obtain ⟨y106, K107, h108, h109, h110, h111, h112⟩ := bindF_K h87
            refine GL.join (ι := Bool) (fun (p : Bool) => [(0, v0), (1, v1), (5, v13), (6, .int .i64 y11.2.1), (8, .int .i64 y46.1), (9, .int .i64 y46.2), (10, .int .i64 y50.1), (11, .int .i64 y50.2), (57, .int .i64 ((y11.1).length : Int)), (58, .int .i64 (i84 : Int)), (77, .bool p)]) (fun (p : Bool) => [imm (TR.sl (TR.rec1 (TR.sl TR.int))) v0 x0, imm (TR.sl TR.int) v1 x1, own 3 TR.int v13 y11.1]) (fun (p : Bool) => K107 (.nx p)) ?_ ?_
            · skip
              refine GL.region ?_
              refine RL.mv rfl rfl rfl ?_
              refine RL.binI (v := .bool (y97.2 != (0 : Int))) rfl rfl rfl rfl rfl ?_
              refine RL.mv rfl rfl rfl ?_
              refine RL.split (t := 70) rfl (fun b113 => ?_) (fun b113 => ?_)
              · replace h108 := ite_t b113 h108
                refine RL.skip rfl rfl ?_
                refine RL.skip rfl rfl ?_
                refine RL.skip rfl rfl ?_
                refine RL.skip rfl rfl ?_
                refine RL.skip rfl rfl ?_
                refine RL.skip rfl rfl ?_
                refine RL.pickT rfl rfl rfl rfl ?_
                refine RL.fin ?_
                cases h108
                exact fun a w st => mid_intro true h109 (St.cut [0, 1, 2] ⟨rfl, rfl, rfl, rfl, rfl, rfl, rfl, rfl, rfl, rfl, rfl, trivial⟩ (by decide) rfl st)
              · replace h108 := ite_f b113 h108
                refine RL.mv rfl rfl rfl ?_
                refine RL.mv rfl rfl rfl ?_
                refine RL.mv rfl rfl rfl ?_
                obtain ⟨y114, e115, h108⟩ := bind_some h108
                refine RL.idxS (sz := 1) 2 Try.underlying24 Try_ln3 rfl rfl rfl rfl rfl SlOf.own (idx_some e115).1 (idx_some e115).2.1 ?_
                refine RL.ldSx (i := i84) (e' := y114) 2 Ex.ik Try_ln3 rfl rfl rfl rfl SlOf.own (idx_some e115).2.2 Part.self ?_
                refine RL.binI (v := .bool (y97.1 != y114)) rfl rfl rfl rfl rfl ?_
                refine RL.pickF rfl rfl rfl rfl ?_
                refine RL.fin ?_
                cases h108
                exact fun a w st => mid_intro (y97.1 != y114) h109 (St.cut [0, 1, 2] ⟨rfl, rfl, rfl, rfl, rfl, rfl, rfl, rfl, rfl, rfl, rfl, trivial⟩ (by decide) rfl st)
            · rintro x105 h116
              have h117 := h110 _ h116
              try dsimp only at h117
              refine GL.weak (env' := [(0, v0), (1, v1), (5, v13), (6, .int .i64 y11.2.1), (8, .int .i64 y46.1), (9, .int .i64 y46.2), (10, .int .i64 y50.1), (11, .int .i64 y50.2), (57, .int .i64 ((y11.1).length : Int)), (58, .int .i64 (i84 : Int)), (77, .bool x105)]) (L' := [imm (TR.sl (TR.rec1 (TR.sl TR.int))) v0 x0, imm (TR.sl TR.int) v1 x1, own 3 TR.int v13 y11.1]) (fun _ _ st => st) ?_
              refine GL.cond rfl (fun b118 => ?_) (fun b118 => ?_)
              · replace h117 := ite_t b118 h117
                refine GL.seq ?_
                refine GL.region ?_
                refine RL.asg rfl rfl rfl ?_
                refine RL.finG ?_
                cases h117
                replace h88 : some (Fl.rt _) = some y77 := h88
                cases h88
                have hh := h82 _ h80
                subst hh
                exact GL.ret (Gx.ret (v := .bool false) (res1 rfl rfl) (fun a w st => st.toPostV))
              · replace h117 := ite_f b118 h117
                refine GL.skip ?_
                refine GL.nilB ?_
                refine GL.region ?_
                refine RL.binI (v := .int .i64 ((i84 + 1 : Nat) : Int)) rfl rfl rfl rfl (binI_succ i84 (by omega)) ?_
                refine RL.mv rfl rfl rfl ?_
                refine RL.fin ?_
                cases h117
                exact fun a w st => lop_intro (i84 + 1, r94) ⟨by show i84 + 1 + r94 = (y11.1).length; omega, h88⟩ (by simp) (St.cut [0, 1, 2] ⟨rfl, rfl, rfl, rfl, rfl, rfl, rfl, rfl, rfl, rfl, trivial⟩ (by decide) rfl st)
          · have h93 : ¬ i84 < (y11.1).length := by have := of_decide_eq_false b92; omega
            obtain rfl : r85 = 0 := by omega
            replace h89 : some (Fl.nx _) = some y77 := h89
            cases h89
            exact GL.exit (fun a w st => mid_intro () h80 (St.cut [1, 2] ⟨rfl, rfl, rfl, rfl, rfl, rfl, rfl, trivial⟩ (by decide) rfl st))
        · rintro ⟨⟩ h119
          have h120 := h81 _ h119
          try dsimp only at h120
          refine GL.weak (env' := [(1, v1), (5, v13), (6, .int .i64 y11.2.1), (8, .int .i64 y46.1), (9, .int .i64 y46.2), (10, .int .i64 y50.1), (11, .int .i64 y50.2)]) (L' := [imm (TR.sl TR.int) v1 x1, own 3 TR.int v13 y11.1]) (fun _ _ st => st) ?_
          refine GL.seq ?_
          obtain ⟨y138, K139, h140, h141, h142, h143, h144⟩ := bindR_K h120
          refine GL.join (ι := Bool) (fun (p : Bool) => [(4, .bool p)]) (fun (p : Bool) => []) (fun (p : Bool) => K139 (.nx p)) ?_ ?_
          · skip
            refine GL.region ?_
            refine RL.mv rfl rfl rfl ?_
            refine RL.mv rfl rfl rfl ?_
            refine RL.bS (t := TR.int) (vs := [.int .i64 y46.2, .int .i64 y50.2]) ([y46.2, y50.2] : (List Int)) Try.underlying77 Try_lo26 rfl rfl rfl rfl ⟨VR.int, ⟨VR.int, trivial⟩⟩ rfl (by decide) ?_
            intro v145
            obtain ⟨y146, e147, h140⟩ := bind_some h140
            refine RL.callV (v := .bool y146) (vs := [v145]) Try_fit26 rfl (Or.inl rfl) rfl rfl rfl rfl (fun U w hU hW hL => pk_good_c U w hU _ _ (hL 2 _ _ rfl Seen.own) _ e147) ?_
            refine RL.mv rfl rfl rfl ?_
            refine RL.split (t := 83) rfl (fun b148 => ?_) (fun b148 => ?_)
            · replace h140 := ite_t b148 h140
              refine RL.mv rfl rfl rfl ?_
              refine RL.binI (v := .bool (decide (y11.2.1 ≥ (0 : Int)))) rfl rfl rfl rfl rfl ?_
              refine RL.pickT rfl rfl rfl rfl ?_
              refine RL.mv rfl rfl rfl ?_
              refine RL.split (t := 87) rfl (fun b149 => ?_) (fun b149 => ?_)
              · replace h140 := ite_t b149 h140
                refine RL.mv rfl rfl rfl ?_
                refine RL.mv rfl rfl rfl ?_
                refine RL.binI (v := .int .i64 (wsub y46.1 y50.1)) rfl rfl rfl rfl rfl ?_
                refine RL.mv rfl rfl rfl ?_
                refine RL.binI (v := .bool (decide ((wsub y46.1 y50.1) ≥ y11.2.1))) rfl rfl rfl rfl rfl ?_
                refine RL.pickT rfl rfl rfl rfl ?_
                refine RL.mv rfl rfl rfl ?_
                refine RL.split (t := 94) rfl (fun b150 => ?_) (fun b150 => ?_)
                · replace h140 := ite_t b150 h140
                  refine RL.mv rfl rfl rfl ?_
                  refine RL.binI (v := .bool (y11.2.1 == (0 : Int))) rfl rfl rfl rfl rfl ?_
                  refine RL.mv rfl rfl rfl ?_
                  refine RL.mv rfl rfl rfl ?_
                  obtain ⟨y151, e152, h140⟩ := bind_some h140
                  refine RL.callV (v := .bool y151) (vs := [v13, v1]) Try_fit19 rfl (Or.inl rfl) rfl rfl rfl rfl (fun U w hU hW hL => slices_Equal_int_int_c U w hU _ _ (hL 1 _ _ rfl Seen.own) _ _ (hL 0 _ _ rfl Seen.imm) _ e152) ?_
                  refine RL.eqB Try.underlying4 rfl rfl rfl rfl ?_
                  refine RL.pickT rfl rfl rfl rfl ?_
                  refine RL.asg rfl rfl rfl ?_
                  refine RL.fin ?_
                  cases h140
                  exact fun a w st => mid_intro ((y11.2.1 == (0 : Int)) == y151) h141 (St.cut [] ⟨rfl, trivial⟩ (by decide) rfl st)
                · replace h140 := ite_f b150 h140
                  refine RL.skip rfl rfl ?_
                  refine RL.skip rfl rfl ?_
                  refine RL.skip rfl rfl ?_
                  refine RL.skip rfl rfl ?_
                  refine RL.skip rfl rfl ?_
                  refine RL.skip rfl rfl ?_
                  refine RL.pickF rfl rfl rfl rfl ?_
                  refine RL.asg rfl rfl rfl ?_
                  refine RL.fin ?_
                  cases h140
                  exact fun a w st => mid_intro false h141 (St.cut [] ⟨rfl, trivial⟩ (by decide) rfl st)
              · replace h140 := ite_f b149 h140
                refine RL.skip rfl rfl ?_
                refine RL.skip rfl rfl ?_
                refine RL.skip rfl rfl ?_
                refine RL.skip rfl rfl ?_
                refine RL.skip rfl rfl ?_
                refine RL.pickF rfl rfl rfl rfl ?_
                refine RL.mv rfl rfl rfl ?_
                refine RL.skip rfl rfl ?_
                refine RL.skip rfl rfl ?_
                refine RL.skip rfl rfl ?_
                refine RL.skip rfl rfl ?_
                refine RL.skip rfl rfl ?_
                refine RL.skip rfl rfl ?_
                refine RL.pickF rfl rfl rfl rfl ?_
                refine RL.asg rfl rfl rfl ?_
                refine RL.fin ?_
                cases h140
                exact fun a w st => mid_intro false h141 (St.cut [] ⟨rfl, trivial⟩ (by decide) rfl st)
            · replace h140 := ite_f b148 h140
              refine RL.skip rfl rfl ?_
              refine RL.skip rfl rfl ?_
              refine RL.pickF rfl rfl rfl rfl ?_
              refine RL.mv rfl rfl rfl ?_
              refine RL.skip rfl rfl ?_
              refine RL.skip rfl rfl ?_
              refine RL.skip rfl rfl ?_
              refine RL.skip rfl rfl ?_
              refine RL.skip rfl rfl ?_
              refine RL.pickF rfl rfl rfl rfl ?_
              refine RL.mv rfl rfl rfl ?_
              refine RL.skip rfl rfl ?_
              refine RL.skip rfl rfl ?_
              refine RL.skip rfl rfl ?_
              refine RL.skip rfl rfl ?_
              refine RL.skip rfl rfl ?_
              refine RL.skip rfl rfl ?_
              refine RL.pickF rfl rfl rfl rfl ?_
              refine RL.asg rfl rfl rfl ?_
              refine RL.fin ?_
              cases h140
              exact fun a w st => mid_intro false h141 (St.cut [] ⟨rfl, trivial⟩ (by decide) rfl st)
          · rintro x137 h153
            have h154 := h142 _ h153
            try dsimp only at h154
            refine GL.weak (env' := [(4, .bool x137)]) (L' := []) (fun _ _ st => st) ?_
            have h154 := Option.some.inj h154
            subst h154
            exact GL.ret (Gx.ret (v := .bool x137) (res1 rfl rfl) (fun a w st => st.toPostV))
end Go.Wk
