/- Each function comes to what its model says; printed by a program of this repository. -/
import Derived.Test.YtocimbokgngofaaProg
import Derived.Test.YtocimbokgngofaaWSaddleTurnedModels
namespace Go.Wk
open Go.Fw Go.Mo Go.Proofs Go.RowKit
set_option linter.all false
set_option maxRecDepth 100000
theorem loopNx {ρ σ β γ : Type} {body : σ → Option (Fl ρ β σ)} {n : Nat} {s : σ} {y : Fl ρ γ β} (h : stepM body n (.nx s) = some y) : loopM body n s = some y := h
theorem Try_info3 : (Try.prog.info? 3).map (fun i => (i.zero, i.size, i.bytes)) = some (some (.int .i64 0), 1, 8) := by kernel_rfl
theorem Try_ln3 : Ln Try.prog 3 1 false := Ln.of Try_info3 Try.underlying3 rfl
theorem Try_lo3 : LnO Try.prog 3 1 [.int .i64 0] := LnO.of Try_info3 rfl rfl (by decide) (by decide)
theorem Try_info27 : (Try.prog.info? 27).map (fun i => (i.zero, i.size, i.bytes)) = some (some (.int .i64 0), 1, 8) := by kernel_rfl
theorem Try_ln27 : Ln Try.prog 27 1 false := Ln.of Try_info27 Try.underlying27 rfl
theorem Try_lo27 : LnO Try.prog 27 1 [.int .i64 0] := LnO.of Try_info27 rfl rfl (by decide) (by decide)
theorem Try_info32 : (Try.prog.info? 32).map (fun i => (i.zero, i.size, i.bytes)) = some (some (.slice none 0 0), 1, 24) := by kernel_rfl
theorem Try_ln32 : Ln Try.prog 32 1 false := Ln.of Try_info32 Try.underlying32 rfl
theorem Try_lo32 : LnO Try.prog 32 1 [.slice none 0 0] := LnO.of Try_info32 rfl rfl (by decide) (by decide)
theorem Try_info34 : (Try.prog.info? 34).map (fun i => (i.zero, i.size, i.bytes)) = some (some (.agg #[.int .i64 0, .int .i64 0]), 2, 16) := by kernel_rfl
theorem Try_ln34 : Ln Try.prog 34 2 true := Ln.of Try_info34 Try.underlying34 rfl
theorem Try_lo34 : LnO Try.prog 34 2 [.int .i64 0, .int .i64 0] := LnO.of Try_info34 rfl rfl (by decide) (by decide)
theorem Try_bld34 (pv : List (Nat × Value)) : Try.prog.built 34 pv = Instr.fill (fun i => some (i * 1, 1)) (List.flatten [[.int .i64 0], [.int .i64 0]]).toArray pv := by kernel_rfl
theorem Try_eq34 : EqT Try.prog 34 (TR.arr 2 TR.int) 2 := (EqT.arr Try.underlying34 Try_ln3 (EqT.int Try.underlying3) (by kernel_rfl))
theorem Try_fit19 : Fit Try.prog 19 := Fit.of Try.func19 (by kernel_rfl) rfl
theorem Try_fit20 : Fit Try.prog 20 := Fit.of Try.func20 (by kernel_rfl) rfl
theorem Try_fit21 : Fit Try.prog 21 := Fit.of Try.func21 (by kernel_rfl) rfl
theorem Try_fit22 : Fit Try.prog 22 := Fit.of Try.func22 (by kernel_rfl) rfl
theorem Try_fit25 : Fit Try.prog 25 := Fit.of Try.func25 (by kernel_rfl) rfl
theorem Try_fit26 : Fit Try.prog 26 := Fit.of Try.func26 (by kernel_rfl) rfl
theorem Try_fit27 : Fit Try.prog 27 := Fit.of Try.func27 (by kernel_rfl) rfl
theorem Try_fit28 : Fit Try.prog 28 := Fit.of Try.func28 (by kernel_rfl) rfl
theorem Try_fit34 : Fit Try.prog 34 := Fit.of Try.func34 (by kernel_rfl) rfl
theorem Try_fit35 : Fit Try.prog 35 := Fit.of Try.func35 (by kernel_rfl) rfl
theorem Try_fit40 : Fit Try.prog 40 := Fit.of Try.func40 (by kernel_rfl) rfl
theorem Try_fit41 : Fit Try.prog 41 := Fit.of Try.func41 (by kernel_rfl) rfl
theorem Try_fit42 : Fit Try.prog 42 := Fit.of Try.func42 (by kernel_rfl) rfl
theorem Try_fit48 : Fit Try.prog 48 := Fit.of Try.func48 (by kernel_rfl) rfl

set_option maxHeartbeats 4000000 in
theorem saddle_Check_c (S : Hp) (w : World) (hS : S.sub w) (v0 : Value) (x0 : (List (List Int))) (k0 : ((TR.sl (TR.sl TR.int))).vrep S v0 x0) (res : Int) (hm : saddle_Check_m x0 = some res) : Calls Try.prog 35 #[v0] w (PostC w (.int .i64 res)) := by
  refine calls_enter 50 Try.func35 Try.ntmps35 rfl S true [(0, v0)] [imm (TR.sl (TR.sl TR.int)) v0 x0] rfl ⟨rfl, trivial⟩ hS ⟨k0, trivial⟩ ?_
  unfold saddle_Check_m at hm
  refine GL.seq ?_
  refine GL.region ?_
  refine RL.asg rfl rfl rfl ?_
  refine RL.finG ?_
  refine GL.seq ?_
  refine GL.seq ?_
  obtain ⟨y5, K6, h7, h8, h9, h10, h11⟩ := bindR_K hm
  refine GL.join (ι := Bool) (fun (p : Bool) => [(0, v0), (14, .bool p)]) (fun (p : Bool) => [imm (TR.sl (TR.sl TR.int)) v0 x0]) (fun (p : Bool) => K6 (.nx p)) ?_ ?_
  · skip
    refine GL.region ?_
    refine RL.mv rfl rfl rfl ?_
    refine RL.lenS 0 Try.underlying22 rfl rfl rfl rfl SlOf.imm ?_
    refine RL.binI (v := .bool (decide (((x0).length : Int) < (1 : Int)))) rfl rfl rfl rfl rfl ?_
    refine RL.mv rfl rfl rfl ?_
    refine RL.split (t := 10) rfl (fun b12 => ?_) (fun b12 => ?_)
    · replace h7 := ite_t b12 h7
      refine RL.skip rfl rfl ?_
      refine RL.skip rfl rfl ?_
      refine RL.skip rfl rfl ?_
      refine RL.pickT rfl rfl rfl rfl ?_
      refine RL.fin ?_
      cases h7
      exact fun a w st => mid_intro true h8 (St.cut [0] ⟨rfl, rfl, trivial⟩ (by decide) rfl st)
    · replace h7 := ite_f b12 h7
      refine RL.mv rfl rfl rfl ?_
      refine RL.lenS 0 Try.underlying22 rfl rfl rfl rfl SlOf.imm ?_
      refine RL.binI (v := .bool (decide (((x0).length : Int) > (6 : Int)))) rfl rfl rfl rfl rfl ?_
      refine RL.pickF rfl rfl rfl rfl ?_
      refine RL.fin ?_
      cases h7
      exact fun a w st => mid_intro (decide (((x0).length : Int) > (6 : Int))) h8 (St.cut [0] ⟨rfl, rfl, trivial⟩ (by decide) rfl st)
  · rintro x4 h13
    have h14 := h9 _ h13
    try dsimp only at h14
    refine GL.weak (env' := [(0, v0), (14, .bool x4)]) (L' := [imm (TR.sl (TR.sl TR.int)) v0 x0]) (fun _ _ st => st) ?_
    refine GL.cond rfl (fun b15 => ?_) (fun b15 => ?_)
    · replace h14 := ite_t b15 h14
      refine GL.seq ?_
      refine GL.region ?_
      refine RL.asg rfl rfl rfl ?_
      refine RL.finG ?_
      have h14 := Option.some.inj h14
      subst h14
      exact GL.ret (Gx.ret (v := .int .i64 (2 : Int)) (res1 rfl rfl) (fun a w st => st.toPostC rfl))
    · replace h14 := ite_f b15 h14
      refine GL.skip ?_
      refine GL.seq ?_
      refine GL.seq ?_
      refine GL.region ?_
      refine RL.mv rfl rfl rfl ?_
      refine RL.lenS 0 Try.underlying22 rfl rfl rfl rfl SlOf.imm ?_
      refine RL.mv rfl rfl rfl ?_
      refine RL.finG ?_
      refine GL.open_ 0 rfl (fun S h => len_imm S h) (fun n99 => ?_)
      obtain ⟨y100, K101, h102, h103, h104, h105, h106⟩ := bindR_K h14
      refine GL.join (ι := Unit) (fun (p : Unit) => []) (fun (p : Unit) => []) (fun (p : Unit) => K101 (.nx ())) ?_ ?_
      · refine GL.block ?_
        refine GL.loop (ι := Nat × (List (List Int))) (fun (p : Nat × (List (List Int))) => [(0, v0), (15, v0), (16, .int .i64 ((x0).length : Int)), (17, .int .i64 (p.1 : Int))]) (fun (p : Nat × (List (List Int))) => [imm (TR.sl (TR.sl TR.int)) v0 x0]) (fun (p : Nat × (List (List Int))) => p.1 + p.2.length = (x0).length ∧ List.drop p.1 x0 = p.2 ∧ rangeL (saddle_Check_b1 x0) p.2 p.1 () = some y100) (fun (p : Nat × (List (List Int))) => p.2.length) (0, x0) ⟨by simp, by simp, h102⟩ (fun a w st => St.cut [0] ⟨rfl, rfl, rfl, rfl, trivial⟩ (by decide) rfl st) ?_
        rintro ⟨i107, r108⟩ ⟨h113, h114, h112⟩
        try dsimp only at h113 h114 h112
        refine GL.weak (env' := [(0, v0), (15, v0), (16, .int .i64 ((x0).length : Int)), (17, .int .i64 (i107 : Int))]) (L' := [imm (TR.sl (TR.sl TR.int)) v0 x0]) (fun _ _ st => st) ?_
        refine GL.seq ?_
        refine GL.region ?_
        refine RL.binI (v := .bool (decide ((i107 : Int) < ((x0).length : Int)))) rfl rfl rfl rfl rfl ?_
        refine RL.finG ?_
        refine GL.seq ?_
        refine GL.cond rfl (fun b115 => ?_) (fun b115 => ?_)
        · have h116 : i107 < (x0).length := by have := of_decide_eq_true b115; omega
          obtain ⟨y117, r119, hr, e118, h120⟩ := drop_cons h114 rfl h116
          subst hr
          obtain ⟨z109, h110, h111⟩ := rangeL_some h112
          unfold saddle_Check_b1 at h110
          try dsimp only at h110
          refine GL.skip ?_
          refine GL.seq ?_
          refine GL.block ?_
          refine GL.seq ?_
          refine GL.region ?_
          refine RL.idxS (sz := 1) 0 Try.underlying22 Try_ln32 rfl rfl rfl rfl rfl SlOf.imm (by omega) (by omega) ?_
          refine RL.ldS (i := i107) (r := (TR.sl TR.int)) (e' := y117) 0 Try_ln32 rfl rfl rfl rfl SlOf.imm e118 Part.self ?_
          intro v122
          refine RL.asg rfl rfl rfl ?_
          refine RL.finG ?_
          refine GL.seq ?_
          refine GL.seq ?_
          refine GL.region ?_
          refine RL.mv rfl rfl rfl ?_
          refine RL.lenS 1 Try.underlying32 rfl rfl rfl rfl SlOf.imm ?_
          refine RL.mv rfl rfl rfl ?_
          obtain ⟨y126, e127, h110⟩ := bind_some h110
          refine RL.idxS (sz := 1) 0 Try.underlying22 Try_ln32 rfl rfl rfl rfl rfl SlOf.imm (idx_some e127).1 (idx_some e127).2.1 ?_
          refine RL.ldS (i := ((0 : Int)).toNat) (r := (TR.sl TR.int)) (e' := y126) 0 Try_ln32 rfl rfl rfl rfl SlOf.imm (idx_some e127).2.2 Part.self ?_
          intro v128
          refine RL.reL (L' := [imm (TR.sl (TR.sl TR.int)) v0 x0, imm (TR.sl TR.int) v122 y117, imm (TR.sl TR.int) v128 y126]) rfl ?_
          refine RL.lenS 2 Try.underlying32 rfl rfl rfl rfl SlOf.imm ?_
          refine RL.binI (v := .bool (((y117).length : Int) != ((y126).length : Int))) rfl rfl rfl rfl rfl ?_
          refine RL.finG ?_
          refine GL.cond rfl (fun b129 => ?_) (fun b129 => ?_)
          · replace h110 := ite_t b129 h110
            refine GL.seq ?_
            refine GL.region ?_
            refine RL.asg rfl rfl rfl ?_
            refine RL.finG ?_
            cases h110
            replace h111 : some (Fl.rt _) = some y100 := h111
            cases h111
            have hh := h105 _ h103
            subst hh
            exact GL.ret (Gx.ret (v := .int .i64 (3 : Int)) (res1 rfl rfl) (fun a w st => st.toPostC rfl))
          · replace h110 := ite_f b129 h110
            refine GL.skip ?_
            refine GL.seq ?_
            refine GL.seq ?_
            obtain ⟨y133, K134, h135, h136, h137, h138, h139⟩ := bindF_K h110
            refine GL.join (ι := Bool) (fun (p : Bool) => [(0, v0), (4, v122), (15, v0), (16, .int .i64 ((x0).length : Int)), (17, .int .i64 (i107 : Int)), (35, .bool p)]) (fun (p : Bool) => [imm (TR.sl (TR.sl TR.int)) v0 x0, imm (TR.sl TR.int) v122 y117]) (fun (p : Bool) => K134 (.nx p)) ?_ ?_
            · skip
              refine GL.region ?_
              refine RL.mv rfl rfl rfl ?_
              refine RL.lenS 1 Try.underlying32 rfl rfl rfl rfl SlOf.imm ?_
              refine RL.binI (v := .bool (decide (((y117).length : Int) < (1 : Int)))) rfl rfl rfl rfl rfl ?_
              refine RL.mv rfl rfl rfl ?_
              refine RL.split (t := 31) rfl (fun b140 => ?_) (fun b140 => ?_)
              · replace h135 := ite_t b140 h135
                refine RL.skip rfl rfl ?_
                refine RL.skip rfl rfl ?_
                refine RL.skip rfl rfl ?_
                refine RL.pickT rfl rfl rfl rfl ?_
                refine RL.fin ?_
                cases h135
                exact fun a w st => mid_intro true h136 (St.cut [0, 1] ⟨rfl, rfl, rfl, rfl, rfl, rfl, trivial⟩ (by decide) rfl st)
              · replace h135 := ite_f b140 h135
                refine RL.mv rfl rfl rfl ?_
                refine RL.lenS 1 Try.underlying32 rfl rfl rfl rfl SlOf.imm ?_
                refine RL.binI (v := .bool (decide (((y117).length : Int) > (6 : Int)))) rfl rfl rfl rfl rfl ?_
                refine RL.pickF rfl rfl rfl rfl ?_
                refine RL.fin ?_
                cases h135
                exact fun a w st => mid_intro (decide (((y117).length : Int) > (6 : Int))) h136 (St.cut [0, 1] ⟨rfl, rfl, rfl, rfl, rfl, rfl, trivial⟩ (by decide) rfl st)
            · rintro x132 h141
              have h142 := h137 _ h141
              try dsimp only at h142
              refine GL.weak (env' := [(0, v0), (4, v122), (15, v0), (16, .int .i64 ((x0).length : Int)), (17, .int .i64 (i107 : Int)), (35, .bool x132)]) (L' := [imm (TR.sl (TR.sl TR.int)) v0 x0, imm (TR.sl TR.int) v122 y117]) (fun _ _ st => st) ?_
              refine GL.cond rfl (fun b143 => ?_) (fun b143 => ?_)
              · replace h142 := ite_t b143 h142
                refine GL.seq ?_
                refine GL.region ?_
                refine RL.asg rfl rfl rfl ?_
                refine RL.finG ?_
                cases h142
                replace h111 : some (Fl.rt _) = some y100 := h111
                cases h111
                have hh := h105 _ h103
                subst hh
                exact GL.ret (Gx.ret (v := .int .i64 (2 : Int)) (res1 rfl rfl) (fun a w st => st.toPostC rfl))
              · replace h142 := ite_f b143 h142
                refine GL.skip ?_
                refine GL.seq ?_
                refine GL.region ?_
                refine RL.mv rfl rfl rfl ?_
                refine RL.lenS 1 Try.underlying32 rfl rfl rfl rfl SlOf.imm ?_
                refine RL.mv rfl rfl rfl ?_
                refine RL.finG ?_
                refine GL.open_ 1 rfl (fun S h => len_imm S h) (fun n162 => ?_)
                obtain ⟨y163, K164, h165, h166, h167, h168, h169⟩ := bindF_K h142
                refine GL.join (ι := Unit) (fun (p : Unit) => [(0, v0), (15, v0), (16, .int .i64 ((x0).length : Int)), (17, .int .i64 (i107 : Int))]) (fun (p : Unit) => [imm (TR.sl (TR.sl TR.int)) v0 x0]) (fun (p : Unit) => K164 (.nx ())) ?_ ?_
                · refine GL.block ?_
                  refine GL.loop (ι := Nat × (List Int)) (fun (p : Nat × (List Int)) => [(0, v0), (15, v0), (16, .int .i64 ((x0).length : Int)), (17, .int .i64 (i107 : Int)), (36, v122), (37, .int .i64 ((y117).length : Int)), (38, .int .i64 (p.1 : Int))]) (fun (p : Nat × (List Int)) => [imm (TR.sl (TR.sl TR.int)) v0 x0, imm (TR.sl TR.int) v122 y117]) (fun (p : Nat × (List Int)) => p.1 + p.2.length = (y117).length ∧ List.drop p.1 y117 = p.2 ∧ rangeL saddle_Check_b2 p.2 p.1 () = some y163) (fun (p : Nat × (List Int)) => p.2.length) (0, y117) ⟨by simp, by simp, h165⟩ (fun a w st => St.cut [0, 1] ⟨rfl, rfl, rfl, rfl, rfl, rfl, rfl, trivial⟩ (by decide) rfl st) ?_
                  rintro ⟨i170, r171⟩ ⟨h176, h177, h175⟩
                  try dsimp only at h176 h177 h175
                  refine GL.weak (env' := [(0, v0), (15, v0), (16, .int .i64 ((x0).length : Int)), (17, .int .i64 (i107 : Int)), (36, v122), (37, .int .i64 ((y117).length : Int)), (38, .int .i64 (i170 : Int))]) (L' := [imm (TR.sl (TR.sl TR.int)) v0 x0, imm (TR.sl TR.int) v122 y117]) (fun _ _ st => st) ?_
                  refine GL.seq ?_
                  refine GL.region ?_
                  refine RL.binI (v := .bool (decide ((i170 : Int) < ((y117).length : Int)))) rfl rfl rfl rfl rfl ?_
                  refine RL.finG ?_
                  refine GL.seq ?_
                  refine GL.cond rfl (fun b178 => ?_) (fun b178 => ?_)
                  · have h179 : i170 < (y117).length := by have := of_decide_eq_true b178; omega
                    obtain ⟨y180, r182, hr, e181, h183⟩ := drop_cons h177 rfl h179
                    subst hr
                    obtain ⟨z172, h173, h174⟩ := rangeL_some h175
                    unfold saddle_Check_b2 at h173
                    try dsimp only at h173
                    refine GL.skip ?_
                    refine GL.seq ?_
                    refine GL.block ?_
                    refine GL.seq ?_
                    refine GL.region ?_
                    refine RL.idxS (sz := 1) 1 Try.underlying32 Try_ln3 rfl rfl rfl rfl rfl SlOf.imm (by omega) (by omega) ?_
                    refine RL.ldSx (i := i170) (e' := y180) 1 Ex.ik Try_ln3 rfl rfl rfl rfl SlOf.imm e181 Part.self ?_
                    refine RL.asg rfl rfl rfl ?_
                    refine RL.finG ?_
                    refine GL.seq ?_
                    obtain ⟨y187, K188, h189, h190, h191, h192, h193⟩ := bindF_K h173
                    refine GL.join (ι := Bool) (fun (p : Bool) => [(0, v0), (15, v0), (16, .int .i64 ((x0).length : Int)), (17, .int .i64 (i107 : Int)), (36, v122), (37, .int .i64 ((y117).length : Int)), (38, .int .i64 (i170 : Int)), (47, .bool p)]) (fun (p : Bool) => [imm (TR.sl (TR.sl TR.int)) v0 x0, imm (TR.sl TR.int) v122 y117]) (fun (p : Bool) => K188 (.nx p)) ?_ ?_
                    · skip
                      refine GL.region ?_
                      refine RL.mv rfl rfl rfl ?_
                      refine RL.binI (v := .bool (decide (y180 < (-1000 : Int)))) rfl rfl rfl rfl rfl ?_
                      refine RL.mv rfl rfl rfl ?_
                      refine RL.split (t := 44) rfl (fun b194 => ?_) (fun b194 => ?_)
                      · replace h189 := ite_t b194 h189
                        refine RL.skip rfl rfl ?_
                        refine RL.skip rfl rfl ?_
                        refine RL.pickT rfl rfl rfl rfl ?_
                        refine RL.fin ?_
                        cases h189
                        exact fun a w st => mid_intro true h190 (St.cut [0, 1] ⟨rfl, rfl, rfl, rfl, rfl, rfl, rfl, rfl, trivial⟩ (by decide) rfl st)
                      · replace h189 := ite_f b194 h189
                        refine RL.mv rfl rfl rfl ?_
                        refine RL.binI (v := .bool (decide (y180 > (1000 : Int)))) rfl rfl rfl rfl rfl ?_
                        refine RL.pickF rfl rfl rfl rfl ?_
                        refine RL.fin ?_
                        cases h189
                        exact fun a w st => mid_intro (decide (y180 > (1000 : Int))) h190 (St.cut [0, 1] ⟨rfl, rfl, rfl, rfl, rfl, rfl, rfl, rfl, trivial⟩ (by decide) rfl st)
                    · rintro x186 h195
                      have h196 := h191 _ h195
                      try dsimp only at h196
                      refine GL.weak (env' := [(0, v0), (15, v0), (16, .int .i64 ((x0).length : Int)), (17, .int .i64 (i107 : Int)), (36, v122), (37, .int .i64 ((y117).length : Int)), (38, .int .i64 (i170 : Int)), (47, .bool x186)]) (L' := [imm (TR.sl (TR.sl TR.int)) v0 x0, imm (TR.sl TR.int) v122 y117]) (fun _ _ st => st) ?_
                      refine GL.cond rfl (fun b197 => ?_) (fun b197 => ?_)
                      · replace h196 := ite_t b197 h196
                        refine GL.seq ?_
                        refine GL.region ?_
                        refine RL.asg rfl rfl rfl ?_
                        refine RL.finG ?_
                        cases h196
                        replace h174 : some (Fl.rt _) = some y163 := h174
                        cases h174
                        have hh := h168 _ h166
                        subst hh
                        replace h111 : some (Fl.rt _) = some y100 := h111
                        cases h111
                        have hh := h105 _ h103
                        subst hh
                        exact GL.ret (Gx.ret (v := .int .i64 (1 : Int)) (res1 rfl rfl) (fun a w st => st.toPostC rfl))
                      · replace h196 := ite_f b197 h196
                        refine GL.skip ?_
                        refine GL.nilB ?_
                        refine GL.region ?_
                        refine RL.binI (v := .int .i64 ((i170 + 1 : Nat) : Int)) rfl rfl rfl rfl (binI_succ i170 (by omega)) ?_
                        refine RL.mv rfl rfl rfl ?_
                        refine RL.fin ?_
                        cases h196
                        exact fun a w st => lop_intro (i170 + 1, r182) ⟨by show i170 + 1 + r182.length = (y117).length; simp only [List.length_cons] at h176; omega, h183, h174⟩ (by simp) (St.cut [0, 1] ⟨rfl, rfl, rfl, rfl, rfl, rfl, rfl, trivial⟩ (by decide) rfl st)
                  · have h179 : ¬ i170 < (y117).length := by have := of_decide_eq_false b178; omega
                    obtain rfl : r171 = [] := by rw [← h177]; exact List.drop_of_length_le (by omega)
                    replace h175 : some (Fl.nx _) = some y163 := h175
                    cases h175
                    exact GL.exit (fun a w st => mid_intro () h166 (St.cut [0] ⟨rfl, rfl, rfl, rfl, trivial⟩ (by decide) rfl st))
                · rintro ⟨⟩ h198
                  have h199 := h167 _ h198
                  try dsimp only at h199
                  refine GL.weak (env' := [(0, v0), (15, v0), (16, .int .i64 ((x0).length : Int)), (17, .int .i64 (i107 : Int))]) (L' := [imm (TR.sl (TR.sl TR.int)) v0 x0]) (fun _ _ st => st) ?_
                  refine GL.nilB ?_
                  refine GL.region ?_
                  refine RL.binI (v := .int .i64 ((i107 + 1 : Nat) : Int)) rfl rfl rfl rfl (binI_succ i107 (by omega)) ?_
                  refine RL.mv rfl rfl rfl ?_
                  refine RL.fin ?_
                  cases h199
                  exact fun a w st => lop_intro (i107 + 1, r119) ⟨by show i107 + 1 + r119.length = (x0).length; simp only [List.length_cons] at h113; omega, h120, h111⟩ (by simp) (St.cut [0] ⟨rfl, rfl, rfl, rfl, trivial⟩ (by decide) rfl st)
        · have h116 : ¬ i107 < (x0).length := by have := of_decide_eq_false b115; omega
          obtain rfl : r108 = [] := by rw [← h114]; exact List.drop_of_length_le (by omega)
          replace h112 : some (Fl.nx _) = some y100 := h112
          cases h112
          exact GL.exit (fun a w st => mid_intro () h103 (St.cut [] trivial (by decide) rfl st))
      · rintro ⟨⟩ h200
        have h201 := h104 _ h200
        try dsimp only at h201
        refine GL.weak (env' := []) (L' := []) (fun _ _ st => st) ?_
        refine GL.seq ?_
        refine GL.region ?_
        refine RL.asg rfl rfl rfl ?_
        refine RL.finG ?_
        have h201 := Option.some.inj h201
        subst h201
        exact GL.ret (Gx.ret (v := .int .i64 (0 : Int)) (res1 rfl rfl) (fun a w st => st.toPostC rfl))

set_option maxHeartbeats 4000000 in
theorem saddle_Bounds_c (S : Hp) (w : World) (hS : S.sub w) (v0 : Value) (x0 : (List (List Int))) (k0 : ((TR.sl (TR.sl TR.int))).vrep S v0 x0) (res : Int × Int × Int) (hm : saddle_Bounds_m x0 = some res) : Calls Try.prog 20 #[v0] w (PostC w (.tuple #[.int .i64 res.1, .int .i64 res.2.1, .int .i64 res.2.2])) := by
  refine calls_enter 68 Try.func20 Try.ntmps20 rfl S true [(0, v0)] [imm (TR.sl (TR.sl TR.int)) v0 x0] rfl ⟨rfl, trivial⟩ hS ⟨k0, trivial⟩ ?_
  unfold saddle_Bounds_m at hm
  refine GL.seq ?_
  refine GL.region ?_
  refine RL.asg rfl rfl rfl ?_
  refine RL.asg rfl rfl rfl ?_
  refine RL.asg rfl rfl rfl ?_
  refine RL.finG ?_
  refine GL.seq ?_
  refine GL.seq ?_
  refine GL.region ?_
  refine RL.mv rfl rfl rfl ?_
  obtain ⟨y4, e5, hm⟩ := bind_some hm
  refine RL.callC (v := .int .i64 y4) (vs := [v0]) Try_fit35 rfl rfl rfl rfl (fun U w hU hW hL => saddle_Check_c U w hU _ _ (hL 0 _ _ rfl Seen.imm) _ e5) ?_
  refine RL.asg rfl rfl rfl ?_
  refine RL.finG ?_
  refine GL.seq ?_
  refine GL.region ?_
  refine RL.mv rfl rfl rfl ?_
  refine RL.binI (v := .bool (y4 != (0 : Int))) rfl rfl rfl rfl rfl ?_
  refine RL.finG ?_
  refine GL.cond rfl (fun b6 => ?_) (fun b6 => ?_)
  · replace hm := ite_t b6 hm
    refine GL.seq ?_
    refine GL.region ?_
    refine RL.mv rfl rfl rfl ?_
    refine RL.asg rfl rfl rfl ?_
    refine RL.asg rfl rfl rfl ?_
    refine RL.asg rfl rfl rfl ?_
    refine RL.finG ?_
    have hm := Option.some.inj hm
    subst hm
    exact GL.ret (Gx.ret (v := .tuple #[.int .i64 (0 : Int), .int .i64 (0 : Int), .int .i64 y4]) (res3 rfl rfl rfl rfl) (fun a w st => st.toPostC rfl))
  · replace hm := ite_f b6 hm
    refine GL.skip ?_
    refine GL.seq ?_
    refine GL.region ?_
    refine RL.asg rfl rfl rfl ?_
    refine RL.asg rfl rfl rfl ?_
    refine RL.finG ?_
    refine GL.seq ?_
    refine GL.seq ?_
    refine GL.region ?_
    refine RL.mv rfl rfl rfl ?_
    refine RL.lenS 0 Try.underlying22 rfl rfl rfl rfl SlOf.imm ?_
    refine RL.mv rfl rfl rfl ?_
    refine RL.finG ?_
    refine GL.open_ 0 rfl (fun S h => len_imm S h) (fun n43 => ?_)
    obtain ⟨y44, K45, h46, h47, h48, h49, h50⟩ := bindR_K hm
    refine GL.join (ι := Int) (fun (p : Int) => [(0, v0), (6, .int .i64 p), (7, .int .i64 (1000 : Int))]) (fun (p : Int) => [imm (TR.sl (TR.sl TR.int)) v0 x0]) (fun (p : Int) => K45 (.nx p)) ?_ ?_
    · refine GL.block ?_
      refine GL.loop (ι := Nat × (List (List Int)) × Int) (fun (p : Nat × (List (List Int)) × Int) => [(0, v0), (6, .int .i64 p.2.2), (7, .int .i64 (1000 : Int)), (22, v0), (23, .int .i64 ((x0).length : Int)), (24, .int .i64 (p.1 : Int))]) (fun (p : Nat × (List (List Int)) × Int) => [imm (TR.sl (TR.sl TR.int)) v0 x0]) (fun (p : Nat × (List (List Int)) × Int) => p.1 + p.2.1.length = (x0).length ∧ List.drop p.1 x0 = p.2.1 ∧ rangeL saddle_Bounds_b1 p.2.1 p.1 p.2.2 = some y44) (fun (p : Nat × (List (List Int)) × Int) => p.2.1.length) (0, x0, (-1000 : Int)) ⟨by simp, by simp, h46⟩ (fun a w st => St.cut [0] ⟨rfl, rfl, rfl, rfl, rfl, rfl, trivial⟩ (by decide) rfl st) ?_
      rintro ⟨i51, r52, x7⟩ ⟨h57, h58, h56⟩
      try dsimp only at h57 h58 h56
      refine GL.weak (env' := [(0, v0), (6, .int .i64 x7), (7, .int .i64 (1000 : Int)), (22, v0), (23, .int .i64 ((x0).length : Int)), (24, .int .i64 (i51 : Int))]) (L' := [imm (TR.sl (TR.sl TR.int)) v0 x0]) (fun _ _ st => st) ?_
      refine GL.seq ?_
      refine GL.region ?_
      refine RL.binI (v := .bool (decide ((i51 : Int) < ((x0).length : Int)))) rfl rfl rfl rfl rfl ?_
      refine RL.finG ?_
      refine GL.seq ?_
      refine GL.cond rfl (fun b59 => ?_) (fun b59 => ?_)
      · have h60 : i51 < (x0).length := by have := of_decide_eq_true b59; omega
        obtain ⟨y61, r63, hr, e62, h64⟩ := drop_cons h58 rfl h60
        subst hr
        obtain ⟨z53, h54, h55⟩ := rangeL_some h56
        unfold saddle_Bounds_b1 at h54
        try dsimp only at h54
        refine GL.skip ?_
        refine GL.seq ?_
        refine GL.block ?_
        refine GL.seq ?_
        refine GL.region ?_
        refine RL.idxS (sz := 1) 0 Try.underlying22 Try_ln32 rfl rfl rfl rfl rfl SlOf.imm (by omega) (by omega) ?_
        refine RL.ldS (i := i51) (r := (TR.sl TR.int)) (e' := y61) 0 Try_ln32 rfl rfl rfl rfl SlOf.imm e62 Part.self ?_
        intro v66
        refine RL.asg rfl rfl rfl ?_
        refine RL.finG ?_
        refine GL.seq ?_
        refine GL.region ?_
        refine RL.asg rfl rfl rfl ?_
        refine RL.finG ?_
        refine GL.seq ?_
        refine GL.seq ?_
        refine GL.region ?_
        refine RL.mv rfl rfl rfl ?_
        refine RL.lenS 1 Try.underlying32 rfl rfl rfl rfl SlOf.imm ?_
        refine RL.mv rfl rfl rfl ?_
        refine RL.finG ?_
        refine GL.open_ 1 rfl (fun S h => len_imm S h) (fun n72 => ?_)
        obtain ⟨y73, K74, h75, h76, h77, h78, h79⟩ := bindF_K h54
        refine GL.join (ι := Int) (fun (p : Int) => [(0, v0), (6, .int .i64 x7), (7, .int .i64 (1000 : Int)), (10, .int .i64 p), (22, v0), (23, .int .i64 ((x0).length : Int)), (24, .int .i64 (i51 : Int))]) (fun (p : Int) => [imm (TR.sl (TR.sl TR.int)) v0 x0]) (fun (p : Int) => K74 (.nx p)) ?_ ?_
        · refine GL.block ?_
          refine GL.loop (ι := Nat × (List Int) × Int) (fun (p : Nat × (List Int) × Int) => [(0, v0), (6, .int .i64 x7), (7, .int .i64 (1000 : Int)), (10, .int .i64 p.2.2), (22, v0), (23, .int .i64 ((x0).length : Int)), (24, .int .i64 (i51 : Int)), (28, v66), (29, .int .i64 ((y61).length : Int)), (30, .int .i64 (p.1 : Int))]) (fun (p : Nat × (List Int) × Int) => [imm (TR.sl (TR.sl TR.int)) v0 x0, imm (TR.sl TR.int) v66 y61]) (fun (p : Nat × (List Int) × Int) => p.1 + p.2.1.length = (y61).length ∧ List.drop p.1 y61 = p.2.1 ∧ rangeL saddle_Bounds_b2 p.2.1 p.1 p.2.2 = some y73) (fun (p : Nat × (List Int) × Int) => p.2.1.length) (0, y61, (1000 : Int)) ⟨by simp, by simp, h75⟩ (fun a w st => St.cut [0, 1] ⟨rfl, rfl, rfl, rfl, rfl, rfl, rfl, rfl, rfl, rfl, trivial⟩ (by decide) rfl st) ?_
          rintro ⟨i80, r81, x67⟩ ⟨h86, h87, h85⟩
          try dsimp only at h86 h87 h85
          refine GL.weak (env' := [(0, v0), (6, .int .i64 x7), (7, .int .i64 (1000 : Int)), (10, .int .i64 x67), (22, v0), (23, .int .i64 ((x0).length : Int)), (24, .int .i64 (i51 : Int)), (28, v66), (29, .int .i64 ((y61).length : Int)), (30, .int .i64 (i80 : Int))]) (L' := [imm (TR.sl (TR.sl TR.int)) v0 x0, imm (TR.sl TR.int) v66 y61]) (fun _ _ st => st) ?_
          refine GL.seq ?_
          refine GL.region ?_
          refine RL.binI (v := .bool (decide ((i80 : Int) < ((y61).length : Int)))) rfl rfl rfl rfl rfl ?_
          refine RL.finG ?_
          refine GL.seq ?_
          refine GL.cond rfl (fun b88 => ?_) (fun b88 => ?_)
          · have h89 : i80 < (y61).length := by have := of_decide_eq_true b88; omega
            obtain ⟨y90, r92, hr, e91, h93⟩ := drop_cons h87 rfl h89
            subst hr
            obtain ⟨z82, h83, h84⟩ := rangeL_some h85
            unfold saddle_Bounds_b2 at h83
            try dsimp only at h83
            refine GL.skip ?_
            refine GL.seq ?_
            refine GL.block ?_
            refine GL.seq ?_
            refine GL.region ?_
            refine RL.idxS (sz := 1) 1 Try.underlying32 Try_ln3 rfl rfl rfl rfl rfl SlOf.imm (by omega) (by omega) ?_
            refine RL.ldSx (i := i80) (e' := y90) 1 Ex.ik Try_ln3 rfl rfl rfl rfl SlOf.imm e91 Part.self ?_
            refine RL.asg rfl rfl rfl ?_
            refine RL.finG ?_
            refine GL.region ?_
            refine RL.mv rfl rfl rfl ?_
            refine RL.mv rfl rfl rfl ?_
            refine RL.minI rfl rfl rfl rfl ?_
            refine RL.asg rfl rfl rfl ?_
            refine RL.finG ?_
            refine GL.nilB ?_
            refine GL.region ?_
            refine RL.binI (v := .int .i64 ((i80 + 1 : Nat) : Int)) rfl rfl rfl rfl (binI_succ i80 (by omega)) ?_
            refine RL.mv rfl rfl rfl ?_
            refine RL.fin ?_
            cases h83
            exact fun a w st => lop_intro (i80 + 1, r92, if y90 < x67 then y90 else x67) ⟨by show i80 + 1 + r92.length = (y61).length; simp only [List.length_cons] at h86; omega, h93, h84⟩ (by simp) (St.cut [0, 1] ⟨rfl, rfl, rfl, rfl, rfl, rfl, rfl, rfl, rfl, rfl, trivial⟩ (by decide) rfl st)
          · have h89 : ¬ i80 < (y61).length := by have := of_decide_eq_false b88; omega
            obtain rfl : r81 = [] := by rw [← h87]; exact List.drop_of_length_le (by omega)
            replace h85 : some (Fl.nx _) = some y73 := h85
            cases h85
            exact GL.exit (fun a w st => mid_intro x67 h76 (St.cut [0] ⟨rfl, rfl, rfl, rfl, rfl, rfl, rfl, trivial⟩ (by decide) rfl st))
        · rintro x67 h94
          have h95 := h77 _ h94
          try dsimp only at h95
          refine GL.weak (env' := [(0, v0), (6, .int .i64 x7), (7, .int .i64 (1000 : Int)), (10, .int .i64 x67), (22, v0), (23, .int .i64 ((x0).length : Int)), (24, .int .i64 (i51 : Int))]) (L' := [imm (TR.sl (TR.sl TR.int)) v0 x0]) (fun _ _ st => st) ?_
          refine GL.region ?_
          refine RL.mv rfl rfl rfl ?_
          refine RL.mv rfl rfl rfl ?_
          refine RL.maxI rfl rfl rfl rfl ?_
          refine RL.asg rfl rfl rfl ?_
          refine RL.finG ?_
          refine GL.nilB ?_
          refine GL.region ?_
          refine RL.binI (v := .int .i64 ((i51 + 1 : Nat) : Int)) rfl rfl rfl rfl (binI_succ i51 (by omega)) ?_
          refine RL.mv rfl rfl rfl ?_
          refine RL.fin ?_
          cases h95
          exact fun a w st => lop_intro (i51 + 1, r63, if x67 > x7 then x67 else x7) ⟨by show i51 + 1 + r63.length = (x0).length; simp only [List.length_cons] at h57; omega, h64, h55⟩ (by simp) (St.cut [0] ⟨rfl, rfl, rfl, rfl, rfl, rfl, trivial⟩ (by decide) rfl st)
      · have h60 : ¬ i51 < (x0).length := by have := of_decide_eq_false b59; omega
        obtain rfl : r52 = [] := by rw [← h58]; exact List.drop_of_length_le (by omega)
        replace h56 : some (Fl.nx _) = some y44 := h56
        cases h56
        exact GL.exit (fun a w st => mid_intro x7 h47 (St.cut [0] ⟨rfl, rfl, rfl, trivial⟩ (by decide) rfl st))
    · rintro x7 h96
      have h97 := h48 _ h96
      try dsimp only at h97
      refine GL.weak (env' := [(0, v0), (6, .int .i64 x7), (7, .int .i64 (1000 : Int))]) (L' := [imm (TR.sl (TR.sl TR.int)) v0 x0]) (fun _ _ st => st) ?_
      refine GL.seq ?_
      refine GL.seq ?_
      refine GL.region ?_
      refine RL.mv rfl rfl rfl ?_
      obtain ⟨y101, e102, h97⟩ := bind_some h97
      refine RL.idxS (sz := 1) 0 Try.underlying22 Try_ln32 rfl rfl rfl rfl rfl SlOf.imm (idx_some e102).1 (idx_some e102).2.1 ?_
      refine RL.ldS (i := ((0 : Int)).toNat) (r := (TR.sl TR.int)) (e' := y101) 0 Try_ln32 rfl rfl rfl rfl SlOf.imm (idx_some e102).2.2 Part.self ?_
      intro v103
      refine RL.lenS 1 Try.underlying32 rfl rfl rfl rfl SlOf.imm ?_
      refine RL.mv rfl rfl rfl ?_
      refine RL.finG ?_
      refine GL.open_ 1 rfl (fun S h => len_imm S h) (fun n146 => ?_)
      obtain ⟨y147, K148, h149, h150, h151, h152, h153⟩ := bindR_K h97
      refine GL.join (ι := Int) (fun (p : Int) => [(6, .int .i64 x7), (7, .int .i64 p)]) (fun (p : Int) => []) (fun (p : Int) => K148 (.nx p)) ?_ ?_
      · refine GL.block ?_
        refine GL.loop (ι := Nat × (List Int) × Int) (fun (p : Nat × (List Int) × Int) => [(0, v0), (6, .int .i64 x7), (7, .int .i64 p.2.2), (45, .int .i64 ((y101).length : Int)), (46, .int .i64 (p.1 : Int))]) (fun (p : Nat × (List Int) × Int) => [imm (TR.sl (TR.sl TR.int)) v0 x0]) (fun (p : Nat × (List Int) × Int) => p.1 + p.2.1.length = (y101).length ∧ List.drop p.1 y101 = p.2.1 ∧ rangeL (saddle_Bounds_b3 x0) p.2.1 p.1 p.2.2 = some y147) (fun (p : Nat × (List Int) × Int) => p.2.1.length) (0, y101, (1000 : Int)) ⟨by simp, by simp, h149⟩ (fun a w st => St.cut [0] ⟨rfl, rfl, rfl, rfl, rfl, trivial⟩ (by decide) rfl st) ?_
        rintro ⟨i154, r155, x104⟩ ⟨h160, h161, h159⟩
        try dsimp only at h160 h161 h159
        refine GL.weak (env' := [(0, v0), (6, .int .i64 x7), (7, .int .i64 x104), (45, .int .i64 ((y101).length : Int)), (46, .int .i64 (i154 : Int))]) (L' := [imm (TR.sl (TR.sl TR.int)) v0 x0]) (fun _ _ st => st) ?_
        refine GL.seq ?_
        refine GL.region ?_
        refine RL.binI (v := .bool (decide ((i154 : Int) < ((y101).length : Int)))) rfl rfl rfl rfl rfl ?_
        refine RL.finG ?_
        refine GL.seq ?_
        refine GL.cond rfl (fun b162 => ?_) (fun b162 => ?_)
        · have h163 : i154 < (y101).length := by have := of_decide_eq_true b162; omega
          obtain ⟨y164, r166, hr, e165, h167⟩ := drop_cons h161 rfl h163
          subst hr
          obtain ⟨z156, h157, h158⟩ := rangeL_some h159
          unfold saddle_Bounds_b3 at h157
          try dsimp only at h157
          refine GL.skip ?_
          refine GL.seq ?_
          refine GL.block ?_
          refine GL.seq ?_
          refine GL.region ?_
          refine RL.mv rfl rfl rfl ?_
          refine RL.asg rfl rfl rfl ?_
          refine RL.finG ?_
          refine GL.seq ?_
          refine GL.region ?_
          refine RL.asg rfl rfl rfl ?_
          refine RL.finG ?_
          refine GL.seq ?_
          refine GL.seq ?_
          refine GL.region ?_
          refine RL.mv rfl rfl rfl ?_
          refine RL.lenS 0 Try.underlying22 rfl rfl rfl rfl SlOf.imm ?_
          refine RL.mv rfl rfl rfl ?_
          refine RL.finG ?_
          refine GL.open_ 0 rfl (fun S h => len_imm S h) (fun n179 => ?_)
          obtain ⟨y180, K181, h182, h183, h184, h185, h186⟩ := bindF_K h157
          refine GL.join (ι := Int) (fun (p : Int) => [(0, v0), (6, .int .i64 x7), (7, .int .i64 x104), (14, .int .i64 p), (45, .int .i64 ((y101).length : Int)), (46, .int .i64 (i154 : Int))]) (fun (p : Int) => [imm (TR.sl (TR.sl TR.int)) v0 x0]) (fun (p : Int) => K181 (.nx p)) ?_ ?_
          · refine GL.block ?_
            refine GL.loop (ι := Nat × (List (List Int)) × Int) (fun (p : Nat × (List (List Int)) × Int) => [(0, v0), (6, .int .i64 x7), (7, .int .i64 x104), (13, .int .i64 (i154 : Int)), (14, .int .i64 p.2.2), (45, .int .i64 ((y101).length : Int)), (46, .int .i64 (i154 : Int)), (49, v0), (50, .int .i64 ((x0).length : Int)), (51, .int .i64 (p.1 : Int))]) (fun (p : Nat × (List (List Int)) × Int) => [imm (TR.sl (TR.sl TR.int)) v0 x0]) (fun (p : Nat × (List (List Int)) × Int) => p.1 + p.2.1.length = (x0).length ∧ List.drop p.1 x0 = p.2.1 ∧ rangeL (saddle_Bounds_b4 i154) p.2.1 p.1 p.2.2 = some y180) (fun (p : Nat × (List (List Int)) × Int) => p.2.1.length) (0, x0, (-1000 : Int)) ⟨by simp, by simp, h182⟩ (fun a w st => St.cut [0] ⟨rfl, rfl, rfl, rfl, rfl, rfl, rfl, rfl, rfl, rfl, trivial⟩ (by decide) rfl st) ?_
            rintro ⟨i187, r188, x168⟩ ⟨h193, h194, h192⟩
            try dsimp only at h193 h194 h192
            refine GL.weak (env' := [(0, v0), (6, .int .i64 x7), (7, .int .i64 x104), (13, .int .i64 (i154 : Int)), (14, .int .i64 x168), (45, .int .i64 ((y101).length : Int)), (46, .int .i64 (i154 : Int)), (49, v0), (50, .int .i64 ((x0).length : Int)), (51, .int .i64 (i187 : Int))]) (L' := [imm (TR.sl (TR.sl TR.int)) v0 x0]) (fun _ _ st => st) ?_
            refine GL.seq ?_
            refine GL.region ?_
            refine RL.binI (v := .bool (decide ((i187 : Int) < ((x0).length : Int)))) rfl rfl rfl rfl rfl ?_
            refine RL.finG ?_
            refine GL.seq ?_
            refine GL.cond rfl (fun b195 => ?_) (fun b195 => ?_)
            · have h196 : i187 < (x0).length := by have := of_decide_eq_true b195; omega
              obtain ⟨y197, r199, hr, e198, h200⟩ := drop_cons h194 rfl h196
              subst hr
              obtain ⟨z189, h190, h191⟩ := rangeL_some h192
              unfold saddle_Bounds_b4 at h190
              try dsimp only at h190
              refine GL.skip ?_
              refine GL.seq ?_
              refine GL.block ?_
              refine GL.seq ?_
              refine GL.region ?_
              refine RL.idxS (sz := 1) 0 Try.underlying22 Try_ln32 rfl rfl rfl rfl rfl SlOf.imm (by omega) (by omega) ?_
              refine RL.ldS (i := i187) (r := (TR.sl TR.int)) (e' := y197) 0 Try_ln32 rfl rfl rfl rfl SlOf.imm e198 Part.self ?_
              intro v202
              refine RL.asg rfl rfl rfl ?_
              refine RL.finG ?_
              refine GL.region ?_
              refine RL.mv rfl rfl rfl ?_
              refine RL.mv rfl rfl rfl ?_
              refine RL.mv rfl rfl rfl ?_
              obtain ⟨y205, e206, h190⟩ := bind_some h190
              refine RL.idxS (sz := 1) 1 Try.underlying32 Try_ln3 rfl rfl rfl rfl rfl SlOf.imm (idx_some e206).1 (idx_some e206).2.1 ?_
              refine RL.ldSx (i := i154) (e' := y205) 1 Ex.ik Try_ln3 rfl rfl rfl rfl SlOf.imm (idx_some e206).2.2 Part.self ?_
              refine RL.maxI rfl rfl rfl rfl ?_
              refine RL.asg rfl rfl rfl ?_
              refine RL.finG ?_
              refine GL.nilB ?_
              refine GL.region ?_
              refine RL.binI (v := .int .i64 ((i187 + 1 : Nat) : Int)) rfl rfl rfl rfl (binI_succ i187 (by omega)) ?_
              refine RL.mv rfl rfl rfl ?_
              refine RL.fin ?_
              cases h190
              exact fun a w st => lop_intro (i187 + 1, r199, if y205 > x168 then y205 else x168) ⟨by show i187 + 1 + r199.length = (x0).length; simp only [List.length_cons] at h193; omega, h200, h191⟩ (by simp) (St.cut [0] ⟨rfl, rfl, rfl, rfl, rfl, rfl, rfl, rfl, rfl, rfl, trivial⟩ (by decide) rfl st)
            · have h196 : ¬ i187 < (x0).length := by have := of_decide_eq_false b195; omega
              obtain rfl : r188 = [] := by rw [← h194]; exact List.drop_of_length_le (by omega)
              replace h192 : some (Fl.nx _) = some y180 := h192
              cases h192
              exact GL.exit (fun a w st => mid_intro x168 h183 (St.cut [0] ⟨rfl, rfl, rfl, rfl, rfl, rfl, trivial⟩ (by decide) rfl st))
          · rintro x168 h207
            have h208 := h184 _ h207
            try dsimp only at h208
            refine GL.weak (env' := [(0, v0), (6, .int .i64 x7), (7, .int .i64 x104), (14, .int .i64 x168), (45, .int .i64 ((y101).length : Int)), (46, .int .i64 (i154 : Int))]) (L' := [imm (TR.sl (TR.sl TR.int)) v0 x0]) (fun _ _ st => st) ?_
            refine GL.region ?_
            refine RL.mv rfl rfl rfl ?_
            refine RL.mv rfl rfl rfl ?_
            refine RL.minI rfl rfl rfl rfl ?_
            refine RL.asg rfl rfl rfl ?_
            refine RL.finG ?_
            refine GL.nilB ?_
            refine GL.region ?_
            refine RL.binI (v := .int .i64 ((i154 + 1 : Nat) : Int)) rfl rfl rfl rfl (binI_succ i154 (by omega)) ?_
            refine RL.mv rfl rfl rfl ?_
            refine RL.fin ?_
            cases h208
            exact fun a w st => lop_intro (i154 + 1, r166, if x168 < x104 then x168 else x104) ⟨by show i154 + 1 + r166.length = (y101).length; simp only [List.length_cons] at h160; omega, h167, h158⟩ (by simp) (St.cut [0] ⟨rfl, rfl, rfl, rfl, rfl, trivial⟩ (by decide) rfl st)
        · have h163 : ¬ i154 < (y101).length := by have := of_decide_eq_false b162; omega
          obtain rfl : r155 = [] := by rw [← h161]; exact List.drop_of_length_le (by omega)
          replace h159 : some (Fl.nx _) = some y147 := h159
          cases h159
          exact GL.exit (fun a w st => mid_intro x104 h150 (St.cut [] ⟨rfl, rfl, trivial⟩ (by decide) rfl st))
      · rintro x104 h209
        have h210 := h151 _ h209
        try dsimp only at h210
        refine GL.weak (env' := [(6, .int .i64 x7), (7, .int .i64 x104)]) (L' := []) (fun _ _ st => st) ?_
        refine GL.seq ?_
        refine GL.region ?_
        refine RL.mv rfl rfl rfl ?_
        refine RL.mv rfl rfl rfl ?_
        refine RL.asg rfl rfl rfl ?_
        refine RL.asg rfl rfl rfl ?_
        refine RL.asg rfl rfl rfl ?_
        refine RL.finG ?_
        have h210 := Option.some.inj h210
        subst h210
        exact GL.ret (Gx.ret (v := .tuple #[.int .i64 x7, .int .i64 x104, .int .i64 (0 : Int)]) (res3 rfl rfl rfl rfl) (fun a w st => st.toPostC rfl))

set_option maxHeartbeats 4000000 in
theorem saddle_Points_c (S : Hp) (w : World) (hS : S.sub w) (v0 : Value) (x0 : (List (List Int))) (k0 : ((TR.sl (TR.sl TR.int))).vrep S v0 x0) (res : (List (List Int)) × Int) (hm : saddle_Points_m x0 = some res) : Calls Try.prog 21 #[v0] w (Post w S (fun (o : Value) => .tuple #[o, .int .i64 res.2]) (fun (o : Value) => [own 34 (TR.arr 2 TR.int) o res.1])) := by
  refine calls_enter 73 Try.func21 Try.ntmps21 rfl S false [(0, v0)] [imm (TR.sl (TR.sl TR.int)) v0 x0] rfl ⟨rfl, trivial⟩ hS ⟨k0, trivial⟩ ?_
  unfold saddle_Points_m at hm
  refine GL.seq ?_
  refine GL.region ?_
  refine RL.asg rfl rfl rfl ?_
  refine RL.asg rfl rfl rfl ?_
  refine RL.finG ?_
  refine GL.seq ?_
  refine GL.seq ?_
  refine GL.region ?_
  refine RL.mv rfl rfl rfl ?_
  obtain ⟨y4, e5, hm⟩ := bind_some hm
  refine RL.callC (v := .int .i64 y4) (vs := [v0]) Try_fit35 rfl rfl rfl rfl (fun U w hU hW hL => saddle_Check_c U w hU _ _ (hL 0 _ _ rfl Seen.imm) _ e5) ?_
  refine RL.asg rfl rfl rfl ?_
  refine RL.finG ?_
  refine GL.seq ?_
  refine GL.region ?_
  refine RL.mv rfl rfl rfl ?_
  refine RL.binI (v := .bool (y4 != (0 : Int))) rfl rfl rfl rfl rfl ?_
  refine RL.finG ?_
  refine GL.cond rfl (fun b6 => ?_) (fun b6 => ?_)
  · replace hm := ite_t b6 hm
    refine GL.seq ?_
    refine GL.region ?_
    refine RL.mv rfl rfl rfl ?_
    refine RL.asg rfl rfl rfl ?_
    refine RL.asg rfl rfl rfl ?_
    refine RL.finG ?_
    refine GL.weak (fun a w st => st.nilOwn 34 (TR.arr 2 TR.int)) ?_
    have hm := Option.some.inj hm
    subst hm
    exact GL.ret (Gx.ret (v := .tuple #[Value.slice none 0 0, .int .i64 y4]) (res2 rfl rfl rfl) (fun a w st => (st.pick [1] (by decide) rfl).toPost (Value.slice none 0 0)))
  · replace hm := ite_f b6 hm
    refine GL.skip ?_
    refine GL.seq ?_
    refine GL.region ?_
    refine RL.asg rfl rfl rfl ?_
    refine RL.finG ?_
    refine GL.seq ?_
    refine GL.seq ?_
    refine GL.region ?_
    refine RL.mv rfl rfl rfl ?_
    refine RL.lenS 0 Try.underlying22 rfl rfl rfl rfl SlOf.imm ?_
    refine RL.mv rfl rfl rfl ?_
    refine RL.finG ?_
    refine GL.weak (fun a w st => st.nilOwn 34 (TR.arr 2 TR.int)) ?_
    refine GL.open_ 0 rfl (fun S h => len_imm S h) (fun n319 => ?_)
    obtain ⟨y320, K321, h322, h323, h324, h325, h326⟩ := bindR_K hm
    refine GL.join (ι := (List (List Int)) × Value) (fun (p : (List (List Int)) × Value) => [(5, p.2)]) (fun (p : (List (List Int)) × Value) => [own 34 (TR.arr 2 TR.int) p.2 p.1]) (fun (p : (List (List Int)) × Value) => K321 (.nx p.1)) ?_ ?_
    · refine GL.block ?_
      refine GL.loop (ι := Nat × (List (List Int)) × (List (List Int)) × Value) (fun (p : Nat × (List (List Int)) × (List (List Int)) × Value) => [(0, v0), (5, p.2.2.2), (20, v0), (21, .int .i64 ((x0).length : Int)), (22, .int .i64 (p.1 : Int))]) (fun (p : Nat × (List (List Int)) × (List (List Int)) × Value) => [imm (TR.sl (TR.sl TR.int)) v0 x0, own 34 (TR.arr 2 TR.int) p.2.2.2 p.2.2.1]) (fun (p : Nat × (List (List Int)) × (List (List Int)) × Value) => p.1 + p.2.1.length = (x0).length ∧ List.drop p.1 x0 = p.2.1 ∧ rangeL (saddle_Points_b1 x0) p.2.1 p.1 p.2.2.1 = some y320) (fun (p : Nat × (List (List Int)) × (List (List Int)) × Value) => p.2.1.length) (0, x0, [], Value.slice none 0 0) ⟨by simp, by simp, h322⟩ (fun a w st => St.cut [0, 1] ⟨rfl, rfl, rfl, rfl, rfl, trivial⟩ (by decide) rfl st) ?_
      rintro ⟨i327, r328, l7, v8⟩ ⟨h333, h334, h332⟩
      try dsimp only at h333 h334 h332
      refine GL.weak (env' := [(0, v0), (5, v8), (20, v0), (21, .int .i64 ((x0).length : Int)), (22, .int .i64 (i327 : Int))]) (L' := [imm (TR.sl (TR.sl TR.int)) v0 x0, own 34 (TR.arr 2 TR.int) v8 l7]) (fun _ _ st => st) ?_
      refine GL.seq ?_
      refine GL.region ?_
      refine RL.binI (v := .bool (decide ((i327 : Int) < ((x0).length : Int)))) rfl rfl rfl rfl rfl ?_
      refine RL.finG ?_
      refine GL.seq ?_
      refine GL.cond rfl (fun b335 => ?_) (fun b335 => ?_)
      · have h336 : i327 < (x0).length := by have := of_decide_eq_true b335; omega
        obtain ⟨y337, r339, hr, e338, h340⟩ := drop_cons h334 rfl h336
        subst hr
        obtain ⟨z329, h330, h331⟩ := rangeL_some h332
        unfold saddle_Points_b1 at h330
        try dsimp only at h330
        refine GL.skip ?_
        refine GL.seq ?_
        refine GL.block ?_
        refine GL.seq ?_
        refine GL.region ?_
        refine RL.mv rfl rfl rfl ?_
        refine RL.idxS (sz := 1) 0 Try.underlying22 Try_ln32 rfl rfl rfl rfl rfl SlOf.imm (by omega) (by omega) ?_
        refine RL.ldS (i := i327) (r := (TR.sl TR.int)) (e' := y337) 0 Try_ln32 rfl rfl rfl rfl SlOf.imm e338 Part.self ?_
        intro v342
        refine RL.asg rfl rfl rfl ?_
        refine RL.asg rfl rfl rfl ?_
        refine RL.finG ?_
        refine GL.seq ?_
        refine GL.region ?_
        refine RL.mv rfl rfl rfl ?_
        refine RL.lenS 2 Try.underlying32 rfl rfl rfl rfl SlOf.imm ?_
        refine RL.mv rfl rfl rfl ?_
        refine RL.finG ?_
        refine GL.open_ 2 rfl (fun S h => len_imm S h) (fun n486 => ?_)
        obtain ⟨y487, K488, h489, h490, h491, h492, h493⟩ := bindF_K h330
        refine GL.join (ι := (List (List Int)) × Value) (fun (p : (List (List Int)) × Value) => [(0, v0), (5, p.2), (20, v0), (21, .int .i64 ((x0).length : Int)), (22, .int .i64 (i327 : Int))]) (fun (p : (List (List Int)) × Value) => [imm (TR.sl (TR.sl TR.int)) v0 x0, own 34 (TR.arr 2 TR.int) p.2 p.1]) (fun (p : (List (List Int)) × Value) => K488 (.nx p.1)) ?_ ?_
        · refine GL.block ?_
          refine GL.loop (ι := Nat × (List Int) × (List (List Int)) × Value) (fun (p : Nat × (List Int) × (List (List Int)) × Value) => [(0, v0), (5, p.2.2.2), (6, .int .i64 (i327 : Int)), (7, v342), (20, v0), (21, .int .i64 ((x0).length : Int)), (22, .int .i64 (i327 : Int)), (27, v342), (28, .int .i64 ((y337).length : Int)), (29, .int .i64 (p.1 : Int))]) (fun (p : Nat × (List Int) × (List (List Int)) × Value) => [imm (TR.sl (TR.sl TR.int)) v0 x0, own 34 (TR.arr 2 TR.int) p.2.2.2 p.2.2.1, imm (TR.sl TR.int) v342 y337]) (fun (p : Nat × (List Int) × (List (List Int)) × Value) => p.1 + p.2.1.length = (y337).length ∧ List.drop p.1 y337 = p.2.1 ∧ rangeL (saddle_Points_b2 y337 x0 i327) p.2.1 p.1 p.2.2.1 = some y487) (fun (p : Nat × (List Int) × (List (List Int)) × Value) => p.2.1.length) (0, y337, l7, v8) ⟨by simp, by simp, h489⟩ (fun a w st => St.cut [0, 1, 2] ⟨rfl, rfl, rfl, rfl, rfl, rfl, rfl, rfl, rfl, rfl, trivial⟩ (by decide) rfl st) ?_
          rintro ⟨i494, r495, l343, v344⟩ ⟨h500, h501, h499⟩
          try dsimp only at h500 h501 h499
          refine GL.weak (env' := [(0, v0), (5, v344), (6, .int .i64 (i327 : Int)), (7, v342), (20, v0), (21, .int .i64 ((x0).length : Int)), (22, .int .i64 (i327 : Int)), (27, v342), (28, .int .i64 ((y337).length : Int)), (29, .int .i64 (i494 : Int))]) (L' := [imm (TR.sl (TR.sl TR.int)) v0 x0, own 34 (TR.arr 2 TR.int) v344 l343, imm (TR.sl TR.int) v342 y337]) (fun _ _ st => st) ?_
          refine GL.seq ?_
          refine GL.region ?_
          refine RL.binI (v := .bool (decide ((i494 : Int) < ((y337).length : Int)))) rfl rfl rfl rfl rfl ?_
          refine RL.finG ?_
          refine GL.seq ?_
          refine GL.cond rfl (fun b502 => ?_) (fun b502 => ?_)
          · have h503 : i494 < (y337).length := by have := of_decide_eq_true b502; omega
            obtain ⟨y504, r506, hr, e505, h507⟩ := drop_cons h501 rfl h503
            subst hr
            obtain ⟨z496, h497, h498⟩ := rangeL_some h499
            unfold saddle_Points_b2 at h497
            try dsimp only at h497
            refine GL.skip ?_
            refine GL.seq ?_
            refine GL.block ?_
            refine GL.seq ?_
            refine GL.region ?_
            refine RL.mv rfl rfl rfl ?_
            refine RL.idxS (sz := 1) 2 Try.underlying32 Try_ln3 rfl rfl rfl rfl rfl SlOf.imm (by omega) (by omega) ?_
            refine RL.ldSx (i := i494) (e' := y504) 2 Ex.ik Try_ln3 rfl rfl rfl rfl SlOf.imm e505 Part.self ?_
            refine RL.asg rfl rfl rfl ?_
            refine RL.asg rfl rfl rfl ?_
            refine RL.finG ?_
            refine GL.seq ?_
            refine GL.region ?_
            refine RL.asg rfl rfl rfl ?_
            refine RL.finG ?_
            refine GL.seq ?_
            refine GL.seq ?_
            refine GL.region ?_
            refine RL.mv rfl rfl rfl ?_
            refine RL.lenS 2 Try.underlying32 rfl rfl rfl rfl SlOf.imm ?_
            refine RL.mv rfl rfl rfl ?_
            refine RL.finG ?_
            refine GL.open_ 2 rfl (fun S h => len_imm S h) (fun n526 => ?_)
            obtain ⟨y527, K528, h529, h530, h531, h532, h533⟩ := bindF_K h497
            refine GL.join (ι := Bool) (fun (p : Bool) => [(0, v0), (5, v344), (6, .int .i64 (i327 : Int)), (7, v342), (8, .int .i64 (i494 : Int)), (9, .int .i64 y504), (10, .bool p), (20, v0), (21, .int .i64 ((x0).length : Int)), (22, .int .i64 (i327 : Int)), (27, v342), (28, .int .i64 ((y337).length : Int)), (29, .int .i64 (i494 : Int))]) (fun (p : Bool) => [imm (TR.sl (TR.sl TR.int)) v0 x0, own 34 (TR.arr 2 TR.int) v344 l343, imm (TR.sl TR.int) v342 y337]) (fun (p : Bool) => K528 (.nx p)) ?_ ?_
            · refine GL.block ?_
              refine GL.loop (ι := Nat × (List Int) × Bool) (fun (p : Nat × (List Int) × Bool) => [(0, v0), (5, v344), (6, .int .i64 (i327 : Int)), (7, v342), (8, .int .i64 (i494 : Int)), (9, .int .i64 y504), (10, .bool p.2.2), (20, v0), (21, .int .i64 ((x0).length : Int)), (22, .int .i64 (i327 : Int)), (27, v342), (28, .int .i64 ((y337).length : Int)), (29, .int .i64 (i494 : Int)), (34, v342), (35, .int .i64 ((y337).length : Int)), (36, .int .i64 (p.1 : Int))]) (fun (p : Nat × (List Int) × Bool) => [imm (TR.sl (TR.sl TR.int)) v0 x0, own 34 (TR.arr 2 TR.int) v344 l343, imm (TR.sl TR.int) v342 y337]) (fun (p : Nat × (List Int) × Bool) => p.1 + p.2.1.length = (y337).length ∧ List.drop p.1 y337 = p.2.1 ∧ rangeL (saddle_Points_b3 y504) p.2.1 p.1 p.2.2 = some y527) (fun (p : Nat × (List Int) × Bool) => p.2.1.length) (0, y337, true) ⟨by simp, by simp, h529⟩ (fun a w st => St.cut [0, 1, 2] ⟨rfl, rfl, rfl, rfl, rfl, rfl, rfl, rfl, rfl, rfl, rfl, rfl, rfl, rfl, rfl, rfl, trivial⟩ (by decide) rfl st) ?_
              rintro ⟨i534, r535, x508⟩ ⟨h540, h541, h539⟩
              try dsimp only at h540 h541 h539
              refine GL.weak (env' := [(0, v0), (5, v344), (6, .int .i64 (i327 : Int)), (7, v342), (8, .int .i64 (i494 : Int)), (9, .int .i64 y504), (10, .bool x508), (20, v0), (21, .int .i64 ((x0).length : Int)), (22, .int .i64 (i327 : Int)), (27, v342), (28, .int .i64 ((y337).length : Int)), (29, .int .i64 (i494 : Int)), (34, v342), (35, .int .i64 ((y337).length : Int)), (36, .int .i64 (i534 : Int))]) (L' := [imm (TR.sl (TR.sl TR.int)) v0 x0, own 34 (TR.arr 2 TR.int) v344 l343, imm (TR.sl TR.int) v342 y337]) (fun _ _ st => st) ?_
              refine GL.seq ?_
              refine GL.region ?_
              refine RL.binI (v := .bool (decide ((i534 : Int) < ((y337).length : Int)))) rfl rfl rfl rfl rfl ?_
              refine RL.finG ?_
              refine GL.seq ?_
              refine GL.cond rfl (fun b542 => ?_) (fun b542 => ?_)
              · have h543 : i534 < (y337).length := by have := of_decide_eq_true b542; omega
                obtain ⟨y544, r546, hr, e545, h547⟩ := drop_cons h541 rfl h543
                subst hr
                obtain ⟨z536, h537, h538⟩ := rangeL_some h539
                unfold saddle_Points_b3 at h537
                try dsimp only at h537
                refine GL.skip ?_
                refine GL.seq ?_
                refine GL.block ?_
                refine GL.seq ?_
                refine GL.region ?_
                refine RL.idxS (sz := 1) 2 Try.underlying32 Try_ln3 rfl rfl rfl rfl rfl SlOf.imm (by omega) (by omega) ?_
                refine RL.ldSx (i := i534) (e' := y544) 2 Ex.ik Try_ln3 rfl rfl rfl rfl SlOf.imm e545 Part.self ?_
                refine RL.asg rfl rfl rfl ?_
                refine RL.finG ?_
                obtain ⟨y551, K552, h553, h554, h555, h556, h557⟩ := bindF_K h537
                refine GL.join (ι := Bool) (fun (p : Bool) => [(0, v0), (5, v344), (6, .int .i64 (i327 : Int)), (7, v342), (8, .int .i64 (i494 : Int)), (9, .int .i64 y504), (10, .bool p), (20, v0), (21, .int .i64 ((x0).length : Int)), (22, .int .i64 (i327 : Int)), (27, v342), (28, .int .i64 ((y337).length : Int)), (29, .int .i64 (i494 : Int)), (34, v342), (35, .int .i64 ((y337).length : Int)), (36, .int .i64 (i534 : Int))]) (fun (p : Bool) => [imm (TR.sl (TR.sl TR.int)) v0 x0, own 34 (TR.arr 2 TR.int) v344 l343, imm (TR.sl TR.int) v342 y337]) (fun (p : Bool) => K552 (.nx p)) ?_ ?_
                · skip
                  refine GL.region ?_
                  refine RL.mv rfl rfl rfl ?_
                  refine RL.mv rfl rfl rfl ?_
                  refine RL.split (t := 41) rfl (fun b558 => ?_) (fun b558 => ?_)
                  · replace h553 := ite_t b558 h553
                    refine RL.mv rfl rfl rfl ?_
                    refine RL.mv rfl rfl rfl ?_
                    refine RL.binI (v := .bool (decide (y504 ≤ y544))) rfl rfl rfl rfl rfl ?_
                    refine RL.pickT rfl rfl rfl rfl ?_
                    refine RL.asg rfl rfl rfl ?_
                    refine RL.fin ?_
                    cases h553
                    exact fun a w st => mid_intro (decide (y504 ≤ y544)) h554 (St.cut [0, 1, 2] ⟨rfl, rfl, rfl, rfl, rfl, rfl, rfl, rfl, rfl, rfl, rfl, rfl, rfl, rfl, rfl, rfl, trivial⟩ (by decide) rfl st)
                  · replace h553 := ite_f b558 h553
                    refine RL.skip rfl rfl ?_
                    refine RL.skip rfl rfl ?_
                    refine RL.skip rfl rfl ?_
                    refine RL.pickF rfl rfl rfl rfl ?_
                    refine RL.asg rfl rfl rfl ?_
                    refine RL.fin ?_
                    cases h553
                    exact fun a w st => mid_intro false h554 (St.cut [0, 1, 2] ⟨rfl, rfl, rfl, rfl, rfl, rfl, rfl, rfl, rfl, rfl, rfl, rfl, rfl, rfl, rfl, rfl, trivial⟩ (by decide) rfl st)
                · rintro x550 h559
                  have h560 := h555 _ h559
                  try dsimp only at h560
                  refine GL.weak (env' := [(0, v0), (5, v344), (6, .int .i64 (i327 : Int)), (7, v342), (8, .int .i64 (i494 : Int)), (9, .int .i64 y504), (10, .bool x550), (20, v0), (21, .int .i64 ((x0).length : Int)), (22, .int .i64 (i327 : Int)), (27, v342), (28, .int .i64 ((y337).length : Int)), (29, .int .i64 (i494 : Int)), (34, v342), (35, .int .i64 ((y337).length : Int)), (36, .int .i64 (i534 : Int))]) (L' := [imm (TR.sl (TR.sl TR.int)) v0 x0, own 34 (TR.arr 2 TR.int) v344 l343, imm (TR.sl TR.int) v342 y337]) (fun _ _ st => st) ?_
                  refine GL.nilB ?_
                  refine GL.region ?_
                  refine RL.binI (v := .int .i64 ((i534 + 1 : Nat) : Int)) rfl rfl rfl rfl (binI_succ i534 (by omega)) ?_
                  refine RL.mv rfl rfl rfl ?_
                  refine RL.fin ?_
                  cases h560
                  exact fun a w st => lop_intro (i534 + 1, r546, x550) ⟨by show i534 + 1 + r546.length = (y337).length; simp only [List.length_cons] at h540; omega, h547, h538⟩ (by simp) (St.cut [0, 1, 2] ⟨rfl, rfl, rfl, rfl, rfl, rfl, rfl, rfl, rfl, rfl, rfl, rfl, rfl, rfl, rfl, rfl, trivial⟩ (by decide) rfl st)
              · have h543 : ¬ i534 < (y337).length := by have := of_decide_eq_false b542; omega
                obtain rfl : r535 = [] := by rw [← h541]; exact List.drop_of_length_le (by omega)
                replace h539 : some (Fl.nx _) = some y527 := h539
                cases h539
                exact GL.exit (fun a w st => mid_intro x508 h530 (St.cut [0, 1, 2] ⟨rfl, rfl, rfl, rfl, rfl, rfl, rfl, rfl, rfl, rfl, rfl, rfl, rfl, trivial⟩ (by decide) rfl st))
            · rintro x508 h561
              have h562 := h531 _ h561
              try dsimp only at h562
              refine GL.weak (env' := [(0, v0), (5, v344), (6, .int .i64 (i327 : Int)), (7, v342), (8, .int .i64 (i494 : Int)), (9, .int .i64 y504), (10, .bool x508), (20, v0), (21, .int .i64 ((x0).length : Int)), (22, .int .i64 (i327 : Int)), (27, v342), (28, .int .i64 ((y337).length : Int)), (29, .int .i64 (i494 : Int))]) (L' := [imm (TR.sl (TR.sl TR.int)) v0 x0, own 34 (TR.arr 2 TR.int) v344 l343, imm (TR.sl TR.int) v342 y337]) (fun _ _ st => st) ?_
              refine GL.seq ?_
              refine GL.seq ?_
              refine GL.region ?_
              refine RL.mv rfl rfl rfl ?_
              refine RL.lenS 0 Try.underlying22 rfl rfl rfl rfl SlOf.imm ?_
              refine RL.mv rfl rfl rfl ?_
              refine RL.finG ?_
              refine GL.open_ 0 rfl (fun S h => len_imm S h) (fun n589 => ?_)
              obtain ⟨y590, K591, h592, h593, h594, h595, h596⟩ := bindF_K h562
              refine GL.join (ι := Bool) (fun (p : Bool) => [(0, v0), (5, v344), (6, .int .i64 (i327 : Int)), (7, v342), (8, .int .i64 (i494 : Int)), (10, .bool p), (20, v0), (21, .int .i64 ((x0).length : Int)), (22, .int .i64 (i327 : Int)), (27, v342), (28, .int .i64 ((y337).length : Int)), (29, .int .i64 (i494 : Int))]) (fun (p : Bool) => [imm (TR.sl (TR.sl TR.int)) v0 x0, own 34 (TR.arr 2 TR.int) v344 l343, imm (TR.sl TR.int) v342 y337]) (fun (p : Bool) => K591 (.nx p)) ?_ ?_
              · refine GL.block ?_
                refine GL.loop (ι := Nat × (List (List Int)) × Bool) (fun (p : Nat × (List (List Int)) × Bool) => [(0, v0), (5, v344), (6, .int .i64 (i327 : Int)), (7, v342), (8, .int .i64 (i494 : Int)), (9, .int .i64 y504), (10, .bool p.2.2), (20, v0), (21, .int .i64 ((x0).length : Int)), (22, .int .i64 (i327 : Int)), (27, v342), (28, .int .i64 ((y337).length : Int)), (29, .int .i64 (i494 : Int)), (47, v0), (48, .int .i64 ((x0).length : Int)), (49, .int .i64 (p.1 : Int))]) (fun (p : Nat × (List (List Int)) × Bool) => [imm (TR.sl (TR.sl TR.int)) v0 x0, own 34 (TR.arr 2 TR.int) v344 l343, imm (TR.sl TR.int) v342 y337]) (fun (p : Nat × (List (List Int)) × Bool) => p.1 + p.2.1.length = (x0).length ∧ List.drop p.1 x0 = p.2.1 ∧ rangeL (saddle_Points_b4 i494 y504) p.2.1 p.1 p.2.2 = some y590) (fun (p : Nat × (List (List Int)) × Bool) => p.2.1.length) (0, x0, x508) ⟨by simp, by simp, h592⟩ (fun a w st => St.cut [0, 1, 2] ⟨rfl, rfl, rfl, rfl, rfl, rfl, rfl, rfl, rfl, rfl, rfl, rfl, rfl, rfl, rfl, rfl, trivial⟩ (by decide) rfl st) ?_
                rintro ⟨i597, r598, x563⟩ ⟨h603, h604, h602⟩
                try dsimp only at h603 h604 h602
                refine GL.weak (env' := [(0, v0), (5, v344), (6, .int .i64 (i327 : Int)), (7, v342), (8, .int .i64 (i494 : Int)), (9, .int .i64 y504), (10, .bool x563), (20, v0), (21, .int .i64 ((x0).length : Int)), (22, .int .i64 (i327 : Int)), (27, v342), (28, .int .i64 ((y337).length : Int)), (29, .int .i64 (i494 : Int)), (47, v0), (48, .int .i64 ((x0).length : Int)), (49, .int .i64 (i597 : Int))]) (L' := [imm (TR.sl (TR.sl TR.int)) v0 x0, own 34 (TR.arr 2 TR.int) v344 l343, imm (TR.sl TR.int) v342 y337]) (fun _ _ st => st) ?_
                refine GL.seq ?_
                refine GL.region ?_
                refine RL.binI (v := .bool (decide ((i597 : Int) < ((x0).length : Int)))) rfl rfl rfl rfl rfl ?_
                refine RL.finG ?_
                refine GL.seq ?_
                refine GL.cond rfl (fun b605 => ?_) (fun b605 => ?_)
                · have h606 : i597 < (x0).length := by have := of_decide_eq_true b605; omega
                  obtain ⟨y607, r609, hr, e608, h610⟩ := drop_cons h604 rfl h606
                  subst hr
                  obtain ⟨z599, h600, h601⟩ := rangeL_some h602
                  unfold saddle_Points_b4 at h600
                  try dsimp only at h600
                  refine GL.skip ?_
                  refine GL.seq ?_
                  refine GL.block ?_
                  refine GL.seq ?_
                  refine GL.region ?_
                  refine RL.idxS (sz := 1) 0 Try.underlying22 Try_ln32 rfl rfl rfl rfl rfl SlOf.imm (by omega) (by omega) ?_
                  refine RL.ldS (i := i597) (r := (TR.sl TR.int)) (e' := y607) 0 Try_ln32 rfl rfl rfl rfl SlOf.imm e608 Part.self ?_
                  intro v612
                  refine RL.asg rfl rfl rfl ?_
                  refine RL.finG ?_
                  obtain ⟨y620, K621, h622, h623, h624, h625, h626⟩ := bindF_K h600
                  refine GL.join (ι := Bool) (fun (p : Bool) => [(0, v0), (5, v344), (6, .int .i64 (i327 : Int)), (7, v342), (8, .int .i64 (i494 : Int)), (9, .int .i64 y504), (10, .bool p), (20, v0), (21, .int .i64 ((x0).length : Int)), (22, .int .i64 (i327 : Int)), (27, v342), (28, .int .i64 ((y337).length : Int)), (29, .int .i64 (i494 : Int)), (47, v0), (48, .int .i64 ((x0).length : Int)), (49, .int .i64 (i597 : Int))]) (fun (p : Bool) => [imm (TR.sl (TR.sl TR.int)) v0 x0, own 34 (TR.arr 2 TR.int) v344 l343, imm (TR.sl TR.int) v342 y337]) (fun (p : Bool) => K621 (.nx p)) ?_ ?_
                  · skip
                    refine GL.region ?_
                    refine RL.mv rfl rfl rfl ?_
                    refine RL.mv rfl rfl rfl ?_
                    refine RL.split (t := 54) rfl (fun b627 => ?_) (fun b627 => ?_)
                    · replace h622 := ite_t b627 h622
                      refine RL.mv rfl rfl rfl ?_
                      refine RL.mv rfl rfl rfl ?_
                      refine RL.mv rfl rfl rfl ?_
                      obtain ⟨y628, e629, h622⟩ := bind_some h622
                      refine RL.idxS (sz := 1) 3 Try.underlying32 Try_ln3 rfl rfl rfl rfl rfl SlOf.imm (idx_some e629).1 (idx_some e629).2.1 ?_
                      refine RL.ldSx (i := i494) (e' := y628) 3 Ex.ik Try_ln3 rfl rfl rfl rfl SlOf.imm (idx_some e629).2.2 Part.self ?_
                      refine RL.binI (v := .bool (decide (y504 ≥ y628))) rfl rfl rfl rfl rfl ?_
                      refine RL.pickT rfl rfl rfl rfl ?_
                      refine RL.asg rfl rfl rfl ?_
                      refine RL.fin ?_
                      cases h622
                      exact fun a w st => mid_intro (decide (y504 ≥ y628)) h623 (St.cut [0, 1, 2] ⟨rfl, rfl, rfl, rfl, rfl, rfl, rfl, rfl, rfl, rfl, rfl, rfl, rfl, rfl, rfl, rfl, trivial⟩ (by decide) rfl st)
                    · replace h622 := ite_f b627 h622
                      refine RL.skip rfl rfl ?_
                      refine RL.skip rfl rfl ?_
                      refine RL.skip rfl rfl ?_
                      refine RL.skip rfl rfl ?_
                      refine RL.skip rfl rfl ?_
                      refine RL.skip rfl rfl ?_
                      refine RL.pickF rfl rfl rfl rfl ?_
                      refine RL.asg rfl rfl rfl ?_
                      refine RL.fin ?_
                      cases h622
                      exact fun a w st => mid_intro false h623 (St.cut [0, 1, 2] ⟨rfl, rfl, rfl, rfl, rfl, rfl, rfl, rfl, rfl, rfl, rfl, rfl, rfl, rfl, rfl, rfl, trivial⟩ (by decide) rfl st)
                  · rintro x619 h630
                    have h631 := h624 _ h630
                    try dsimp only at h631
                    refine GL.weak (env' := [(0, v0), (5, v344), (6, .int .i64 (i327 : Int)), (7, v342), (8, .int .i64 (i494 : Int)), (9, .int .i64 y504), (10, .bool x619), (20, v0), (21, .int .i64 ((x0).length : Int)), (22, .int .i64 (i327 : Int)), (27, v342), (28, .int .i64 ((y337).length : Int)), (29, .int .i64 (i494 : Int)), (47, v0), (48, .int .i64 ((x0).length : Int)), (49, .int .i64 (i597 : Int))]) (L' := [imm (TR.sl (TR.sl TR.int)) v0 x0, own 34 (TR.arr 2 TR.int) v344 l343, imm (TR.sl TR.int) v342 y337]) (fun _ _ st => st) ?_
                    refine GL.nilB ?_
                    refine GL.region ?_
                    refine RL.binI (v := .int .i64 ((i597 + 1 : Nat) : Int)) rfl rfl rfl rfl (binI_succ i597 (by omega)) ?_
                    refine RL.mv rfl rfl rfl ?_
                    refine RL.fin ?_
                    cases h631
                    exact fun a w st => lop_intro (i597 + 1, r609, x619) ⟨by show i597 + 1 + r609.length = (x0).length; simp only [List.length_cons] at h603; omega, h610, h601⟩ (by simp) (St.cut [0, 1, 2] ⟨rfl, rfl, rfl, rfl, rfl, rfl, rfl, rfl, rfl, rfl, rfl, rfl, rfl, rfl, rfl, rfl, trivial⟩ (by decide) rfl st)
                · have h606 : ¬ i597 < (x0).length := by have := of_decide_eq_false b605; omega
                  obtain rfl : r598 = [] := by rw [← h604]; exact List.drop_of_length_le (by omega)
                  replace h602 : some (Fl.nx _) = some y590 := h602
                  cases h602
                  exact GL.exit (fun a w st => mid_intro x563 h593 (St.cut [0, 1, 2] ⟨rfl, rfl, rfl, rfl, rfl, rfl, rfl, rfl, rfl, rfl, rfl, rfl, trivial⟩ (by decide) rfl st))
              · rintro x563 h632
                have h633 := h594 _ h632
                try dsimp only at h633
                refine GL.weak (env' := [(0, v0), (5, v344), (6, .int .i64 (i327 : Int)), (7, v342), (8, .int .i64 (i494 : Int)), (10, .bool x563), (20, v0), (21, .int .i64 ((x0).length : Int)), (22, .int .i64 (i327 : Int)), (27, v342), (28, .int .i64 ((y337).length : Int)), (29, .int .i64 (i494 : Int))]) (L' := [imm (TR.sl (TR.sl TR.int)) v0 x0, own 34 (TR.arr 2 TR.int) v344 l343, imm (TR.sl TR.int) v342 y337]) (fun _ _ st => st) ?_
                refine GL.seq ?_
                refine GL.region ?_
                refine RL.mv rfl rfl rfl ?_
                refine RL.finG ?_
                refine GL.cond rfl (fun b634 => ?_) (fun b634 => ?_)
                · replace h633 := ite_t b634 h633
                  refine GL.region ?_
                  refine RL.mv rfl rfl rfl ?_
                  refine RL.mv rfl rfl rfl ?_
                  refine RL.mv rfl rfl rfl ?_
                  refine RL.bldA (t := (TR.arr 2 TR.int)) (d0 := ([(i327 : Int), (i494 : Int)] : (List Int))) (pv := [(0, .int .i64 (i327 : Int)), (1, .int .i64 (i494 : Int))]) rfl Try_bld34 (by decide) rfl rfl rfl ⟨⟨_, _, TR.int, (i327 : Int), rfl, rfl, VR.int⟩, ⟨⟨_, _, TR.int, (i494 : Int), rfl, rfl, VR.int⟩, trivial⟩⟩ (fun S f hi => by
                      obtain ⟨c0, e0, r0⟩ := cells_vrep (t := TR.int) (u := .int .i64 (i327 : Int)) (e := (i327 : Int)) (VR.int S f hi)
                      obtain ⟨c1, e1, r1⟩ := cells_vrep (t := TR.int) (u := .int .i64 (i494 : Int)) (e := (i494 : Int)) (VR.int S f hi)
                      show TR.rep (TR.arr 2 TR.int) S (List.flatten [(.int .i64 (i327 : Int) : Value).cells.toList, (.int .i64 (i494 : Int) : Value).cells.toList]) _
                      simp only [e0, e1,  List.flatten_cons, List.flatten_nil, List.append_nil]
                      exact ⟨rfl, ⟨_, _, rfl, r0, ⟨_, [], (List.append_nil _).symm, r1, rfl⟩⟩⟩) ?_
                  intro v640
                  refine RL.bS (t := (TR.arr 2 TR.int)) (vs := [v640]) ([([(i327 : Int), (i494 : Int)] : (List Int))] : (List (List Int))) Try.underlying35 Try_lo34 rfl rfl rfl rfl ⟨(VR.item 3 rfl), trivial⟩ rfl (by decide) ?_
                  intro v641
                  refine RL.reL (L' := [imm (TR.sl (TR.sl TR.int)) v0 x0, own 34 (TR.arr 2 TR.int) v344 l343, imm (TR.sl TR.int) v342 y337, imm (TR.arr 2 TR.int) v640 ([(i327 : Int), (i494 : Int)] : (List Int)), own 34 (TR.arr 2 TR.int) v641 ([([(i327 : Int), (i494 : Int)] : (List Int))] : (List (List Int)))]) rfl ?_
                  obtain ⟨y642, e643, h633⟩ := bind_some h633
                  replace e643 := chk_some e643
                  refine RL.app 1 4 Try.underlying35 Try_lo34 rfl rfl rfl rfl rfl rfl rfl SlOf.own e643 ?_
                  intro v644
                  refine RL.asg rfl rfl rfl ?_
                  refine RL.finG ?_
                  refine GL.nilB ?_
                  refine GL.region ?_
                  refine RL.binI (v := .int .i64 ((i494 + 1 : Nat) : Int)) rfl rfl rfl rfl (binI_succ i494 (by omega)) ?_
                  refine RL.mv rfl rfl rfl ?_
                  refine RL.fin ?_
                  cases h633
                  exact fun a w st => lop_intro (i494 + 1, r506, (l343 ++ ([([(i327 : Int), (i494 : Int)] : (List Int))] : (List (List Int)))), v644) ⟨by show i494 + 1 + r506.length = (y337).length; simp only [List.length_cons] at h500; omega, h507, h498⟩ (by simp) (St.cut [0, 1, 2] ⟨rfl, rfl, rfl, rfl, rfl, rfl, rfl, rfl, rfl, rfl, trivial⟩ (by decide) rfl st)
                · replace h633 := ite_f b634 h633
                  refine GL.skip ?_
                  refine GL.nilB ?_
                  refine GL.region ?_
                  refine RL.binI (v := .int .i64 ((i494 + 1 : Nat) : Int)) rfl rfl rfl rfl (binI_succ i494 (by omega)) ?_
                  refine RL.mv rfl rfl rfl ?_
                  refine RL.fin ?_
                  cases h633
                  exact fun a w st => lop_intro (i494 + 1, r506, l343, v344) ⟨by show i494 + 1 + r506.length = (y337).length; simp only [List.length_cons] at h500; omega, h507, h498⟩ (by simp) (St.cut [0, 1, 2] ⟨rfl, rfl, rfl, rfl, rfl, rfl, rfl, rfl, rfl, rfl, trivial⟩ (by decide) rfl st)
          · have h503 : ¬ i494 < (y337).length := by have := of_decide_eq_false b502; omega
            obtain rfl : r495 = [] := by rw [← h501]; exact List.drop_of_length_le (by omega)
            replace h499 : some (Fl.nx _) = some y487 := h499
            cases h499
            exact GL.exit (fun a w st => mid_intro (l343, v344) h490 (St.cut [0, 1] ⟨rfl, rfl, rfl, rfl, rfl, trivial⟩ (by decide) rfl st))
        · rintro ⟨l343, v344⟩ h645
          have h646 := h491 _ h645
          try dsimp only at h646
          refine GL.weak (env' := [(0, v0), (5, v344), (20, v0), (21, .int .i64 ((x0).length : Int)), (22, .int .i64 (i327 : Int))]) (L' := [imm (TR.sl (TR.sl TR.int)) v0 x0, own 34 (TR.arr 2 TR.int) v344 l343]) (fun _ _ st => st) ?_
          refine GL.nilB ?_
          refine GL.region ?_
          refine RL.binI (v := .int .i64 ((i327 + 1 : Nat) : Int)) rfl rfl rfl rfl (binI_succ i327 (by omega)) ?_
          refine RL.mv rfl rfl rfl ?_
          refine RL.fin ?_
          cases h646
          exact fun a w st => lop_intro (i327 + 1, r339, l343, v344) ⟨by show i327 + 1 + r339.length = (x0).length; simp only [List.length_cons] at h333; omega, h340, h331⟩ (by simp) (St.cut [0, 1] ⟨rfl, rfl, rfl, rfl, rfl, trivial⟩ (by decide) rfl st)
      · have h336 : ¬ i327 < (x0).length := by have := of_decide_eq_false b335; omega
        obtain rfl : r328 = [] := by rw [← h334]; exact List.drop_of_length_le (by omega)
        replace h332 : some (Fl.nx _) = some y320 := h332
        cases h332
        exact GL.exit (fun a w st => mid_intro (l7, v8) h323 (St.cut [1] ⟨rfl, trivial⟩ (by decide) rfl st))
    · rintro ⟨l7, v8⟩ h647
      have h648 := h324 _ h647
      try dsimp only at h648
      refine GL.weak (env' := [(5, v8)]) (L' := [own 34 (TR.arr 2 TR.int) v8 l7]) (fun _ _ st => st) ?_
      refine GL.seq ?_
      refine GL.region ?_
      refine RL.mv rfl rfl rfl ?_
      refine RL.asg rfl rfl rfl ?_
      refine RL.asg rfl rfl rfl ?_
      refine RL.finG ?_
      have h648 := Option.some.inj h648
      subst h648
      exact GL.ret (Gx.ret (v := .tuple #[v8, .int .i64 (0 : Int)]) (res2 rfl rfl rfl) (fun a w st => (st.pick [0] (by decide) rfl).toPost v8))

set_option maxHeartbeats 4000000 in
theorem slices_IndexFunc_api_Errno_api_Errno_c (S : Hp) (w : World) (hS : S.sub w) (v0 : Value) (x0 : (List Int)) (k0 : ((TR.sl TR.int)).vrep S v0 x0) (f1 : FuncId) (c1 : Array Value) (t1 : Fit Try.prog f1) (g1 : Int → Option Bool) (k1 : ∀ (U : Hp) (w' : World), Hp.le S U → U.sub w' → ∀ (a0 : Int) (rr : Bool), g1 a0 = some rr → Calls Try.prog f1 (#[.int .i64 a0] ++ c1) w' (PostV w' (.bool rr))) (res : Int) (hm : slices_IndexFunc_api_Errno_api_Errno_m x0 g1 = some res) : Calls Try.prog 48 #[v0, .func (.func f1) #[] c1] w (PostV w (.int .i64 res)) := by
  refine calls_enter 19 Try.func48 Try.ntmps48 rfl S false [(0, v0), (1, .func (.func f1) #[] c1)] [imm (TR.sl TR.int) v0 x0] rfl ⟨rfl, ⟨rfl, trivial⟩⟩ hS ⟨k0, trivial⟩ ?_
  unfold slices_IndexFunc_api_Errno_api_Errno_m at hm
  refine GL.seq ?_
  refine GL.region ?_
  refine RL.asg rfl rfl rfl ?_
  refine RL.finG ?_
  refine GL.seq ?_
  refine GL.seq ?_
  refine GL.region ?_
  refine RL.mv rfl rfl rfl ?_
  refine RL.lenS 0 Try.underlying61 rfl rfl rfl rfl SlOf.imm ?_
  refine RL.mv rfl rfl rfl ?_
  refine RL.finG ?_
  refine GL.open_ 0 rfl (fun S h => len_imm S h) (fun n12 => ?_)
  obtain ⟨y13, K14, h15, h16, h17, h18, h19⟩ := bindR_K hm
  refine GL.join (ι := Unit) (fun (p : Unit) => []) (fun (p : Unit) => []) (fun (p : Unit) => K14 (.nx ())) ?_ ?_
  · refine GL.block ?_
    refine GL.loop (ι := Nat × (List Int)) (fun (p : Nat × (List Int)) => [(0, v0), (1, .func (.func f1) #[] c1), (7, .int .i64 ((x0).length : Int)), (8, .int .i64 (p.1 : Int))]) (fun (p : Nat × (List Int)) => [imm (TR.sl TR.int) v0 x0]) (fun (p : Nat × (List Int)) => p.1 + p.2.length = (x0).length ∧ List.drop p.1 x0 = p.2 ∧ rangeL (slices_IndexFunc_api_Errno_api_Errno_b1 g1) p.2 p.1 () = some y13) (fun (p : Nat × (List Int)) => p.2.length) (0, x0) ⟨by simp, by simp, h15⟩ (fun a w st => St.cut [0] ⟨rfl, rfl, rfl, rfl, trivial⟩ (by decide) rfl st) ?_
    rintro ⟨i20, r21⟩ ⟨h26, h27, h25⟩
    try dsimp only at h26 h27 h25
    refine GL.weak (env' := [(0, v0), (1, .func (.func f1) #[] c1), (7, .int .i64 ((x0).length : Int)), (8, .int .i64 (i20 : Int))]) (L' := [imm (TR.sl TR.int) v0 x0]) (fun _ _ st => st) ?_
    refine GL.seq ?_
    refine GL.region ?_
    refine RL.binI (v := .bool (decide ((i20 : Int) < ((x0).length : Int)))) rfl rfl rfl rfl rfl ?_
    refine RL.finG ?_
    refine GL.seq ?_
    refine GL.cond rfl (fun b28 => ?_) (fun b28 => ?_)
    · have h29 : i20 < (x0).length := by have := of_decide_eq_true b28; omega
      obtain ⟨y30, r32, hr, e31, h33⟩ := drop_cons h27 rfl h29
      subst hr
      obtain ⟨z22, h23, h24⟩ := rangeL_some h25
      unfold slices_IndexFunc_api_Errno_api_Errno_b1 at h23
      try dsimp only at h23
      refine GL.skip ?_
      refine GL.seq ?_
      refine GL.block ?_
      refine GL.seq ?_
      refine GL.region ?_
      refine RL.mv rfl rfl rfl ?_
      refine RL.asg rfl rfl rfl ?_
      refine RL.finG ?_
      refine GL.seq ?_
      refine GL.region ?_
      refine RL.mv rfl rfl rfl ?_
      refine RL.mv rfl rfl rfl ?_
      refine RL.mv rfl rfl rfl ?_
      refine RL.idxS (sz := 1) 0 Try.underlying61 Try_ln27 rfl rfl rfl rfl rfl SlOf.imm (by omega) (by omega) ?_
      refine RL.ldSx (i := i20) (e' := y30) 0 Ex.ik Try_ln27 rfl rfl rfl rfl SlOf.imm e31 Part.self ?_
      obtain ⟨y36, e37, h23⟩ := bind_some h23
      refine RL.callV (v := .bool y36) (vs := [.int .i64 y30]) t1 rfl (Or.inl rfl) rfl rfl rfl rfl (fun U w hU hW hL => k1 U w hW hU y30 _ e37) ?_
      refine RL.finG ?_
      refine GL.cond rfl (fun b38 => ?_) (fun b38 => ?_)
      · replace h23 := ite_t b38 h23
        refine GL.seq ?_
        refine GL.region ?_
        refine RL.mv rfl rfl rfl ?_
        refine RL.asg rfl rfl rfl ?_
        refine RL.finG ?_
        cases h23
        replace h24 : some (Fl.rt _) = some y13 := h24
        cases h24
        have hh := h18 _ h16
        subst hh
        exact GL.ret (Gx.ret (v := .int .i64 (i20 : Int)) (res1 rfl rfl) (fun a w st => st.toPostV))
      · replace h23 := ite_f b38 h23
        refine GL.skip ?_
        refine GL.nilB ?_
        refine GL.region ?_
        refine RL.binI (v := .int .i64 ((i20 + 1 : Nat) : Int)) rfl rfl rfl rfl (binI_succ i20 (by omega)) ?_
        refine RL.mv rfl rfl rfl ?_
        refine RL.fin ?_
        cases h23
        exact fun a w st => lop_intro (i20 + 1, r32) ⟨by show i20 + 1 + r32.length = (x0).length; simp only [List.length_cons] at h26; omega, h33, h24⟩ (by simp) (St.cut [0] ⟨rfl, rfl, rfl, rfl, trivial⟩ (by decide) rfl st)
    · have h29 : ¬ i20 < (x0).length := by have := of_decide_eq_false b28; omega
      obtain rfl : r21 = [] := by rw [← h27]; exact List.drop_of_length_le (by omega)
      replace h25 : some (Fl.nx _) = some y13 := h25
      cases h25
      exact GL.exit (fun a w st => mid_intro () h16 (St.cut [] trivial (by decide) rfl st))
  · rintro ⟨⟩ h39
    have h40 := h17 _ h39
    try dsimp only at h40
    refine GL.weak (env' := []) (L' := []) (fun _ _ st => st) ?_
    refine GL.seq ?_
    refine GL.region ?_
    refine RL.asg rfl rfl rfl ?_
    refine RL.finG ?_
    have h40 := Option.some.inj h40
    subst h40
    exact GL.ret (Gx.ret (v := .int .i64 (-1 : Int)) (res1 rfl rfl) (fun a w st => st.toPostV))

set_option maxHeartbeats 4000000 in
theorem slices_ContainsFunc_api_Errno_api_Errno_c (S : Hp) (w : World) (hS : S.sub w) (v0 : Value) (x0 : (List Int)) (k0 : ((TR.sl TR.int)).vrep S v0 x0) (f1 : FuncId) (c1 : Array Value) (t1 : Fit Try.prog f1) (g1 : Int → Option Bool) (k1 : ∀ (U : Hp) (w' : World), Hp.le S U → U.sub w' → ∀ (a0 : Int) (rr : Bool), g1 a0 = some rr → Calls Try.prog f1 (#[.int .i64 a0] ++ c1) w' (PostV w' (.bool rr))) (res : Bool) (hm : slices_ContainsFunc_api_Errno_api_Errno_m x0 g1 = some res) : Calls Try.prog 41 #[v0, .func (.func f1) #[] c1] w (PostV w (.bool res)) := by
  refine calls_enter 9 Try.func41 Try.ntmps41 rfl S false [(0, v0), (1, .func (.func f1) #[] c1)] [imm (TR.sl TR.int) v0 x0] rfl ⟨rfl, ⟨rfl, trivial⟩⟩ hS ⟨k0, trivial⟩ ?_
  unfold slices_ContainsFunc_api_Errno_api_Errno_m at hm
  refine GL.seq ?_
  refine GL.region ?_
  refine RL.asg rfl rfl rfl ?_
  refine RL.finG ?_
  refine GL.seq ?_
  refine GL.region ?_
  refine RL.mv rfl rfl rfl ?_
  refine RL.mv rfl rfl rfl ?_
  obtain ⟨y5, e6, hm⟩ := bind_some hm
  refine RL.callV (v := .int .i64 y5) (vs := [v0, .func (.func f1) #[] c1]) Try_fit48 rfl (Or.inl rfl) rfl rfl rfl rfl (fun U w hU hW hL => slices_IndexFunc_api_Errno_api_Errno_c U w hU _ _ (hL 0 _ _ rfl Seen.imm) f1 c1 t1 g1 (fun U' w' hle => k1 U' w' (Hp.le_trans hW hle)) _ e6) ?_
  refine RL.binI (v := .bool (decide (y5 ≥ (0 : Int)))) rfl rfl rfl rfl rfl ?_
  refine RL.asg rfl rfl rfl ?_
  refine RL.finG ?_
  have hm := Option.some.inj hm
  subst hm
  exact GL.ret (Gx.ret (v := .bool (decide (y5 ≥ (0 : Int)))) (res1 rfl rfl) (fun a w st => st.toPostV))

set_option maxHeartbeats 4000000 in
theorem pk_good_1_c (S : Hp) (w : World) (hS : S.sub w) (x0 : Int) (res : Bool) (hm : pk_good_1_m x0 = some res) : Calls Try.prog 42 #[.int .i64 x0] w (PostC w (.bool res)) := by
  refine calls_enter 5 Try.func42 Try.ntmps42 rfl S true [(0, .int .i64 x0)] [] rfl ⟨rfl, trivial⟩ hS trivial ?_
  unfold pk_good_1_m at hm
  refine GL.seq ?_
  refine GL.region ?_
  refine RL.asg rfl rfl rfl ?_
  refine RL.finG ?_
  refine GL.seq ?_
  refine GL.region ?_
  refine RL.mv rfl rfl rfl ?_
  refine RL.binI (v := .bool (x0 != (0 : Int))) rfl rfl rfl rfl rfl ?_
  refine RL.asg rfl rfl rfl ?_
  refine RL.finG ?_
  have hm := Option.some.inj hm
  subst hm
  exact GL.ret (Gx.ret (v := .bool (x0 != (0 : Int))) (res1 rfl rfl) (fun a w st => st.toPostC rfl))

set_option maxHeartbeats 4000000 in
theorem pk_good_c (S : Hp) (w : World) (hS : S.sub w) (v0 : Value) (x0 : (List Int)) (k0 : ((TR.sl TR.int)).vrep S v0 x0) (res : Bool) (hm : pk_good_m x0 = some res) : Calls Try.prog 26 #[v0] w (PostV w (.bool res)) := by
  refine calls_enter 6 Try.func26 Try.ntmps26 rfl S false [(0, v0)] [imm (TR.sl TR.int) v0 x0] rfl ⟨rfl, trivial⟩ hS ⟨k0, trivial⟩ ?_
  unfold pk_good_m at hm
  refine GL.seq ?_
  refine GL.region ?_
  refine RL.asg rfl rfl rfl ?_
  refine RL.finG ?_
  refine GL.seq ?_
  refine GL.region ?_
  refine RL.mv rfl rfl rfl ?_
  obtain ⟨y4, e5, hm⟩ := bind_some hm
  refine RL.callV (v := .bool y4) (vs := [v0, .func (.func 42) #[] #[]]) Try_fit41 rfl (Or.inl rfl) rfl rfl rfl rfl (fun U w hU hW hL => slices_ContainsFunc_api_Errno_api_Errno_c U w hU _ _ (hL 0 _ _ rfl Seen.imm) 42 #[] Try_fit42 (fun a0 => pk_good_1_m a0) (fun U' w' hle hU' a0 rr hr => (pk_good_1_c U' w' hU' a0 rr hr).mono (fun _ _ z => z.toV)) _ e5) ?_
  refine RL.notB rfl rfl rfl ?_
  refine RL.asg rfl rfl rfl ?_
  refine RL.finG ?_
  have hm := Option.some.inj hm
  subst hm
  exact GL.ret (Gx.ret (v := .bool (!y4)) (res1 rfl rfl) (fun a w st => st.toPostV))

set_option maxHeartbeats 4000000 in
theorem slices_Equal_pairs_c (S : Hp) (w : World) (hS : S.sub w) (v0 : Value) (x0 : (List (List Int))) (k0 : ((TR.sl (TR.arr 2 TR.int))).vrep S v0 x0) (v1 : Value) (x1 : (List (List Int))) (k1 : ((TR.sl (TR.arr 2 TR.int))).vrep S v1 x1) (res : Bool) (hm : slices_Equal_pairs_m x0 x1 = some res) : Calls Try.prog 34 #[v0, v1] w (PostV w (.bool res)) := by
  refine calls_enter 26 Try.func34 Try.ntmps34 rfl S false [(0, v0), (1, v1)] [imm (TR.sl (TR.arr 2 TR.int)) v0 x0, imm (TR.sl (TR.arr 2 TR.int)) v1 x1] rfl ⟨rfl, ⟨rfl, trivial⟩⟩ hS ⟨k0, ⟨k1, trivial⟩⟩ ?_
  unfold slices_Equal_pairs_m at hm
  refine GL.seq ?_
  refine GL.region ?_
  refine RL.asg rfl rfl rfl ?_
  refine RL.finG ?_
  refine GL.seq ?_
  refine GL.seq ?_
  refine GL.region ?_
  refine RL.mv rfl rfl rfl ?_
  refine RL.lenS 0 Try.underlying35 rfl rfl rfl rfl SlOf.imm ?_
  refine RL.mv rfl rfl rfl ?_
  refine RL.lenS 1 Try.underlying35 rfl rfl rfl rfl SlOf.imm ?_
  refine RL.binI (v := .bool (((x0).length : Int) != ((x1).length : Int))) rfl rfl rfl rfl rfl ?_
  refine RL.finG ?_
  refine GL.cond rfl (fun b3 => ?_) (fun b3 => ?_)
  · replace hm := ite_t b3 hm
    refine GL.seq ?_
    refine GL.region ?_
    refine RL.asg rfl rfl rfl ?_
    refine RL.finG ?_
    have hm := Option.some.inj hm
    subst hm
    exact GL.ret (Gx.ret (v := .bool false) (res1 rfl rfl) (fun a w st => st.toPostV))
  · replace hm := ite_f b3 hm
    refine GL.skip ?_
    refine GL.seq ?_
    refine GL.seq ?_
    refine GL.region ?_
    refine RL.mv rfl rfl rfl ?_
    refine RL.lenS 0 Try.underlying35 rfl rfl rfl rfl SlOf.imm ?_
    refine RL.mv rfl rfl rfl ?_
    refine RL.finG ?_
    refine GL.open_ 0 rfl (fun S h => len_imm S h) (fun n17 => ?_)
    obtain ⟨y18, K19, h20, h21, h22, h23, h24⟩ := bindR_K hm
    refine GL.join (ι := Unit) (fun (p : Unit) => []) (fun (p : Unit) => []) (fun (p : Unit) => K19 (.nx ())) ?_ ?_
    · refine GL.block ?_
      refine GL.loop (ι := Nat × (List (List Int))) (fun (p : Nat × (List (List Int))) => [(0, v0), (1, v1), (12, .int .i64 ((x0).length : Int)), (13, .int .i64 (p.1 : Int))]) (fun (p : Nat × (List (List Int))) => [imm (TR.sl (TR.arr 2 TR.int)) v0 x0, imm (TR.sl (TR.arr 2 TR.int)) v1 x1]) (fun (p : Nat × (List (List Int))) => p.1 + p.2.length = (x0).length ∧ List.drop p.1 x0 = p.2 ∧ rangeL (slices_Equal_pairs_b1 x1) p.2 p.1 () = some y18) (fun (p : Nat × (List (List Int))) => p.2.length) (0, x0) ⟨by simp, by simp, h20⟩ (fun a w st => St.cut [0, 1] ⟨rfl, rfl, rfl, rfl, trivial⟩ (by decide) rfl st) ?_
      rintro ⟨i25, r26⟩ ⟨h31, h32, h30⟩
      try dsimp only at h31 h32 h30
      refine GL.weak (env' := [(0, v0), (1, v1), (12, .int .i64 ((x0).length : Int)), (13, .int .i64 (i25 : Int))]) (L' := [imm (TR.sl (TR.arr 2 TR.int)) v0 x0, imm (TR.sl (TR.arr 2 TR.int)) v1 x1]) (fun _ _ st => st) ?_
      refine GL.seq ?_
      refine GL.region ?_
      refine RL.binI (v := .bool (decide ((i25 : Int) < ((x0).length : Int)))) rfl rfl rfl rfl rfl ?_
      refine RL.finG ?_
      refine GL.seq ?_
      refine GL.cond rfl (fun b33 => ?_) (fun b33 => ?_)
      · have h34 : i25 < (x0).length := by have := of_decide_eq_true b33; omega
        obtain ⟨y35, r37, hr, e36, h38⟩ := drop_cons h32 rfl h34
        subst hr
        obtain ⟨z27, h28, h29⟩ := rangeL_some h30
        unfold slices_Equal_pairs_b1 at h28
        try dsimp only at h28
        refine GL.skip ?_
        refine GL.seq ?_
        refine GL.block ?_
        refine GL.seq ?_
        refine GL.region ?_
        refine RL.mv rfl rfl rfl ?_
        refine RL.asg rfl rfl rfl ?_
        refine RL.finG ?_
        refine GL.seq ?_
        refine GL.regionQ rfl rfl (by kernel_rfl) ?_
        refine RL.mv rfl rfl rfl ?_
        refine RL.mv rfl rfl rfl ?_
        refine RL.idxS (sz := 2) 0 Try.underlying35 Try_ln34 rfl rfl rfl rfl rfl SlOf.imm (by omega) (by omega) ?_
        refine RL.ldS (i := i25) (r := (TR.arr 2 TR.int)) (e' := y35) 0 Try_ln34 rfl rfl rfl rfl SlOf.imm e36 Part.self ?_
        intro v43
        refine RL.mv rfl rfl rfl ?_
        refine RL.mv rfl rfl rfl ?_
        obtain ⟨y44, e45, h28⟩ := bind_some h28
        refine RL.idxS (sz := 2) 1 Try.underlying35 Try_ln34 rfl rfl rfl rfl rfl SlOf.imm (idx_some e45).1 (idx_some e45).2.1 ?_
        refine RL.ldS (i := i25) (r := (TR.arr 2 TR.int)) (e' := y44) 1 Try_ln34 rfl rfl rfl rfl SlOf.imm (idx_some e45).2.2 Part.self ?_
        intro v46
        refine RL.reL (L' := [imm (TR.sl (TR.arr 2 TR.int)) v0 x0, imm (TR.sl (TR.arr 2 TR.int)) v1 x1, imm (TR.arr 2 TR.int) v43 y35, imm (TR.arr 2 TR.int) v46 y44]) rfl ?_
        refine RL.neG (t := (TR.arr 2 TR.int)) (e := y35) (e' := y44) rfl Try_eq34 (by decide) Try.eqGuardType34 rfl rfl rfl rfl (VR.item 2 rfl) (VR.item 3 rfl) ?_
        refine RL.finQG ?_
        refine GL.cond rfl (fun b47 => ?_) (fun b47 => ?_)
        · replace h28 := ite_t b47 h28
          refine GL.seq ?_
          refine GL.region ?_
          refine RL.asg rfl rfl rfl ?_
          refine RL.finG ?_
          cases h28
          replace h29 : some (Fl.rt _) = some y18 := h29
          cases h29
          have hh := h23 _ h21
          subst hh
          exact GL.ret (Gx.ret (v := .bool false) (res1 rfl rfl) (fun a w st => st.toPostV))
        · replace h28 := ite_f b47 h28
          refine GL.skip ?_
          refine GL.nilB ?_
          refine GL.region ?_
          refine RL.binI (v := .int .i64 ((i25 + 1 : Nat) : Int)) rfl rfl rfl rfl (binI_succ i25 (by omega)) ?_
          refine RL.mv rfl rfl rfl ?_
          refine RL.fin ?_
          cases h28
          exact fun a w st => lop_intro (i25 + 1, r37) ⟨by show i25 + 1 + r37.length = (x0).length; simp only [List.length_cons] at h31; omega, h38, h29⟩ (by simp) (St.cut [0, 1] ⟨rfl, rfl, rfl, rfl, trivial⟩ (by decide) rfl st)
      · have h34 : ¬ i25 < (x0).length := by have := of_decide_eq_false b33; omega
        obtain rfl : r26 = [] := by rw [← h32]; exact List.drop_of_length_le (by omega)
        replace h30 : some (Fl.nx _) = some y18 := h30
        cases h30
        exact GL.exit (fun a w st => mid_intro () h21 (St.cut [] trivial (by decide) rfl st))
    · rintro ⟨⟩ h48
      have h49 := h22 _ h48
      try dsimp only at h49
      refine GL.weak (env' := []) (L' := []) (fun _ _ st => st) ?_
      refine GL.seq ?_
      refine GL.region ?_
      refine RL.asg rfl rfl rfl ?_
      refine RL.finG ?_
      have h49 := Option.some.inj h49
      subst h49
      exact GL.ret (Gx.ret (v := .bool true) (res1 rfl rfl) (fun a w st => st.toPostV))

set_option maxHeartbeats 4000000 in
theorem pk_saddles_c (S : Hp) (w : World) (hS : S.sub w)  (res : Bool) (hm : pk_saddles_m = some res) : Calls Try.prog 19 #[] w (PostV w (.bool res)) := by
  refine calls_enter 39 Try.func19 Try.ntmps19 rfl S false [] [] rfl trivial hS trivial ?_
  unfold pk_saddles_m at hm
  refine GL.seq ?_
  refine GL.region ?_
  refine RL.asg rfl rfl rfl ?_
  refine RL.finG ?_
  refine GL.seq ?_
  refine GL.region ?_
  refine RL.bS (t := TR.int) (vs := [.int .i64 (3 : Int), .int .i64 (1 : Int)]) ([(3 : Int), (1 : Int)] : (List Int)) Try.underlying32 Try_lo3 rfl rfl rfl rfl ⟨VR.int, ⟨VR.int, trivial⟩⟩ rfl (by decide) ?_
  intro v6
  refine RL.bS (t := TR.int) (vs := [.int .i64 (4 : Int), .int .i64 (2 : Int)]) ([(4 : Int), (2 : Int)] : (List Int)) Try.underlying32 Try_lo3 rfl rfl rfl rfl ⟨VR.int, ⟨VR.int, trivial⟩⟩ rfl (by decide) ?_
  intro v7
  refine RL.reL (L' := [own 3 TR.int v6 ([(3 : Int), (1 : Int)] : (List Int)), own 3 TR.int v7 ([(4 : Int), (2 : Int)] : (List Int))]) rfl ?_
  refine RL.weak (fun a w st => st.freeze 0 rfl) ?_
  refine RL.weak (fun a w st => st.freeze 1 rfl) ?_
  refine RL.bS (t := (TR.sl TR.int)) (vs := [v6, v7]) ([([(3 : Int), (1 : Int)] : (List Int)), ([(4 : Int), (2 : Int)] : (List Int))] : (List (List Int))) Try.underlying22 Try_lo32 rfl rfl rfl rfl ⟨(VR.item 0 rfl), ⟨(VR.item 1 rfl), trivial⟩⟩ rfl (by decide) ?_
  intro v8
  refine RL.reL (L' := [imm (TR.sl TR.int) v6 ([(3 : Int), (1 : Int)] : (List Int)), imm (TR.sl TR.int) v7 ([(4 : Int), (2 : Int)] : (List Int)), own 32 (TR.sl TR.int) v8 ([([(3 : Int), (1 : Int)] : (List Int)), ([(4 : Int), (2 : Int)] : (List Int))] : (List (List Int)))]) rfl ?_
  obtain ⟨y9, e10, hm⟩ := bind_some hm
  refine RL.callC (v := .tuple #[.int .i64 y9.1, .int .i64 y9.2.1, .int .i64 y9.2.2]) (vs := [v8]) Try_fit20 rfl rfl rfl rfl (fun U w hU hW hL => saddle_Bounds_c U w hU _ _ (hL 2 _ _ rfl Seen.own) _ e10) ?_
  refine RL.mv rfl rfl rfl ?_
  refine RL.ext rfl rfl rfl rfl ?_
  refine RL.ext rfl rfl rfl rfl ?_
  refine RL.ext rfl rfl rfl rfl ?_
  refine RL.asg rfl rfl rfl ?_
  refine RL.asg rfl rfl rfl ?_
  refine RL.asg rfl rfl rfl ?_
  refine RL.finG ?_
  refine GL.seq ?_
  refine GL.region ?_
  refine RL.bS (t := TR.int) (vs := [.int .i64 (3 : Int), .int .i64 (1 : Int)]) ([(3 : Int), (1 : Int)] : (List Int)) Try.underlying32 Try_lo3 rfl rfl rfl rfl ⟨VR.int, ⟨VR.int, trivial⟩⟩ rfl (by decide) ?_
  intro v17
  refine RL.bS (t := TR.int) (vs := [.int .i64 (4 : Int), .int .i64 (2 : Int)]) ([(4 : Int), (2 : Int)] : (List Int)) Try.underlying32 Try_lo3 rfl rfl rfl rfl ⟨VR.int, ⟨VR.int, trivial⟩⟩ rfl (by decide) ?_
  intro v18
  refine RL.reL (L' := [imm (TR.sl TR.int) v6 ([(3 : Int), (1 : Int)] : (List Int)), imm (TR.sl TR.int) v7 ([(4 : Int), (2 : Int)] : (List Int)), own 32 (TR.sl TR.int) v8 ([([(3 : Int), (1 : Int)] : (List Int)), ([(4 : Int), (2 : Int)] : (List Int))] : (List (List Int))), own 3 TR.int v17 ([(3 : Int), (1 : Int)] : (List Int)), own 3 TR.int v18 ([(4 : Int), (2 : Int)] : (List Int))]) rfl ?_
  refine RL.weak (fun a w st => st.freeze 3 rfl) ?_
  refine RL.weak (fun a w st => st.freeze 4 rfl) ?_
  refine RL.bS (t := (TR.sl TR.int)) (vs := [v17, v18]) ([([(3 : Int), (1 : Int)] : (List Int)), ([(4 : Int), (2 : Int)] : (List Int))] : (List (List Int))) Try.underlying22 Try_lo32 rfl rfl rfl rfl ⟨(VR.item 3 rfl), ⟨(VR.item 4 rfl), trivial⟩⟩ rfl (by decide) ?_
  intro v19
  refine RL.reL (L' := [imm (TR.sl TR.int) v6 ([(3 : Int), (1 : Int)] : (List Int)), imm (TR.sl TR.int) v7 ([(4 : Int), (2 : Int)] : (List Int)), own 32 (TR.sl TR.int) v8 ([([(3 : Int), (1 : Int)] : (List Int)), ([(4 : Int), (2 : Int)] : (List Int))] : (List (List Int))), imm (TR.sl TR.int) v17 ([(3 : Int), (1 : Int)] : (List Int)), imm (TR.sl TR.int) v18 ([(4 : Int), (2 : Int)] : (List Int)), own 32 (TR.sl TR.int) v19 ([([(3 : Int), (1 : Int)] : (List Int)), ([(4 : Int), (2 : Int)] : (List Int))] : (List (List Int)))]) rfl ?_
  obtain ⟨y20, e21, hm⟩ := bind_some hm
  refine RL.callU (vs := [v19]) (LR := fun (o : Value) => [own 34 (TR.arr 2 TR.int) o y20.1]) (fun o => ⟨Loc.own (TR.flatT_arr TR.flatT_ik), trivial⟩) Try_fit21 rfl rfl rfl rfl rfl (fun U w hU hW hL => saddle_Points_c U w hU _ _ (hL 5 _ _ rfl Seen.own) _ e21) ?_
  intro v22
  refine RL.mv rfl rfl rfl ?_
  refine RL.ext rfl rfl rfl rfl ?_
  refine RL.ext rfl rfl rfl rfl ?_
  refine RL.asg rfl rfl rfl ?_
  refine RL.asg rfl rfl rfl ?_
  refine RL.finG ?_
  refine GL.seq ?_
  obtain ⟨y44, K45, h46, h47, h48, h49, h50⟩ := bindR_K hm
  refine GL.join (ι := Bool) (fun (p : Bool) => [(0, .bool p)]) (fun (p : Bool) => []) (fun (p : Bool) => K45 (.nx p)) ?_ ?_
  · skip
    refine GL.region ?_
    refine RL.mv rfl rfl rfl ?_
    refine RL.mv rfl rfl rfl ?_
    refine RL.bS (t := TR.int) (vs := [.int .i64 y9.2.2, .int .i64 y20.2]) ([y9.2.2, y20.2] : (List Int)) Try.underlying61 Try_lo27 rfl rfl rfl rfl ⟨VR.int, ⟨VR.int, trivial⟩⟩ rfl (by decide) ?_
    intro v51
    obtain ⟨y52, e53, h46⟩ := bind_some h46
    refine RL.callV (v := .bool y52) (vs := [v51]) Try_fit26 rfl (Or.inl rfl) rfl rfl rfl rfl (fun U w hU hW hL => pk_good_c U w hU _ _ (hL 7 _ _ rfl Seen.own) _ e53) ?_
    refine RL.mv rfl rfl rfl ?_
    refine RL.split (t := 25) rfl (fun b54 => ?_) (fun b54 => ?_)
    · replace h46 := ite_t b54 h46
      refine RL.mv rfl rfl rfl ?_
      refine RL.binI (v := .bool (y9.1 == (2 : Int))) rfl rfl rfl rfl rfl ?_
      refine RL.pickT rfl rfl rfl rfl ?_
      refine RL.mv rfl rfl rfl ?_
      refine RL.split (t := 29) rfl (fun b55 => ?_) (fun b55 => ?_)
      · replace h46 := ite_t b55 h46
        refine RL.mv rfl rfl rfl ?_
        refine RL.binI (v := .bool (y9.2.1 == (2 : Int))) rfl rfl rfl rfl rfl ?_
        refine RL.pickT rfl rfl rfl rfl ?_
        refine RL.mv rfl rfl rfl ?_
        refine RL.split (t := 33) rfl (fun b56 => ?_) (fun b56 => ?_)
        · replace h46 := ite_t b56 h46
          refine RL.mv rfl rfl rfl ?_
          refine RL.bldA (t := (TR.arr 2 TR.int)) (d0 := ([(1 : Int), (1 : Int)] : (List Int))) (pv := [(0, .int .i64 (1 : Int)), (1, .int .i64 (1 : Int))]) rfl Try_bld34 (by decide) rfl rfl rfl ⟨⟨_, _, TR.int, (1 : Int), rfl, rfl, VR.int⟩, ⟨⟨_, _, TR.int, (1 : Int), rfl, rfl, VR.int⟩, trivial⟩⟩ (fun S f hi => by
              obtain ⟨c0, e0, r0⟩ := cells_vrep (t := TR.int) (u := .int .i64 (1 : Int)) (e := (1 : Int)) (VR.int S f hi)
              obtain ⟨c1, e1, r1⟩ := cells_vrep (t := TR.int) (u := .int .i64 (1 : Int)) (e := (1 : Int)) (VR.int S f hi)
              show TR.rep (TR.arr 2 TR.int) S (List.flatten [(.int .i64 (1 : Int) : Value).cells.toList, (.int .i64 (1 : Int) : Value).cells.toList]) _
              simp only [e0, e1,  List.flatten_cons, List.flatten_nil, List.append_nil]
              exact ⟨rfl, ⟨_, _, rfl, r0, ⟨_, [], (List.append_nil _).symm, r0, rfl⟩⟩⟩) ?_
          intro v57
          refine RL.reL (L' := [imm (TR.sl TR.int) v6 ([(3 : Int), (1 : Int)] : (List Int)), imm (TR.sl TR.int) v7 ([(4 : Int), (2 : Int)] : (List Int)), own 32 (TR.sl TR.int) v8 ([([(3 : Int), (1 : Int)] : (List Int)), ([(4 : Int), (2 : Int)] : (List Int))] : (List (List Int))), imm (TR.sl TR.int) v17 ([(3 : Int), (1 : Int)] : (List Int)), imm (TR.sl TR.int) v18 ([(4 : Int), (2 : Int)] : (List Int)), own 32 (TR.sl TR.int) v19 ([([(3 : Int), (1 : Int)] : (List Int)), ([(4 : Int), (2 : Int)] : (List Int))] : (List (List Int))), own 34 (TR.arr 2 TR.int) v22 y20.1, own 27 TR.int v51 ([y9.2.2, y20.2] : (List Int)), imm (TR.arr 2 TR.int) v57 ([(1 : Int), (1 : Int)] : (List Int))]) rfl ?_
          refine RL.bS (t := (TR.arr 2 TR.int)) (vs := [v57]) ([([(1 : Int), (1 : Int)] : (List Int))] : (List (List Int))) Try.underlying35 Try_lo34 rfl rfl rfl rfl ⟨(VR.item 8 rfl), trivial⟩ rfl (by decide) ?_
          intro v58
          obtain ⟨y59, e60, h46⟩ := bind_some h46
          refine RL.callV (v := .bool y59) (vs := [v22, v58]) Try_fit34 rfl (Or.inl rfl) rfl rfl rfl rfl (fun U w hU hW hL => slices_Equal_pairs_c U w hU _ _ (hL 6 _ _ rfl Seen.own) _ _ (hL 9 _ _ rfl Seen.own) _ e60) ?_
          refine RL.pickT rfl rfl rfl rfl ?_
          refine RL.asg rfl rfl rfl ?_
          refine RL.fin ?_
          cases h46
          exact fun a w st => mid_intro y59 h47 (St.cut [] ⟨rfl, trivial⟩ (by decide) rfl st)
        · replace h46 := ite_f b56 h46
          refine RL.skip rfl rfl ?_
          refine RL.skip rfl rfl ?_
          refine RL.skip rfl rfl ?_
          refine RL.skip rfl rfl ?_
          refine RL.pickF rfl rfl rfl rfl ?_
          refine RL.asg rfl rfl rfl ?_
          refine RL.fin ?_
          cases h46
          exact fun a w st => mid_intro false h47 (St.cut [] ⟨rfl, trivial⟩ (by decide) rfl st)
      · replace h46 := ite_f b55 h46
        refine RL.skip rfl rfl ?_
        refine RL.skip rfl rfl ?_
        refine RL.pickF rfl rfl rfl rfl ?_
        refine RL.mv rfl rfl rfl ?_
        refine RL.skip rfl rfl ?_
        refine RL.skip rfl rfl ?_
        refine RL.skip rfl rfl ?_
        refine RL.skip rfl rfl ?_
        refine RL.pickF rfl rfl rfl rfl ?_
        refine RL.asg rfl rfl rfl ?_
        refine RL.fin ?_
        cases h46
        exact fun a w st => mid_intro false h47 (St.cut [] ⟨rfl, trivial⟩ (by decide) rfl st)
    · replace h46 := ite_f b54 h46
      refine RL.skip rfl rfl ?_
      refine RL.skip rfl rfl ?_
      refine RL.pickF rfl rfl rfl rfl ?_
      refine RL.mv rfl rfl rfl ?_
      refine RL.skip rfl rfl ?_
      refine RL.skip rfl rfl ?_
      refine RL.pickF rfl rfl rfl rfl ?_
      refine RL.mv rfl rfl rfl ?_
      refine RL.skip rfl rfl ?_
      refine RL.skip rfl rfl ?_
      refine RL.skip rfl rfl ?_
      refine RL.skip rfl rfl ?_
      refine RL.pickF rfl rfl rfl rfl ?_
      refine RL.asg rfl rfl rfl ?_
      refine RL.fin ?_
      cases h46
      exact fun a w st => mid_intro false h47 (St.cut [] ⟨rfl, trivial⟩ (by decide) rfl st)
  · rintro x43 h61
    have h62 := h48 _ h61
    try dsimp only at h62
    refine GL.weak (env' := [(0, .bool x43)]) (L' := []) (fun _ _ st => st) ?_
    have h62 := Option.some.inj h62
    subst h62
    exact GL.ret (Gx.ret (v := .bool x43) (res1 rfl rfl) (fun a w st => st.toPostV))

set_option maxHeartbeats 4000000 in
theorem saddle_Turned_c (S : Hp) (w : World) (hS : S.sub w) (v0 : Value) (x0 : (List (List Int))) (k0 : ((TR.sl (TR.sl TR.int))).vrep S v0 x0) (res : (List (List Int)) × Int) (hm : saddle_Turned_m x0 = some res) : Calls Try.prog 25 #[v0] w (Post w S (fun (o : Value) => .tuple #[o, .int .i64 res.2]) (fun (o : Value) => [imm (TR.sl (TR.sl TR.int)) o res.1])) := by
  refine calls_enter 47 Try.func25 Try.ntmps25 rfl S false [(0, v0)] [imm (TR.sl (TR.sl TR.int)) v0 x0] rfl ⟨rfl, trivial⟩ hS ⟨k0, trivial⟩ ?_
  unfold saddle_Turned_m at hm
  refine GL.seq ?_
  refine GL.region ?_
  refine RL.asg rfl rfl rfl ?_
  refine RL.asg rfl rfl rfl ?_
  refine RL.finG ?_
  refine GL.seq ?_
  refine GL.seq ?_
  refine GL.region ?_
  refine RL.mv rfl rfl rfl ?_
  obtain ⟨y4, e5, hm⟩ := bind_some hm
  refine RL.callC (v := .int .i64 y4) (vs := [v0]) Try_fit35 rfl rfl rfl rfl (fun U w hU hW hL => saddle_Check_c U w hU _ _ (hL 0 _ _ rfl Seen.imm) _ e5) ?_
  refine RL.asg rfl rfl rfl ?_
  refine RL.finG ?_
  refine GL.seq ?_
  refine GL.region ?_
  refine RL.mv rfl rfl rfl ?_
  refine RL.binI (v := .bool (y4 != (0 : Int))) rfl rfl rfl rfl rfl ?_
  refine RL.finG ?_
  refine GL.cond rfl (fun b6 => ?_) (fun b6 => ?_)
  · replace hm := ite_t b6 hm
    refine GL.seq ?_
    refine GL.region ?_
    refine RL.mv rfl rfl rfl ?_
    refine RL.asg rfl rfl rfl ?_
    refine RL.asg rfl rfl rfl ?_
    refine RL.finG ?_
    refine GL.weak (fun a w st => st.nilImm (TR.sl TR.int)) ?_
    have hm := Option.some.inj hm
    subst hm
    exact GL.ret (Gx.ret (v := .tuple #[Value.slice none 0 0, .int .i64 y4]) (res2 rfl rfl rfl) (fun a w st => (st.pick [1] (by decide) rfl).toPost (Value.slice none 0 0)))
  · replace hm := ite_f b6 hm
    refine GL.skip ?_
    refine GL.seq ?_
    refine GL.region ?_
    refine RL.mv rfl rfl rfl ?_
    obtain ⟨y13, e14, hm⟩ := bind_some hm
    refine RL.idxS (sz := 1) 0 Try.underlying22 Try_ln32 rfl rfl rfl rfl rfl SlOf.imm (idx_some e14).1 (idx_some e14).2.1 ?_
    refine RL.ldS (i := ((0 : Int)).toNat) (r := (TR.sl TR.int)) (e' := y13) 0 Try_ln32 rfl rfl rfl rfl SlOf.imm (idx_some e14).2.2 Part.self ?_
    intro v15
    refine RL.lenS 1 Try.underlying32 rfl rfl rfl rfl SlOf.imm ?_
    obtain ⟨y16, e17, hm⟩ := bind_some hm
    replace e17 := chk_some e17
    refine RL.mkS (t := TR.raw) (z := .slice none 0 0) Try.underlying22 Try_lo32 (fun S => ⟨rfl, rfl⟩) rfl rfl rfl rfl e17.1 e17.2 ?_
    intro v18
    refine RL.weak (fun a w st => st.toRows 3 TR.int 2 rfl) ?_
    refine RL.reL (L' := [imm (TR.sl (TR.sl TR.int)) v0 x0, imm (TR.sl TR.int) v15 y13, own2 32 3 TR.int v18 (List.replicate (((y13).length : Int)).toNat (Value.slice none 0 0)) (List.replicate (((y13).length : Int)).toNat ([] : (List Int)))]) rfl ?_
    refine RL.asg rfl rfl rfl ?_
    refine RL.finG ?_
    refine GL.seq ?_
    refine GL.seq ?_
    refine GL.region ?_
    refine RL.mv rfl rfl rfl ?_
    refine RL.lenR 2 Try.underlying22 rfl rfl rfl rfl ?_
    refine RL.mv rfl rfl rfl ?_
    refine RL.finG ?_
    refine GL.lenR 2 rfl (fun n329 => ?_)
    obtain ⟨y330, K331, h332, h333, h334, h335, h336⟩ := bindR_K hm
    refine GL.join (ι := (List (List Int)) × (List Value)) (fun (p : (List (List Int)) × (List Value)) => [(5, v18)]) (fun (p : (List (List Int)) × (List Value)) => [own2 32 3 TR.int v18 p.2 p.1]) (fun (p : (List (List Int)) × (List Value)) => K331 (.nx p.1)) ?_ ?_
    · refine GL.block ?_
      refine GL.loop (ι := Nat × Nat × (List (List Int)) × (List Value)) (fun (p : Nat × Nat × (List (List Int)) × (List Value)) => [(0, v0), (5, v18), (20, .int .i64 (((List.replicate (((y13).length : Int)).toNat ([] : (List Int)))).length : Int)), (21, .int .i64 (p.1 : Int))]) (fun (p : Nat × Nat × (List (List Int)) × (List Value)) => [imm (TR.sl (TR.sl TR.int)) v0 x0, own2 32 3 TR.int v18 p.2.2.2 p.2.2.1]) (fun (p : Nat × Nat × (List (List Int)) × (List Value)) => p.1 + p.2.1 = ((List.replicate (((y13).length : Int)).toNat ([] : (List Int)))).length ∧ rangeN (saddle_Turned_b1 x0) p.2.1 p.1 p.2.2.1 = some y330) (fun (p : Nat × Nat × (List (List Int)) × (List Value)) => p.2.1) (0, ((List.replicate (((y13).length : Int)).toNat ([] : (List Int)))).length, (List.replicate (((y13).length : Int)).toNat ([] : (List Int))), (List.replicate (((y13).length : Int)).toNat (Value.slice none 0 0))) ⟨by simp, h332⟩ (fun a w st => St.cut [0, 2] ⟨rfl, rfl, rfl, rfl, trivial⟩ (by decide) rfl st) ?_
      rintro ⟨i337, r338, l173, V174⟩ ⟨h343, h342⟩
      try dsimp only at h343 h342
      refine GL.weak (env' := [(0, v0), (5, v18), (20, .int .i64 (((List.replicate (((y13).length : Int)).toNat ([] : (List Int)))).length : Int)), (21, .int .i64 (i337 : Int))]) (L' := [imm (TR.sl (TR.sl TR.int)) v0 x0, own2 32 3 TR.int v18 V174 l173]) (fun _ _ st => st) ?_
      refine GL.seq ?_
      refine GL.region ?_
      refine RL.binI (v := .bool (decide ((i337 : Int) < (((List.replicate (((y13).length : Int)).toNat ([] : (List Int)))).length : Int)))) rfl rfl rfl rfl rfl ?_
      refine RL.finG ?_
      refine GL.seq ?_
      refine GL.cond rfl (fun b345 => ?_) (fun b345 => ?_)
      · have h346 : i337 < ((List.replicate (((y13).length : Int)).toNat ([] : (List Int)))).length := by have := of_decide_eq_true b345; omega
        obtain ⟨r347, hr⟩ : ∃ m, r338 = m + 1 := ⟨r338 - 1, by omega⟩
        subst hr
        obtain ⟨z339, h340, h341⟩ := rangeN_some h342
        unfold saddle_Turned_b1 at h340
        try dsimp only at h340
        refine GL.skip ?_
        refine GL.seq ?_
        refine GL.block ?_
        refine GL.seq ?_
        refine GL.region ?_
        refine RL.mv rfl rfl rfl ?_
        refine RL.asg rfl rfl rfl ?_
        refine RL.finG ?_
        refine GL.seq ?_
        refine GL.region ?_
        refine RL.mv rfl rfl rfl ?_
        refine RL.lenS 0 Try.underlying22 rfl rfl rfl rfl SlOf.imm ?_
        refine RL.mv rfl rfl rfl ?_
        refine RL.finG ?_
        refine GL.open_ 0 rfl (fun S h => len_imm S h) (fun n438 => ?_)
        obtain ⟨y439, K440, h441, h442, h443, h444, h445⟩ := bindF_K h340
        refine GL.join (ι := (List (List Int)) × (List Value)) (fun (p : (List (List Int)) × (List Value)) => [(0, v0), (5, v18), (20, .int .i64 (((List.replicate (((y13).length : Int)).toNat ([] : (List Int)))).length : Int)), (21, .int .i64 (i337 : Int))]) (fun (p : (List (List Int)) × (List Value)) => [imm (TR.sl (TR.sl TR.int)) v0 x0, own2 32 3 TR.int v18 p.2 p.1]) (fun (p : (List (List Int)) × (List Value)) => K440 (.nx p.1)) ?_ ?_
        · refine GL.block ?_
          refine GL.loop (ι := Nat × (List (List Int)) × (List (List Int)) × (List Value)) (fun (p : Nat × (List (List Int)) × (List (List Int)) × (List Value)) => [(0, v0), (5, v18), (6, .int .i64 (i337 : Int)), (20, .int .i64 (((List.replicate (((y13).length : Int)).toNat ([] : (List Int)))).length : Int)), (21, .int .i64 (i337 : Int)), (24, v0), (25, .int .i64 ((x0).length : Int)), (26, .int .i64 (p.1 : Int))]) (fun (p : Nat × (List (List Int)) × (List (List Int)) × (List Value)) => [imm (TR.sl (TR.sl TR.int)) v0 x0, own2 32 3 TR.int v18 p.2.2.2 p.2.2.1]) (fun (p : Nat × (List (List Int)) × (List (List Int)) × (List Value)) => p.1 + p.2.1.length = (x0).length ∧ List.drop p.1 x0 = p.2.1 ∧ rangeL (saddle_Turned_b2 i337) p.2.1 p.1 p.2.2.1 = some y439) (fun (p : Nat × (List (List Int)) × (List (List Int)) × (List Value)) => p.2.1.length) (0, x0, l173, V174) ⟨by simp, by simp, h441⟩ (fun a w st => St.cut [0, 1] ⟨rfl, rfl, rfl, rfl, rfl, rfl, rfl, rfl, trivial⟩ (by decide) rfl st) ?_
          rintro ⟨i446, r447, l392, V393⟩ ⟨h452, h453, h451⟩
          try dsimp only at h452 h453 h451
          refine GL.weak (env' := [(0, v0), (5, v18), (6, .int .i64 (i337 : Int)), (20, .int .i64 (((List.replicate (((y13).length : Int)).toNat ([] : (List Int)))).length : Int)), (21, .int .i64 (i337 : Int)), (24, v0), (25, .int .i64 ((x0).length : Int)), (26, .int .i64 (i446 : Int))]) (L' := [imm (TR.sl (TR.sl TR.int)) v0 x0, own2 32 3 TR.int v18 V393 l392]) (fun _ _ st => st) ?_
          refine GL.seq ?_
          refine GL.region ?_
          refine RL.binI (v := .bool (decide ((i446 : Int) < ((x0).length : Int)))) rfl rfl rfl rfl rfl ?_
          refine RL.finG ?_
          refine GL.seq ?_
          refine GL.cond rfl (fun b454 => ?_) (fun b454 => ?_)
          · have h455 : i446 < (x0).length := by have := of_decide_eq_true b454; omega
            obtain ⟨y456, r458, hr, e457, h459⟩ := drop_cons h453 rfl h455
            subst hr
            obtain ⟨z448, h449, h450⟩ := rangeL_some h451
            unfold saddle_Turned_b2 at h449
            try dsimp only at h449
            refine GL.skip ?_
            refine GL.seq ?_
            refine GL.block ?_
            refine GL.seq ?_
            refine GL.region ?_
            refine RL.idxS (sz := 1) 0 Try.underlying22 Try_ln32 rfl rfl rfl rfl rfl SlOf.imm (by omega) (by omega) ?_
            refine RL.ldS (i := i446) (r := (TR.sl TR.int)) (e' := y456) 0 Try_ln32 rfl rfl rfl rfl SlOf.imm e457 Part.self ?_
            intro v461
            refine RL.asg rfl rfl rfl ?_
            refine RL.finG ?_
            refine GL.regionA rfl rfl ?_
            refine RA.mv 0 rfl (by kernel_rfl) rfl rfl rfl ?_
            refine RA.mv 1 rfl (by kernel_rfl) rfl rfl rfl ?_
            refine RA.mv 2 rfl (by kernel_rfl) rfl rfl rfl ?_
            refine RA.mv 3 rfl (by kernel_rfl) rfl rfl rfl ?_
            obtain ⟨y481, e482, h449⟩ := bind_some h449
            refine RA.idxR 1 Try.underlying22 Try_ln32 4 rfl (by kernel_rfl) rfl rfl rfl rfl rfl (idx_some e482).1 (idx_some e482).2.1 ?_
            refine RA.mv 6 rfl (by kernel_rfl) rfl rfl rfl ?_
            refine RA.mv 7 rfl (by kernel_rfl) rfl rfl rfl ?_
            obtain ⟨y483, e484, h449⟩ := bind_some h449
            refine RA.idxS (sz := 1) 2 Try.underlying32 Try_ln3 8 rfl (by kernel_rfl) rfl rfl rfl rfl rfl SlOf.imm (idx_some e484).1 (idx_some e484).2.1 ?_
            refine RA.meet (ι := Value) (fun (p : Value) => [(0, v0), (5, v18), (6, .int .i64 (i337 : Int)), (20, .int .i64 (((List.replicate (((y13).length : Int)).toNat ([] : (List Int)))).length : Int)), (21, .int .i64 (i337 : Int)), (24, v0), (25, .int .i64 ((x0).length : Int)), (26, .int .i64 (i446 : Int)), (30, v18), (31, .int .i64 (i337 : Int)), (35, rowv V393 i337), (41, p)]) (fun (p : Value) => [imm (TR.sl (TR.sl TR.int)) v0 x0, own2 32 3 TR.int v18 V393 l392, own 3 TR.int p ([wsub 0 y483] : (List Int))]) 3 #[true, true, true, true, true, true, true, true, true, true, true, true, false, false, false] (fun h488 => ?_) ?_
            · skip
              refine RA.meet (ι := Unit) (fun (p : Unit) => [(0, v0), (5, v18), (6, .int .i64 (i337 : Int)), (20, .int .i64 (((List.replicate (((y13).length : Int)).toNat ([] : (List Int)))).length : Int)), (21, .int .i64 (i337 : Int)), (24, v0), (25, .int .i64 ((x0).length : Int)), (26, .int .i64 (i446 : Int)), (30, v18), (31, .int .i64 (i337 : Int)), (35, rowv V393 i337), (40, .int .i64 (wsub 0 y483))]) (fun (p : Unit) => [imm (TR.sl (TR.sl TR.int)) v0 x0, own2 32 3 TR.int v18 V393 l392]) 4 #[true, true, true, true, true, true, true, true, true, true, true, false, false, false, false] (fun h489 => ?_) ?_
              · skip
                refine RA.meet (ι := Value) (fun (p : Value) => [(0, v0), (5, v18), (6, .int .i64 (i337 : Int)), (20, .int .i64 (((List.replicate (((y13).length : Int)).toNat ([] : (List Int)))).length : Int)), (21, .int .i64 (i337 : Int)), (24, v0), (25, .int .i64 ((x0).length : Int)), (26, .int .i64 (i446 : Int)), (30, v18), (31, .int .i64 (i337 : Int)), (34, adr v18 (i337 * 1)), (41, p)]) (fun (p : Value) => [imm (TR.sl (TR.sl TR.int)) v0 x0, own2 32 3 TR.int v18 V393 l392, own 3 TR.int p ([wsub 0 y483] : (List Int))]) 4 #[true, true, true, true, true, false, true, true, true, true, true, true, false, false, false] (fun h490 => ?_) ?_
                · skip
                  refine RA.meet (ι := Unit) (fun (p : Unit) => [(0, v0), (5, v18), (6, .int .i64 (i337 : Int)), (20, .int .i64 (((List.replicate (((y13).length : Int)).toNat ([] : (List Int)))).length : Int)), (21, .int .i64 (i337 : Int)), (24, v0), (25, .int .i64 ((x0).length : Int)), (26, .int .i64 (i446 : Int)), (30, v18), (31, .int .i64 (i337 : Int)), (34, adr v18 (i337 * 1)), (40, .int .i64 (wsub 0 y483))]) (fun (p : Unit) => [imm (TR.sl (TR.sl TR.int)) v0 x0, own2 32 3 TR.int v18 V393 l392]) 5 #[true, true, true, true, true, false, true, true, true, true, true, false, false, false, false] (fun h491 => ?_) ?_
                  · skip
                    refine RA.meet (ι := Unit) (fun (p : Unit) => [(0, v0), (5, v18), (6, .int .i64 (i337 : Int)), (20, .int .i64 (((List.replicate (((y13).length : Int)).toNat ([] : (List Int)))).length : Int)), (21, .int .i64 (i337 : Int)), (24, v0), (25, .int .i64 ((x0).length : Int)), (26, .int .i64 (i446 : Int)), (30, v18), (31, .int .i64 (i337 : Int)), (35, rowv V393 i337), (38, adr v461 (i337 * 1))]) (fun (p : Unit) => [imm (TR.sl (TR.sl TR.int)) v0 x0, own2 32 3 TR.int v18 V393 l392, imm (TR.sl TR.int) v461 y456]) 6 #[true, true, true, true, true, true, true, true, true, false, false, false, false, false, false] (fun h492 => ?_) ?_
                    · skip
                      refine RA.many [5, 9] (by kernel_rfl) ⟨⟨_, rfl, ?_⟩, ⟨_, rfl, ?_⟩, trivial⟩
                      · skip
                        refine RL.ldR (i := i337) (r := y481) 1 Try_ln32 rfl rfl rfl rfl (idx_some e482).2.2 ?_
                        refine RL.fin ?_
                        refine RA.next ?_
                        refine RA.relist 6 #[true, true, true, true, true, true, true, true, true, false, false, false, false, false, false] rfl (by kernel_rfl) ?_
                        exact fun a w st => h492 () a w (St.cut [0, 1, 2] ⟨rfl, rfl, rfl, rfl, rfl, rfl, rfl, rfl, rfl, rfl, rfl, rfl, trivial⟩ (by decide) rfl st)
                      · skip
                        refine RL.ldSx (i := i337) (e' := y483) 2 Ex.ik Try_ln3 rfl rfl rfl rfl SlOf.imm (idx_some e484).2.2 Part.self ?_
                        refine RL.fin ?_
                        refine RA.next ?_
                        refine RA.negI 10 rfl (by kernel_rfl) rfl rfl rfl ?_
                        refine RA.relist 5 #[true, true, true, true, true, false, true, true, true, true, true, false, false, false, false] rfl (by kernel_rfl) ?_
                        exact fun a w st => h491 () a w (St.cut [0, 1] ⟨rfl, rfl, rfl, rfl, rfl, rfl, rfl, rfl, rfl, rfl, rfl, rfl, trivial⟩ (by decide) rfl st)
                    · rintro ⟨⟩
                      refine RA.weak (env' := [(0, v0), (5, v18), (6, .int .i64 (i337 : Int)), (20, .int .i64 (((List.replicate (((y13).length : Int)).toNat ([] : (List Int)))).length : Int)), (21, .int .i64 (i337 : Int)), (24, v0), (25, .int .i64 ((x0).length : Int)), (26, .int .i64 (i446 : Int)), (30, v18), (31, .int .i64 (i337 : Int)), (35, rowv V393 i337), (38, adr v461 (i337 * 1))]) (L' := [imm (TR.sl (TR.sl TR.int)) v0 x0, own2 32 3 TR.int v18 V393 l392, imm (TR.sl TR.int) v461 y456]) (fun _ _ st => st) ?_
                      refine RA.seq 9 rfl (by kernel_rfl) ?_
                      · skip
                        refine RL.ldSx (i := i337) (e' := y483) 2 Ex.ik Try_ln3 rfl rfl rfl rfl SlOf.imm (idx_some e484).2.2 Part.self ?_
                        refine RL.fin ?_
                        refine RA.next ?_
                        refine RA.negI 10 rfl (by kernel_rfl) rfl rfl rfl ?_
                        refine RA.relist 4 #[true, true, true, true, true, true, true, true, true, true, true, false, false, false, false] rfl (by kernel_rfl) ?_
                        exact fun a w st => h489 () a w (St.cut [0, 1] ⟨rfl, rfl, rfl, rfl, rfl, rfl, rfl, rfl, rfl, rfl, rfl, rfl, trivial⟩ (by decide) rfl st)
                  · rintro ⟨⟩
                    refine RA.weak (env' := [(0, v0), (5, v18), (6, .int .i64 (i337 : Int)), (20, .int .i64 (((List.replicate (((y13).length : Int)).toNat ([] : (List Int)))).length : Int)), (21, .int .i64 (i337 : Int)), (24, v0), (25, .int .i64 ((x0).length : Int)), (26, .int .i64 (i446 : Int)), (30, v18), (31, .int .i64 (i337 : Int)), (34, adr v18 (i337 * 1)), (40, .int .i64 (wsub 0 y483))]) (L' := [imm (TR.sl (TR.sl TR.int)) v0 x0, own2 32 3 TR.int v18 V393 l392]) (fun _ _ st => st) ?_
                    refine RA.many [5, 11] (by kernel_rfl) ⟨⟨_, rfl, ?_⟩, ⟨_, rfl, ?_⟩, trivial⟩
                    · skip
                      refine RL.ldR (i := i337) (r := y481) 1 Try_ln32 rfl rfl rfl rfl (idx_some e482).2.2 ?_
                      refine RL.fin ?_
                      refine RA.next ?_
                      refine RA.relist 4 #[true, true, true, true, true, true, true, true, true, true, true, false, false, false, false] rfl (by kernel_rfl) ?_
                      exact fun a w st => h489 () a w (St.cut [0, 1] ⟨rfl, rfl, rfl, rfl, rfl, rfl, rfl, rfl, rfl, rfl, rfl, rfl, trivial⟩ (by decide) rfl st)
                    · skip
                      refine RL.bS (t := TR.int) (vs := [.int .i64 (wsub 0 y483)]) ([wsub 0 y483] : (List Int)) Try.underlying32 Try_lo3 rfl rfl rfl rfl ⟨VR.int, trivial⟩ rfl (by decide) ?_
                      intro v493
                      refine RL.fin ?_
                      refine RA.next ?_
                      refine RA.relist 4 #[true, true, true, true, true, false, true, true, true, true, true, true, false, false, false] rfl (by kernel_rfl) ?_
                      exact fun a w st => h490 v493 a w (St.cut [0, 1, 2] ⟨rfl, rfl, rfl, rfl, rfl, rfl, rfl, rfl, rfl, rfl, rfl, rfl, trivial⟩ (by decide) rfl st)
                · rintro v486
                  refine RA.weak (env' := [(0, v0), (5, v18), (6, .int .i64 (i337 : Int)), (20, .int .i64 (((List.replicate (((y13).length : Int)).toNat ([] : (List Int)))).length : Int)), (21, .int .i64 (i337 : Int)), (24, v0), (25, .int .i64 ((x0).length : Int)), (26, .int .i64 (i446 : Int)), (30, v18), (31, .int .i64 (i337 : Int)), (34, adr v18 (i337 * 1)), (41, v486)]) (L' := [imm (TR.sl (TR.sl TR.int)) v0 x0, own2 32 3 TR.int v18 V393 l392, own 3 TR.int v486 ([wsub 0 y483] : (List Int))]) (fun _ _ st => st) ?_
                  refine RA.seq 5 rfl (by kernel_rfl) ?_
                  · skip
                    refine RL.ldR (i := i337) (r := y481) 1 Try_ln32 rfl rfl rfl rfl (idx_some e482).2.2 ?_
                    refine RL.fin ?_
                    refine RA.next ?_
                    refine RA.relist 3 #[true, true, true, true, true, true, true, true, true, true, true, true, false, false, false] rfl (by kernel_rfl) ?_
                    exact fun a w st => h488 v486 a w (St.cut [0, 1, 2] ⟨rfl, rfl, rfl, rfl, rfl, rfl, rfl, rfl, rfl, rfl, rfl, rfl, trivial⟩ (by decide) rfl st)
              · rintro ⟨⟩
                refine RA.weak (env' := [(0, v0), (5, v18), (6, .int .i64 (i337 : Int)), (20, .int .i64 (((List.replicate (((y13).length : Int)).toNat ([] : (List Int)))).length : Int)), (21, .int .i64 (i337 : Int)), (24, v0), (25, .int .i64 ((x0).length : Int)), (26, .int .i64 (i446 : Int)), (30, v18), (31, .int .i64 (i337 : Int)), (35, rowv V393 i337), (40, .int .i64 (wsub 0 y483))]) (L' := [imm (TR.sl (TR.sl TR.int)) v0 x0, own2 32 3 TR.int v18 V393 l392]) (fun _ _ st => st) ?_
                refine RA.seq 11 rfl (by kernel_rfl) ?_
                · skip
                  refine RL.bS (t := TR.int) (vs := [.int .i64 (wsub 0 y483)]) ([wsub 0 y483] : (List Int)) Try.underlying32 Try_lo3 rfl rfl rfl rfl ⟨VR.int, trivial⟩ rfl (by decide) ?_
                  intro v494
                  refine RL.fin ?_
                  refine RA.next ?_
                  refine RA.relist 3 #[true, true, true, true, true, true, true, true, true, true, true, true, false, false, false] rfl (by kernel_rfl) ?_
                  exact fun a w st => h488 v494 a w (St.cut [0, 1, 2] ⟨rfl, rfl, rfl, rfl, rfl, rfl, rfl, rfl, rfl, rfl, rfl, rfl, trivial⟩ (by decide) rfl st)
            · rintro v487
              refine RA.weak (env' := [(0, v0), (5, v18), (6, .int .i64 (i337 : Int)), (20, .int .i64 (((List.replicate (((y13).length : Int)).toNat ([] : (List Int)))).length : Int)), (21, .int .i64 (i337 : Int)), (24, v0), (25, .int .i64 ((x0).length : Int)), (26, .int .i64 (i446 : Int)), (30, v18), (31, .int .i64 (i337 : Int)), (35, rowv V393 i337), (41, v487)]) (L' := [imm (TR.sl (TR.sl TR.int)) v0 x0, own2 32 3 TR.int v18 V393 l392, own 3 TR.int v487 ([wsub 0 y483] : (List Int))]) (fun _ _ st => st) ?_
              refine RA.seq 12 rfl (by kernel_rfl) ?_
              refine RL.weak (fun a w st => st.takeRow 1 rfl (idx_some e482).2.2) ?_
              obtain ⟨y495, e496, h449⟩ := bind_some h449
              replace e496 := chk_some e496
              refine RL.app 3 2 Try.underlying32 Try_lo3 rfl rfl rfl rfl rfl rfl rfl SlOf.own e496 ?_
              intro v497
              refine RL.fin ?_
              refine RA.next ?_
              refine RA.seq 13 rfl (by kernel_rfl) ?_
              obtain ⟨y498, e499, h449⟩ := bind_some h449
              refine RL.idxRX 1 Try.underlying22 Try_ln32 rfl rfl rfl rfl rfl (idx_some e499).1 (idx_some e499).2.1 ?_
              refine RL.fin ?_
              refine RA.next ?_
              refine RA.seq 14 rfl (by kernel_rfl) ?_
              refine RL.stSpX (i := i337) (r0 := y498) 1 3 (by decide) Try_ln32 rfl rfl rfl rfl rfl rfl (idx_some e499).2.2 ?_
              refine RL.fin ?_
              refine RA.next ?_
              refine RA.doneG (by kernel_rfl) ?_
              refine GL.weak (env' := [(0, v0), (5, v18), (6, .int .i64 (i337 : Int)), (20, .int .i64 (((List.replicate (((y13).length : Int)).toNat ([] : (List Int)))).length : Int)), (21, .int .i64 (i337 : Int)), (24, v0), (25, .int .i64 ((x0).length : Int)), (26, .int .i64 (i446 : Int))]) (L' := [imm (TR.sl (TR.sl TR.int)) v0 x0, own2 32 3 TR.int v18 (List.set V393 i337 v497) (List.set l392 i337 (y481 ++ ([wsub 0 y483] : (List Int))))]) (fun a w st => St.cut [0, 1] ⟨rfl, rfl, rfl, rfl, rfl, rfl, rfl, rfl, trivial⟩ (by decide) rfl st) ?_
              refine GL.nilB ?_
              refine GL.region ?_
              refine RL.binI (v := .int .i64 ((i446 + 1 : Nat) : Int)) rfl rfl rfl rfl (binI_succ i446 (by omega)) ?_
              refine RL.mv rfl rfl rfl ?_
              refine RL.fin ?_
              cases h449
              exact fun a w st => lop_intro (i446 + 1, r458, (List.set l392 i337 (y481 ++ ([wsub 0 y483] : (List Int)))), (List.set V393 i337 v497)) ⟨by show i446 + 1 + r458.length = (x0).length; simp only [List.length_cons] at h452; omega, h459, h450⟩ (by simp) (St.cut [0, 1] ⟨rfl, rfl, rfl, rfl, rfl, rfl, rfl, rfl, trivial⟩ (by decide) rfl st)
          · have h455 : ¬ i446 < (x0).length := by have := of_decide_eq_false b454; omega
            obtain rfl : r447 = [] := by rw [← h453]; exact List.drop_of_length_le (by omega)
            replace h451 : some (Fl.nx _) = some y439 := h451
            cases h451
            exact GL.exit (fun a w st => mid_intro (l392, V393) h442 (St.cut [0, 1] ⟨rfl, rfl, rfl, rfl, trivial⟩ (by decide) rfl st))
        · rintro ⟨l392, V393⟩ h500
          have h501 := h443 _ h500
          try dsimp only at h501
          refine GL.weak (env' := [(0, v0), (5, v18), (20, .int .i64 (((List.replicate (((y13).length : Int)).toNat ([] : (List Int)))).length : Int)), (21, .int .i64 (i337 : Int))]) (L' := [imm (TR.sl (TR.sl TR.int)) v0 x0, own2 32 3 TR.int v18 V393 l392]) (fun _ _ st => st) ?_
          refine GL.nilB ?_
          refine GL.region ?_
          refine RL.binI (v := .int .i64 ((i337 + 1 : Nat) : Int)) rfl rfl rfl rfl (binI_succ i337 (by omega)) ?_
          refine RL.mv rfl rfl rfl ?_
          refine RL.fin ?_
          cases h501
          exact fun a w st => lop_intro (i337 + 1, r347, l392, V393) ⟨by show i337 + 1 + r347 = ((List.replicate (((y13).length : Int)).toNat ([] : (List Int)))).length; omega, h341⟩ (by simp) (St.cut [0, 1] ⟨rfl, rfl, rfl, rfl, trivial⟩ (by decide) rfl st)
      · have h346 : ¬ i337 < ((List.replicate (((y13).length : Int)).toNat ([] : (List Int)))).length := by have := of_decide_eq_false b345; omega
        obtain rfl : r338 = 0 := by omega
        replace h342 : some (Fl.nx _) = some y330 := h342
        cases h342
        exact GL.exit (fun a w st => mid_intro (l173, V174) h333 (St.cut [1] ⟨rfl, trivial⟩ (by decide) rfl st))
    · rintro ⟨l173, V174⟩ h502
      have h503 := h334 _ h502
      try dsimp only at h503
      refine GL.weak (env' := [(5, v18)]) (L' := [own2 32 3 TR.int v18 V174 l173]) (fun _ _ st => st) ?_
      refine GL.seq ?_
      refine GL.region ?_
      refine RL.mv rfl rfl rfl ?_
      refine RL.asg rfl rfl rfl ?_
      refine RL.asg rfl rfl rfl ?_
      refine RL.finG ?_
      refine GL.weak (fun a w st => st.freeze2 0 rfl) ?_
      have h503 := Option.some.inj h503
      subst h503
      exact GL.ret (Gx.ret (v := .tuple #[v18, .int .i64 (0 : Int)]) (res2 rfl rfl rfl) (fun a w st => (st.pick [0] (by decide) rfl).toPost v18))

set_option maxHeartbeats 4000000 in
theorem slices_EqualFunc_int_int_int_int_c (S : Hp) (w : World) (hS : S.sub w) (v0 : Value) (x0 : (List (List Int))) (k0 : ((TR.sl (TR.sl TR.int))).vrep S v0 x0) (v1 : Value) (x1 : (List (List Int))) (k1 : ((TR.sl (TR.sl TR.int))).vrep S v1 x1) (f2 : FuncId) (c2 : Array Value) (t2 : Fit Try.prog f2) (g2 : (List Int) → (List Int) → Option Bool) (k2 : ∀ (U : Hp) (w' : World), Hp.le S U → U.sub w' → ∀ (u0 : Value) (a0 : (List Int)) (_ : ((TR.sl TR.int)).vrep U u0 a0) (u1 : Value) (a1 : (List Int)) (_ : ((TR.sl TR.int)).vrep U u1 a1) (rr : Bool), g2 a0 a1 = some rr → Calls Try.prog f2 (#[u0, u1] ++ c2) w' (PostV w' (.bool rr))) (res : Bool) (hm : slices_EqualFunc_int_int_int_int_m x0 x1 g2 = some res) : Calls Try.prog 27 #[v0, v1, .func (.func f2) #[] c2] w (PostV w (.bool res)) := by
  refine calls_enter 32 Try.func27 Try.ntmps27 rfl S false [(0, v0), (1, v1), (2, .func (.func f2) #[] c2)] [imm (TR.sl (TR.sl TR.int)) v0 x0, imm (TR.sl (TR.sl TR.int)) v1 x1] rfl ⟨rfl, ⟨rfl, ⟨rfl, trivial⟩⟩⟩ hS ⟨k0, ⟨k1, trivial⟩⟩ ?_
  unfold slices_EqualFunc_int_int_int_int_m at hm
  refine GL.seq ?_
  refine GL.region ?_
  refine RL.asg rfl rfl rfl ?_
  refine RL.finG ?_
  refine GL.seq ?_
  refine GL.seq ?_
  refine GL.region ?_
  refine RL.mv rfl rfl rfl ?_
  refine RL.lenS 0 Try.underlying22 rfl rfl rfl rfl SlOf.imm ?_
  refine RL.mv rfl rfl rfl ?_
  refine RL.lenS 1 Try.underlying22 rfl rfl rfl rfl SlOf.imm ?_
  refine RL.binI (v := .bool (((x0).length : Int) != ((x1).length : Int))) rfl rfl rfl rfl rfl ?_
  refine RL.finG ?_
  refine GL.cond rfl (fun b4 => ?_) (fun b4 => ?_)
  · replace hm := ite_t b4 hm
    refine GL.seq ?_
    refine GL.region ?_
    refine RL.asg rfl rfl rfl ?_
    refine RL.finG ?_
    have hm := Option.some.inj hm
    subst hm
    exact GL.ret (Gx.ret (v := .bool false) (res1 rfl rfl) (fun a w st => st.toPostV))
  · replace hm := ite_f b4 hm
    refine GL.skip ?_
    refine GL.seq ?_
    refine GL.seq ?_
    refine GL.region ?_
    refine RL.mv rfl rfl rfl ?_
    refine RL.lenS 0 Try.underlying22 rfl rfl rfl rfl SlOf.imm ?_
    refine RL.mv rfl rfl rfl ?_
    refine RL.finG ?_
    refine GL.open_ 0 rfl (fun S h => len_imm S h) (fun n22 => ?_)
    obtain ⟨y23, K24, h25, h26, h27, h28, h29⟩ := bindR_K hm
    refine GL.join (ι := Unit) (fun (p : Unit) => []) (fun (p : Unit) => []) (fun (p : Unit) => K24 (.nx ())) ?_ ?_
    · refine GL.block ?_
      refine GL.loop (ι := Nat × (List (List Int))) (fun (p : Nat × (List (List Int))) => [(1, v1), (2, .func (.func f2) #[] c2), (15, v0), (16, .int .i64 ((x0).length : Int)), (17, .int .i64 (p.1 : Int))]) (fun (p : Nat × (List (List Int))) => [imm (TR.sl (TR.sl TR.int)) v1 x1, imm (TR.sl (TR.sl TR.int)) v0 x0]) (fun (p : Nat × (List (List Int))) => p.1 + p.2.length = (x0).length ∧ List.drop p.1 x0 = p.2 ∧ rangeL (slices_EqualFunc_int_int_int_int_b1 x1 g2) p.2 p.1 () = some y23) (fun (p : Nat × (List (List Int))) => p.2.length) (0, x0) ⟨by simp, by simp, h25⟩ (fun a w st => St.cut [1, 0] ⟨rfl, rfl, rfl, rfl, rfl, trivial⟩ (by decide) rfl st) ?_
      rintro ⟨i30, r31⟩ ⟨h36, h37, h35⟩
      try dsimp only at h36 h37 h35
      refine GL.weak (env' := [(1, v1), (2, .func (.func f2) #[] c2), (15, v0), (16, .int .i64 ((x0).length : Int)), (17, .int .i64 (i30 : Int))]) (L' := [imm (TR.sl (TR.sl TR.int)) v1 x1, imm (TR.sl (TR.sl TR.int)) v0 x0]) (fun _ _ st => st) ?_
      refine GL.seq ?_
      refine GL.region ?_
      refine RL.binI (v := .bool (decide ((i30 : Int) < ((x0).length : Int)))) rfl rfl rfl rfl rfl ?_
      refine RL.finG ?_
      refine GL.seq ?_
      refine GL.cond rfl (fun b38 => ?_) (fun b38 => ?_)
      · have h39 : i30 < (x0).length := by have := of_decide_eq_true b38; omega
        obtain ⟨y40, r42, hr, e41, h43⟩ := drop_cons h37 rfl h39
        subst hr
        obtain ⟨z32, h33, h34⟩ := rangeL_some h35
        unfold slices_EqualFunc_int_int_int_int_b1 at h33
        try dsimp only at h33
        refine GL.skip ?_
        refine GL.seq ?_
        refine GL.block ?_
        refine GL.seq ?_
        refine GL.region ?_
        refine RL.mv rfl rfl rfl ?_
        refine RL.idxS (sz := 1) 1 Try.underlying22 Try_ln32 rfl rfl rfl rfl rfl SlOf.imm (by omega) (by omega) ?_
        refine RL.ldS (i := i30) (r := (TR.sl TR.int)) (e' := y40) 1 Try_ln32 rfl rfl rfl rfl SlOf.imm e41 Part.self ?_
        intro v45
        refine RL.asg rfl rfl rfl ?_
        refine RL.asg rfl rfl rfl ?_
        refine RL.finG ?_
        refine GL.seq ?_
        refine GL.region ?_
        refine RL.mv rfl rfl rfl ?_
        refine RL.mv rfl rfl rfl ?_
        obtain ⟨y49, e50, h33⟩ := bind_some h33
        refine RL.idxS (sz := 1) 0 Try.underlying22 Try_ln32 rfl rfl rfl rfl rfl SlOf.imm (idx_some e50).1 (idx_some e50).2.1 ?_
        refine RL.ldS (i := i30) (r := (TR.sl TR.int)) (e' := y49) 0 Try_ln32 rfl rfl rfl rfl SlOf.imm (idx_some e50).2.2 Part.self ?_
        intro v51
        refine RL.reL (L' := [imm (TR.sl (TR.sl TR.int)) v1 x1, imm (TR.sl (TR.sl TR.int)) v0 x0, imm (TR.sl TR.int) v45 y40, imm (TR.sl TR.int) v51 y49]) rfl ?_
        refine RL.asg rfl rfl rfl ?_
        refine RL.finG ?_
        refine GL.seq ?_
        refine GL.region ?_
        refine RL.mv rfl rfl rfl ?_
        refine RL.mv rfl rfl rfl ?_
        refine RL.mv rfl rfl rfl ?_
        obtain ⟨y54, e55, h33⟩ := bind_some h33
        refine RL.callV (v := .bool y54) (vs := [v45, v51]) t2 rfl (Or.inl rfl) rfl rfl rfl rfl (fun U w hU hW hL => k2 U w hW hU _ _ (hL 2 _ _ rfl Seen.imm) _ _ (hL 3 _ _ rfl Seen.imm) _ e55) ?_
        refine RL.notB rfl rfl rfl ?_
        refine RL.finG ?_
        refine GL.cond rfl (fun b56 => ?_) (fun b56 => ?_)
        · replace h33 := ite_t b56 h33
          refine GL.seq ?_
          refine GL.region ?_
          refine RL.asg rfl rfl rfl ?_
          refine RL.finG ?_
          cases h33
          replace h34 : some (Fl.rt _) = some y23 := h34
          cases h34
          have hh := h28 _ h26
          subst hh
          exact GL.ret (Gx.ret (v := .bool false) (res1 rfl rfl) (fun a w st => st.toPostV))
        · replace h33 := ite_f b56 h33
          refine GL.skip ?_
          refine GL.nilB ?_
          refine GL.region ?_
          refine RL.binI (v := .int .i64 ((i30 + 1 : Nat) : Int)) rfl rfl rfl rfl (binI_succ i30 (by omega)) ?_
          refine RL.mv rfl rfl rfl ?_
          refine RL.fin ?_
          cases h33
          exact fun a w st => lop_intro (i30 + 1, r42) ⟨by show i30 + 1 + r42.length = (x0).length; simp only [List.length_cons] at h36; omega, h43, h34⟩ (by simp) (St.cut [0, 1] ⟨rfl, rfl, rfl, rfl, rfl, trivial⟩ (by decide) rfl st)
      · have h39 : ¬ i30 < (x0).length := by have := of_decide_eq_false b38; omega
        obtain rfl : r31 = [] := by rw [← h37]; exact List.drop_of_length_le (by omega)
        replace h35 : some (Fl.nx _) = some y23 := h35
        cases h35
        exact GL.exit (fun a w st => mid_intro () h26 (St.cut [] trivial (by decide) rfl st))
    · rintro ⟨⟩ h57
      have h58 := h27 _ h57
      try dsimp only at h58
      refine GL.weak (env' := []) (L' := []) (fun _ _ st => st) ?_
      refine GL.seq ?_
      refine GL.region ?_
      refine RL.asg rfl rfl rfl ?_
      refine RL.finG ?_
      have h58 := Option.some.inj h58
      subst h58
      exact GL.ret (Gx.ret (v := .bool true) (res1 rfl rfl) (fun a w st => st.toPostV))

set_option maxHeartbeats 4000000 in
theorem slices_Equal_int_int_c (S : Hp) (w : World) (hS : S.sub w) (v0 : Value) (x0 : (List Int)) (k0 : ((TR.sl TR.int)).vrep S v0 x0) (v1 : Value) (x1 : (List Int)) (k1 : ((TR.sl TR.int)).vrep S v1 x1) (res : Bool) (hm : slices_Equal_int_int_m x0 x1 = some res) : Calls Try.prog 28 #[v0, v1] w (PostV w (.bool res)) := by
  refine calls_enter 26 Try.func28 Try.ntmps28 rfl S false [(0, v0), (1, v1)] [imm (TR.sl TR.int) v0 x0, imm (TR.sl TR.int) v1 x1] rfl ⟨rfl, ⟨rfl, trivial⟩⟩ hS ⟨k0, ⟨k1, trivial⟩⟩ ?_
  unfold slices_Equal_int_int_m at hm
  refine GL.seq ?_
  refine GL.region ?_
  refine RL.asg rfl rfl rfl ?_
  refine RL.finG ?_
  refine GL.seq ?_
  refine GL.seq ?_
  refine GL.region ?_
  refine RL.mv rfl rfl rfl ?_
  refine RL.lenS 0 Try.underlying32 rfl rfl rfl rfl SlOf.imm ?_
  refine RL.mv rfl rfl rfl ?_
  refine RL.lenS 1 Try.underlying32 rfl rfl rfl rfl SlOf.imm ?_
  refine RL.binI (v := .bool (((x0).length : Int) != ((x1).length : Int))) rfl rfl rfl rfl rfl ?_
  refine RL.finG ?_
  refine GL.cond rfl (fun b3 => ?_) (fun b3 => ?_)
  · replace hm := ite_t b3 hm
    refine GL.seq ?_
    refine GL.region ?_
    refine RL.asg rfl rfl rfl ?_
    refine RL.finG ?_
    have hm := Option.some.inj hm
    subst hm
    exact GL.ret (Gx.ret (v := .bool false) (res1 rfl rfl) (fun a w st => st.toPostV))
  · replace hm := ite_f b3 hm
    refine GL.skip ?_
    refine GL.seq ?_
    refine GL.seq ?_
    refine GL.region ?_
    refine RL.mv rfl rfl rfl ?_
    refine RL.lenS 0 Try.underlying32 rfl rfl rfl rfl SlOf.imm ?_
    refine RL.mv rfl rfl rfl ?_
    refine RL.finG ?_
    refine GL.open_ 0 rfl (fun S h => len_imm S h) (fun n13 => ?_)
    obtain ⟨y14, K15, h16, h17, h18, h19, h20⟩ := bindR_K hm
    refine GL.join (ι := Unit) (fun (p : Unit) => []) (fun (p : Unit) => []) (fun (p : Unit) => K15 (.nx ())) ?_ ?_
    · refine GL.block ?_
      refine GL.loop (ι := Nat × (List Int)) (fun (p : Nat × (List Int)) => [(0, v0), (1, v1), (12, .int .i64 ((x0).length : Int)), (13, .int .i64 (p.1 : Int))]) (fun (p : Nat × (List Int)) => [imm (TR.sl TR.int) v0 x0, imm (TR.sl TR.int) v1 x1]) (fun (p : Nat × (List Int)) => p.1 + p.2.length = (x0).length ∧ List.drop p.1 x0 = p.2 ∧ rangeL (slices_Equal_int_int_b1 x1) p.2 p.1 () = some y14) (fun (p : Nat × (List Int)) => p.2.length) (0, x0) ⟨by simp, by simp, h16⟩ (fun a w st => St.cut [0, 1] ⟨rfl, rfl, rfl, rfl, trivial⟩ (by decide) rfl st) ?_
      rintro ⟨i21, r22⟩ ⟨h27, h28, h26⟩
      try dsimp only at h27 h28 h26
      refine GL.weak (env' := [(0, v0), (1, v1), (12, .int .i64 ((x0).length : Int)), (13, .int .i64 (i21 : Int))]) (L' := [imm (TR.sl TR.int) v0 x0, imm (TR.sl TR.int) v1 x1]) (fun _ _ st => st) ?_
      refine GL.seq ?_
      refine GL.region ?_
      refine RL.binI (v := .bool (decide ((i21 : Int) < ((x0).length : Int)))) rfl rfl rfl rfl rfl ?_
      refine RL.finG ?_
      refine GL.seq ?_
      refine GL.cond rfl (fun b29 => ?_) (fun b29 => ?_)
      · have h30 : i21 < (x0).length := by have := of_decide_eq_true b29; omega
        obtain ⟨y31, r33, hr, e32, h34⟩ := drop_cons h28 rfl h30
        subst hr
        obtain ⟨z23, h24, h25⟩ := rangeL_some h26
        unfold slices_Equal_int_int_b1 at h24
        try dsimp only at h24
        refine GL.skip ?_
        refine GL.seq ?_
        refine GL.block ?_
        refine GL.seq ?_
        refine GL.region ?_
        refine RL.mv rfl rfl rfl ?_
        refine RL.asg rfl rfl rfl ?_
        refine RL.finG ?_
        refine GL.seq ?_
        refine GL.regionQ rfl rfl (by kernel_rfl) ?_
        refine RL.mv rfl rfl rfl ?_
        refine RL.mv rfl rfl rfl ?_
        refine RL.idxS (sz := 1) 0 Try.underlying32 Try_ln3 rfl rfl rfl rfl rfl SlOf.imm (by omega) (by omega) ?_
        refine RL.ldSx (i := i21) (e' := y31) 0 Ex.ik Try_ln3 rfl rfl rfl rfl SlOf.imm e32 Part.self ?_
        refine RL.mv rfl rfl rfl ?_
        refine RL.mv rfl rfl rfl ?_
        obtain ⟨y37, e38, h24⟩ := bind_some h24
        refine RL.idxS (sz := 1) 1 Try.underlying32 Try_ln3 rfl rfl rfl rfl rfl SlOf.imm (idx_some e38).1 (idx_some e38).2.1 ?_
        refine RL.ldSx (i := i21) (e' := y37) 1 Ex.ik Try_ln3 rfl rfl rfl rfl SlOf.imm (idx_some e38).2.2 Part.self ?_
        refine RL.binI (v := .bool (y31 != y37)) rfl rfl rfl rfl rfl ?_
        refine RL.finQG ?_
        refine GL.cond rfl (fun b39 => ?_) (fun b39 => ?_)
        · replace h24 := ite_t b39 h24
          refine GL.seq ?_
          refine GL.region ?_
          refine RL.asg rfl rfl rfl ?_
          refine RL.finG ?_
          cases h24
          replace h25 : some (Fl.rt _) = some y14 := h25
          cases h25
          have hh := h19 _ h17
          subst hh
          exact GL.ret (Gx.ret (v := .bool false) (res1 rfl rfl) (fun a w st => st.toPostV))
        · replace h24 := ite_f b39 h24
          refine GL.skip ?_
          refine GL.nilB ?_
          refine GL.region ?_
          refine RL.binI (v := .int .i64 ((i21 + 1 : Nat) : Int)) rfl rfl rfl rfl (binI_succ i21 (by omega)) ?_
          refine RL.mv rfl rfl rfl ?_
          refine RL.fin ?_
          cases h24
          exact fun a w st => lop_intro (i21 + 1, r33) ⟨by show i21 + 1 + r33.length = (x0).length; simp only [List.length_cons] at h27; omega, h34, h25⟩ (by simp) (St.cut [0, 1] ⟨rfl, rfl, rfl, rfl, trivial⟩ (by decide) rfl st)
      · have h30 : ¬ i21 < (x0).length := by have := of_decide_eq_false b29; omega
        obtain rfl : r22 = [] := by rw [← h28]; exact List.drop_of_length_le (by omega)
        replace h26 : some (Fl.nx _) = some y14 := h26
        cases h26
        exact GL.exit (fun a w st => mid_intro () h17 (St.cut [] trivial (by decide) rfl st))
    · rintro ⟨⟩ h40
      have h41 := h18 _ h40
      try dsimp only at h41
      refine GL.weak (env' := []) (L' := []) (fun _ _ st => st) ?_
      refine GL.seq ?_
      refine GL.region ?_
      refine RL.asg rfl rfl rfl ?_
      refine RL.finG ?_
      have h41 := Option.some.inj h41
      subst h41
      exact GL.ret (Gx.ret (v := .bool true) (res1 rfl rfl) (fun a w st => st.toPostV))

set_option maxHeartbeats 4000000 in
theorem slices_Index_pairs_c (S : Hp) (w : World) (hS : S.sub w) (v0 : Value) (x0 : (List (List Int))) (k0 : ((TR.sl (TR.arr 2 TR.int))).vrep S v0 x0) (v1 : Value) (x1 : (List Int)) (k1 : ((TR.arr 2 TR.int)).vrep S v1 x1) (res : Int) (hm : slices_Index_pairs_m x0 x1 = some res) : Calls Try.prog 40 #[v0, v1] w (PostV w (.int .i64 res)) := by
  refine calls_enter 19 Try.func40 Try.ntmps40 rfl S false [(0, v0), (1, v1)] [imm (TR.sl (TR.arr 2 TR.int)) v0 x0, imm (TR.arr 2 TR.int) v1 x1] rfl ⟨rfl, ⟨rfl, trivial⟩⟩ hS ⟨k0, ⟨k1, trivial⟩⟩ ?_
  unfold slices_Index_pairs_m at hm
  refine GL.seq ?_
  refine GL.region ?_
  refine RL.box (t := (TR.arr 2 TR.int)) (e := x1) rfl rfl rfl rfl (VR.item 1 rfl) ?_
  intro v4
  refine RL.asg rfl rfl rfl ?_
  refine RL.finG ?_
  refine GL.seq ?_
  refine GL.seq ?_
  refine GL.region ?_
  refine RL.mv rfl rfl rfl ?_
  refine RL.lenS 0 Try.underlying35 rfl rfl rfl rfl SlOf.imm ?_
  refine RL.mv rfl rfl rfl ?_
  refine RL.finG ?_
  refine GL.open_ 0 rfl (fun S h => len_imm S h) (fun n14 => ?_)
  obtain ⟨y15, K16, h17, h18, h19, h20, h21⟩ := bindR_K hm
  refine GL.join (ι := Unit) (fun (p : Unit) => []) (fun (p : Unit) => []) (fun (p : Unit) => K16 (.nx ())) ?_ ?_
  · refine GL.block ?_
    refine GL.loop (ι := Nat × (List (List Int))) (fun (p : Nat × (List (List Int))) => [(0, v0), (3, v4), (7, .int .i64 ((x0).length : Int)), (8, .int .i64 (p.1 : Int))]) (fun (p : Nat × (List (List Int))) => [imm (TR.sl (TR.arr 2 TR.int)) v0 x0, obox 34 (TR.arr 2 TR.int) v4 x1]) (fun (p : Nat × (List (List Int))) => p.1 + p.2.length = (x0).length ∧ List.drop p.1 x0 = p.2 ∧ rangeL (slices_Index_pairs_b1 x1) p.2 p.1 () = some y15) (fun (p : Nat × (List (List Int))) => p.2.length) (0, x0) ⟨by simp, by simp, h17⟩ (fun a w st => St.cut [0, 2] ⟨rfl, rfl, rfl, rfl, trivial⟩ (by decide) rfl st) ?_
    rintro ⟨i22, r23⟩ ⟨h28, h29, h27⟩
    try dsimp only at h28 h29 h27
    refine GL.weak (env' := [(0, v0), (3, v4), (7, .int .i64 ((x0).length : Int)), (8, .int .i64 (i22 : Int))]) (L' := [imm (TR.sl (TR.arr 2 TR.int)) v0 x0, obox 34 (TR.arr 2 TR.int) v4 x1]) (fun _ _ st => st) ?_
    refine GL.seq ?_
    refine GL.region ?_
    refine RL.binI (v := .bool (decide ((i22 : Int) < ((x0).length : Int)))) rfl rfl rfl rfl rfl ?_
    refine RL.finG ?_
    refine GL.seq ?_
    refine GL.cond rfl (fun b30 => ?_) (fun b30 => ?_)
    · have h31 : i22 < (x0).length := by have := of_decide_eq_true b30; omega
      obtain ⟨y32, r34, hr, e33, h35⟩ := drop_cons h29 rfl h31
      subst hr
      obtain ⟨z24, h25, h26⟩ := rangeL_some h27
      unfold slices_Index_pairs_b1 at h25
      try dsimp only at h25
      refine GL.skip ?_
      refine GL.seq ?_
      refine GL.block ?_
      refine GL.seq ?_
      refine GL.region ?_
      refine RL.mv rfl rfl rfl ?_
      refine RL.asg rfl rfl rfl ?_
      refine RL.finG ?_
      refine GL.seq ?_
      refine GL.regionQ rfl rfl (by kernel_rfl) ?_
      refine RL.ldP (off := 0) (r := (TR.arr 2 TR.int)) (e' := x1) 1 Try_ln34 rfl rfl (Or.inr ⟨rfl, rfl⟩) rfl PtOf.obox Part.self ?_
      intro v38
      refine RL.mv rfl rfl rfl ?_
      refine RL.mv rfl rfl rfl ?_
      refine RL.idxS (sz := 2) 0 Try.underlying35 Try_ln34 rfl rfl rfl rfl rfl SlOf.imm (by omega) (by omega) ?_
      refine RL.ldS (i := i22) (r := (TR.arr 2 TR.int)) (e' := y32) 0 Try_ln34 rfl rfl rfl rfl SlOf.imm e33 Part.self ?_
      intro v39
      refine RL.reL (L' := [imm (TR.sl (TR.arr 2 TR.int)) v0 x0, obox 34 (TR.arr 2 TR.int) v4 x1, imm (TR.arr 2 TR.int) v38 x1, imm (TR.arr 2 TR.int) v39 y32]) rfl ?_
      refine RL.eqG (t := (TR.arr 2 TR.int)) (e := x1) (e' := y32) rfl Try_eq34 (by decide) Try.eqGuardType34 rfl rfl rfl rfl (VR.item 2 rfl) (VR.item 3 rfl) ?_
      refine RL.finQG ?_
      refine GL.cond rfl (fun b40 => ?_) (fun b40 => ?_)
      · replace h25 := ite_t b40 h25
        refine GL.seq ?_
        refine GL.region ?_
        refine RL.mv rfl rfl rfl ?_
        refine RL.asg rfl rfl rfl ?_
        refine RL.finG ?_
        cases h25
        replace h26 : some (Fl.rt _) = some y15 := h26
        cases h26
        have hh := h20 _ h18
        subst hh
        exact GL.ret (Gx.ret (v := .int .i64 (i22 : Int)) (res1 rfl rfl) (fun a w st => st.toPostV))
      · replace h25 := ite_f b40 h25
        refine GL.skip ?_
        refine GL.nilB ?_
        refine GL.region ?_
        refine RL.binI (v := .int .i64 ((i22 + 1 : Nat) : Int)) rfl rfl rfl rfl (binI_succ i22 (by omega)) ?_
        refine RL.mv rfl rfl rfl ?_
        refine RL.fin ?_
        cases h25
        exact fun a w st => lop_intro (i22 + 1, r34) ⟨by show i22 + 1 + r34.length = (x0).length; simp only [List.length_cons] at h28; omega, h35, h26⟩ (by simp) (St.cut [0, 1] ⟨rfl, rfl, rfl, rfl, trivial⟩ (by decide) rfl st)
    · have h31 : ¬ i22 < (x0).length := by have := of_decide_eq_false b30; omega
      obtain rfl : r23 = [] := by rw [← h29]; exact List.drop_of_length_le (by omega)
      replace h27 : some (Fl.nx _) = some y15 := h27
      cases h27
      exact GL.exit (fun a w st => mid_intro () h18 (St.cut [] trivial (by decide) rfl st))
  · rintro ⟨⟩ h41
    have h42 := h19 _ h41
    try dsimp only at h42
    refine GL.weak (env' := []) (L' := []) (fun _ _ st => st) ?_
    refine GL.seq ?_
    refine GL.region ?_
    refine RL.asg rfl rfl rfl ?_
    refine RL.finG ?_
    have h42 := Option.some.inj h42
    subst h42
    exact GL.ret (Gx.ret (v := .int .i64 (-1 : Int)) (res1 rfl rfl) (fun a w st => st.toPostV))

set_option maxHeartbeats 4000000 in
theorem slices_Contains_pairs_c (S : Hp) (w : World) (hS : S.sub w) (v0 : Value) (x0 : (List (List Int))) (k0 : ((TR.sl (TR.arr 2 TR.int))).vrep S v0 x0) (v1 : Value) (x1 : (List Int)) (k1 : ((TR.arr 2 TR.int)).vrep S v1 x1) (res : Bool) (hm : slices_Contains_pairs_m x0 x1 = some res) : Calls Try.prog 22 #[v0, v1] w (PostV w (.bool res)) := by
  refine calls_enter 9 Try.func22 Try.ntmps22 rfl S false [(0, v0), (1, v1)] [imm (TR.sl (TR.arr 2 TR.int)) v0 x0, imm (TR.arr 2 TR.int) v1 x1] rfl ⟨rfl, ⟨rfl, trivial⟩⟩ hS ⟨k0, ⟨k1, trivial⟩⟩ ?_
  unfold slices_Contains_pairs_m at hm
  refine GL.seq ?_
  refine GL.region ?_
  refine RL.box (t := (TR.arr 2 TR.int)) (e := x1) rfl rfl rfl rfl (VR.item 1 rfl) ?_
  intro v4
  refine RL.asg rfl rfl rfl ?_
  refine RL.finG ?_
  refine GL.seq ?_
  refine GL.region ?_
  refine RL.mv rfl rfl rfl ?_
  refine RL.ldP (off := 0) (r := (TR.arr 2 TR.int)) (e' := x1) 2 Try_ln34 rfl rfl (Or.inr ⟨rfl, rfl⟩) rfl PtOf.obox Part.self ?_
  intro v8
  refine RL.reL (L' := [imm (TR.sl (TR.arr 2 TR.int)) v0 x0, imm (TR.arr 2 TR.int) v1 x1, obox 34 (TR.arr 2 TR.int) v4 x1, imm (TR.arr 2 TR.int) v8 x1]) rfl ?_
  obtain ⟨y9, e10, hm⟩ := bind_some hm
  refine RL.callV (v := .int .i64 y9) (vs := [v0, v8]) Try_fit40 rfl (Or.inl rfl) rfl rfl rfl rfl (fun U w hU hW hL => slices_Index_pairs_c U w hU _ _ (hL 0 _ _ rfl Seen.imm) _ _ (hL 3 _ _ rfl Seen.imm) _ e10) ?_
  refine RL.binI (v := .bool (decide (y9 ≥ (0 : Int)))) rfl rfl rfl rfl rfl ?_
  refine RL.asg rfl rfl rfl ?_
  refine RL.finG ?_
  have hm := Option.some.inj hm
  subst hm
  exact GL.ret (Gx.ret (v := .bool (decide (y9 ≥ (0 : Int)))) (res1 rfl rfl) (fun a w st => st.toPostV))

set_option maxHeartbeats 4000000 in
theorem pk_SaddleTurned_c (S : Hp) (w : World) (hS : S.sub w) (v0 : Value) (x0 : (List (List Int))) (k0 : ((TR.sl (TR.sl TR.int))).vrep S v0 x0) (res : Bool) (hm : pk_SaddleTurned_m x0 = some res) : Calls Try.prog 8 #[v0] w (PostV w (.bool res)) := by
  refine calls_enter 106 Try.func8 Try.ntmps8 rfl S false [(0, v0)] [imm (TR.sl (TR.sl TR.int)) v0 x0] rfl ⟨rfl, trivial⟩ hS ⟨k0, trivial⟩ ?_
  unfold pk_SaddleTurned_m at hm
  refine GL.seq ?_
  refine GL.region ?_
  refine RL.asg rfl rfl rfl ?_
  refine RL.finG ?_
  refine GL.seq ?_
  refine GL.seq ?_
  refine GL.region ?_
  obtain ⟨y4, e5, hm⟩ := bind_some hm
  refine RL.callV (v := .bool y4) (vs := []) Try_fit19 rfl (Or.inl rfl) rfl rfl rfl rfl (fun U w hU hW hL => pk_saddles_c U w hU  _ e5) ?_
  refine RL.notB rfl rfl rfl ?_
  refine RL.finG ?_
  refine GL.cond rfl (fun b6 => ?_) (fun b6 => ?_)
  · replace hm := ite_t b6 hm
    refine GL.seq ?_
    refine GL.region ?_
    refine RL.asg rfl rfl rfl ?_
    refine RL.finG ?_
    have hm := Option.some.inj hm
    subst hm
    exact GL.ret (Gx.ret (v := .bool false) (res1 rfl rfl) (fun a w st => st.toPostV))
  · replace hm := ite_f b6 hm
    refine GL.skip ?_
    refine GL.seq ?_
    refine GL.region ?_
    refine RL.mv rfl rfl rfl ?_
    obtain ⟨y10, e11, hm⟩ := bind_some hm
    refine RL.call (vs := [v0]) Try_fit25 rfl rfl rfl rfl rfl (fun S f w hS hW hi => saddle_Turned_c S w hS _ _ (hi 0 _ rfl) _ e11) ?_
    intro v12
    refine RL.mv rfl rfl rfl ?_
    refine RL.ext rfl rfl rfl rfl ?_
    refine RL.ext rfl rfl rfl rfl ?_
    refine RL.asg rfl rfl rfl ?_
    refine RL.asg rfl rfl rfl ?_
    refine RL.finG ?_
    refine GL.seq ?_
    refine GL.seq ?_
    refine GL.region ?_
    refine RL.mv rfl rfl rfl ?_
    refine RL.binI (v := .bool (y10.2 != (0 : Int))) rfl rfl rfl rfl rfl ?_
    refine RL.finG ?_
    refine GL.cond rfl (fun b13 => ?_) (fun b13 => ?_)
    · replace hm := ite_t b13 hm
      refine GL.seq ?_
      refine GL.region ?_
      refine RL.mv rfl rfl rfl ?_
      refine RL.lenS 1 Try.underlying22 rfl rfl rfl rfl SlOf.imm ?_
      refine RL.binI (v := .bool (((y10.1).length : Int) == (0 : Int))) rfl rfl rfl rfl rfl ?_
      refine RL.asg rfl rfl rfl ?_
      refine RL.finG ?_
      have hm := Option.some.inj hm
      subst hm
      exact GL.ret (Gx.ret (v := .bool (((y10.1).length : Int) == (0 : Int))) (res1 rfl rfl) (fun a w st => st.toPostV))
    · replace hm := ite_f b13 hm
      refine GL.skip ?_
      refine GL.seq ?_
      refine GL.region ?_
      refine RL.mv rfl rfl rfl ?_
      obtain ⟨y17, e18, hm⟩ := bind_some hm
      refine RL.call (vs := [v12]) Try_fit25 rfl rfl rfl rfl rfl (fun S f w hS hW hi => saddle_Turned_c S w hS _ _ (hi 1 _ rfl) _ e18) ?_
      intro v19
      refine RL.reL (L' := [imm (TR.sl (TR.sl TR.int)) v0 x0, imm (TR.sl (TR.sl TR.int)) v12 y10.1, imm (TR.sl (TR.sl TR.int)) v19 y17.1]) rfl ?_
      refine RL.mv rfl rfl rfl ?_
      refine RL.ext rfl rfl rfl rfl ?_
      refine RL.ext rfl rfl rfl rfl ?_
      refine RL.asg rfl rfl rfl ?_
      refine RL.asg rfl rfl rfl ?_
      refine RL.finG ?_
      refine GL.seq ?_
      refine GL.region ?_
      refine RL.mv rfl rfl rfl ?_
      obtain ⟨y22, e23, hm⟩ := bind_some hm
      refine RL.callC (v := .tuple #[.int .i64 y22.1, .int .i64 y22.2.1, .int .i64 y22.2.2]) (vs := [v0]) Try_fit20 rfl rfl rfl rfl (fun U w hU hW hL => saddle_Bounds_c U w hU _ _ (hL 0 _ _ rfl Seen.imm) _ e23) ?_
      refine RL.mv rfl rfl rfl ?_
      refine RL.ext rfl rfl rfl rfl ?_
      refine RL.ext rfl rfl rfl rfl ?_
      refine RL.ext rfl rfl rfl rfl ?_
      refine RL.asg rfl rfl rfl ?_
      refine RL.asg rfl rfl rfl ?_
      refine RL.asg rfl rfl rfl ?_
      refine RL.finG ?_
      refine GL.seq ?_
      refine GL.region ?_
      refine RL.mv rfl rfl rfl ?_
      obtain ⟨y26, e27, hm⟩ := bind_some hm
      refine RL.callC (v := .tuple #[.int .i64 y26.1, .int .i64 y26.2.1, .int .i64 y26.2.2]) (vs := [v12]) Try_fit20 rfl rfl rfl rfl (fun U w hU hW hL => saddle_Bounds_c U w hU _ _ (hL 1 _ _ rfl Seen.imm) _ e27) ?_
      refine RL.mv rfl rfl rfl ?_
      refine RL.ext rfl rfl rfl rfl ?_
      refine RL.ext rfl rfl rfl rfl ?_
      refine RL.ext rfl rfl rfl rfl ?_
      refine RL.asg rfl rfl rfl ?_
      refine RL.asg rfl rfl rfl ?_
      refine RL.asg rfl rfl rfl ?_
      refine RL.finG ?_
      refine GL.seq ?_
      refine GL.region ?_
      refine RL.mv rfl rfl rfl ?_
      obtain ⟨y31, e32, hm⟩ := bind_some hm
      refine RL.call (vs := [v0]) Try_fit21 rfl rfl rfl rfl rfl (fun S f w hS hW hi => saddle_Points_c S w hS _ _ (hi 0 _ rfl) _ e32) ?_
      intro v33
      refine RL.mv rfl rfl rfl ?_
      refine RL.ext rfl rfl rfl rfl ?_
      refine RL.ext rfl rfl rfl rfl ?_
      refine RL.asg rfl rfl rfl ?_
      refine RL.asg rfl rfl rfl ?_
      refine RL.finG ?_
      refine GL.seq ?_
      refine GL.region ?_
      refine RL.mv rfl rfl rfl ?_
      obtain ⟨y37, e38, hm⟩ := bind_some hm
      refine RL.call (vs := [v12]) Try_fit21 rfl rfl rfl rfl rfl (fun S f w hS hW hi => saddle_Points_c S w hS _ _ (hi 1 _ rfl) _ e38) ?_
      intro v39
      refine RL.reL (L' := [imm (TR.sl (TR.sl TR.int)) v0 x0, imm (TR.sl (TR.sl TR.int)) v12 y10.1, imm (TR.sl (TR.sl TR.int)) v19 y17.1, own 34 (TR.arr 2 TR.int) v33 y31.1, own 34 (TR.arr 2 TR.int) v39 y37.1]) rfl ?_
      refine RL.mv rfl rfl rfl ?_
      refine RL.ext rfl rfl rfl rfl ?_
      refine RL.ext rfl rfl rfl rfl ?_
      refine RL.asg rfl rfl rfl ?_
      refine RL.asg rfl rfl rfl ?_
      refine RL.finG ?_
      refine GL.seq ?_
      refine GL.seq ?_
      obtain ⟨y59, K60, h61, h62, h63, h64, h65⟩ := bindR_K hm
      refine GL.join (ι := Bool) (fun (p : Bool) => [(13, v33), (15, v39), (90, .bool p)]) (fun (p : Bool) => [own 34 (TR.arr 2 TR.int) v33 y31.1, own 34 (TR.arr 2 TR.int) v39 y37.1]) (fun (p : Bool) => K60 (.nx p)) ?_ ?_
      · skip
        refine GL.region ?_
        refine RL.mv rfl rfl rfl ?_
        refine RL.mv rfl rfl rfl ?_
        refine RL.mv rfl rfl rfl ?_
        refine RL.mv rfl rfl rfl ?_
        refine RL.mv rfl rfl rfl ?_
        refine RL.bS (t := TR.int) (vs := [.int .i64 y17.2, .int .i64 y22.2.2, .int .i64 y26.2.2, .int .i64 y31.2, .int .i64 y37.2]) ([y17.2, y22.2.2, y26.2.2, y31.2, y37.2] : (List Int)) Try.underlying61 Try_lo27 rfl rfl rfl rfl ⟨VR.int, ⟨VR.int, ⟨VR.int, ⟨VR.int, ⟨VR.int, trivial⟩⟩⟩⟩⟩ rfl (by decide) ?_
        intro v66
        obtain ⟨y67, e68, h61⟩ := bind_some h61
        refine RL.callV (v := .bool y67) (vs := [v66]) Try_fit26 rfl (Or.inl rfl) rfl rfl rfl rfl (fun U w hU hW hL => pk_good_c U w hU _ _ (hL 5 _ _ rfl Seen.own) _ e68) ?_
        refine RL.notB rfl rfl rfl ?_
        refine RL.mv rfl rfl rfl ?_
        refine RL.split (t := 66) rfl (fun b69 => ?_) (fun b69 => ?_)
        · replace h61 := ite_t b69 h61
          refine RL.skip rfl rfl ?_
          refine RL.skip rfl rfl ?_
          refine RL.skip rfl rfl ?_
          refine RL.skip rfl rfl ?_
          refine RL.pickT rfl rfl rfl rfl ?_
          refine RL.mv rfl rfl rfl ?_
          refine RL.skip rfl rfl ?_
          refine RL.skip rfl rfl ?_
          refine RL.skip rfl rfl ?_
          refine RL.skip rfl rfl ?_
          refine RL.pickT rfl rfl rfl rfl ?_
          refine RL.mv rfl rfl rfl ?_
          refine RL.skip rfl rfl ?_
          refine RL.skip rfl rfl ?_
          refine RL.skip rfl rfl ?_
          refine RL.skip rfl rfl ?_
          refine RL.pickT rfl rfl rfl rfl ?_
          refine RL.mv rfl rfl rfl ?_
          refine RL.skip rfl rfl ?_
          refine RL.skip rfl rfl ?_
          refine RL.skip rfl rfl ?_
          refine RL.skip rfl rfl ?_
          refine RL.skip rfl rfl ?_
          refine RL.pickT rfl rfl rfl rfl ?_
          refine RL.fin ?_
          cases h61
          exact fun a w st => mid_intro true h62 (St.cut [3, 4] ⟨rfl, rfl, rfl, trivial⟩ (by decide) rfl st)
        · replace h61 := ite_f b69 h61
          refine RL.mv rfl rfl rfl ?_
          refine RL.mv rfl rfl rfl ?_
          obtain ⟨y70, e71, h61⟩ := bind_some h61
          refine RL.callV (v := .bool y70) (vs := [v19, v0, .func (.func 28) #[] #[]]) Try_fit27 rfl (Or.inl rfl) rfl rfl rfl rfl (fun U w hU hW hL => slices_EqualFunc_int_int_int_int_c U w hU _ _ (hL 2 _ _ rfl Seen.imm) _ _ (hL 0 _ _ rfl Seen.imm) 28 #[] Try_fit28 (fun a0 a1 => slices_Equal_int_int_m a0 a1) (fun U' w' hle hU' u0 a0 q0 u1 a1 q1 rr hr => (slices_Equal_int_int_c U' w' hU' u0 a0 q0 u1 a1 q1 rr hr).mono (fun _ _ z => z)) _ e71) ?_
          refine RL.notB rfl rfl rfl ?_
          refine RL.pickF rfl rfl rfl rfl ?_
          refine RL.mv rfl rfl rfl ?_
          refine RL.split (t := 72) rfl (fun b72 => ?_) (fun b72 => ?_)
          · replace h61 := ite_t b72 h61
            refine RL.skip rfl rfl ?_
            refine RL.skip rfl rfl ?_
            refine RL.skip rfl rfl ?_
            refine RL.skip rfl rfl ?_
            refine RL.pickT rfl rfl rfl rfl ?_
            refine RL.mv rfl rfl rfl ?_
            refine RL.skip rfl rfl ?_
            refine RL.skip rfl rfl ?_
            refine RL.skip rfl rfl ?_
            refine RL.skip rfl rfl ?_
            refine RL.pickT rfl rfl rfl rfl ?_
            refine RL.mv rfl rfl rfl ?_
            refine RL.skip rfl rfl ?_
            refine RL.skip rfl rfl ?_
            refine RL.skip rfl rfl ?_
            refine RL.skip rfl rfl ?_
            refine RL.skip rfl rfl ?_
            refine RL.pickT rfl rfl rfl rfl ?_
            refine RL.fin ?_
            cases h61
            exact fun a w st => mid_intro true h62 (St.cut [3, 4] ⟨rfl, rfl, rfl, trivial⟩ (by decide) rfl st)
          · replace h61 := ite_f b72 h61
            refine RL.mv rfl rfl rfl ?_
            refine RL.mv rfl rfl rfl ?_
            refine RL.negI rfl rfl rfl ?_
            refine RL.binI (v := .bool (y26.1 != (wsub 0 y22.2.1))) rfl rfl rfl rfl rfl ?_
            refine RL.pickF rfl rfl rfl rfl ?_
            refine RL.mv rfl rfl rfl ?_
            refine RL.split (t := 78) rfl (fun b73 => ?_) (fun b73 => ?_)
            · replace h61 := ite_t b73 h61
              refine RL.skip rfl rfl ?_
              refine RL.skip rfl rfl ?_
              refine RL.skip rfl rfl ?_
              refine RL.skip rfl rfl ?_
              refine RL.pickT rfl rfl rfl rfl ?_
              refine RL.mv rfl rfl rfl ?_
              refine RL.skip rfl rfl ?_
              refine RL.skip rfl rfl ?_
              refine RL.skip rfl rfl ?_
              refine RL.skip rfl rfl ?_
              refine RL.skip rfl rfl ?_
              refine RL.pickT rfl rfl rfl rfl ?_
              refine RL.fin ?_
              cases h61
              exact fun a w st => mid_intro true h62 (St.cut [3, 4] ⟨rfl, rfl, rfl, trivial⟩ (by decide) rfl st)
            · replace h61 := ite_f b73 h61
              refine RL.mv rfl rfl rfl ?_
              refine RL.mv rfl rfl rfl ?_
              refine RL.negI rfl rfl rfl ?_
              refine RL.binI (v := .bool (y26.2.1 != (wsub 0 y22.1))) rfl rfl rfl rfl rfl ?_
              refine RL.pickF rfl rfl rfl rfl ?_
              refine RL.mv rfl rfl rfl ?_
              refine RL.split (t := 84) rfl (fun b74 => ?_) (fun b74 => ?_)
              · replace h61 := ite_t b74 h61
                refine RL.skip rfl rfl ?_
                refine RL.skip rfl rfl ?_
                refine RL.skip rfl rfl ?_
                refine RL.skip rfl rfl ?_
                refine RL.skip rfl rfl ?_
                refine RL.pickT rfl rfl rfl rfl ?_
                refine RL.fin ?_
                cases h61
                exact fun a w st => mid_intro true h62 (St.cut [3, 4] ⟨rfl, rfl, rfl, trivial⟩ (by decide) rfl st)
              · replace h61 := ite_f b74 h61
                refine RL.mv rfl rfl rfl ?_
                refine RL.lenS 3 Try.underlying35 rfl rfl rfl rfl SlOf.own ?_
                refine RL.mv rfl rfl rfl ?_
                refine RL.lenS 4 Try.underlying35 rfl rfl rfl rfl SlOf.own ?_
                refine RL.binI (v := .bool (((y31.1).length : Int) != ((y37.1).length : Int))) rfl rfl rfl rfl rfl ?_
                refine RL.pickF rfl rfl rfl rfl ?_
                refine RL.fin ?_
                cases h61
                exact fun a w st => mid_intro (((y31.1).length : Int) != ((y37.1).length : Int)) h62 (St.cut [3, 4] ⟨rfl, rfl, rfl, trivial⟩ (by decide) rfl st)
      · rintro x58 h75
        have h76 := h63 _ h75
        try dsimp only at h76
        refine GL.weak (env' := [(13, v33), (15, v39), (90, .bool x58)]) (L' := [own 34 (TR.arr 2 TR.int) v33 y31.1, own 34 (TR.arr 2 TR.int) v39 y37.1]) (fun _ _ st => st) ?_
        refine GL.cond rfl (fun b77 => ?_) (fun b77 => ?_)
        · replace h76 := ite_t b77 h76
          refine GL.seq ?_
          refine GL.region ?_
          refine RL.asg rfl rfl rfl ?_
          refine RL.finG ?_
          have h76 := Option.some.inj h76
          subst h76
          exact GL.ret (Gx.ret (v := .bool false) (res1 rfl rfl) (fun a w st => st.toPostV))
        · replace h76 := ite_f b77 h76
          refine GL.skip ?_
          refine GL.seq ?_
          refine GL.seq ?_
          refine GL.region ?_
          refine RL.mv rfl rfl rfl ?_
          refine RL.lenS 0 Try.underlying35 rfl rfl rfl rfl SlOf.own ?_
          refine RL.mv rfl rfl rfl ?_
          refine RL.finG ?_
          refine GL.lenOwn 0 rfl (fun n101 => ?_)
          obtain ⟨y102, K103, h104, h105, h106, h107, h108⟩ := bindR_K h76
          refine GL.join (ι := Unit) (fun (p : Unit) => []) (fun (p : Unit) => []) (fun (p : Unit) => K103 (.nx ())) ?_ ?_
          · refine GL.block ?_
            refine GL.loop (ι := Nat × Nat) (fun (p : Nat × Nat) => [(15, v39), (91, v33), (92, .int .i64 ((y31.1).length : Int)), (93, .int .i64 (p.1 : Int))]) (fun (p : Nat × Nat) => [own 34 (TR.arr 2 TR.int) v39 y37.1, own 34 (TR.arr 2 TR.int) v33 y31.1]) (fun (p : Nat × Nat) => p.1 + p.2 = (y31.1).length ∧ rangeN (pk_SaddleTurned_b1 y31 y37) p.2 p.1 () = some y102) (fun (p : Nat × Nat) => p.2) (0, (y31.1).length) ⟨by simp, h104⟩ (fun a w st => St.cut [1, 0] ⟨rfl, rfl, rfl, rfl, trivial⟩ (by decide) rfl st) ?_
            rintro ⟨i109, r110⟩ ⟨h115, h114⟩
            try dsimp only at h115 h114
            refine GL.weak (env' := [(15, v39), (91, v33), (92, .int .i64 ((y31.1).length : Int)), (93, .int .i64 (i109 : Int))]) (L' := [own 34 (TR.arr 2 TR.int) v39 y37.1, own 34 (TR.arr 2 TR.int) v33 y31.1]) (fun _ _ st => st) ?_
            refine GL.seq ?_
            refine GL.region ?_
            refine RL.binI (v := .bool (decide ((i109 : Int) < ((y31.1).length : Int)))) rfl rfl rfl rfl rfl ?_
            refine RL.finG ?_
            refine GL.seq ?_
            refine GL.cond rfl (fun b117 => ?_) (fun b117 => ?_)
            · have h118 : i109 < (y31.1).length := by have := of_decide_eq_true b117; omega
              obtain ⟨r119, hr⟩ : ∃ m, r110 = m + 1 := ⟨r110 - 1, by omega⟩
              subst hr
              obtain ⟨z111, h112, h113⟩ := rangeN_some h114
              unfold pk_SaddleTurned_b1 at h112
              try dsimp only at h112
              refine GL.skip ?_
              refine GL.seq ?_
              refine GL.block ?_
              refine GL.seq ?_
              refine GL.region ?_
              obtain ⟨y124, e125, h112⟩ := bind_some h112
              refine RL.idxS (sz := 2) 1 Try.underlying35 Try_ln34 rfl rfl rfl rfl rfl SlOf.own (idx_some e125).1 (idx_some e125).2.1 ?_
              refine RL.ldS (i := i109) (r := (TR.arr 2 TR.int)) (e' := y124) 1 Try_ln34 rfl rfl rfl rfl SlOf.own (idx_some e125).2.2 Part.self ?_
              intro v126
              refine RL.alloc (t := (TR.arr 2 TR.int)) (z := (List.replicate 2 (0 : Int))) Try_lo34 (fun S => ⟨rfl, ⟨_, _, rfl, rfl, ⟨_, _, rfl, rfl, rfl⟩⟩⟩) rfl rfl rfl ?_
              intro v127
              refine RL.reL (L' := [own 34 (TR.arr 2 TR.int) v39 y37.1, own 34 (TR.arr 2 TR.int) v33 y31.1, imm (TR.arr 2 TR.int) v126 y124, obox 34 (TR.arr 2 TR.int) v127 (List.replicate 2 (0 : Int))]) rfl ?_
              refine RL.stP (off := 0) (e' := y124) (d1 := y124) (r := (TR.arr 2 TR.int)) 3 Try_ln34 rfl rfl (Or.inr ⟨rfl, rfl⟩) rfl (VR.item 2 rfl) rfl Upd.self ?_
              refine RL.finG ?_
              refine GL.seq ?_
              refine GL.region ?_
              refine RL.mv rfl rfl rfl ?_
              obtain ⟨y135, e136, h112⟩ := bind_some h112
              refine RL.idxA0 (sz := 1) (t' := TR.int) 3 Try.underlying34 Try_ln3 rfl rfl rfl PtOf.obox rfl rfl Part.self (idx_some e136).1 (idx_some e136).2.1 ?_
              refine RL.ldPx (off := (((1 : Int)).toNat * 1)) (e' := y135) 3 Ex.ik Try_ln3 rfl rfl (Or.inl rfl) rfl PtOf.obox (Part.arr (idx_some e136).2.2 Part.self) ?_
              obtain ⟨y137, e138, h112⟩ := bind_some h112
              refine RL.idxA0 (sz := 1) (t' := TR.int) 3 Try.underlying34 Try_ln3 rfl rfl rfl PtOf.obox rfl rfl Part.self (idx_some e138).1 (idx_some e138).2.1 ?_
              refine RL.ldPx (off := (((0 : Int)).toNat * 1)) (e' := y137) 3 Ex.ik Try_ln3 rfl rfl (Or.inl rfl) rfl PtOf.obox (Part.arr (idx_some e138).2.2 Part.self) ?_
              refine RL.bldA (t := (TR.arr 2 TR.int)) (d0 := ([y135, y137] : (List Int))) (pv := [(0, .int .i64 y135), (1, .int .i64 y137)]) rfl Try_bld34 (by decide) rfl rfl rfl ⟨⟨_, _, TR.int, y135, rfl, rfl, VR.int⟩, ⟨⟨_, _, TR.int, y137, rfl, rfl, VR.int⟩, trivial⟩⟩ (fun S f hi => by
                  obtain ⟨c0, e0, r0⟩ := cells_vrep (t := TR.int) (u := .int .i64 y135) (e := y135) (VR.int S f hi)
                  obtain ⟨c1, e1, r1⟩ := cells_vrep (t := TR.int) (u := .int .i64 y137) (e := y137) (VR.int S f hi)
                  show TR.rep (TR.arr 2 TR.int) S (List.flatten [(.int .i64 y135 : Value).cells.toList, (.int .i64 y137 : Value).cells.toList]) _
                  simp only [e0, e1,  List.flatten_cons, List.flatten_nil, List.append_nil]
                  exact ⟨rfl, ⟨_, _, rfl, r0, ⟨_, [], (List.append_nil _).symm, r1, rfl⟩⟩⟩) ?_
              intro v139
              refine RL.reL (L' := [own 34 (TR.arr 2 TR.int) v39 y37.1, own 34 (TR.arr 2 TR.int) v33 y31.1, imm (TR.arr 2 TR.int) v126 y124, obox 34 (TR.arr 2 TR.int) v127 y124, imm (TR.arr 2 TR.int) v139 ([y135, y137] : (List Int))]) rfl ?_
              obtain ⟨y140, e141, h112⟩ := bind_some h112
              refine RL.callV (v := .bool y140) (vs := [v39, v139]) Try_fit22 rfl (Or.inl rfl) rfl rfl rfl rfl (fun U w hU hW hL => slices_Contains_pairs_c U w hU _ _ (hL 0 _ _ rfl Seen.own) _ _ (hL 4 _ _ rfl Seen.imm) _ e141) ?_
              refine RL.notB rfl rfl rfl ?_
              refine RL.finG ?_
              refine GL.cond rfl (fun b142 => ?_) (fun b142 => ?_)
              · replace h112 := ite_t b142 h112
                refine GL.seq ?_
                refine GL.region ?_
                refine RL.asg rfl rfl rfl ?_
                refine RL.finG ?_
                cases h112
                replace h113 : some (Fl.rt _) = some y102 := h113
                cases h113
                have hh := h107 _ h105
                subst hh
                exact GL.ret (Gx.ret (v := .bool false) (res1 rfl rfl) (fun a w st => st.toPostV))
              · replace h112 := ite_f b142 h112
                refine GL.skip ?_
                refine GL.nilB ?_
                refine GL.region ?_
                refine RL.binI (v := .int .i64 ((i109 + 1 : Nat) : Int)) rfl rfl rfl rfl (binI_succ i109 (by omega)) ?_
                refine RL.mv rfl rfl rfl ?_
                refine RL.fin ?_
                cases h112
                exact fun a w st => lop_intro (i109 + 1, r119) ⟨by show i109 + 1 + r119 = (y31.1).length; omega, h113⟩ (by simp) (St.cut [0, 1] ⟨rfl, rfl, rfl, rfl, trivial⟩ (by decide) rfl st)
            · have h118 : ¬ i109 < (y31.1).length := by have := of_decide_eq_false b117; omega
              obtain rfl : r110 = 0 := by omega
              replace h114 : some (Fl.nx _) = some y102 := h114
              cases h114
              exact GL.exit (fun a w st => mid_intro () h105 (St.cut [] trivial (by decide) rfl st))
          · rintro ⟨⟩ h143
            have h144 := h106 _ h143
            try dsimp only at h144
            refine GL.weak (env' := []) (L' := []) (fun _ _ st => st) ?_
            refine GL.seq ?_
            refine GL.region ?_
            refine RL.asg rfl rfl rfl ?_
            refine RL.finG ?_
            have h144 := Option.some.inj h144
            subst h144
            exact GL.ret (Gx.ret (v := .bool true) (res1 rfl rfl) (fun a w st => st.toPostV))
end Go.Wk
