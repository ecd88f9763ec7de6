/- Each function comes to what its model says; printed by a program of this repository. -/
import Derived.Test.YtofonliapfdbmaaProg
import Derived.Test.YtofonliapfdbmaaWWidestTopModels
namespace Go.Wk
open Go.Fw Go.Mo Go.Proofs Go.RowKit
set_option linter.unusedVariables false
set_option maxRecDepth 100000
theorem Try_info3 : (Try.prog.info? 3).map (fun i => (i.zero, i.size, i.bytes)) = some (some (.int .i64 0), 1, 8) := by kernel_rfl
theorem Try_ln3 : Ln Try.prog 3 1 false := Ln.of Try_info3 Try.underlying3 rfl
theorem Try_lo3 : LnO Try.prog 3 1 [.int .i64 0] := LnO.of Try_info3 rfl rfl (by decide) (by decide)
theorem Try_info24 : (Try.prog.info? 24).map (fun i => (i.zero, i.size, i.bytes)) = some (some (.int .i64 0), 1, 8) := by kernel_rfl
theorem Try_ln24 : Ln Try.prog 24 1 false := Ln.of Try_info24 Try.underlying24 rfl
theorem Try_lo24 : LnO Try.prog 24 1 [.int .i64 0] := LnO.of Try_info24 rfl rfl (by decide) (by decide)
theorem Try_info28 : (Try.prog.info? 28).map (fun i => (i.zero, i.size, i.bytes)) = some (some (.slice none 0 0), 1, 24) := by kernel_rfl
theorem Try_ln28 : Ln Try.prog 28 1 false := Ln.of Try_info28 Try.underlying28 rfl
theorem Try_lo28 : LnO Try.prog 28 1 [.slice none 0 0] := LnO.of Try_info28 rfl rfl (by decide) (by decide)
theorem Try_fit14 : Fit Try.prog 14 := Fit.of Try.func14 (by kernel_rfl) rfl
theorem Try_fit15 : Fit Try.prog 15 := Fit.of Try.func15 (by kernel_rfl) rfl
theorem Try_fit17 : Fit Try.prog 17 := Fit.of Try.func17 (by kernel_rfl) rfl
theorem Try_fit19 : Fit Try.prog 19 := Fit.of Try.func19 (by kernel_rfl) rfl
theorem Try_fit25 : Fit Try.prog 25 := Fit.of Try.func25 (by kernel_rfl) rfl
theorem Try_fit26 : Fit Try.prog 26 := Fit.of Try.func26 (by kernel_rfl) rfl
theorem Try_fit27 : Fit Try.prog 27 := Fit.of Try.func27 (by kernel_rfl) rfl
theorem Try_fit28 : Fit Try.prog 28 := Fit.of Try.func28 (by kernel_rfl) rfl
theorem Try_fit33 : Fit Try.prog 33 := Fit.of Try.func33 (by kernel_rfl) rfl
theorem Try_fit41 : Fit Try.prog 41 := Fit.of Try.func41 (by kernel_rfl) rfl
theorem Try_fit46 : Fit Try.prog 46 := Fit.of Try.func46 (by kernel_rfl) rfl
theorem Try_fit47 : Fit Try.prog 47 := Fit.of Try.func47 (by kernel_rfl) rfl
theorem Try_fit48 : Fit Try.prog 48 := Fit.of Try.func48 (by kernel_rfl) rfl
theorem Try_fit54 : Fit Try.prog 54 := Fit.of Try.func54 (by kernel_rfl) rfl

set_option maxHeartbeats 4000000 in
theorem duel_Check_c (S : Hp) (w : World) (hS : S.sub w) (v0 : Value) (x0 : (List (List Int))) (k0 : ((TR.sl (TR.sl TR.int))).vrep S v0 x0) (res : Int) (hm : duel_Check_m x0 = some res) : Calls Try.prog 41 #[v0] w (PostC w (.int .i64 res)) := by
  refine calls_enter 55 Try.func41 Try.ntmps41 rfl S true [(0, v0)] [imm (TR.sl (TR.sl TR.int)) v0 x0] rfl ⟨rfl, trivial⟩ hS ⟨k0, trivial⟩ ?_
  unfold duel_Check_m at hm
  refine GL.seq ?_
  refine GL.region ?_
  refine RL.asg rfl rfl rfl ?_
  refine RL.finG ?_
  refine GL.seq ?_
  refine GL.seq ?_
  obtain ⟨y5, K6, h7, h8, h9, h10, h11⟩ := bindR_K hm
  refine GL.join (ι := Bool) (fun (p : Bool) => [(0, v0), (15, .bool p)]) (fun (p : Bool) => [imm (TR.sl (TR.sl TR.int)) v0 x0]) (fun (p : Bool) => K6 (.nx p)) ?_ ?_
  · skip
    refine GL.region ?_
    refine RL.mv rfl rfl rfl ?_
    refine RL.lenS 0 Try.underlying22 rfl rfl rfl rfl SlOf.imm ?_
    refine RL.binI (v := .bool (decide (((x0).length : Int) < (1 : Int)))) rfl rfl rfl rfl rfl ?_
    refine RL.mv rfl rfl rfl ?_
    refine RL.split (t := 11) rfl (fun b12 => ?_) (fun b12 => ?_)
    · replace h7 := ite_t b12 h7
      refine RL.skip rfl rfl ?_
      refine RL.skip rfl rfl ?_
      refine RL.skip rfl rfl ?_
      refine RL.pickT rfl rfl rfl rfl ?_
      refine RL.fin ?_
      cases h7
      exact fun a w st => mid_intro true h8 (St.cut [0] ⟨rfl, rfl, trivial⟩ (by decide) rfl st)
    · replace h7 := ite_f b12 h7
      refine RL.mv rfl rfl rfl ?_
      refine RL.lenS 0 Try.underlying22 rfl rfl rfl rfl SlOf.imm ?_
      refine RL.binI (v := .bool (decide (((x0).length : Int) > (6 : Int)))) rfl rfl rfl rfl rfl ?_
      refine RL.pickF rfl rfl rfl rfl ?_
      refine RL.fin ?_
      cases h7
      exact fun a w st => mid_intro (decide (((x0).length : Int) > (6 : Int))) h8 (St.cut [0] ⟨rfl, rfl, trivial⟩ (by decide) rfl st)
  · rintro x4 h13
    have h14 := h9 _ h13
    try dsimp only at h14
    refine GL.weak (env' := [(0, v0), (15, .bool x4)]) (L' := [imm (TR.sl (TR.sl TR.int)) v0 x0]) (fun _ _ st => st) ?_
    refine GL.cond rfl (fun b15 => ?_) (fun b15 => ?_)
    · replace h14 := ite_t b15 h14
      refine GL.seq ?_
      refine GL.region ?_
      refine RL.asg rfl rfl rfl ?_
      refine RL.finG ?_
      have h14 := Option.some.inj h14
      subst h14
      exact GL.ret (Gx.ret (v := .int .i64 (2 : Int)) (res1 rfl rfl) (fun a w st => st.toPostC rfl))
    · replace h14 := ite_f b15 h14
      refine GL.skip ?_
      refine GL.seq ?_
      refine GL.seq ?_
      refine GL.region ?_
      refine RL.mv rfl rfl rfl ?_
      refine RL.lenS 0 Try.underlying22 rfl rfl rfl rfl SlOf.imm ?_
      refine RL.mv rfl rfl rfl ?_
      refine RL.finG ?_
      refine GL.open_ 0 rfl (fun S h => len_imm S h) (fun n79 => ?_)
      obtain ⟨y80, K81, h82, h83, h84, h85, h86⟩ := bindR_K h14
      refine GL.join (ι := Unit) (fun (p : Unit) => [(0, v0)]) (fun (p : Unit) => [imm (TR.sl (TR.sl TR.int)) v0 x0]) (fun (p : Unit) => K81 (.nx ())) ?_ ?_
      · refine GL.block ?_
        refine GL.loop (ι := Nat × (List (List Int))) (fun (p : Nat × (List (List Int))) => [(0, v0), (16, v0), (17, .int .i64 ((x0).length : Int)), (18, .int .i64 (p.1 : Int))]) (fun (p : Nat × (List (List Int))) => [imm (TR.sl (TR.sl TR.int)) v0 x0]) (fun (p : Nat × (List (List Int))) => p.1 + p.2.length = (x0).length ∧ List.drop p.1 x0 = p.2 ∧ rangeL (duel_Check_b1 x0) p.2 p.1 () = some y80) (fun (p : Nat × (List (List Int))) => p.2.length) (0, x0) ⟨by simp, by simp, h82⟩ (fun a w st => St.cut [0] ⟨rfl, rfl, rfl, rfl, trivial⟩ (by decide) rfl st) ?_
        rintro ⟨i87, r88⟩ ⟨h93, h94, h92⟩
        try dsimp only at h93 h94 h92
        refine GL.weak (env' := [(0, v0), (16, v0), (17, .int .i64 ((x0).length : Int)), (18, .int .i64 (i87 : Int))]) (L' := [imm (TR.sl (TR.sl TR.int)) v0 x0]) (fun _ _ st => st) ?_
        refine GL.seq ?_
        refine GL.region ?_
        refine RL.binI (v := .bool (decide ((i87 : Int) < ((x0).length : Int)))) rfl rfl rfl rfl rfl ?_
        refine RL.finG ?_
        refine GL.seq ?_
        refine GL.cond rfl (fun b95 => ?_) (fun b95 => ?_)
        · have h96 : i87 < (x0).length := by have := of_decide_eq_true b95; omega
          obtain ⟨y97, r99, hr, e98, h100⟩ := drop_cons h94 rfl h96
          subst hr
          obtain ⟨z89, h90, h91⟩ := rangeL_some h92
          unfold duel_Check_b1 at h90
          try dsimp only at h90
          refine GL.skip ?_
          refine GL.seq ?_
          refine GL.block ?_
          refine GL.seq ?_
          refine GL.region ?_
          refine RL.idxS (sz := 1) 0 Try.underlying22 Try_ln28 rfl rfl rfl rfl rfl SlOf.imm (by omega) (by omega) ?_
          refine RL.ldS (i := i87) (r := (TR.sl TR.int)) (e' := y97) 0 Try_ln28 rfl rfl rfl rfl SlOf.imm e98 Part.self ?_
          intro v102
          refine RL.asg rfl rfl rfl ?_
          refine RL.finG ?_
          refine GL.seq ?_
          refine GL.seq ?_
          refine GL.region ?_
          refine RL.mv rfl rfl rfl ?_
          refine RL.lenS 1 Try.underlying28 rfl rfl rfl rfl SlOf.imm ?_
          refine RL.mv rfl rfl rfl ?_
          refine RL.lenS 0 Try.underlying22 rfl rfl rfl rfl SlOf.imm ?_
          refine RL.binI (v := .bool (((y97).length : Int) != ((x0).length : Int))) rfl rfl rfl rfl rfl ?_
          refine RL.finG ?_
          refine GL.cond rfl (fun b103 => ?_) (fun b103 => ?_)
          · replace h90 := ite_t b103 h90
            refine GL.seq ?_
            refine GL.region ?_
            refine RL.asg rfl rfl rfl ?_
            refine RL.finG ?_
            cases h90
            replace h91 : some (Fl.rt _) = some y80 := h91
            cases h91
            have hh := h85 _ h83
            subst hh
            exact GL.ret (Gx.ret (v := .int .i64 (3 : Int)) (res1 rfl rfl) (fun a w st => st.toPostC rfl))
          · replace h90 := ite_f b103 h90
            refine GL.skip ?_
            refine GL.seq ?_
            refine GL.region ?_
            refine RL.mv rfl rfl rfl ?_
            refine RL.lenS 1 Try.underlying28 rfl rfl rfl rfl SlOf.imm ?_
            refine RL.mv rfl rfl rfl ?_
            refine RL.finG ?_
            refine GL.open_ 1 rfl (fun S h => len_imm S h) (fun n122 => ?_)
            obtain ⟨y123, K124, h125, h126, h127, h128, h129⟩ := bindF_K h90
            refine GL.join (ι := Unit) (fun (p : Unit) => [(0, v0), (16, v0), (17, .int .i64 ((x0).length : Int)), (18, .int .i64 (i87 : Int))]) (fun (p : Unit) => [imm (TR.sl (TR.sl TR.int)) v0 x0]) (fun (p : Unit) => K124 (.nx ())) ?_ ?_
            · refine GL.block ?_
              refine GL.loop (ι := Nat × (List Int)) (fun (p : Nat × (List Int)) => [(0, v0), (16, v0), (17, .int .i64 ((x0).length : Int)), (18, .int .i64 (i87 : Int)), (27, v102), (28, .int .i64 ((y97).length : Int)), (29, .int .i64 (p.1 : Int))]) (fun (p : Nat × (List Int)) => [imm (TR.sl (TR.sl TR.int)) v0 x0, imm (TR.sl TR.int) v102 y97]) (fun (p : Nat × (List Int)) => p.1 + p.2.length = (y97).length ∧ List.drop p.1 y97 = p.2 ∧ rangeL duel_Check_b2 p.2 p.1 () = some y123) (fun (p : Nat × (List Int)) => p.2.length) (0, y97) ⟨by simp, by simp, h125⟩ (fun a w st => St.cut [0, 1] ⟨rfl, rfl, rfl, rfl, rfl, rfl, rfl, trivial⟩ (by decide) rfl st) ?_
              rintro ⟨i130, r131⟩ ⟨h136, h137, h135⟩
              try dsimp only at h136 h137 h135
              refine GL.weak (env' := [(0, v0), (16, v0), (17, .int .i64 ((x0).length : Int)), (18, .int .i64 (i87 : Int)), (27, v102), (28, .int .i64 ((y97).length : Int)), (29, .int .i64 (i130 : Int))]) (L' := [imm (TR.sl (TR.sl TR.int)) v0 x0, imm (TR.sl TR.int) v102 y97]) (fun _ _ st => st) ?_
              refine GL.seq ?_
              refine GL.region ?_
              refine RL.binI (v := .bool (decide ((i130 : Int) < ((y97).length : Int)))) rfl rfl rfl rfl rfl ?_
              refine RL.finG ?_
              refine GL.seq ?_
              refine GL.cond rfl (fun b138 => ?_) (fun b138 => ?_)
              · have h139 : i130 < (y97).length := by have := of_decide_eq_true b138; omega
                obtain ⟨y140, r142, hr, e141, h143⟩ := drop_cons h137 rfl h139
                subst hr
                obtain ⟨z132, h133, h134⟩ := rangeL_some h135
                unfold duel_Check_b2 at h133
                try dsimp only at h133
                refine GL.skip ?_
                refine GL.seq ?_
                refine GL.block ?_
                refine GL.seq ?_
                refine GL.region ?_
                refine RL.idxS (sz := 1) 1 Try.underlying28 Try_ln3 rfl rfl rfl rfl rfl SlOf.imm (by omega) (by omega) ?_
                refine RL.ldSx (i := i130) (e' := y140) 1 Ex.ik Try_ln3 rfl rfl rfl rfl SlOf.imm e141 Part.self ?_
                refine RL.asg rfl rfl rfl ?_
                refine RL.finG ?_
                refine GL.seq ?_
                obtain ⟨y147, K148, h149, h150, h151, h152, h153⟩ := bindF_K h133
                refine GL.join (ι := Bool) (fun (p : Bool) => [(0, v0), (16, v0), (17, .int .i64 ((x0).length : Int)), (18, .int .i64 (i87 : Int)), (27, v102), (28, .int .i64 ((y97).length : Int)), (29, .int .i64 (i130 : Int)), (38, .bool p)]) (fun (p : Bool) => [imm (TR.sl (TR.sl TR.int)) v0 x0, imm (TR.sl TR.int) v102 y97]) (fun (p : Bool) => K148 (.nx p)) ?_ ?_
                · skip
                  refine GL.region ?_
                  refine RL.mv rfl rfl rfl ?_
                  refine RL.binI (v := .bool (decide (y140 < (0 : Int)))) rfl rfl rfl rfl rfl ?_
                  refine RL.mv rfl rfl rfl ?_
                  refine RL.split (t := 35) rfl (fun b154 => ?_) (fun b154 => ?_)
                  · replace h149 := ite_t b154 h149
                    refine RL.skip rfl rfl ?_
                    refine RL.skip rfl rfl ?_
                    refine RL.pickT rfl rfl rfl rfl ?_
                    refine RL.fin ?_
                    cases h149
                    exact fun a w st => mid_intro true h150 (St.cut [0, 1] ⟨rfl, rfl, rfl, rfl, rfl, rfl, rfl, rfl, trivial⟩ (by decide) rfl st)
                  · replace h149 := ite_f b154 h149
                    refine RL.mv rfl rfl rfl ?_
                    refine RL.binI (v := .bool (decide (y140 > (30 : Int)))) rfl rfl rfl rfl rfl ?_
                    refine RL.pickF rfl rfl rfl rfl ?_
                    refine RL.fin ?_
                    cases h149
                    exact fun a w st => mid_intro (decide (y140 > (30 : Int))) h150 (St.cut [0, 1] ⟨rfl, rfl, rfl, rfl, rfl, rfl, rfl, rfl, trivial⟩ (by decide) rfl st)
                · rintro x146 h155
                  have h156 := h151 _ h155
                  try dsimp only at h156
                  refine GL.weak (env' := [(0, v0), (16, v0), (17, .int .i64 ((x0).length : Int)), (18, .int .i64 (i87 : Int)), (27, v102), (28, .int .i64 ((y97).length : Int)), (29, .int .i64 (i130 : Int)), (38, .bool x146)]) (L' := [imm (TR.sl (TR.sl TR.int)) v0 x0, imm (TR.sl TR.int) v102 y97]) (fun _ _ st => st) ?_
                  refine GL.cond rfl (fun b157 => ?_) (fun b157 => ?_)
                  · replace h156 := ite_t b157 h156
                    refine GL.seq ?_
                    refine GL.region ?_
                    refine RL.asg rfl rfl rfl ?_
                    refine RL.finG ?_
                    cases h156
                    replace h134 : some (Fl.rt _) = some y123 := h134
                    cases h134
                    have hh := h128 _ h126
                    subst hh
                    replace h91 : some (Fl.rt _) = some y80 := h91
                    cases h91
                    have hh := h85 _ h83
                    subst hh
                    exact GL.ret (Gx.ret (v := .int .i64 (1 : Int)) (res1 rfl rfl) (fun a w st => st.toPostC rfl))
                  · replace h156 := ite_f b157 h156
                    refine GL.skip ?_
                    refine GL.nilB ?_
                    refine GL.region ?_
                    refine RL.binI (v := .int .i64 ((i130 + 1 : Nat) : Int)) rfl rfl rfl rfl (binI_succ i130 (by omega)) ?_
                    refine RL.mv rfl rfl rfl ?_
                    refine RL.fin ?_
                    cases h156
                    exact fun a w st => lop_intro (i130 + 1, r142) ⟨by show i130 + 1 + r142.length = (y97).length; simp only [List.length_cons] at h136; omega, h143, h134⟩ (by simp) (St.cut [0, 1] ⟨rfl, rfl, rfl, rfl, rfl, rfl, rfl, trivial⟩ (by decide) rfl st)
              · have h139 : ¬ i130 < (y97).length := by have := of_decide_eq_false b138; omega
                obtain rfl : r131 = [] := by rw [← h137]; exact List.drop_of_length_le (by omega)
                replace h135 : some (Fl.nx _) = some y123 := h135
                cases h135
                exact GL.exit (fun a w st => mid_intro () h126 (St.cut [0] ⟨rfl, rfl, rfl, rfl, trivial⟩ (by decide) rfl st))
            · rintro ⟨⟩ h158
              have h159 := h127 _ h158
              try dsimp only at h159
              refine GL.weak (env' := [(0, v0), (16, v0), (17, .int .i64 ((x0).length : Int)), (18, .int .i64 (i87 : Int))]) (L' := [imm (TR.sl (TR.sl TR.int)) v0 x0]) (fun _ _ st => st) ?_
              refine GL.nilB ?_
              refine GL.region ?_
              refine RL.binI (v := .int .i64 ((i87 + 1 : Nat) : Int)) rfl rfl rfl rfl (binI_succ i87 (by omega)) ?_
              refine RL.mv rfl rfl rfl ?_
              refine RL.fin ?_
              cases h159
              exact fun a w st => lop_intro (i87 + 1, r99) ⟨by show i87 + 1 + r99.length = (x0).length; simp only [List.length_cons] at h93; omega, h100, h91⟩ (by simp) (St.cut [0] ⟨rfl, rfl, rfl, rfl, trivial⟩ (by decide) rfl st)
        · have h96 : ¬ i87 < (x0).length := by have := of_decide_eq_false b95; omega
          obtain rfl : r88 = [] := by rw [← h94]; exact List.drop_of_length_le (by omega)
          replace h92 : some (Fl.nx _) = some y80 := h92
          cases h92
          exact GL.exit (fun a w st => mid_intro () h83 (St.cut [0] ⟨rfl, trivial⟩ (by decide) rfl st))
      · rintro ⟨⟩ h160
        have h161 := h84 _ h160
        try dsimp only at h161
        refine GL.weak (env' := [(0, v0)]) (L' := [imm (TR.sl (TR.sl TR.int)) v0 x0]) (fun _ _ st => st) ?_
        refine GL.seq ?_
        refine GL.seq ?_
        refine GL.region ?_
        refine RL.mv rfl rfl rfl ?_
        refine RL.lenS 0 Try.underlying22 rfl rfl rfl rfl SlOf.imm ?_
        refine RL.mv rfl rfl rfl ?_
        refine RL.finG ?_
        refine GL.open_ 0 rfl (fun S h => len_imm S h) (fun n173 => ?_)
        obtain ⟨y174, K175, h176, h177, h178, h179, h180⟩ := bindR_K h161
        refine GL.join (ι := Unit) (fun (p : Unit) => []) (fun (p : Unit) => []) (fun (p : Unit) => K175 (.nx ())) ?_ ?_
        · refine GL.block ?_
          refine GL.loop (ι := Nat × (List (List Int))) (fun (p : Nat × (List (List Int))) => [(0, v0), (42, .int .i64 ((x0).length : Int)), (43, .int .i64 (p.1 : Int))]) (fun (p : Nat × (List (List Int))) => [imm (TR.sl (TR.sl TR.int)) v0 x0]) (fun (p : Nat × (List (List Int))) => p.1 + p.2.length = (x0).length ∧ List.drop p.1 x0 = p.2 ∧ rangeL duel_Check_b3 p.2 p.1 () = some y174) (fun (p : Nat × (List (List Int))) => p.2.length) (0, x0) ⟨by simp, by simp, h176⟩ (fun a w st => St.cut [0] ⟨rfl, rfl, rfl, trivial⟩ (by decide) rfl st) ?_
          rintro ⟨i181, r182⟩ ⟨h187, h188, h186⟩
          try dsimp only at h187 h188 h186
          refine GL.weak (env' := [(0, v0), (42, .int .i64 ((x0).length : Int)), (43, .int .i64 (i181 : Int))]) (L' := [imm (TR.sl (TR.sl TR.int)) v0 x0]) (fun _ _ st => st) ?_
          refine GL.seq ?_
          refine GL.region ?_
          refine RL.binI (v := .bool (decide ((i181 : Int) < ((x0).length : Int)))) rfl rfl rfl rfl rfl ?_
          refine RL.finG ?_
          refine GL.seq ?_
          refine GL.cond rfl (fun b189 => ?_) (fun b189 => ?_)
          · have h190 : i181 < (x0).length := by have := of_decide_eq_true b189; omega
            obtain ⟨y191, r193, hr, e192, h194⟩ := drop_cons h188 rfl h190
            subst hr
            obtain ⟨z183, h184, h185⟩ := rangeL_some h186
            unfold duel_Check_b3 at h184
            try dsimp only at h184
            refine GL.skip ?_
            refine GL.seq ?_
            refine GL.block ?_
            refine GL.seq ?_
            refine GL.region ?_
            refine RL.mv rfl rfl rfl ?_
            refine RL.asg rfl rfl rfl ?_
            refine RL.finG ?_
            refine GL.seq ?_
            refine GL.region ?_
            refine RL.mv rfl rfl rfl ?_
            refine RL.mv rfl rfl rfl ?_
            refine RL.idxS (sz := 1) 0 Try.underlying22 Try_ln28 rfl rfl rfl rfl rfl SlOf.imm (by omega) (by omega) ?_
            refine RL.ldS (i := i181) (r := (TR.sl TR.int)) (e' := y191) 0 Try_ln28 rfl rfl rfl rfl SlOf.imm e192 Part.self ?_
            intro v198
            refine RL.mv rfl rfl rfl ?_
            obtain ⟨y199, e200, h184⟩ := bind_some h184
            refine RL.idxS (sz := 1) 1 Try.underlying28 Try_ln3 rfl rfl rfl rfl rfl SlOf.imm (idx_some e200).1 (idx_some e200).2.1 ?_
            refine RL.ldSx (i := i181) (e' := y199) 1 Ex.ik Try_ln3 rfl rfl rfl rfl SlOf.imm (idx_some e200).2.2 Part.self ?_
            refine RL.binI (v := .bool (y199 != (0 : Int))) rfl rfl rfl rfl rfl ?_
            refine RL.finG ?_
            refine GL.cond rfl (fun b201 => ?_) (fun b201 => ?_)
            · replace h184 := ite_t b201 h184
              refine GL.seq ?_
              refine GL.region ?_
              refine RL.asg rfl rfl rfl ?_
              refine RL.finG ?_
              cases h184
              replace h185 : some (Fl.rt _) = some y174 := h185
              cases h185
              have hh := h179 _ h177
              subst hh
              exact GL.ret (Gx.ret (v := .int .i64 (3 : Int)) (res1 rfl rfl) (fun a w st => st.toPostC rfl))
            · replace h184 := ite_f b201 h184
              refine GL.skip ?_
              refine GL.nilB ?_
              refine GL.region ?_
              refine RL.binI (v := .int .i64 ((i181 + 1 : Nat) : Int)) rfl rfl rfl rfl (binI_succ i181 (by omega)) ?_
              refine RL.mv rfl rfl rfl ?_
              refine RL.fin ?_
              cases h184
              exact fun a w st => lop_intro (i181 + 1, r193) ⟨by show i181 + 1 + r193.length = (x0).length; simp only [List.length_cons] at h187; omega, h194, h185⟩ (by simp) (St.cut [0] ⟨rfl, rfl, rfl, trivial⟩ (by decide) rfl st)
          · have h190 : ¬ i181 < (x0).length := by have := of_decide_eq_false b189; omega
            obtain rfl : r182 = [] := by rw [← h188]; exact List.drop_of_length_le (by omega)
            replace h186 : some (Fl.nx _) = some y174 := h186
            cases h186
            exact GL.exit (fun a w st => mid_intro () h177 (St.cut [] trivial (by decide) rfl st))
        · rintro ⟨⟩ h202
          have h203 := h178 _ h202
          try dsimp only at h203
          refine GL.weak (env' := []) (L' := []) (fun _ _ st => st) ?_
          refine GL.seq ?_
          refine GL.region ?_
          refine RL.asg rfl rfl rfl ?_
          refine RL.finG ?_
          have h203 := Option.some.inj h203
          subst h203
          exact GL.ret (Gx.ret (v := .int .i64 (0 : Int)) (res1 rfl rfl) (fun a w st => st.toPostC rfl))

set_option maxHeartbeats 4000000 in
theorem widest_Paths_c (S : Hp) (w : World) (hS : S.sub w) (v0 : Value) (x0 : (List (List Int))) (k0 : ((TR.sl (TR.sl TR.int))).vrep S v0 x0) (res : (List (List Int)) × Int) (hm : widest_Paths_m x0 = some res) : Calls Try.prog 15 #[v0] w (Post w S (fun (o : Value) => .tuple #[o, .int .i64 res.2]) (fun (o : Value) => [imm (TR.sl (TR.sl TR.int)) o res.1])) := by
  refine calls_enter 123 Try.func15 Try.ntmps15 rfl S false [(0, v0)] [imm (TR.sl (TR.sl TR.int)) v0 x0] rfl ⟨rfl, trivial⟩ hS ⟨k0, trivial⟩ ?_
  unfold widest_Paths_m at hm
  refine GL.seq ?_
  refine GL.region ?_
  refine RL.asg rfl rfl rfl ?_
  refine RL.asg rfl rfl rfl ?_
  refine RL.finG ?_
  refine GL.seq ?_
  refine GL.seq ?_
  refine GL.region ?_
  refine RL.mv rfl rfl rfl ?_
  obtain ⟨y4, e5, hm⟩ := bind_some hm
  refine RL.callC (v := .int .i64 y4) (vs := [v0]) Try_fit41 rfl rfl rfl rfl (fun U w hU hW hL => duel_Check_c U w hU _ _ (hL 0 _ _ rfl Seen.imm) _ e5) ?_
  refine RL.asg rfl rfl rfl ?_
  refine RL.finG ?_
  refine GL.seq ?_
  refine GL.region ?_
  refine RL.mv rfl rfl rfl ?_
  refine RL.binI (v := .bool (y4 != (0 : Int))) rfl rfl rfl rfl rfl ?_
  refine RL.finG ?_
  refine GL.cond rfl (fun b6 => ?_) (fun b6 => ?_)
  · replace hm := ite_t b6 hm
    refine GL.seq ?_
    refine GL.region ?_
    refine RL.mv rfl rfl rfl ?_
    refine RL.asg rfl rfl rfl ?_
    refine RL.asg rfl rfl rfl ?_
    refine RL.finG ?_
    refine GL.weak (fun a w st => st.nilImm (TR.sl TR.int)) ?_
    have hm := Option.some.inj hm
    subst hm
    exact GL.ret (Gx.ret (v := .tuple #[Value.slice none 0 0, .int .i64 y4]) (res2 rfl rfl rfl) (fun a w st => (st.pick [1] (by decide) rfl).toPost (Value.slice none 0 0)))
  · replace hm := ite_f b6 hm
    refine GL.skip ?_
    refine GL.seq ?_
    refine GL.region ?_
    refine RL.mv rfl rfl rfl ?_
    refine RL.lenS 0 Try.underlying22 rfl rfl rfl rfl SlOf.imm ?_
    refine RL.asg rfl rfl rfl ?_
    refine RL.finG ?_
    refine GL.seq ?_
    refine GL.region ?_
    refine RL.mv rfl rfl rfl ?_
    obtain ⟨y10, e11, hm⟩ := bind_some hm
    replace e11 := chk_some e11
    refine RL.mkS (t := TR.raw) (z := .slice none 0 0) Try.underlying22 Try_lo28 (fun S => ⟨rfl, rfl⟩) rfl rfl rfl rfl e11.1 e11.2 ?_
    intro v12
    refine RL.weak (fun a w st => st.toRows 3 TR.int 1 rfl) ?_
    refine RL.reL (L' := [imm (TR.sl (TR.sl TR.int)) v0 x0, own2 28 3 TR.int v12 (List.replicate (((x0).length : Int)).toNat (Value.slice none 0 0)) (List.replicate (((x0).length : Int)).toNat ([] : (List Int)))]) rfl ?_
    refine RL.asg rfl rfl rfl ?_
    refine RL.finG ?_
    refine GL.seq ?_
    refine GL.seq ?_
    refine GL.region ?_
    refine RL.mv rfl rfl rfl ?_
    refine RL.lenR 1 Try.underlying22 rfl rfl rfl rfl ?_
    refine RL.mv rfl rfl rfl ?_
    refine RL.finG ?_
    refine GL.lenR 1 rfl (fun n313 => ?_)
    obtain ⟨y314, K315, h316, h317, h318, h319, h320⟩ := bindR_K hm
    refine GL.join (ι := (List (List Int)) × (List Value)) (fun (p : (List (List Int)) × (List Value)) => [(5, .int .i64 ((x0).length : Int)), (6, v12)]) (fun (p : (List (List Int)) × (List Value)) => [own2 28 3 TR.int v12 p.2 p.1]) (fun (p : (List (List Int)) × (List Value)) => K315 (.nx p.1)) ?_ ?_
    · refine GL.block ?_
      refine GL.loop (ι := Nat × Nat × (List (List Int)) × (List Value)) (fun (p : Nat × Nat × (List (List Int)) × (List Value)) => [(0, v0), (5, .int .i64 ((x0).length : Int)), (6, v12), (22, .int .i64 (((List.replicate (((x0).length : Int)).toNat ([] : (List Int)))).length : Int)), (23, .int .i64 (p.1 : Int))]) (fun (p : Nat × Nat × (List (List Int)) × (List Value)) => [imm (TR.sl (TR.sl TR.int)) v0 x0, own2 28 3 TR.int v12 p.2.2.2 p.2.2.1]) (fun (p : Nat × Nat × (List (List Int)) × (List Value)) => p.1 + p.2.1 = ((List.replicate (((x0).length : Int)).toNat ([] : (List Int)))).length ∧ rangeN (widest_Paths_b1 x0) p.2.1 p.1 p.2.2.1 = some y314) (fun (p : Nat × Nat × (List (List Int)) × (List Value)) => p.2.1) (0, ((List.replicate (((x0).length : Int)).toNat ([] : (List Int)))).length, (List.replicate (((x0).length : Int)).toNat ([] : (List Int))), (List.replicate (((x0).length : Int)).toNat (Value.slice none 0 0))) ⟨by simp, h316⟩ (fun a w st => St.cut [0, 1] ⟨rfl, rfl, rfl, rfl, rfl, trivial⟩ (by decide) rfl st) ?_
      rintro ⟨i321, r322, l162, V163⟩ ⟨h327, h326⟩
      try dsimp only at h327 h326
      refine GL.weak (env' := [(0, v0), (5, .int .i64 ((x0).length : Int)), (6, v12), (22, .int .i64 (((List.replicate (((x0).length : Int)).toNat ([] : (List Int)))).length : Int)), (23, .int .i64 (i321 : Int))]) (L' := [imm (TR.sl (TR.sl TR.int)) v0 x0, own2 28 3 TR.int v12 V163 l162]) (fun _ _ st => st) ?_
      refine GL.seq ?_
      refine GL.region ?_
      refine RL.binI (v := .bool (decide ((i321 : Int) < (((List.replicate (((x0).length : Int)).toNat ([] : (List Int)))).length : Int)))) rfl rfl rfl rfl rfl ?_
      refine RL.finG ?_
      refine GL.seq ?_
      refine GL.cond rfl (fun b329 => ?_) (fun b329 => ?_)
      · have h330 : i321 < ((List.replicate (((x0).length : Int)).toNat ([] : (List Int)))).length := by have := of_decide_eq_true b329; omega
        obtain ⟨r331, hr⟩ : ∃ m, r322 = m + 1 := ⟨r322 - 1, by omega⟩
        subst hr
        obtain ⟨z323, h324, h325⟩ := rangeN_some h326
        unfold widest_Paths_b1 at h324
        try dsimp only at h324
        refine GL.skip ?_
        refine GL.seq ?_
        refine GL.block ?_
        refine GL.seq ?_
        refine GL.region ?_
        refine RL.mv rfl rfl rfl ?_
        refine RL.asg rfl rfl rfl ?_
        refine RL.finG ?_
        refine GL.seq ?_
        refine GL.region ?_
        refine RL.mv rfl rfl rfl ?_
        refine RL.mv rfl rfl rfl ?_
        refine RL.mv rfl rfl rfl ?_
        obtain ⟨y337, e338, h324⟩ := bind_some h324
        replace e338 := chk_some e338
        refine RL.mkS (t := TR.int) (z := (0 : Int)) Try.underlying28 Try_lo3 (fun S => rfl) rfl rfl rfl rfl e338.1 e338.2 ?_
        intro v339
        obtain ⟨y340, e341, h324⟩ := bind_some h324
        refine RL.idxR 1 Try.underlying22 Try_ln28 rfl rfl rfl rfl rfl (idx_some e341).1 (idx_some e341).2.1 ?_
        refine RL.stSp (i := i321) (r0 := y340) 1 2 (by decide) Try_ln28 rfl rfl rfl rfl rfl rfl (idx_some e341).2.2 ?_
        refine RL.reL (L' := [imm (TR.sl (TR.sl TR.int)) v0 x0, own2 28 3 TR.int v12 (List.set V163 i321 v339) (List.set l162 i321 (List.replicate (((x0).length : Int)).toNat (0 : Int))), gone]) rfl ?_
        refine RL.finG ?_
        refine GL.seq ?_
        refine GL.region ?_
        refine RL.mv rfl rfl rfl ?_
        refine RL.mv rfl rfl rfl ?_
        refine RL.finG ?_
        refine GL.open_ 0 rfl (fun S h => len_imm S h) (fun n422 => ?_)
        obtain ⟨y423, K424, h425, h426, h427, h428, h429⟩ := bindF_K h324
        refine GL.join (ι := (List (List Int)) × (List Value)) (fun (p : (List (List Int)) × (List Value)) => [(0, v0), (5, .int .i64 ((x0).length : Int)), (6, v12), (22, .int .i64 (((List.replicate (((x0).length : Int)).toNat ([] : (List Int)))).length : Int)), (23, .int .i64 (i321 : Int))]) (fun (p : (List (List Int)) × (List Value)) => [imm (TR.sl (TR.sl TR.int)) v0 x0, own2 28 3 TR.int v12 p.2 p.1]) (fun (p : (List (List Int)) × (List Value)) => K424 (.nx p.1)) ?_ ?_
        · refine GL.block ?_
          refine GL.loop (ι := Nat × (List (List Int)) × (List (List Int)) × (List Value)) (fun (p : Nat × (List (List Int)) × (List (List Int)) × (List Value)) => [(0, v0), (5, .int .i64 ((x0).length : Int)), (6, v12), (7, .int .i64 (i321 : Int)), (22, .int .i64 (((List.replicate (((x0).length : Int)).toNat ([] : (List Int)))).length : Int)), (23, .int .i64 (i321 : Int)), (31, .int .i64 ((x0).length : Int)), (32, .int .i64 (p.1 : Int))]) (fun (p : Nat × (List (List Int)) × (List (List Int)) × (List Value)) => [imm (TR.sl (TR.sl TR.int)) v0 x0, own2 28 3 TR.int v12 p.2.2.2 p.2.2.1]) (fun (p : Nat × (List (List Int)) × (List (List Int)) × (List Value)) => p.1 + p.2.1.length = (x0).length ∧ List.drop p.1 x0 = p.2.1 ∧ rangeL (widest_Paths_b2 x0 i321) p.2.1 p.1 p.2.2.1 = some y423) (fun (p : Nat × (List (List Int)) × (List (List Int)) × (List Value)) => p.2.1.length) (0, x0, (List.set l162 i321 (List.replicate (((x0).length : Int)).toNat (0 : Int))), (List.set V163 i321 v339)) ⟨by simp, by simp, h425⟩ (fun a w st => St.cut [0, 1] ⟨rfl, rfl, rfl, rfl, rfl, rfl, rfl, rfl, trivial⟩ (by decide) rfl st) ?_
          rintro ⟨i430, r431, l381, V382⟩ ⟨h436, h437, h435⟩
          try dsimp only at h436 h437 h435
          refine GL.weak (env' := [(0, v0), (5, .int .i64 ((x0).length : Int)), (6, v12), (7, .int .i64 (i321 : Int)), (22, .int .i64 (((List.replicate (((x0).length : Int)).toNat ([] : (List Int)))).length : Int)), (23, .int .i64 (i321 : Int)), (31, .int .i64 ((x0).length : Int)), (32, .int .i64 (i430 : Int))]) (L' := [imm (TR.sl (TR.sl TR.int)) v0 x0, own2 28 3 TR.int v12 V382 l381]) (fun _ _ st => st) ?_
          refine GL.seq ?_
          refine GL.region ?_
          refine RL.binI (v := .bool (decide ((i430 : Int) < ((x0).length : Int)))) rfl rfl rfl rfl rfl ?_
          refine RL.finG ?_
          refine GL.seq ?_
          refine GL.cond rfl (fun b438 => ?_) (fun b438 => ?_)
          · have h439 : i430 < (x0).length := by have := of_decide_eq_true b438; omega
            obtain ⟨y440, r442, hr, e441, h443⟩ := drop_cons h437 rfl h439
            subst hr
            obtain ⟨z432, h433, h434⟩ := rangeL_some h435
            unfold widest_Paths_b2 at h433
            try dsimp only at h433
            refine GL.skip ?_
            refine GL.seq ?_
            refine GL.block ?_
            refine GL.seq ?_
            refine GL.region ?_
            refine RL.mv rfl rfl rfl ?_
            refine RL.asg rfl rfl rfl ?_
            refine RL.finG ?_
            refine GL.seq ?_
            refine GL.regionQ rfl rfl (by kernel_rfl) ?_
            refine RL.mv rfl rfl rfl ?_
            refine RL.mv rfl rfl rfl ?_
            obtain ⟨y452, e453, h433⟩ := bind_some h433
            refine RL.idxS (sz := 1) 0 Try.underlying22 Try_ln28 rfl rfl rfl rfl rfl SlOf.imm (idx_some e453).1 (idx_some e453).2.1 ?_
            refine RL.ldS (i := i321) (r := (TR.sl TR.int)) (e' := y452) 0 Try_ln28 rfl rfl rfl rfl SlOf.imm (idx_some e453).2.2 Part.self ?_
            intro v454
            refine RL.mv rfl rfl rfl ?_
            obtain ⟨y455, e456, h433⟩ := bind_some h433
            refine RL.idxS (sz := 1) 2 Try.underlying28 Try_ln3 rfl rfl rfl rfl rfl SlOf.imm (idx_some e456).1 (idx_some e456).2.1 ?_
            refine RL.ldSx (i := i430) (e' := y455) 2 Ex.ik Try_ln3 rfl rfl rfl rfl SlOf.imm (idx_some e456).2.2 Part.self ?_
            refine RL.mv rfl rfl rfl ?_
            refine RL.mv rfl rfl rfl ?_
            refine RL.idxS (sz := 1) 0 Try.underlying22 Try_ln28 rfl rfl rfl rfl rfl SlOf.imm (by omega) (by omega) ?_
            refine RL.ldS (i := i430) (r := (TR.sl TR.int)) (e' := y440) 0 Try_ln28 rfl rfl rfl rfl SlOf.imm e441 Part.self ?_
            intro v457
            refine RL.reL (L' := [imm (TR.sl (TR.sl TR.int)) v0 x0, own2 28 3 TR.int v12 V382 l381, imm (TR.sl TR.int) v454 y452, imm (TR.sl TR.int) v457 y440]) rfl ?_
            refine RL.mv rfl rfl rfl ?_
            obtain ⟨y458, e459, h433⟩ := bind_some h433
            refine RL.idxS (sz := 1) 3 Try.underlying28 Try_ln3 rfl rfl rfl rfl rfl SlOf.imm (idx_some e459).1 (idx_some e459).2.1 ?_
            refine RL.ldSx (i := i321) (e' := y458) 3 Ex.ik Try_ln3 rfl rfl rfl rfl SlOf.imm (idx_some e459).2.2 Part.self ?_
            refine RL.binI (v := .bool (decide (y455 > y458))) rfl rfl rfl rfl rfl ?_
            refine RL.finQG ?_
            refine GL.cond rfl (fun b460 => ?_) (fun b460 => ?_)
            · replace h433 := ite_t b460 h433
              refine GL.regionH 13 rfl rfl (by kernel_rfl) ?_
              simp only [List.take_succ_cons, List.take_zero, List.drop_succ_cons, List.drop_zero]
              refine RL.mv rfl rfl rfl ?_
              refine RL.mv rfl rfl rfl ?_
              obtain ⟨y470, e471, h433⟩ := bind_some h433
              refine RL.idxR 1 Try.underlying22 Try_ln28 rfl rfl rfl rfl rfl (idx_some e471).1 (idx_some e471).2.1 ?_
              refine RL.ldR (i := i321) (r := y470) 1 Try_ln28 rfl rfl rfl rfl (idx_some e471).2.2 ?_
              refine RL.mv rfl rfl rfl ?_
              refine RL.mv rfl rfl rfl ?_
              refine RL.mv rfl rfl rfl ?_
              obtain ⟨y472, e473, h433⟩ := bind_some h433
              refine RL.idxS (sz := 1) 0 Try.underlying22 Try_ln28 rfl rfl rfl rfl rfl SlOf.imm (idx_some e473).1 (idx_some e473).2.1 ?_
              refine RL.ldS (i := i321) (r := (TR.sl TR.int)) (e' := y472) 0 Try_ln28 rfl rfl rfl rfl SlOf.imm (idx_some e473).2.2 Part.self ?_
              intro v474
              refine RL.mv rfl rfl rfl ?_
              obtain ⟨y475, e476, h433⟩ := bind_some h433
              refine RL.idxS (sz := 1) 4 Try.underlying28 Try_ln3 rfl rfl rfl rfl rfl SlOf.imm (idx_some e476).1 (idx_some e476).2.1 ?_
              refine RL.ldSx (i := i430) (e' := y475) 4 Ex.ik Try_ln3 rfl rfl rfl rfl SlOf.imm (idx_some e476).2.2 Part.self ?_
              obtain ⟨y477, e478, h433⟩ := bind_some h433
              refine RL.idxS (sz := 1) 1 Try.underlying28 Try_ln3 rfl rfl rfl rfl rfl (SlOf.row (idx_some e471).2.2) (idx_some e478).1 (idx_some e478).2.1 ?_
              refine RL.finH ?_
              refine RL.stR (i := i321) (j := i430) (row := y470) (e' := y475) (e1 := y475) (r := TR.int) 1 Try_ln3 rfl rfl rfl rfl VR.int rfl (idx_some e471).2.2 (idx_some e478).2.2 Upd.self ?_
              refine RL.reL (L' := [imm (TR.sl (TR.sl TR.int)) v0 x0, own2 28 3 TR.int v12 V382 (List.set l381 i321 (List.set y470 i430 y475)), imm (TR.sl TR.int) v454 y452, imm (TR.sl TR.int) v457 y440, imm (TR.sl TR.int) v474 y472]) rfl ?_
              refine RL.finG ?_
              refine GL.nilB ?_
              refine GL.region ?_
              refine RL.binI (v := .int .i64 ((i430 + 1 : Nat) : Int)) rfl rfl rfl rfl (binI_succ i430 (by omega)) ?_
              refine RL.mv rfl rfl rfl ?_
              refine RL.fin ?_
              cases h433
              exact fun a w st => lop_intro (i430 + 1, r442, (List.set l381 i321 (List.set y470 i430 y475)), V382) ⟨by show i430 + 1 + r442.length = (x0).length; simp only [List.length_cons] at h436; omega, h443, h434⟩ (by simp) (St.cut [0, 1] ⟨rfl, rfl, rfl, rfl, rfl, rfl, rfl, rfl, trivial⟩ (by decide) rfl st)
            · replace h433 := ite_f b460 h433
              refine GL.skip ?_
              refine GL.nilB ?_
              refine GL.region ?_
              refine RL.binI (v := .int .i64 ((i430 + 1 : Nat) : Int)) rfl rfl rfl rfl (binI_succ i430 (by omega)) ?_
              refine RL.mv rfl rfl rfl ?_
              refine RL.fin ?_
              cases h433
              exact fun a w st => lop_intro (i430 + 1, r442, l381, V382) ⟨by show i430 + 1 + r442.length = (x0).length; simp only [List.length_cons] at h436; omega, h443, h434⟩ (by simp) (St.cut [0, 1] ⟨rfl, rfl, rfl, rfl, rfl, rfl, rfl, rfl, trivial⟩ (by decide) rfl st)
          · have h439 : ¬ i430 < (x0).length := by have := of_decide_eq_false b438; omega
            obtain rfl : r431 = [] := by rw [← h437]; exact List.drop_of_length_le (by omega)
            replace h435 : some (Fl.nx _) = some y423 := h435
            cases h435
            exact GL.exit (fun a w st => mid_intro (l381, V382) h426 (St.cut [0, 1] ⟨rfl, rfl, rfl, rfl, rfl, trivial⟩ (by decide) rfl st))
        · rintro ⟨l381, V382⟩ h479
          have h480 := h427 _ h479
          try dsimp only at h480
          refine GL.weak (env' := [(0, v0), (5, .int .i64 ((x0).length : Int)), (6, v12), (22, .int .i64 (((List.replicate (((x0).length : Int)).toNat ([] : (List Int)))).length : Int)), (23, .int .i64 (i321 : Int))]) (L' := [imm (TR.sl (TR.sl TR.int)) v0 x0, own2 28 3 TR.int v12 V382 l381]) (fun _ _ st => st) ?_
          refine GL.nilB ?_
          refine GL.region ?_
          refine RL.binI (v := .int .i64 ((i321 + 1 : Nat) : Int)) rfl rfl rfl rfl (binI_succ i321 (by omega)) ?_
          refine RL.mv rfl rfl rfl ?_
          refine RL.fin ?_
          cases h480
          exact fun a w st => lop_intro (i321 + 1, r331, l381, V382) ⟨by show i321 + 1 + r331 = ((List.replicate (((x0).length : Int)).toNat ([] : (List Int)))).length; omega, h325⟩ (by simp) (St.cut [0, 1] ⟨rfl, rfl, rfl, rfl, rfl, trivial⟩ (by decide) rfl st)
      · have h330 : ¬ i321 < ((List.replicate (((x0).length : Int)).toNat ([] : (List Int)))).length := by have := of_decide_eq_false b329; omega
        obtain rfl : r322 = 0 := by omega
        replace h326 : some (Fl.nx _) = some y314 := h326
        cases h326
        exact GL.exit (fun a w st => mid_intro (l162, V163) h317 (St.cut [1] ⟨rfl, rfl, trivial⟩ (by decide) rfl st))
    · rintro ⟨l162, V163⟩ h481
      have h482 := h318 _ h481
      try dsimp only at h482
      refine GL.weak (env' := [(5, .int .i64 ((x0).length : Int)), (6, v12)]) (L' := [own2 28 3 TR.int v12 V163 l162]) (fun _ _ st => st) ?_
      refine GL.seq ?_
      refine GL.seq ?_
      refine GL.region ?_
      refine RL.mv rfl rfl rfl ?_
      refine RL.mv rfl rfl rfl ?_
      refine RL.finG ?_
      obtain ⟨y1568, e1569, h482⟩ := bind_some h482
      replace e1569 := chk_some e1569
      obtain ⟨y1570, K1571, h1572, h1573, h1574, h1575, h1576⟩ := bindR_K h482
      refine GL.join (ι := (List (List Int)) × (List Value)) (fun (p : (List (List Int)) × (List Value)) => [(6, v12)]) (fun (p : (List (List Int)) × (List Value)) => [own2 28 3 TR.int v12 p.2 p.1]) (fun (p : (List (List Int)) × (List Value)) => K1571 (.nx p.1)) ?_ ?_
      · refine GL.block ?_
        refine GL.loop (ι := Nat × Nat × (List (List Int)) × (List Value)) (fun (p : Nat × Nat × (List (List Int)) × (List Value)) => [(5, .int .i64 ((x0).length : Int)), (6, v12), (65, .int .i64 ((x0).length : Int)), (66, .int .i64 (p.1 : Int))]) (fun (p : Nat × Nat × (List (List Int)) × (List Value)) => [own2 28 3 TR.int v12 p.2.2.2 p.2.2.1]) (fun (p : Nat × Nat × (List (List Int)) × (List Value)) => p.1 + p.2.1 = (((x0).length : Int)).toNat ∧ rangeN (widest_Paths_b3 x0) p.2.1 p.1 p.2.2.1 = some y1570) (fun (p : Nat × Nat × (List (List Int)) × (List Value)) => p.2.1) (0, (((x0).length : Int)).toNat, l162, V163) ⟨by simp, h1572⟩ (fun a w st => St.cut [0] ⟨rfl, rfl, rfl, rfl, trivial⟩ (by decide) rfl st) ?_
        rintro ⟨i1577, r1578, l1024, V1025⟩ ⟨h1583, h1582⟩
        try dsimp only at h1583 h1582
        refine GL.weak (env' := [(5, .int .i64 ((x0).length : Int)), (6, v12), (65, .int .i64 ((x0).length : Int)), (66, .int .i64 (i1577 : Int))]) (L' := [own2 28 3 TR.int v12 V1025 l1024]) (fun _ _ st => st) ?_
        refine GL.seq ?_
        refine GL.region ?_
        refine RL.binI (v := .bool (decide ((i1577 : Int) < ((x0).length : Int)))) rfl rfl rfl rfl rfl ?_
        refine RL.finG ?_
        refine GL.seq ?_
        refine GL.cond rfl (fun b1585 => ?_) (fun b1585 => ?_)
        · have h1586 : i1577 < (((x0).length : Int)).toNat := by have := of_decide_eq_true b1585; omega
          obtain ⟨r1587, hr⟩ : ∃ m, r1578 = m + 1 := ⟨r1578 - 1, by omega⟩
          subst hr
          obtain ⟨z1579, h1580, h1581⟩ := rangeN_some h1582
          unfold widest_Paths_b3 at h1580
          try dsimp only at h1580
          refine GL.skip ?_
          refine GL.seq ?_
          refine GL.block ?_
          refine GL.seq ?_
          refine GL.region ?_
          refine RL.mv rfl rfl rfl ?_
          refine RL.asg rfl rfl rfl ?_
          refine RL.finG ?_
          refine GL.seq ?_
          refine GL.region ?_
          refine RL.mv rfl rfl rfl ?_
          refine RL.mv rfl rfl rfl ?_
          refine RL.finG ?_
          obtain ⟨y1935, e1936, h1580⟩ := bind_some h1580
          replace e1936 := chk_some e1936
          obtain ⟨y1937, K1938, h1939, h1940, h1941, h1942, h1943⟩ := bindF_K h1580
          refine GL.join (ι := (List (List Int)) × (List Value)) (fun (p : (List (List Int)) × (List Value)) => [(5, .int .i64 ((x0).length : Int)), (6, v12), (65, .int .i64 ((x0).length : Int)), (66, .int .i64 (i1577 : Int))]) (fun (p : (List (List Int)) × (List Value)) => [own2 28 3 TR.int v12 p.2 p.1]) (fun (p : (List (List Int)) × (List Value)) => K1938 (.nx p.1)) ?_ ?_
          · refine GL.block ?_
            refine GL.loop (ι := Nat × Nat × (List (List Int)) × (List Value)) (fun (p : Nat × Nat × (List (List Int)) × (List Value)) => [(5, .int .i64 ((x0).length : Int)), (6, v12), (9, .int .i64 (i1577 : Int)), (65, .int .i64 ((x0).length : Int)), (66, .int .i64 (i1577 : Int)), (69, .int .i64 ((x0).length : Int)), (70, .int .i64 (p.1 : Int))]) (fun (p : Nat × Nat × (List (List Int)) × (List Value)) => [own2 28 3 TR.int v12 p.2.2.2 p.2.2.1]) (fun (p : Nat × Nat × (List (List Int)) × (List Value)) => p.1 + p.2.1 = (((x0).length : Int)).toNat ∧ rangeN (widest_Paths_b4 x0 i1577) p.2.1 p.1 p.2.2.1 = some y1937) (fun (p : Nat × Nat × (List (List Int)) × (List Value)) => p.2.1) (0, (((x0).length : Int)).toNat, l1024, V1025) ⟨by simp, h1939⟩ (fun a w st => St.cut [0] ⟨rfl, rfl, rfl, rfl, rfl, rfl, rfl, trivial⟩ (by decide) rfl st) ?_
            rintro ⟨i1944, r1945, l1760, V1761⟩ ⟨h1950, h1949⟩
            try dsimp only at h1950 h1949
            refine GL.weak (env' := [(5, .int .i64 ((x0).length : Int)), (6, v12), (9, .int .i64 (i1577 : Int)), (65, .int .i64 ((x0).length : Int)), (66, .int .i64 (i1577 : Int)), (69, .int .i64 ((x0).length : Int)), (70, .int .i64 (i1944 : Int))]) (L' := [own2 28 3 TR.int v12 V1761 l1760]) (fun _ _ st => st) ?_
            refine GL.seq ?_
            refine GL.region ?_
            refine RL.binI (v := .bool (decide ((i1944 : Int) < ((x0).length : Int)))) rfl rfl rfl rfl rfl ?_
            refine RL.finG ?_
            refine GL.seq ?_
            refine GL.cond rfl (fun b1952 => ?_) (fun b1952 => ?_)
            · have h1953 : i1944 < (((x0).length : Int)).toNat := by have := of_decide_eq_true b1952; omega
              obtain ⟨r1954, hr⟩ : ∃ m, r1945 = m + 1 := ⟨r1945 - 1, by omega⟩
              subst hr
              obtain ⟨z1946, h1947, h1948⟩ := rangeN_some h1949
              unfold widest_Paths_b4 at h1947
              try dsimp only at h1947
              refine GL.skip ?_
              refine GL.seq ?_
              refine GL.block ?_
              refine GL.seq ?_
              refine GL.region ?_
              refine RL.mv rfl rfl rfl ?_
              refine RL.asg rfl rfl rfl ?_
              refine RL.finG ?_
              refine GL.seq ?_
              refine GL.region ?_
              refine RL.mv rfl rfl rfl ?_
              refine RL.mv rfl rfl rfl ?_
              refine RL.finG ?_
              obtain ⟨y2056, e2057, h1947⟩ := bind_some h1947
              replace e2057 := chk_some e2057
              obtain ⟨y2058, K2059, h2060, h2061, h2062, h2063, h2064⟩ := bindF_K h1947
              refine GL.join (ι := (List (List Int)) × (List Value)) (fun (p : (List (List Int)) × (List Value)) => [(5, .int .i64 ((x0).length : Int)), (6, v12), (9, .int .i64 (i1577 : Int)), (65, .int .i64 ((x0).length : Int)), (66, .int .i64 (i1577 : Int)), (69, .int .i64 ((x0).length : Int)), (70, .int .i64 (i1944 : Int))]) (fun (p : (List (List Int)) × (List Value)) => [own2 28 3 TR.int v12 p.2 p.1]) (fun (p : (List (List Int)) × (List Value)) => K2059 (.nx p.1)) ?_ ?_
              · refine GL.block ?_
                refine GL.loop (ι := Nat × Nat × (List (List Int)) × (List Value)) (fun (p : Nat × Nat × (List (List Int)) × (List Value)) => [(5, .int .i64 ((x0).length : Int)), (6, v12), (9, .int .i64 (i1577 : Int)), (10, .int .i64 (i1944 : Int)), (65, .int .i64 ((x0).length : Int)), (66, .int .i64 (i1577 : Int)), (69, .int .i64 ((x0).length : Int)), (70, .int .i64 (i1944 : Int)), (73, .int .i64 ((x0).length : Int)), (74, .int .i64 (p.1 : Int))]) (fun (p : Nat × Nat × (List (List Int)) × (List Value)) => [own2 28 3 TR.int v12 p.2.2.2 p.2.2.1]) (fun (p : Nat × Nat × (List (List Int)) × (List Value)) => p.1 + p.2.1 = (((x0).length : Int)).toNat ∧ rangeN (widest_Paths_b5 i1944 i1577) p.2.1 p.1 p.2.2.1 = some y2058) (fun (p : Nat × Nat × (List (List Int)) × (List Value)) => p.2.1) (0, (((x0).length : Int)).toNat, l1760, V1761) ⟨by simp, h2060⟩ (fun a w st => St.cut [0] ⟨rfl, rfl, rfl, rfl, rfl, rfl, rfl, rfl, rfl, rfl, trivial⟩ (by decide) rfl st) ?_
                rintro ⟨i2065, r2066, l2004, V2005⟩ ⟨h2071, h2070⟩
                try dsimp only at h2071 h2070
                refine GL.weak (env' := [(5, .int .i64 ((x0).length : Int)), (6, v12), (9, .int .i64 (i1577 : Int)), (10, .int .i64 (i1944 : Int)), (65, .int .i64 ((x0).length : Int)), (66, .int .i64 (i1577 : Int)), (69, .int .i64 ((x0).length : Int)), (70, .int .i64 (i1944 : Int)), (73, .int .i64 ((x0).length : Int)), (74, .int .i64 (i2065 : Int))]) (L' := [own2 28 3 TR.int v12 V2005 l2004]) (fun _ _ st => st) ?_
                refine GL.seq ?_
                refine GL.region ?_
                refine RL.binI (v := .bool (decide ((i2065 : Int) < ((x0).length : Int)))) rfl rfl rfl rfl rfl ?_
                refine RL.finG ?_
                refine GL.seq ?_
                refine GL.cond rfl (fun b2073 => ?_) (fun b2073 => ?_)
                · have h2074 : i2065 < (((x0).length : Int)).toNat := by have := of_decide_eq_true b2073; omega
                  obtain ⟨r2075, hr⟩ : ∃ m, r2066 = m + 1 := ⟨r2066 - 1, by omega⟩
                  subst hr
                  obtain ⟨z2067, h2068, h2069⟩ := rangeN_some h2070
                  unfold widest_Paths_b5 at h2068
                  try dsimp only at h2068
                  refine GL.skip ?_
                  refine GL.seq ?_
                  refine GL.block ?_
                  refine GL.seq ?_
                  refine GL.region ?_
                  refine RL.mv rfl rfl rfl ?_
                  refine RL.asg rfl rfl rfl ?_
                  refine RL.finG ?_
                  refine GL.seq ?_
                  obtain ⟨y2081, K2082, h2083, h2084, h2085, h2086, h2087⟩ := bindF_K h2068
                  refine GL.join (ι := Bool) (fun (p : Bool) => [(5, .int .i64 ((x0).length : Int)), (6, v12), (9, .int .i64 (i1577 : Int)), (10, .int .i64 (i1944 : Int)), (11, .int .i64 (i2065 : Int)), (65, .int .i64 ((x0).length : Int)), (66, .int .i64 (i1577 : Int)), (69, .int .i64 ((x0).length : Int)), (70, .int .i64 (i1944 : Int)), (73, .int .i64 ((x0).length : Int)), (74, .int .i64 (i2065 : Int)), (89, .bool p)]) (fun (p : Bool) => [own2 28 3 TR.int v12 V2005 l2004]) (fun (p : Bool) => K2082 (.nx p)) ?_ ?_
                  · skip
                    refine GL.region ?_
                    refine RL.mv rfl rfl rfl ?_
                    refine RL.mv rfl rfl rfl ?_
                    refine RL.binI (v := .bool ((i1944 : Int) != (i2065 : Int))) rfl rfl rfl rfl rfl ?_
                    refine RL.mv rfl rfl rfl ?_
                    refine RL.split (t := 80) rfl (fun b2088 => ?_) (fun b2088 => ?_)
                    · replace h2083 := ite_t b2088 h2083
                      refine RL.mv rfl rfl rfl ?_
                      refine RL.mv rfl rfl rfl ?_
                      refine RL.binI (v := .bool ((i1944 : Int) != (i1577 : Int))) rfl rfl rfl rfl rfl ?_
                      refine RL.pickT rfl rfl rfl rfl ?_
                      refine RL.mv rfl rfl rfl ?_
                      refine RL.split (t := 85) rfl (fun b2089 => ?_) (fun b2089 => ?_)
                      · replace h2083 := ite_t b2089 h2083
                        refine RL.mv rfl rfl rfl ?_
                        refine RL.mv rfl rfl rfl ?_
                        refine RL.binI (v := .bool ((i2065 : Int) != (i1577 : Int))) rfl rfl rfl rfl rfl ?_
                        refine RL.pickT rfl rfl rfl rfl ?_
                        refine RL.fin ?_
                        cases h2083
                        exact fun a w st => mid_intro ((i2065 : Int) != (i1577 : Int)) h2084 (St.cut [0] ⟨rfl, rfl, rfl, rfl, rfl, rfl, rfl, rfl, rfl, rfl, rfl, rfl, trivial⟩ (by decide) rfl st)
                      · replace h2083 := ite_f b2089 h2083
                        refine RL.skip rfl rfl ?_
                        refine RL.skip rfl rfl ?_
                        refine RL.skip rfl rfl ?_
                        refine RL.pickF rfl rfl rfl rfl ?_
                        refine RL.fin ?_
                        cases h2083
                        exact fun a w st => mid_intro false h2084 (St.cut [0] ⟨rfl, rfl, rfl, rfl, rfl, rfl, rfl, rfl, rfl, rfl, rfl, rfl, trivial⟩ (by decide) rfl st)
                    · replace h2083 := ite_f b2088 h2083
                      refine RL.skip rfl rfl ?_
                      refine RL.skip rfl rfl ?_
                      refine RL.skip rfl rfl ?_
                      refine RL.pickF rfl rfl rfl rfl ?_
                      refine RL.mv rfl rfl rfl ?_
                      refine RL.skip rfl rfl ?_
                      refine RL.skip rfl rfl ?_
                      refine RL.skip rfl rfl ?_
                      refine RL.pickF rfl rfl rfl rfl ?_
                      refine RL.fin ?_
                      cases h2083
                      exact fun a w st => mid_intro false h2084 (St.cut [0] ⟨rfl, rfl, rfl, rfl, rfl, rfl, rfl, rfl, rfl, rfl, rfl, rfl, trivial⟩ (by decide) rfl st)
                  · rintro x2080 h2090
                    have h2091 := h2085 _ h2090
                    try dsimp only at h2091
                    refine GL.weak (env' := [(5, .int .i64 ((x0).length : Int)), (6, v12), (9, .int .i64 (i1577 : Int)), (10, .int .i64 (i1944 : Int)), (11, .int .i64 (i2065 : Int)), (65, .int .i64 ((x0).length : Int)), (66, .int .i64 (i1577 : Int)), (69, .int .i64 ((x0).length : Int)), (70, .int .i64 (i1944 : Int)), (73, .int .i64 ((x0).length : Int)), (74, .int .i64 (i2065 : Int)), (89, .bool x2080)]) (L' := [own2 28 3 TR.int v12 V2005 l2004]) (fun _ _ st => st) ?_
                    refine GL.cond rfl (fun b2092 => ?_) (fun b2092 => ?_)
                    · replace h2091 := ite_t b2092 h2091
                      refine GL.regionH 29 rfl rfl (by kernel_rfl) ?_
                      simp only [List.take_succ_cons, List.take_zero, List.drop_succ_cons, List.drop_zero]
                      refine RL.mv rfl rfl rfl ?_
                      refine RL.mv rfl rfl rfl ?_
                      obtain ⟨y2109, e2110, h2091⟩ := bind_some h2091
                      refine RL.idxR 0 Try.underlying22 Try_ln28 rfl rfl rfl rfl rfl (idx_some e2110).1 (idx_some e2110).2.1 ?_
                      refine RL.ldR (i := i1944) (r := y2109) 0 Try_ln28 rfl rfl rfl rfl (idx_some e2110).2.2 ?_
                      refine RL.mv rfl rfl rfl ?_
                      refine RL.mv rfl rfl rfl ?_
                      refine RL.mv rfl rfl rfl ?_
                      obtain ⟨y2111, e2112, h2091⟩ := bind_some h2091
                      refine RL.idxR 0 Try.underlying22 Try_ln28 rfl rfl rfl rfl rfl (idx_some e2112).1 (idx_some e2112).2.1 ?_
                      refine RL.ldR (i := i1944) (r := y2111) 0 Try_ln28 rfl rfl rfl rfl (idx_some e2112).2.2 ?_
                      refine RL.mv rfl rfl rfl ?_
                      obtain ⟨y2113, e2114, h2091⟩ := bind_some h2091
                      refine RL.idxS (sz := 1) 0 Try.underlying28 Try_ln3 rfl rfl rfl rfl rfl (SlOf.row (idx_some e2112).2.2) (idx_some e2114).1 (idx_some e2114).2.1 ?_
                      refine RL.ldSx (i := i2065) (e' := y2113) 0 Ex.ik Try_ln3 rfl rfl rfl rfl (SlOf.row (idx_some e2112).2.2) (idx_some e2114).2.2 Part.self ?_
                      refine RL.mv rfl rfl rfl ?_
                      refine RL.mv rfl rfl rfl ?_
                      obtain ⟨y2115, e2116, h2091⟩ := bind_some h2091
                      refine RL.idxR 0 Try.underlying22 Try_ln28 rfl rfl rfl rfl rfl (idx_some e2116).1 (idx_some e2116).2.1 ?_
                      refine RL.ldR (i := i1944) (r := y2115) 0 Try_ln28 rfl rfl rfl rfl (idx_some e2116).2.2 ?_
                      refine RL.mv rfl rfl rfl ?_
                      obtain ⟨y2117, e2118, h2091⟩ := bind_some h2091
                      refine RL.idxS (sz := 1) 0 Try.underlying28 Try_ln3 rfl rfl rfl rfl rfl (SlOf.row (idx_some e2116).2.2) (idx_some e2118).1 (idx_some e2118).2.1 ?_
                      refine RL.ldSx (i := i1577) (e' := y2117) 0 Ex.ik Try_ln3 rfl rfl rfl rfl (SlOf.row (idx_some e2116).2.2) (idx_some e2118).2.2 Part.self ?_
                      refine RL.mv rfl rfl rfl ?_
                      refine RL.mv rfl rfl rfl ?_
                      obtain ⟨y2119, e2120, h2091⟩ := bind_some h2091
                      refine RL.idxR 0 Try.underlying22 Try_ln28 rfl rfl rfl rfl rfl (idx_some e2120).1 (idx_some e2120).2.1 ?_
                      refine RL.ldR (i := i1577) (r := y2119) 0 Try_ln28 rfl rfl rfl rfl (idx_some e2120).2.2 ?_
                      refine RL.mv rfl rfl rfl ?_
                      obtain ⟨y2121, e2122, h2091⟩ := bind_some h2091
                      refine RL.idxS (sz := 1) 0 Try.underlying28 Try_ln3 rfl rfl rfl rfl rfl (SlOf.row (idx_some e2120).2.2) (idx_some e2122).1 (idx_some e2122).2.1 ?_
                      refine RL.ldSx (i := i2065) (e' := y2121) 0 Ex.ik Try_ln3 rfl rfl rfl rfl (SlOf.row (idx_some e2120).2.2) (idx_some e2122).2.2 Part.self ?_
                      refine RL.minI rfl rfl rfl rfl ?_
                      refine RL.maxI rfl rfl rfl rfl ?_
                      obtain ⟨y2123, e2124, h2091⟩ := bind_some h2091
                      refine RL.idxS (sz := 1) 0 Try.underlying28 Try_ln3 rfl rfl rfl rfl rfl (SlOf.row (idx_some e2110).2.2) (idx_some e2124).1 (idx_some e2124).2.1 ?_
                      refine RL.finH ?_
                      refine RL.stR (i := i1944) (j := i2065) (row := y2109) (e' := if (if y2121 < y2117 then y2121 else y2117) > y2113 then if y2121 < y2117 then y2121 else y2117 else y2113) (e1 := if (if y2121 < y2117 then y2121 else y2117) > y2113 then if y2121 < y2117 then y2121 else y2117 else y2113) (r := TR.int) 0 Try_ln3 rfl rfl rfl rfl VR.int rfl (idx_some e2110).2.2 (idx_some e2124).2.2 Upd.self ?_
                      refine RL.finG ?_
                      refine GL.weak (env' := [(5, .int .i64 ((x0).length : Int)), (6, v12), (9, .int .i64 (i1577 : Int)), (10, .int .i64 (i1944 : Int)), (65, .int .i64 ((x0).length : Int)), (66, .int .i64 (i1577 : Int)), (69, .int .i64 ((x0).length : Int)), (70, .int .i64 (i1944 : Int)), (73, .int .i64 ((x0).length : Int)), (74, .int .i64 (i2065 : Int))]) (L' := [own2 28 3 TR.int v12 V2005 (List.set l2004 i1944 (List.set y2109 i2065 (if (if y2121 < y2117 then y2121 else y2117) > y2113 then if y2121 < y2117 then y2121 else y2117 else y2113)))]) (fun a w st => St.cut [0] ⟨rfl, rfl, rfl, rfl, rfl, rfl, rfl, rfl, rfl, rfl, trivial⟩ (by decide) rfl st) ?_
                      refine GL.nilB ?_
                      refine GL.region ?_
                      refine RL.binI (v := .int .i64 ((i2065 + 1 : Nat) : Int)) rfl rfl rfl rfl (binI_succ i2065 (by omega)) ?_
                      refine RL.mv rfl rfl rfl ?_
                      refine RL.fin ?_
                      cases h2091
                      exact fun a w st => lop_intro (i2065 + 1, r2075, (List.set l2004 i1944 (List.set y2109 i2065 (if (if y2121 < y2117 then y2121 else y2117) > y2113 then if y2121 < y2117 then y2121 else y2117 else y2113))), V2005) ⟨by show i2065 + 1 + r2075 = (((x0).length : Int)).toNat; omega, h2069⟩ (by simp) (St.cut [0] ⟨rfl, rfl, rfl, rfl, rfl, rfl, rfl, rfl, rfl, rfl, trivial⟩ (by decide) rfl st)
                    · replace h2091 := ite_f b2092 h2091
                      refine GL.skip ?_
                      refine GL.nilB ?_
                      refine GL.region ?_
                      refine RL.binI (v := .int .i64 ((i2065 + 1 : Nat) : Int)) rfl rfl rfl rfl (binI_succ i2065 (by omega)) ?_
                      refine RL.mv rfl rfl rfl ?_
                      refine RL.fin ?_
                      cases h2091
                      exact fun a w st => lop_intro (i2065 + 1, r2075, l2004, V2005) ⟨by show i2065 + 1 + r2075 = (((x0).length : Int)).toNat; omega, h2069⟩ (by simp) (St.cut [0] ⟨rfl, rfl, rfl, rfl, rfl, rfl, rfl, rfl, rfl, rfl, trivial⟩ (by decide) rfl st)
                · have h2074 : ¬ i2065 < (((x0).length : Int)).toNat := by have := of_decide_eq_false b2073; omega
                  obtain rfl : r2066 = 0 := by omega
                  replace h2070 : some (Fl.nx _) = some y2058 := h2070
                  cases h2070
                  exact GL.exit (fun a w st => mid_intro (l2004, V2005) h2061 (St.cut [0] ⟨rfl, rfl, rfl, rfl, rfl, rfl, rfl, trivial⟩ (by decide) rfl st))
              · rintro ⟨l2004, V2005⟩ h2125
                have h2126 := h2062 _ h2125
                try dsimp only at h2126
                refine GL.weak (env' := [(5, .int .i64 ((x0).length : Int)), (6, v12), (9, .int .i64 (i1577 : Int)), (65, .int .i64 ((x0).length : Int)), (66, .int .i64 (i1577 : Int)), (69, .int .i64 ((x0).length : Int)), (70, .int .i64 (i1944 : Int))]) (L' := [own2 28 3 TR.int v12 V2005 l2004]) (fun _ _ st => st) ?_
                refine GL.nilB ?_
                refine GL.region ?_
                refine RL.binI (v := .int .i64 ((i1944 + 1 : Nat) : Int)) rfl rfl rfl rfl (binI_succ i1944 (by omega)) ?_
                refine RL.mv rfl rfl rfl ?_
                refine RL.fin ?_
                cases h2126
                exact fun a w st => lop_intro (i1944 + 1, r1954, l2004, V2005) ⟨by show i1944 + 1 + r1954 = (((x0).length : Int)).toNat; omega, h1948⟩ (by simp) (St.cut [0] ⟨rfl, rfl, rfl, rfl, rfl, rfl, rfl, trivial⟩ (by decide) rfl st)
            · have h1953 : ¬ i1944 < (((x0).length : Int)).toNat := by have := of_decide_eq_false b1952; omega
              obtain rfl : r1945 = 0 := by omega
              replace h1949 : some (Fl.nx _) = some y1937 := h1949
              cases h1949
              exact GL.exit (fun a w st => mid_intro (l1760, V1761) h1940 (St.cut [0] ⟨rfl, rfl, rfl, rfl, trivial⟩ (by decide) rfl st))
          · rintro ⟨l1760, V1761⟩ h2127
            have h2128 := h1941 _ h2127
            try dsimp only at h2128
            refine GL.weak (env' := [(5, .int .i64 ((x0).length : Int)), (6, v12), (65, .int .i64 ((x0).length : Int)), (66, .int .i64 (i1577 : Int))]) (L' := [own2 28 3 TR.int v12 V1761 l1760]) (fun _ _ st => st) ?_
            refine GL.nilB ?_
            refine GL.region ?_
            refine RL.binI (v := .int .i64 ((i1577 + 1 : Nat) : Int)) rfl rfl rfl rfl (binI_succ i1577 (by omega)) ?_
            refine RL.mv rfl rfl rfl ?_
            refine RL.fin ?_
            cases h2128
            exact fun a w st => lop_intro (i1577 + 1, r1587, l1760, V1761) ⟨by show i1577 + 1 + r1587 = (((x0).length : Int)).toNat; omega, h1581⟩ (by simp) (St.cut [0] ⟨rfl, rfl, rfl, rfl, trivial⟩ (by decide) rfl st)
        · have h1586 : ¬ i1577 < (((x0).length : Int)).toNat := by have := of_decide_eq_false b1585; omega
          obtain rfl : r1578 = 0 := by omega
          replace h1582 : some (Fl.nx _) = some y1570 := h1582
          cases h1582
          exact GL.exit (fun a w st => mid_intro (l1024, V1025) h1573 (St.cut [0] ⟨rfl, trivial⟩ (by decide) rfl st))
      · rintro ⟨l1024, V1025⟩ h2129
        have h2130 := h1574 _ h2129
        try dsimp only at h2130
        refine GL.weak (env' := [(6, v12)]) (L' := [own2 28 3 TR.int v12 V1025 l1024]) (fun _ _ st => st) ?_
        refine GL.seq ?_
        refine GL.region ?_
        refine RL.mv rfl rfl rfl ?_
        refine RL.asg rfl rfl rfl ?_
        refine RL.asg rfl rfl rfl ?_
        refine RL.finG ?_
        refine GL.weak (fun a w st => st.freeze2 0 rfl) ?_
        have h2130 := Option.some.inj h2130
        subst h2130
        exact GL.ret (Gx.ret (v := .tuple #[v12, .int .i64 (0 : Int)]) (res2 rfl rfl rfl) (fun a w st => (st.pick [0] (by decide) rfl).toPost v12))

set_option maxHeartbeats 4000000 in
theorem slices_Equal_int_int_c (S : Hp) (w : World) (hS : S.sub w) (v0 : Value) (x0 : (List Int)) (k0 : ((TR.sl TR.int)).vrep S v0 x0) (v1 : Value) (x1 : (List Int)) (k1 : ((TR.sl TR.int)).vrep S v1 x1) (res : Bool) (hm : slices_Equal_int_int_m x0 x1 = some res) : Calls Try.prog 19 #[v0, v1] w (PostV w (.bool res)) := by
  refine calls_enter 26 Try.func19 Try.ntmps19 rfl S false [(0, v0), (1, v1)] [imm (TR.sl TR.int) v0 x0, imm (TR.sl TR.int) v1 x1] rfl ⟨rfl, ⟨rfl, trivial⟩⟩ hS ⟨k0, ⟨k1, trivial⟩⟩ ?_
  unfold slices_Equal_int_int_m at hm
  refine GL.seq ?_
  refine GL.region ?_
  refine RL.asg rfl rfl rfl ?_
  refine RL.finG ?_
  refine GL.seq ?_
  refine GL.seq ?_
  refine GL.region ?_
  refine RL.mv rfl rfl rfl ?_
  refine RL.lenS 0 Try.underlying28 rfl rfl rfl rfl SlOf.imm ?_
  refine RL.mv rfl rfl rfl ?_
  refine RL.lenS 1 Try.underlying28 rfl rfl rfl rfl SlOf.imm ?_
  refine RL.binI (v := .bool (((x0).length : Int) != ((x1).length : Int))) rfl rfl rfl rfl rfl ?_
  refine RL.finG ?_
  refine GL.cond rfl (fun b3 => ?_) (fun b3 => ?_)
  · replace hm := ite_t b3 hm
    refine GL.seq ?_
    refine GL.region ?_
    refine RL.asg rfl rfl rfl ?_
    refine RL.finG ?_
    have hm := Option.some.inj hm
    subst hm
    exact GL.ret (Gx.ret (v := .bool false) (res1 rfl rfl) (fun a w st => st.toPostV))
  · replace hm := ite_f b3 hm
    refine GL.skip ?_
    refine GL.seq ?_
    refine GL.seq ?_
    refine GL.region ?_
    refine RL.mv rfl rfl rfl ?_
    refine RL.lenS 0 Try.underlying28 rfl rfl rfl rfl SlOf.imm ?_
    refine RL.mv rfl rfl rfl ?_
    refine RL.finG ?_
    refine GL.open_ 0 rfl (fun S h => len_imm S h) (fun n13 => ?_)
    obtain ⟨y14, K15, h16, h17, h18, h19, h20⟩ := bindR_K hm
    refine GL.join (ι := Unit) (fun (p : Unit) => []) (fun (p : Unit) => []) (fun (p : Unit) => K15 (.nx ())) ?_ ?_
    · refine GL.block ?_
      refine GL.loop (ι := Nat × (List Int)) (fun (p : Nat × (List Int)) => [(0, v0), (1, v1), (12, .int .i64 ((x0).length : Int)), (13, .int .i64 (p.1 : Int))]) (fun (p : Nat × (List Int)) => [imm (TR.sl TR.int) v0 x0, imm (TR.sl TR.int) v1 x1]) (fun (p : Nat × (List Int)) => p.1 + p.2.length = (x0).length ∧ List.drop p.1 x0 = p.2 ∧ rangeL (slices_Equal_int_int_b1 x1) p.2 p.1 () = some y14) (fun (p : Nat × (List Int)) => p.2.length) (0, x0) ⟨by simp, by simp, h16⟩ (fun a w st => St.cut [0, 1] ⟨rfl, rfl, rfl, rfl, trivial⟩ (by decide) rfl st) ?_
      rintro ⟨i21, r22⟩ ⟨h27, h28, h26⟩
      try dsimp only at h27 h28 h26
      refine GL.weak (env' := [(0, v0), (1, v1), (12, .int .i64 ((x0).length : Int)), (13, .int .i64 (i21 : Int))]) (L' := [imm (TR.sl TR.int) v0 x0, imm (TR.sl TR.int) v1 x1]) (fun _ _ st => st) ?_
      refine GL.seq ?_
      refine GL.region ?_
      refine RL.binI (v := .bool (decide ((i21 : Int) < ((x0).length : Int)))) rfl rfl rfl rfl rfl ?_
      refine RL.finG ?_
      refine GL.seq ?_
      refine GL.cond rfl (fun b29 => ?_) (fun b29 => ?_)
      · have h30 : i21 < (x0).length := by have := of_decide_eq_true b29; omega
        obtain ⟨y31, r33, hr, e32, h34⟩ := drop_cons h28 rfl h30
        subst hr
        obtain ⟨z23, h24, h25⟩ := rangeL_some h26
        unfold slices_Equal_int_int_b1 at h24
        try dsimp only at h24
        refine GL.skip ?_
        refine GL.seq ?_
        refine GL.block ?_
        refine GL.seq ?_
        refine GL.region ?_
        refine RL.mv rfl rfl rfl ?_
        refine RL.asg rfl rfl rfl ?_
        refine RL.finG ?_
        refine GL.seq ?_
        refine GL.regionQ rfl rfl (by kernel_rfl) ?_
        refine RL.mv rfl rfl rfl ?_
        refine RL.mv rfl rfl rfl ?_
        refine RL.idxS (sz := 1) 0 Try.underlying28 Try_ln3 rfl rfl rfl rfl rfl SlOf.imm (by omega) (by omega) ?_
        refine RL.ldSx (i := i21) (e' := y31) 0 Ex.ik Try_ln3 rfl rfl rfl rfl SlOf.imm e32 Part.self ?_
        refine RL.mv rfl rfl rfl ?_
        refine RL.mv rfl rfl rfl ?_
        obtain ⟨y37, e38, h24⟩ := bind_some h24
        refine RL.idxS (sz := 1) 1 Try.underlying28 Try_ln3 rfl rfl rfl rfl rfl SlOf.imm (idx_some e38).1 (idx_some e38).2.1 ?_
        refine RL.ldSx (i := i21) (e' := y37) 1 Ex.ik Try_ln3 rfl rfl rfl rfl SlOf.imm (idx_some e38).2.2 Part.self ?_
        refine RL.binI (v := .bool (y31 != y37)) rfl rfl rfl rfl rfl ?_
        refine RL.finQG ?_
        refine GL.cond rfl (fun b39 => ?_) (fun b39 => ?_)
        · replace h24 := ite_t b39 h24
          refine GL.seq ?_
          refine GL.region ?_
          refine RL.asg rfl rfl rfl ?_
          refine RL.finG ?_
          cases h24
          replace h25 : some (Fl.rt _) = some y14 := h25
          cases h25
          have hh := h19 _ h17
          subst hh
          exact GL.ret (Gx.ret (v := .bool false) (res1 rfl rfl) (fun a w st => st.toPostV))
        · replace h24 := ite_f b39 h24
          refine GL.skip ?_
          refine GL.nilB ?_
          refine GL.region ?_
          refine RL.binI (v := .int .i64 ((i21 + 1 : Nat) : Int)) rfl rfl rfl rfl (binI_succ i21 (by omega)) ?_
          refine RL.mv rfl rfl rfl ?_
          refine RL.fin ?_
          cases h24
          exact fun a w st => lop_intro (i21 + 1, r33) ⟨by show i21 + 1 + r33.length = (x0).length; simp only [List.length_cons] at h27; omega, h34, h25⟩ (by simp) (St.cut [0, 1] ⟨rfl, rfl, rfl, rfl, trivial⟩ (by decide) rfl st)
      · have h30 : ¬ i21 < (x0).length := by have := of_decide_eq_false b29; omega
        obtain rfl : r22 = [] := by rw [← h28]; exact List.drop_of_length_le (by omega)
        replace h26 : some (Fl.nx _) = some y14 := h26
        cases h26
        exact GL.exit (fun a w st => mid_intro () h17 (St.cut [] trivial (by decide) rfl st))
    · rintro ⟨⟩ h40
      have h41 := h18 _ h40
      try dsimp only at h41
      refine GL.weak (env' := []) (L' := []) (fun _ _ st => st) ?_
      refine GL.seq ?_
      refine GL.region ?_
      refine RL.asg rfl rfl rfl ?_
      refine RL.finG ?_
      have h41 := Option.some.inj h41
      subst h41
      exact GL.ret (Gx.ret (v := .bool true) (res1 rfl rfl) (fun a w st => st.toPostV))

set_option maxHeartbeats 4000000 in
theorem pk_wides_c (S : Hp) (w : World) (hS : S.sub w)  (res : Bool) (hm : pk_wides_m = some res) : Calls Try.prog 14 #[] w (PostV w (.bool res)) := by
  refine calls_enter 25 Try.func14 Try.ntmps14 rfl S false [] [] rfl trivial hS trivial ?_
  unfold pk_wides_m at hm
  refine GL.seq ?_
  refine GL.region ?_
  refine RL.asg rfl rfl rfl ?_
  refine RL.finG ?_
  refine GL.seq ?_
  refine GL.region ?_
  refine RL.bS (t := TR.int) (vs := [.int .i64 (0 : Int), .int .i64 (3 : Int), .int .i64 (1 : Int)]) ([(0 : Int), (3 : Int), (1 : Int)] : (List Int)) Try.underlying28 Try_lo3 rfl rfl rfl rfl ⟨VR.int, ⟨VR.int, ⟨VR.int, trivial⟩⟩⟩ rfl (by decide) ?_
  intro v8
  refine RL.bS (t := TR.int) (vs := [.int .i64 (1 : Int), .int .i64 (0 : Int), .int .i64 (4 : Int)]) ([(1 : Int), (0 : Int), (4 : Int)] : (List Int)) Try.underlying28 Try_lo3 rfl rfl rfl rfl ⟨VR.int, ⟨VR.int, ⟨VR.int, trivial⟩⟩⟩ rfl (by decide) ?_
  intro v9
  refine RL.reL (L' := [own 3 TR.int v8 ([(0 : Int), (3 : Int), (1 : Int)] : (List Int)), own 3 TR.int v9 ([(1 : Int), (0 : Int), (4 : Int)] : (List Int))]) rfl ?_
  refine RL.bS (t := TR.int) (vs := [.int .i64 (2 : Int), .int .i64 (0 : Int), .int .i64 (0 : Int)]) ([(2 : Int), (0 : Int), (0 : Int)] : (List Int)) Try.underlying28 Try_lo3 rfl rfl rfl rfl ⟨VR.int, ⟨VR.int, ⟨VR.int, trivial⟩⟩⟩ rfl (by decide) ?_
  intro v10
  refine RL.weak (fun a w st => st.freeze 0 rfl) ?_
  refine RL.weak (fun a w st => st.freeze 1 rfl) ?_
  refine RL.weak (fun a w st => st.freeze 2 rfl) ?_
  refine RL.bS (t := (TR.sl TR.int)) (vs := [v8, v9, v10]) ([([(0 : Int), (3 : Int), (1 : Int)] : (List Int)), ([(1 : Int), (0 : Int), (4 : Int)] : (List Int)), ([(2 : Int), (0 : Int), (0 : Int)] : (List Int))] : (List (List Int))) Try.underlying22 Try_lo28 rfl rfl rfl rfl ⟨(VR.item 0 rfl), ⟨(VR.item 1 rfl), ⟨(VR.item 2 rfl), trivial⟩⟩⟩ rfl (by decide) ?_
  intro v11
  refine RL.reL (L' := [imm (TR.sl TR.int) v8 ([(0 : Int), (3 : Int), (1 : Int)] : (List Int)), imm (TR.sl TR.int) v9 ([(1 : Int), (0 : Int), (4 : Int)] : (List Int)), imm (TR.sl TR.int) v10 ([(2 : Int), (0 : Int), (0 : Int)] : (List Int)), own 28 (TR.sl TR.int) v11 ([([(0 : Int), (3 : Int), (1 : Int)] : (List Int)), ([(1 : Int), (0 : Int), (4 : Int)] : (List Int)), ([(2 : Int), (0 : Int), (0 : Int)] : (List Int))] : (List (List Int)))]) rfl ?_
  refine RL.weak (fun a w st => st.freeze 3 rfl) ?_
  obtain ⟨y12, e13, hm⟩ := bind_some hm
  refine RL.call (vs := [v11]) Try_fit15 rfl rfl rfl rfl rfl (fun S f w hS hW hi => widest_Paths_c S w hS _ _ (hi 3 _ rfl) _ e13) ?_
  intro v14
  refine RL.reL (L' := [imm (TR.sl TR.int) v8 ([(0 : Int), (3 : Int), (1 : Int)] : (List Int)), imm (TR.sl TR.int) v9 ([(1 : Int), (0 : Int), (4 : Int)] : (List Int)), imm (TR.sl TR.int) v10 ([(2 : Int), (0 : Int), (0 : Int)] : (List Int)), imm (TR.sl (TR.sl TR.int)) v11 ([([(0 : Int), (3 : Int), (1 : Int)] : (List Int)), ([(1 : Int), (0 : Int), (4 : Int)] : (List Int)), ([(2 : Int), (0 : Int), (0 : Int)] : (List Int))] : (List (List Int))), imm (TR.sl (TR.sl TR.int)) v14 y12.1]) rfl ?_
  refine RL.mv rfl rfl rfl ?_
  refine RL.ext rfl rfl rfl rfl ?_
  refine RL.ext rfl rfl rfl rfl ?_
  refine RL.asg rfl rfl rfl ?_
  refine RL.asg rfl rfl rfl ?_
  refine RL.finG ?_
  refine GL.seq ?_
  obtain ⟨y32, K33, h34, h35, h36, h37, h38⟩ := bindR_K hm
  refine GL.join (ι := Bool) (fun (p : Bool) => [(0, .bool p)]) (fun (p : Bool) => []) (fun (p : Bool) => K33 (.nx p)) ?_ ?_
  · skip
    refine GL.region ?_
    refine RL.mv rfl rfl rfl ?_
    refine RL.binI (v := .bool (y12.2 == (0 : Int))) rfl rfl rfl rfl rfl ?_
    refine RL.mv rfl rfl rfl ?_
    refine RL.split (t := 13) rfl (fun b39 => ?_) (fun b39 => ?_)
    · replace h34 := ite_t b39 h34
      refine RL.mv rfl rfl rfl ?_
      refine RL.lenS 4 Try.underlying22 rfl rfl rfl rfl SlOf.imm ?_
      refine RL.binI (v := .bool (((y12.1).length : Int) == (3 : Int))) rfl rfl rfl rfl rfl ?_
      refine RL.pickT rfl rfl rfl rfl ?_
      refine RL.mv rfl rfl rfl ?_
      refine RL.split (t := 18) rfl (fun b40 => ?_) (fun b40 => ?_)
      · replace h34 := ite_t b40 h34
        refine RL.mv rfl rfl rfl ?_
        obtain ⟨y41, e42, h34⟩ := bind_some h34
        refine RL.idxS (sz := 1) 4 Try.underlying22 Try_ln28 rfl rfl rfl rfl rfl SlOf.imm (idx_some e42).1 (idx_some e42).2.1 ?_
        refine RL.ldS (i := ((0 : Int)).toNat) (r := (TR.sl TR.int)) (e' := y41) 4 Try_ln28 rfl rfl rfl rfl SlOf.imm (idx_some e42).2.2 Part.self ?_
        intro v43
        refine RL.bS (t := TR.int) (vs := [.int .i64 (0 : Int), .int .i64 (3 : Int), .int .i64 (3 : Int)]) ([(0 : Int), (3 : Int), (3 : Int)] : (List Int)) Try.underlying28 Try_lo3 rfl rfl rfl rfl ⟨VR.int, ⟨VR.int, ⟨VR.int, trivial⟩⟩⟩ rfl (by decide) ?_
        intro v44
        refine RL.reL (L' := [imm (TR.sl TR.int) v8 ([(0 : Int), (3 : Int), (1 : Int)] : (List Int)), imm (TR.sl TR.int) v9 ([(1 : Int), (0 : Int), (4 : Int)] : (List Int)), imm (TR.sl TR.int) v10 ([(2 : Int), (0 : Int), (0 : Int)] : (List Int)), imm (TR.sl (TR.sl TR.int)) v11 ([([(0 : Int), (3 : Int), (1 : Int)] : (List Int)), ([(1 : Int), (0 : Int), (4 : Int)] : (List Int)), ([(2 : Int), (0 : Int), (0 : Int)] : (List Int))] : (List (List Int))), imm (TR.sl (TR.sl TR.int)) v14 y12.1, imm (TR.sl TR.int) v43 y41, own 3 TR.int v44 ([(0 : Int), (3 : Int), (3 : Int)] : (List Int))]) rfl ?_
        obtain ⟨y45, e46, h34⟩ := bind_some h34
        refine RL.callV (v := .bool y45) (vs := [v43, v44]) Try_fit19 rfl (Or.inl rfl) rfl rfl rfl rfl (fun U w hU hW hL => slices_Equal_int_int_c U w hU _ _ (hL 5 _ _ rfl Seen.imm) _ _ (hL 6 _ _ rfl Seen.own) _ e46) ?_
        refine RL.pickT rfl rfl rfl rfl ?_
        refine RL.asg rfl rfl rfl ?_
        refine RL.fin ?_
        cases h34
        exact fun a w st => mid_intro y45 h35 (St.cut [] ⟨rfl, trivial⟩ (by decide) rfl st)
      · replace h34 := ite_f b40 h34
        refine RL.skip rfl rfl ?_
        refine RL.skip rfl rfl ?_
        refine RL.skip rfl rfl ?_
        refine RL.skip rfl rfl ?_
        refine RL.skip rfl rfl ?_
        refine RL.pickF rfl rfl rfl rfl ?_
        refine RL.asg rfl rfl rfl ?_
        refine RL.fin ?_
        cases h34
        exact fun a w st => mid_intro false h35 (St.cut [] ⟨rfl, trivial⟩ (by decide) rfl st)
    · replace h34 := ite_f b39 h34
      refine RL.skip rfl rfl ?_
      refine RL.skip rfl rfl ?_
      refine RL.skip rfl rfl ?_
      refine RL.pickF rfl rfl rfl rfl ?_
      refine RL.mv rfl rfl rfl ?_
      refine RL.skip rfl rfl ?_
      refine RL.skip rfl rfl ?_
      refine RL.skip rfl rfl ?_
      refine RL.skip rfl rfl ?_
      refine RL.skip rfl rfl ?_
      refine RL.pickF rfl rfl rfl rfl ?_
      refine RL.asg rfl rfl rfl ?_
      refine RL.fin ?_
      cases h34
      exact fun a w st => mid_intro false h35 (St.cut [] ⟨rfl, trivial⟩ (by decide) rfl st)
  · rintro x31 h47
    have h48 := h36 _ h47
    try dsimp only at h48
    refine GL.weak (env' := [(0, .bool x31)]) (L' := []) (fun _ _ st => st) ?_
    have h48 := Option.some.inj h48
    subst h48
    exact GL.ret (Gx.ret (v := .bool x31) (res1 rfl rfl) (fun a w st => st.toPostV))

set_option maxHeartbeats 4000000 in
theorem duel_Top_c (S : Hp) (w : World) (hS : S.sub w) (v0 : Value) (x0 : (List (List Int))) (k0 : ((TR.sl (TR.sl TR.int))).vrep S v0 x0) (res : (List Int) × Int) (hm : duel_Top_m x0 = some res) : Calls Try.prog 27 #[v0] w (Post w S (fun (o : Value) => .tuple #[o, .int .i64 res.2]) (fun (o : Value) => [own 3 TR.int o res.1])) := by
  refine calls_enter 133 Try.func27 Try.ntmps27 rfl S false [(0, v0)] [imm (TR.sl (TR.sl TR.int)) v0 x0] rfl ⟨rfl, trivial⟩ hS ⟨k0, trivial⟩ ?_
  unfold duel_Top_m at hm
  refine GL.seq ?_
  refine GL.region ?_
  refine RL.asg rfl rfl rfl ?_
  refine RL.asg rfl rfl rfl ?_
  refine RL.finG ?_
  refine GL.seq ?_
  refine GL.seq ?_
  refine GL.region ?_
  refine RL.mv rfl rfl rfl ?_
  obtain ⟨y4, e5, hm⟩ := bind_some hm
  refine RL.callC (v := .int .i64 y4) (vs := [v0]) Try_fit41 rfl rfl rfl rfl (fun U w hU hW hL => duel_Check_c U w hU _ _ (hL 0 _ _ rfl Seen.imm) _ e5) ?_
  refine RL.asg rfl rfl rfl ?_
  refine RL.finG ?_
  refine GL.seq ?_
  refine GL.region ?_
  refine RL.mv rfl rfl rfl ?_
  refine RL.binI (v := .bool (y4 != (0 : Int))) rfl rfl rfl rfl rfl ?_
  refine RL.finG ?_
  refine GL.cond rfl (fun b6 => ?_) (fun b6 => ?_)
  · replace hm := ite_t b6 hm
    refine GL.seq ?_
    refine GL.region ?_
    refine RL.mv rfl rfl rfl ?_
    refine RL.asg rfl rfl rfl ?_
    refine RL.asg rfl rfl rfl ?_
    refine RL.finG ?_
    refine GL.weak (fun a w st => st.nilOwn 3 TR.int) ?_
    have hm := Option.some.inj hm
    subst hm
    exact GL.ret (Gx.ret (v := .tuple #[Value.slice none 0 0, .int .i64 y4]) (res2 rfl rfl rfl) (fun a w st => (st.pick [1] (by decide) rfl).toPost (Value.slice none 0 0)))
  · replace hm := ite_f b6 hm
    refine GL.skip ?_
    refine GL.seq ?_
    refine GL.region ?_
    refine RL.mv rfl rfl rfl ?_
    refine RL.lenS 0 Try.underlying22 rfl rfl rfl rfl SlOf.imm ?_
    refine RL.asg rfl rfl rfl ?_
    refine RL.finG ?_
    refine GL.seq ?_
    refine GL.region ?_
    refine RL.mv rfl rfl rfl ?_
    obtain ⟨y10, e11, hm⟩ := bind_some hm
    replace e11 := chk_some e11
    refine RL.mkS (t := TR.raw) (z := .slice none 0 0) Try.underlying22 Try_lo28 (fun S => ⟨rfl, rfl⟩) rfl rfl rfl rfl e11.1 e11.2 ?_
    intro v12
    refine RL.weak (fun a w st => st.toRows 3 TR.int 1 rfl) ?_
    refine RL.reL (L' := [imm (TR.sl (TR.sl TR.int)) v0 x0, own2 28 3 TR.int v12 (List.replicate (((x0).length : Int)).toNat (Value.slice none 0 0)) (List.replicate (((x0).length : Int)).toNat ([] : (List Int)))]) rfl ?_
    refine RL.asg rfl rfl rfl ?_
    refine RL.finG ?_
    refine GL.seq ?_
    refine GL.seq ?_
    refine GL.region ?_
    refine RL.mv rfl rfl rfl ?_
    refine RL.lenR 1 Try.underlying22 rfl rfl rfl rfl ?_
    refine RL.mv rfl rfl rfl ?_
    refine RL.finG ?_
    refine GL.lenR 1 rfl (fun n387 => ?_)
    obtain ⟨y388, K389, h390, h391, h392, h393, h394⟩ := bindR_K hm
    refine GL.join (ι := (List (List Int)) × (List Value)) (fun (p : (List (List Int)) × (List Value)) => [(5, .int .i64 ((x0).length : Int)), (6, v12)]) (fun (p : (List (List Int)) × (List Value)) => [own2 28 3 TR.int v12 p.2 p.1]) (fun (p : (List (List Int)) × (List Value)) => K389 (.nx p.1)) ?_ ?_
    · refine GL.block ?_
      refine GL.loop (ι := Nat × Nat × (List (List Int)) × (List Value)) (fun (p : Nat × Nat × (List (List Int)) × (List Value)) => [(0, v0), (5, .int .i64 ((x0).length : Int)), (6, v12), (26, .int .i64 (((List.replicate (((x0).length : Int)).toNat ([] : (List Int)))).length : Int)), (27, .int .i64 (p.1 : Int))]) (fun (p : Nat × Nat × (List (List Int)) × (List Value)) => [imm (TR.sl (TR.sl TR.int)) v0 x0, own2 28 3 TR.int v12 p.2.2.2 p.2.2.1]) (fun (p : Nat × Nat × (List (List Int)) × (List Value)) => p.1 + p.2.1 = ((List.replicate (((x0).length : Int)).toNat ([] : (List Int)))).length ∧ rangeN (duel_Top_b1 x0) p.2.1 p.1 p.2.2.1 = some y388) (fun (p : Nat × Nat × (List (List Int)) × (List Value)) => p.2.1) (0, ((List.replicate (((x0).length : Int)).toNat ([] : (List Int)))).length, (List.replicate (((x0).length : Int)).toNat ([] : (List Int))), (List.replicate (((x0).length : Int)).toNat (Value.slice none 0 0))) ⟨by simp, h390⟩ (fun a w st => St.cut [0, 1] ⟨rfl, rfl, rfl, rfl, rfl, trivial⟩ (by decide) rfl st) ?_
      rintro ⟨i395, r396, l199, V200⟩ ⟨h401, h400⟩
      try dsimp only at h401 h400
      refine GL.weak (env' := [(0, v0), (5, .int .i64 ((x0).length : Int)), (6, v12), (26, .int .i64 (((List.replicate (((x0).length : Int)).toNat ([] : (List Int)))).length : Int)), (27, .int .i64 (i395 : Int))]) (L' := [imm (TR.sl (TR.sl TR.int)) v0 x0, own2 28 3 TR.int v12 V200 l199]) (fun _ _ st => st) ?_
      refine GL.seq ?_
      refine GL.region ?_
      refine RL.binI (v := .bool (decide ((i395 : Int) < (((List.replicate (((x0).length : Int)).toNat ([] : (List Int)))).length : Int)))) rfl rfl rfl rfl rfl ?_
      refine RL.finG ?_
      refine GL.seq ?_
      refine GL.cond rfl (fun b403 => ?_) (fun b403 => ?_)
      · have h404 : i395 < ((List.replicate (((x0).length : Int)).toNat ([] : (List Int)))).length := by have := of_decide_eq_true b403; omega
        obtain ⟨r405, hr⟩ : ∃ m, r396 = m + 1 := ⟨r396 - 1, by omega⟩
        subst hr
        obtain ⟨z397, h398, h399⟩ := rangeN_some h400
        unfold duel_Top_b1 at h398
        try dsimp only at h398
        refine GL.skip ?_
        refine GL.seq ?_
        refine GL.block ?_
        refine GL.seq ?_
        refine GL.region ?_
        refine RL.mv rfl rfl rfl ?_
        refine RL.asg rfl rfl rfl ?_
        refine RL.finG ?_
        refine GL.seq ?_
        refine GL.region ?_
        refine RL.mv rfl rfl rfl ?_
        refine RL.mv rfl rfl rfl ?_
        refine RL.mv rfl rfl rfl ?_
        obtain ⟨y411, e412, h398⟩ := bind_some h398
        replace e412 := chk_some e412
        refine RL.mkS (t := TR.int) (z := (0 : Int)) Try.underlying28 Try_lo3 (fun S => rfl) rfl rfl rfl rfl e412.1 e412.2 ?_
        intro v413
        obtain ⟨y414, e415, h398⟩ := bind_some h398
        refine RL.idxR 1 Try.underlying22 Try_ln28 rfl rfl rfl rfl rfl (idx_some e415).1 (idx_some e415).2.1 ?_
        refine RL.stSp (i := i395) (r0 := y414) 1 2 (by decide) Try_ln28 rfl rfl rfl rfl rfl rfl (idx_some e415).2.2 ?_
        refine RL.reL (L' := [imm (TR.sl (TR.sl TR.int)) v0 x0, own2 28 3 TR.int v12 (List.set V200 i395 v413) (List.set l199 i395 (List.replicate (((x0).length : Int)).toNat (0 : Int))), gone]) rfl ?_
        refine RL.finG ?_
        refine GL.seq ?_
        refine GL.region ?_
        refine RL.mv rfl rfl rfl ?_
        refine RL.mv rfl rfl rfl ?_
        refine RL.finG ?_
        refine GL.open_ 0 rfl (fun S h => len_imm S h) (fun n522 => ?_)
        obtain ⟨y523, K524, h525, h526, h527, h528, h529⟩ := bindF_K h398
        refine GL.join (ι := (List (List Int)) × (List Value)) (fun (p : (List (List Int)) × (List Value)) => [(0, v0), (5, .int .i64 ((x0).length : Int)), (6, v12), (26, .int .i64 (((List.replicate (((x0).length : Int)).toNat ([] : (List Int)))).length : Int)), (27, .int .i64 (i395 : Int))]) (fun (p : (List (List Int)) × (List Value)) => [imm (TR.sl (TR.sl TR.int)) v0 x0, own2 28 3 TR.int v12 p.2 p.1]) (fun (p : (List (List Int)) × (List Value)) => K524 (.nx p.1)) ?_ ?_
        · refine GL.block ?_
          refine GL.loop (ι := Nat × (List (List Int)) × (List (List Int)) × (List Value)) (fun (p : Nat × (List (List Int)) × (List (List Int)) × (List Value)) => [(0, v0), (5, .int .i64 ((x0).length : Int)), (6, v12), (7, .int .i64 (i395 : Int)), (26, .int .i64 (((List.replicate (((x0).length : Int)).toNat ([] : (List Int)))).length : Int)), (27, .int .i64 (i395 : Int)), (35, .int .i64 ((x0).length : Int)), (36, .int .i64 (p.1 : Int))]) (fun (p : Nat × (List (List Int)) × (List (List Int)) × (List Value)) => [imm (TR.sl (TR.sl TR.int)) v0 x0, own2 28 3 TR.int v12 p.2.2.2 p.2.2.1]) (fun (p : Nat × (List (List Int)) × (List (List Int)) × (List Value)) => p.1 + p.2.1.length = (x0).length ∧ List.drop p.1 x0 = p.2.1 ∧ rangeL (duel_Top_b2 i395 x0) p.2.1 p.1 p.2.2.1 = some y523) (fun (p : Nat × (List (List Int)) × (List (List Int)) × (List Value)) => p.2.1.length) (0, x0, (List.set l199 i395 (List.replicate (((x0).length : Int)).toNat (0 : Int))), (List.set V200 i395 v413)) ⟨by simp, by simp, h525⟩ (fun a w st => St.cut [0, 1] ⟨rfl, rfl, rfl, rfl, rfl, rfl, rfl, rfl, trivial⟩ (by decide) rfl st) ?_
          rintro ⟨i530, r531, l468, V469⟩ ⟨h536, h537, h535⟩
          try dsimp only at h536 h537 h535
          refine GL.weak (env' := [(0, v0), (5, .int .i64 ((x0).length : Int)), (6, v12), (7, .int .i64 (i395 : Int)), (26, .int .i64 (((List.replicate (((x0).length : Int)).toNat ([] : (List Int)))).length : Int)), (27, .int .i64 (i395 : Int)), (35, .int .i64 ((x0).length : Int)), (36, .int .i64 (i530 : Int))]) (L' := [imm (TR.sl (TR.sl TR.int)) v0 x0, own2 28 3 TR.int v12 V469 l468]) (fun _ _ st => st) ?_
          refine GL.seq ?_
          refine GL.region ?_
          refine RL.binI (v := .bool (decide ((i530 : Int) < ((x0).length : Int)))) rfl rfl rfl rfl rfl ?_
          refine RL.finG ?_
          refine GL.seq ?_
          refine GL.cond rfl (fun b538 => ?_) (fun b538 => ?_)
          · have h539 : i530 < (x0).length := by have := of_decide_eq_true b538; omega
            obtain ⟨y540, r542, hr, e541, h543⟩ := drop_cons h537 rfl h539
            subst hr
            obtain ⟨z532, h533, h534⟩ := rangeL_some h535
            unfold duel_Top_b2 at h533
            try dsimp only at h533
            refine GL.skip ?_
            refine GL.seq ?_
            refine GL.block ?_
            refine GL.seq ?_
            refine GL.region ?_
            refine RL.mv rfl rfl rfl ?_
            refine RL.asg rfl rfl rfl ?_
            refine RL.finG ?_
            refine GL.seq ?_
            obtain ⟨y563, K564, h565, h566, h567, h568, h569⟩ := bindF_K h533
            refine GL.join (ι := Bool) (fun (p : Bool) => [(0, v0), (5, .int .i64 ((x0).length : Int)), (6, v12), (7, .int .i64 (i395 : Int)), (8, .int .i64 (i530 : Int)), (26, .int .i64 (((List.replicate (((x0).length : Int)).toNat ([] : (List Int)))).length : Int)), (27, .int .i64 (i395 : Int)), (35, .int .i64 ((x0).length : Int)), (36, .int .i64 (i530 : Int)), (58, .bool p)]) (fun (p : Bool) => [imm (TR.sl (TR.sl TR.int)) v0 x0, own2 28 3 TR.int v12 V469 l468]) (fun (p : Bool) => K564 (.nx p)) ?_ ?_
            · skip
              refine GL.regionQ rfl rfl (by kernel_rfl) ?_
              refine RL.mv rfl rfl rfl ?_
              refine RL.mv rfl rfl rfl ?_
              refine RL.binI (v := .bool ((i395 : Int) == (i530 : Int))) rfl rfl rfl rfl rfl ?_
              refine RL.mv rfl rfl rfl ?_
              refine RL.split (t := 42) rfl (fun b570 => ?_) (fun b570 => ?_)
              · replace h565 := ite_t b570 h565
                refine RL.skip rfl rfl ?_
                refine RL.skip rfl rfl ?_
                refine RL.skip rfl rfl ?_
                refine RL.skip rfl rfl ?_
                refine RL.skip rfl rfl ?_
                refine RL.skip rfl rfl ?_
                refine RL.skip rfl rfl ?_
                refine RL.skip rfl rfl ?_
                refine RL.skip rfl rfl ?_
                refine RL.skip rfl rfl ?_
                refine RL.skip rfl rfl ?_
                refine RL.skip rfl rfl ?_
                refine RL.skip rfl rfl ?_
                refine RL.skip rfl rfl ?_
                refine RL.skip rfl rfl ?_
                refine RL.pickT rfl rfl rfl rfl ?_
                refine RL.finQ ?_
                cases h565
                exact fun a w st => mid_intro true h566 (St.cut [0, 1] ⟨rfl, rfl, rfl, rfl, rfl, rfl, rfl, rfl, rfl, rfl, trivial⟩ (by decide) rfl st)
              · replace h565 := ite_f b570 h565
                refine RL.mv rfl rfl rfl ?_
                refine RL.mv rfl rfl rfl ?_
                obtain ⟨y571, e572, h565⟩ := bind_some h565
                refine RL.idxS (sz := 1) 0 Try.underlying22 Try_ln28 rfl rfl rfl rfl rfl SlOf.imm (idx_some e572).1 (idx_some e572).2.1 ?_
                refine RL.ldS (i := i395) (r := (TR.sl TR.int)) (e' := y571) 0 Try_ln28 rfl rfl rfl rfl SlOf.imm (idx_some e572).2.2 Part.self ?_
                intro v573
                refine RL.mv rfl rfl rfl ?_
                obtain ⟨y574, e575, h565⟩ := bind_some h565
                refine RL.idxS (sz := 1) 2 Try.underlying28 Try_ln3 rfl rfl rfl rfl rfl SlOf.imm (idx_some e575).1 (idx_some e575).2.1 ?_
                refine RL.ldSx (i := i530) (e' := y574) 2 Ex.ik Try_ln3 rfl rfl rfl rfl SlOf.imm (idx_some e575).2.2 Part.self ?_
                refine RL.mv rfl rfl rfl ?_
                refine RL.mv rfl rfl rfl ?_
                refine RL.idxS (sz := 1) 0 Try.underlying22 Try_ln28 rfl rfl rfl rfl rfl SlOf.imm (by omega) (by omega) ?_
                refine RL.ldS (i := i530) (r := (TR.sl TR.int)) (e' := y540) 0 Try_ln28 rfl rfl rfl rfl SlOf.imm e541 Part.self ?_
                intro v576
                refine RL.reL (L' := [imm (TR.sl (TR.sl TR.int)) v0 x0, own2 28 3 TR.int v12 V469 l468, imm (TR.sl TR.int) v573 y571, imm (TR.sl TR.int) v576 y540]) rfl ?_
                refine RL.mv rfl rfl rfl ?_
                obtain ⟨y577, e578, h565⟩ := bind_some h565
                refine RL.idxS (sz := 1) 3 Try.underlying28 Try_ln3 rfl rfl rfl rfl rfl SlOf.imm (idx_some e578).1 (idx_some e578).2.1 ?_
                refine RL.ldSx (i := i395) (e' := y577) 3 Ex.ik Try_ln3 rfl rfl rfl rfl SlOf.imm (idx_some e578).2.2 Part.self ?_
                refine RL.binI (v := .bool (decide (y574 ≥ y577))) rfl rfl rfl rfl rfl ?_
                refine RL.pickF rfl rfl rfl rfl ?_
                refine RL.finQ ?_
                cases h565
                exact fun a w st => mid_intro (decide (y574 ≥ y577)) h566 (St.cut [0, 1] ⟨rfl, rfl, rfl, rfl, rfl, rfl, rfl, rfl, rfl, rfl, trivial⟩ (by decide) rfl st)
            · rintro x562 h579
              have h580 := h567 _ h579
              try dsimp only at h580
              refine GL.weak (env' := [(0, v0), (5, .int .i64 ((x0).length : Int)), (6, v12), (7, .int .i64 (i395 : Int)), (8, .int .i64 (i530 : Int)), (26, .int .i64 (((List.replicate (((x0).length : Int)).toNat ([] : (List Int)))).length : Int)), (27, .int .i64 (i395 : Int)), (35, .int .i64 ((x0).length : Int)), (36, .int .i64 (i530 : Int)), (58, .bool x562)]) (L' := [imm (TR.sl (TR.sl TR.int)) v0 x0, own2 28 3 TR.int v12 V469 l468]) (fun _ _ st => st) ?_
              refine GL.cond rfl (fun b581 => ?_) (fun b581 => ?_)
              · replace h580 := ite_t b581 h580
                refine GL.region ?_
                refine RL.mv rfl rfl rfl ?_
                refine RL.mv rfl rfl rfl ?_
                obtain ⟨y586, e587, h580⟩ := bind_some h580
                refine RL.idxR 1 Try.underlying22 Try_ln28 rfl rfl rfl rfl rfl (idx_some e587).1 (idx_some e587).2.1 ?_
                refine RL.ldR (i := i395) (r := y586) 1 Try_ln28 rfl rfl rfl rfl (idx_some e587).2.2 ?_
                refine RL.mv rfl rfl rfl ?_
                obtain ⟨y588, e589, h580⟩ := bind_some h580
                refine RL.idxS (sz := 1) 1 Try.underlying28 Try_ln3 rfl rfl rfl rfl rfl (SlOf.row (idx_some e587).2.2) (idx_some e589).1 (idx_some e589).2.1 ?_
                refine RL.stR (i := i395) (j := i530) (row := y586) (e' := (1 : Int)) (e1 := (1 : Int)) (r := TR.int) 1 Try_ln3 rfl rfl rfl rfl VR.int rfl (idx_some e587).2.2 (idx_some e589).2.2 Upd.self ?_
                refine RL.finG ?_
                refine GL.nilB ?_
                refine GL.region ?_
                refine RL.binI (v := .int .i64 ((i530 + 1 : Nat) : Int)) rfl rfl rfl rfl (binI_succ i530 (by omega)) ?_
                refine RL.mv rfl rfl rfl ?_
                refine RL.fin ?_
                cases h580
                exact fun a w st => lop_intro (i530 + 1, r542, (List.set l468 i395 (List.set y586 i530 (1 : Int))), V469) ⟨by show i530 + 1 + r542.length = (x0).length; simp only [List.length_cons] at h536; omega, h543, h534⟩ (by simp) (St.cut [0, 1] ⟨rfl, rfl, rfl, rfl, rfl, rfl, rfl, rfl, trivial⟩ (by decide) rfl st)
              · replace h580 := ite_f b581 h580
                refine GL.skip ?_
                refine GL.nilB ?_
                refine GL.region ?_
                refine RL.binI (v := .int .i64 ((i530 + 1 : Nat) : Int)) rfl rfl rfl rfl (binI_succ i530 (by omega)) ?_
                refine RL.mv rfl rfl rfl ?_
                refine RL.fin ?_
                cases h580
                exact fun a w st => lop_intro (i530 + 1, r542, l468, V469) ⟨by show i530 + 1 + r542.length = (x0).length; simp only [List.length_cons] at h536; omega, h543, h534⟩ (by simp) (St.cut [0, 1] ⟨rfl, rfl, rfl, rfl, rfl, rfl, rfl, rfl, trivial⟩ (by decide) rfl st)
          · have h539 : ¬ i530 < (x0).length := by have := of_decide_eq_false b538; omega
            obtain rfl : r531 = [] := by rw [← h537]; exact List.drop_of_length_le (by omega)
            replace h535 : some (Fl.nx _) = some y523 := h535
            cases h535
            exact GL.exit (fun a w st => mid_intro (l468, V469) h526 (St.cut [0, 1] ⟨rfl, rfl, rfl, rfl, rfl, trivial⟩ (by decide) rfl st))
        · rintro ⟨l468, V469⟩ h590
          have h591 := h527 _ h590
          try dsimp only at h591
          refine GL.weak (env' := [(0, v0), (5, .int .i64 ((x0).length : Int)), (6, v12), (26, .int .i64 (((List.replicate (((x0).length : Int)).toNat ([] : (List Int)))).length : Int)), (27, .int .i64 (i395 : Int))]) (L' := [imm (TR.sl (TR.sl TR.int)) v0 x0, own2 28 3 TR.int v12 V469 l468]) (fun _ _ st => st) ?_
          refine GL.nilB ?_
          refine GL.region ?_
          refine RL.binI (v := .int .i64 ((i395 + 1 : Nat) : Int)) rfl rfl rfl rfl (binI_succ i395 (by omega)) ?_
          refine RL.mv rfl rfl rfl ?_
          refine RL.fin ?_
          cases h591
          exact fun a w st => lop_intro (i395 + 1, r405, l468, V469) ⟨by show i395 + 1 + r405 = ((List.replicate (((x0).length : Int)).toNat ([] : (List Int)))).length; omega, h399⟩ (by simp) (St.cut [0, 1] ⟨rfl, rfl, rfl, rfl, rfl, trivial⟩ (by decide) rfl st)
      · have h404 : ¬ i395 < ((List.replicate (((x0).length : Int)).toNat ([] : (List Int)))).length := by have := of_decide_eq_false b403; omega
        obtain rfl : r396 = 0 := by omega
        replace h400 : some (Fl.nx _) = some y388 := h400
        cases h400
        exact GL.exit (fun a w st => mid_intro (l199, V200) h391 (St.cut [1] ⟨rfl, rfl, trivial⟩ (by decide) rfl st))
    · rintro ⟨l199, V200⟩ h592
      have h593 := h392 _ h592
      try dsimp only at h593
      refine GL.weak (env' := [(5, .int .i64 ((x0).length : Int)), (6, v12)]) (L' := [own2 28 3 TR.int v12 V200 l199]) (fun _ _ st => st) ?_
      refine GL.seq ?_
      refine GL.seq ?_
      refine GL.region ?_
      refine RL.mv rfl rfl rfl ?_
      refine RL.mv rfl rfl rfl ?_
      refine RL.finG ?_
      obtain ⟨y1625, e1626, h593⟩ := bind_some h593
      replace e1626 := chk_some e1626
      obtain ⟨y1627, K1628, h1629, h1630, h1631, h1632, h1633⟩ := bindR_K h593
      refine GL.join (ι := (List (List Int)) × (List Value)) (fun (p : (List (List Int)) × (List Value)) => [(5, .int .i64 ((x0).length : Int)), (6, v12)]) (fun (p : (List (List Int)) × (List Value)) => [own2 28 3 TR.int v12 p.2 p.1]) (fun (p : (List (List Int)) × (List Value)) => K1628 (.nx p.1)) ?_ ?_
      · refine GL.block ?_
        refine GL.loop (ι := Nat × Nat × (List (List Int)) × (List Value)) (fun (p : Nat × Nat × (List (List Int)) × (List Value)) => [(5, .int .i64 ((x0).length : Int)), (6, v12), (67, .int .i64 ((x0).length : Int)), (68, .int .i64 (p.1 : Int))]) (fun (p : Nat × Nat × (List (List Int)) × (List Value)) => [own2 28 3 TR.int v12 p.2.2.2 p.2.2.1]) (fun (p : Nat × Nat × (List (List Int)) × (List Value)) => p.1 + p.2.1 = (((x0).length : Int)).toNat ∧ rangeN (duel_Top_b3 x0) p.2.1 p.1 p.2.2.1 = some y1627) (fun (p : Nat × Nat × (List (List Int)) × (List Value)) => p.2.1) (0, (((x0).length : Int)).toNat, l199, V200) ⟨by simp, h1629⟩ (fun a w st => St.cut [0] ⟨rfl, rfl, rfl, rfl, trivial⟩ (by decide) rfl st) ?_
        rintro ⟨i1634, r1635, l1108, V1109⟩ ⟨h1640, h1639⟩
        try dsimp only at h1640 h1639
        refine GL.weak (env' := [(5, .int .i64 ((x0).length : Int)), (6, v12), (67, .int .i64 ((x0).length : Int)), (68, .int .i64 (i1634 : Int))]) (L' := [own2 28 3 TR.int v12 V1109 l1108]) (fun _ _ st => st) ?_
        refine GL.seq ?_
        refine GL.region ?_
        refine RL.binI (v := .bool (decide ((i1634 : Int) < ((x0).length : Int)))) rfl rfl rfl rfl rfl ?_
        refine RL.finG ?_
        refine GL.seq ?_
        refine GL.cond rfl (fun b1642 => ?_) (fun b1642 => ?_)
        · have h1643 : i1634 < (((x0).length : Int)).toNat := by have := of_decide_eq_true b1642; omega
          obtain ⟨r1644, hr⟩ : ∃ m, r1635 = m + 1 := ⟨r1635 - 1, by omega⟩
          subst hr
          obtain ⟨z1636, h1637, h1638⟩ := rangeN_some h1639
          unfold duel_Top_b3 at h1637
          try dsimp only at h1637
          refine GL.skip ?_
          refine GL.seq ?_
          refine GL.block ?_
          refine GL.seq ?_
          refine GL.region ?_
          refine RL.mv rfl rfl rfl ?_
          refine RL.asg rfl rfl rfl ?_
          refine RL.finG ?_
          refine GL.seq ?_
          refine GL.region ?_
          refine RL.mv rfl rfl rfl ?_
          refine RL.mv rfl rfl rfl ?_
          refine RL.finG ?_
          obtain ⟨y1974, e1975, h1637⟩ := bind_some h1637
          replace e1975 := chk_some e1975
          obtain ⟨y1976, K1977, h1978, h1979, h1980, h1981, h1982⟩ := bindF_K h1637
          refine GL.join (ι := (List (List Int)) × (List Value)) (fun (p : (List (List Int)) × (List Value)) => [(5, .int .i64 ((x0).length : Int)), (6, v12), (67, .int .i64 ((x0).length : Int)), (68, .int .i64 (i1634 : Int))]) (fun (p : (List (List Int)) × (List Value)) => [own2 28 3 TR.int v12 p.2 p.1]) (fun (p : (List (List Int)) × (List Value)) => K1977 (.nx p.1)) ?_ ?_
          · refine GL.block ?_
            refine GL.loop (ι := Nat × Nat × (List (List Int)) × (List Value)) (fun (p : Nat × Nat × (List (List Int)) × (List Value)) => [(5, .int .i64 ((x0).length : Int)), (6, v12), (9, .int .i64 (i1634 : Int)), (67, .int .i64 ((x0).length : Int)), (68, .int .i64 (i1634 : Int)), (71, .int .i64 ((x0).length : Int)), (72, .int .i64 (p.1 : Int))]) (fun (p : Nat × Nat × (List (List Int)) × (List Value)) => [own2 28 3 TR.int v12 p.2.2.2 p.2.2.1]) (fun (p : Nat × Nat × (List (List Int)) × (List Value)) => p.1 + p.2.1 = (((x0).length : Int)).toNat ∧ rangeN (duel_Top_b4 x0 i1634) p.2.1 p.1 p.2.2.1 = some y1976) (fun (p : Nat × Nat × (List (List Int)) × (List Value)) => p.2.1) (0, (((x0).length : Int)).toNat, l1108, V1109) ⟨by simp, h1978⟩ (fun a w st => St.cut [0] ⟨rfl, rfl, rfl, rfl, rfl, rfl, rfl, trivial⟩ (by decide) rfl st) ?_
            rintro ⟨i1983, r1984, l1808, V1809⟩ ⟨h1989, h1988⟩
            try dsimp only at h1989 h1988
            refine GL.weak (env' := [(5, .int .i64 ((x0).length : Int)), (6, v12), (9, .int .i64 (i1634 : Int)), (67, .int .i64 ((x0).length : Int)), (68, .int .i64 (i1634 : Int)), (71, .int .i64 ((x0).length : Int)), (72, .int .i64 (i1983 : Int))]) (L' := [own2 28 3 TR.int v12 V1809 l1808]) (fun _ _ st => st) ?_
            refine GL.seq ?_
            refine GL.region ?_
            refine RL.binI (v := .bool (decide ((i1983 : Int) < ((x0).length : Int)))) rfl rfl rfl rfl rfl ?_
            refine RL.finG ?_
            refine GL.seq ?_
            refine GL.cond rfl (fun b1991 => ?_) (fun b1991 => ?_)
            · have h1992 : i1983 < (((x0).length : Int)).toNat := by have := of_decide_eq_true b1991; omega
              obtain ⟨r1993, hr⟩ : ∃ m, r1984 = m + 1 := ⟨r1984 - 1, by omega⟩
              subst hr
              obtain ⟨z1985, h1986, h1987⟩ := rangeN_some h1988
              unfold duel_Top_b4 at h1986
              try dsimp only at h1986
              refine GL.skip ?_
              refine GL.seq ?_
              refine GL.block ?_
              refine GL.seq ?_
              refine GL.region ?_
              refine RL.mv rfl rfl rfl ?_
              refine RL.asg rfl rfl rfl ?_
              refine RL.finG ?_
              refine GL.seq ?_
              refine GL.region ?_
              refine RL.mv rfl rfl rfl ?_
              refine RL.mv rfl rfl rfl ?_
              refine RL.finG ?_
              obtain ⟨y2089, e2090, h1986⟩ := bind_some h1986
              replace e2090 := chk_some e2090
              obtain ⟨y2091, K2092, h2093, h2094, h2095, h2096, h2097⟩ := bindF_K h1986
              refine GL.join (ι := (List (List Int)) × (List Value)) (fun (p : (List (List Int)) × (List Value)) => [(5, .int .i64 ((x0).length : Int)), (6, v12), (9, .int .i64 (i1634 : Int)), (67, .int .i64 ((x0).length : Int)), (68, .int .i64 (i1634 : Int)), (71, .int .i64 ((x0).length : Int)), (72, .int .i64 (i1983 : Int))]) (fun (p : (List (List Int)) × (List Value)) => [own2 28 3 TR.int v12 p.2 p.1]) (fun (p : (List (List Int)) × (List Value)) => K2092 (.nx p.1)) ?_ ?_
              · refine GL.block ?_
                refine GL.loop (ι := Nat × Nat × (List (List Int)) × (List Value)) (fun (p : Nat × Nat × (List (List Int)) × (List Value)) => [(5, .int .i64 ((x0).length : Int)), (6, v12), (9, .int .i64 (i1634 : Int)), (10, .int .i64 (i1983 : Int)), (67, .int .i64 ((x0).length : Int)), (68, .int .i64 (i1634 : Int)), (71, .int .i64 ((x0).length : Int)), (72, .int .i64 (i1983 : Int)), (75, .int .i64 ((x0).length : Int)), (76, .int .i64 (p.1 : Int))]) (fun (p : Nat × Nat × (List (List Int)) × (List Value)) => [own2 28 3 TR.int v12 p.2.2.2 p.2.2.1]) (fun (p : Nat × Nat × (List (List Int)) × (List Value)) => p.1 + p.2.1 = (((x0).length : Int)).toNat ∧ rangeN (duel_Top_b5 i1983 i1634) p.2.1 p.1 p.2.2.1 = some y2091) (fun (p : Nat × Nat × (List (List Int)) × (List Value)) => p.2.1) (0, (((x0).length : Int)).toNat, l1808, V1809) ⟨by simp, h2093⟩ (fun a w st => St.cut [0] ⟨rfl, rfl, rfl, rfl, rfl, rfl, rfl, rfl, rfl, rfl, trivial⟩ (by decide) rfl st) ?_
                rintro ⟨i2098, r2099, l2040, V2041⟩ ⟨h2104, h2103⟩
                try dsimp only at h2104 h2103
                refine GL.weak (env' := [(5, .int .i64 ((x0).length : Int)), (6, v12), (9, .int .i64 (i1634 : Int)), (10, .int .i64 (i1983 : Int)), (67, .int .i64 ((x0).length : Int)), (68, .int .i64 (i1634 : Int)), (71, .int .i64 ((x0).length : Int)), (72, .int .i64 (i1983 : Int)), (75, .int .i64 ((x0).length : Int)), (76, .int .i64 (i2098 : Int))]) (L' := [own2 28 3 TR.int v12 V2041 l2040]) (fun _ _ st => st) ?_
                refine GL.seq ?_
                refine GL.region ?_
                refine RL.binI (v := .bool (decide ((i2098 : Int) < ((x0).length : Int)))) rfl rfl rfl rfl rfl ?_
                refine RL.finG ?_
                refine GL.seq ?_
                refine GL.cond rfl (fun b2106 => ?_) (fun b2106 => ?_)
                · have h2107 : i2098 < (((x0).length : Int)).toNat := by have := of_decide_eq_true b2106; omega
                  obtain ⟨r2108, hr⟩ : ∃ m, r2099 = m + 1 := ⟨r2099 - 1, by omega⟩
                  subst hr
                  obtain ⟨z2100, h2101, h2102⟩ := rangeN_some h2103
                  unfold duel_Top_b5 at h2101
                  try dsimp only at h2101
                  refine GL.skip ?_
                  refine GL.seq ?_
                  refine GL.block ?_
                  refine GL.seq ?_
                  refine GL.region ?_
                  refine RL.mv rfl rfl rfl ?_
                  refine RL.asg rfl rfl rfl ?_
                  refine RL.finG ?_
                  refine GL.seq ?_
                  obtain ⟨y2128, K2129, h2130, h2131, h2132, h2133, h2134⟩ := bindF_K h2101
                  refine GL.join (ι := Bool) (fun (p : Bool) => [(5, .int .i64 ((x0).length : Int)), (6, v12), (9, .int .i64 (i1634 : Int)), (10, .int .i64 (i1983 : Int)), (11, .int .i64 (i2098 : Int)), (67, .int .i64 ((x0).length : Int)), (68, .int .i64 (i1634 : Int)), (71, .int .i64 ((x0).length : Int)), (72, .int .i64 (i1983 : Int)), (75, .int .i64 ((x0).length : Int)), (76, .int .i64 (i2098 : Int)), (96, .bool p)]) (fun (p : Bool) => [own2 28 3 TR.int v12 V2041 l2040]) (fun (p : Bool) => K2129 (.nx p)) ?_ ?_
                  · skip
                    refine GL.region ?_
                    refine RL.mv rfl rfl rfl ?_
                    refine RL.mv rfl rfl rfl ?_
                    obtain ⟨y2135, e2136, h2130⟩ := bind_some h2130
                    refine RL.idxR 0 Try.underlying22 Try_ln28 rfl rfl rfl rfl rfl (idx_some e2136).1 (idx_some e2136).2.1 ?_
                    refine RL.ldR (i := i1983) (r := y2135) 0 Try_ln28 rfl rfl rfl rfl (idx_some e2136).2.2 ?_
                    refine RL.mv rfl rfl rfl ?_
                    obtain ⟨y2137, e2138, h2130⟩ := bind_some h2130
                    refine RL.idxS (sz := 1) 0 Try.underlying28 Try_ln3 rfl rfl rfl rfl rfl (SlOf.row (idx_some e2136).2.2) (idx_some e2138).1 (idx_some e2138).2.1 ?_
                    refine RL.ldSx (i := i1634) (e' := y2137) 0 Ex.ik Try_ln3 rfl rfl rfl rfl (SlOf.row (idx_some e2136).2.2) (idx_some e2138).2.2 Part.self ?_
                    refine RL.binI (v := .bool (y2137 == (1 : Int))) rfl rfl rfl rfl rfl ?_
                    refine RL.mv rfl rfl rfl ?_
                    refine RL.split (t := 87) rfl (fun b2139 => ?_) (fun b2139 => ?_)
                    · replace h2130 := ite_t b2139 h2130
                      refine RL.mv rfl rfl rfl ?_
                      refine RL.mv rfl rfl rfl ?_
                      obtain ⟨y2140, e2141, h2130⟩ := bind_some h2130
                      refine RL.idxR 0 Try.underlying22 Try_ln28 rfl rfl rfl rfl rfl (idx_some e2141).1 (idx_some e2141).2.1 ?_
                      refine RL.ldR (i := i1634) (r := y2140) 0 Try_ln28 rfl rfl rfl rfl (idx_some e2141).2.2 ?_
                      refine RL.mv rfl rfl rfl ?_
                      obtain ⟨y2142, e2143, h2130⟩ := bind_some h2130
                      refine RL.idxS (sz := 1) 0 Try.underlying28 Try_ln3 rfl rfl rfl rfl rfl (SlOf.row (idx_some e2141).2.2) (idx_some e2143).1 (idx_some e2143).2.1 ?_
                      refine RL.ldSx (i := i2098) (e' := y2142) 0 Ex.ik Try_ln3 rfl rfl rfl rfl (SlOf.row (idx_some e2141).2.2) (idx_some e2143).2.2 Part.self ?_
                      refine RL.binI (v := .bool (y2142 == (1 : Int))) rfl rfl rfl rfl rfl ?_
                      refine RL.pickT rfl rfl rfl rfl ?_
                      refine RL.fin ?_
                      cases h2130
                      exact fun a w st => mid_intro (y2142 == (1 : Int)) h2131 (St.cut [0] ⟨rfl, rfl, rfl, rfl, rfl, rfl, rfl, rfl, rfl, rfl, rfl, rfl, trivial⟩ (by decide) rfl st)
                    · replace h2130 := ite_f b2139 h2130
                      refine RL.skip rfl rfl ?_
                      refine RL.skip rfl rfl ?_
                      refine RL.skip rfl rfl ?_
                      refine RL.skip rfl rfl ?_
                      refine RL.skip rfl rfl ?_
                      refine RL.skip rfl rfl ?_
                      refine RL.skip rfl rfl ?_
                      refine RL.skip rfl rfl ?_
                      refine RL.pickF rfl rfl rfl rfl ?_
                      refine RL.fin ?_
                      cases h2130
                      exact fun a w st => mid_intro false h2131 (St.cut [0] ⟨rfl, rfl, rfl, rfl, rfl, rfl, rfl, rfl, rfl, rfl, rfl, rfl, trivial⟩ (by decide) rfl st)
                  · rintro x2127 h2144
                    have h2145 := h2132 _ h2144
                    try dsimp only at h2145
                    refine GL.weak (env' := [(5, .int .i64 ((x0).length : Int)), (6, v12), (9, .int .i64 (i1634 : Int)), (10, .int .i64 (i1983 : Int)), (11, .int .i64 (i2098 : Int)), (67, .int .i64 ((x0).length : Int)), (68, .int .i64 (i1634 : Int)), (71, .int .i64 ((x0).length : Int)), (72, .int .i64 (i1983 : Int)), (75, .int .i64 ((x0).length : Int)), (76, .int .i64 (i2098 : Int)), (96, .bool x2127)]) (L' := [own2 28 3 TR.int v12 V2041 l2040]) (fun _ _ st => st) ?_
                    refine GL.cond rfl (fun b2146 => ?_) (fun b2146 => ?_)
                    · replace h2145 := ite_t b2146 h2145
                      refine GL.region ?_
                      refine RL.mv rfl rfl rfl ?_
                      refine RL.mv rfl rfl rfl ?_
                      obtain ⟨y2151, e2152, h2145⟩ := bind_some h2145
                      refine RL.idxR 0 Try.underlying22 Try_ln28 rfl rfl rfl rfl rfl (idx_some e2152).1 (idx_some e2152).2.1 ?_
                      refine RL.ldR (i := i1983) (r := y2151) 0 Try_ln28 rfl rfl rfl rfl (idx_some e2152).2.2 ?_
                      refine RL.mv rfl rfl rfl ?_
                      obtain ⟨y2153, e2154, h2145⟩ := bind_some h2145
                      refine RL.idxS (sz := 1) 0 Try.underlying28 Try_ln3 rfl rfl rfl rfl rfl (SlOf.row (idx_some e2152).2.2) (idx_some e2154).1 (idx_some e2154).2.1 ?_
                      refine RL.stR (i := i1983) (j := i2098) (row := y2151) (e' := (1 : Int)) (e1 := (1 : Int)) (r := TR.int) 0 Try_ln3 rfl rfl rfl rfl VR.int rfl (idx_some e2152).2.2 (idx_some e2154).2.2 Upd.self ?_
                      refine RL.finG ?_
                      refine GL.nilB ?_
                      refine GL.region ?_
                      refine RL.binI (v := .int .i64 ((i2098 + 1 : Nat) : Int)) rfl rfl rfl rfl (binI_succ i2098 (by omega)) ?_
                      refine RL.mv rfl rfl rfl ?_
                      refine RL.fin ?_
                      cases h2145
                      exact fun a w st => lop_intro (i2098 + 1, r2108, (List.set l2040 i1983 (List.set y2151 i2098 (1 : Int))), V2041) ⟨by show i2098 + 1 + r2108 = (((x0).length : Int)).toNat; omega, h2102⟩ (by simp) (St.cut [0] ⟨rfl, rfl, rfl, rfl, rfl, rfl, rfl, rfl, rfl, rfl, trivial⟩ (by decide) rfl st)
                    · replace h2145 := ite_f b2146 h2145
                      refine GL.skip ?_
                      refine GL.nilB ?_
                      refine GL.region ?_
                      refine RL.binI (v := .int .i64 ((i2098 + 1 : Nat) : Int)) rfl rfl rfl rfl (binI_succ i2098 (by omega)) ?_
                      refine RL.mv rfl rfl rfl ?_
                      refine RL.fin ?_
                      cases h2145
                      exact fun a w st => lop_intro (i2098 + 1, r2108, l2040, V2041) ⟨by show i2098 + 1 + r2108 = (((x0).length : Int)).toNat; omega, h2102⟩ (by simp) (St.cut [0] ⟨rfl, rfl, rfl, rfl, rfl, rfl, rfl, rfl, rfl, rfl, trivial⟩ (by decide) rfl st)
                · have h2107 : ¬ i2098 < (((x0).length : Int)).toNat := by have := of_decide_eq_false b2106; omega
                  obtain rfl : r2099 = 0 := by omega
                  replace h2103 : some (Fl.nx _) = some y2091 := h2103
                  cases h2103
                  exact GL.exit (fun a w st => mid_intro (l2040, V2041) h2094 (St.cut [0] ⟨rfl, rfl, rfl, rfl, rfl, rfl, rfl, trivial⟩ (by decide) rfl st))
              · rintro ⟨l2040, V2041⟩ h2155
                have h2156 := h2095 _ h2155
                try dsimp only at h2156
                refine GL.weak (env' := [(5, .int .i64 ((x0).length : Int)), (6, v12), (9, .int .i64 (i1634 : Int)), (67, .int .i64 ((x0).length : Int)), (68, .int .i64 (i1634 : Int)), (71, .int .i64 ((x0).length : Int)), (72, .int .i64 (i1983 : Int))]) (L' := [own2 28 3 TR.int v12 V2041 l2040]) (fun _ _ st => st) ?_
                refine GL.nilB ?_
                refine GL.region ?_
                refine RL.binI (v := .int .i64 ((i1983 + 1 : Nat) : Int)) rfl rfl rfl rfl (binI_succ i1983 (by omega)) ?_
                refine RL.mv rfl rfl rfl ?_
                refine RL.fin ?_
                cases h2156
                exact fun a w st => lop_intro (i1983 + 1, r1993, l2040, V2041) ⟨by show i1983 + 1 + r1993 = (((x0).length : Int)).toNat; omega, h1987⟩ (by simp) (St.cut [0] ⟨rfl, rfl, rfl, rfl, rfl, rfl, rfl, trivial⟩ (by decide) rfl st)
            · have h1992 : ¬ i1983 < (((x0).length : Int)).toNat := by have := of_decide_eq_false b1991; omega
              obtain rfl : r1984 = 0 := by omega
              replace h1988 : some (Fl.nx _) = some y1976 := h1988
              cases h1988
              exact GL.exit (fun a w st => mid_intro (l1808, V1809) h1979 (St.cut [0] ⟨rfl, rfl, rfl, rfl, trivial⟩ (by decide) rfl st))
          · rintro ⟨l1808, V1809⟩ h2157
            have h2158 := h1980 _ h2157
            try dsimp only at h2158
            refine GL.weak (env' := [(5, .int .i64 ((x0).length : Int)), (6, v12), (67, .int .i64 ((x0).length : Int)), (68, .int .i64 (i1634 : Int))]) (L' := [own2 28 3 TR.int v12 V1809 l1808]) (fun _ _ st => st) ?_
            refine GL.nilB ?_
            refine GL.region ?_
            refine RL.binI (v := .int .i64 ((i1634 + 1 : Nat) : Int)) rfl rfl rfl rfl (binI_succ i1634 (by omega)) ?_
            refine RL.mv rfl rfl rfl ?_
            refine RL.fin ?_
            cases h2158
            exact fun a w st => lop_intro (i1634 + 1, r1644, l1808, V1809) ⟨by show i1634 + 1 + r1644 = (((x0).length : Int)).toNat; omega, h1638⟩ (by simp) (St.cut [0] ⟨rfl, rfl, rfl, rfl, trivial⟩ (by decide) rfl st)
        · have h1643 : ¬ i1634 < (((x0).length : Int)).toNat := by have := of_decide_eq_false b1642; omega
          obtain rfl : r1635 = 0 := by omega
          replace h1639 : some (Fl.nx _) = some y1627 := h1639
          cases h1639
          exact GL.exit (fun a w st => mid_intro (l1108, V1109) h1630 (St.cut [0] ⟨rfl, rfl, trivial⟩ (by decide) rfl st))
      · rintro ⟨l1108, V1109⟩ h2159
        have h2160 := h1631 _ h2159
        try dsimp only at h2160
        refine GL.weak (env' := [(5, .int .i64 ((x0).length : Int)), (6, v12)]) (L' := [own2 28 3 TR.int v12 V1109 l1108]) (fun _ _ st => st) ?_
        refine GL.seq ?_
        refine GL.region ?_
        refine RL.asg rfl rfl rfl ?_
        refine RL.finG ?_
        refine GL.seq ?_
        refine GL.seq ?_
        refine GL.region ?_
        refine RL.mv rfl rfl rfl ?_
        refine RL.mv rfl rfl rfl ?_
        refine RL.finG ?_
        refine GL.weak (fun a w st => st.nilOwn 3 TR.int) ?_
        obtain ⟨y2213, e2214, h2160⟩ := bind_some h2160
        replace e2214 := chk_some e2214
        obtain ⟨y2215, K2216, h2217, h2218, h2219, h2220, h2221⟩ := bindR_K h2160
        refine GL.join (ι := (List Int) × Value) (fun (p : (List Int) × Value) => [(12, p.2)]) (fun (p : (List Int) × Value) => [own 3 TR.int p.2 p.1]) (fun (p : (List Int) × Value) => K2216 (.nx p.1)) ?_ ?_
        · refine GL.block ?_
          refine GL.loop (ι := Nat × Nat × (List Int) × Value) (fun (p : Nat × Nat × (List Int) × Value) => [(5, .int .i64 ((x0).length : Int)), (6, v12), (12, p.2.2.2), (106, .int .i64 ((x0).length : Int)), (107, .int .i64 (p.1 : Int))]) (fun (p : Nat × Nat × (List Int) × Value) => [own2 28 3 TR.int v12 V1109 l1108, own 3 TR.int p.2.2.2 p.2.2.1]) (fun (p : Nat × Nat × (List Int) × Value) => p.1 + p.2.1 = (((x0).length : Int)).toNat ∧ rangeN (duel_Top_b6 x0 l1108) p.2.1 p.1 p.2.2.1 = some y2215) (fun (p : Nat × Nat × (List Int) × Value) => p.2.1) (0, (((x0).length : Int)).toNat, [], Value.slice none 0 0) ⟨by simp, h2217⟩ (fun a w st => St.cut [0, 1] ⟨rfl, rfl, rfl, rfl, rfl, trivial⟩ (by decide) rfl st) ?_
          rintro ⟨i2222, r2223, l2161, v2162⟩ ⟨h2228, h2227⟩
          try dsimp only at h2228 h2227
          refine GL.weak (env' := [(5, .int .i64 ((x0).length : Int)), (6, v12), (12, v2162), (106, .int .i64 ((x0).length : Int)), (107, .int .i64 (i2222 : Int))]) (L' := [own2 28 3 TR.int v12 V1109 l1108, own 3 TR.int v2162 l2161]) (fun _ _ st => st) ?_
          refine GL.seq ?_
          refine GL.region ?_
          refine RL.binI (v := .bool (decide ((i2222 : Int) < ((x0).length : Int)))) rfl rfl rfl rfl rfl ?_
          refine RL.finG ?_
          refine GL.seq ?_
          refine GL.cond rfl (fun b2230 => ?_) (fun b2230 => ?_)
          · have h2231 : i2222 < (((x0).length : Int)).toNat := by have := of_decide_eq_true b2230; omega
            obtain ⟨r2232, hr⟩ : ∃ m, r2223 = m + 1 := ⟨r2223 - 1, by omega⟩
            subst hr
            obtain ⟨z2224, h2225, h2226⟩ := rangeN_some h2227
            unfold duel_Top_b6 at h2225
            try dsimp only at h2225
            refine GL.skip ?_
            refine GL.seq ?_
            refine GL.block ?_
            refine GL.seq ?_
            refine GL.region ?_
            refine RL.mv rfl rfl rfl ?_
            refine RL.asg rfl rfl rfl ?_
            refine RL.finG ?_
            refine GL.seq ?_
            refine GL.region ?_
            refine RL.asg rfl rfl rfl ?_
            refine RL.finG ?_
            refine GL.seq ?_
            refine GL.seq ?_
            refine GL.region ?_
            refine RL.mv rfl rfl rfl ?_
            refine RL.mv rfl rfl rfl ?_
            refine RL.finG ?_
            obtain ⟨y2243, e2244, h2225⟩ := bind_some h2225
            replace e2244 := chk_some e2244
            obtain ⟨y2245, K2246, h2247, h2248, h2249, h2250, h2251⟩ := bindF_K h2225
            refine GL.join (ι := Int) (fun (p : Int) => [(5, .int .i64 ((x0).length : Int)), (6, v12), (12, v2162), (13, .int .i64 (i2222 : Int)), (14, .int .i64 p), (106, .int .i64 ((x0).length : Int)), (107, .int .i64 (i2222 : Int))]) (fun (p : Int) => [own2 28 3 TR.int v12 V1109 l1108, own 3 TR.int v2162 l2161]) (fun (p : Int) => K2246 (.nx p)) ?_ ?_
            · refine GL.block ?_
              refine GL.loop (ι := Nat × Nat × Int) (fun (p : Nat × Nat × Int) => [(5, .int .i64 ((x0).length : Int)), (6, v12), (12, v2162), (13, .int .i64 (i2222 : Int)), (14, .int .i64 p.2.2), (106, .int .i64 ((x0).length : Int)), (107, .int .i64 (i2222 : Int)), (110, .int .i64 ((x0).length : Int)), (111, .int .i64 (p.1 : Int))]) (fun (p : Nat × Nat × Int) => [own2 28 3 TR.int v12 V1109 l1108, own 3 TR.int v2162 l2161]) (fun (p : Nat × Nat × Int) => p.1 + p.2.1 = (((x0).length : Int)).toNat ∧ rangeN (duel_Top_b7 l1108 i2222) p.2.1 p.1 p.2.2 = some y2245) (fun (p : Nat × Nat × Int) => p.2.1) (0, (((x0).length : Int)).toNat, (0 : Int)) ⟨by simp, h2247⟩ (fun a w st => St.cut [0, 1] ⟨rfl, rfl, rfl, rfl, rfl, rfl, rfl, rfl, rfl, trivial⟩ (by decide) rfl st) ?_
              rintro ⟨i2252, r2253, x2233⟩ ⟨h2258, h2257⟩
              try dsimp only at h2258 h2257
              refine GL.weak (env' := [(5, .int .i64 ((x0).length : Int)), (6, v12), (12, v2162), (13, .int .i64 (i2222 : Int)), (14, .int .i64 x2233), (106, .int .i64 ((x0).length : Int)), (107, .int .i64 (i2222 : Int)), (110, .int .i64 ((x0).length : Int)), (111, .int .i64 (i2252 : Int))]) (L' := [own2 28 3 TR.int v12 V1109 l1108, own 3 TR.int v2162 l2161]) (fun _ _ st => st) ?_
              refine GL.seq ?_
              refine GL.region ?_
              refine RL.binI (v := .bool (decide ((i2252 : Int) < ((x0).length : Int)))) rfl rfl rfl rfl rfl ?_
              refine RL.finG ?_
              refine GL.seq ?_
              refine GL.cond rfl (fun b2260 => ?_) (fun b2260 => ?_)
              · have h2261 : i2252 < (((x0).length : Int)).toNat := by have := of_decide_eq_true b2260; omega
                obtain ⟨r2262, hr⟩ : ∃ m, r2253 = m + 1 := ⟨r2253 - 1, by omega⟩
                subst hr
                obtain ⟨z2254, h2255, h2256⟩ := rangeN_some h2257
                unfold duel_Top_b7 at h2255
                try dsimp only at h2255
                refine GL.skip ?_
                refine GL.seq ?_
                refine GL.block ?_
                refine GL.seq ?_
                refine GL.region ?_
                refine RL.mv rfl rfl rfl ?_
                refine RL.asg rfl rfl rfl ?_
                refine RL.finG ?_
                refine GL.region ?_
                refine RL.mv rfl rfl rfl ?_
                refine RL.mv rfl rfl rfl ?_
                refine RL.mv rfl rfl rfl ?_
                obtain ⟨y2267, e2268, h2255⟩ := bind_some h2255
                refine RL.idxR 0 Try.underlying22 Try_ln28 rfl rfl rfl rfl rfl (idx_some e2268).1 (idx_some e2268).2.1 ?_
                refine RL.ldR (i := i2222) (r := y2267) 0 Try_ln28 rfl rfl rfl rfl (idx_some e2268).2.2 ?_
                refine RL.mv rfl rfl rfl ?_
                obtain ⟨y2269, e2270, h2255⟩ := bind_some h2255
                refine RL.idxS (sz := 1) 0 Try.underlying28 Try_ln3 rfl rfl rfl rfl rfl (SlOf.row (idx_some e2268).2.2) (idx_some e2270).1 (idx_some e2270).2.1 ?_
                refine RL.ldSx (i := i2252) (e' := y2269) 0 Ex.ik Try_ln3 rfl rfl rfl rfl (SlOf.row (idx_some e2268).2.2) (idx_some e2270).2.2 Part.self ?_
                refine RL.binI (v := .int .i64 (wadd x2233 y2269)) rfl rfl rfl rfl rfl ?_
                refine RL.asg rfl rfl rfl ?_
                refine RL.finG ?_
                refine GL.nilB ?_
                refine GL.region ?_
                refine RL.binI (v := .int .i64 ((i2252 + 1 : Nat) : Int)) rfl rfl rfl rfl (binI_succ i2252 (by omega)) ?_
                refine RL.mv rfl rfl rfl ?_
                refine RL.fin ?_
                cases h2255
                exact fun a w st => lop_intro (i2252 + 1, r2262, wadd x2233 y2269) ⟨by show i2252 + 1 + r2262 = (((x0).length : Int)).toNat; omega, h2256⟩ (by simp) (St.cut [0, 1] ⟨rfl, rfl, rfl, rfl, rfl, rfl, rfl, rfl, rfl, trivial⟩ (by decide) rfl st)
              · have h2261 : ¬ i2252 < (((x0).length : Int)).toNat := by have := of_decide_eq_false b2260; omega
                obtain rfl : r2253 = 0 := by omega
                replace h2257 : some (Fl.nx _) = some y2245 := h2257
                cases h2257
                exact GL.exit (fun a w st => mid_intro x2233 h2248 (St.cut [0, 1] ⟨rfl, rfl, rfl, rfl, rfl, rfl, rfl, trivial⟩ (by decide) rfl st))
            · rintro x2233 h2271
              have h2272 := h2249 _ h2271
              try dsimp only at h2272
              refine GL.weak (env' := [(5, .int .i64 ((x0).length : Int)), (6, v12), (12, v2162), (13, .int .i64 (i2222 : Int)), (14, .int .i64 x2233), (106, .int .i64 ((x0).length : Int)), (107, .int .i64 (i2222 : Int))]) (L' := [own2 28 3 TR.int v12 V1109 l1108, own 3 TR.int v2162 l2161]) (fun _ _ st => st) ?_
              refine GL.seq ?_
              refine GL.region ?_
              refine RL.mv rfl rfl rfl ?_
              refine RL.mv rfl rfl rfl ?_
              refine RL.binI (v := .bool (x2233 == ((x0).length : Int))) rfl rfl rfl rfl rfl ?_
              refine RL.finG ?_
              refine GL.cond rfl (fun b2273 => ?_) (fun b2273 => ?_)
              · replace h2272 := ite_t b2273 h2272
                refine GL.region ?_
                refine RL.mv rfl rfl rfl ?_
                refine RL.mv rfl rfl rfl ?_
                refine RL.bS (t := TR.int) (vs := [.int .i64 (i2222 : Int)]) ([(i2222 : Int)] : (List Int)) Try.underlying28 Try_lo3 rfl rfl rfl rfl ⟨VR.int, trivial⟩ rfl (by decide) ?_
                intro v2278
                obtain ⟨y2279, e2280, h2272⟩ := bind_some h2272
                replace e2280 := chk_some e2280
                refine RL.app 1 2 Try.underlying28 Try_lo3 rfl rfl rfl rfl rfl rfl rfl SlOf.own e2280 ?_
                intro v2281
                refine RL.reL (L' := [own2 28 3 TR.int v12 V1109 l1108, own 3 TR.int v2281 (l2161 ++ ([(i2222 : Int)] : (List Int))), own 3 TR.int v2278 ([(i2222 : Int)] : (List Int))]) rfl ?_
                refine RL.asg rfl rfl rfl ?_
                refine RL.finG ?_
                refine GL.nilB ?_
                refine GL.region ?_
                refine RL.binI (v := .int .i64 ((i2222 + 1 : Nat) : Int)) rfl rfl rfl rfl (binI_succ i2222 (by omega)) ?_
                refine RL.mv rfl rfl rfl ?_
                refine RL.fin ?_
                cases h2272
                exact fun a w st => lop_intro (i2222 + 1, r2232, (l2161 ++ ([(i2222 : Int)] : (List Int))), v2281) ⟨by show i2222 + 1 + r2232 = (((x0).length : Int)).toNat; omega, h2226⟩ (by simp) (St.cut [0, 1] ⟨rfl, rfl, rfl, rfl, rfl, trivial⟩ (by decide) rfl st)
              · replace h2272 := ite_f b2273 h2272
                refine GL.skip ?_
                refine GL.nilB ?_
                refine GL.region ?_
                refine RL.binI (v := .int .i64 ((i2222 + 1 : Nat) : Int)) rfl rfl rfl rfl (binI_succ i2222 (by omega)) ?_
                refine RL.mv rfl rfl rfl ?_
                refine RL.fin ?_
                cases h2272
                exact fun a w st => lop_intro (i2222 + 1, r2232, l2161, v2162) ⟨by show i2222 + 1 + r2232 = (((x0).length : Int)).toNat; omega, h2226⟩ (by simp) (St.cut [0, 1] ⟨rfl, rfl, rfl, rfl, rfl, trivial⟩ (by decide) rfl st)
          · have h2231 : ¬ i2222 < (((x0).length : Int)).toNat := by have := of_decide_eq_false b2230; omega
            obtain rfl : r2223 = 0 := by omega
            replace h2227 : some (Fl.nx _) = some y2215 := h2227
            cases h2227
            exact GL.exit (fun a w st => mid_intro (l2161, v2162) h2218 (St.cut [1] ⟨rfl, trivial⟩ (by decide) rfl st))
        · rintro ⟨l2161, v2162⟩ h2282
          have h2283 := h2219 _ h2282
          try dsimp only at h2283
          refine GL.weak (env' := [(12, v2162)]) (L' := [own 3 TR.int v2162 l2161]) (fun _ _ st => st) ?_
          refine GL.seq ?_
          refine GL.region ?_
          refine RL.mv rfl rfl rfl ?_
          refine RL.asg rfl rfl rfl ?_
          refine RL.asg rfl rfl rfl ?_
          refine RL.finG ?_
          have h2283 := Option.some.inj h2283
          subst h2283
          exact GL.ret (Gx.ret (v := .tuple #[v2162, .int .i64 (0 : Int)]) (res2 rfl rfl rfl) (fun a w st => (st.pick [0] (by decide) rfl).toPost v2162))

set_option maxHeartbeats 4000000 in
theorem duel_Wins_c (S : Hp) (w : World) (hS : S.sub w) (v0 : Value) (x0 : (List (List Int))) (k0 : ((TR.sl (TR.sl TR.int))).vrep S v0 x0) (res : (List Int) × Int) (hm : duel_Wins_m x0 = some res) : Calls Try.prog 33 #[v0] w (Post w S (fun (o : Value) => .tuple #[o, .int .i64 res.2]) (fun (o : Value) => [own 3 TR.int o res.1])) := by
  refine calls_enter 73 Try.func33 Try.ntmps33 rfl S false [(0, v0)] [imm (TR.sl (TR.sl TR.int)) v0 x0] rfl ⟨rfl, trivial⟩ hS ⟨k0, trivial⟩ ?_
  unfold duel_Wins_m at hm
  refine GL.seq ?_
  refine GL.region ?_
  refine RL.asg rfl rfl rfl ?_
  refine RL.asg rfl rfl rfl ?_
  refine RL.finG ?_
  refine GL.seq ?_
  refine GL.seq ?_
  refine GL.region ?_
  refine RL.mv rfl rfl rfl ?_
  obtain ⟨y4, e5, hm⟩ := bind_some hm
  refine RL.callC (v := .int .i64 y4) (vs := [v0]) Try_fit41 rfl rfl rfl rfl (fun U w hU hW hL => duel_Check_c U w hU _ _ (hL 0 _ _ rfl Seen.imm) _ e5) ?_
  refine RL.asg rfl rfl rfl ?_
  refine RL.finG ?_
  refine GL.seq ?_
  refine GL.region ?_
  refine RL.mv rfl rfl rfl ?_
  refine RL.binI (v := .bool (y4 != (0 : Int))) rfl rfl rfl rfl rfl ?_
  refine RL.finG ?_
  refine GL.cond rfl (fun b6 => ?_) (fun b6 => ?_)
  · replace hm := ite_t b6 hm
    refine GL.seq ?_
    refine GL.region ?_
    refine RL.mv rfl rfl rfl ?_
    refine RL.asg rfl rfl rfl ?_
    refine RL.asg rfl rfl rfl ?_
    refine RL.finG ?_
    refine GL.weak (fun a w st => st.nilOwn 3 TR.int) ?_
    have hm := Option.some.inj hm
    subst hm
    exact GL.ret (Gx.ret (v := .tuple #[Value.slice none 0 0, .int .i64 y4]) (res2 rfl rfl rfl) (fun a w st => (st.pick [1] (by decide) rfl).toPost (Value.slice none 0 0)))
  · replace hm := ite_f b6 hm
    refine GL.skip ?_
    refine GL.seq ?_
    refine GL.region ?_
    refine RL.mv rfl rfl rfl ?_
    refine RL.lenS 0 Try.underlying22 rfl rfl rfl rfl SlOf.imm ?_
    obtain ⟨y10, e11, hm⟩ := bind_some hm
    replace e11 := chk_some e11
    refine RL.mkS (t := TR.int) (z := (0 : Int)) Try.underlying28 Try_lo3 (fun S => rfl) rfl rfl rfl rfl e11.1 e11.2 ?_
    intro v12
    refine RL.asg rfl rfl rfl ?_
    refine RL.finG ?_
    refine GL.seq ?_
    refine GL.seq ?_
    refine GL.region ?_
    refine RL.mv rfl rfl rfl ?_
    refine RL.lenS 0 Try.underlying22 rfl rfl rfl rfl SlOf.imm ?_
    refine RL.mv rfl rfl rfl ?_
    refine RL.finG ?_
    refine GL.open_ 0 rfl (fun S h => len_imm S h) (fun n399 => ?_)
    obtain ⟨y400, K401, h402, h403, h404, h405, h406⟩ := bindR_K hm
    refine GL.join (ι := (List Int) × Value) (fun (p : (List Int) × Value) => [(5, p.2)]) (fun (p : (List Int) × Value) => [own 3 TR.int p.2 p.1]) (fun (p : (List Int) × Value) => K401 (.nx p.1)) ?_ ?_
    · refine GL.block ?_
      refine GL.loop (ι := Nat × (List (List Int)) × (List Int) × Value) (fun (p : Nat × (List (List Int)) × (List Int) × Value) => [(0, v0), (5, p.2.2.2), (17, .int .i64 ((x0).length : Int)), (18, .int .i64 (p.1 : Int))]) (fun (p : Nat × (List (List Int)) × (List Int) × Value) => [imm (TR.sl (TR.sl TR.int)) v0 x0, own 3 TR.int p.2.2.2 p.2.2.1]) (fun (p : Nat × (List (List Int)) × (List Int) × Value) => p.1 + p.2.1.length = (x0).length ∧ List.drop p.1 x0 = p.2.1 ∧ rangeL (duel_Wins_b1 x0) p.2.1 p.1 p.2.2.1 = some y400) (fun (p : Nat × (List (List Int)) × (List Int) × Value) => p.2.1.length) (0, x0, (List.replicate (((x0).length : Int)).toNat (0 : Int)), v12) ⟨by simp, by simp, h402⟩ (fun a w st => St.cut [0, 1] ⟨rfl, rfl, rfl, rfl, trivial⟩ (by decide) rfl st) ?_
      rintro ⟨i407, r408, l205, v206⟩ ⟨h413, h414, h412⟩
      try dsimp only at h413 h414 h412
      refine GL.weak (env' := [(0, v0), (5, v206), (17, .int .i64 ((x0).length : Int)), (18, .int .i64 (i407 : Int))]) (L' := [imm (TR.sl (TR.sl TR.int)) v0 x0, own 3 TR.int v206 l205]) (fun _ _ st => st) ?_
      refine GL.seq ?_
      refine GL.region ?_
      refine RL.binI (v := .bool (decide ((i407 : Int) < ((x0).length : Int)))) rfl rfl rfl rfl rfl ?_
      refine RL.finG ?_
      refine GL.seq ?_
      refine GL.cond rfl (fun b415 => ?_) (fun b415 => ?_)
      · have h416 : i407 < (x0).length := by have := of_decide_eq_true b415; omega
        obtain ⟨y417, r419, hr, e418, h420⟩ := drop_cons h414 rfl h416
        subst hr
        obtain ⟨z409, h410, h411⟩ := rangeL_some h412
        unfold duel_Wins_b1 at h410
        try dsimp only at h410
        refine GL.skip ?_
        refine GL.seq ?_
        refine GL.block ?_
        refine GL.seq ?_
        refine GL.region ?_
        refine RL.mv rfl rfl rfl ?_
        refine RL.asg rfl rfl rfl ?_
        refine RL.finG ?_
        refine GL.seq ?_
        refine GL.region ?_
        refine RL.mv rfl rfl rfl ?_
        refine RL.lenS 0 Try.underlying22 rfl rfl rfl rfl SlOf.imm ?_
        refine RL.mv rfl rfl rfl ?_
        refine RL.finG ?_
        refine GL.open_ 0 rfl (fun S h => len_imm S h) (fun n523 => ?_)
        obtain ⟨y524, K525, h526, h527, h528, h529, h530⟩ := bindF_K h410
        refine GL.join (ι := (List Int) × Value) (fun (p : (List Int) × Value) => [(0, v0), (5, p.2), (17, .int .i64 ((x0).length : Int)), (18, .int .i64 (i407 : Int))]) (fun (p : (List Int) × Value) => [imm (TR.sl (TR.sl TR.int)) v0 x0, own 3 TR.int p.2 p.1]) (fun (p : (List Int) × Value) => K525 (.nx p.1)) ?_ ?_
        · refine GL.block ?_
          refine GL.loop (ι := Nat × (List (List Int)) × (List Int) × Value) (fun (p : Nat × (List (List Int)) × (List Int) × Value) => [(0, v0), (5, p.2.2.2), (6, .int .i64 (i407 : Int)), (17, .int .i64 ((x0).length : Int)), (18, .int .i64 (i407 : Int)), (22, .int .i64 ((x0).length : Int)), (23, .int .i64 (p.1 : Int))]) (fun (p : Nat × (List (List Int)) × (List Int) × Value) => [imm (TR.sl (TR.sl TR.int)) v0 x0, own 3 TR.int p.2.2.2 p.2.2.1]) (fun (p : Nat × (List (List Int)) × (List Int) × Value) => p.1 + p.2.1.length = (x0).length ∧ List.drop p.1 x0 = p.2.1 ∧ rangeL (duel_Wins_b2 y417 i407) p.2.1 p.1 p.2.2.1 = some y524) (fun (p : Nat × (List (List Int)) × (List Int) × Value) => p.2.1.length) (0, x0, l205, v206) ⟨by simp, by simp, h526⟩ (fun a w st => St.cut [0, 1] ⟨rfl, rfl, rfl, rfl, rfl, rfl, rfl, trivial⟩ (by decide) rfl st) ?_
          rintro ⟨i531, r532, l471, v472⟩ ⟨h537, h538, h536⟩
          try dsimp only at h537 h538 h536
          refine GL.weak (env' := [(0, v0), (5, v472), (6, .int .i64 (i407 : Int)), (17, .int .i64 ((x0).length : Int)), (18, .int .i64 (i407 : Int)), (22, .int .i64 ((x0).length : Int)), (23, .int .i64 (i531 : Int))]) (L' := [imm (TR.sl (TR.sl TR.int)) v0 x0, own 3 TR.int v472 l471]) (fun _ _ st => st) ?_
          refine GL.seq ?_
          refine GL.region ?_
          refine RL.binI (v := .bool (decide ((i531 : Int) < ((x0).length : Int)))) rfl rfl rfl rfl rfl ?_
          refine RL.finG ?_
          refine GL.seq ?_
          refine GL.cond rfl (fun b539 => ?_) (fun b539 => ?_)
          · have h540 : i531 < (x0).length := by have := of_decide_eq_true b539; omega
            obtain ⟨y541, r543, hr, e542, h544⟩ := drop_cons h538 rfl h540
            subst hr
            obtain ⟨z533, h534, h535⟩ := rangeL_some h536
            unfold duel_Wins_b2 at h534
            try dsimp only at h534
            refine GL.skip ?_
            refine GL.seq ?_
            refine GL.block ?_
            refine GL.seq ?_
            refine GL.region ?_
            refine RL.mv rfl rfl rfl ?_
            refine RL.asg rfl rfl rfl ?_
            refine RL.finG ?_
            refine GL.block ?_
            refine GL.seq ?_
            refine GL.regionQ rfl rfl (by kernel_rfl) ?_
            refine RL.mv rfl rfl rfl ?_
            refine RL.mv rfl rfl rfl ?_
            refine RL.idxS (sz := 1) 0 Try.underlying22 Try_ln28 rfl rfl rfl rfl rfl SlOf.imm (by omega) (by omega) ?_
            refine RL.ldS (i := i407) (r := (TR.sl TR.int)) (e' := y417) 0 Try_ln28 rfl rfl rfl rfl SlOf.imm e418 Part.self ?_
            intro v551
            refine RL.mv rfl rfl rfl ?_
            obtain ⟨y552, e553, h534⟩ := bind_some h534
            refine RL.idxS (sz := 1) 2 Try.underlying28 Try_ln3 rfl rfl rfl rfl rfl SlOf.imm (idx_some e553).1 (idx_some e553).2.1 ?_
            refine RL.ldSx (i := i531) (e' := y552) 2 Ex.ik Try_ln3 rfl rfl rfl rfl SlOf.imm (idx_some e553).2.2 Part.self ?_
            refine RL.mv rfl rfl rfl ?_
            refine RL.mv rfl rfl rfl ?_
            refine RL.idxS (sz := 1) 0 Try.underlying22 Try_ln28 rfl rfl rfl rfl rfl SlOf.imm (by omega) (by omega) ?_
            refine RL.ldS (i := i531) (r := (TR.sl TR.int)) (e' := y541) 0 Try_ln28 rfl rfl rfl rfl SlOf.imm e542 Part.self ?_
            intro v554
            refine RL.reL (L' := [imm (TR.sl (TR.sl TR.int)) v0 x0, own 3 TR.int v472 l471, imm (TR.sl TR.int) v551 y417, imm (TR.sl TR.int) v554 y541]) rfl ?_
            refine RL.mv rfl rfl rfl ?_
            obtain ⟨y555, e556, h534⟩ := bind_some h534
            refine RL.idxS (sz := 1) 3 Try.underlying28 Try_ln3 rfl rfl rfl rfl rfl SlOf.imm (idx_some e556).1 (idx_some e556).2.1 ?_
            refine RL.ldSx (i := i407) (e' := y555) 3 Ex.ik Try_ln3 rfl rfl rfl rfl SlOf.imm (idx_some e556).2.2 Part.self ?_
            refine RL.binI (v := .bool (decide (y552 > y555))) rfl rfl rfl rfl rfl ?_
            refine RL.asg rfl rfl rfl ?_
            refine RL.finQG ?_
            refine GL.cond rfl (fun b557 => ?_) (fun b557 => ?_)
            · replace h534 := ite_t b557 h534
              refine GL.region ?_
              refine RL.mv rfl rfl rfl ?_
              refine RL.mv rfl rfl rfl ?_
              obtain ⟨y562, e563, h534⟩ := bind_some h534
              refine RL.idxS (sz := 1) 1 Try.underlying28 Try_ln3 rfl rfl rfl rfl rfl SlOf.own (idx_some e563).1 (idx_some e563).2.1 ?_
              refine RL.ldSx (i := i407) (e' := y562) 1 Ex.ik Try_ln3 rfl rfl rfl rfl SlOf.own (idx_some e563).2.2 Part.self ?_
              refine RL.binI (v := .int .i64 (wadd y562 (1 : Int))) rfl rfl rfl rfl rfl ?_
              obtain ⟨y564, e565, h534⟩ := bind_some h534
              refine RL.idxS (sz := 1) 1 Try.underlying28 Try_ln3 rfl rfl rfl rfl rfl SlOf.own (idx_some e565).1 (idx_some e565).2.1 ?_
              refine RL.stS (i := i407) (e' := wadd y562 (1 : Int)) (e1 := wadd y562 (1 : Int)) (r := TR.int) 1 Try_ln3 rfl rfl rfl rfl VR.int rfl (idx_some e565).2.2 Upd.self ?_
              refine RL.finG ?_
              refine GL.nilB ?_
              refine GL.nilB ?_
              refine GL.region ?_
              refine RL.binI (v := .int .i64 ((i531 + 1 : Nat) : Int)) rfl rfl rfl rfl (binI_succ i531 (by omega)) ?_
              refine RL.mv rfl rfl rfl ?_
              refine RL.fin ?_
              cases h534
              exact fun a w st => lop_intro (i531 + 1, r543, (List.set l471 i407 (wadd y562 (1 : Int))), v472) ⟨by show i531 + 1 + r543.length = (x0).length; simp only [List.length_cons] at h537; omega, h544, h535⟩ (by simp) (St.cut [0, 1] ⟨rfl, rfl, rfl, rfl, rfl, rfl, rfl, trivial⟩ (by decide) rfl st)
            · replace h534 := ite_f b557 h534
              refine GL.seq ?_
              refine GL.regionQ rfl rfl (by kernel_rfl) ?_
              refine RL.mv rfl rfl rfl ?_
              refine RL.mv rfl rfl rfl ?_
              refine RL.idxS (sz := 1) 0 Try.underlying22 Try_ln28 rfl rfl rfl rfl rfl SlOf.imm (by omega) (by omega) ?_
              refine RL.ldS (i := i407) (r := (TR.sl TR.int)) (e' := y417) 0 Try_ln28 rfl rfl rfl rfl SlOf.imm e418 Part.self ?_
              intro v572
              refine RL.mv rfl rfl rfl ?_
              obtain ⟨y573, e574, h534⟩ := bind_some h534
              refine RL.idxS (sz := 1) 4 Try.underlying28 Try_ln3 rfl rfl rfl rfl rfl SlOf.imm (idx_some e574).1 (idx_some e574).2.1 ?_
              refine RL.ldSx (i := i531) (e' := y573) 4 Ex.ik Try_ln3 rfl rfl rfl rfl SlOf.imm (idx_some e574).2.2 Part.self ?_
              refine RL.mv rfl rfl rfl ?_
              refine RL.mv rfl rfl rfl ?_
              refine RL.idxS (sz := 1) 0 Try.underlying22 Try_ln28 rfl rfl rfl rfl rfl SlOf.imm (by omega) (by omega) ?_
              refine RL.ldS (i := i531) (r := (TR.sl TR.int)) (e' := y541) 0 Try_ln28 rfl rfl rfl rfl SlOf.imm e542 Part.self ?_
              intro v575
              refine RL.reL (L' := [imm (TR.sl (TR.sl TR.int)) v0 x0, own 3 TR.int v472 l471, imm (TR.sl TR.int) v551 y417, imm (TR.sl TR.int) v554 y541, imm (TR.sl TR.int) v572 y417, imm (TR.sl TR.int) v575 y541]) rfl ?_
              refine RL.mv rfl rfl rfl ?_
              obtain ⟨y576, e577, h534⟩ := bind_some h534
              refine RL.idxS (sz := 1) 5 Try.underlying28 Try_ln3 rfl rfl rfl rfl rfl SlOf.imm (idx_some e577).1 (idx_some e577).2.1 ?_
              refine RL.ldSx (i := i407) (e' := y576) 5 Ex.ik Try_ln3 rfl rfl rfl rfl SlOf.imm (idx_some e577).2.2 Part.self ?_
              refine RL.binI (v := .bool (decide (y573 < y576))) rfl rfl rfl rfl rfl ?_
              refine RL.asg rfl rfl rfl ?_
              refine RL.finQG ?_
              refine GL.cond rfl (fun b578 => ?_) (fun b578 => ?_)
              · replace h534 := ite_t b578 h534
                refine GL.region ?_
                refine RL.mv rfl rfl rfl ?_
                refine RL.mv rfl rfl rfl ?_
                obtain ⟨y583, e584, h534⟩ := bind_some h534
                refine RL.idxS (sz := 1) 1 Try.underlying28 Try_ln3 rfl rfl rfl rfl rfl SlOf.own (idx_some e584).1 (idx_some e584).2.1 ?_
                refine RL.ldSx (i := i407) (e' := y583) 1 Ex.ik Try_ln3 rfl rfl rfl rfl SlOf.own (idx_some e584).2.2 Part.self ?_
                refine RL.binI (v := .int .i64 (wsub y583 (1 : Int))) rfl rfl rfl rfl rfl ?_
                obtain ⟨y585, e586, h534⟩ := bind_some h534
                refine RL.idxS (sz := 1) 1 Try.underlying28 Try_ln3 rfl rfl rfl rfl rfl SlOf.own (idx_some e586).1 (idx_some e586).2.1 ?_
                refine RL.stS (i := i407) (e' := wsub y583 (1 : Int)) (e1 := wsub y583 (1 : Int)) (r := TR.int) 1 Try_ln3 rfl rfl rfl rfl VR.int rfl (idx_some e586).2.2 Upd.self ?_
                refine RL.finG ?_
                refine GL.nilB ?_
                refine GL.nilB ?_
                refine GL.region ?_
                refine RL.binI (v := .int .i64 ((i531 + 1 : Nat) : Int)) rfl rfl rfl rfl (binI_succ i531 (by omega)) ?_
                refine RL.mv rfl rfl rfl ?_
                refine RL.fin ?_
                cases h534
                exact fun a w st => lop_intro (i531 + 1, r543, (List.set l471 i407 (wsub y583 (1 : Int))), v472) ⟨by show i531 + 1 + r543.length = (x0).length; simp only [List.length_cons] at h537; omega, h544, h535⟩ (by simp) (St.cut [0, 1] ⟨rfl, rfl, rfl, rfl, rfl, rfl, rfl, trivial⟩ (by decide) rfl st)
              · replace h534 := ite_f b578 h534
                refine GL.skip ?_
                refine GL.nilB ?_
                refine GL.nilB ?_
                refine GL.region ?_
                refine RL.binI (v := .int .i64 ((i531 + 1 : Nat) : Int)) rfl rfl rfl rfl (binI_succ i531 (by omega)) ?_
                refine RL.mv rfl rfl rfl ?_
                refine RL.fin ?_
                cases h534
                exact fun a w st => lop_intro (i531 + 1, r543, l471, v472) ⟨by show i531 + 1 + r543.length = (x0).length; simp only [List.length_cons] at h537; omega, h544, h535⟩ (by simp) (St.cut [0, 1] ⟨rfl, rfl, rfl, rfl, rfl, rfl, rfl, trivial⟩ (by decide) rfl st)
          · have h540 : ¬ i531 < (x0).length := by have := of_decide_eq_false b539; omega
            obtain rfl : r532 = [] := by rw [← h538]; exact List.drop_of_length_le (by omega)
            replace h536 : some (Fl.nx _) = some y524 := h536
            cases h536
            exact GL.exit (fun a w st => mid_intro (l471, v472) h527 (St.cut [0, 1] ⟨rfl, rfl, rfl, rfl, trivial⟩ (by decide) rfl st))
        · rintro ⟨l471, v472⟩ h587
          have h588 := h528 _ h587
          try dsimp only at h588
          refine GL.weak (env' := [(0, v0), (5, v472), (17, .int .i64 ((x0).length : Int)), (18, .int .i64 (i407 : Int))]) (L' := [imm (TR.sl (TR.sl TR.int)) v0 x0, own 3 TR.int v472 l471]) (fun _ _ st => st) ?_
          refine GL.nilB ?_
          refine GL.region ?_
          refine RL.binI (v := .int .i64 ((i407 + 1 : Nat) : Int)) rfl rfl rfl rfl (binI_succ i407 (by omega)) ?_
          refine RL.mv rfl rfl rfl ?_
          refine RL.fin ?_
          cases h588
          exact fun a w st => lop_intro (i407 + 1, r419, l471, v472) ⟨by show i407 + 1 + r419.length = (x0).length; simp only [List.length_cons] at h413; omega, h420, h411⟩ (by simp) (St.cut [0, 1] ⟨rfl, rfl, rfl, rfl, trivial⟩ (by decide) rfl st)
      · have h416 : ¬ i407 < (x0).length := by have := of_decide_eq_false b415; omega
        obtain rfl : r408 = [] := by rw [← h414]; exact List.drop_of_length_le (by omega)
        replace h412 : some (Fl.nx _) = some y400 := h412
        cases h412
        exact GL.exit (fun a w st => mid_intro (l205, v206) h403 (St.cut [1] ⟨rfl, trivial⟩ (by decide) rfl st))
    · rintro ⟨l205, v206⟩ h589
      have h590 := h404 _ h589
      try dsimp only at h590
      refine GL.weak (env' := [(5, v206)]) (L' := [own 3 TR.int v206 l205]) (fun _ _ st => st) ?_
      refine GL.seq ?_
      refine GL.region ?_
      refine RL.mv rfl rfl rfl ?_
      refine RL.asg rfl rfl rfl ?_
      refine RL.asg rfl rfl rfl ?_
      refine RL.finG ?_
      have h590 := Option.some.inj h590
      subst h590
      exact GL.ret (Gx.ret (v := .tuple #[v206, .int .i64 (0 : Int)]) (res2 rfl rfl rfl) (fun a w st => (st.pick [0] (by decide) rfl).toPost v206))

set_option maxHeartbeats 4000000 in
theorem slices_IndexFunc_api_Errno_api_Errno_c (S : Hp) (w : World) (hS : S.sub w) (v0 : Value) (x0 : (List Int)) (k0 : ((TR.sl TR.int)).vrep S v0 x0) (f1 : FuncId) (c1 : Array Value) (t1 : Fit Try.prog f1) (g1 : Int → Option Bool) (k1 : ∀ (U : Hp) (w' : World), Hp.le S U → U.sub w' → ∀ (a0 : Int) (rr : Bool), g1 a0 = some rr → Calls Try.prog f1 (#[.int .i64 a0] ++ c1) w' (PostV w' (.bool rr))) (res : Int) (hm : slices_IndexFunc_api_Errno_api_Errno_m x0 g1 = some res) : Calls Try.prog 54 #[v0, .func (.func f1) #[] c1] w (PostV w (.int .i64 res)) := by
  refine calls_enter 19 Try.func54 Try.ntmps54 rfl S false [(0, v0), (1, .func (.func f1) #[] c1)] [imm (TR.sl TR.int) v0 x0] rfl ⟨rfl, ⟨rfl, trivial⟩⟩ hS ⟨k0, trivial⟩ ?_
  unfold slices_IndexFunc_api_Errno_api_Errno_m at hm
  refine GL.seq ?_
  refine GL.region ?_
  refine RL.asg rfl rfl rfl ?_
  refine RL.finG ?_
  refine GL.seq ?_
  refine GL.seq ?_
  refine GL.region ?_
  refine RL.mv rfl rfl rfl ?_
  refine RL.lenS 0 Try.underlying55 rfl rfl rfl rfl SlOf.imm ?_
  refine RL.mv rfl rfl rfl ?_
  refine RL.finG ?_
  refine GL.open_ 0 rfl (fun S h => len_imm S h) (fun n12 => ?_)
  obtain ⟨y13, K14, h15, h16, h17, h18, h19⟩ := bindR_K hm
  refine GL.join (ι := Unit) (fun (p : Unit) => []) (fun (p : Unit) => []) (fun (p : Unit) => K14 (.nx ())) ?_ ?_
  · refine GL.block ?_
    refine GL.loop (ι := Nat × (List Int)) (fun (p : Nat × (List Int)) => [(0, v0), (1, .func (.func f1) #[] c1), (7, .int .i64 ((x0).length : Int)), (8, .int .i64 (p.1 : Int))]) (fun (p : Nat × (List Int)) => [imm (TR.sl TR.int) v0 x0]) (fun (p : Nat × (List Int)) => p.1 + p.2.length = (x0).length ∧ List.drop p.1 x0 = p.2 ∧ rangeL (slices_IndexFunc_api_Errno_api_Errno_b1 g1) p.2 p.1 () = some y13) (fun (p : Nat × (List Int)) => p.2.length) (0, x0) ⟨by simp, by simp, h15⟩ (fun a w st => St.cut [0] ⟨rfl, rfl, rfl, rfl, trivial⟩ (by decide) rfl st) ?_
    rintro ⟨i20, r21⟩ ⟨h26, h27, h25⟩
    try dsimp only at h26 h27 h25
    refine GL.weak (env' := [(0, v0), (1, .func (.func f1) #[] c1), (7, .int .i64 ((x0).length : Int)), (8, .int .i64 (i20 : Int))]) (L' := [imm (TR.sl TR.int) v0 x0]) (fun _ _ st => st) ?_
    refine GL.seq ?_
    refine GL.region ?_
    refine RL.binI (v := .bool (decide ((i20 : Int) < ((x0).length : Int)))) rfl rfl rfl rfl rfl ?_
    refine RL.finG ?_
    refine GL.seq ?_
    refine GL.cond rfl (fun b28 => ?_) (fun b28 => ?_)
    · have h29 : i20 < (x0).length := by have := of_decide_eq_true b28; omega
      obtain ⟨y30, r32, hr, e31, h33⟩ := drop_cons h27 rfl h29
      subst hr
      obtain ⟨z22, h23, h24⟩ := rangeL_some h25
      unfold slices_IndexFunc_api_Errno_api_Errno_b1 at h23
      try dsimp only at h23
      refine GL.skip ?_
      refine GL.seq ?_
      refine GL.block ?_
      refine GL.seq ?_
      refine GL.region ?_
      refine RL.mv rfl rfl rfl ?_
      refine RL.asg rfl rfl rfl ?_
      refine RL.finG ?_
      refine GL.seq ?_
      refine GL.region ?_
      refine RL.mv rfl rfl rfl ?_
      refine RL.mv rfl rfl rfl ?_
      refine RL.mv rfl rfl rfl ?_
      refine RL.idxS (sz := 1) 0 Try.underlying55 Try_ln24 rfl rfl rfl rfl rfl SlOf.imm (by omega) (by omega) ?_
      refine RL.ldSx (i := i20) (e' := y30) 0 Ex.ik Try_ln24 rfl rfl rfl rfl SlOf.imm e31 Part.self ?_
      obtain ⟨y36, e37, h23⟩ := bind_some h23
      refine RL.callV (v := .bool y36) (vs := [.int .i64 y30]) t1 rfl (Or.inl rfl) rfl rfl rfl rfl (fun U w hU hW hL => k1 U w hW hU y30 _ e37) ?_
      refine RL.finG ?_
      refine GL.cond rfl (fun b38 => ?_) (fun b38 => ?_)
      · replace h23 := ite_t b38 h23
        refine GL.seq ?_
        refine GL.region ?_
        refine RL.mv rfl rfl rfl ?_
        refine RL.asg rfl rfl rfl ?_
        refine RL.finG ?_
        cases h23
        replace h24 : some (Fl.rt _) = some y13 := h24
        cases h24
        have hh := h18 _ h16
        subst hh
        exact GL.ret (Gx.ret (v := .int .i64 (i20 : Int)) (res1 rfl rfl) (fun a w st => st.toPostV))
      · replace h23 := ite_f b38 h23
        refine GL.skip ?_
        refine GL.nilB ?_
        refine GL.region ?_
        refine RL.binI (v := .int .i64 ((i20 + 1 : Nat) : Int)) rfl rfl rfl rfl (binI_succ i20 (by omega)) ?_
        refine RL.mv rfl rfl rfl ?_
        refine RL.fin ?_
        cases h23
        exact fun a w st => lop_intro (i20 + 1, r32) ⟨by show i20 + 1 + r32.length = (x0).length; simp only [List.length_cons] at h26; omega, h33, h24⟩ (by simp) (St.cut [0] ⟨rfl, rfl, rfl, rfl, trivial⟩ (by decide) rfl st)
    · have h29 : ¬ i20 < (x0).length := by have := of_decide_eq_false b28; omega
      obtain rfl : r21 = [] := by rw [← h27]; exact List.drop_of_length_le (by omega)
      replace h25 : some (Fl.nx _) = some y13 := h25
      cases h25
      exact GL.exit (fun a w st => mid_intro () h16 (St.cut [] trivial (by decide) rfl st))
  · rintro ⟨⟩ h39
    have h40 := h17 _ h39
    try dsimp only at h40
    refine GL.weak (env' := []) (L' := []) (fun _ _ st => st) ?_
    refine GL.seq ?_
    refine GL.region ?_
    refine RL.asg rfl rfl rfl ?_
    refine RL.finG ?_
    have h40 := Option.some.inj h40
    subst h40
    exact GL.ret (Gx.ret (v := .int .i64 (-1 : Int)) (res1 rfl rfl) (fun a w st => st.toPostV))

set_option maxHeartbeats 4000000 in
theorem slices_ContainsFunc_api_Errno_api_Errno_c (S : Hp) (w : World) (hS : S.sub w) (v0 : Value) (x0 : (List Int)) (k0 : ((TR.sl TR.int)).vrep S v0 x0) (f1 : FuncId) (c1 : Array Value) (t1 : Fit Try.prog f1) (g1 : Int → Option Bool) (k1 : ∀ (U : Hp) (w' : World), Hp.le S U → U.sub w' → ∀ (a0 : Int) (rr : Bool), g1 a0 = some rr → Calls Try.prog f1 (#[.int .i64 a0] ++ c1) w' (PostV w' (.bool rr))) (res : Bool) (hm : slices_ContainsFunc_api_Errno_api_Errno_m x0 g1 = some res) : Calls Try.prog 46 #[v0, .func (.func f1) #[] c1] w (PostV w (.bool res)) := by
  refine calls_enter 9 Try.func46 Try.ntmps46 rfl S false [(0, v0), (1, .func (.func f1) #[] c1)] [imm (TR.sl TR.int) v0 x0] rfl ⟨rfl, ⟨rfl, trivial⟩⟩ hS ⟨k0, trivial⟩ ?_
  unfold slices_ContainsFunc_api_Errno_api_Errno_m at hm
  refine GL.seq ?_
  refine GL.region ?_
  refine RL.asg rfl rfl rfl ?_
  refine RL.finG ?_
  refine GL.seq ?_
  refine GL.region ?_
  refine RL.mv rfl rfl rfl ?_
  refine RL.mv rfl rfl rfl ?_
  obtain ⟨y5, e6, hm⟩ := bind_some hm
  refine RL.callV (v := .int .i64 y5) (vs := [v0, .func (.func f1) #[] c1]) Try_fit54 rfl (Or.inl rfl) rfl rfl rfl rfl (fun U w hU hW hL => slices_IndexFunc_api_Errno_api_Errno_c U w hU _ _ (hL 0 _ _ rfl Seen.imm) f1 c1 t1 g1 (fun U' w' hle => k1 U' w' (Hp.le_trans hW hle)) _ e6) ?_
  refine RL.binI (v := .bool (decide (y5 ≥ (0 : Int)))) rfl rfl rfl rfl rfl ?_
  refine RL.asg rfl rfl rfl ?_
  refine RL.finG ?_
  have hm := Option.some.inj hm
  subst hm
  exact GL.ret (Gx.ret (v := .bool (decide (y5 ≥ (0 : Int)))) (res1 rfl rfl) (fun a w st => st.toPostV))

set_option maxHeartbeats 4000000 in
theorem pk_good_1_c (S : Hp) (w : World) (hS : S.sub w) (x0 : Int) (res : Bool) (hm : pk_good_1_m x0 = some res) : Calls Try.prog 47 #[.int .i64 x0] w (PostC w (.bool res)) := by
  refine calls_enter 5 Try.func47 Try.ntmps47 rfl S true [(0, .int .i64 x0)] [] rfl ⟨rfl, trivial⟩ hS trivial ?_
  unfold pk_good_1_m at hm
  refine GL.seq ?_
  refine GL.region ?_
  refine RL.asg rfl rfl rfl ?_
  refine RL.finG ?_
  refine GL.seq ?_
  refine GL.region ?_
  refine RL.mv rfl rfl rfl ?_
  refine RL.binI (v := .bool (x0 != (0 : Int))) rfl rfl rfl rfl rfl ?_
  refine RL.asg rfl rfl rfl ?_
  refine RL.finG ?_
  have hm := Option.some.inj hm
  subst hm
  exact GL.ret (Gx.ret (v := .bool (x0 != (0 : Int))) (res1 rfl rfl) (fun a w st => st.toPostC rfl))

set_option maxHeartbeats 4000000 in
theorem pk_good_c (S : Hp) (w : World) (hS : S.sub w) (v0 : Value) (x0 : (List Int)) (k0 : ((TR.sl TR.int)).vrep S v0 x0) (res : Bool) (hm : pk_good_m x0 = some res) : Calls Try.prog 25 #[v0] w (PostV w (.bool res)) := by
  refine calls_enter 6 Try.func25 Try.ntmps25 rfl S false [(0, v0)] [imm (TR.sl TR.int) v0 x0] rfl ⟨rfl, trivial⟩ hS ⟨k0, trivial⟩ ?_
  unfold pk_good_m at hm
  refine GL.seq ?_
  refine GL.region ?_
  refine RL.asg rfl rfl rfl ?_
  refine RL.finG ?_
  refine GL.seq ?_
  refine GL.region ?_
  refine RL.mv rfl rfl rfl ?_
  obtain ⟨y4, e5, hm⟩ := bind_some hm
  refine RL.callV (v := .bool y4) (vs := [v0, .func (.func 47) #[] #[]]) Try_fit46 rfl (Or.inl rfl) rfl rfl rfl rfl (fun U w hU hW hL => slices_ContainsFunc_api_Errno_api_Errno_c U w hU _ _ (hL 0 _ _ rfl Seen.imm) 47 #[] Try_fit47 (fun a0 => pk_good_1_m a0) (fun U' w' hle hU' a0 rr hr => (pk_good_1_c U' w' hU' a0 rr hr).mono (fun _ _ z => z.toV)) _ e5) ?_
  refine RL.notB rfl rfl rfl ?_
  refine RL.asg rfl rfl rfl ?_
  refine RL.finG ?_
  have hm := Option.some.inj hm
  subst hm
  exact GL.ret (Gx.ret (v := .bool (!y4)) (res1 rfl rfl) (fun a w st => st.toPostV))

set_option maxHeartbeats 4000000 in
theorem pk_duels_c (S : Hp) (w : World) (hS : S.sub w)  (res : Bool) (hm : pk_duels_m = some res) : Calls Try.prog 26 #[] w (PostV w (.bool res)) := by
  refine calls_enter 35 Try.func26 Try.ntmps26 rfl S false [] [] rfl trivial hS trivial ?_
  unfold pk_duels_m at hm
  refine GL.seq ?_
  refine GL.region ?_
  refine RL.asg rfl rfl rfl ?_
  refine RL.finG ?_
  refine GL.seq ?_
  refine GL.region ?_
  refine RL.bS (t := TR.int) (vs := [.int .i64 (0 : Int), .int .i64 (2 : Int), .int .i64 (1 : Int)]) ([(0 : Int), (2 : Int), (1 : Int)] : (List Int)) Try.underlying28 Try_lo3 rfl rfl rfl rfl ⟨VR.int, ⟨VR.int, ⟨VR.int, trivial⟩⟩⟩ rfl (by decide) ?_
  intro v8
  refine RL.bS (t := TR.int) (vs := [.int .i64 (1 : Int), .int .i64 (0 : Int), .int .i64 (2 : Int)]) ([(1 : Int), (0 : Int), (2 : Int)] : (List Int)) Try.underlying28 Try_lo3 rfl rfl rfl rfl ⟨VR.int, ⟨VR.int, ⟨VR.int, trivial⟩⟩⟩ rfl (by decide) ?_
  intro v9
  refine RL.reL (L' := [own 3 TR.int v8 ([(0 : Int), (2 : Int), (1 : Int)] : (List Int)), own 3 TR.int v9 ([(1 : Int), (0 : Int), (2 : Int)] : (List Int))]) rfl ?_
  refine RL.bS (t := TR.int) (vs := [.int .i64 (2 : Int), .int .i64 (1 : Int), .int .i64 (0 : Int)]) ([(2 : Int), (1 : Int), (0 : Int)] : (List Int)) Try.underlying28 Try_lo3 rfl rfl rfl rfl ⟨VR.int, ⟨VR.int, ⟨VR.int, trivial⟩⟩⟩ rfl (by decide) ?_
  intro v10
  refine RL.weak (fun a w st => st.freeze 0 rfl) ?_
  refine RL.weak (fun a w st => st.freeze 1 rfl) ?_
  refine RL.weak (fun a w st => st.freeze 2 rfl) ?_
  refine RL.bS (t := (TR.sl TR.int)) (vs := [v8, v9, v10]) ([([(0 : Int), (2 : Int), (1 : Int)] : (List Int)), ([(1 : Int), (0 : Int), (2 : Int)] : (List Int)), ([(2 : Int), (1 : Int), (0 : Int)] : (List Int))] : (List (List Int))) Try.underlying22 Try_lo28 rfl rfl rfl rfl ⟨(VR.item 0 rfl), ⟨(VR.item 1 rfl), ⟨(VR.item 2 rfl), trivial⟩⟩⟩ rfl (by decide) ?_
  intro v11
  refine RL.reL (L' := [imm (TR.sl TR.int) v8 ([(0 : Int), (2 : Int), (1 : Int)] : (List Int)), imm (TR.sl TR.int) v9 ([(1 : Int), (0 : Int), (2 : Int)] : (List Int)), imm (TR.sl TR.int) v10 ([(2 : Int), (1 : Int), (0 : Int)] : (List Int)), own 28 (TR.sl TR.int) v11 ([([(0 : Int), (2 : Int), (1 : Int)] : (List Int)), ([(1 : Int), (0 : Int), (2 : Int)] : (List Int)), ([(2 : Int), (1 : Int), (0 : Int)] : (List Int))] : (List (List Int)))]) rfl ?_
  refine RL.weak (fun a w st => st.freeze 3 rfl) ?_
  obtain ⟨y12, e13, hm⟩ := bind_some hm
  refine RL.call (vs := [v11]) Try_fit27 rfl rfl rfl rfl rfl (fun S f w hS hW hi => duel_Top_c S w hS _ _ (hi 3 _ rfl) _ e13) ?_
  intro v14
  refine RL.reL (L' := [imm (TR.sl TR.int) v8 ([(0 : Int), (2 : Int), (1 : Int)] : (List Int)), imm (TR.sl TR.int) v9 ([(1 : Int), (0 : Int), (2 : Int)] : (List Int)), imm (TR.sl TR.int) v10 ([(2 : Int), (1 : Int), (0 : Int)] : (List Int)), imm (TR.sl (TR.sl TR.int)) v11 ([([(0 : Int), (2 : Int), (1 : Int)] : (List Int)), ([(1 : Int), (0 : Int), (2 : Int)] : (List Int)), ([(2 : Int), (1 : Int), (0 : Int)] : (List Int))] : (List (List Int))), own 3 TR.int v14 y12.1]) rfl ?_
  refine RL.mv rfl rfl rfl ?_
  refine RL.ext rfl rfl rfl rfl ?_
  refine RL.ext rfl rfl rfl rfl ?_
  refine RL.asg rfl rfl rfl ?_
  refine RL.asg rfl rfl rfl ?_
  refine RL.finG ?_
  refine GL.seq ?_
  refine GL.region ?_
  refine RL.bS (t := TR.int) (vs := [.int .i64 (0 : Int), .int .i64 (2 : Int), .int .i64 (2 : Int)]) ([(0 : Int), (2 : Int), (2 : Int)] : (List Int)) Try.underlying28 Try_lo3 rfl rfl rfl rfl ⟨VR.int, ⟨VR.int, ⟨VR.int, trivial⟩⟩⟩ rfl (by decide) ?_
  intro v22
  refine RL.bS (t := TR.int) (vs := [.int .i64 (1 : Int), .int .i64 (0 : Int), .int .i64 (2 : Int)]) ([(1 : Int), (0 : Int), (2 : Int)] : (List Int)) Try.underlying28 Try_lo3 rfl rfl rfl rfl ⟨VR.int, ⟨VR.int, ⟨VR.int, trivial⟩⟩⟩ rfl (by decide) ?_
  intro v23
  refine RL.reL (L' := [imm (TR.sl TR.int) v8 ([(0 : Int), (2 : Int), (1 : Int)] : (List Int)), imm (TR.sl TR.int) v9 ([(1 : Int), (0 : Int), (2 : Int)] : (List Int)), imm (TR.sl TR.int) v10 ([(2 : Int), (1 : Int), (0 : Int)] : (List Int)), imm (TR.sl (TR.sl TR.int)) v11 ([([(0 : Int), (2 : Int), (1 : Int)] : (List Int)), ([(1 : Int), (0 : Int), (2 : Int)] : (List Int)), ([(2 : Int), (1 : Int), (0 : Int)] : (List Int))] : (List (List Int))), own 3 TR.int v14 y12.1, own 3 TR.int v22 ([(0 : Int), (2 : Int), (2 : Int)] : (List Int)), own 3 TR.int v23 ([(1 : Int), (0 : Int), (2 : Int)] : (List Int))]) rfl ?_
  refine RL.bS (t := TR.int) (vs := [.int .i64 (1 : Int), .int .i64 (1 : Int), .int .i64 (0 : Int)]) ([(1 : Int), (1 : Int), (0 : Int)] : (List Int)) Try.underlying28 Try_lo3 rfl rfl rfl rfl ⟨VR.int, ⟨VR.int, ⟨VR.int, trivial⟩⟩⟩ rfl (by decide) ?_
  intro v24
  refine RL.weak (fun a w st => st.freeze 5 rfl) ?_
  refine RL.weak (fun a w st => st.freeze 6 rfl) ?_
  refine RL.weak (fun a w st => st.freeze 7 rfl) ?_
  refine RL.bS (t := (TR.sl TR.int)) (vs := [v22, v23, v24]) ([([(0 : Int), (2 : Int), (2 : Int)] : (List Int)), ([(1 : Int), (0 : Int), (2 : Int)] : (List Int)), ([(1 : Int), (1 : Int), (0 : Int)] : (List Int))] : (List (List Int))) Try.underlying22 Try_lo28 rfl rfl rfl rfl ⟨(VR.item 5 rfl), ⟨(VR.item 6 rfl), ⟨(VR.item 7 rfl), trivial⟩⟩⟩ rfl (by decide) ?_
  intro v25
  refine RL.reL (L' := [imm (TR.sl TR.int) v8 ([(0 : Int), (2 : Int), (1 : Int)] : (List Int)), imm (TR.sl TR.int) v9 ([(1 : Int), (0 : Int), (2 : Int)] : (List Int)), imm (TR.sl TR.int) v10 ([(2 : Int), (1 : Int), (0 : Int)] : (List Int)), imm (TR.sl (TR.sl TR.int)) v11 ([([(0 : Int), (2 : Int), (1 : Int)] : (List Int)), ([(1 : Int), (0 : Int), (2 : Int)] : (List Int)), ([(2 : Int), (1 : Int), (0 : Int)] : (List Int))] : (List (List Int))), own 3 TR.int v14 y12.1, imm (TR.sl TR.int) v22 ([(0 : Int), (2 : Int), (2 : Int)] : (List Int)), imm (TR.sl TR.int) v23 ([(1 : Int), (0 : Int), (2 : Int)] : (List Int)), imm (TR.sl TR.int) v24 ([(1 : Int), (1 : Int), (0 : Int)] : (List Int)), own 28 (TR.sl TR.int) v25 ([([(0 : Int), (2 : Int), (2 : Int)] : (List Int)), ([(1 : Int), (0 : Int), (2 : Int)] : (List Int)), ([(1 : Int), (1 : Int), (0 : Int)] : (List Int))] : (List (List Int)))]) rfl ?_
  refine RL.weak (fun a w st => st.freeze 8 rfl) ?_
  obtain ⟨y26, e27, hm⟩ := bind_some hm
  refine RL.call (vs := [v25]) Try_fit33 rfl rfl rfl rfl rfl (fun S f w hS hW hi => duel_Wins_c S w hS _ _ (hi 8 _ rfl) _ e27) ?_
  intro v28
  refine RL.reL (L' := [imm (TR.sl TR.int) v8 ([(0 : Int), (2 : Int), (1 : Int)] : (List Int)), imm (TR.sl TR.int) v9 ([(1 : Int), (0 : Int), (2 : Int)] : (List Int)), imm (TR.sl TR.int) v10 ([(2 : Int), (1 : Int), (0 : Int)] : (List Int)), imm (TR.sl (TR.sl TR.int)) v11 ([([(0 : Int), (2 : Int), (1 : Int)] : (List Int)), ([(1 : Int), (0 : Int), (2 : Int)] : (List Int)), ([(2 : Int), (1 : Int), (0 : Int)] : (List Int))] : (List (List Int))), own 3 TR.int v14 y12.1, imm (TR.sl TR.int) v22 ([(0 : Int), (2 : Int), (2 : Int)] : (List Int)), imm (TR.sl TR.int) v23 ([(1 : Int), (0 : Int), (2 : Int)] : (List Int)), imm (TR.sl TR.int) v24 ([(1 : Int), (1 : Int), (0 : Int)] : (List Int)), imm (TR.sl (TR.sl TR.int)) v25 ([([(0 : Int), (2 : Int), (2 : Int)] : (List Int)), ([(1 : Int), (0 : Int), (2 : Int)] : (List Int)), ([(1 : Int), (1 : Int), (0 : Int)] : (List Int))] : (List (List Int))), own 3 TR.int v28 y26.1]) rfl ?_
  refine RL.mv rfl rfl rfl ?_
  refine RL.ext rfl rfl rfl rfl ?_
  refine RL.ext rfl rfl rfl rfl ?_
  refine RL.asg rfl rfl rfl ?_
  refine RL.asg rfl rfl rfl ?_
  refine RL.finG ?_
  refine GL.seq ?_
  obtain ⟨y52, K53, h54, h55, h56, h57, h58⟩ := bindR_K hm
  refine GL.join (ι := Bool) (fun (p : Bool) => [(0, .bool p)]) (fun (p : Bool) => []) (fun (p : Bool) => K53 (.nx p)) ?_ ?_
  · skip
    refine GL.region ?_
    refine RL.mv rfl rfl rfl ?_
    refine RL.mv rfl rfl rfl ?_
    refine RL.bS (t := TR.int) (vs := [.int .i64 y12.2, .int .i64 y26.2]) ([y12.2, y26.2] : (List Int)) Try.underlying55 Try_lo24 rfl rfl rfl rfl ⟨VR.int, ⟨VR.int, trivial⟩⟩ rfl (by decide) ?_
    intro v59
    obtain ⟨y60, e61, h54⟩ := bind_some h54
    refine RL.callV (v := .bool y60) (vs := [v59]) Try_fit25 rfl (Or.inl rfl) rfl rfl rfl rfl (fun U w hU hW hL => pk_good_c U w hU _ _ (hL 10 _ _ rfl Seen.own) _ e61) ?_
    refine RL.mv rfl rfl rfl ?_
    refine RL.split (t := 25) rfl (fun b62 => ?_) (fun b62 => ?_)
    · replace h54 := ite_t b62 h54
      refine RL.mv rfl rfl rfl ?_
      refine RL.bS (t := TR.int) (vs := [.int .i64 (0 : Int), .int .i64 (1 : Int), .int .i64 (2 : Int)]) ([(0 : Int), (1 : Int), (2 : Int)] : (List Int)) Try.underlying28 Try_lo3 rfl rfl rfl rfl ⟨VR.int, ⟨VR.int, ⟨VR.int, trivial⟩⟩⟩ rfl (by decide) ?_
      intro v63
      refine RL.reL (L' := [imm (TR.sl TR.int) v8 ([(0 : Int), (2 : Int), (1 : Int)] : (List Int)), imm (TR.sl TR.int) v9 ([(1 : Int), (0 : Int), (2 : Int)] : (List Int)), imm (TR.sl TR.int) v10 ([(2 : Int), (1 : Int), (0 : Int)] : (List Int)), imm (TR.sl (TR.sl TR.int)) v11 ([([(0 : Int), (2 : Int), (1 : Int)] : (List Int)), ([(1 : Int), (0 : Int), (2 : Int)] : (List Int)), ([(2 : Int), (1 : Int), (0 : Int)] : (List Int))] : (List (List Int))), own 3 TR.int v14 y12.1, imm (TR.sl TR.int) v22 ([(0 : Int), (2 : Int), (2 : Int)] : (List Int)), imm (TR.sl TR.int) v23 ([(1 : Int), (0 : Int), (2 : Int)] : (List Int)), imm (TR.sl TR.int) v24 ([(1 : Int), (1 : Int), (0 : Int)] : (List Int)), imm (TR.sl (TR.sl TR.int)) v25 ([([(0 : Int), (2 : Int), (2 : Int)] : (List Int)), ([(1 : Int), (0 : Int), (2 : Int)] : (List Int)), ([(1 : Int), (1 : Int), (0 : Int)] : (List Int))] : (List (List Int))), own 3 TR.int v28 y26.1, own 24 TR.int v59 ([y12.2, y26.2] : (List Int)), own 3 TR.int v63 ([(0 : Int), (1 : Int), (2 : Int)] : (List Int))]) rfl ?_
      obtain ⟨y64, e65, h54⟩ := bind_some h54
      refine RL.callV (v := .bool y64) (vs := [v14, v63]) Try_fit19 rfl (Or.inl rfl) rfl rfl rfl rfl (fun U w hU hW hL => slices_Equal_int_int_c U w hU _ _ (hL 4 _ _ rfl Seen.own) _ _ (hL 11 _ _ rfl Seen.own) _ e65) ?_
      refine RL.pickT rfl rfl rfl rfl ?_
      refine RL.mv rfl rfl rfl ?_
      refine RL.split (t := 30) rfl (fun b66 => ?_) (fun b66 => ?_)
      · replace h54 := ite_t b66 h54
        refine RL.mv rfl rfl rfl ?_
        refine RL.bS (t := TR.int) (vs := [.int .i64 (2 : Int), .int .i64 (0 : Int), .int .i64 (-2 : Int)]) ([(2 : Int), (0 : Int), (-2 : Int)] : (List Int)) Try.underlying28 Try_lo3 rfl rfl rfl rfl ⟨VR.int, ⟨VR.int, ⟨VR.int, trivial⟩⟩⟩ rfl (by decide) ?_
        intro v67
        obtain ⟨y68, e69, h54⟩ := bind_some h54
        refine RL.callV (v := .bool y68) (vs := [v28, v67]) Try_fit19 rfl (Or.inl rfl) rfl rfl rfl rfl (fun U w hU hW hL => slices_Equal_int_int_c U w hU _ _ (hL 9 _ _ rfl Seen.own) _ _ (hL 12 _ _ rfl Seen.own) _ e69) ?_
        refine RL.pickT rfl rfl rfl rfl ?_
        refine RL.asg rfl rfl rfl ?_
        refine RL.fin ?_
        cases h54
        exact fun a w st => mid_intro y68 h55 (St.cut [] ⟨rfl, trivial⟩ (by decide) rfl st)
      · replace h54 := ite_f b66 h54
        refine RL.skip rfl rfl ?_
        refine RL.skip rfl rfl ?_
        refine RL.skip rfl rfl ?_
        refine RL.pickF rfl rfl rfl rfl ?_
        refine RL.asg rfl rfl rfl ?_
        refine RL.fin ?_
        cases h54
        exact fun a w st => mid_intro false h55 (St.cut [] ⟨rfl, trivial⟩ (by decide) rfl st)
    · replace h54 := ite_f b62 h54
      refine RL.skip rfl rfl ?_
      refine RL.skip rfl rfl ?_
      refine RL.skip rfl rfl ?_
      refine RL.pickF rfl rfl rfl rfl ?_
      refine RL.mv rfl rfl rfl ?_
      refine RL.skip rfl rfl ?_
      refine RL.skip rfl rfl ?_
      refine RL.skip rfl rfl ?_
      refine RL.pickF rfl rfl rfl rfl ?_
      refine RL.asg rfl rfl rfl ?_
      refine RL.fin ?_
      cases h54
      exact fun a w st => mid_intro false h55 (St.cut [] ⟨rfl, trivial⟩ (by decide) rfl st)
  · rintro x51 h70
    have h71 := h56 _ h70
    try dsimp only at h71
    refine GL.weak (env' := [(0, .bool x51)]) (L' := []) (fun _ _ st => st) ?_
    have h71 := Option.some.inj h71
    subst h71
    exact GL.ret (Gx.ret (v := .bool x51) (res1 rfl rfl) (fun a w st => st.toPostV))

set_option maxHeartbeats 4000000 in
theorem widest_Winners_c (S : Hp) (w : World) (hS : S.sub w) (v0 : Value) (x0 : (List (List Int))) (k0 : ((TR.sl (TR.sl TR.int))).vrep S v0 x0) (res : (List Int) × Int) (hm : widest_Winners_m x0 = some res) : Calls Try.prog 17 #[v0] w (Post w S (fun (o : Value) => .tuple #[o, .int .i64 res.2]) (fun (o : Value) => [own 3 TR.int o res.1])) := by
  refine calls_enter 54 Try.func17 Try.ntmps17 rfl S false [(0, v0)] [imm (TR.sl (TR.sl TR.int)) v0 x0] rfl ⟨rfl, trivial⟩ hS ⟨k0, trivial⟩ ?_
  unfold widest_Winners_m at hm
  refine GL.seq ?_
  refine GL.region ?_
  refine RL.asg rfl rfl rfl ?_
  refine RL.asg rfl rfl rfl ?_
  refine RL.finG ?_
  refine GL.seq ?_
  refine GL.region ?_
  refine RL.mv rfl rfl rfl ?_
  obtain ⟨y5, e6, hm⟩ := bind_some hm
  refine RL.call (vs := [v0]) Try_fit15 rfl rfl rfl rfl rfl (fun S f w hS hW hi => widest_Paths_c S w hS _ _ (hi 0 _ rfl) _ e6) ?_
  intro v7
  refine RL.mv rfl rfl rfl ?_
  refine RL.ext rfl rfl rfl rfl ?_
  refine RL.ext rfl rfl rfl rfl ?_
  refine RL.asg rfl rfl rfl ?_
  refine RL.asg rfl rfl rfl ?_
  refine RL.finG ?_
  refine GL.seq ?_
  refine GL.seq ?_
  refine GL.region ?_
  refine RL.mv rfl rfl rfl ?_
  refine RL.binI (v := .bool (y5.2 != (0 : Int))) rfl rfl rfl rfl rfl ?_
  refine RL.finG ?_
  refine GL.cond rfl (fun b8 => ?_) (fun b8 => ?_)
  · replace hm := ite_t b8 hm
    refine GL.seq ?_
    refine GL.region ?_
    refine RL.mv rfl rfl rfl ?_
    refine RL.asg rfl rfl rfl ?_
    refine RL.asg rfl rfl rfl ?_
    refine RL.finG ?_
    refine GL.weak (fun a w st => st.nilOwn 3 TR.int) ?_
    have hm := Option.some.inj hm
    subst hm
    exact GL.ret (Gx.ret (v := .tuple #[Value.slice none 0 0, .int .i64 y5.2]) (res2 rfl rfl rfl) (fun a w st => (st.pick [2] (by decide) rfl).toPost (Value.slice none 0 0)))
  · replace hm := ite_f b8 hm
    refine GL.skip ?_
    refine GL.seq ?_
    refine GL.region ?_
    refine RL.asg rfl rfl rfl ?_
    refine RL.finG ?_
    refine GL.seq ?_
    refine GL.seq ?_
    refine GL.region ?_
    refine RL.mv rfl rfl rfl ?_
    refine RL.lenS 1 Try.underlying22 rfl rfl rfl rfl SlOf.imm ?_
    refine RL.mv rfl rfl rfl ?_
    refine RL.finG ?_
    refine GL.weak (fun a w st => st.nilOwn 3 TR.int) ?_
    refine GL.open_ 1 rfl (fun S h => len_imm S h) (fun n125 => ?_)
    obtain ⟨y126, K127, h128, h129, h130, h131, h132⟩ := bindR_K hm
    refine GL.join (ι := (List Int) × Value) (fun (p : (List Int) × Value) => [(6, p.2)]) (fun (p : (List Int) × Value) => [own 3 TR.int p.2 p.1]) (fun (p : (List Int) × Value) => K127 (.nx p.1)) ?_ ?_
    · refine GL.block ?_
      refine GL.loop (ι := Nat × (List (List Int)) × (List Int) × Value) (fun (p : Nat × (List (List Int)) × (List Int) × Value) => [(4, v7), (6, p.2.2.2), (19, .int .i64 ((y5.1).length : Int)), (20, .int .i64 (p.1 : Int))]) (fun (p : Nat × (List (List Int)) × (List Int) × Value) => [imm (TR.sl (TR.sl TR.int)) v7 y5.1, own 3 TR.int p.2.2.2 p.2.2.1]) (fun (p : Nat × (List (List Int)) × (List Int) × Value) => p.1 + p.2.1.length = (y5.1).length ∧ List.drop p.1 y5.1 = p.2.1 ∧ rangeL (widest_Winners_b1 y5) p.2.1 p.1 p.2.2.1 = some y126) (fun (p : Nat × (List (List Int)) × (List Int) × Value) => p.2.1.length) (0, y5.1, [], Value.slice none 0 0) ⟨by simp, by simp, h128⟩ (fun a w st => St.cut [1, 2] ⟨rfl, rfl, rfl, rfl, trivial⟩ (by decide) rfl st) ?_
      rintro ⟨i133, r134, l9, v10⟩ ⟨h139, h140, h138⟩
      try dsimp only at h139 h140 h138
      refine GL.weak (env' := [(4, v7), (6, v10), (19, .int .i64 ((y5.1).length : Int)), (20, .int .i64 (i133 : Int))]) (L' := [imm (TR.sl (TR.sl TR.int)) v7 y5.1, own 3 TR.int v10 l9]) (fun _ _ st => st) ?_
      refine GL.seq ?_
      refine GL.region ?_
      refine RL.binI (v := .bool (decide ((i133 : Int) < ((y5.1).length : Int)))) rfl rfl rfl rfl rfl ?_
      refine RL.finG ?_
      refine GL.seq ?_
      refine GL.cond rfl (fun b141 => ?_) (fun b141 => ?_)
      · have h142 : i133 < (y5.1).length := by have := of_decide_eq_true b141; omega
        obtain ⟨y143, r145, hr, e144, h146⟩ := drop_cons h140 rfl h142
        subst hr
        obtain ⟨z135, h136, h137⟩ := rangeL_some h138
        unfold widest_Winners_b1 at h136
        try dsimp only at h136
        refine GL.skip ?_
        refine GL.seq ?_
        refine GL.block ?_
        refine GL.seq ?_
        refine GL.region ?_
        refine RL.mv rfl rfl rfl ?_
        refine RL.asg rfl rfl rfl ?_
        refine RL.finG ?_
        refine GL.seq ?_
        refine GL.region ?_
        refine RL.asg rfl rfl rfl ?_
        refine RL.finG ?_
        refine GL.seq ?_
        refine GL.seq ?_
        refine GL.region ?_
        refine RL.mv rfl rfl rfl ?_
        refine RL.lenS 0 Try.underlying22 rfl rfl rfl rfl SlOf.imm ?_
        refine RL.mv rfl rfl rfl ?_
        refine RL.finG ?_
        refine GL.open_ 0 rfl (fun S h => len_imm S h) (fun n185 => ?_)
        obtain ⟨y186, K187, h188, h189, h190, h191, h192⟩ := bindF_K h136
        refine GL.join (ι := Bool) (fun (p : Bool) => [(4, v7), (6, v10), (7, .int .i64 (i133 : Int)), (8, .bool p), (19, .int .i64 ((y5.1).length : Int)), (20, .int .i64 (i133 : Int))]) (fun (p : Bool) => [imm (TR.sl (TR.sl TR.int)) v7 y5.1, own 3 TR.int v10 l9]) (fun (p : Bool) => K187 (.nx p)) ?_ ?_
        · refine GL.block ?_
          refine GL.loop (ι := Nat × (List (List Int)) × Bool) (fun (p : Nat × (List (List Int)) × Bool) => [(4, v7), (6, v10), (7, .int .i64 (i133 : Int)), (8, .bool p.2.2), (19, .int .i64 ((y5.1).length : Int)), (20, .int .i64 (i133 : Int)), (24, .int .i64 ((y5.1).length : Int)), (25, .int .i64 (p.1 : Int))]) (fun (p : Nat × (List (List Int)) × Bool) => [imm (TR.sl (TR.sl TR.int)) v7 y5.1, own 3 TR.int v10 l9]) (fun (p : Nat × (List (List Int)) × Bool) => p.1 + p.2.1.length = (y5.1).length ∧ List.drop p.1 y5.1 = p.2.1 ∧ rangeL (widest_Winners_b2 y143 i133) p.2.1 p.1 p.2.2 = some y186) (fun (p : Nat × (List (List Int)) × Bool) => p.2.1.length) (0, y5.1, true) ⟨by simp, by simp, h188⟩ (fun a w st => St.cut [0, 1] ⟨rfl, rfl, rfl, rfl, rfl, rfl, rfl, rfl, trivial⟩ (by decide) rfl st) ?_
          rintro ⟨i193, r194, x147⟩ ⟨h199, h200, h198⟩
          try dsimp only at h199 h200 h198
          refine GL.weak (env' := [(4, v7), (6, v10), (7, .int .i64 (i133 : Int)), (8, .bool x147), (19, .int .i64 ((y5.1).length : Int)), (20, .int .i64 (i133 : Int)), (24, .int .i64 ((y5.1).length : Int)), (25, .int .i64 (i193 : Int))]) (L' := [imm (TR.sl (TR.sl TR.int)) v7 y5.1, own 3 TR.int v10 l9]) (fun _ _ st => st) ?_
          refine GL.seq ?_
          refine GL.region ?_
          refine RL.binI (v := .bool (decide ((i193 : Int) < ((y5.1).length : Int)))) rfl rfl rfl rfl rfl ?_
          refine RL.finG ?_
          refine GL.seq ?_
          refine GL.cond rfl (fun b201 => ?_) (fun b201 => ?_)
          · have h202 : i193 < (y5.1).length := by have := of_decide_eq_true b201; omega
            obtain ⟨y203, r205, hr, e204, h206⟩ := drop_cons h200 rfl h202
            subst hr
            obtain ⟨z195, h196, h197⟩ := rangeL_some h198
            unfold widest_Winners_b2 at h196
            try dsimp only at h196
            refine GL.skip ?_
            refine GL.seq ?_
            refine GL.block ?_
            refine GL.seq ?_
            refine GL.region ?_
            refine RL.mv rfl rfl rfl ?_
            refine RL.asg rfl rfl rfl ?_
            refine RL.finG ?_
            obtain ⟨y222, K223, h224, h225, h226, h227, h228⟩ := bindF_K h196
            refine GL.join (ι := Bool) (fun (p : Bool) => [(4, v7), (6, v10), (7, .int .i64 (i133 : Int)), (8, .bool p), (19, .int .i64 ((y5.1).length : Int)), (20, .int .i64 (i133 : Int)), (24, .int .i64 ((y5.1).length : Int)), (25, .int .i64 (i193 : Int))]) (fun (p : Bool) => [imm (TR.sl (TR.sl TR.int)) v7 y5.1, own 3 TR.int v10 l9]) (fun (p : Bool) => K223 (.nx p)) ?_ ?_
            · skip
              refine GL.regionQ rfl rfl (by kernel_rfl) ?_
              refine RL.mv rfl rfl rfl ?_
              refine RL.mv rfl rfl rfl ?_
              refine RL.split (t := 29) rfl (fun b229 => ?_) (fun b229 => ?_)
              · replace h224 := ite_t b229 h224
                refine RL.mv rfl rfl rfl ?_
                refine RL.mv rfl rfl rfl ?_
                refine RL.idxS (sz := 1) 0 Try.underlying22 Try_ln28 rfl rfl rfl rfl rfl SlOf.imm (by omega) (by omega) ?_
                refine RL.ldS (i := i133) (r := (TR.sl TR.int)) (e' := y143) 0 Try_ln28 rfl rfl rfl rfl SlOf.imm e144 Part.self ?_
                intro v230
                refine RL.mv rfl rfl rfl ?_
                obtain ⟨y231, e232, h224⟩ := bind_some h224
                refine RL.idxS (sz := 1) 2 Try.underlying28 Try_ln3 rfl rfl rfl rfl rfl SlOf.imm (idx_some e232).1 (idx_some e232).2.1 ?_
                refine RL.ldSx (i := i193) (e' := y231) 2 Ex.ik Try_ln3 rfl rfl rfl rfl SlOf.imm (idx_some e232).2.2 Part.self ?_
                refine RL.mv rfl rfl rfl ?_
                refine RL.mv rfl rfl rfl ?_
                refine RL.idxS (sz := 1) 0 Try.underlying22 Try_ln28 rfl rfl rfl rfl rfl SlOf.imm (by omega) (by omega) ?_
                refine RL.ldS (i := i193) (r := (TR.sl TR.int)) (e' := y203) 0 Try_ln28 rfl rfl rfl rfl SlOf.imm e204 Part.self ?_
                intro v233
                refine RL.reL (L' := [imm (TR.sl (TR.sl TR.int)) v7 y5.1, own 3 TR.int v10 l9, imm (TR.sl TR.int) v230 y143, imm (TR.sl TR.int) v233 y203]) rfl ?_
                refine RL.mv rfl rfl rfl ?_
                obtain ⟨y234, e235, h224⟩ := bind_some h224
                refine RL.idxS (sz := 1) 3 Try.underlying28 Try_ln3 rfl rfl rfl rfl rfl SlOf.imm (idx_some e235).1 (idx_some e235).2.1 ?_
                refine RL.ldSx (i := i133) (e' := y234) 3 Ex.ik Try_ln3 rfl rfl rfl rfl SlOf.imm (idx_some e235).2.2 Part.self ?_
                refine RL.binI (v := .bool (decide (y231 ≥ y234))) rfl rfl rfl rfl rfl ?_
                refine RL.pickT rfl rfl rfl rfl ?_
                refine RL.asg rfl rfl rfl ?_
                refine RL.finQ ?_
                cases h224
                exact fun a w st => mid_intro (decide (y231 ≥ y234)) h225 (St.cut [0, 1] ⟨rfl, rfl, rfl, rfl, rfl, rfl, rfl, rfl, trivial⟩ (by decide) rfl st)
              · replace h224 := ite_f b229 h224
                refine RL.skip rfl rfl ?_
                refine RL.skip rfl rfl ?_
                refine RL.skip rfl rfl ?_
                refine RL.skip rfl rfl ?_
                refine RL.skip rfl rfl ?_
                refine RL.skip rfl rfl ?_
                refine RL.skip rfl rfl ?_
                refine RL.skip rfl rfl ?_
                refine RL.skip rfl rfl ?_
                refine RL.skip rfl rfl ?_
                refine RL.skip rfl rfl ?_
                refine RL.skip rfl rfl ?_
                refine RL.skip rfl rfl ?_
                refine RL.skip rfl rfl ?_
                refine RL.skip rfl rfl ?_
                refine RL.pickF rfl rfl rfl rfl ?_
                refine RL.asg rfl rfl rfl ?_
                refine RL.finQ ?_
                cases h224
                exact fun a w st => mid_intro false h225 (St.cut [0, 1] ⟨rfl, rfl, rfl, rfl, rfl, rfl, rfl, rfl, trivial⟩ (by decide) rfl st)
            · rintro x221 h236
              have h237 := h226 _ h236
              try dsimp only at h237
              refine GL.weak (env' := [(4, v7), (6, v10), (7, .int .i64 (i133 : Int)), (8, .bool x221), (19, .int .i64 ((y5.1).length : Int)), (20, .int .i64 (i133 : Int)), (24, .int .i64 ((y5.1).length : Int)), (25, .int .i64 (i193 : Int))]) (L' := [imm (TR.sl (TR.sl TR.int)) v7 y5.1, own 3 TR.int v10 l9]) (fun _ _ st => st) ?_
              refine GL.nilB ?_
              refine GL.region ?_
              refine RL.binI (v := .int .i64 ((i193 + 1 : Nat) : Int)) rfl rfl rfl rfl (binI_succ i193 (by omega)) ?_
              refine RL.mv rfl rfl rfl ?_
              refine RL.fin ?_
              cases h237
              exact fun a w st => lop_intro (i193 + 1, r205, x221) ⟨by show i193 + 1 + r205.length = (y5.1).length; simp only [List.length_cons] at h199; omega, h206, h197⟩ (by simp) (St.cut [0, 1] ⟨rfl, rfl, rfl, rfl, rfl, rfl, rfl, rfl, trivial⟩ (by decide) rfl st)
          · have h202 : ¬ i193 < (y5.1).length := by have := of_decide_eq_false b201; omega
            obtain rfl : r194 = [] := by rw [← h200]; exact List.drop_of_length_le (by omega)
            replace h198 : some (Fl.nx _) = some y186 := h198
            cases h198
            exact GL.exit (fun a w st => mid_intro x147 h189 (St.cut [0, 1] ⟨rfl, rfl, rfl, rfl, rfl, rfl, trivial⟩ (by decide) rfl st))
        · rintro x147 h238
          have h239 := h190 _ h238
          try dsimp only at h239
          refine GL.weak (env' := [(4, v7), (6, v10), (7, .int .i64 (i133 : Int)), (8, .bool x147), (19, .int .i64 ((y5.1).length : Int)), (20, .int .i64 (i133 : Int))]) (L' := [imm (TR.sl (TR.sl TR.int)) v7 y5.1, own 3 TR.int v10 l9]) (fun _ _ st => st) ?_
          refine GL.seq ?_
          refine GL.region ?_
          refine RL.mv rfl rfl rfl ?_
          refine RL.finG ?_
          refine GL.cond rfl (fun b240 => ?_) (fun b240 => ?_)
          · replace h239 := ite_t b240 h239
            refine GL.region ?_
            refine RL.mv rfl rfl rfl ?_
            refine RL.mv rfl rfl rfl ?_
            refine RL.bS (t := TR.int) (vs := [.int .i64 (i133 : Int)]) ([(i133 : Int)] : (List Int)) Try.underlying28 Try_lo3 rfl rfl rfl rfl ⟨VR.int, trivial⟩ rfl (by decide) ?_
            intro v245
            obtain ⟨y246, e247, h239⟩ := bind_some h239
            replace e247 := chk_some e247
            refine RL.app 1 2 Try.underlying28 Try_lo3 rfl rfl rfl rfl rfl rfl rfl SlOf.own e247 ?_
            intro v248
            refine RL.reL (L' := [imm (TR.sl (TR.sl TR.int)) v7 y5.1, own 3 TR.int v248 (l9 ++ ([(i133 : Int)] : (List Int))), own 3 TR.int v245 ([(i133 : Int)] : (List Int))]) rfl ?_
            refine RL.asg rfl rfl rfl ?_
            refine RL.finG ?_
            refine GL.nilB ?_
            refine GL.region ?_
            refine RL.binI (v := .int .i64 ((i133 + 1 : Nat) : Int)) rfl rfl rfl rfl (binI_succ i133 (by omega)) ?_
            refine RL.mv rfl rfl rfl ?_
            refine RL.fin ?_
            cases h239
            exact fun a w st => lop_intro (i133 + 1, r145, (l9 ++ ([(i133 : Int)] : (List Int))), v248) ⟨by show i133 + 1 + r145.length = (y5.1).length; simp only [List.length_cons] at h139; omega, h146, h137⟩ (by simp) (St.cut [0, 1] ⟨rfl, rfl, rfl, rfl, trivial⟩ (by decide) rfl st)
          · replace h239 := ite_f b240 h239
            refine GL.skip ?_
            refine GL.nilB ?_
            refine GL.region ?_
            refine RL.binI (v := .int .i64 ((i133 + 1 : Nat) : Int)) rfl rfl rfl rfl (binI_succ i133 (by omega)) ?_
            refine RL.mv rfl rfl rfl ?_
            refine RL.fin ?_
            cases h239
            exact fun a w st => lop_intro (i133 + 1, r145, l9, v10) ⟨by show i133 + 1 + r145.length = (y5.1).length; simp only [List.length_cons] at h139; omega, h146, h137⟩ (by simp) (St.cut [0, 1] ⟨rfl, rfl, rfl, rfl, trivial⟩ (by decide) rfl st)
      · have h142 : ¬ i133 < (y5.1).length := by have := of_decide_eq_false b141; omega
        obtain rfl : r134 = [] := by rw [← h140]; exact List.drop_of_length_le (by omega)
        replace h138 : some (Fl.nx _) = some y126 := h138
        cases h138
        exact GL.exit (fun a w st => mid_intro (l9, v10) h129 (St.cut [1] ⟨rfl, trivial⟩ (by decide) rfl st))
    · rintro ⟨l9, v10⟩ h249
      have h250 := h130 _ h249
      try dsimp only at h250
      refine GL.weak (env' := [(6, v10)]) (L' := [own 3 TR.int v10 l9]) (fun _ _ st => st) ?_
      refine GL.seq ?_
      refine GL.region ?_
      refine RL.mv rfl rfl rfl ?_
      refine RL.asg rfl rfl rfl ?_
      refine RL.asg rfl rfl rfl ?_
      refine RL.finG ?_
      have h250 := Option.some.inj h250
      subst h250
      exact GL.ret (Gx.ret (v := .tuple #[v10, .int .i64 (0 : Int)]) (res2 rfl rfl rfl) (fun a w st => (st.pick [0] (by decide) rfl).toPost v10))

set_option maxHeartbeats 4000000 in
theorem slices_Index_int_int_c (S : Hp) (w : World) (hS : S.sub w) (v0 : Value) (x0 : (List Int)) (k0 : ((TR.sl TR.int)).vrep S v0 x0) (x1 : Int) (res : Int) (hm : slices_Index_int_int_m x0 x1 = some res) : Calls Try.prog 48 #[v0, .int .i64 x1] w (PostC w (.int .i64 res)) := by
  refine calls_enter 19 Try.func48 Try.ntmps48 rfl S true [(0, v0), (1, .int .i64 x1)] [imm (TR.sl TR.int) v0 x0] rfl ⟨rfl, ⟨rfl, trivial⟩⟩ hS ⟨k0, trivial⟩ ?_
  unfold slices_Index_int_int_m at hm
  refine GL.seq ?_
  refine GL.region ?_
  refine RL.asg rfl rfl rfl ?_
  refine RL.finG ?_
  refine GL.seq ?_
  refine GL.seq ?_
  refine GL.region ?_
  refine RL.mv rfl rfl rfl ?_
  refine RL.lenS 0 Try.underlying28 rfl rfl rfl rfl SlOf.imm ?_
  refine RL.mv rfl rfl rfl ?_
  refine RL.finG ?_
  refine GL.open_ 0 rfl (fun S h => len_imm S h) (fun n8 => ?_)
  obtain ⟨y9, K10, h11, h12, h13, h14, h15⟩ := bindR_K hm
  refine GL.join (ι := Unit) (fun (p : Unit) => []) (fun (p : Unit) => []) (fun (p : Unit) => K10 (.nx ())) ?_ ?_
  · refine GL.block ?_
    refine GL.loop (ι := Nat × (List Int)) (fun (p : Nat × (List Int)) => [(0, v0), (1, .int .i64 x1), (7, .int .i64 ((x0).length : Int)), (8, .int .i64 (p.1 : Int))]) (fun (p : Nat × (List Int)) => [imm (TR.sl TR.int) v0 x0]) (fun (p : Nat × (List Int)) => p.1 + p.2.length = (x0).length ∧ List.drop p.1 x0 = p.2 ∧ rangeL (slices_Index_int_int_b1 x1) p.2 p.1 () = some y9) (fun (p : Nat × (List Int)) => p.2.length) (0, x0) ⟨by simp, by simp, h11⟩ (fun a w st => St.cut [0] ⟨rfl, rfl, rfl, rfl, trivial⟩ (by decide) rfl st) ?_
    rintro ⟨i16, r17⟩ ⟨h22, h23, h21⟩
    try dsimp only at h22 h23 h21
    refine GL.weak (env' := [(0, v0), (1, .int .i64 x1), (7, .int .i64 ((x0).length : Int)), (8, .int .i64 (i16 : Int))]) (L' := [imm (TR.sl TR.int) v0 x0]) (fun _ _ st => st) ?_
    refine GL.seq ?_
    refine GL.region ?_
    refine RL.binI (v := .bool (decide ((i16 : Int) < ((x0).length : Int)))) rfl rfl rfl rfl rfl ?_
    refine RL.finG ?_
    refine GL.seq ?_
    refine GL.cond rfl (fun b24 => ?_) (fun b24 => ?_)
    · have h25 : i16 < (x0).length := by have := of_decide_eq_true b24; omega
      obtain ⟨y26, r28, hr, e27, h29⟩ := drop_cons h23 rfl h25
      subst hr
      obtain ⟨z18, h19, h20⟩ := rangeL_some h21
      unfold slices_Index_int_int_b1 at h19
      try dsimp only at h19
      refine GL.skip ?_
      refine GL.seq ?_
      refine GL.block ?_
      refine GL.seq ?_
      refine GL.region ?_
      refine RL.mv rfl rfl rfl ?_
      refine RL.asg rfl rfl rfl ?_
      refine RL.finG ?_
      refine GL.seq ?_
      refine GL.region ?_
      refine RL.mv rfl rfl rfl ?_
      refine RL.mv rfl rfl rfl ?_
      refine RL.mv rfl rfl rfl ?_
      refine RL.idxS (sz := 1) 0 Try.underlying28 Try_ln3 rfl rfl rfl rfl rfl SlOf.imm (by omega) (by omega) ?_
      refine RL.ldSx (i := i16) (e' := y26) 0 Ex.ik Try_ln3 rfl rfl rfl rfl SlOf.imm e27 Part.self ?_
      refine RL.binI (v := .bool (x1 == y26)) rfl rfl rfl rfl rfl ?_
      refine RL.finG ?_
      refine GL.cond rfl (fun b30 => ?_) (fun b30 => ?_)
      · replace h19 := ite_t b30 h19
        refine GL.seq ?_
        refine GL.region ?_
        refine RL.mv rfl rfl rfl ?_
        refine RL.asg rfl rfl rfl ?_
        refine RL.finG ?_
        cases h19
        replace h20 : some (Fl.rt _) = some y9 := h20
        cases h20
        have hh := h14 _ h12
        subst hh
        exact GL.ret (Gx.ret (v := .int .i64 (i16 : Int)) (res1 rfl rfl) (fun a w st => st.toPostC rfl))
      · replace h19 := ite_f b30 h19
        refine GL.skip ?_
        refine GL.nilB ?_
        refine GL.region ?_
        refine RL.binI (v := .int .i64 ((i16 + 1 : Nat) : Int)) rfl rfl rfl rfl (binI_succ i16 (by omega)) ?_
        refine RL.mv rfl rfl rfl ?_
        refine RL.fin ?_
        cases h19
        exact fun a w st => lop_intro (i16 + 1, r28) ⟨by show i16 + 1 + r28.length = (x0).length; simp only [List.length_cons] at h22; omega, h29, h20⟩ (by simp) (St.cut [0] ⟨rfl, rfl, rfl, rfl, trivial⟩ (by decide) rfl st)
    · have h25 : ¬ i16 < (x0).length := by have := of_decide_eq_false b24; omega
      obtain rfl : r17 = [] := by rw [← h23]; exact List.drop_of_length_le (by omega)
      replace h21 : some (Fl.nx _) = some y9 := h21
      cases h21
      exact GL.exit (fun a w st => mid_intro () h12 (St.cut [] trivial (by decide) rfl st))
  · rintro ⟨⟩ h31
    have h32 := h13 _ h31
    try dsimp only at h32
    refine GL.weak (env' := []) (L' := []) (fun _ _ st => st) ?_
    refine GL.seq ?_
    refine GL.region ?_
    refine RL.asg rfl rfl rfl ?_
    refine RL.finG ?_
    have h32 := Option.some.inj h32
    subst h32
    exact GL.ret (Gx.ret (v := .int .i64 (-1 : Int)) (res1 rfl rfl) (fun a w st => st.toPostC rfl))

set_option maxHeartbeats 4000000 in
theorem slices_Contains_int_int_c (S : Hp) (w : World) (hS : S.sub w) (v0 : Value) (x0 : (List Int)) (k0 : ((TR.sl TR.int)).vrep S v0 x0) (x1 : Int) (res : Bool) (hm : slices_Contains_int_int_m x0 x1 = some res) : Calls Try.prog 28 #[v0, .int .i64 x1] w (PostC w (.bool res)) := by
  refine calls_enter 9 Try.func28 Try.ntmps28 rfl S true [(0, v0), (1, .int .i64 x1)] [imm (TR.sl TR.int) v0 x0] rfl ⟨rfl, ⟨rfl, trivial⟩⟩ hS ⟨k0, trivial⟩ ?_
  unfold slices_Contains_int_int_m at hm
  refine GL.seq ?_
  refine GL.region ?_
  refine RL.asg rfl rfl rfl ?_
  refine RL.finG ?_
  refine GL.seq ?_
  refine GL.region ?_
  refine RL.mv rfl rfl rfl ?_
  refine RL.mv rfl rfl rfl ?_
  obtain ⟨y5, e6, hm⟩ := bind_some hm
  refine RL.callC (v := .int .i64 y5) (vs := [v0, .int .i64 x1]) Try_fit48 rfl rfl rfl rfl (fun U w hU hW hL => slices_Index_int_int_c U w hU _ _ (hL 0 _ _ rfl Seen.imm) x1 _ e6) ?_
  refine RL.binI (v := .bool (decide (y5 ≥ (0 : Int)))) rfl rfl rfl rfl rfl ?_
  refine RL.asg rfl rfl rfl ?_
  refine RL.finG ?_
  have hm := Option.some.inj hm
  subst hm
  exact GL.ret (Gx.ret (v := .bool (decide (y5 ≥ (0 : Int)))) (res1 rfl rfl) (fun a w st => st.toPostC rfl))

set_option maxHeartbeats 4000000 in
theorem pk_WidestTop_c (S : Hp) (w : World) (hS : S.sub w) (v0 : Value) (x0 : (List (List Int))) (k0 : ((TR.sl (TR.sl TR.int))).vrep S v0 x0) (res : Bool) (hm : pk_WidestTop_m x0 = some res) : Calls Try.prog 13 #[v0] w (PostV w (.bool res)) := by
  refine calls_enter 53 Try.func13 Try.ntmps13 rfl S false [(0, v0)] [imm (TR.sl (TR.sl TR.int)) v0 x0] rfl ⟨rfl, trivial⟩ hS ⟨k0, trivial⟩ ?_
  unfold pk_WidestTop_m at hm
  refine GL.seq ?_
  refine GL.region ?_
  refine RL.asg rfl rfl rfl ?_
  refine RL.finG ?_
  refine GL.seq ?_
  refine GL.seq ?_
  obtain ⟨y13, K14, h15, h16, h17, h18, h19⟩ := bindR_K hm
  refine GL.join (ι := Bool) (fun (p : Bool) => [(0, v0), (14, .bool p)]) (fun (p : Bool) => [imm (TR.sl (TR.sl TR.int)) v0 x0]) (fun (p : Bool) => K14 (.nx p)) ?_ ?_
  · skip
    refine GL.region ?_
    obtain ⟨y20, e21, h15⟩ := bind_some h15
    refine RL.callV (v := .bool y20) (vs := []) Try_fit14 rfl (Or.inl rfl) rfl rfl rfl rfl (fun U w hU hW hL => pk_wides_c U w hU  _ e21) ?_
    refine RL.notB rfl rfl rfl ?_
    refine RL.mv rfl rfl rfl ?_
    refine RL.split (t := 11) rfl (fun b22 => ?_) (fun b22 => ?_)
    · replace h15 := ite_t b22 h15
      refine RL.skip rfl rfl ?_
      refine RL.skip rfl rfl ?_
      refine RL.pickT rfl rfl rfl rfl ?_
      refine RL.fin ?_
      cases h15
      exact fun a w st => mid_intro true h16 (St.cut [0] ⟨rfl, rfl, trivial⟩ (by decide) rfl st)
    · replace h15 := ite_f b22 h15
      obtain ⟨y23, e24, h15⟩ := bind_some h15
      refine RL.callV (v := .bool y23) (vs := []) Try_fit26 rfl (Or.inl rfl) rfl rfl rfl rfl (fun U w hU hW hL => pk_duels_c U w hU  _ e24) ?_
      refine RL.notB rfl rfl rfl ?_
      refine RL.pickF rfl rfl rfl rfl ?_
      refine RL.fin ?_
      cases h15
      exact fun a w st => mid_intro (!y23) h16 (St.cut [0] ⟨rfl, rfl, trivial⟩ (by decide) rfl st)
  · rintro x12 h25
    have h26 := h17 _ h25
    try dsimp only at h26
    refine GL.weak (env' := [(0, v0), (14, .bool x12)]) (L' := [imm (TR.sl (TR.sl TR.int)) v0 x0]) (fun _ _ st => st) ?_
    refine GL.cond rfl (fun b27 => ?_) (fun b27 => ?_)
    · replace h26 := ite_t b27 h26
      refine GL.seq ?_
      refine GL.region ?_
      refine RL.asg rfl rfl rfl ?_
      refine RL.finG ?_
      have h26 := Option.some.inj h26
      subst h26
      exact GL.ret (Gx.ret (v := .bool false) (res1 rfl rfl) (fun a w st => st.toPostV))
    · replace h26 := ite_f b27 h26
      refine GL.skip ?_
      refine GL.seq ?_
      refine GL.region ?_
      refine RL.mv rfl rfl rfl ?_
      obtain ⟨y31, e32, h26⟩ := bind_some h26
      refine RL.call (vs := [v0]) Try_fit17 rfl rfl rfl rfl rfl (fun S f w hS hW hi => widest_Winners_c S w hS _ _ (hi 0 _ rfl) _ e32) ?_
      intro v33
      refine RL.mv rfl rfl rfl ?_
      refine RL.ext rfl rfl rfl rfl ?_
      refine RL.ext rfl rfl rfl rfl ?_
      refine RL.asg rfl rfl rfl ?_
      refine RL.asg rfl rfl rfl ?_
      refine RL.finG ?_
      refine GL.seq ?_
      refine GL.region ?_
      refine RL.mv rfl rfl rfl ?_
      obtain ⟨y37, e38, h26⟩ := bind_some h26
      refine RL.call (vs := [v0]) Try_fit27 rfl rfl rfl rfl rfl (fun S f w hS hW hi => duel_Top_c S w hS _ _ (hi 0 _ rfl) _ e38) ?_
      intro v39
      refine RL.reL (L' := [imm (TR.sl (TR.sl TR.int)) v0 x0, own 3 TR.int v33 y31.1, own 3 TR.int v39 y37.1]) rfl ?_
      refine RL.mv rfl rfl rfl ?_
      refine RL.ext rfl rfl rfl rfl ?_
      refine RL.ext rfl rfl rfl rfl ?_
      refine RL.asg rfl rfl rfl ?_
      refine RL.asg rfl rfl rfl ?_
      refine RL.finG ?_
      refine GL.seq ?_
      refine GL.seq ?_
      obtain ⟨y43, K44, h45, h46, h47, h48, h49⟩ := bindR_K h26
      refine GL.join (ι := Bool) (fun (p : Bool) => [(3, v33), (4, .int .i64 y31.2), (5, v39), (6, .int .i64 y37.2), (30, .bool p)]) (fun (p : Bool) => [own 3 TR.int v33 y31.1, own 3 TR.int v39 y37.1]) (fun (p : Bool) => K44 (.nx p)) ?_ ?_
      · skip
        refine GL.region ?_
        refine RL.mv rfl rfl rfl ?_
        refine RL.binI (v := .bool (y31.2 != (0 : Int))) rfl rfl rfl rfl rfl ?_
        refine RL.mv rfl rfl rfl ?_
        refine RL.split (t := 27) rfl (fun b50 => ?_) (fun b50 => ?_)
        · replace h45 := ite_t b50 h45
          refine RL.skip rfl rfl ?_
          refine RL.skip rfl rfl ?_
          refine RL.pickT rfl rfl rfl rfl ?_
          refine RL.fin ?_
          cases h45
          exact fun a w st => mid_intro true h46 (St.cut [1, 2] ⟨rfl, rfl, rfl, rfl, rfl, trivial⟩ (by decide) rfl st)
        · replace h45 := ite_f b50 h45
          refine RL.mv rfl rfl rfl ?_
          refine RL.binI (v := .bool (y37.2 != (0 : Int))) rfl rfl rfl rfl rfl ?_
          refine RL.pickF rfl rfl rfl rfl ?_
          refine RL.fin ?_
          cases h45
          exact fun a w st => mid_intro (y37.2 != (0 : Int)) h46 (St.cut [1, 2] ⟨rfl, rfl, rfl, rfl, rfl, trivial⟩ (by decide) rfl st)
      · rintro x42 h51
        have h52 := h47 _ h51
        try dsimp only at h52
        refine GL.weak (env' := [(3, v33), (4, .int .i64 y31.2), (5, v39), (6, .int .i64 y37.2), (30, .bool x42)]) (L' := [own 3 TR.int v33 y31.1, own 3 TR.int v39 y37.1]) (fun _ _ st => st) ?_
        refine GL.cond rfl (fun b53 => ?_) (fun b53 => ?_)
        · replace h52 := ite_t b53 h52
          refine GL.seq ?_
          refine GL.region ?_
          refine RL.mv rfl rfl rfl ?_
          refine RL.mv rfl rfl rfl ?_
          refine RL.binI (v := .bool (y31.2 == y37.2)) rfl rfl rfl rfl rfl ?_
          refine RL.asg rfl rfl rfl ?_
          refine RL.finG ?_
          have h52 := Option.some.inj h52
          subst h52
          exact GL.ret (Gx.ret (v := .bool (y31.2 == y37.2)) (res1 rfl rfl) (fun a w st => st.toPostV))
        · replace h52 := ite_f b53 h52
          refine GL.skip ?_
          refine GL.seq ?_
          refine GL.seq ?_
          refine GL.region ?_
          refine RL.mv rfl rfl rfl ?_
          refine RL.lenS 0 Try.underlying28 rfl rfl rfl rfl SlOf.own ?_
          refine RL.mv rfl rfl rfl ?_
          refine RL.finG ?_
          refine GL.lenOwn 0 rfl (fun n63 => ?_)
          obtain ⟨y64, K65, h66, h67, h68, h69, h70⟩ := bindR_K h52
          refine GL.join (ι := Unit) (fun (p : Unit) => [(3, v33), (5, v39)]) (fun (p : Unit) => [own 3 TR.int v33 y31.1, own 3 TR.int v39 y37.1]) (fun (p : Unit) => K65 (.nx ())) ?_ ?_
          · refine GL.block ?_
            refine GL.loop (ι := Nat × Nat) (fun (p : Nat × Nat) => [(3, v33), (5, v39), (34, v33), (35, .int .i64 ((y31.1).length : Int)), (36, .int .i64 (p.1 : Int))]) (fun (p : Nat × Nat) => [own 3 TR.int v33 y31.1, own 3 TR.int v39 y37.1]) (fun (p : Nat × Nat) => p.1 + p.2 = (y31.1).length ∧ rangeN (pk_WidestTop_b1 y31 y37) p.2 p.1 () = some y64) (fun (p : Nat × Nat) => p.2) (0, (y31.1).length) ⟨by simp, h66⟩ (fun a w st => St.cut [0, 1] ⟨rfl, rfl, rfl, rfl, rfl, trivial⟩ (by decide) rfl st) ?_
            rintro ⟨i71, r72⟩ ⟨h77, h76⟩
            try dsimp only at h77 h76
            refine GL.weak (env' := [(3, v33), (5, v39), (34, v33), (35, .int .i64 ((y31.1).length : Int)), (36, .int .i64 (i71 : Int))]) (L' := [own 3 TR.int v33 y31.1, own 3 TR.int v39 y37.1]) (fun _ _ st => st) ?_
            refine GL.seq ?_
            refine GL.region ?_
            refine RL.binI (v := .bool (decide ((i71 : Int) < ((y31.1).length : Int)))) rfl rfl rfl rfl rfl ?_
            refine RL.finG ?_
            refine GL.seq ?_
            refine GL.cond rfl (fun b79 => ?_) (fun b79 => ?_)
            · have h80 : i71 < (y31.1).length := by have := of_decide_eq_true b79; omega
              obtain ⟨r81, hr⟩ : ∃ m, r72 = m + 1 := ⟨r72 - 1, by omega⟩
              subst hr
              obtain ⟨z73, h74, h75⟩ := rangeN_some h76
              unfold pk_WidestTop_b1 at h74
              try dsimp only at h74
              refine GL.skip ?_
              refine GL.seq ?_
              refine GL.block ?_
              refine GL.seq ?_
              refine GL.region ?_
              obtain ⟨y84, e85, h74⟩ := bind_some h74
              refine RL.idxS (sz := 1) 0 Try.underlying28 Try_ln3 rfl rfl rfl rfl rfl SlOf.own (idx_some e85).1 (idx_some e85).2.1 ?_
              refine RL.ldSx (i := i71) (e' := y84) 0 Ex.ik Try_ln3 rfl rfl rfl rfl SlOf.own (idx_some e85).2.2 Part.self ?_
              refine RL.asg rfl rfl rfl ?_
              refine RL.finG ?_
              refine GL.seq ?_
              refine GL.region ?_
              refine RL.mv rfl rfl rfl ?_
              refine RL.mv rfl rfl rfl ?_
              obtain ⟨y88, e89, h74⟩ := bind_some h74
              refine RL.callC (v := .bool y88) (vs := [v39, .int .i64 y84]) Try_fit28 rfl rfl rfl rfl (fun U w hU hW hL => slices_Contains_int_int_c U w hU _ _ (hL 1 _ _ rfl Seen.own) y84 _ e89) ?_
              refine RL.notB rfl rfl rfl ?_
              refine RL.finG ?_
              refine GL.cond rfl (fun b90 => ?_) (fun b90 => ?_)
              · replace h74 := ite_t b90 h74
                refine GL.seq ?_
                refine GL.region ?_
                refine RL.asg rfl rfl rfl ?_
                refine RL.finG ?_
                cases h74
                replace h75 : some (Fl.rt _) = some y64 := h75
                cases h75
                have hh := h69 _ h67
                subst hh
                exact GL.ret (Gx.ret (v := .bool false) (res1 rfl rfl) (fun a w st => st.toPostV))
              · replace h74 := ite_f b90 h74
                refine GL.skip ?_
                refine GL.nilB ?_
                refine GL.region ?_
                refine RL.binI (v := .int .i64 ((i71 + 1 : Nat) : Int)) rfl rfl rfl rfl (binI_succ i71 (by omega)) ?_
                refine RL.mv rfl rfl rfl ?_
                refine RL.fin ?_
                cases h74
                exact fun a w st => lop_intro (i71 + 1, r81) ⟨by show i71 + 1 + r81 = (y31.1).length; omega, h75⟩ (by simp) (St.cut [0, 1] ⟨rfl, rfl, rfl, rfl, rfl, trivial⟩ (by decide) rfl st)
            · have h80 : ¬ i71 < (y31.1).length := by have := of_decide_eq_false b79; omega
              obtain rfl : r72 = 0 := by omega
              replace h76 : some (Fl.nx _) = some y64 := h76
              cases h76
              exact GL.exit (fun a w st => mid_intro () h67 (St.cut [0, 1] ⟨rfl, rfl, trivial⟩ (by decide) rfl st))
          · rintro ⟨⟩ h91
            have h92 := h68 _ h91
            try dsimp only at h92
            refine GL.weak (env' := [(3, v33), (5, v39)]) (L' := [own 3 TR.int v33 y31.1, own 3 TR.int v39 y37.1]) (fun _ _ st => st) ?_
            refine GL.seq ?_
            obtain ⟨y100, K101, h102, h103, h104, h105, h106⟩ := bindR_K h92
            refine GL.join (ι := Bool) (fun (p : Bool) => [(2, .bool p)]) (fun (p : Bool) => []) (fun (p : Bool) => K101 (.nx p)) ?_ ?_
            · skip
              refine GL.region ?_
              refine RL.mv rfl rfl rfl ?_
              refine RL.lenS 1 Try.underlying28 rfl rfl rfl rfl SlOf.own ?_
              refine RL.binI (v := .bool (((y37.1).length : Int) != (1 : Int))) rfl rfl rfl rfl rfl ?_
              refine RL.mv rfl rfl rfl ?_
              refine RL.split (t := 48) rfl (fun b107 => ?_) (fun b107 => ?_)
              · replace h102 := ite_t b107 h102
                refine RL.skip rfl rfl ?_
                refine RL.skip rfl rfl ?_
                refine RL.skip rfl rfl ?_
                refine RL.pickT rfl rfl rfl rfl ?_
                refine RL.asg rfl rfl rfl ?_
                refine RL.fin ?_
                cases h102
                exact fun a w st => mid_intro true h103 (St.cut [] ⟨rfl, trivial⟩ (by decide) rfl st)
              · replace h102 := ite_f b107 h102
                refine RL.mv rfl rfl rfl ?_
                refine RL.mv rfl rfl rfl ?_
                obtain ⟨y108, e109, h102⟩ := bind_some h102
                refine RL.callV (v := .bool y108) (vs := [v33, v39]) Try_fit19 rfl (Or.inl rfl) rfl rfl rfl rfl (fun U w hU hW hL => slices_Equal_int_int_c U w hU _ _ (hL 0 _ _ rfl Seen.own) _ _ (hL 1 _ _ rfl Seen.own) _ e109) ?_
                refine RL.pickF rfl rfl rfl rfl ?_
                refine RL.asg rfl rfl rfl ?_
                refine RL.fin ?_
                cases h102
                exact fun a w st => mid_intro y108 h103 (St.cut [] ⟨rfl, trivial⟩ (by decide) rfl st)
            · rintro x99 h110
              have h111 := h104 _ h110
              try dsimp only at h111
              refine GL.weak (env' := [(2, .bool x99)]) (L' := []) (fun _ _ st => st) ?_
              have h111 := Option.some.inj h111
              subst h111
              exact GL.ret (Gx.ret (v := .bool x99) (res1 rfl rfl) (fun a w st => st.toPostV))
end Go.Wk
