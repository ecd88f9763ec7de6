/- Each function comes to what its model says; printed by a program of this repository. -/
import Derived.Test.YtofonliapfdbmaaProg
import Derived.Test.YtofonliapfdbmaaWWidestOrderModels
namespace Go.Wk
open Go.Fw Go.Mo Go.Proofs Go.RowKit
set_option linter.unusedVariables false
set_option maxRecDepth 100000
theorem Try_info3 : (Try.prog.info? 3).map (fun i => (i.zero, i.size, i.bytes)) = some (some (.int .i64 0), 1, 8) := by kernel_rfl
theorem Try_ln3 : Ln Try.prog 3 1 false := Ln.of Try_info3 Try.underlying3 rfl
theorem Try_lo3 : LnO Try.prog 3 1 [.int .i64 0] := LnO.of Try_info3 rfl rfl (by decide) (by decide)
theorem Try_info28 : (Try.prog.info? 28).map (fun i => (i.zero, i.size, i.bytes)) = some (some (.slice none 0 0), 1, 24) := by kernel_rfl
theorem Try_ln28 : Ln Try.prog 28 1 false := Ln.of Try_info28 Try.underlying28 rfl
theorem Try_lo28 : LnO Try.prog 28 1 [.slice none 0 0] := LnO.of Try_info28 rfl rfl (by decide) (by decide)
theorem Try_fit14 : Fit Try.prog 14 := Fit.of Try.func14 (by kernel_rfl) rfl
theorem Try_fit15 : Fit Try.prog 15 := Fit.of Try.func15 (by kernel_rfl) rfl
theorem Try_fit16 : Fit Try.prog 16 := Fit.of Try.func16 (by kernel_rfl) rfl
theorem Try_fit17 : Fit Try.prog 17 := Fit.of Try.func17 (by kernel_rfl) rfl
theorem Try_fit19 : Fit Try.prog 19 := Fit.of Try.func19 (by kernel_rfl) rfl
theorem Try_fit22 : Fit Try.prog 22 := Fit.of Try.func22 (by kernel_rfl) rfl
theorem Try_fit41 : Fit Try.prog 41 := Fit.of Try.func41 (by kernel_rfl) rfl
theorem Try_fit42 : Fit Try.prog 42 := Fit.of Try.func42 (by kernel_rfl) rfl
theorem Try_fit44 : Fit Try.prog 44 := Fit.of Try.func44 (by kernel_rfl) rfl

set_option maxHeartbeats 4000000 in
theorem duel_Check_c (S : Hp) (w : World) (hS : S.sub w) (v0 : Value) (x0 : (List (List Int))) (k0 : ((TR.sl (TR.sl TR.int))).vrep S v0 x0) (res : Int) (hm : duel_Check_m x0 = some res) : Calls Try.prog 41 #[v0] w (PostC w (.int .i64 res)) := by
  refine calls_enter 55 Try.func41 Try.ntmps41 rfl S true [(0, v0)] [imm (TR.sl (TR.sl TR.int)) v0 x0] rfl ⟨rfl, trivial⟩ hS ⟨k0, trivial⟩ ?_
  unfold duel_Check_m at hm
  refine GL.seq ?_
  refine GL.region ?_
  refine RL.asg rfl rfl rfl ?_
  refine RL.finG ?_
  refine GL.seq ?_
  refine GL.seq ?_
  obtain ⟨y5, K6, h7, h8, h9, h10, h11⟩ := bindR_K hm
  refine GL.join (ι := Bool) (fun (p : Bool) => [(0, v0), (15, .bool p)]) (fun (p : Bool) => [imm (TR.sl (TR.sl TR.int)) v0 x0]) (fun (p : Bool) => K6 (.nx p)) ?_ ?_
  · skip
    refine GL.region ?_
    refine RL.mv rfl rfl rfl ?_
    refine RL.lenS 0 Try.underlying22 rfl rfl rfl rfl SlOf.imm ?_
    refine RL.binI (v := .bool (decide (((x0).length : Int) < (1 : Int)))) rfl rfl rfl rfl rfl ?_
    refine RL.mv rfl rfl rfl ?_
    refine RL.split (t := 11) rfl (fun b12 => ?_) (fun b12 => ?_)
    · replace h7 := ite_t b12 h7
      refine RL.skip rfl rfl ?_
      refine RL.skip rfl rfl ?_
      refine RL.skip rfl rfl ?_
      refine RL.pickT rfl rfl rfl rfl ?_
      refine RL.fin ?_
      cases h7
      exact fun a w st => mid_intro true h8 (St.cut [0] ⟨rfl, rfl, trivial⟩ (by decide) rfl st)
    · replace h7 := ite_f b12 h7
      refine RL.mv rfl rfl rfl ?_
      refine RL.lenS 0 Try.underlying22 rfl rfl rfl rfl SlOf.imm ?_
      refine RL.binI (v := .bool (decide (((x0).length : Int) > (6 : Int)))) rfl rfl rfl rfl rfl ?_
      refine RL.pickF rfl rfl rfl rfl ?_
      refine RL.fin ?_
      cases h7
      exact fun a w st => mid_intro (decide (((x0).length : Int) > (6 : Int))) h8 (St.cut [0] ⟨rfl, rfl, trivial⟩ (by decide) rfl st)
  · rintro x4 h13
    have h14 := h9 _ h13
    try dsimp only at h14
    refine GL.weak (env' := [(0, v0), (15, .bool x4)]) (L' := [imm (TR.sl (TR.sl TR.int)) v0 x0]) (fun _ _ st => st) ?_
    refine GL.cond rfl (fun b15 => ?_) (fun b15 => ?_)
    · replace h14 := ite_t b15 h14
      refine GL.seq ?_
      refine GL.region ?_
      refine RL.asg rfl rfl rfl ?_
      refine RL.finG ?_
      have h14 := Option.some.inj h14
      subst h14
      exact GL.ret (Gx.ret (v := .int .i64 (2 : Int)) (res1 rfl rfl) (fun a w st => st.toPostC rfl))
    · replace h14 := ite_f b15 h14
      refine GL.skip ?_
      refine GL.seq ?_
      refine GL.seq ?_
      refine GL.region ?_
      refine RL.mv rfl rfl rfl ?_
      refine RL.lenS 0 Try.underlying22 rfl rfl rfl rfl SlOf.imm ?_
      refine RL.mv rfl rfl rfl ?_
      refine RL.finG ?_
      refine GL.open_ 0 rfl (fun S h => len_imm S h) (fun n79 => ?_)
      obtain ⟨y80, K81, h82, h83, h84, h85, h86⟩ := bindR_K h14
      refine GL.join (ι := Unit) (fun (p : Unit) => [(0, v0)]) (fun (p : Unit) => [imm (TR.sl (TR.sl TR.int)) v0 x0]) (fun (p : Unit) => K81 (.nx ())) ?_ ?_
      · refine GL.block ?_
        refine GL.loop (ι := Nat × (List (List Int))) (fun (p : Nat × (List (List Int))) => [(0, v0), (16, v0), (17, .int .i64 ((x0).length : Int)), (18, .int .i64 (p.1 : Int))]) (fun (p : Nat × (List (List Int))) => [imm (TR.sl (TR.sl TR.int)) v0 x0]) (fun (p : Nat × (List (List Int))) => p.1 + p.2.length = (x0).length ∧ List.drop p.1 x0 = p.2 ∧ rangeL (duel_Check_b1 x0) p.2 p.1 () = some y80) (fun (p : Nat × (List (List Int))) => p.2.length) (0, x0) ⟨by simp, by simp, h82⟩ (fun a w st => St.cut [0] ⟨rfl, rfl, rfl, rfl, trivial⟩ (by decide) rfl st) ?_
        rintro ⟨i87, r88⟩ ⟨h93, h94, h92⟩
        try dsimp only at h93 h94 h92
        refine GL.weak (env' := [(0, v0), (16, v0), (17, .int .i64 ((x0).length : Int)), (18, .int .i64 (i87 : Int))]) (L' := [imm (TR.sl (TR.sl TR.int)) v0 x0]) (fun _ _ st => st) ?_
        refine GL.seq ?_
        refine GL.region ?_
        refine RL.binI (v := .bool (decide ((i87 : Int) < ((x0).length : Int)))) rfl rfl rfl rfl rfl ?_
        refine RL.finG ?_
        refine GL.seq ?_
        refine GL.cond rfl (fun b95 => ?_) (fun b95 => ?_)
        · have h96 : i87 < (x0).length := by have := of_decide_eq_true b95; omega
          obtain ⟨y97, r99, hr, e98, h100⟩ := drop_cons h94 rfl h96
          subst hr
          obtain ⟨z89, h90, h91⟩ := rangeL_some h92
          unfold duel_Check_b1 at h90
          try dsimp only at h90
          refine GL.skip ?_
          refine GL.seq ?_
          refine GL.block ?_
          refine GL.seq ?_
          refine GL.region ?_
          refine RL.idxS (sz := 1) 0 Try.underlying22 Try_ln28 rfl rfl rfl rfl rfl SlOf.imm (by omega) (by omega) ?_
          refine RL.ldS (i := i87) (r := (TR.sl TR.int)) (e' := y97) 0 Try_ln28 rfl rfl rfl rfl SlOf.imm e98 Part.self ?_
          intro v102
          refine RL.asg rfl rfl rfl ?_
          refine RL.finG ?_
          refine GL.seq ?_
          refine GL.seq ?_
          refine GL.region ?_
          refine RL.mv rfl rfl rfl ?_
          refine RL.lenS 1 Try.underlying28 rfl rfl rfl rfl SlOf.imm ?_
          refine RL.mv rfl rfl rfl ?_
          refine RL.lenS 0 Try.underlying22 rfl rfl rfl rfl SlOf.imm ?_
          refine RL.binI (v := .bool (((y97).length : Int) != ((x0).length : Int))) rfl rfl rfl rfl rfl ?_
          refine RL.finG ?_
          refine GL.cond rfl (fun b103 => ?_) (fun b103 => ?_)
          · replace h90 := ite_t b103 h90
            refine GL.seq ?_
            refine GL.region ?_
            refine RL.asg rfl rfl rfl ?_
            refine RL.finG ?_
            cases h90
            replace h91 : some (Fl.rt _) = some y80 := h91
            cases h91
            have hh := h85 _ h83
            subst hh
            exact GL.ret (Gx.ret (v := .int .i64 (3 : Int)) (res1 rfl rfl) (fun a w st => st.toPostC rfl))
          · replace h90 := ite_f b103 h90
            refine GL.skip ?_
            refine GL.seq ?_
            refine GL.region ?_
            refine RL.mv rfl rfl rfl ?_
            refine RL.lenS 1 Try.underlying28 rfl rfl rfl rfl SlOf.imm ?_
            refine RL.mv rfl rfl rfl ?_
            refine RL.finG ?_
            refine GL.open_ 1 rfl (fun S h => len_imm S h) (fun n122 => ?_)
            obtain ⟨y123, K124, h125, h126, h127, h128, h129⟩ := bindF_K h90
            refine GL.join (ι := Unit) (fun (p : Unit) => [(0, v0), (16, v0), (17, .int .i64 ((x0).length : Int)), (18, .int .i64 (i87 : Int))]) (fun (p : Unit) => [imm (TR.sl (TR.sl TR.int)) v0 x0]) (fun (p : Unit) => K124 (.nx ())) ?_ ?_
            · refine GL.block ?_
              refine GL.loop (ι := Nat × (List Int)) (fun (p : Nat × (List Int)) => [(0, v0), (16, v0), (17, .int .i64 ((x0).length : Int)), (18, .int .i64 (i87 : Int)), (27, v102), (28, .int .i64 ((y97).length : Int)), (29, .int .i64 (p.1 : Int))]) (fun (p : Nat × (List Int)) => [imm (TR.sl (TR.sl TR.int)) v0 x0, imm (TR.sl TR.int) v102 y97]) (fun (p : Nat × (List Int)) => p.1 + p.2.length = (y97).length ∧ List.drop p.1 y97 = p.2 ∧ rangeL duel_Check_b2 p.2 p.1 () = some y123) (fun (p : Nat × (List Int)) => p.2.length) (0, y97) ⟨by simp, by simp, h125⟩ (fun a w st => St.cut [0, 1] ⟨rfl, rfl, rfl, rfl, rfl, rfl, rfl, trivial⟩ (by decide) rfl st) ?_
              rintro ⟨i130, r131⟩ ⟨h136, h137, h135⟩
              try dsimp only at h136 h137 h135
              refine GL.weak (env' := [(0, v0), (16, v0), (17, .int .i64 ((x0).length : Int)), (18, .int .i64 (i87 : Int)), (27, v102), (28, .int .i64 ((y97).length : Int)), (29, .int .i64 (i130 : Int))]) (L' := [imm (TR.sl (TR.sl TR.int)) v0 x0, imm (TR.sl TR.int) v102 y97]) (fun _ _ st => st) ?_
              refine GL.seq ?_
              refine GL.region ?_
              refine RL.binI (v := .bool (decide ((i130 : Int) < ((y97).length : Int)))) rfl rfl rfl rfl rfl ?_
              refine RL.finG ?_
              refine GL.seq ?_
              refine GL.cond rfl (fun b138 => ?_) (fun b138 => ?_)
              · have h139 : i130 < (y97).length := by have := of_decide_eq_true b138; omega
                obtain ⟨y140, r142, hr, e141, h143⟩ := drop_cons h137 rfl h139
                subst hr
                obtain ⟨z132, h133, h134⟩ := rangeL_some h135
                unfold duel_Check_b2 at h133
                try dsimp only at h133
                refine GL.skip ?_
                refine GL.seq ?_
                refine GL.block ?_
                refine GL.seq ?_
                refine GL.region ?_
                refine RL.idxS (sz := 1) 1 Try.underlying28 Try_ln3 rfl rfl rfl rfl rfl SlOf.imm (by omega) (by omega) ?_
                refine RL.ldSx (i := i130) (e' := y140) 1 Ex.ik Try_ln3 rfl rfl rfl rfl SlOf.imm e141 Part.self ?_
                refine RL.asg rfl rfl rfl ?_
                refine RL.finG ?_
                refine GL.seq ?_
                obtain ⟨y147, K148, h149, h150, h151, h152, h153⟩ := bindF_K h133
                refine GL.join (ι := Bool) (fun (p : Bool) => [(0, v0), (16, v0), (17, .int .i64 ((x0).length : Int)), (18, .int .i64 (i87 : Int)), (27, v102), (28, .int .i64 ((y97).length : Int)), (29, .int .i64 (i130 : Int)), (38, .bool p)]) (fun (p : Bool) => [imm (TR.sl (TR.sl TR.int)) v0 x0, imm (TR.sl TR.int) v102 y97]) (fun (p : Bool) => K148 (.nx p)) ?_ ?_
                · skip
                  refine GL.region ?_
                  refine RL.mv rfl rfl rfl ?_
                  refine RL.binI (v := .bool (decide (y140 < (0 : Int)))) rfl rfl rfl rfl rfl ?_
                  refine RL.mv rfl rfl rfl ?_
                  refine RL.split (t := 35) rfl (fun b154 => ?_) (fun b154 => ?_)
                  · replace h149 := ite_t b154 h149
                    refine RL.skip rfl rfl ?_
                    refine RL.skip rfl rfl ?_
                    refine RL.pickT rfl rfl rfl rfl ?_
                    refine RL.fin ?_
                    cases h149
                    exact fun a w st => mid_intro true h150 (St.cut [0, 1] ⟨rfl, rfl, rfl, rfl, rfl, rfl, rfl, rfl, trivial⟩ (by decide) rfl st)
                  · replace h149 := ite_f b154 h149
                    refine RL.mv rfl rfl rfl ?_
                    refine RL.binI (v := .bool (decide (y140 > (30 : Int)))) rfl rfl rfl rfl rfl ?_
                    refine RL.pickF rfl rfl rfl rfl ?_
                    refine RL.fin ?_
                    cases h149
                    exact fun a w st => mid_intro (decide (y140 > (30 : Int))) h150 (St.cut [0, 1] ⟨rfl, rfl, rfl, rfl, rfl, rfl, rfl, rfl, trivial⟩ (by decide) rfl st)
                · rintro x146 h155
                  have h156 := h151 _ h155
                  try dsimp only at h156
                  refine GL.weak (env' := [(0, v0), (16, v0), (17, .int .i64 ((x0).length : Int)), (18, .int .i64 (i87 : Int)), (27, v102), (28, .int .i64 ((y97).length : Int)), (29, .int .i64 (i130 : Int)), (38, .bool x146)]) (L' := [imm (TR.sl (TR.sl TR.int)) v0 x0, imm (TR.sl TR.int) v102 y97]) (fun _ _ st => st) ?_
                  refine GL.cond rfl (fun b157 => ?_) (fun b157 => ?_)
                  · replace h156 := ite_t b157 h156
                    refine GL.seq ?_
                    refine GL.region ?_
                    refine RL.asg rfl rfl rfl ?_
                    refine RL.finG ?_
                    cases h156
                    replace h134 : some (Fl.rt _) = some y123 := h134
                    cases h134
                    have hh := h128 _ h126
                    subst hh
                    replace h91 : some (Fl.rt _) = some y80 := h91
                    cases h91
                    have hh := h85 _ h83
                    subst hh
                    exact GL.ret (Gx.ret (v := .int .i64 (1 : Int)) (res1 rfl rfl) (fun a w st => st.toPostC rfl))
                  · replace h156 := ite_f b157 h156
                    refine GL.skip ?_
                    refine GL.nilB ?_
                    refine GL.region ?_
                    refine RL.binI (v := .int .i64 ((i130 + 1 : Nat) : Int)) rfl rfl rfl rfl (binI_succ i130 (by omega)) ?_
                    refine RL.mv rfl rfl rfl ?_
                    refine RL.fin ?_
                    cases h156
                    exact fun a w st => lop_intro (i130 + 1, r142) ⟨by show i130 + 1 + r142.length = (y97).length; simp only [List.length_cons] at h136; omega, h143, h134⟩ (by simp) (St.cut [0, 1] ⟨rfl, rfl, rfl, rfl, rfl, rfl, rfl, trivial⟩ (by decide) rfl st)
              · have h139 : ¬ i130 < (y97).length := by have := of_decide_eq_false b138; omega
                obtain rfl : r131 = [] := by rw [← h137]; exact List.drop_of_length_le (by omega)
                replace h135 : some (Fl.nx _) = some y123 := h135
                cases h135
                exact GL.exit (fun a w st => mid_intro () h126 (St.cut [0] ⟨rfl, rfl, rfl, rfl, trivial⟩ (by decide) rfl st))
            · rintro ⟨⟩ h158
              have h159 := h127 _ h158
              try dsimp only at h159
              refine GL.weak (env' := [(0, v0), (16, v0), (17, .int .i64 ((x0).length : Int)), (18, .int .i64 (i87 : Int))]) (L' := [imm (TR.sl (TR.sl TR.int)) v0 x0]) (fun _ _ st => st) ?_
              refine GL.nilB ?_
              refine GL.region ?_
              refine RL.binI (v := .int .i64 ((i87 + 1 : Nat) : Int)) rfl rfl rfl rfl (binI_succ i87 (by omega)) ?_
              refine RL.mv rfl rfl rfl ?_
              refine RL.fin ?_
              cases h159
              exact fun a w st => lop_intro (i87 + 1, r99) ⟨by show i87 + 1 + r99.length = (x0).length; simp only [List.length_cons] at h93; omega, h100, h91⟩ (by simp) (St.cut [0] ⟨rfl, rfl, rfl, rfl, trivial⟩ (by decide) rfl st)
        · have h96 : ¬ i87 < (x0).length := by have := of_decide_eq_false b95; omega
          obtain rfl : r88 = [] := by rw [← h94]; exact List.drop_of_length_le (by omega)
          replace h92 : some (Fl.nx _) = some y80 := h92
          cases h92
          exact GL.exit (fun a w st => mid_intro () h83 (St.cut [0] ⟨rfl, trivial⟩ (by decide) rfl st))
      · rintro ⟨⟩ h160
        have h161 := h84 _ h160
        try dsimp only at h161
        refine GL.weak (env' := [(0, v0)]) (L' := [imm (TR.sl (TR.sl TR.int)) v0 x0]) (fun _ _ st => st) ?_
        refine GL.seq ?_
        refine GL.seq ?_
        refine GL.region ?_
        refine RL.mv rfl rfl rfl ?_
        refine RL.lenS 0 Try.underlying22 rfl rfl rfl rfl SlOf.imm ?_
        refine RL.mv rfl rfl rfl ?_
        refine RL.finG ?_
        refine GL.open_ 0 rfl (fun S h => len_imm S h) (fun n173 => ?_)
        obtain ⟨y174, K175, h176, h177, h178, h179, h180⟩ := bindR_K h161
        refine GL.join (ι := Unit) (fun (p : Unit) => []) (fun (p : Unit) => []) (fun (p : Unit) => K175 (.nx ())) ?_ ?_
        · refine GL.block ?_
          refine GL.loop (ι := Nat × (List (List Int))) (fun (p : Nat × (List (List Int))) => [(0, v0), (42, .int .i64 ((x0).length : Int)), (43, .int .i64 (p.1 : Int))]) (fun (p : Nat × (List (List Int))) => [imm (TR.sl (TR.sl TR.int)) v0 x0]) (fun (p : Nat × (List (List Int))) => p.1 + p.2.length = (x0).length ∧ List.drop p.1 x0 = p.2 ∧ rangeL duel_Check_b3 p.2 p.1 () = some y174) (fun (p : Nat × (List (List Int))) => p.2.length) (0, x0) ⟨by simp, by simp, h176⟩ (fun a w st => St.cut [0] ⟨rfl, rfl, rfl, trivial⟩ (by decide) rfl st) ?_
          rintro ⟨i181, r182⟩ ⟨h187, h188, h186⟩
          try dsimp only at h187 h188 h186
          refine GL.weak (env' := [(0, v0), (42, .int .i64 ((x0).length : Int)), (43, .int .i64 (i181 : Int))]) (L' := [imm (TR.sl (TR.sl TR.int)) v0 x0]) (fun _ _ st => st) ?_
          refine GL.seq ?_
          refine GL.region ?_
          refine RL.binI (v := .bool (decide ((i181 : Int) < ((x0).length : Int)))) rfl rfl rfl rfl rfl ?_
          refine RL.finG ?_
          refine GL.seq ?_
          refine GL.cond rfl (fun b189 => ?_) (fun b189 => ?_)
          · have h190 : i181 < (x0).length := by have := of_decide_eq_true b189; omega
            obtain ⟨y191, r193, hr, e192, h194⟩ := drop_cons h188 rfl h190
            subst hr
            obtain ⟨z183, h184, h185⟩ := rangeL_some h186
            unfold duel_Check_b3 at h184
            try dsimp only at h184
            refine GL.skip ?_
            refine GL.seq ?_
            refine GL.block ?_
            refine GL.seq ?_
            refine GL.region ?_
            refine RL.mv rfl rfl rfl ?_
            refine RL.asg rfl rfl rfl ?_
            refine RL.finG ?_
            refine GL.seq ?_
            refine GL.region ?_
            refine RL.mv rfl rfl rfl ?_
            refine RL.mv rfl rfl rfl ?_
            refine RL.idxS (sz := 1) 0 Try.underlying22 Try_ln28 rfl rfl rfl rfl rfl SlOf.imm (by omega) (by omega) ?_
            refine RL.ldS (i := i181) (r := (TR.sl TR.int)) (e' := y191) 0 Try_ln28 rfl rfl rfl rfl SlOf.imm e192 Part.self ?_
            intro v198
            refine RL.mv rfl rfl rfl ?_
            obtain ⟨y199, e200, h184⟩ := bind_some h184
            refine RL.idxS (sz := 1) 1 Try.underlying28 Try_ln3 rfl rfl rfl rfl rfl SlOf.imm (idx_some e200).1 (idx_some e200).2.1 ?_
            refine RL.ldSx (i := i181) (e' := y199) 1 Ex.ik Try_ln3 rfl rfl rfl rfl SlOf.imm (idx_some e200).2.2 Part.self ?_
            refine RL.binI (v := .bool (y199 != (0 : Int))) rfl rfl rfl rfl rfl ?_
            refine RL.finG ?_
            refine GL.cond rfl (fun b201 => ?_) (fun b201 => ?_)
            · replace h184 := ite_t b201 h184
              refine GL.seq ?_
              refine GL.region ?_
              refine RL.asg rfl rfl rfl ?_
              refine RL.finG ?_
              cases h184
              replace h185 : some (Fl.rt _) = some y174 := h185
              cases h185
              have hh := h179 _ h177
              subst hh
              exact GL.ret (Gx.ret (v := .int .i64 (3 : Int)) (res1 rfl rfl) (fun a w st => st.toPostC rfl))
            · replace h184 := ite_f b201 h184
              refine GL.skip ?_
              refine GL.nilB ?_
              refine GL.region ?_
              refine RL.binI (v := .int .i64 ((i181 + 1 : Nat) : Int)) rfl rfl rfl rfl (binI_succ i181 (by omega)) ?_
              refine RL.mv rfl rfl rfl ?_
              refine RL.fin ?_
              cases h184
              exact fun a w st => lop_intro (i181 + 1, r193) ⟨by show i181 + 1 + r193.length = (x0).length; simp only [List.length_cons] at h187; omega, h194, h185⟩ (by simp) (St.cut [0] ⟨rfl, rfl, rfl, trivial⟩ (by decide) rfl st)
          · have h190 : ¬ i181 < (x0).length := by have := of_decide_eq_false b189; omega
            obtain rfl : r182 = [] := by rw [← h188]; exact List.drop_of_length_le (by omega)
            replace h186 : some (Fl.nx _) = some y174 := h186
            cases h186
            exact GL.exit (fun a w st => mid_intro () h177 (St.cut [] trivial (by decide) rfl st))
        · rintro ⟨⟩ h202
          have h203 := h178 _ h202
          try dsimp only at h203
          refine GL.weak (env' := []) (L' := []) (fun _ _ st => st) ?_
          refine GL.seq ?_
          refine GL.region ?_
          refine RL.asg rfl rfl rfl ?_
          refine RL.finG ?_
          have h203 := Option.some.inj h203
          subst h203
          exact GL.ret (Gx.ret (v := .int .i64 (0 : Int)) (res1 rfl rfl) (fun a w st => st.toPostC rfl))

set_option maxHeartbeats 4000000 in
theorem widest_Paths_c (S : Hp) (w : World) (hS : S.sub w) (v0 : Value) (x0 : (List (List Int))) (k0 : ((TR.sl (TR.sl TR.int))).vrep S v0 x0) (res : (List (List Int)) × Int) (hm : widest_Paths_m x0 = some res) : Calls Try.prog 15 #[v0] w (Post w S (fun (o : Value) => .tuple #[o, .int .i64 res.2]) (fun (o : Value) => [imm (TR.sl (TR.sl TR.int)) o res.1])) := by
  refine calls_enter 123 Try.func15 Try.ntmps15 rfl S false [(0, v0)] [imm (TR.sl (TR.sl TR.int)) v0 x0] rfl ⟨rfl, trivial⟩ hS ⟨k0, trivial⟩ ?_
  unfold widest_Paths_m at hm
  refine GL.seq ?_
  refine GL.region ?_
  refine RL.asg rfl rfl rfl ?_
  refine RL.asg rfl rfl rfl ?_
  refine RL.finG ?_
  refine GL.seq ?_
  refine GL.seq ?_
  refine GL.region ?_
  refine RL.mv rfl rfl rfl ?_
  obtain ⟨y4, e5, hm⟩ := bind_some hm
  refine RL.callC (v := .int .i64 y4) (vs := [v0]) Try_fit41 rfl rfl rfl rfl (fun U w hU hW hL => duel_Check_c U w hU _ _ (hL 0 _ _ rfl Seen.imm) _ e5) ?_
  refine RL.asg rfl rfl rfl ?_
  refine RL.finG ?_
  refine GL.seq ?_
  refine GL.region ?_
  refine RL.mv rfl rfl rfl ?_
  refine RL.binI (v := .bool (y4 != (0 : Int))) rfl rfl rfl rfl rfl ?_
  refine RL.finG ?_
  refine GL.cond rfl (fun b6 => ?_) (fun b6 => ?_)
  · replace hm := ite_t b6 hm
    refine GL.seq ?_
    refine GL.region ?_
    refine RL.mv rfl rfl rfl ?_
    refine RL.asg rfl rfl rfl ?_
    refine RL.asg rfl rfl rfl ?_
    refine RL.finG ?_
    refine GL.weak (fun a w st => st.nilImm (TR.sl TR.int)) ?_
    have hm := Option.some.inj hm
    subst hm
    exact GL.ret (Gx.ret (v := .tuple #[Value.slice none 0 0, .int .i64 y4]) (res2 rfl rfl rfl) (fun a w st => (st.pick [1] (by decide) rfl).toPost (Value.slice none 0 0)))
  · replace hm := ite_f b6 hm
    refine GL.skip ?_
    refine GL.seq ?_
    refine GL.region ?_
    refine RL.mv rfl rfl rfl ?_
    refine RL.lenS 0 Try.underlying22 rfl rfl rfl rfl SlOf.imm ?_
    refine RL.asg rfl rfl rfl ?_
    refine RL.finG ?_
    refine GL.seq ?_
    refine GL.region ?_
    refine RL.mv rfl rfl rfl ?_
    obtain ⟨y10, e11, hm⟩ := bind_some hm
    replace e11 := chk_some e11
    refine RL.mkS (t := TR.raw) (z := .slice none 0 0) Try.underlying22 Try_lo28 (fun S => ⟨rfl, rfl⟩) rfl rfl rfl rfl e11.1 e11.2 ?_
    intro v12
    refine RL.weak (fun a w st => st.toRows 3 TR.int 1 rfl) ?_
    refine RL.reL (L' := [imm (TR.sl (TR.sl TR.int)) v0 x0, own2 28 3 TR.int v12 (List.replicate (((x0).length : Int)).toNat (Value.slice none 0 0)) (List.replicate (((x0).length : Int)).toNat ([] : (List Int)))]) rfl ?_
    refine RL.asg rfl rfl rfl ?_
    refine RL.finG ?_
    refine GL.seq ?_
    refine GL.seq ?_
    refine GL.region ?_
    refine RL.mv rfl rfl rfl ?_
    refine RL.lenR 1 Try.underlying22 rfl rfl rfl rfl ?_
    refine RL.mv rfl rfl rfl ?_
    refine RL.finG ?_
    refine GL.lenR 1 rfl (fun n313 => ?_)
    obtain ⟨y314, K315, h316, h317, h318, h319, h320⟩ := bindR_K hm
    refine GL.join (ι := (List (List Int)) × (List Value)) (fun (p : (List (List Int)) × (List Value)) => [(5, .int .i64 ((x0).length : Int)), (6, v12)]) (fun (p : (List (List Int)) × (List Value)) => [own2 28 3 TR.int v12 p.2 p.1]) (fun (p : (List (List Int)) × (List Value)) => K315 (.nx p.1)) ?_ ?_
    · refine GL.block ?_
      refine GL.loop (ι := Nat × Nat × (List (List Int)) × (List Value)) (fun (p : Nat × Nat × (List (List Int)) × (List Value)) => [(0, v0), (5, .int .i64 ((x0).length : Int)), (6, v12), (22, .int .i64 (((List.replicate (((x0).length : Int)).toNat ([] : (List Int)))).length : Int)), (23, .int .i64 (p.1 : Int))]) (fun (p : Nat × Nat × (List (List Int)) × (List Value)) => [imm (TR.sl (TR.sl TR.int)) v0 x0, own2 28 3 TR.int v12 p.2.2.2 p.2.2.1]) (fun (p : Nat × Nat × (List (List Int)) × (List Value)) => p.1 + p.2.1 = ((List.replicate (((x0).length : Int)).toNat ([] : (List Int)))).length ∧ rangeN (widest_Paths_b1 x0) p.2.1 p.1 p.2.2.1 = some y314) (fun (p : Nat × Nat × (List (List Int)) × (List Value)) => p.2.1) (0, ((List.replicate (((x0).length : Int)).toNat ([] : (List Int)))).length, (List.replicate (((x0).length : Int)).toNat ([] : (List Int))), (List.replicate (((x0).length : Int)).toNat (Value.slice none 0 0))) ⟨by simp, h316⟩ (fun a w st => St.cut [0, 1] ⟨rfl, rfl, rfl, rfl, rfl, trivial⟩ (by decide) rfl st) ?_
      rintro ⟨i321, r322, l162, V163⟩ ⟨h327, h326⟩
      try dsimp only at h327 h326
      refine GL.weak (env' := [(0, v0), (5, .int .i64 ((x0).length : Int)), (6, v12), (22, .int .i64 (((List.replicate (((x0).length : Int)).toNat ([] : (List Int)))).length : Int)), (23, .int .i64 (i321 : Int))]) (L' := [imm (TR.sl (TR.sl TR.int)) v0 x0, own2 28 3 TR.int v12 V163 l162]) (fun _ _ st => st) ?_
      refine GL.seq ?_
      refine GL.region ?_
      refine RL.binI (v := .bool (decide ((i321 : Int) < (((List.replicate (((x0).length : Int)).toNat ([] : (List Int)))).length : Int)))) rfl rfl rfl rfl rfl ?_
      refine RL.finG ?_
      refine GL.seq ?_
      refine GL.cond rfl (fun b329 => ?_) (fun b329 => ?_)
      · have h330 : i321 < ((List.replicate (((x0).length : Int)).toNat ([] : (List Int)))).length := by have := of_decide_eq_true b329; omega
        obtain ⟨r331, hr⟩ : ∃ m, r322 = m + 1 := ⟨r322 - 1, by omega⟩
        subst hr
        obtain ⟨z323, h324, h325⟩ := rangeN_some h326
        unfold widest_Paths_b1 at h324
        try dsimp only at h324
        refine GL.skip ?_
        refine GL.seq ?_
        refine GL.block ?_
        refine GL.seq ?_
        refine GL.region ?_
        refine RL.mv rfl rfl rfl ?_
        refine RL.asg rfl rfl rfl ?_
        refine RL.finG ?_
        refine GL.seq ?_
        refine GL.region ?_
        refine RL.mv rfl rfl rfl ?_
        refine RL.mv rfl rfl rfl ?_
        refine RL.mv rfl rfl rfl ?_
        obtain ⟨y337, e338, h324⟩ := bind_some h324
        replace e338 := chk_some e338
        refine RL.mkS (t := TR.int) (z := (0 : Int)) Try.underlying28 Try_lo3 (fun S => rfl) rfl rfl rfl rfl e338.1 e338.2 ?_
        intro v339
        obtain ⟨y340, e341, h324⟩ := bind_some h324
        refine RL.idxR 1 Try.underlying22 Try_ln28 rfl rfl rfl rfl rfl (idx_some e341).1 (idx_some e341).2.1 ?_
        refine RL.stSp (i := i321) (r0 := y340) 1 2 (by decide) Try_ln28 rfl rfl rfl rfl rfl rfl (idx_some e341).2.2 ?_
        refine RL.reL (L' := [imm (TR.sl (TR.sl TR.int)) v0 x0, own2 28 3 TR.int v12 (List.set V163 i321 v339) (List.set l162 i321 (List.replicate (((x0).length : Int)).toNat (0 : Int))), gone]) rfl ?_
        refine RL.finG ?_
        refine GL.seq ?_
        refine GL.region ?_
        refine RL.mv rfl rfl rfl ?_
        refine RL.mv rfl rfl rfl ?_
        refine RL.finG ?_
        refine GL.open_ 0 rfl (fun S h => len_imm S h) (fun n422 => ?_)
        obtain ⟨y423, K424, h425, h426, h427, h428, h429⟩ := bindF_K h324
        refine GL.join (ι := (List (List Int)) × (List Value)) (fun (p : (List (List Int)) × (List Value)) => [(0, v0), (5, .int .i64 ((x0).length : Int)), (6, v12), (22, .int .i64 (((List.replicate (((x0).length : Int)).toNat ([] : (List Int)))).length : Int)), (23, .int .i64 (i321 : Int))]) (fun (p : (List (List Int)) × (List Value)) => [imm (TR.sl (TR.sl TR.int)) v0 x0, own2 28 3 TR.int v12 p.2 p.1]) (fun (p : (List (List Int)) × (List Value)) => K424 (.nx p.1)) ?_ ?_
        · refine GL.block ?_
          refine GL.loop (ι := Nat × (List (List Int)) × (List (List Int)) × (List Value)) (fun (p : Nat × (List (List Int)) × (List (List Int)) × (List Value)) => [(0, v0), (5, .int .i64 ((x0).length : Int)), (6, v12), (7, .int .i64 (i321 : Int)), (22, .int .i64 (((List.replicate (((x0).length : Int)).toNat ([] : (List Int)))).length : Int)), (23, .int .i64 (i321 : Int)), (31, .int .i64 ((x0).length : Int)), (32, .int .i64 (p.1 : Int))]) (fun (p : Nat × (List (List Int)) × (List (List Int)) × (List Value)) => [imm (TR.sl (TR.sl TR.int)) v0 x0, own2 28 3 TR.int v12 p.2.2.2 p.2.2.1]) (fun (p : Nat × (List (List Int)) × (List (List Int)) × (List Value)) => p.1 + p.2.1.length = (x0).length ∧ List.drop p.1 x0 = p.2.1 ∧ rangeL (widest_Paths_b2 x0 i321) p.2.1 p.1 p.2.2.1 = some y423) (fun (p : Nat × (List (List Int)) × (List (List Int)) × (List Value)) => p.2.1.length) (0, x0, (List.set l162 i321 (List.replicate (((x0).length : Int)).toNat (0 : Int))), (List.set V163 i321 v339)) ⟨by simp, by simp, h425⟩ (fun a w st => St.cut [0, 1] ⟨rfl, rfl, rfl, rfl, rfl, rfl, rfl, rfl, trivial⟩ (by decide) rfl st) ?_
          rintro ⟨i430, r431, l381, V382⟩ ⟨h436, h437, h435⟩
          try dsimp only at h436 h437 h435
          refine GL.weak (env' := [(0, v0), (5, .int .i64 ((x0).length : Int)), (6, v12), (7, .int .i64 (i321 : Int)), (22, .int .i64 (((List.replicate (((x0).length : Int)).toNat ([] : (List Int)))).length : Int)), (23, .int .i64 (i321 : Int)), (31, .int .i64 ((x0).length : Int)), (32, .int .i64 (i430 : Int))]) (L' := [imm (TR.sl (TR.sl TR.int)) v0 x0, own2 28 3 TR.int v12 V382 l381]) (fun _ _ st => st) ?_
          refine GL.seq ?_
          refine GL.region ?_
          refine RL.binI (v := .bool (decide ((i430 : Int) < ((x0).length : Int)))) rfl rfl rfl rfl rfl ?_
          refine RL.finG ?_
          refine GL.seq ?_
          refine GL.cond rfl (fun b438 => ?_) (fun b438 => ?_)
          · have h439 : i430 < (x0).length := by have := of_decide_eq_true b438; omega
            obtain ⟨y440, r442, hr, e441, h443⟩ := drop_cons h437 rfl h439
            subst hr
            obtain ⟨z432, h433, h434⟩ := rangeL_some h435
            unfold widest_Paths_b2 at h433
            try dsimp only at h433
            refine GL.skip ?_
            refine GL.seq ?_
            refine GL.block ?_
            refine GL.seq ?_
            refine GL.region ?_
            refine RL.mv rfl rfl rfl ?_
            refine RL.asg rfl rfl rfl ?_
            refine RL.finG ?_
            refine GL.seq ?_
            refine GL.regionQ rfl rfl (by kernel_rfl) ?_
            refine RL.mv rfl rfl rfl ?_
            refine RL.mv rfl rfl rfl ?_
            obtain ⟨y452, e453, h433⟩ := bind_some h433
            refine RL.idxS (sz := 1) 0 Try.underlying22 Try_ln28 rfl rfl rfl rfl rfl SlOf.imm (idx_some e453).1 (idx_some e453).2.1 ?_
            refine RL.ldS (i := i321) (r := (TR.sl TR.int)) (e' := y452) 0 Try_ln28 rfl rfl rfl rfl SlOf.imm (idx_some e453).2.2 Part.self ?_
            intro v454
            refine RL.mv rfl rfl rfl ?_
            obtain ⟨y455, e456, h433⟩ := bind_some h433
            refine RL.idxS (sz := 1) 2 Try.underlying28 Try_ln3 rfl rfl rfl rfl rfl SlOf.imm (idx_some e456).1 (idx_some e456).2.1 ?_
            refine RL.ldSx (i := i430) (e' := y455) 2 Ex.ik Try_ln3 rfl rfl rfl rfl SlOf.imm (idx_some e456).2.2 Part.self ?_
            refine RL.mv rfl rfl rfl ?_
            refine RL.mv rfl rfl rfl ?_
            refine RL.idxS (sz := 1) 0 Try.underlying22 Try_ln28 rfl rfl rfl rfl rfl SlOf.imm (by omega) (by omega) ?_
            refine RL.ldS (i := i430) (r := (TR.sl TR.int)) (e' := y440) 0 Try_ln28 rfl rfl rfl rfl SlOf.imm e441 Part.self ?_
            intro v457
            refine RL.reL (L' := [imm (TR.sl (TR.sl TR.int)) v0 x0, own2 28 3 TR.int v12 V382 l381, imm (TR.sl TR.int) v454 y452, imm (TR.sl TR.int) v457 y440]) rfl ?_
            refine RL.mv rfl rfl rfl ?_
            obtain ⟨y458, e459, h433⟩ := bind_some h433
            refine RL.idxS (sz := 1) 3 Try.underlying28 Try_ln3 rfl rfl rfl rfl rfl SlOf.imm (idx_some e459).1 (idx_some e459).2.1 ?_
            refine RL.ldSx (i := i321) (e' := y458) 3 Ex.ik Try_ln3 rfl rfl rfl rfl SlOf.imm (idx_some e459).2.2 Part.self ?_
            refine RL.binI (v := .bool (decide (y455 > y458))) rfl rfl rfl rfl rfl ?_
            refine RL.finQG ?_
            refine GL.cond rfl (fun b460 => ?_) (fun b460 => ?_)
            · replace h433 := ite_t b460 h433
              refine GL.regionH 13 rfl rfl (by kernel_rfl) ?_
              simp only [List.take_succ_cons, List.take_zero, List.drop_succ_cons, List.drop_zero]
              refine RL.mv rfl rfl rfl ?_
              refine RL.mv rfl rfl rfl ?_
              obtain ⟨y470, e471, h433⟩ := bind_some h433
              refine RL.idxR 1 Try.underlying22 Try_ln28 rfl rfl rfl rfl rfl (idx_some e471).1 (idx_some e471).2.1 ?_
              refine RL.ldR (i := i321) (r := y470) 1 Try_ln28 rfl rfl rfl rfl (idx_some e471).2.2 ?_
              refine RL.mv rfl rfl rfl ?_
              refine RL.mv rfl rfl rfl ?_
              refine RL.mv rfl rfl rfl ?_
              obtain ⟨y472, e473, h433⟩ := bind_some h433
              refine RL.idxS (sz := 1) 0 Try.underlying22 Try_ln28 rfl rfl rfl rfl rfl SlOf.imm (idx_some e473).1 (idx_some e473).2.1 ?_
              refine RL.ldS (i := i321) (r := (TR.sl TR.int)) (e' := y472) 0 Try_ln28 rfl rfl rfl rfl SlOf.imm (idx_some e473).2.2 Part.self ?_
              intro v474
              refine RL.mv rfl rfl rfl ?_
              obtain ⟨y475, e476, h433⟩ := bind_some h433
              refine RL.idxS (sz := 1) 4 Try.underlying28 Try_ln3 rfl rfl rfl rfl rfl SlOf.imm (idx_some e476).1 (idx_some e476).2.1 ?_
              refine RL.ldSx (i := i430) (e' := y475) 4 Ex.ik Try_ln3 rfl rfl rfl rfl SlOf.imm (idx_some e476).2.2 Part.self ?_
              obtain ⟨y477, e478, h433⟩ := bind_some h433
              refine RL.idxS (sz := 1) 1 Try.underlying28 Try_ln3 rfl rfl rfl rfl rfl (SlOf.row (idx_some e471).2.2) (idx_some e478).1 (idx_some e478).2.1 ?_
              refine RL.finH ?_
              refine RL.stR (i := i321) (j := i430) (row := y470) (e' := y475) (e1 := y475) (r := TR.int) 1 Try_ln3 rfl rfl rfl rfl VR.int rfl (idx_some e471).2.2 (idx_some e478).2.2 Upd.self ?_
              refine RL.reL (L' := [imm (TR.sl (TR.sl TR.int)) v0 x0, own2 28 3 TR.int v12 V382 (List.set l381 i321 (List.set y470 i430 y475)), imm (TR.sl TR.int) v454 y452, imm (TR.sl TR.int) v457 y440, imm (TR.sl TR.int) v474 y472]) rfl ?_
              refine RL.finG ?_
              refine GL.nilB ?_
              refine GL.region ?_
              refine RL.binI (v := .int .i64 ((i430 + 1 : Nat) : Int)) rfl rfl rfl rfl (binI_succ i430 (by omega)) ?_
              refine RL.mv rfl rfl rfl ?_
              refine RL.fin ?_
              cases h433
              exact fun a w st => lop_intro (i430 + 1, r442, (List.set l381 i321 (List.set y470 i430 y475)), V382) ⟨by show i430 + 1 + r442.length = (x0).length; simp only [List.length_cons] at h436; omega, h443, h434⟩ (by simp) (St.cut [0, 1] ⟨rfl, rfl, rfl, rfl, rfl, rfl, rfl, rfl, trivial⟩ (by decide) rfl st)
            · replace h433 := ite_f b460 h433
              refine GL.skip ?_
              refine GL.nilB ?_
              refine GL.region ?_
              refine RL.binI (v := .int .i64 ((i430 + 1 : Nat) : Int)) rfl rfl rfl rfl (binI_succ i430 (by omega)) ?_
              refine RL.mv rfl rfl rfl ?_
              refine RL.fin ?_
              cases h433
              exact fun a w st => lop_intro (i430 + 1, r442, l381, V382) ⟨by show i430 + 1 + r442.length = (x0).length; simp only [List.length_cons] at h436; omega, h443, h434⟩ (by simp) (St.cut [0, 1] ⟨rfl, rfl, rfl, rfl, rfl, rfl, rfl, rfl, trivial⟩ (by decide) rfl st)
          · have h439 : ¬ i430 < (x0).length := by have := of_decide_eq_false b438; omega
            obtain rfl : r431 = [] := by rw [← h437]; exact List.drop_of_length_le (by omega)
            replace h435 : some (Fl.nx _) = some y423 := h435
            cases h435
            exact GL.exit (fun a w st => mid_intro (l381, V382) h426 (St.cut [0, 1] ⟨rfl, rfl, rfl, rfl, rfl, trivial⟩ (by decide) rfl st))
        · rintro ⟨l381, V382⟩ h479
          have h480 := h427 _ h479
          try dsimp only at h480
          refine GL.weak (env' := [(0, v0), (5, .int .i64 ((x0).length : Int)), (6, v12), (22, .int .i64 (((List.replicate (((x0).length : Int)).toNat ([] : (List Int)))).length : Int)), (23, .int .i64 (i321 : Int))]) (L' := [imm (TR.sl (TR.sl TR.int)) v0 x0, own2 28 3 TR.int v12 V382 l381]) (fun _ _ st => st) ?_
          refine GL.nilB ?_
          refine GL.region ?_
          refine RL.binI (v := .int .i64 ((i321 + 1 : Nat) : Int)) rfl rfl rfl rfl (binI_succ i321 (by omega)) ?_
          refine RL.mv rfl rfl rfl ?_
          refine RL.fin ?_
          cases h480
          exact fun a w st => lop_intro (i321 + 1, r331, l381, V382) ⟨by show i321 + 1 + r331 = ((List.replicate (((x0).length : Int)).toNat ([] : (List Int)))).length; omega, h325⟩ (by simp) (St.cut [0, 1] ⟨rfl, rfl, rfl, rfl, rfl, trivial⟩ (by decide) rfl st)
      · have h330 : ¬ i321 < ((List.replicate (((x0).length : Int)).toNat ([] : (List Int)))).length := by have := of_decide_eq_false b329; omega
        obtain rfl : r322 = 0 := by omega
        replace h326 : some (Fl.nx _) = some y314 := h326
        cases h326
        exact GL.exit (fun a w st => mid_intro (l162, V163) h317 (St.cut [1] ⟨rfl, rfl, trivial⟩ (by decide) rfl st))
    · rintro ⟨l162, V163⟩ h481
      have h482 := h318 _ h481
      try dsimp only at h482
      refine GL.weak (env' := [(5, .int .i64 ((x0).length : Int)), (6, v12)]) (L' := [own2 28 3 TR.int v12 V163 l162]) (fun _ _ st => st) ?_
      refine GL.seq ?_
      refine GL.seq ?_
      refine GL.region ?_
      refine RL.mv rfl rfl rfl ?_
      refine RL.mv rfl rfl rfl ?_
      refine RL.finG ?_
      obtain ⟨y1568, e1569, h482⟩ := bind_some h482
      replace e1569 := chk_some e1569
      obtain ⟨y1570, K1571, h1572, h1573, h1574, h1575, h1576⟩ := bindR_K h482
      refine GL.join (ι := (List (List Int)) × (List Value)) (fun (p : (List (List Int)) × (List Value)) => [(6, v12)]) (fun (p : (List (List Int)) × (List Value)) => [own2 28 3 TR.int v12 p.2 p.1]) (fun (p : (List (List Int)) × (List Value)) => K1571 (.nx p.1)) ?_ ?_
      · refine GL.block ?_
        refine GL.loop (ι := Nat × Nat × (List (List Int)) × (List Value)) (fun (p : Nat × Nat × (List (List Int)) × (List Value)) => [(5, .int .i64 ((x0).length : Int)), (6, v12), (65, .int .i64 ((x0).length : Int)), (66, .int .i64 (p.1 : Int))]) (fun (p : Nat × Nat × (List (List Int)) × (List Value)) => [own2 28 3 TR.int v12 p.2.2.2 p.2.2.1]) (fun (p : Nat × Nat × (List (List Int)) × (List Value)) => p.1 + p.2.1 = (((x0).length : Int)).toNat ∧ rangeN (widest_Paths_b3 x0) p.2.1 p.1 p.2.2.1 = some y1570) (fun (p : Nat × Nat × (List (List Int)) × (List Value)) => p.2.1) (0, (((x0).length : Int)).toNat, l162, V163) ⟨by simp, h1572⟩ (fun a w st => St.cut [0] ⟨rfl, rfl, rfl, rfl, trivial⟩ (by decide) rfl st) ?_
        rintro ⟨i1577, r1578, l1024, V1025⟩ ⟨h1583, h1582⟩
        try dsimp only at h1583 h1582
        refine GL.weak (env' := [(5, .int .i64 ((x0).length : Int)), (6, v12), (65, .int .i64 ((x0).length : Int)), (66, .int .i64 (i1577 : Int))]) (L' := [own2 28 3 TR.int v12 V1025 l1024]) (fun _ _ st => st) ?_
        refine GL.seq ?_
        refine GL.region ?_
        refine RL.binI (v := .bool (decide ((i1577 : Int) < ((x0).length : Int)))) rfl rfl rfl rfl rfl ?_
        refine RL.finG ?_
        refine GL.seq ?_
        refine GL.cond rfl (fun b1585 => ?_) (fun b1585 => ?_)
        · have h1586 : i1577 < (((x0).length : Int)).toNat := by have := of_decide_eq_true b1585; omega
          obtain ⟨r1587, hr⟩ : ∃ m, r1578 = m + 1 := ⟨r1578 - 1, by omega⟩
          subst hr
          obtain ⟨z1579, h1580, h1581⟩ := rangeN_some h1582
          unfold widest_Paths_b3 at h1580
          try dsimp only at h1580
          refine GL.skip ?_
          refine GL.seq ?_
          refine GL.block ?_
          refine GL.seq ?_
          refine GL.region ?_
          refine RL.mv rfl rfl rfl ?_
          refine RL.asg rfl rfl rfl ?_
          refine RL.finG ?_
          refine GL.seq ?_
          refine GL.region ?_
          refine RL.mv rfl rfl rfl ?_
          refine RL.mv rfl rfl rfl ?_
          refine RL.finG ?_
          obtain ⟨y1935, e1936, h1580⟩ := bind_some h1580
          replace e1936 := chk_some e1936
          obtain ⟨y1937, K1938, h1939, h1940, h1941, h1942, h1943⟩ := bindF_K h1580
          refine GL.join (ι := (List (List Int)) × (List Value)) (fun (p : (List (List Int)) × (List Value)) => [(5, .int .i64 ((x0).length : Int)), (6, v12), (65, .int .i64 ((x0).length : Int)), (66, .int .i64 (i1577 : Int))]) (fun (p : (List (List Int)) × (List Value)) => [own2 28 3 TR.int v12 p.2 p.1]) (fun (p : (List (List Int)) × (List Value)) => K1938 (.nx p.1)) ?_ ?_
          · refine GL.block ?_
            refine GL.loop (ι := Nat × Nat × (List (List Int)) × (List Value)) (fun (p : Nat × Nat × (List (List Int)) × (List Value)) => [(5, .int .i64 ((x0).length : Int)), (6, v12), (9, .int .i64 (i1577 : Int)), (65, .int .i64 ((x0).length : Int)), (66, .int .i64 (i1577 : Int)), (69, .int .i64 ((x0).length : Int)), (70, .int .i64 (p.1 : Int))]) (fun (p : Nat × Nat × (List (List Int)) × (List Value)) => [own2 28 3 TR.int v12 p.2.2.2 p.2.2.1]) (fun (p : Nat × Nat × (List (List Int)) × (List Value)) => p.1 + p.2.1 = (((x0).length : Int)).toNat ∧ rangeN (widest_Paths_b4 x0 i1577) p.2.1 p.1 p.2.2.1 = some y1937) (fun (p : Nat × Nat × (List (List Int)) × (List Value)) => p.2.1) (0, (((x0).length : Int)).toNat, l1024, V1025) ⟨by simp, h1939⟩ (fun a w st => St.cut [0] ⟨rfl, rfl, rfl, rfl, rfl, rfl, rfl, trivial⟩ (by decide) rfl st) ?_
            rintro ⟨i1944, r1945, l1760, V1761⟩ ⟨h1950, h1949⟩
            try dsimp only at h1950 h1949
            refine GL.weak (env' := [(5, .int .i64 ((x0).length : Int)), (6, v12), (9, .int .i64 (i1577 : Int)), (65, .int .i64 ((x0).length : Int)), (66, .int .i64 (i1577 : Int)), (69, .int .i64 ((x0).length : Int)), (70, .int .i64 (i1944 : Int))]) (L' := [own2 28 3 TR.int v12 V1761 l1760]) (fun _ _ st => st) ?_
            refine GL.seq ?_
            refine GL.region ?_
            refine RL.binI (v := .bool (decide ((i1944 : Int) < ((x0).length : Int)))) rfl rfl rfl rfl rfl ?_
            refine RL.finG ?_
            refine GL.seq ?_
            refine GL.cond rfl (fun b1952 => ?_) (fun b1952 => ?_)
            · have h1953 : i1944 < (((x0).length : Int)).toNat := by have := of_decide_eq_true b1952; omega
              obtain ⟨r1954, hr⟩ : ∃ m, r1945 = m + 1 := ⟨r1945 - 1, by omega⟩
              subst hr
              obtain ⟨z1946, h1947, h1948⟩ := rangeN_some h1949
              unfold widest_Paths_b4 at h1947
              try dsimp only at h1947
              refine GL.skip ?_
              refine GL.seq ?_
              refine GL.block ?_
              refine GL.seq ?_
              refine GL.region ?_
              refine RL.mv rfl rfl rfl ?_
              refine RL.asg rfl rfl rfl ?_
              refine RL.finG ?_
              refine GL.seq ?_
              refine GL.region ?_
              refine RL.mv rfl rfl rfl ?_
              refine RL.mv rfl rfl rfl ?_
              refine RL.finG ?_
              obtain ⟨y2056, e2057, h1947⟩ := bind_some h1947
              replace e2057 := chk_some e2057
              obtain ⟨y2058, K2059, h2060, h2061, h2062, h2063, h2064⟩ := bindF_K h1947
              refine GL.join (ι := (List (List Int)) × (List Value)) (fun (p : (List (List Int)) × (List Value)) => [(5, .int .i64 ((x0).length : Int)), (6, v12), (9, .int .i64 (i1577 : Int)), (65, .int .i64 ((x0).length : Int)), (66, .int .i64 (i1577 : Int)), (69, .int .i64 ((x0).length : Int)), (70, .int .i64 (i1944 : Int))]) (fun (p : (List (List Int)) × (List Value)) => [own2 28 3 TR.int v12 p.2 p.1]) (fun (p : (List (List Int)) × (List Value)) => K2059 (.nx p.1)) ?_ ?_
              · refine GL.block ?_
                refine GL.loop (ι := Nat × Nat × (List (List Int)) × (List Value)) (fun (p : Nat × Nat × (List (List Int)) × (List Value)) => [(5, .int .i64 ((x0).length : Int)), (6, v12), (9, .int .i64 (i1577 : Int)), (10, .int .i64 (i1944 : Int)), (65, .int .i64 ((x0).length : Int)), (66, .int .i64 (i1577 : Int)), (69, .int .i64 ((x0).length : Int)), (70, .int .i64 (i1944 : Int)), (73, .int .i64 ((x0).length : Int)), (74, .int .i64 (p.1 : Int))]) (fun (p : Nat × Nat × (List (List Int)) × (List Value)) => [own2 28 3 TR.int v12 p.2.2.2 p.2.2.1]) (fun (p : Nat × Nat × (List (List Int)) × (List Value)) => p.1 + p.2.1 = (((x0).length : Int)).toNat ∧ rangeN (widest_Paths_b5 i1944 i1577) p.2.1 p.1 p.2.2.1 = some y2058) (fun (p : Nat × Nat × (List (List Int)) × (List Value)) => p.2.1) (0, (((x0).length : Int)).toNat, l1760, V1761) ⟨by simp, h2060⟩ (fun a w st => St.cut [0] ⟨rfl, rfl, rfl, rfl, rfl, rfl, rfl, rfl, rfl, rfl, trivial⟩ (by decide) rfl st) ?_
                rintro ⟨i2065, r2066, l2004, V2005⟩ ⟨h2071, h2070⟩
                try dsimp only at h2071 h2070
                refine GL.weak (env' := [(5, .int .i64 ((x0).length : Int)), (6, v12), (9, .int .i64 (i1577 : Int)), (10, .int .i64 (i1944 : Int)), (65, .int .i64 ((x0).length : Int)), (66, .int .i64 (i1577 : Int)), (69, .int .i64 ((x0).length : Int)), (70, .int .i64 (i1944 : Int)), (73, .int .i64 ((x0).length : Int)), (74, .int .i64 (i2065 : Int))]) (L' := [own2 28 3 TR.int v12 V2005 l2004]) (fun _ _ st => st) ?_
                refine GL.seq ?_
                refine GL.region ?_
                refine RL.binI (v := .bool (decide ((i2065 : Int) < ((x0).length : Int)))) rfl rfl rfl rfl rfl ?_
                refine RL.finG ?_
                refine GL.seq ?_
                refine GL.cond rfl (fun b2073 => ?_) (fun b2073 => ?_)
                · have h2074 : i2065 < (((x0).length : Int)).toNat := by have := of_decide_eq_true b2073; omega
                  obtain ⟨r2075, hr⟩ : ∃ m, r2066 = m + 1 := ⟨r2066 - 1, by omega⟩
                  subst hr
                  obtain ⟨z2067, h2068, h2069⟩ := rangeN_some h2070
                  unfold widest_Paths_b5 at h2068
                  try dsimp only at h2068
                  refine GL.skip ?_
                  refine GL.seq ?_
                  refine GL.block ?_
                  refine GL.seq ?_
                  refine GL.region ?_
                  refine RL.mv rfl rfl rfl ?_
                  refine RL.asg rfl rfl rfl ?_
                  refine RL.finG ?_
                  refine GL.seq ?_
                  obtain ⟨y2081, K2082, h2083, h2084, h2085, h2086, h2087⟩ := bindF_K h2068
                  refine GL.join (ι := Bool) (fun (p : Bool) => [(5, .int .i64 ((x0).length : Int)), (6, v12), (9, .int .i64 (i1577 : Int)), (10, .int .i64 (i1944 : Int)), (11, .int .i64 (i2065 : Int)), (65, .int .i64 ((x0).length : Int)), (66, .int .i64 (i1577 : Int)), (69, .int .i64 ((x0).length : Int)), (70, .int .i64 (i1944 : Int)), (73, .int .i64 ((x0).length : Int)), (74, .int .i64 (i2065 : Int)), (89, .bool p)]) (fun (p : Bool) => [own2 28 3 TR.int v12 V2005 l2004]) (fun (p : Bool) => K2082 (.nx p)) ?_ ?_
                  · skip
                    refine GL.region ?_
                    refine RL.mv rfl rfl rfl ?_
                    refine RL.mv rfl rfl rfl ?_
                    refine RL.binI (v := .bool ((i1944 : Int) != (i2065 : Int))) rfl rfl rfl rfl rfl ?_
                    refine RL.mv rfl rfl rfl ?_
                    refine RL.split (t := 80) rfl (fun b2088 => ?_) (fun b2088 => ?_)
                    · replace h2083 := ite_t b2088 h2083
                      refine RL.mv rfl rfl rfl ?_
                      refine RL.mv rfl rfl rfl ?_
                      refine RL.binI (v := .bool ((i1944 : Int) != (i1577 : Int))) rfl rfl rfl rfl rfl ?_
                      refine RL.pickT rfl rfl rfl rfl ?_
                      refine RL.mv rfl rfl rfl ?_
                      refine RL.split (t := 85) rfl (fun b2089 => ?_) (fun b2089 => ?_)
                      · replace h2083 := ite_t b2089 h2083
                        refine RL.mv rfl rfl rfl ?_
                        refine RL.mv rfl rfl rfl ?_
                        refine RL.binI (v := .bool ((i2065 : Int) != (i1577 : Int))) rfl rfl rfl rfl rfl ?_
                        refine RL.pickT rfl rfl rfl rfl ?_
                        refine RL.fin ?_
                        cases h2083
                        exact fun a w st => mid_intro ((i2065 : Int) != (i1577 : Int)) h2084 (St.cut [0] ⟨rfl, rfl, rfl, rfl, rfl, rfl, rfl, rfl, rfl, rfl, rfl, rfl, trivial⟩ (by decide) rfl st)
                      · replace h2083 := ite_f b2089 h2083
                        refine RL.skip rfl rfl ?_
                        refine RL.skip rfl rfl ?_
                        refine RL.skip rfl rfl ?_
                        refine RL.pickF rfl rfl rfl rfl ?_
                        refine RL.fin ?_
                        cases h2083
                        exact fun a w st => mid_intro false h2084 (St.cut [0] ⟨rfl, rfl, rfl, rfl, rfl, rfl, rfl, rfl, rfl, rfl, rfl, rfl, trivial⟩ (by decide) rfl st)
                    · replace h2083 := ite_f b2088 h2083
                      refine RL.skip rfl rfl ?_
                      refine RL.skip rfl rfl ?_
                      refine RL.skip rfl rfl ?_
                      refine RL.pickF rfl rfl rfl rfl ?_
                      refine RL.mv rfl rfl rfl ?_
                      refine RL.skip rfl rfl ?_
                      refine RL.skip rfl rfl ?_
                      refine RL.skip rfl rfl ?_
                      refine RL.pickF rfl rfl rfl rfl ?_
                      refine RL.fin ?_
                      cases h2083
                      exact fun a w st => mid_intro false h2084 (St.cut [0] ⟨rfl, rfl, rfl, rfl, rfl, rfl, rfl, rfl, rfl, rfl, rfl, rfl, trivial⟩ (by decide) rfl st)
                  · rintro x2080 h2090
                    have h2091 := h2085 _ h2090
                    try dsimp only at h2091
                    refine GL.weak (env' := [(5, .int .i64 ((x0).length : Int)), (6, v12), (9, .int .i64 (i1577 : Int)), (10, .int .i64 (i1944 : Int)), (11, .int .i64 (i2065 : Int)), (65, .int .i64 ((x0).length : Int)), (66, .int .i64 (i1577 : Int)), (69, .int .i64 ((x0).length : Int)), (70, .int .i64 (i1944 : Int)), (73, .int .i64 ((x0).length : Int)), (74, .int .i64 (i2065 : Int)), (89, .bool x2080)]) (L' := [own2 28 3 TR.int v12 V2005 l2004]) (fun _ _ st => st) ?_
                    refine GL.cond rfl (fun b2092 => ?_) (fun b2092 => ?_)
                    · replace h2091 := ite_t b2092 h2091
                      refine GL.regionH 29 rfl rfl (by kernel_rfl) ?_
                      simp only [List.take_succ_cons, List.take_zero, List.drop_succ_cons, List.drop_zero]
                      refine RL.mv rfl rfl rfl ?_
                      refine RL.mv rfl rfl rfl ?_
                      obtain ⟨y2109, e2110, h2091⟩ := bind_some h2091
                      refine RL.idxR 0 Try.underlying22 Try_ln28 rfl rfl rfl rfl rfl (idx_some e2110).1 (idx_some e2110).2.1 ?_
                      refine RL.ldR (i := i1944) (r := y2109) 0 Try_ln28 rfl rfl rfl rfl (idx_some e2110).2.2 ?_
                      refine RL.mv rfl rfl rfl ?_
                      refine RL.mv rfl rfl rfl ?_
                      refine RL.mv rfl rfl rfl ?_
                      obtain ⟨y2111, e2112, h2091⟩ := bind_some h2091
                      refine RL.idxR 0 Try.underlying22 Try_ln28 rfl rfl rfl rfl rfl (idx_some e2112).1 (idx_some e2112).2.1 ?_
                      refine RL.ldR (i := i1944) (r := y2111) 0 Try_ln28 rfl rfl rfl rfl (idx_some e2112).2.2 ?_
                      refine RL.mv rfl rfl rfl ?_
                      obtain ⟨y2113, e2114, h2091⟩ := bind_some h2091
                      refine RL.idxS (sz := 1) 0 Try.underlying28 Try_ln3 rfl rfl rfl rfl rfl (SlOf.row (idx_some e2112).2.2) (idx_some e2114).1 (idx_some e2114).2.1 ?_
                      refine RL.ldSx (i := i2065) (e' := y2113) 0 Ex.ik Try_ln3 rfl rfl rfl rfl (SlOf.row (idx_some e2112).2.2) (idx_some e2114).2.2 Part.self ?_
                      refine RL.mv rfl rfl rfl ?_
                      refine RL.mv rfl rfl rfl ?_
                      obtain ⟨y2115, e2116, h2091⟩ := bind_some h2091
                      refine RL.idxR 0 Try.underlying22 Try_ln28 rfl rfl rfl rfl rfl (idx_some e2116).1 (idx_some e2116).2.1 ?_
                      refine RL.ldR (i := i1944) (r := y2115) 0 Try_ln28 rfl rfl rfl rfl (idx_some e2116).2.2 ?_
                      refine RL.mv rfl rfl rfl ?_
                      obtain ⟨y2117, e2118, h2091⟩ := bind_some h2091
                      refine RL.idxS (sz := 1) 0 Try.underlying28 Try_ln3 rfl rfl rfl rfl rfl (SlOf.row (idx_some e2116).2.2) (idx_some e2118).1 (idx_some e2118).2.1 ?_
                      refine RL.ldSx (i := i1577) (e' := y2117) 0 Ex.ik Try_ln3 rfl rfl rfl rfl (SlOf.row (idx_some e2116).2.2) (idx_some e2118).2.2 Part.self ?_
                      refine RL.mv rfl rfl rfl ?_
                      refine RL.mv rfl rfl rfl ?_
                      obtain ⟨y2119, e2120, h2091⟩ := bind_some h2091
                      refine RL.idxR 0 Try.underlying22 Try_ln28 rfl rfl rfl rfl rfl (idx_some e2120).1 (idx_some e2120).2.1 ?_
                      refine RL.ldR (i := i1577) (r := y2119) 0 Try_ln28 rfl rfl rfl rfl (idx_some e2120).2.2 ?_
                      refine RL.mv rfl rfl rfl ?_
                      obtain ⟨y2121, e2122, h2091⟩ := bind_some h2091
                      refine RL.idxS (sz := 1) 0 Try.underlying28 Try_ln3 rfl rfl rfl rfl rfl (SlOf.row (idx_some e2120).2.2) (idx_some e2122).1 (idx_some e2122).2.1 ?_
                      refine RL.ldSx (i := i2065) (e' := y2121) 0 Ex.ik Try_ln3 rfl rfl rfl rfl (SlOf.row (idx_some e2120).2.2) (idx_some e2122).2.2 Part.self ?_
                      refine RL.minI rfl rfl rfl rfl ?_
                      refine RL.maxI rfl rfl rfl rfl ?_
                      obtain ⟨y2123, e2124, h2091⟩ := bind_some h2091
                      refine RL.idxS (sz := 1) 0 Try.underlying28 Try_ln3 rfl rfl rfl rfl rfl (SlOf.row (idx_some e2110).2.2) (idx_some e2124).1 (idx_some e2124).2.1 ?_
                      refine RL.finH ?_
                      refine RL.stR (i := i1944) (j := i2065) (row := y2109) (e' := if (if y2121 < y2117 then y2121 else y2117) > y2113 then if y2121 < y2117 then y2121 else y2117 else y2113) (e1 := if (if y2121 < y2117 then y2121 else y2117) > y2113 then if y2121 < y2117 then y2121 else y2117 else y2113) (r := TR.int) 0 Try_ln3 rfl rfl rfl rfl VR.int rfl (idx_some e2110).2.2 (idx_some e2124).2.2 Upd.self ?_
                      refine RL.finG ?_
                      refine GL.weak (env' := [(5, .int .i64 ((x0).length : Int)), (6, v12), (9, .int .i64 (i1577 : Int)), (10, .int .i64 (i1944 : Int)), (65, .int .i64 ((x0).length : Int)), (66, .int .i64 (i1577 : Int)), (69, .int .i64 ((x0).length : Int)), (70, .int .i64 (i1944 : Int)), (73, .int .i64 ((x0).length : Int)), (74, .int .i64 (i2065 : Int))]) (L' := [own2 28 3 TR.int v12 V2005 (List.set l2004 i1944 (List.set y2109 i2065 (if (if y2121 < y2117 then y2121 else y2117) > y2113 then if y2121 < y2117 then y2121 else y2117 else y2113)))]) (fun a w st => St.cut [0] ⟨rfl, rfl, rfl, rfl, rfl, rfl, rfl, rfl, rfl, rfl, trivial⟩ (by decide) rfl st) ?_
                      refine GL.nilB ?_
                      refine GL.region ?_
                      refine RL.binI (v := .int .i64 ((i2065 + 1 : Nat) : Int)) rfl rfl rfl rfl (binI_succ i2065 (by omega)) ?_
                      refine RL.mv rfl rfl rfl ?_
                      refine RL.fin ?_
                      cases h2091
                      exact fun a w st => lop_intro (i2065 + 1, r2075, (List.set l2004 i1944 (List.set y2109 i2065 (if (if y2121 < y2117 then y2121 else y2117) > y2113 then if y2121 < y2117 then y2121 else y2117 else y2113))), V2005) ⟨by show i2065 + 1 + r2075 = (((x0).length : Int)).toNat; omega, h2069⟩ (by simp) (St.cut [0] ⟨rfl, rfl, rfl, rfl, rfl, rfl, rfl, rfl, rfl, rfl, trivial⟩ (by decide) rfl st)
                    · replace h2091 := ite_f b2092 h2091
                      refine GL.skip ?_
                      refine GL.nilB ?_
                      refine GL.region ?_
                      refine RL.binI (v := .int .i64 ((i2065 + 1 : Nat) : Int)) rfl rfl rfl rfl (binI_succ i2065 (by omega)) ?_
                      refine RL.mv rfl rfl rfl ?_
                      refine RL.fin ?_
                      cases h2091
                      exact fun a w st => lop_intro (i2065 + 1, r2075, l2004, V2005) ⟨by show i2065 + 1 + r2075 = (((x0).length : Int)).toNat; omega, h2069⟩ (by simp) (St.cut [0] ⟨rfl, rfl, rfl, rfl, rfl, rfl, rfl, rfl, rfl, rfl, trivial⟩ (by decide) rfl st)
                · have h2074 : ¬ i2065 < (((x0).length : Int)).toNat := by have := of_decide_eq_false b2073; omega
                  obtain rfl : r2066 = 0 := by omega
                  replace h2070 : some (Fl.nx _) = some y2058 := h2070
                  cases h2070
                  exact GL.exit (fun a w st => mid_intro (l2004, V2005) h2061 (St.cut [0] ⟨rfl, rfl, rfl, rfl, rfl, rfl, rfl, trivial⟩ (by decide) rfl st))
              · rintro ⟨l2004, V2005⟩ h2125
                have h2126 := h2062 _ h2125
                try dsimp only at h2126
                refine GL.weak (env' := [(5, .int .i64 ((x0).length : Int)), (6, v12), (9, .int .i64 (i1577 : Int)), (65, .int .i64 ((x0).length : Int)), (66, .int .i64 (i1577 : Int)), (69, .int .i64 ((x0).length : Int)), (70, .int .i64 (i1944 : Int))]) (L' := [own2 28 3 TR.int v12 V2005 l2004]) (fun _ _ st => st) ?_
                refine GL.nilB ?_
                refine GL.region ?_
                refine RL.binI (v := .int .i64 ((i1944 + 1 : Nat) : Int)) rfl rfl rfl rfl (binI_succ i1944 (by omega)) ?_
                refine RL.mv rfl rfl rfl ?_
                refine RL.fin ?_
                cases h2126
                exact fun a w st => lop_intro (i1944 + 1, r1954, l2004, V2005) ⟨by show i1944 + 1 + r1954 = (((x0).length : Int)).toNat; omega, h1948⟩ (by simp) (St.cut [0] ⟨rfl, rfl, rfl, rfl, rfl, rfl, rfl, trivial⟩ (by decide) rfl st)
            · have h1953 : ¬ i1944 < (((x0).length : Int)).toNat := by have := of_decide_eq_false b1952; omega
              obtain rfl : r1945 = 0 := by omega
              replace h1949 : some (Fl.nx _) = some y1937 := h1949
              cases h1949
              exact GL.exit (fun a w st => mid_intro (l1760, V1761) h1940 (St.cut [0] ⟨rfl, rfl, rfl, rfl, trivial⟩ (by decide) rfl st))
          · rintro ⟨l1760, V1761⟩ h2127
            have h2128 := h1941 _ h2127
            try dsimp only at h2128
            refine GL.weak (env' := [(5, .int .i64 ((x0).length : Int)), (6, v12), (65, .int .i64 ((x0).length : Int)), (66, .int .i64 (i1577 : Int))]) (L' := [own2 28 3 TR.int v12 V1761 l1760]) (fun _ _ st => st) ?_
            refine GL.nilB ?_
            refine GL.region ?_
            refine RL.binI (v := .int .i64 ((i1577 + 1 : Nat) : Int)) rfl rfl rfl rfl (binI_succ i1577 (by omega)) ?_
            refine RL.mv rfl rfl rfl ?_
            refine RL.fin ?_
            cases h2128
            exact fun a w st => lop_intro (i1577 + 1, r1587, l1760, V1761) ⟨by show i1577 + 1 + r1587 = (((x0).length : Int)).toNat; omega, h1581⟩ (by simp) (St.cut [0] ⟨rfl, rfl, rfl, rfl, trivial⟩ (by decide) rfl st)
        · have h1586 : ¬ i1577 < (((x0).length : Int)).toNat := by have := of_decide_eq_false b1585; omega
          obtain rfl : r1578 = 0 := by omega
          replace h1582 : some (Fl.nx _) = some y1570 := h1582
          cases h1582
          exact GL.exit (fun a w st => mid_intro (l1024, V1025) h1573 (St.cut [0] ⟨rfl, trivial⟩ (by decide) rfl st))
      · rintro ⟨l1024, V1025⟩ h2129
        have h2130 := h1574 _ h2129
        try dsimp only at h2130
        refine GL.weak (env' := [(6, v12)]) (L' := [own2 28 3 TR.int v12 V1025 l1024]) (fun _ _ st => st) ?_
        refine GL.seq ?_
        refine GL.region ?_
        refine RL.mv rfl rfl rfl ?_
        refine RL.asg rfl rfl rfl ?_
        refine RL.asg rfl rfl rfl ?_
        refine RL.finG ?_
        refine GL.weak (fun a w st => st.freeze2 0 rfl) ?_
        have h2130 := Option.some.inj h2130
        subst h2130
        exact GL.ret (Gx.ret (v := .tuple #[v12, .int .i64 (0 : Int)]) (res2 rfl rfl rfl) (fun a w st => (st.pick [0] (by decide) rfl).toPost v12))

set_option maxHeartbeats 4000000 in
theorem slices_Equal_int_int_c (S : Hp) (w : World) (hS : S.sub w) (v0 : Value) (x0 : (List Int)) (k0 : ((TR.sl TR.int)).vrep S v0 x0) (v1 : Value) (x1 : (List Int)) (k1 : ((TR.sl TR.int)).vrep S v1 x1) (res : Bool) (hm : slices_Equal_int_int_m x0 x1 = some res) : Calls Try.prog 19 #[v0, v1] w (PostV w (.bool res)) := by
  refine calls_enter 26 Try.func19 Try.ntmps19 rfl S false [(0, v0), (1, v1)] [imm (TR.sl TR.int) v0 x0, imm (TR.sl TR.int) v1 x1] rfl ⟨rfl, ⟨rfl, trivial⟩⟩ hS ⟨k0, ⟨k1, trivial⟩⟩ ?_
  unfold slices_Equal_int_int_m at hm
  refine GL.seq ?_
  refine GL.region ?_
  refine RL.asg rfl rfl rfl ?_
  refine RL.finG ?_
  refine GL.seq ?_
  refine GL.seq ?_
  refine GL.region ?_
  refine RL.mv rfl rfl rfl ?_
  refine RL.lenS 0 Try.underlying28 rfl rfl rfl rfl SlOf.imm ?_
  refine RL.mv rfl rfl rfl ?_
  refine RL.lenS 1 Try.underlying28 rfl rfl rfl rfl SlOf.imm ?_
  refine RL.binI (v := .bool (((x0).length : Int) != ((x1).length : Int))) rfl rfl rfl rfl rfl ?_
  refine RL.finG ?_
  refine GL.cond rfl (fun b3 => ?_) (fun b3 => ?_)
  · replace hm := ite_t b3 hm
    refine GL.seq ?_
    refine GL.region ?_
    refine RL.asg rfl rfl rfl ?_
    refine RL.finG ?_
    have hm := Option.some.inj hm
    subst hm
    exact GL.ret (Gx.ret (v := .bool false) (res1 rfl rfl) (fun a w st => st.toPostV))
  · replace hm := ite_f b3 hm
    refine GL.skip ?_
    refine GL.seq ?_
    refine GL.seq ?_
    refine GL.region ?_
    refine RL.mv rfl rfl rfl ?_
    refine RL.lenS 0 Try.underlying28 rfl rfl rfl rfl SlOf.imm ?_
    refine RL.mv rfl rfl rfl ?_
    refine RL.finG ?_
    refine GL.open_ 0 rfl (fun S h => len_imm S h) (fun n13 => ?_)
    obtain ⟨y14, K15, h16, h17, h18, h19, h20⟩ := bindR_K hm
    refine GL.join (ι := Unit) (fun (p : Unit) => []) (fun (p : Unit) => []) (fun (p : Unit) => K15 (.nx ())) ?_ ?_
    · refine GL.block ?_
      refine GL.loop (ι := Nat × (List Int)) (fun (p : Nat × (List Int)) => [(0, v0), (1, v1), (12, .int .i64 ((x0).length : Int)), (13, .int .i64 (p.1 : Int))]) (fun (p : Nat × (List Int)) => [imm (TR.sl TR.int) v0 x0, imm (TR.sl TR.int) v1 x1]) (fun (p : Nat × (List Int)) => p.1 + p.2.length = (x0).length ∧ List.drop p.1 x0 = p.2 ∧ rangeL (slices_Equal_int_int_b1 x1) p.2 p.1 () = some y14) (fun (p : Nat × (List Int)) => p.2.length) (0, x0) ⟨by simp, by simp, h16⟩ (fun a w st => St.cut [0, 1] ⟨rfl, rfl, rfl, rfl, trivial⟩ (by decide) rfl st) ?_
      rintro ⟨i21, r22⟩ ⟨h27, h28, h26⟩
      try dsimp only at h27 h28 h26
      refine GL.weak (env' := [(0, v0), (1, v1), (12, .int .i64 ((x0).length : Int)), (13, .int .i64 (i21 : Int))]) (L' := [imm (TR.sl TR.int) v0 x0, imm (TR.sl TR.int) v1 x1]) (fun _ _ st => st) ?_
      refine GL.seq ?_
      refine GL.region ?_
      refine RL.binI (v := .bool (decide ((i21 : Int) < ((x0).length : Int)))) rfl rfl rfl rfl rfl ?_
      refine RL.finG ?_
      refine GL.seq ?_
      refine GL.cond rfl (fun b29 => ?_) (fun b29 => ?_)
      · have h30 : i21 < (x0).length := by have := of_decide_eq_true b29; omega
        obtain ⟨y31, r33, hr, e32, h34⟩ := drop_cons h28 rfl h30
        subst hr
        obtain ⟨z23, h24, h25⟩ := rangeL_some h26
        unfold slices_Equal_int_int_b1 at h24
        try dsimp only at h24
        refine GL.skip ?_
        refine GL.seq ?_
        refine GL.block ?_
        refine GL.seq ?_
        refine GL.region ?_
        refine RL.mv rfl rfl rfl ?_
        refine RL.asg rfl rfl rfl ?_
        refine RL.finG ?_
        refine GL.seq ?_
        refine GL.regionQ rfl rfl (by kernel_rfl) ?_
        refine RL.mv rfl rfl rfl ?_
        refine RL.mv rfl rfl rfl ?_
        refine RL.idxS (sz := 1) 0 Try.underlying28 Try_ln3 rfl rfl rfl rfl rfl SlOf.imm (by omega) (by omega) ?_
        refine RL.ldSx (i := i21) (e' := y31) 0 Ex.ik Try_ln3 rfl rfl rfl rfl SlOf.imm e32 Part.self ?_
        refine RL.mv rfl rfl rfl ?_
        refine RL.mv rfl rfl rfl ?_
        obtain ⟨y37, e38, h24⟩ := bind_some h24
        refine RL.idxS (sz := 1) 1 Try.underlying28 Try_ln3 rfl rfl rfl rfl rfl SlOf.imm (idx_some e38).1 (idx_some e38).2.1 ?_
        refine RL.ldSx (i := i21) (e' := y37) 1 Ex.ik Try_ln3 rfl rfl rfl rfl SlOf.imm (idx_some e38).2.2 Part.self ?_
        refine RL.binI (v := .bool (y31 != y37)) rfl rfl rfl rfl rfl ?_
        refine RL.finQG ?_
        refine GL.cond rfl (fun b39 => ?_) (fun b39 => ?_)
        · replace h24 := ite_t b39 h24
          refine GL.seq ?_
          refine GL.region ?_
          refine RL.asg rfl rfl rfl ?_
          refine RL.finG ?_
          cases h24
          replace h25 : some (Fl.rt _) = some y14 := h25
          cases h25
          have hh := h19 _ h17
          subst hh
          exact GL.ret (Gx.ret (v := .bool false) (res1 rfl rfl) (fun a w st => st.toPostV))
        · replace h24 := ite_f b39 h24
          refine GL.skip ?_
          refine GL.nilB ?_
          refine GL.region ?_
          refine RL.binI (v := .int .i64 ((i21 + 1 : Nat) : Int)) rfl rfl rfl rfl (binI_succ i21 (by omega)) ?_
          refine RL.mv rfl rfl rfl ?_
          refine RL.fin ?_
          cases h24
          exact fun a w st => lop_intro (i21 + 1, r33) ⟨by show i21 + 1 + r33.length = (x0).length; simp only [List.length_cons] at h27; omega, h34, h25⟩ (by simp) (St.cut [0, 1] ⟨rfl, rfl, rfl, rfl, trivial⟩ (by decide) rfl st)
      · have h30 : ¬ i21 < (x0).length := by have := of_decide_eq_false b29; omega
        obtain rfl : r22 = [] := by rw [← h28]; exact List.drop_of_length_le (by omega)
        replace h26 : some (Fl.nx _) = some y14 := h26
        cases h26
        exact GL.exit (fun a w st => mid_intro () h17 (St.cut [] trivial (by decide) rfl st))
    · rintro ⟨⟩ h40
      have h41 := h18 _ h40
      try dsimp only at h41
      refine GL.weak (env' := []) (L' := []) (fun _ _ st => st) ?_
      refine GL.seq ?_
      refine GL.region ?_
      refine RL.asg rfl rfl rfl ?_
      refine RL.finG ?_
      have h41 := Option.some.inj h41
      subst h41
      exact GL.ret (Gx.ret (v := .bool true) (res1 rfl rfl) (fun a w st => st.toPostV))

set_option maxHeartbeats 4000000 in
theorem pk_wides_c (S : Hp) (w : World) (hS : S.sub w)  (res : Bool) (hm : pk_wides_m = some res) : Calls Try.prog 14 #[] w (PostV w (.bool res)) := by
  refine calls_enter 25 Try.func14 Try.ntmps14 rfl S false [] [] rfl trivial hS trivial ?_
  unfold pk_wides_m at hm
  refine GL.seq ?_
  refine GL.region ?_
  refine RL.asg rfl rfl rfl ?_
  refine RL.finG ?_
  refine GL.seq ?_
  refine GL.region ?_
  refine RL.bS (t := TR.int) (vs := [.int .i64 (0 : Int), .int .i64 (3 : Int), .int .i64 (1 : Int)]) ([(0 : Int), (3 : Int), (1 : Int)] : (List Int)) Try.underlying28 Try_lo3 rfl rfl rfl rfl ⟨VR.int, ⟨VR.int, ⟨VR.int, trivial⟩⟩⟩ rfl (by decide) ?_
  intro v8
  refine RL.bS (t := TR.int) (vs := [.int .i64 (1 : Int), .int .i64 (0 : Int), .int .i64 (4 : Int)]) ([(1 : Int), (0 : Int), (4 : Int)] : (List Int)) Try.underlying28 Try_lo3 rfl rfl rfl rfl ⟨VR.int, ⟨VR.int, ⟨VR.int, trivial⟩⟩⟩ rfl (by decide) ?_
  intro v9
  refine RL.reL (L' := [own 3 TR.int v8 ([(0 : Int), (3 : Int), (1 : Int)] : (List Int)), own 3 TR.int v9 ([(1 : Int), (0 : Int), (4 : Int)] : (List Int))]) rfl ?_
  refine RL.bS (t := TR.int) (vs := [.int .i64 (2 : Int), .int .i64 (0 : Int), .int .i64 (0 : Int)]) ([(2 : Int), (0 : Int), (0 : Int)] : (List Int)) Try.underlying28 Try_lo3 rfl rfl rfl rfl ⟨VR.int, ⟨VR.int, ⟨VR.int, trivial⟩⟩⟩ rfl (by decide) ?_
  intro v10
  refine RL.weak (fun a w st => st.freeze 0 rfl) ?_
  refine RL.weak (fun a w st => st.freeze 1 rfl) ?_
  refine RL.weak (fun a w st => st.freeze 2 rfl) ?_
  refine RL.bS (t := (TR.sl TR.int)) (vs := [v8, v9, v10]) ([([(0 : Int), (3 : Int), (1 : Int)] : (List Int)), ([(1 : Int), (0 : Int), (4 : Int)] : (List Int)), ([(2 : Int), (0 : Int), (0 : Int)] : (List Int))] : (List (List Int))) Try.underlying22 Try_lo28 rfl rfl rfl rfl ⟨(VR.item 0 rfl), ⟨(VR.item 1 rfl), ⟨(VR.item 2 rfl), trivial⟩⟩⟩ rfl (by decide) ?_
  intro v11
  refine RL.reL (L' := [imm (TR.sl TR.int) v8 ([(0 : Int), (3 : Int), (1 : Int)] : (List Int)), imm (TR.sl TR.int) v9 ([(1 : Int), (0 : Int), (4 : Int)] : (List Int)), imm (TR.sl TR.int) v10 ([(2 : Int), (0 : Int), (0 : Int)] : (List Int)), own 28 (TR.sl TR.int) v11 ([([(0 : Int), (3 : Int), (1 : Int)] : (List Int)), ([(1 : Int), (0 : Int), (4 : Int)] : (List Int)), ([(2 : Int), (0 : Int), (0 : Int)] : (List Int))] : (List (List Int)))]) rfl ?_
  refine RL.weak (fun a w st => st.freeze 3 rfl) ?_
  obtain ⟨y12, e13, hm⟩ := bind_some hm
  refine RL.call (vs := [v11]) Try_fit15 rfl rfl rfl rfl rfl (fun S f w hS hW hi => widest_Paths_c S w hS _ _ (hi 3 _ rfl) _ e13) ?_
  intro v14
  refine RL.reL (L' := [imm (TR.sl TR.int) v8 ([(0 : Int), (3 : Int), (1 : Int)] : (List Int)), imm (TR.sl TR.int) v9 ([(1 : Int), (0 : Int), (4 : Int)] : (List Int)), imm (TR.sl TR.int) v10 ([(2 : Int), (0 : Int), (0 : Int)] : (List Int)), imm (TR.sl (TR.sl TR.int)) v11 ([([(0 : Int), (3 : Int), (1 : Int)] : (List Int)), ([(1 : Int), (0 : Int), (4 : Int)] : (List Int)), ([(2 : Int), (0 : Int), (0 : Int)] : (List Int))] : (List (List Int))), imm (TR.sl (TR.sl TR.int)) v14 y12.1]) rfl ?_
  refine RL.mv rfl rfl rfl ?_
  refine RL.ext rfl rfl rfl rfl ?_
  refine RL.ext rfl rfl rfl rfl ?_
  refine RL.asg rfl rfl rfl ?_
  refine RL.asg rfl rfl rfl ?_
  refine RL.finG ?_
  refine GL.seq ?_
  obtain ⟨y32, K33, h34, h35, h36, h37, h38⟩ := bindR_K hm
  refine GL.join (ι := Bool) (fun (p : Bool) => [(0, .bool p)]) (fun (p : Bool) => []) (fun (p : Bool) => K33 (.nx p)) ?_ ?_
  · skip
    refine GL.region ?_
    refine RL.mv rfl rfl rfl ?_
    refine RL.binI (v := .bool (y12.2 == (0 : Int))) rfl rfl rfl rfl rfl ?_
    refine RL.mv rfl rfl rfl ?_
    refine RL.split (t := 13) rfl (fun b39 => ?_) (fun b39 => ?_)
    · replace h34 := ite_t b39 h34
      refine RL.mv rfl rfl rfl ?_
      refine RL.lenS 4 Try.underlying22 rfl rfl rfl rfl SlOf.imm ?_
      refine RL.binI (v := .bool (((y12.1).length : Int) == (3 : Int))) rfl rfl rfl rfl rfl ?_
      refine RL.pickT rfl rfl rfl rfl ?_
      refine RL.mv rfl rfl rfl ?_
      refine RL.split (t := 18) rfl (fun b40 => ?_) (fun b40 => ?_)
      · replace h34 := ite_t b40 h34
        refine RL.mv rfl rfl rfl ?_
        obtain ⟨y41, e42, h34⟩ := bind_some h34
        refine RL.idxS (sz := 1) 4 Try.underlying22 Try_ln28 rfl rfl rfl rfl rfl SlOf.imm (idx_some e42).1 (idx_some e42).2.1 ?_
        refine RL.ldS (i := ((0 : Int)).toNat) (r := (TR.sl TR.int)) (e' := y41) 4 Try_ln28 rfl rfl rfl rfl SlOf.imm (idx_some e42).2.2 Part.self ?_
        intro v43
        refine RL.bS (t := TR.int) (vs := [.int .i64 (0 : Int), .int .i64 (3 : Int), .int .i64 (3 : Int)]) ([(0 : Int), (3 : Int), (3 : Int)] : (List Int)) Try.underlying28 Try_lo3 rfl rfl rfl rfl ⟨VR.int, ⟨VR.int, ⟨VR.int, trivial⟩⟩⟩ rfl (by decide) ?_
        intro v44
        refine RL.reL (L' := [imm (TR.sl TR.int) v8 ([(0 : Int), (3 : Int), (1 : Int)] : (List Int)), imm (TR.sl TR.int) v9 ([(1 : Int), (0 : Int), (4 : Int)] : (List Int)), imm (TR.sl TR.int) v10 ([(2 : Int), (0 : Int), (0 : Int)] : (List Int)), imm (TR.sl (TR.sl TR.int)) v11 ([([(0 : Int), (3 : Int), (1 : Int)] : (List Int)), ([(1 : Int), (0 : Int), (4 : Int)] : (List Int)), ([(2 : Int), (0 : Int), (0 : Int)] : (List Int))] : (List (List Int))), imm (TR.sl (TR.sl TR.int)) v14 y12.1, imm (TR.sl TR.int) v43 y41, own 3 TR.int v44 ([(0 : Int), (3 : Int), (3 : Int)] : (List Int))]) rfl ?_
        obtain ⟨y45, e46, h34⟩ := bind_some h34
        refine RL.callV (v := .bool y45) (vs := [v43, v44]) Try_fit19 rfl (Or.inl rfl) rfl rfl rfl rfl (fun U w hU hW hL => slices_Equal_int_int_c U w hU _ _ (hL 5 _ _ rfl Seen.imm) _ _ (hL 6 _ _ rfl Seen.own) _ e46) ?_
        refine RL.pickT rfl rfl rfl rfl ?_
        refine RL.asg rfl rfl rfl ?_
        refine RL.fin ?_
        cases h34
        exact fun a w st => mid_intro y45 h35 (St.cut [] ⟨rfl, trivial⟩ (by decide) rfl st)
      · replace h34 := ite_f b40 h34
        refine RL.skip rfl rfl ?_
        refine RL.skip rfl rfl ?_
        refine RL.skip rfl rfl ?_
        refine RL.skip rfl rfl ?_
        refine RL.skip rfl rfl ?_
        refine RL.pickF rfl rfl rfl rfl ?_
        refine RL.asg rfl rfl rfl ?_
        refine RL.fin ?_
        cases h34
        exact fun a w st => mid_intro false h35 (St.cut [] ⟨rfl, trivial⟩ (by decide) rfl st)
    · replace h34 := ite_f b39 h34
      refine RL.skip rfl rfl ?_
      refine RL.skip rfl rfl ?_
      refine RL.skip rfl rfl ?_
      refine RL.pickF rfl rfl rfl rfl ?_
      refine RL.mv rfl rfl rfl ?_
      refine RL.skip rfl rfl ?_
      refine RL.skip rfl rfl ?_
      refine RL.skip rfl rfl ?_
      refine RL.skip rfl rfl ?_
      refine RL.skip rfl rfl ?_
      refine RL.pickF rfl rfl rfl rfl ?_
      refine RL.asg rfl rfl rfl ?_
      refine RL.fin ?_
      cases h34
      exact fun a w st => mid_intro false h35 (St.cut [] ⟨rfl, trivial⟩ (by decide) rfl st)
  · rintro x31 h47
    have h48 := h36 _ h47
    try dsimp only at h48
    refine GL.weak (env' := [(0, .bool x31)]) (L' := []) (fun _ _ st => st) ?_
    have h48 := Option.some.inj h48
    subst h48
    exact GL.ret (Gx.ret (v := .bool x31) (res1 rfl rfl) (fun a w st => st.toPostV))

set_option maxHeartbeats 4000000 in
theorem widest_Winners_c (S : Hp) (w : World) (hS : S.sub w) (v0 : Value) (x0 : (List (List Int))) (k0 : ((TR.sl (TR.sl TR.int))).vrep S v0 x0) (res : (List Int) × Int) (hm : widest_Winners_m x0 = some res) : Calls Try.prog 17 #[v0] w (Post w S (fun (o : Value) => .tuple #[o, .int .i64 res.2]) (fun (o : Value) => [own 3 TR.int o res.1])) := by
  refine calls_enter 54 Try.func17 Try.ntmps17 rfl S false [(0, v0)] [imm (TR.sl (TR.sl TR.int)) v0 x0] rfl ⟨rfl, trivial⟩ hS ⟨k0, trivial⟩ ?_
  unfold widest_Winners_m at hm
  refine GL.seq ?_
  refine GL.region ?_
  refine RL.asg rfl rfl rfl ?_
  refine RL.asg rfl rfl rfl ?_
  refine RL.finG ?_
  refine GL.seq ?_
  refine GL.region ?_
  refine RL.mv rfl rfl rfl ?_
  obtain ⟨y5, e6, hm⟩ := bind_some hm
  refine RL.call (vs := [v0]) Try_fit15 rfl rfl rfl rfl rfl (fun S f w hS hW hi => widest_Paths_c S w hS _ _ (hi 0 _ rfl) _ e6) ?_
  intro v7
  refine RL.mv rfl rfl rfl ?_
  refine RL.ext rfl rfl rfl rfl ?_
  refine RL.ext rfl rfl rfl rfl ?_
  refine RL.asg rfl rfl rfl ?_
  refine RL.asg rfl rfl rfl ?_
  refine RL.finG ?_
  refine GL.seq ?_
  refine GL.seq ?_
  refine GL.region ?_
  refine RL.mv rfl rfl rfl ?_
  refine RL.binI (v := .bool (y5.2 != (0 : Int))) rfl rfl rfl rfl rfl ?_
  refine RL.finG ?_
  refine GL.cond rfl (fun b8 => ?_) (fun b8 => ?_)
  · replace hm := ite_t b8 hm
    refine GL.seq ?_
    refine GL.region ?_
    refine RL.mv rfl rfl rfl ?_
    refine RL.asg rfl rfl rfl ?_
    refine RL.asg rfl rfl rfl ?_
    refine RL.finG ?_
    refine GL.weak (fun a w st => st.nilOwn 3 TR.int) ?_
    have hm := Option.some.inj hm
    subst hm
    exact GL.ret (Gx.ret (v := .tuple #[Value.slice none 0 0, .int .i64 y5.2]) (res2 rfl rfl rfl) (fun a w st => (st.pick [2] (by decide) rfl).toPost (Value.slice none 0 0)))
  · replace hm := ite_f b8 hm
    refine GL.skip ?_
    refine GL.seq ?_
    refine GL.region ?_
    refine RL.asg rfl rfl rfl ?_
    refine RL.finG ?_
    refine GL.seq ?_
    refine GL.seq ?_
    refine GL.region ?_
    refine RL.mv rfl rfl rfl ?_
    refine RL.lenS 1 Try.underlying22 rfl rfl rfl rfl SlOf.imm ?_
    refine RL.mv rfl rfl rfl ?_
    refine RL.finG ?_
    refine GL.weak (fun a w st => st.nilOwn 3 TR.int) ?_
    refine GL.open_ 1 rfl (fun S h => len_imm S h) (fun n125 => ?_)
    obtain ⟨y126, K127, h128, h129, h130, h131, h132⟩ := bindR_K hm
    refine GL.join (ι := (List Int) × Value) (fun (p : (List Int) × Value) => [(6, p.2)]) (fun (p : (List Int) × Value) => [own 3 TR.int p.2 p.1]) (fun (p : (List Int) × Value) => K127 (.nx p.1)) ?_ ?_
    · refine GL.block ?_
      refine GL.loop (ι := Nat × (List (List Int)) × (List Int) × Value) (fun (p : Nat × (List (List Int)) × (List Int) × Value) => [(4, v7), (6, p.2.2.2), (19, .int .i64 ((y5.1).length : Int)), (20, .int .i64 (p.1 : Int))]) (fun (p : Nat × (List (List Int)) × (List Int) × Value) => [imm (TR.sl (TR.sl TR.int)) v7 y5.1, own 3 TR.int p.2.2.2 p.2.2.1]) (fun (p : Nat × (List (List Int)) × (List Int) × Value) => p.1 + p.2.1.length = (y5.1).length ∧ List.drop p.1 y5.1 = p.2.1 ∧ rangeL (widest_Winners_b1 y5) p.2.1 p.1 p.2.2.1 = some y126) (fun (p : Nat × (List (List Int)) × (List Int) × Value) => p.2.1.length) (0, y5.1, [], Value.slice none 0 0) ⟨by simp, by simp, h128⟩ (fun a w st => St.cut [1, 2] ⟨rfl, rfl, rfl, rfl, trivial⟩ (by decide) rfl st) ?_
      rintro ⟨i133, r134, l9, v10⟩ ⟨h139, h140, h138⟩
      try dsimp only at h139 h140 h138
      refine GL.weak (env' := [(4, v7), (6, v10), (19, .int .i64 ((y5.1).length : Int)), (20, .int .i64 (i133 : Int))]) (L' := [imm (TR.sl (TR.sl TR.int)) v7 y5.1, own 3 TR.int v10 l9]) (fun _ _ st => st) ?_
      refine GL.seq ?_
      refine GL.region ?_
      refine RL.binI (v := .bool (decide ((i133 : Int) < ((y5.1).length : Int)))) rfl rfl rfl rfl rfl ?_
      refine RL.finG ?_
      refine GL.seq ?_
      refine GL.cond rfl (fun b141 => ?_) (fun b141 => ?_)
      · have h142 : i133 < (y5.1).length := by have := of_decide_eq_true b141; omega
        obtain ⟨y143, r145, hr, e144, h146⟩ := drop_cons h140 rfl h142
        subst hr
        obtain ⟨z135, h136, h137⟩ := rangeL_some h138
        unfold widest_Winners_b1 at h136
        try dsimp only at h136
        refine GL.skip ?_
        refine GL.seq ?_
        refine GL.block ?_
        refine GL.seq ?_
        refine GL.region ?_
        refine RL.mv rfl rfl rfl ?_
        refine RL.asg rfl rfl rfl ?_
        refine RL.finG ?_
        refine GL.seq ?_
        refine GL.region ?_
        refine RL.asg rfl rfl rfl ?_
        refine RL.finG ?_
        refine GL.seq ?_
        refine GL.seq ?_
        refine GL.region ?_
        refine RL.mv rfl rfl rfl ?_
        refine RL.lenS 0 Try.underlying22 rfl rfl rfl rfl SlOf.imm ?_
        refine RL.mv rfl rfl rfl ?_
        refine RL.finG ?_
        refine GL.open_ 0 rfl (fun S h => len_imm S h) (fun n185 => ?_)
        obtain ⟨y186, K187, h188, h189, h190, h191, h192⟩ := bindF_K h136
        refine GL.join (ι := Bool) (fun (p : Bool) => [(4, v7), (6, v10), (7, .int .i64 (i133 : Int)), (8, .bool p), (19, .int .i64 ((y5.1).length : Int)), (20, .int .i64 (i133 : Int))]) (fun (p : Bool) => [imm (TR.sl (TR.sl TR.int)) v7 y5.1, own 3 TR.int v10 l9]) (fun (p : Bool) => K187 (.nx p)) ?_ ?_
        · refine GL.block ?_
          refine GL.loop (ι := Nat × (List (List Int)) × Bool) (fun (p : Nat × (List (List Int)) × Bool) => [(4, v7), (6, v10), (7, .int .i64 (i133 : Int)), (8, .bool p.2.2), (19, .int .i64 ((y5.1).length : Int)), (20, .int .i64 (i133 : Int)), (24, .int .i64 ((y5.1).length : Int)), (25, .int .i64 (p.1 : Int))]) (fun (p : Nat × (List (List Int)) × Bool) => [imm (TR.sl (TR.sl TR.int)) v7 y5.1, own 3 TR.int v10 l9]) (fun (p : Nat × (List (List Int)) × Bool) => p.1 + p.2.1.length = (y5.1).length ∧ List.drop p.1 y5.1 = p.2.1 ∧ rangeL (widest_Winners_b2 y143 i133) p.2.1 p.1 p.2.2 = some y186) (fun (p : Nat × (List (List Int)) × Bool) => p.2.1.length) (0, y5.1, true) ⟨by simp, by simp, h188⟩ (fun a w st => St.cut [0, 1] ⟨rfl, rfl, rfl, rfl, rfl, rfl, rfl, rfl, trivial⟩ (by decide) rfl st) ?_
          rintro ⟨i193, r194, x147⟩ ⟨h199, h200, h198⟩
          try dsimp only at h199 h200 h198
          refine GL.weak (env' := [(4, v7), (6, v10), (7, .int .i64 (i133 : Int)), (8, .bool x147), (19, .int .i64 ((y5.1).length : Int)), (20, .int .i64 (i133 : Int)), (24, .int .i64 ((y5.1).length : Int)), (25, .int .i64 (i193 : Int))]) (L' := [imm (TR.sl (TR.sl TR.int)) v7 y5.1, own 3 TR.int v10 l9]) (fun _ _ st => st) ?_
          refine GL.seq ?_
          refine GL.region ?_
          refine RL.binI (v := .bool (decide ((i193 : Int) < ((y5.1).length : Int)))) rfl rfl rfl rfl rfl ?_
          refine RL.finG ?_
          refine GL.seq ?_
          refine GL.cond rfl (fun b201 => ?_) (fun b201 => ?_)
          · have h202 : i193 < (y5.1).length := by have := of_decide_eq_true b201; omega
            obtain ⟨y203, r205, hr, e204, h206⟩ := drop_cons h200 rfl h202
            subst hr
            obtain ⟨z195, h196, h197⟩ := rangeL_some h198
            unfold widest_Winners_b2 at h196
            try dsimp only at h196
            refine GL.skip ?_
            refine GL.seq ?_
            refine GL.block ?_
            refine GL.seq ?_
            refine GL.region ?_
            refine RL.mv rfl rfl rfl ?_
            refine RL.asg rfl rfl rfl ?_
            refine RL.finG ?_
            obtain ⟨y222, K223, h224, h225, h226, h227, h228⟩ := bindF_K h196
            refine GL.join (ι := Bool) (fun (p : Bool) => [(4, v7), (6, v10), (7, .int .i64 (i133 : Int)), (8, .bool p), (19, .int .i64 ((y5.1).length : Int)), (20, .int .i64 (i133 : Int)), (24, .int .i64 ((y5.1).length : Int)), (25, .int .i64 (i193 : Int))]) (fun (p : Bool) => [imm (TR.sl (TR.sl TR.int)) v7 y5.1, own 3 TR.int v10 l9]) (fun (p : Bool) => K223 (.nx p)) ?_ ?_
            · skip
              refine GL.regionQ rfl rfl (by kernel_rfl) ?_
              refine RL.mv rfl rfl rfl ?_
              refine RL.mv rfl rfl rfl ?_
              refine RL.split (t := 29) rfl (fun b229 => ?_) (fun b229 => ?_)
              · replace h224 := ite_t b229 h224
                refine RL.mv rfl rfl rfl ?_
                refine RL.mv rfl rfl rfl ?_
                refine RL.idxS (sz := 1) 0 Try.underlying22 Try_ln28 rfl rfl rfl rfl rfl SlOf.imm (by omega) (by omega) ?_
                refine RL.ldS (i := i133) (r := (TR.sl TR.int)) (e' := y143) 0 Try_ln28 rfl rfl rfl rfl SlOf.imm e144 Part.self ?_
                intro v230
                refine RL.mv rfl rfl rfl ?_
                obtain ⟨y231, e232, h224⟩ := bind_some h224
                refine RL.idxS (sz := 1) 2 Try.underlying28 Try_ln3 rfl rfl rfl rfl rfl SlOf.imm (idx_some e232).1 (idx_some e232).2.1 ?_
                refine RL.ldSx (i := i193) (e' := y231) 2 Ex.ik Try_ln3 rfl rfl rfl rfl SlOf.imm (idx_some e232).2.2 Part.self ?_
                refine RL.mv rfl rfl rfl ?_
                refine RL.mv rfl rfl rfl ?_
                refine RL.idxS (sz := 1) 0 Try.underlying22 Try_ln28 rfl rfl rfl rfl rfl SlOf.imm (by omega) (by omega) ?_
                refine RL.ldS (i := i193) (r := (TR.sl TR.int)) (e' := y203) 0 Try_ln28 rfl rfl rfl rfl SlOf.imm e204 Part.self ?_
                intro v233
                refine RL.reL (L' := [imm (TR.sl (TR.sl TR.int)) v7 y5.1, own 3 TR.int v10 l9, imm (TR.sl TR.int) v230 y143, imm (TR.sl TR.int) v233 y203]) rfl ?_
                refine RL.mv rfl rfl rfl ?_
                obtain ⟨y234, e235, h224⟩ := bind_some h224
                refine RL.idxS (sz := 1) 3 Try.underlying28 Try_ln3 rfl rfl rfl rfl rfl SlOf.imm (idx_some e235).1 (idx_some e235).2.1 ?_
                refine RL.ldSx (i := i133) (e' := y234) 3 Ex.ik Try_ln3 rfl rfl rfl rfl SlOf.imm (idx_some e235).2.2 Part.self ?_
                refine RL.binI (v := .bool (decide (y231 ≥ y234))) rfl rfl rfl rfl rfl ?_
                refine RL.pickT rfl rfl rfl rfl ?_
                refine RL.asg rfl rfl rfl ?_
                refine RL.finQ ?_
                cases h224
                exact fun a w st => mid_intro (decide (y231 ≥ y234)) h225 (St.cut [0, 1] ⟨rfl, rfl, rfl, rfl, rfl, rfl, rfl, rfl, trivial⟩ (by decide) rfl st)
              · replace h224 := ite_f b229 h224
                refine RL.skip rfl rfl ?_
                refine RL.skip rfl rfl ?_
                refine RL.skip rfl rfl ?_
                refine RL.skip rfl rfl ?_
                refine RL.skip rfl rfl ?_
                refine RL.skip rfl rfl ?_
                refine RL.skip rfl rfl ?_
                refine RL.skip rfl rfl ?_
                refine RL.skip rfl rfl ?_
                refine RL.skip rfl rfl ?_
                refine RL.skip rfl rfl ?_
                refine RL.skip rfl rfl ?_
                refine RL.skip rfl rfl ?_
                refine RL.skip rfl rfl ?_
                refine RL.skip rfl rfl ?_
                refine RL.pickF rfl rfl rfl rfl ?_
                refine RL.asg rfl rfl rfl ?_
                refine RL.finQ ?_
                cases h224
                exact fun a w st => mid_intro false h225 (St.cut [0, 1] ⟨rfl, rfl, rfl, rfl, rfl, rfl, rfl, rfl, trivial⟩ (by decide) rfl st)
            · rintro x221 h236
              have h237 := h226 _ h236
              try dsimp only at h237
              refine GL.weak (env' := [(4, v7), (6, v10), (7, .int .i64 (i133 : Int)), (8, .bool x221), (19, .int .i64 ((y5.1).length : Int)), (20, .int .i64 (i133 : Int)), (24, .int .i64 ((y5.1).length : Int)), (25, .int .i64 (i193 : Int))]) (L' := [imm (TR.sl (TR.sl TR.int)) v7 y5.1, own 3 TR.int v10 l9]) (fun _ _ st => st) ?_
              refine GL.nilB ?_
              refine GL.region ?_
              refine RL.binI (v := .int .i64 ((i193 + 1 : Nat) : Int)) rfl rfl rfl rfl (binI_succ i193 (by omega)) ?_
              refine RL.mv rfl rfl rfl ?_
              refine RL.fin ?_
              cases h237
              exact fun a w st => lop_intro (i193 + 1, r205, x221) ⟨by show i193 + 1 + r205.length = (y5.1).length; simp only [List.length_cons] at h199; omega, h206, h197⟩ (by simp) (St.cut [0, 1] ⟨rfl, rfl, rfl, rfl, rfl, rfl, rfl, rfl, trivial⟩ (by decide) rfl st)
          · have h202 : ¬ i193 < (y5.1).length := by have := of_decide_eq_false b201; omega
            obtain rfl : r194 = [] := by rw [← h200]; exact List.drop_of_length_le (by omega)
            replace h198 : some (Fl.nx _) = some y186 := h198
            cases h198
            exact GL.exit (fun a w st => mid_intro x147 h189 (St.cut [0, 1] ⟨rfl, rfl, rfl, rfl, rfl, rfl, trivial⟩ (by decide) rfl st))
        · rintro x147 h238
          have h239 := h190 _ h238
          try dsimp only at h239
          refine GL.weak (env' := [(4, v7), (6, v10), (7, .int .i64 (i133 : Int)), (8, .bool x147), (19, .int .i64 ((y5.1).length : Int)), (20, .int .i64 (i133 : Int))]) (L' := [imm (TR.sl (TR.sl TR.int)) v7 y5.1, own 3 TR.int v10 l9]) (fun _ _ st => st) ?_
          refine GL.seq ?_
          refine GL.region ?_
          refine RL.mv rfl rfl rfl ?_
          refine RL.finG ?_
          refine GL.cond rfl (fun b240 => ?_) (fun b240 => ?_)
          · replace h239 := ite_t b240 h239
            refine GL.region ?_
            refine RL.mv rfl rfl rfl ?_
            refine RL.mv rfl rfl rfl ?_
            refine RL.bS (t := TR.int) (vs := [.int .i64 (i133 : Int)]) ([(i133 : Int)] : (List Int)) Try.underlying28 Try_lo3 rfl rfl rfl rfl ⟨VR.int, trivial⟩ rfl (by decide) ?_
            intro v245
            obtain ⟨y246, e247, h239⟩ := bind_some h239
            replace e247 := chk_some e247
            refine RL.app 1 2 Try.underlying28 Try_lo3 rfl rfl rfl rfl rfl rfl rfl SlOf.own e247 ?_
            intro v248
            refine RL.reL (L' := [imm (TR.sl (TR.sl TR.int)) v7 y5.1, own 3 TR.int v248 (l9 ++ ([(i133 : Int)] : (List Int))), own 3 TR.int v245 ([(i133 : Int)] : (List Int))]) rfl ?_
            refine RL.asg rfl rfl rfl ?_
            refine RL.finG ?_
            refine GL.nilB ?_
            refine GL.region ?_
            refine RL.binI (v := .int .i64 ((i133 + 1 : Nat) : Int)) rfl rfl rfl rfl (binI_succ i133 (by omega)) ?_
            refine RL.mv rfl rfl rfl ?_
            refine RL.fin ?_
            cases h239
            exact fun a w st => lop_intro (i133 + 1, r145, (l9 ++ ([(i133 : Int)] : (List Int))), v248) ⟨by show i133 + 1 + r145.length = (y5.1).length; simp only [List.length_cons] at h139; omega, h146, h137⟩ (by simp) (St.cut [0, 1] ⟨rfl, rfl, rfl, rfl, trivial⟩ (by decide) rfl st)
          · replace h239 := ite_f b240 h239
            refine GL.skip ?_
            refine GL.nilB ?_
            refine GL.region ?_
            refine RL.binI (v := .int .i64 ((i133 + 1 : Nat) : Int)) rfl rfl rfl rfl (binI_succ i133 (by omega)) ?_
            refine RL.mv rfl rfl rfl ?_
            refine RL.fin ?_
            cases h239
            exact fun a w st => lop_intro (i133 + 1, r145, l9, v10) ⟨by show i133 + 1 + r145.length = (y5.1).length; simp only [List.length_cons] at h139; omega, h146, h137⟩ (by simp) (St.cut [0, 1] ⟨rfl, rfl, rfl, rfl, trivial⟩ (by decide) rfl st)
      · have h142 : ¬ i133 < (y5.1).length := by have := of_decide_eq_false b141; omega
        obtain rfl : r134 = [] := by rw [← h140]; exact List.drop_of_length_le (by omega)
        replace h138 : some (Fl.nx _) = some y126 := h138
        cases h138
        exact GL.exit (fun a w st => mid_intro (l9, v10) h129 (St.cut [1] ⟨rfl, trivial⟩ (by decide) rfl st))
    · rintro ⟨l9, v10⟩ h249
      have h250 := h130 _ h249
      try dsimp only at h250
      refine GL.weak (env' := [(6, v10)]) (L' := [own 3 TR.int v10 l9]) (fun _ _ st => st) ?_
      refine GL.seq ?_
      refine GL.region ?_
      refine RL.mv rfl rfl rfl ?_
      refine RL.asg rfl rfl rfl ?_
      refine RL.asg rfl rfl rfl ?_
      refine RL.finG ?_
      have h250 := Option.some.inj h250
      subst h250
      exact GL.ret (Gx.ret (v := .tuple #[v10, .int .i64 (0 : Int)]) (res2 rfl rfl rfl) (fun a w st => (st.pick [0] (by decide) rfl).toPost v10))

set_option maxHeartbeats 4000000 in
theorem slices_IndexFunc_rows_c (S : Hp) (w : World) (hS : S.sub w) (v0 : Value) (x0 : (List (List Int))) (k0 : ((TR.sl (TR.sl TR.int))).vrep S v0 x0) (f1 : FuncId) (c1 : Array Value) (t1 : Fit Try.prog f1) (g1 : (List Int) → Option Bool) (k1 : ∀ (U : Hp) (w' : World), Hp.le S U → U.sub w' → ∀ (u0 : Value) (a0 : (List Int)) (_ : ((TR.sl TR.int)).vrep U u0 a0) (rr : Bool), g1 a0 = some rr → Calls Try.prog f1 (#[u0] ++ c1) w' (PostV w' (.bool rr))) (res : Int) (hm : slices_IndexFunc_rows_m x0 g1 = some res) : Calls Try.prog 44 #[v0, .func (.func f1) #[] c1] w (PostV w (.int .i64 res)) := by
  refine calls_enter 19 Try.func44 Try.ntmps44 rfl S false [(0, v0), (1, .func (.func f1) #[] c1)] [imm (TR.sl (TR.sl TR.int)) v0 x0] rfl ⟨rfl, ⟨rfl, trivial⟩⟩ hS ⟨k0, trivial⟩ ?_
  unfold slices_IndexFunc_rows_m at hm
  refine GL.seq ?_
  refine GL.region ?_
  refine RL.asg rfl rfl rfl ?_
  refine RL.finG ?_
  refine GL.seq ?_
  refine GL.seq ?_
  refine GL.region ?_
  refine RL.mv rfl rfl rfl ?_
  refine RL.lenS 0 Try.underlying22 rfl rfl rfl rfl SlOf.imm ?_
  refine RL.mv rfl rfl rfl ?_
  refine RL.finG ?_
  refine GL.open_ 0 rfl (fun S h => len_imm S h) (fun n14 => ?_)
  obtain ⟨y15, K16, h17, h18, h19, h20, h21⟩ := bindR_K hm
  refine GL.join (ι := Unit) (fun (p : Unit) => []) (fun (p : Unit) => []) (fun (p : Unit) => K16 (.nx ())) ?_ ?_
  · refine GL.block ?_
    refine GL.loop (ι := Nat × (List (List Int))) (fun (p : Nat × (List (List Int))) => [(0, v0), (1, .func (.func f1) #[] c1), (7, .int .i64 ((x0).length : Int)), (8, .int .i64 (p.1 : Int))]) (fun (p : Nat × (List (List Int))) => [imm (TR.sl (TR.sl TR.int)) v0 x0]) (fun (p : Nat × (List (List Int))) => p.1 + p.2.length = (x0).length ∧ List.drop p.1 x0 = p.2 ∧ rangeL (slices_IndexFunc_rows_b1 g1) p.2 p.1 () = some y15) (fun (p : Nat × (List (List Int))) => p.2.length) (0, x0) ⟨by simp, by simp, h17⟩ (fun a w st => St.cut [0] ⟨rfl, rfl, rfl, rfl, trivial⟩ (by decide) rfl st) ?_
    rintro ⟨i22, r23⟩ ⟨h28, h29, h27⟩
    try dsimp only at h28 h29 h27
    refine GL.weak (env' := [(0, v0), (1, .func (.func f1) #[] c1), (7, .int .i64 ((x0).length : Int)), (8, .int .i64 (i22 : Int))]) (L' := [imm (TR.sl (TR.sl TR.int)) v0 x0]) (fun _ _ st => st) ?_
    refine GL.seq ?_
    refine GL.region ?_
    refine RL.binI (v := .bool (decide ((i22 : Int) < ((x0).length : Int)))) rfl rfl rfl rfl rfl ?_
    refine RL.finG ?_
    refine GL.seq ?_
    refine GL.cond rfl (fun b30 => ?_) (fun b30 => ?_)
    · have h31 : i22 < (x0).length := by have := of_decide_eq_true b30; omega
      obtain ⟨y32, r34, hr, e33, h35⟩ := drop_cons h29 rfl h31
      subst hr
      obtain ⟨z24, h25, h26⟩ := rangeL_some h27
      unfold slices_IndexFunc_rows_b1 at h25
      try dsimp only at h25
      refine GL.skip ?_
      refine GL.seq ?_
      refine GL.block ?_
      refine GL.seq ?_
      refine GL.region ?_
      refine RL.mv rfl rfl rfl ?_
      refine RL.asg rfl rfl rfl ?_
      refine RL.finG ?_
      refine GL.seq ?_
      refine GL.region ?_
      refine RL.mv rfl rfl rfl ?_
      refine RL.mv rfl rfl rfl ?_
      refine RL.mv rfl rfl rfl ?_
      refine RL.idxS (sz := 1) 0 Try.underlying22 Try_ln28 rfl rfl rfl rfl rfl SlOf.imm (by omega) (by omega) ?_
      refine RL.ldS (i := i22) (r := (TR.sl TR.int)) (e' := y32) 0 Try_ln28 rfl rfl rfl rfl SlOf.imm e33 Part.self ?_
      intro v39
      obtain ⟨y40, e41, h25⟩ := bind_some h25
      refine RL.callV (v := .bool y40) (vs := [v39]) t1 rfl (Or.inl rfl) rfl rfl rfl rfl (fun U w hU hW hL => k1 U w hW hU _ _ (hL 1 _ _ rfl Seen.imm) _ e41) ?_
      refine RL.finG ?_
      refine GL.cond rfl (fun b42 => ?_) (fun b42 => ?_)
      · replace h25 := ite_t b42 h25
        refine GL.seq ?_
        refine GL.region ?_
        refine RL.mv rfl rfl rfl ?_
        refine RL.asg rfl rfl rfl ?_
        refine RL.finG ?_
        cases h25
        replace h26 : some (Fl.rt _) = some y15 := h26
        cases h26
        have hh := h20 _ h18
        subst hh
        exact GL.ret (Gx.ret (v := .int .i64 (i22 : Int)) (res1 rfl rfl) (fun a w st => st.toPostV))
      · replace h25 := ite_f b42 h25
        refine GL.skip ?_
        refine GL.nilB ?_
        refine GL.region ?_
        refine RL.binI (v := .int .i64 ((i22 + 1 : Nat) : Int)) rfl rfl rfl rfl (binI_succ i22 (by omega)) ?_
        refine RL.mv rfl rfl rfl ?_
        refine RL.fin ?_
        cases h25
        exact fun a w st => lop_intro (i22 + 1, r34) ⟨by show i22 + 1 + r34.length = (x0).length; simp only [List.length_cons] at h28; omega, h35, h26⟩ (by simp) (St.cut [0] ⟨rfl, rfl, rfl, rfl, trivial⟩ (by decide) rfl st)
    · have h31 : ¬ i22 < (x0).length := by have := of_decide_eq_false b30; omega
      obtain rfl : r23 = [] := by rw [← h29]; exact List.drop_of_length_le (by omega)
      replace h27 : some (Fl.nx _) = some y15 := h27
      cases h27
      exact GL.exit (fun a w st => mid_intro () h18 (St.cut [] trivial (by decide) rfl st))
  · rintro ⟨⟩ h43
    have h44 := h19 _ h43
    try dsimp only at h44
    refine GL.weak (env' := []) (L' := []) (fun _ _ st => st) ?_
    refine GL.seq ?_
    refine GL.region ?_
    refine RL.asg rfl rfl rfl ?_
    refine RL.finG ?_
    have h44 := Option.some.inj h44
    subst h44
    exact GL.ret (Gx.ret (v := .int .i64 (-1 : Int)) (res1 rfl rfl) (fun a w st => st.toPostV))

set_option maxHeartbeats 4000000 in
theorem slices_ContainsFunc_rows_c (S : Hp) (w : World) (hS : S.sub w) (v0 : Value) (x0 : (List (List Int))) (k0 : ((TR.sl (TR.sl TR.int))).vrep S v0 x0) (f1 : FuncId) (c1 : Array Value) (t1 : Fit Try.prog f1) (g1 : (List Int) → Option Bool) (k1 : ∀ (U : Hp) (w' : World), Hp.le S U → U.sub w' → ∀ (u0 : Value) (a0 : (List Int)) (_ : ((TR.sl TR.int)).vrep U u0 a0) (rr : Bool), g1 a0 = some rr → Calls Try.prog f1 (#[u0] ++ c1) w' (PostV w' (.bool rr))) (res : Bool) (hm : slices_ContainsFunc_rows_m x0 g1 = some res) : Calls Try.prog 22 #[v0, .func (.func f1) #[] c1] w (PostV w (.bool res)) := by
  refine calls_enter 9 Try.func22 Try.ntmps22 rfl S false [(0, v0), (1, .func (.func f1) #[] c1)] [imm (TR.sl (TR.sl TR.int)) v0 x0] rfl ⟨rfl, ⟨rfl, trivial⟩⟩ hS ⟨k0, trivial⟩ ?_
  unfold slices_ContainsFunc_rows_m at hm
  refine GL.seq ?_
  refine GL.region ?_
  refine RL.asg rfl rfl rfl ?_
  refine RL.finG ?_
  refine GL.seq ?_
  refine GL.region ?_
  refine RL.mv rfl rfl rfl ?_
  refine RL.mv rfl rfl rfl ?_
  obtain ⟨y5, e6, hm⟩ := bind_some hm
  refine RL.callV (v := .int .i64 y5) (vs := [v0, .func (.func f1) #[] c1]) Try_fit44 rfl (Or.inl rfl) rfl rfl rfl rfl (fun U w hU hW hL => slices_IndexFunc_rows_c U w hU _ _ (hL 0 _ _ rfl Seen.imm) f1 c1 t1 g1 (fun U' w' hle => k1 U' w' (Hp.le_trans hW hle)) _ e6) ?_
  refine RL.binI (v := .bool (decide (y5 ≥ (0 : Int)))) rfl rfl rfl rfl rfl ?_
  refine RL.asg rfl rfl rfl ?_
  refine RL.finG ?_
  have hm := Option.some.inj hm
  subst hm
  exact GL.ret (Gx.ret (v := .bool (decide (y5 ≥ (0 : Int)))) (res1 rfl rfl) (fun a w st => st.toPostV))

set_option maxHeartbeats 4000000 in
theorem pk_tableOf_1_c (S : Hp) (w : World) (hS : S.sub w) (v0 : Value) (x0 : (List Int)) (k0 : ((TR.sl TR.int)).vrep S v0 x0) (v1 : Value) (x1 : Int) (k1 : ((TR.ptr TR.int)).vrep S v1 x1) (res : Bool) (hm : pk_tableOf_1_m x0 x1 = some res) : Calls Try.prog 42 #[v0, v1] w (PostC w (.bool res)) := by
  refine calls_enter 8 Try.func42 Try.ntmps42 rfl S true [(0, v0), (1, v1)] [imm (TR.sl TR.int) v0 x0, imm (TR.ptr TR.int) v1 x1] rfl ⟨rfl, ⟨rfl, trivial⟩⟩ hS ⟨k0, ⟨k1, trivial⟩⟩ ?_
  unfold pk_tableOf_1_m at hm
  refine GL.seq ?_
  refine GL.region ?_
  refine RL.asg rfl rfl rfl ?_
  refine RL.finG ?_
  refine GL.seq ?_
  refine GL.region ?_
  refine RL.mv rfl rfl rfl ?_
  refine RL.lenS 0 Try.underlying28 rfl rfl rfl rfl SlOf.imm ?_
  refine RL.ldPx (off := 0) (e' := x1) 1 Ex.ik Try_ln3 rfl rfl (Or.inr ⟨rfl, rfl⟩) rfl PtOf.imm Part.self ?_
  refine RL.binI (v := .bool (((x0).length : Int) != x1)) rfl rfl rfl rfl rfl ?_
  refine RL.asg rfl rfl rfl ?_
  refine RL.finG ?_
  have hm := Option.some.inj hm
  subst hm
  exact GL.ret (Gx.ret (v := .bool (((x0).length : Int) != x1)) (res1 rfl rfl) (fun a w st => st.toPostC rfl))

set_option maxHeartbeats 4000000 in
theorem pk_tableOf_c (S : Hp) (w : World) (hS : S.sub w) (v0 : Value) (x0 : (List (List Int))) (k0 : ((TR.sl (TR.sl TR.int))).vrep S v0 x0) (x1 : Int) (res : Bool) (hm : pk_tableOf_m x0 x1 = some res) : Calls Try.prog 16 #[v0, .int .i64 x1] w (PostV w (.bool res)) := by
  refine calls_enter 15 Try.func16 Try.ntmps16 rfl S false [(0, v0), (1, .int .i64 x1)] [imm (TR.sl (TR.sl TR.int)) v0 x0] rfl ⟨rfl, ⟨rfl, trivial⟩⟩ hS ⟨k0, trivial⟩ ?_
  unfold pk_tableOf_m at hm
  refine GL.seq ?_
  refine GL.region ?_
  refine RL.box (t := TR.int) (e := x1) rfl rfl rfl rfl VR.int ?_
  intro v4
  refine RL.asg rfl rfl rfl ?_
  refine RL.finG ?_
  refine GL.seq ?_
  obtain ⟨y12, K13, h14, h15, h16, h17, h18⟩ := bindR_K hm
  refine GL.join (ι := Bool) (fun (p : Bool) => [(4, .bool p)]) (fun (p : Bool) => []) (fun (p : Bool) => K13 (.nx p)) ?_ ?_
  · skip
    refine GL.region ?_
    refine RL.mv rfl rfl rfl ?_
    refine RL.lenS 0 Try.underlying22 rfl rfl rfl rfl SlOf.imm ?_
    refine RL.ldPx (off := 0) (e' := x1) 1 Ex.ik Try_ln3 rfl rfl (Or.inr ⟨rfl, rfl⟩) rfl PtOf.obox Part.self ?_
    refine RL.binI (v := .bool (((x0).length : Int) == x1)) rfl rfl rfl rfl rfl ?_
    refine RL.mv rfl rfl rfl ?_
    refine RL.split (t := 9) rfl (fun b19 => ?_) (fun b19 => ?_)
    · replace h14 := ite_t b19 h14
      refine RL.mv rfl rfl rfl ?_
      refine RL.mkF (vs := [v4]) rfl rfl rfl ?_
      obtain ⟨y20, e21, h14⟩ := bind_some h14
      refine RL.callV (v := .bool y20) (vs := [v0, .func (.func 42) #[] #[v4]]) Try_fit22 rfl (Or.inl rfl) rfl rfl rfl rfl (fun U w hU hW hL => slices_ContainsFunc_rows_c U w hU _ _ (hL 0 _ _ rfl Seen.imm) 42 #[v4] Try_fit42 (fun a0 => pk_tableOf_1_m a0 x1) (fun U' w' hle hU' u0 a0 q0 rr hr => (pk_tableOf_1_c U' w' hU' u0 a0 q0 _ _ (TR.vrep_mono hle (hL 1 _ _ rfl Seen.obox)) rr hr).mono (fun _ _ z => z.toV)) _ e21) ?_
      refine RL.notB rfl rfl rfl ?_
      refine RL.pickT rfl rfl rfl rfl ?_
      refine RL.asg rfl rfl rfl ?_
      refine RL.fin ?_
      cases h14
      exact fun a w st => mid_intro (!y20) h15 (St.cut [] ⟨rfl, trivial⟩ (by decide) rfl st)
    · replace h14 := ite_f b19 h14
      refine RL.skip rfl rfl ?_
      refine RL.skip rfl rfl ?_
      refine RL.skip rfl rfl ?_
      refine RL.skip rfl rfl ?_
      refine RL.pickF rfl rfl rfl rfl ?_
      refine RL.asg rfl rfl rfl ?_
      refine RL.fin ?_
      cases h14
      exact fun a w st => mid_intro false h15 (St.cut [] ⟨rfl, trivial⟩ (by decide) rfl st)
  · rintro x11 h22
    have h23 := h16 _ h22
    try dsimp only at h23
    refine GL.weak (env' := [(4, .bool x11)]) (L' := []) (fun _ _ st => st) ?_
    have h23 := Option.some.inj h23
    subst h23
    exact GL.ret (Gx.ret (v := .bool x11) (res1 rfl rfl) (fun a w st => st.toPostV))

set_option maxHeartbeats 4000000 in
theorem pk_WidestOrder_c (S : Hp) (w : World) (hS : S.sub w) (v0 : Value) (x0 : (List (List Int))) (k0 : ((TR.sl (TR.sl TR.int))).vrep S v0 x0) (res : Bool) (hm : pk_WidestOrder_m x0 = some res) : Calls Try.prog 4 #[v0] w (PostV w (.bool res)) := by
  refine calls_enter 117 Try.func4 Try.ntmps4 rfl S false [(0, v0)] [imm (TR.sl (TR.sl TR.int)) v0 x0] rfl ⟨rfl, trivial⟩ hS ⟨k0, trivial⟩ ?_
  unfold pk_WidestOrder_m at hm
  refine GL.seq ?_
  refine GL.region ?_
  refine RL.asg rfl rfl rfl ?_
  refine RL.finG ?_
  refine GL.seq ?_
  refine GL.seq ?_
  refine GL.region ?_
  obtain ⟨y4, e5, hm⟩ := bind_some hm
  refine RL.callV (v := .bool y4) (vs := []) Try_fit14 rfl (Or.inl rfl) rfl rfl rfl rfl (fun U w hU hW hL => pk_wides_c U w hU  _ e5) ?_
  refine RL.notB rfl rfl rfl ?_
  refine RL.finG ?_
  refine GL.cond rfl (fun b6 => ?_) (fun b6 => ?_)
  · replace hm := ite_t b6 hm
    refine GL.seq ?_
    refine GL.region ?_
    refine RL.asg rfl rfl rfl ?_
    refine RL.finG ?_
    have hm := Option.some.inj hm
    subst hm
    exact GL.ret (Gx.ret (v := .bool false) (res1 rfl rfl) (fun a w st => st.toPostV))
  · replace hm := ite_f b6 hm
    refine GL.skip ?_
    refine GL.seq ?_
    refine GL.region ?_
    refine RL.mv rfl rfl rfl ?_
    obtain ⟨y10, e11, hm⟩ := bind_some hm
    refine RL.call (vs := [v0]) Try_fit15 rfl rfl rfl rfl rfl (fun S f w hS hW hi => widest_Paths_c S w hS _ _ (hi 0 _ rfl) _ e11) ?_
    intro v12
    refine RL.mv rfl rfl rfl ?_
    refine RL.ext rfl rfl rfl rfl ?_
    refine RL.ext rfl rfl rfl rfl ?_
    refine RL.asg rfl rfl rfl ?_
    refine RL.asg rfl rfl rfl ?_
    refine RL.finG ?_
    refine GL.seq ?_
    refine GL.region ?_
    refine RL.mv rfl rfl rfl ?_
    obtain ⟨y16, e17, hm⟩ := bind_some hm
    refine RL.call (vs := [v0]) Try_fit17 rfl rfl rfl rfl rfl (fun S f w hS hW hi => widest_Winners_c S w hS _ _ (hi 0 _ rfl) _ e17) ?_
    intro v18
    refine RL.reL (L' := [imm (TR.sl (TR.sl TR.int)) v0 x0, imm (TR.sl (TR.sl TR.int)) v12 y10.1, own 3 TR.int v18 y16.1]) rfl ?_
    refine RL.mv rfl rfl rfl ?_
    refine RL.ext rfl rfl rfl rfl ?_
    refine RL.ext rfl rfl rfl rfl ?_
    refine RL.asg rfl rfl rfl ?_
    refine RL.asg rfl rfl rfl ?_
    refine RL.finG ?_
    refine GL.seq ?_
    refine GL.seq ?_
    obtain ⟨y26, K27, h28, h29, h30, h31, h32⟩ := bindR_K hm
    refine GL.join (ι := Bool) (fun (p : Bool) => [(0, v0), (3, v12), (4, .int .i64 y10.2), (5, v18), (6, .int .i64 y16.2), (30, .bool p)]) (fun (p : Bool) => [imm (TR.sl (TR.sl TR.int)) v0 x0, imm (TR.sl (TR.sl TR.int)) v12 y10.1, own 3 TR.int v18 y16.1]) (fun (p : Bool) => K27 (.nx p)) ?_ ?_
    · skip
      refine GL.region ?_
      refine RL.mv rfl rfl rfl ?_
      refine RL.binI (v := .bool (y10.2 != (0 : Int))) rfl rfl rfl rfl rfl ?_
      refine RL.mv rfl rfl rfl ?_
      refine RL.split (t := 24) rfl (fun b33 => ?_) (fun b33 => ?_)
      · replace h28 := ite_t b33 h28
        refine RL.skip rfl rfl ?_
        refine RL.skip rfl rfl ?_
        refine RL.skip rfl rfl ?_
        refine RL.skip rfl rfl ?_
        refine RL.skip rfl rfl ?_
        refine RL.pickT rfl rfl rfl rfl ?_
        refine RL.fin ?_
        cases h28
        exact fun a w st => mid_intro true h29 (St.cut [0, 1, 2] ⟨rfl, rfl, rfl, rfl, rfl, rfl, trivial⟩ (by decide) rfl st)
      · replace h28 := ite_f b33 h28
        refine RL.mv rfl rfl rfl ?_
        refine RL.mv rfl rfl rfl ?_
        refine RL.lenS 0 Try.underlying22 rfl rfl rfl rfl SlOf.imm ?_
        obtain ⟨y34, e35, h28⟩ := bind_some h28
        refine RL.callV (v := .bool y34) (vs := [v12, .int .i64 ((x0).length : Int)]) Try_fit16 rfl (Or.inl rfl) rfl rfl rfl rfl (fun U w hU hW hL => pk_tableOf_c U w hU _ _ (hL 1 _ _ rfl Seen.imm) ((x0).length : Int) _ e35) ?_
        refine RL.notB rfl rfl rfl ?_
        refine RL.pickF rfl rfl rfl rfl ?_
        refine RL.fin ?_
        cases h28
        exact fun a w st => mid_intro (!y34) h29 (St.cut [0, 1, 2] ⟨rfl, rfl, rfl, rfl, rfl, rfl, trivial⟩ (by decide) rfl st)
    · rintro x25 h36
      have h37 := h30 _ h36
      try dsimp only at h37
      refine GL.weak (env' := [(0, v0), (3, v12), (4, .int .i64 y10.2), (5, v18), (6, .int .i64 y16.2), (30, .bool x25)]) (L' := [imm (TR.sl (TR.sl TR.int)) v0 x0, imm (TR.sl (TR.sl TR.int)) v12 y10.1, own 3 TR.int v18 y16.1]) (fun _ _ st => st) ?_
      refine GL.cond rfl (fun b38 => ?_) (fun b38 => ?_)
      · replace h37 := ite_t b38 h37
        refine GL.seq ?_
        obtain ⟨y44, K45, h46, h47, h48, h49, h50⟩ := bindR_K h37
        refine GL.join (ι := Bool) (fun (p : Bool) => [(2, .bool p)]) (fun (p : Bool) => []) (fun (p : Bool) => K45 (.nx p)) ?_ ?_
        · skip
          refine GL.region ?_
          refine RL.mv rfl rfl rfl ?_
          refine RL.binI (v := .bool (y10.2 != (0 : Int))) rfl rfl rfl rfl rfl ?_
          refine RL.mv rfl rfl rfl ?_
          refine RL.split (t := 33) rfl (fun b51 => ?_) (fun b51 => ?_)
          · replace h46 := ite_t b51 h46
            refine RL.mv rfl rfl rfl ?_
            refine RL.mv rfl rfl rfl ?_
            refine RL.binI (v := .bool (y10.2 == y16.2)) rfl rfl rfl rfl rfl ?_
            refine RL.pickT rfl rfl rfl rfl ?_
            refine RL.mv rfl rfl rfl ?_
            refine RL.split (t := 38) rfl (fun b52 => ?_) (fun b52 => ?_)
            · replace h46 := ite_t b52 h46
              refine RL.mv rfl rfl rfl ?_
              refine RL.lenS 2 Try.underlying28 rfl rfl rfl rfl SlOf.own ?_
              refine RL.binI (v := .bool (((y16.1).length : Int) == (0 : Int))) rfl rfl rfl rfl rfl ?_
              refine RL.pickT rfl rfl rfl rfl ?_
              refine RL.asg rfl rfl rfl ?_
              refine RL.fin ?_
              cases h46
              exact fun a w st => mid_intro (((y16.1).length : Int) == (0 : Int)) h47 (St.cut [] ⟨rfl, trivial⟩ (by decide) rfl st)
            · replace h46 := ite_f b52 h46
              refine RL.skip rfl rfl ?_
              refine RL.skip rfl rfl ?_
              refine RL.skip rfl rfl ?_
              refine RL.pickF rfl rfl rfl rfl ?_
              refine RL.asg rfl rfl rfl ?_
              refine RL.fin ?_
              cases h46
              exact fun a w st => mid_intro false h47 (St.cut [] ⟨rfl, trivial⟩ (by decide) rfl st)
          · replace h46 := ite_f b51 h46
            refine RL.skip rfl rfl ?_
            refine RL.skip rfl rfl ?_
            refine RL.skip rfl rfl ?_
            refine RL.pickF rfl rfl rfl rfl ?_
            refine RL.mv rfl rfl rfl ?_
            refine RL.skip rfl rfl ?_
            refine RL.skip rfl rfl ?_
            refine RL.skip rfl rfl ?_
            refine RL.pickF rfl rfl rfl rfl ?_
            refine RL.asg rfl rfl rfl ?_
            refine RL.fin ?_
            cases h46
            exact fun a w st => mid_intro false h47 (St.cut [] ⟨rfl, trivial⟩ (by decide) rfl st)
        · rintro x43 h53
          have h54 := h48 _ h53
          try dsimp only at h54
          refine GL.weak (env' := [(2, .bool x43)]) (L' := []) (fun _ _ st => st) ?_
          have h54 := Option.some.inj h54
          subst h54
          exact GL.ret (Gx.ret (v := .bool x43) (res1 rfl rfl) (fun a w st => st.toPostV))
      · replace h37 := ite_f b38 h37
        refine GL.skip ?_
        refine GL.seq ?_
        refine GL.seq ?_
        refine GL.region ?_
        refine RL.mv rfl rfl rfl ?_
        refine RL.lenS 0 Try.underlying22 rfl rfl rfl rfl SlOf.imm ?_
        refine RL.mv rfl rfl rfl ?_
        refine RL.finG ?_
        refine GL.open_ 0 rfl (fun S h => len_imm S h) (fun n555 => ?_)
        obtain ⟨y556, K557, h558, h559, h560, h561, h562⟩ := bindR_K h37
        refine GL.join (ι := Unit) (fun (p : Unit) => [(5, v18), (6, .int .i64 y16.2)]) (fun (p : Unit) => [own 3 TR.int v18 y16.1]) (fun (p : Unit) => K557 (.nx ())) ?_ ?_
        · refine GL.block ?_
          refine GL.loop (ι := Nat × (List (List Int))) (fun (p : Nat × (List (List Int))) => [(0, v0), (3, v12), (5, v18), (6, .int .i64 y16.2), (44, .int .i64 ((x0).length : Int)), (45, .int .i64 (p.1 : Int))]) (fun (p : Nat × (List (List Int))) => [imm (TR.sl (TR.sl TR.int)) v0 x0, imm (TR.sl (TR.sl TR.int)) v12 y10.1, own 3 TR.int v18 y16.1]) (fun (p : Nat × (List (List Int))) => p.1 + p.2.length = (x0).length ∧ List.drop p.1 x0 = p.2 ∧ rangeL (pk_WidestOrder_b1 y10 x0) p.2 p.1 () = some y556) (fun (p : Nat × (List (List Int))) => p.2.length) (0, x0) ⟨by simp, by simp, h558⟩ (fun a w st => St.cut [0, 1, 2] ⟨rfl, rfl, rfl, rfl, rfl, rfl, trivial⟩ (by decide) rfl st) ?_
          rintro ⟨i563, r564⟩ ⟨h569, h570, h568⟩
          try dsimp only at h569 h570 h568
          refine GL.weak (env' := [(0, v0), (3, v12), (5, v18), (6, .int .i64 y16.2), (44, .int .i64 ((x0).length : Int)), (45, .int .i64 (i563 : Int))]) (L' := [imm (TR.sl (TR.sl TR.int)) v0 x0, imm (TR.sl (TR.sl TR.int)) v12 y10.1, own 3 TR.int v18 y16.1]) (fun _ _ st => st) ?_
          refine GL.seq ?_
          refine GL.region ?_
          refine RL.binI (v := .bool (decide ((i563 : Int) < ((x0).length : Int)))) rfl rfl rfl rfl rfl ?_
          refine RL.finG ?_
          refine GL.seq ?_
          refine GL.cond rfl (fun b571 => ?_) (fun b571 => ?_)
          · have h572 : i563 < (x0).length := by have := of_decide_eq_true b571; omega
            obtain ⟨y573, r575, hr, e574, h576⟩ := drop_cons h570 rfl h572
            subst hr
            obtain ⟨z565, h566, h567⟩ := rangeL_some h568
            unfold pk_WidestOrder_b1 at h566
            try dsimp only at h566
            refine GL.skip ?_
            refine GL.seq ?_
            refine GL.block ?_
            refine GL.seq ?_
            refine GL.region ?_
            refine RL.mv rfl rfl rfl ?_
            refine RL.asg rfl rfl rfl ?_
            refine RL.finG ?_
            refine GL.seq ?_
            refine GL.region ?_
            refine RL.mv rfl rfl rfl ?_
            refine RL.lenS 0 Try.underlying22 rfl rfl rfl rfl SlOf.imm ?_
            refine RL.mv rfl rfl rfl ?_
            refine RL.finG ?_
            refine GL.open_ 0 rfl (fun S h => len_imm S h) (fun n815 => ?_)
            obtain ⟨y816, K817, h818, h819, h820, h821, h822⟩ := bindF_K h566
            refine GL.join (ι := Unit) (fun (p : Unit) => [(0, v0), (3, v12), (5, v18), (6, .int .i64 y16.2), (44, .int .i64 ((x0).length : Int)), (45, .int .i64 (i563 : Int))]) (fun (p : Unit) => [imm (TR.sl (TR.sl TR.int)) v0 x0, imm (TR.sl (TR.sl TR.int)) v12 y10.1, own 3 TR.int v18 y16.1]) (fun (p : Unit) => K817 (.nx ())) ?_ ?_
            · refine GL.block ?_
              refine GL.loop (ι := Nat × (List (List Int))) (fun (p : Nat × (List (List Int))) => [(0, v0), (3, v12), (5, v18), (6, .int .i64 y16.2), (7, .int .i64 (i563 : Int)), (44, .int .i64 ((x0).length : Int)), (45, .int .i64 (i563 : Int)), (49, .int .i64 ((x0).length : Int)), (50, .int .i64 (p.1 : Int))]) (fun (p : Nat × (List (List Int))) => [imm (TR.sl (TR.sl TR.int)) v0 x0, imm (TR.sl (TR.sl TR.int)) v12 y10.1, own 3 TR.int v18 y16.1]) (fun (p : Nat × (List (List Int))) => p.1 + p.2.length = (x0).length ∧ List.drop p.1 x0 = p.2 ∧ rangeL (pk_WidestOrder_b2 y10 i563 x0) p.2 p.1 () = some y816) (fun (p : Nat × (List (List Int))) => p.2.length) (0, x0) ⟨by simp, by simp, h818⟩ (fun a w st => St.cut [0, 1, 2] ⟨rfl, rfl, rfl, rfl, rfl, rfl, rfl, rfl, rfl, trivial⟩ (by decide) rfl st) ?_
              rintro ⟨i823, r824⟩ ⟨h829, h830, h828⟩
              try dsimp only at h829 h830 h828
              refine GL.weak (env' := [(0, v0), (3, v12), (5, v18), (6, .int .i64 y16.2), (7, .int .i64 (i563 : Int)), (44, .int .i64 ((x0).length : Int)), (45, .int .i64 (i563 : Int)), (49, .int .i64 ((x0).length : Int)), (50, .int .i64 (i823 : Int))]) (L' := [imm (TR.sl (TR.sl TR.int)) v0 x0, imm (TR.sl (TR.sl TR.int)) v12 y10.1, own 3 TR.int v18 y16.1]) (fun _ _ st => st) ?_
              refine GL.seq ?_
              refine GL.region ?_
              refine RL.binI (v := .bool (decide ((i823 : Int) < ((x0).length : Int)))) rfl rfl rfl rfl rfl ?_
              refine RL.finG ?_
              refine GL.seq ?_
              refine GL.cond rfl (fun b831 => ?_) (fun b831 => ?_)
              · have h832 : i823 < (x0).length := by have := of_decide_eq_true b831; omega
                obtain ⟨y833, r835, hr, e834, h836⟩ := drop_cons h830 rfl h832
                subst hr
                obtain ⟨z825, h826, h827⟩ := rangeL_some h828
                unfold pk_WidestOrder_b2 at h826
                try dsimp only at h826
                refine GL.skip ?_
                refine GL.seq ?_
                refine GL.block ?_
                refine GL.seq ?_
                refine GL.region ?_
                refine RL.mv rfl rfl rfl ?_
                refine RL.asg rfl rfl rfl ?_
                refine RL.finG ?_
                refine GL.seq ?_
                refine GL.region ?_
                refine RL.mv rfl rfl rfl ?_
                refine RL.lenS 0 Try.underlying22 rfl rfl rfl rfl SlOf.imm ?_
                refine RL.mv rfl rfl rfl ?_
                refine RL.finG ?_
                refine GL.open_ 0 rfl (fun S h => len_imm S h) (fun n944 => ?_)
                obtain ⟨y945, K946, h947, h948, h949, h950, h951⟩ := bindF_K h826
                refine GL.join (ι := Unit) (fun (p : Unit) => [(0, v0), (3, v12), (5, v18), (6, .int .i64 y16.2), (7, .int .i64 (i563 : Int)), (44, .int .i64 ((x0).length : Int)), (45, .int .i64 (i563 : Int)), (49, .int .i64 ((x0).length : Int)), (50, .int .i64 (i823 : Int))]) (fun (p : Unit) => [imm (TR.sl (TR.sl TR.int)) v0 x0, imm (TR.sl (TR.sl TR.int)) v12 y10.1, own 3 TR.int v18 y16.1]) (fun (p : Unit) => K946 (.nx ())) ?_ ?_
                · refine GL.block ?_
                  refine GL.loop (ι := Nat × (List (List Int))) (fun (p : Nat × (List (List Int))) => [(0, v0), (3, v12), (5, v18), (6, .int .i64 y16.2), (7, .int .i64 (i563 : Int)), (8, .int .i64 (i823 : Int)), (44, .int .i64 ((x0).length : Int)), (45, .int .i64 (i563 : Int)), (49, .int .i64 ((x0).length : Int)), (50, .int .i64 (i823 : Int)), (54, .int .i64 ((x0).length : Int)), (55, .int .i64 (p.1 : Int))]) (fun (p : Nat × (List (List Int))) => [imm (TR.sl (TR.sl TR.int)) v0 x0, imm (TR.sl (TR.sl TR.int)) v12 y10.1, own 3 TR.int v18 y16.1]) (fun (p : Nat × (List (List Int))) => p.1 + p.2.length = (x0).length ∧ List.drop p.1 x0 = p.2 ∧ rangeL (pk_WidestOrder_b3 y10 i563 i823) p.2 p.1 () = some y945) (fun (p : Nat × (List (List Int))) => p.2.length) (0, x0) ⟨by simp, by simp, h947⟩ (fun a w st => St.cut [0, 1, 2] ⟨rfl, rfl, rfl, rfl, rfl, rfl, rfl, rfl, rfl, rfl, rfl, rfl, trivial⟩ (by decide) rfl st) ?_
                  rintro ⟨i952, r953⟩ ⟨h958, h959, h957⟩
                  try dsimp only at h958 h959 h957
                  refine GL.weak (env' := [(0, v0), (3, v12), (5, v18), (6, .int .i64 y16.2), (7, .int .i64 (i563 : Int)), (8, .int .i64 (i823 : Int)), (44, .int .i64 ((x0).length : Int)), (45, .int .i64 (i563 : Int)), (49, .int .i64 ((x0).length : Int)), (50, .int .i64 (i823 : Int)), (54, .int .i64 ((x0).length : Int)), (55, .int .i64 (i952 : Int))]) (L' := [imm (TR.sl (TR.sl TR.int)) v0 x0, imm (TR.sl (TR.sl TR.int)) v12 y10.1, own 3 TR.int v18 y16.1]) (fun _ _ st => st) ?_
                  refine GL.seq ?_
                  refine GL.region ?_
                  refine RL.binI (v := .bool (decide ((i952 : Int) < ((x0).length : Int)))) rfl rfl rfl rfl rfl ?_
                  refine RL.finG ?_
                  refine GL.seq ?_
                  refine GL.cond rfl (fun b960 => ?_) (fun b960 => ?_)
                  · have h961 : i952 < (x0).length := by have := of_decide_eq_true b960; omega
                    obtain ⟨y962, r964, hr, e963, h965⟩ := drop_cons h959 rfl h961
                    subst hr
                    obtain ⟨z954, h955, h956⟩ := rangeL_some h957
                    unfold pk_WidestOrder_b3 at h955
                    try dsimp only at h955
                    refine GL.skip ?_
                    refine GL.seq ?_
                    refine GL.block ?_
                    refine GL.seq ?_
                    refine GL.region ?_
                    refine RL.mv rfl rfl rfl ?_
                    refine RL.asg rfl rfl rfl ?_
                    refine RL.finG ?_
                    refine GL.seq ?_
                    obtain ⟨y1031, K1032, h1033, h1034, h1035, h1036, h1037⟩ := bindF_K h955
                    refine GL.join (ι := Bool) (fun (p : Bool) => [(0, v0), (3, v12), (5, v18), (6, .int .i64 y16.2), (7, .int .i64 (i563 : Int)), (8, .int .i64 (i823 : Int)), (44, .int .i64 ((x0).length : Int)), (45, .int .i64 (i563 : Int)), (49, .int .i64 ((x0).length : Int)), (50, .int .i64 (i823 : Int)), (54, .int .i64 ((x0).length : Int)), (55, .int .i64 (i952 : Int)), (106, .bool p)]) (fun (p : Bool) => [imm (TR.sl (TR.sl TR.int)) v0 x0, imm (TR.sl (TR.sl TR.int)) v12 y10.1, own 3 TR.int v18 y16.1]) (fun (p : Bool) => K1032 (.nx p)) ?_ ?_
                    · skip
                      refine GL.regionQ rfl rfl (by kernel_rfl) ?_
                      refine RL.mv rfl rfl rfl ?_
                      refine RL.mv rfl rfl rfl ?_
                      obtain ⟨y1038, e1039, h1033⟩ := bind_some h1033
                      refine RL.idxS (sz := 1) 1 Try.underlying22 Try_ln28 rfl rfl rfl rfl rfl SlOf.imm (idx_some e1039).1 (idx_some e1039).2.1 ?_
                      refine RL.ldS (i := i563) (r := (TR.sl TR.int)) (e' := y1038) 1 Try_ln28 rfl rfl rfl rfl SlOf.imm (idx_some e1039).2.2 Part.self ?_
                      intro v1040
                      refine RL.mv rfl rfl rfl ?_
                      obtain ⟨y1041, e1042, h1033⟩ := bind_some h1033
                      refine RL.idxS (sz := 1) 3 Try.underlying28 Try_ln3 rfl rfl rfl rfl rfl SlOf.imm (idx_some e1042).1 (idx_some e1042).2.1 ?_
                      refine RL.ldSx (i := i823) (e' := y1041) 3 Ex.ik Try_ln3 rfl rfl rfl rfl SlOf.imm (idx_some e1042).2.2 Part.self ?_
                      refine RL.mv rfl rfl rfl ?_
                      refine RL.mv rfl rfl rfl ?_
                      obtain ⟨y1043, e1044, h1033⟩ := bind_some h1033
                      refine RL.idxS (sz := 1) 1 Try.underlying22 Try_ln28 rfl rfl rfl rfl rfl SlOf.imm (idx_some e1044).1 (idx_some e1044).2.1 ?_
                      refine RL.ldS (i := i823) (r := (TR.sl TR.int)) (e' := y1043) 1 Try_ln28 rfl rfl rfl rfl SlOf.imm (idx_some e1044).2.2 Part.self ?_
                      intro v1045
                      refine RL.reL (L' := [imm (TR.sl (TR.sl TR.int)) v0 x0, imm (TR.sl (TR.sl TR.int)) v12 y10.1, own 3 TR.int v18 y16.1, imm (TR.sl TR.int) v1040 y1038, imm (TR.sl TR.int) v1045 y1043]) rfl ?_
                      refine RL.mv rfl rfl rfl ?_
                      obtain ⟨y1046, e1047, h1033⟩ := bind_some h1033
                      refine RL.idxS (sz := 1) 4 Try.underlying28 Try_ln3 rfl rfl rfl rfl rfl SlOf.imm (idx_some e1047).1 (idx_some e1047).2.1 ?_
                      refine RL.ldSx (i := i563) (e' := y1046) 4 Ex.ik Try_ln3 rfl rfl rfl rfl SlOf.imm (idx_some e1047).2.2 Part.self ?_
                      refine RL.binI (v := .bool (decide (y1041 > y1046))) rfl rfl rfl rfl rfl ?_
                      refine RL.mv rfl rfl rfl ?_
                      refine RL.split (t := 73) rfl (fun b1048 => ?_) (fun b1048 => ?_)
                      · replace h1033 := ite_t b1048 h1033
                        refine RL.mv rfl rfl rfl ?_
                        refine RL.mv rfl rfl rfl ?_
                        obtain ⟨y1049, e1050, h1033⟩ := bind_some h1033
                        refine RL.idxS (sz := 1) 1 Try.underlying22 Try_ln28 rfl rfl rfl rfl rfl SlOf.imm (idx_some e1050).1 (idx_some e1050).2.1 ?_
                        refine RL.ldS (i := i823) (r := (TR.sl TR.int)) (e' := y1049) 1 Try_ln28 rfl rfl rfl rfl SlOf.imm (idx_some e1050).2.2 Part.self ?_
                        intro v1051
                        refine RL.mv rfl rfl rfl ?_
                        obtain ⟨y1052, e1053, h1033⟩ := bind_some h1033
                        refine RL.idxS (sz := 1) 5 Try.underlying28 Try_ln3 rfl rfl rfl rfl rfl SlOf.imm (idx_some e1053).1 (idx_some e1053).2.1 ?_
                        refine RL.ldSx (i := i952) (e' := y1052) 5 Ex.ik Try_ln3 rfl rfl rfl rfl SlOf.imm (idx_some e1053).2.2 Part.self ?_
                        refine RL.mv rfl rfl rfl ?_
                        refine RL.mv rfl rfl rfl ?_
                        obtain ⟨y1054, e1055, h1033⟩ := bind_some h1033
                        refine RL.idxS (sz := 1) 1 Try.underlying22 Try_ln28 rfl rfl rfl rfl rfl SlOf.imm (idx_some e1055).1 (idx_some e1055).2.1 ?_
                        refine RL.ldS (i := i952) (r := (TR.sl TR.int)) (e' := y1054) 1 Try_ln28 rfl rfl rfl rfl SlOf.imm (idx_some e1055).2.2 Part.self ?_
                        intro v1056
                        refine RL.reL (L' := [imm (TR.sl (TR.sl TR.int)) v0 x0, imm (TR.sl (TR.sl TR.int)) v12 y10.1, own 3 TR.int v18 y16.1, imm (TR.sl TR.int) v1040 y1038, imm (TR.sl TR.int) v1045 y1043, imm (TR.sl TR.int) v1051 y1049, imm (TR.sl TR.int) v1056 y1054]) rfl ?_
                        refine RL.mv rfl rfl rfl ?_
                        obtain ⟨y1057, e1058, h1033⟩ := bind_some h1033
                        refine RL.idxS (sz := 1) 6 Try.underlying28 Try_ln3 rfl rfl rfl rfl rfl SlOf.imm (idx_some e1058).1 (idx_some e1058).2.1 ?_
                        refine RL.ldSx (i := i823) (e' := y1057) 6 Ex.ik Try_ln3 rfl rfl rfl rfl SlOf.imm (idx_some e1058).2.2 Part.self ?_
                        refine RL.binI (v := .bool (decide (y1052 > y1057))) rfl rfl rfl rfl rfl ?_
                        refine RL.pickT rfl rfl rfl rfl ?_
                        refine RL.mv rfl rfl rfl ?_
                        refine RL.split (t := 90) rfl (fun b1059 => ?_) (fun b1059 => ?_)
                        · replace h1033 := ite_t b1059 h1033
                          refine RL.mv rfl rfl rfl ?_
                          refine RL.mv rfl rfl rfl ?_
                          obtain ⟨y1060, e1061, h1033⟩ := bind_some h1033
                          refine RL.idxS (sz := 1) 1 Try.underlying22 Try_ln28 rfl rfl rfl rfl rfl SlOf.imm (idx_some e1061).1 (idx_some e1061).2.1 ?_
                          refine RL.ldS (i := i563) (r := (TR.sl TR.int)) (e' := y1060) 1 Try_ln28 rfl rfl rfl rfl SlOf.imm (idx_some e1061).2.2 Part.self ?_
                          intro v1062
                          refine RL.mv rfl rfl rfl ?_
                          obtain ⟨y1063, e1064, h1033⟩ := bind_some h1033
                          refine RL.idxS (sz := 1) 7 Try.underlying28 Try_ln3 rfl rfl rfl rfl rfl SlOf.imm (idx_some e1064).1 (idx_some e1064).2.1 ?_
                          refine RL.ldSx (i := i952) (e' := y1063) 7 Ex.ik Try_ln3 rfl rfl rfl rfl SlOf.imm (idx_some e1064).2.2 Part.self ?_
                          refine RL.mv rfl rfl rfl ?_
                          refine RL.mv rfl rfl rfl ?_
                          obtain ⟨y1065, e1066, h1033⟩ := bind_some h1033
                          refine RL.idxS (sz := 1) 1 Try.underlying22 Try_ln28 rfl rfl rfl rfl rfl SlOf.imm (idx_some e1066).1 (idx_some e1066).2.1 ?_
                          refine RL.ldS (i := i952) (r := (TR.sl TR.int)) (e' := y1065) 1 Try_ln28 rfl rfl rfl rfl SlOf.imm (idx_some e1066).2.2 Part.self ?_
                          intro v1067
                          refine RL.reL (L' := [imm (TR.sl (TR.sl TR.int)) v0 x0, imm (TR.sl (TR.sl TR.int)) v12 y10.1, own 3 TR.int v18 y16.1, imm (TR.sl TR.int) v1040 y1038, imm (TR.sl TR.int) v1045 y1043, imm (TR.sl TR.int) v1051 y1049, imm (TR.sl TR.int) v1056 y1054, imm (TR.sl TR.int) v1062 y1060, imm (TR.sl TR.int) v1067 y1065]) rfl ?_
                          refine RL.mv rfl rfl rfl ?_
                          obtain ⟨y1068, e1069, h1033⟩ := bind_some h1033
                          refine RL.idxS (sz := 1) 8 Try.underlying28 Try_ln3 rfl rfl rfl rfl rfl SlOf.imm (idx_some e1069).1 (idx_some e1069).2.1 ?_
                          refine RL.ldSx (i := i563) (e' := y1068) 8 Ex.ik Try_ln3 rfl rfl rfl rfl SlOf.imm (idx_some e1069).2.2 Part.self ?_
                          refine RL.binI (v := .bool (decide (y1063 ≤ y1068))) rfl rfl rfl rfl rfl ?_
                          refine RL.pickT rfl rfl rfl rfl ?_
                          refine RL.finQ ?_
                          cases h1033
                          exact fun a w st => mid_intro (decide (y1063 ≤ y1068)) h1034 (St.cut [0, 1, 2] ⟨rfl, rfl, rfl, rfl, rfl, rfl, rfl, rfl, rfl, rfl, rfl, rfl, rfl, trivial⟩ (by decide) rfl st)
                        · replace h1033 := ite_f b1059 h1033
                          refine RL.skip rfl rfl ?_
                          refine RL.skip rfl rfl ?_
                          refine RL.skip rfl rfl ?_
                          refine RL.skip rfl rfl ?_
                          refine RL.skip rfl rfl ?_
                          refine RL.skip rfl rfl ?_
                          refine RL.skip rfl rfl ?_
                          refine RL.skip rfl rfl ?_
                          refine RL.skip rfl rfl ?_
                          refine RL.skip rfl rfl ?_
                          refine RL.skip rfl rfl ?_
                          refine RL.skip rfl rfl ?_
                          refine RL.skip rfl rfl ?_
                          refine RL.skip rfl rfl ?_
                          refine RL.skip rfl rfl ?_
                          refine RL.pickF rfl rfl rfl rfl ?_
                          refine RL.finQ ?_
                          cases h1033
                          exact fun a w st => mid_intro false h1034 (St.cut [0, 1, 2] ⟨rfl, rfl, rfl, rfl, rfl, rfl, rfl, rfl, rfl, rfl, rfl, rfl, rfl, trivial⟩ (by decide) rfl st)
                      · replace h1033 := ite_f b1048 h1033
                        refine RL.skip rfl rfl ?_
                        refine RL.skip rfl rfl ?_
                        refine RL.skip rfl rfl ?_
                        refine RL.skip rfl rfl ?_
                        refine RL.skip rfl rfl ?_
                        refine RL.skip rfl rfl ?_
                        refine RL.skip rfl rfl ?_
                        refine RL.skip rfl rfl ?_
                        refine RL.skip rfl rfl ?_
                        refine RL.skip rfl rfl ?_
                        refine RL.skip rfl rfl ?_
                        refine RL.skip rfl rfl ?_
                        refine RL.skip rfl rfl ?_
                        refine RL.skip rfl rfl ?_
                        refine RL.skip rfl rfl ?_
                        refine RL.pickF rfl rfl rfl rfl ?_
                        refine RL.mv rfl rfl rfl ?_
                        refine RL.skip rfl rfl ?_
                        refine RL.skip rfl rfl ?_
                        refine RL.skip rfl rfl ?_
                        refine RL.skip rfl rfl ?_
                        refine RL.skip rfl rfl ?_
                        refine RL.skip rfl rfl ?_
                        refine RL.skip rfl rfl ?_
                        refine RL.skip rfl rfl ?_
                        refine RL.skip rfl rfl ?_
                        refine RL.skip rfl rfl ?_
                        refine RL.skip rfl rfl ?_
                        refine RL.skip rfl rfl ?_
                        refine RL.skip rfl rfl ?_
                        refine RL.skip rfl rfl ?_
                        refine RL.skip rfl rfl ?_
                        refine RL.pickF rfl rfl rfl rfl ?_
                        refine RL.finQ ?_
                        cases h1033
                        exact fun a w st => mid_intro false h1034 (St.cut [0, 1, 2] ⟨rfl, rfl, rfl, rfl, rfl, rfl, rfl, rfl, rfl, rfl, rfl, rfl, rfl, trivial⟩ (by decide) rfl st)
                    · rintro x1030 h1070
                      have h1071 := h1035 _ h1070
                      try dsimp only at h1071
                      refine GL.weak (env' := [(0, v0), (3, v12), (5, v18), (6, .int .i64 y16.2), (7, .int .i64 (i563 : Int)), (8, .int .i64 (i823 : Int)), (44, .int .i64 ((x0).length : Int)), (45, .int .i64 (i563 : Int)), (49, .int .i64 ((x0).length : Int)), (50, .int .i64 (i823 : Int)), (54, .int .i64 ((x0).length : Int)), (55, .int .i64 (i952 : Int)), (106, .bool x1030)]) (L' := [imm (TR.sl (TR.sl TR.int)) v0 x0, imm (TR.sl (TR.sl TR.int)) v12 y10.1, own 3 TR.int v18 y16.1]) (fun _ _ st => st) ?_
                      refine GL.cond rfl (fun b1072 => ?_) (fun b1072 => ?_)
                      · replace h1071 := ite_t b1072 h1071
                        refine GL.seq ?_
                        refine GL.region ?_
                        refine RL.asg rfl rfl rfl ?_
                        refine RL.finG ?_
                        cases h1071
                        replace h956 : some (Fl.rt _) = some y945 := h956
                        cases h956
                        have hh := h950 _ h948
                        subst hh
                        replace h827 : some (Fl.rt _) = some y816 := h827
                        cases h827
                        have hh := h821 _ h819
                        subst hh
                        replace h567 : some (Fl.rt _) = some y556 := h567
                        cases h567
                        have hh := h561 _ h559
                        subst hh
                        exact GL.ret (Gx.ret (v := .bool false) (res1 rfl rfl) (fun a w st => st.toPostV))
                      · replace h1071 := ite_f b1072 h1071
                        refine GL.skip ?_
                        refine GL.nilB ?_
                        refine GL.region ?_
                        refine RL.binI (v := .int .i64 ((i952 + 1 : Nat) : Int)) rfl rfl rfl rfl (binI_succ i952 (by omega)) ?_
                        refine RL.mv rfl rfl rfl ?_
                        refine RL.fin ?_
                        cases h1071
                        exact fun a w st => lop_intro (i952 + 1, r964) ⟨by show i952 + 1 + r964.length = (x0).length; simp only [List.length_cons] at h958; omega, h965, h956⟩ (by simp) (St.cut [0, 1, 2] ⟨rfl, rfl, rfl, rfl, rfl, rfl, rfl, rfl, rfl, rfl, rfl, rfl, trivial⟩ (by decide) rfl st)
                  · have h961 : ¬ i952 < (x0).length := by have := of_decide_eq_false b960; omega
                    obtain rfl : r953 = [] := by rw [← h959]; exact List.drop_of_length_le (by omega)
                    replace h957 : some (Fl.nx _) = some y945 := h957
                    cases h957
                    exact GL.exit (fun a w st => mid_intro () h948 (St.cut [0, 1, 2] ⟨rfl, rfl, rfl, rfl, rfl, rfl, rfl, rfl, rfl, trivial⟩ (by decide) rfl st))
                · rintro ⟨⟩ h1073
                  have h1074 := h949 _ h1073
                  try dsimp only at h1074
                  refine GL.weak (env' := [(0, v0), (3, v12), (5, v18), (6, .int .i64 y16.2), (7, .int .i64 (i563 : Int)), (44, .int .i64 ((x0).length : Int)), (45, .int .i64 (i563 : Int)), (49, .int .i64 ((x0).length : Int)), (50, .int .i64 (i823 : Int))]) (L' := [imm (TR.sl (TR.sl TR.int)) v0 x0, imm (TR.sl (TR.sl TR.int)) v12 y10.1, own 3 TR.int v18 y16.1]) (fun _ _ st => st) ?_
                  refine GL.nilB ?_
                  refine GL.region ?_
                  refine RL.binI (v := .int .i64 ((i823 + 1 : Nat) : Int)) rfl rfl rfl rfl (binI_succ i823 (by omega)) ?_
                  refine RL.mv rfl rfl rfl ?_
                  refine RL.fin ?_
                  cases h1074
                  exact fun a w st => lop_intro (i823 + 1, r835) ⟨by show i823 + 1 + r835.length = (x0).length; simp only [List.length_cons] at h829; omega, h836, h827⟩ (by simp) (St.cut [0, 1, 2] ⟨rfl, rfl, rfl, rfl, rfl, rfl, rfl, rfl, rfl, trivial⟩ (by decide) rfl st)
              · have h832 : ¬ i823 < (x0).length := by have := of_decide_eq_false b831; omega
                obtain rfl : r824 = [] := by rw [← h830]; exact List.drop_of_length_le (by omega)
                replace h828 : some (Fl.nx _) = some y816 := h828
                cases h828
                exact GL.exit (fun a w st => mid_intro () h819 (St.cut [0, 1, 2] ⟨rfl, rfl, rfl, rfl, rfl, rfl, trivial⟩ (by decide) rfl st))
            · rintro ⟨⟩ h1075
              have h1076 := h820 _ h1075
              try dsimp only at h1076
              refine GL.weak (env' := [(0, v0), (3, v12), (5, v18), (6, .int .i64 y16.2), (44, .int .i64 ((x0).length : Int)), (45, .int .i64 (i563 : Int))]) (L' := [imm (TR.sl (TR.sl TR.int)) v0 x0, imm (TR.sl (TR.sl TR.int)) v12 y10.1, own 3 TR.int v18 y16.1]) (fun _ _ st => st) ?_
              refine GL.nilB ?_
              refine GL.region ?_
              refine RL.binI (v := .int .i64 ((i563 + 1 : Nat) : Int)) rfl rfl rfl rfl (binI_succ i563 (by omega)) ?_
              refine RL.mv rfl rfl rfl ?_
              refine RL.fin ?_
              cases h1076
              exact fun a w st => lop_intro (i563 + 1, r575) ⟨by show i563 + 1 + r575.length = (x0).length; simp only [List.length_cons] at h569; omega, h576, h567⟩ (by simp) (St.cut [0, 1, 2] ⟨rfl, rfl, rfl, rfl, rfl, rfl, trivial⟩ (by decide) rfl st)
          · have h572 : ¬ i563 < (x0).length := by have := of_decide_eq_false b571; omega
            obtain rfl : r564 = [] := by rw [← h570]; exact List.drop_of_length_le (by omega)
            replace h568 : some (Fl.nx _) = some y556 := h568
            cases h568
            exact GL.exit (fun a w st => mid_intro () h559 (St.cut [2] ⟨rfl, rfl, trivial⟩ (by decide) rfl st))
        · rintro ⟨⟩ h1077
          have h1078 := h560 _ h1077
          try dsimp only at h1078
          refine GL.weak (env' := [(5, v18), (6, .int .i64 y16.2)]) (L' := [own 3 TR.int v18 y16.1]) (fun _ _ st => st) ?_
          refine GL.seq ?_
          obtain ⟨y1082, K1083, h1084, h1085, h1086, h1087, h1088⟩ := bindR_K h1078
          refine GL.join (ι := Bool) (fun (p : Bool) => [(2, .bool p)]) (fun (p : Bool) => []) (fun (p : Bool) => K1083 (.nx p)) ?_ ?_
          · skip
            refine GL.region ?_
            refine RL.mv rfl rfl rfl ?_
            refine RL.binI (v := .bool (y16.2 == (0 : Int))) rfl rfl rfl rfl rfl ?_
            refine RL.mv rfl rfl rfl ?_
            refine RL.split (t := 112) rfl (fun b1089 => ?_) (fun b1089 => ?_)
            · replace h1084 := ite_t b1089 h1084
              refine RL.mv rfl rfl rfl ?_
              refine RL.lenS 0 Try.underlying28 rfl rfl rfl rfl SlOf.own ?_
              refine RL.binI (v := .bool (decide (((y16.1).length : Int) > (0 : Int)))) rfl rfl rfl rfl rfl ?_
              refine RL.pickT rfl rfl rfl rfl ?_
              refine RL.asg rfl rfl rfl ?_
              refine RL.fin ?_
              cases h1084
              exact fun a w st => mid_intro (decide (((y16.1).length : Int) > (0 : Int))) h1085 (St.cut [] ⟨rfl, trivial⟩ (by decide) rfl st)
            · replace h1084 := ite_f b1089 h1084
              refine RL.skip rfl rfl ?_
              refine RL.skip rfl rfl ?_
              refine RL.skip rfl rfl ?_
              refine RL.pickF rfl rfl rfl rfl ?_
              refine RL.asg rfl rfl rfl ?_
              refine RL.fin ?_
              cases h1084
              exact fun a w st => mid_intro false h1085 (St.cut [] ⟨rfl, trivial⟩ (by decide) rfl st)
          · rintro x1081 h1090
            have h1091 := h1086 _ h1090
            try dsimp only at h1091
            refine GL.weak (env' := [(2, .bool x1081)]) (L' := []) (fun _ _ st => st) ?_
            have h1091 := Option.some.inj h1091
            subst h1091
            exact GL.ret (Gx.ret (v := .bool x1081) (res1 rfl rfl) (fun a w st => st.toPostV))
end Go.Wk
