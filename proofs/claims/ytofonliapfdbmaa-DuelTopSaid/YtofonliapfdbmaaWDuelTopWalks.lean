/- Each function comes to what its model says; printed by a program of this repository. -/
import Derived.Test.YtofonliapfdbmaaProg
import Derived.Test.YtofonliapfdbmaaWDuelTopModels
namespace Go.Wk
open Go.Fw Go.Mo Go.Proofs Go.RowKit
set_option linter.unusedVariables false
set_option maxRecDepth 100000
theorem Try_info3 : (Try.prog.info? 3).map (fun i => (i.zero, i.size, i.bytes)) = some (some (.int .i64 0), 1, 8) := by kernel_rfl
theorem Try_ln3 : Ln Try.prog 3 1 false := Ln.of Try_info3 Try.underlying3 rfl
theorem Try_lo3 : LnO Try.prog 3 1 [.int .i64 0] := LnO.of Try_info3 rfl rfl (by decide) (by decide)
theorem Try_info24 : (Try.prog.info? 24).map (fun i => (i.zero, i.size, i.bytes)) = some (some (.int .i64 0), 1, 8) := by kernel_rfl
theorem Try_ln24 : Ln Try.prog 24 1 false := Ln.of Try_info24 Try.underlying24 rfl
theorem Try_lo24 : LnO Try.prog 24 1 [.int .i64 0] := LnO.of Try_info24 rfl rfl (by decide) (by decide)
theorem Try_info28 : (Try.prog.info? 28).map (fun i => (i.zero, i.size, i.bytes)) = some (some (.slice none 0 0), 1, 24) := by kernel_rfl
theorem Try_ln28 : Ln Try.prog 28 1 false := Ln.of Try_info28 Try.underlying28 rfl
theorem Try_lo28 : LnO Try.prog 28 1 [.slice none 0 0] := LnO.of Try_info28 rfl rfl (by decide) (by decide)
theorem Try_fit19 : Fit Try.prog 19 := Fit.of Try.func19 (by kernel_rfl) rfl
theorem Try_fit25 : Fit Try.prog 25 := Fit.of Try.func25 (by kernel_rfl) rfl
theorem Try_fit26 : Fit Try.prog 26 := Fit.of Try.func26 (by kernel_rfl) rfl
theorem Try_fit27 : Fit Try.prog 27 := Fit.of Try.func27 (by kernel_rfl) rfl
theorem Try_fit28 : Fit Try.prog 28 := Fit.of Try.func28 (by kernel_rfl) rfl
theorem Try_fit33 : Fit Try.prog 33 := Fit.of Try.func33 (by kernel_rfl) rfl
theorem Try_fit41 : Fit Try.prog 41 := Fit.of Try.func41 (by kernel_rfl) rfl
theorem Try_fit46 : Fit Try.prog 46 := Fit.of Try.func46 (by kernel_rfl) rfl
theorem Try_fit47 : Fit Try.prog 47 := Fit.of Try.func47 (by kernel_rfl) rfl
theorem Try_fit48 : Fit Try.prog 48 := Fit.of Try.func48 (by kernel_rfl) rfl
theorem Try_fit54 : Fit Try.prog 54 := Fit.of Try.func54 (by kernel_rfl) rfl

set_option maxHeartbeats 4000000 in
theorem duel_Check_c (S : Hp) (w : World) (hS : S.sub w) (v0 : Value) (x0 : (List (List Int))) (k0 : ((TR.sl (TR.sl TR.int))).vrep S v0 x0) (res : Int) (hm : duel_Check_m x0 = some res) : Calls Try.prog 41 #[v0] w (PostC w (.int .i64 res)) := by
  refine calls_enter 55 Try.func41 Try.ntmps41 rfl S true [(0, v0)] [imm (TR.sl (TR.sl TR.int)) v0 x0] rfl ⟨rfl, trivial⟩ hS ⟨k0, trivial⟩ ?_
  unfold duel_Check_m at hm
  refine GL.seq ?_
  refine GL.region ?_
  refine RL.asg rfl rfl rfl ?_
  refine RL.finG ?_
  refine GL.seq ?_
  refine GL.seq ?_
  obtain ⟨y5, K6, h7, h8, h9, h10, h11⟩ := bindR_K hm
  refine GL.join (ι := Bool) (fun (p : Bool) => [(0, v0), (15, .bool p)]) (fun (p : Bool) => [imm (TR.sl (TR.sl TR.int)) v0 x0]) (fun (p : Bool) => K6 (.nx p)) ?_ ?_
  · skip
    refine GL.region ?_
    refine RL.mv rfl rfl rfl ?_
    refine RL.lenS 0 Try.underlying22 rfl rfl rfl rfl SlOf.imm ?_
    refine RL.binI (v := .bool (decide (((x0).length : Int) < (1 : Int)))) rfl rfl rfl rfl rfl ?_
    refine RL.mv rfl rfl rfl ?_
    refine RL.split (t := 11) rfl (fun b12 => ?_) (fun b12 => ?_)
    · replace h7 := ite_t b12 h7
      refine RL.skip rfl rfl ?_
      refine RL.skip rfl rfl ?_
      refine RL.skip rfl rfl ?_
      refine RL.pickT rfl rfl rfl rfl ?_
      refine RL.fin ?_
      cases h7
      exact fun a w st => mid_intro true h8 (St.cut [0] ⟨rfl, rfl, trivial⟩ (by decide) rfl st)
    · replace h7 := ite_f b12 h7
      refine RL.mv rfl rfl rfl ?_
      refine RL.lenS 0 Try.underlying22 rfl rfl rfl rfl SlOf.imm ?_
      refine RL.binI (v := .bool (decide (((x0).length : Int) > (6 : Int)))) rfl rfl rfl rfl rfl ?_
      refine RL.pickF rfl rfl rfl rfl ?_
      refine RL.fin ?_
      cases h7
      exact fun a w st => mid_intro (decide (((x0).length : Int) > (6 : Int))) h8 (St.cut [0] ⟨rfl, rfl, trivial⟩ (by decide) rfl st)
  · rintro x4 h13
    have h14 := h9 _ h13
    try dsimp only at h14
    refine GL.weak (env' := [(0, v0), (15, .bool x4)]) (L' := [imm (TR.sl (TR.sl TR.int)) v0 x0]) (fun _ _ st => st) ?_
    refine GL.cond rfl (fun b15 => ?_) (fun b15 => ?_)
    · replace h14 := ite_t b15 h14
      refine GL.seq ?_
      refine GL.region ?_
      refine RL.asg rfl rfl rfl ?_
      refine RL.finG ?_
      have h14 := Option.some.inj h14
      subst h14
      exact GL.ret (Gx.ret (v := .int .i64 (2 : Int)) (res1 rfl rfl) (fun a w st => st.toPostC rfl))
    · replace h14 := ite_f b15 h14
      refine GL.skip ?_
      refine GL.seq ?_
      refine GL.seq ?_
      refine GL.region ?_
      refine RL.mv rfl rfl rfl ?_
      refine RL.lenS 0 Try.underlying22 rfl rfl rfl rfl SlOf.imm ?_
      refine RL.mv rfl rfl rfl ?_
      refine RL.finG ?_
      refine GL.open_ 0 rfl (fun S h => len_imm S h) (fun n79 => ?_)
      obtain ⟨y80, K81, h82, h83, h84, h85, h86⟩ := bindR_K h14
      refine GL.join (ι := Unit) (fun (p : Unit) => [(0, v0)]) (fun (p : Unit) => [imm (TR.sl (TR.sl TR.int)) v0 x0]) (fun (p : Unit) => K81 (.nx ())) ?_ ?_
      · refine GL.block ?_
        refine GL.loop (ι := Nat × (List (List Int))) (fun (p : Nat × (List (List Int))) => [(0, v0), (16, v0), (17, .int .i64 ((x0).length : Int)), (18, .int .i64 (p.1 : Int))]) (fun (p : Nat × (List (List Int))) => [imm (TR.sl (TR.sl TR.int)) v0 x0]) (fun (p : Nat × (List (List Int))) => p.1 + p.2.length = (x0).length ∧ List.drop p.1 x0 = p.2 ∧ rangeL (duel_Check_b1 x0) p.2 p.1 () = some y80) (fun (p : Nat × (List (List Int))) => p.2.length) (0, x0) ⟨by simp, by simp, h82⟩ (fun a w st => St.cut [0] ⟨rfl, rfl, rfl, rfl, trivial⟩ (by decide) rfl st) ?_
        rintro ⟨i87, r88⟩ ⟨h93, h94, h92⟩
        try dsimp only at h93 h94 h92
        refine GL.weak (env' := [(0, v0), (16, v0), (17, .int .i64 ((x0).length : Int)), (18, .int .i64 (i87 : Int))]) (L' := [imm (TR.sl (TR.sl TR.int)) v0 x0]) (fun _ _ st => st) ?_
        refine GL.seq ?_
        refine GL.region ?_
        refine RL.binI (v := .bool (decide ((i87 : Int) < ((x0).length : Int)))) rfl rfl rfl rfl rfl ?_
        refine RL.finG ?_
        refine GL.seq ?_
        refine GL.cond rfl (fun b95 => ?_) (fun b95 => ?_)
        · have h96 : i87 < (x0).length := by have := of_decide_eq_true b95; omega
          obtain ⟨y97, r99, hr, e98, h100⟩ := drop_cons h94 rfl h96
          subst hr
          obtain ⟨z89, h90, h91⟩ := rangeL_some h92
          unfold duel_Check_b1 at h90
          try dsimp only at h90
          refine GL.skip ?_
          refine GL.seq ?_
          refine GL.block ?_
          refine GL.seq ?_
          refine GL.region ?_
          refine RL.idxS (sz := 1) 0 Try.underlying22 Try_ln28 rfl rfl rfl rfl rfl SlOf.imm (by omega) (by omega) ?_
          refine RL.ldS (i := i87) (r := (TR.sl TR.int)) (e' := y97) 0 Try_ln28 rfl rfl rfl rfl SlOf.imm e98 Part.self ?_
          intro v102
          refine RL.asg rfl rfl rfl ?_
          refine RL.finG ?_
          refine GL.seq ?_
          refine GL.seq ?_
          refine GL.region ?_
          refine RL.mv rfl rfl rfl ?_
          refine RL.lenS 1 Try.underlying28 rfl rfl rfl rfl SlOf.imm ?_
          refine RL.mv rfl rfl rfl ?_
          refine RL.lenS 0 Try.underlying22 rfl rfl rfl rfl SlOf.imm ?_
          refine RL.binI (v := .bool (((y97).length : Int) != ((x0).length : Int))) rfl rfl rfl rfl rfl ?_
          refine RL.finG ?_
          refine GL.cond rfl (fun b103 => ?_) (fun b103 => ?_)
          · replace h90 := ite_t b103 h90
            refine GL.seq ?_
            refine GL.region ?_
            refine RL.asg rfl rfl rfl ?_
            refine RL.finG ?_
            cases h90
            replace h91 : some (Fl.rt _) = some y80 := h91
            cases h91
            have hh := h85 _ h83
            subst hh
            exact GL.ret (Gx.ret (v := .int .i64 (3 : Int)) (res1 rfl rfl) (fun a w st => st.toPostC rfl))
          · replace h90 := ite_f b103 h90
            refine GL.skip ?_
            refine GL.seq ?_
            refine GL.region ?_
            refine RL.mv rfl rfl rfl ?_
            refine RL.lenS 1 Try.underlying28 rfl rfl rfl rfl SlOf.imm ?_
            refine RL.mv rfl rfl rfl ?_
            refine RL.finG ?_
            refine GL.open_ 1 rfl (fun S h => len_imm S h) (fun n122 => ?_)
            obtain ⟨y123, K124, h125, h126, h127, h128, h129⟩ := bindF_K h90
            refine GL.join (ι := Unit) (fun (p : Unit) => [(0, v0), (16, v0), (17, .int .i64 ((x0).length : Int)), (18, .int .i64 (i87 : Int))]) (fun (p : Unit) => [imm (TR.sl (TR.sl TR.int)) v0 x0]) (fun (p : Unit) => K124 (.nx ())) ?_ ?_
            · refine GL.block ?_
              refine GL.loop (ι := Nat × (List Int)) (fun (p : Nat × (List Int)) => [(0, v0), (16, v0), (17, .int .i64 ((x0).length : Int)), (18, .int .i64 (i87 : Int)), (27, v102), (28, .int .i64 ((y97).length : Int)), (29, .int .i64 (p.1 : Int))]) (fun (p : Nat × (List Int)) => [imm (TR.sl (TR.sl TR.int)) v0 x0, imm (TR.sl TR.int) v102 y97]) (fun (p : Nat × (List Int)) => p.1 + p.2.length = (y97).length ∧ List.drop p.1 y97 = p.2 ∧ rangeL duel_Check_b2 p.2 p.1 () = some y123) (fun (p : Nat × (List Int)) => p.2.length) (0, y97) ⟨by simp, by simp, h125⟩ (fun a w st => St.cut [0, 1] ⟨rfl, rfl, rfl, rfl, rfl, rfl, rfl, trivial⟩ (by decide) rfl st) ?_
              rintro ⟨i130, r131⟩ ⟨h136, h137, h135⟩
              try dsimp only at h136 h137 h135
              refine GL.weak (env' := [(0, v0), (16, v0), (17, .int .i64 ((x0).length : Int)), (18, .int .i64 (i87 : Int)), (27, v102), (28, .int .i64 ((y97).length : Int)), (29, .int .i64 (i130 : Int))]) (L' := [imm (TR.sl (TR.sl TR.int)) v0 x0, imm (TR.sl TR.int) v102 y97]) (fun _ _ st => st) ?_
              refine GL.seq ?_
              refine GL.region ?_
              refine RL.binI (v := .bool (decide ((i130 : Int) < ((y97).length : Int)))) rfl rfl rfl rfl rfl ?_
              refine RL.finG ?_
              refine GL.seq ?_
              refine GL.cond rfl (fun b138 => ?_) (fun b138 => ?_)
              · have h139 : i130 < (y97).length := by have := of_decide_eq_true b138; omega
                obtain ⟨y140, r142, hr, e141, h143⟩ := drop_cons h137 rfl h139
                subst hr
                obtain ⟨z132, h133, h134⟩ := rangeL_some h135
                unfold duel_Check_b2 at h133
                try dsimp only at h133
                refine GL.skip ?_
                refine GL.seq ?_
                refine GL.block ?_
                refine GL.seq ?_
                refine GL.region ?_
                refine RL.idxS (sz := 1) 1 Try.underlying28 Try_ln3 rfl rfl rfl rfl rfl SlOf.imm (by omega) (by omega) ?_
                refine RL.ldSx (i := i130) (e' := y140) 1 Ex.ik Try_ln3 rfl rfl rfl rfl SlOf.imm e141 Part.self ?_
                refine RL.asg rfl rfl rfl ?_
                refine RL.finG ?_
                refine GL.seq ?_
                obtain ⟨y147, K148, h149, h150, h151, h152, h153⟩ := bindF_K h133
                refine GL.join (ι := Bool) (fun (p : Bool) => [(0, v0), (16, v0), (17, .int .i64 ((x0).length : Int)), (18, .int .i64 (i87 : Int)), (27, v102), (28, .int .i64 ((y97).length : Int)), (29, .int .i64 (i130 : Int)), (38, .bool p)]) (fun (p : Bool) => [imm (TR.sl (TR.sl TR.int)) v0 x0, imm (TR.sl TR.int) v102 y97]) (fun (p : Bool) => K148 (.nx p)) ?_ ?_
                · skip
                  refine GL.region ?_
                  refine RL.mv rfl rfl rfl ?_
                  refine RL.binI (v := .bool (decide (y140 < (0 : Int)))) rfl rfl rfl rfl rfl ?_
                  refine RL.mv rfl rfl rfl ?_
                  refine RL.split (t := 35) rfl (fun b154 => ?_) (fun b154 => ?_)
                  · replace h149 := ite_t b154 h149
                    refine RL.skip rfl rfl ?_
                    refine RL.skip rfl rfl ?_
                    refine RL.pickT rfl rfl rfl rfl ?_
                    refine RL.fin ?_
                    cases h149
                    exact fun a w st => mid_intro true h150 (St.cut [0, 1] ⟨rfl, rfl, rfl, rfl, rfl, rfl, rfl, rfl, trivial⟩ (by decide) rfl st)
                  · replace h149 := ite_f b154 h149
                    refine RL.mv rfl rfl rfl ?_
                    refine RL.binI (v := .bool (decide (y140 > (30 : Int)))) rfl rfl rfl rfl rfl ?_
                    refine RL.pickF rfl rfl rfl rfl ?_
                    refine RL.fin ?_
                    cases h149
                    exact fun a w st => mid_intro (decide (y140 > (30 : Int))) h150 (St.cut [0, 1] ⟨rfl, rfl, rfl, rfl, rfl, rfl, rfl, rfl, trivial⟩ (by decide) rfl st)
                · rintro x146 h155
                  have h156 := h151 _ h155
                  try dsimp only at h156
                  refine GL.weak (env' := [(0, v0), (16, v0), (17, .int .i64 ((x0).length : Int)), (18, .int .i64 (i87 : Int)), (27, v102), (28, .int .i64 ((y97).length : Int)), (29, .int .i64 (i130 : Int)), (38, .bool x146)]) (L' := [imm (TR.sl (TR.sl TR.int)) v0 x0, imm (TR.sl TR.int) v102 y97]) (fun _ _ st => st) ?_
                  refine GL.cond rfl (fun b157 => ?_) (fun b157 => ?_)
                  · replace h156 := ite_t b157 h156
                    refine GL.seq ?_
                    refine GL.region ?_
                    refine RL.asg rfl rfl rfl ?_
                    refine RL.finG ?_
                    cases h156
                    replace h134 : some (Fl.rt _) = some y123 := h134
                    cases h134
                    have hh := h128 _ h126
                    subst hh
                    replace h91 : some (Fl.rt _) = some y80 := h91
                    cases h91
                    have hh := h85 _ h83
                    subst hh
                    exact GL.ret (Gx.ret (v := .int .i64 (1 : Int)) (res1 rfl rfl) (fun a w st => st.toPostC rfl))
                  · replace h156 := ite_f b157 h156
                    refine GL.skip ?_
                    refine GL.nilB ?_
                    refine GL.region ?_
                    refine RL.binI (v := .int .i64 ((i130 + 1 : Nat) : Int)) rfl rfl rfl rfl (binI_succ i130 (by omega)) ?_
                    refine RL.mv rfl rfl rfl ?_
                    refine RL.fin ?_
                    cases h156
                    exact fun a w st => lop_intro (i130 + 1, r142) ⟨by show i130 + 1 + r142.length = (y97).length; simp only [List.length_cons] at h136; omega, h143, h134⟩ (by simp) (St.cut [0, 1] ⟨rfl, rfl, rfl, rfl, rfl, rfl, rfl, trivial⟩ (by decide) rfl st)
              · have h139 : ¬ i130 < (y97).length := by have := of_decide_eq_false b138; omega
                obtain rfl : r131 = [] := by rw [← h137]; exact List.drop_of_length_le (by omega)
                replace h135 : some (Fl.nx _) = some y123 := h135
                cases h135
                exact GL.exit (fun a w st => mid_intro () h126 (St.cut [0] ⟨rfl, rfl, rfl, rfl, trivial⟩ (by decide) rfl st))
            · rintro ⟨⟩ h158
              have h159 := h127 _ h158
              try dsimp only at h159
              refine GL.weak (env' := [(0, v0), (16, v0), (17, .int .i64 ((x0).length : Int)), (18, .int .i64 (i87 : Int))]) (L' := [imm (TR.sl (TR.sl TR.int)) v0 x0]) (fun _ _ st => st) ?_
              refine GL.nilB ?_
              refine GL.region ?_
              refine RL.binI (v := .int .i64 ((i87 + 1 : Nat) : Int)) rfl rfl rfl rfl (binI_succ i87 (by omega)) ?_
              refine RL.mv rfl rfl rfl ?_
              refine RL.fin ?_
              cases h159
              exact fun a w st => lop_intro (i87 + 1, r99) ⟨by show i87 + 1 + r99.length = (x0).length; simp only [List.length_cons] at h93; omega, h100, h91⟩ (by simp) (St.cut [0] ⟨rfl, rfl, rfl, rfl, trivial⟩ (by decide) rfl st)
        · have h96 : ¬ i87 < (x0).length := by have := of_decide_eq_false b95; omega
          obtain rfl : r88 = [] := by rw [← h94]; exact List.drop_of_length_le (by omega)
          replace h92 : some (Fl.nx _) = some y80 := h92
          cases h92
          exact GL.exit (fun a w st => mid_intro () h83 (St.cut [0] ⟨rfl, trivial⟩ (by decide) rfl st))
      · rintro ⟨⟩ h160
        have h161 := h84 _ h160
        try dsimp only at h161
        refine GL.weak (env' := [(0, v0)]) (L' := [imm (TR.sl (TR.sl TR.int)) v0 x0]) (fun _ _ st => st) ?_
        refine GL.seq ?_
        refine GL.seq ?_
        refine GL.region ?_
        refine RL.mv rfl rfl rfl ?_
        refine RL.lenS 0 Try.underlying22 rfl rfl rfl rfl SlOf.imm ?_
        refine RL.mv rfl rfl rfl ?_
        refine RL.finG ?_
        refine GL.open_ 0 rfl (fun S h => len_imm S h) (fun n173 => ?_)
        obtain ⟨y174, K175, h176, h177, h178, h179, h180⟩ := bindR_K h161
        refine GL.join (ι := Unit) (fun (p : Unit) => []) (fun (p : Unit) => []) (fun (p : Unit) => K175 (.nx ())) ?_ ?_
        · refine GL.block ?_
          refine GL.loop (ι := Nat × (List (List Int))) (fun (p : Nat × (List (List Int))) => [(0, v0), (42, .int .i64 ((x0).length : Int)), (43, .int .i64 (p.1 : Int))]) (fun (p : Nat × (List (List Int))) => [imm (TR.sl (TR.sl TR.int)) v0 x0]) (fun (p : Nat × (List (List Int))) => p.1 + p.2.length = (x0).length ∧ List.drop p.1 x0 = p.2 ∧ rangeL duel_Check_b3 p.2 p.1 () = some y174) (fun (p : Nat × (List (List Int))) => p.2.length) (0, x0) ⟨by simp, by simp, h176⟩ (fun a w st => St.cut [0] ⟨rfl, rfl, rfl, trivial⟩ (by decide) rfl st) ?_
          rintro ⟨i181, r182⟩ ⟨h187, h188, h186⟩
          try dsimp only at h187 h188 h186
          refine GL.weak (env' := [(0, v0), (42, .int .i64 ((x0).length : Int)), (43, .int .i64 (i181 : Int))]) (L' := [imm (TR.sl (TR.sl TR.int)) v0 x0]) (fun _ _ st => st) ?_
          refine GL.seq ?_
          refine GL.region ?_
          refine RL.binI (v := .bool (decide ((i181 : Int) < ((x0).length : Int)))) rfl rfl rfl rfl rfl ?_
          refine RL.finG ?_
          refine GL.seq ?_
          refine GL.cond rfl (fun b189 => ?_) (fun b189 => ?_)
          · have h190 : i181 < (x0).length := by have := of_decide_eq_true b189; omega
            obtain ⟨y191, r193, hr, e192, h194⟩ := drop_cons h188 rfl h190
            subst hr
            obtain ⟨z183, h184, h185⟩ := rangeL_some h186
            unfold duel_Check_b3 at h184
            try dsimp only at h184
            refine GL.skip ?_
            refine GL.seq ?_
            refine GL.block ?_
            refine GL.seq ?_
            refine GL.region ?_
            refine RL.mv rfl rfl rfl ?_
            refine RL.asg rfl rfl rfl ?_
            refine RL.finG ?_
            refine GL.seq ?_
            refine GL.region ?_
            refine RL.mv rfl rfl rfl ?_
            refine RL.mv rfl rfl rfl ?_
            refine RL.idxS (sz := 1) 0 Try.underlying22 Try_ln28 rfl rfl rfl rfl rfl SlOf.imm (by omega) (by omega) ?_
            refine RL.ldS (i := i181) (r := (TR.sl TR.int)) (e' := y191) 0 Try_ln28 rfl rfl rfl rfl SlOf.imm e192 Part.self ?_
            intro v198
            refine RL.mv rfl rfl rfl ?_
            obtain ⟨y199, e200, h184⟩ := bind_some h184
            refine RL.idxS (sz := 1) 1 Try.underlying28 Try_ln3 rfl rfl rfl rfl rfl SlOf.imm (idx_some e200).1 (idx_some e200).2.1 ?_
            refine RL.ldSx (i := i181) (e' := y199) 1 Ex.ik Try_ln3 rfl rfl rfl rfl SlOf.imm (idx_some e200).2.2 Part.self ?_
            refine RL.binI (v := .bool (y199 != (0 : Int))) rfl rfl rfl rfl rfl ?_
            refine RL.finG ?_
            refine GL.cond rfl (fun b201 => ?_) (fun b201 => ?_)
            · replace h184 := ite_t b201 h184
              refine GL.seq ?_
              refine GL.region ?_
              refine RL.asg rfl rfl rfl ?_
              refine RL.finG ?_
              cases h184
              replace h185 : some (Fl.rt _) = some y174 := h185
              cases h185
              have hh := h179 _ h177
              subst hh
              exact GL.ret (Gx.ret (v := .int .i64 (3 : Int)) (res1 rfl rfl) (fun a w st => st.toPostC rfl))
            · replace h184 := ite_f b201 h184
              refine GL.skip ?_
              refine GL.nilB ?_
              refine GL.region ?_
              refine RL.binI (v := .int .i64 ((i181 + 1 : Nat) : Int)) rfl rfl rfl rfl (binI_succ i181 (by omega)) ?_
              refine RL.mv rfl rfl rfl ?_
              refine RL.fin ?_
              cases h184
              exact fun a w st => lop_intro (i181 + 1, r193) ⟨by show i181 + 1 + r193.length = (x0).length; simp only [List.length_cons] at h187; omega, h194, h185⟩ (by simp) (St.cut [0] ⟨rfl, rfl, rfl, trivial⟩ (by decide) rfl st)
          · have h190 : ¬ i181 < (x0).length := by have := of_decide_eq_false b189; omega
            obtain rfl : r182 = [] := by rw [← h188]; exact List.drop_of_length_le (by omega)
            replace h186 : some (Fl.nx _) = some y174 := h186
            cases h186
            exact GL.exit (fun a w st => mid_intro () h177 (St.cut [] trivial (by decide) rfl st))
        · rintro ⟨⟩ h202
          have h203 := h178 _ h202
          try dsimp only at h203
          refine GL.weak (env' := []) (L' := []) (fun _ _ st => st) ?_
          refine GL.seq ?_
          refine GL.region ?_
          refine RL.asg rfl rfl rfl ?_
          refine RL.finG ?_
          have h203 := Option.some.inj h203
          subst h203
          exact GL.ret (Gx.ret (v := .int .i64 (0 : Int)) (res1 rfl rfl) (fun a w st => st.toPostC rfl))

set_option maxHeartbeats 4000000 in
theorem duel_Top_c (S : Hp) (w : World) (hS : S.sub w) (v0 : Value) (x0 : (List (List Int))) (k0 : ((TR.sl (TR.sl TR.int))).vrep S v0 x0) (res : (List Int) × Int) (hm : duel_Top_m x0 = some res) : Calls Try.prog 27 #[v0] w (Post w S (fun (o : Value) => .tuple #[o, .int .i64 res.2]) (fun (o : Value) => [own 3 TR.int o res.1])) := by
  refine calls_enter 133 Try.func27 Try.ntmps27 rfl S false [(0, v0)] [imm (TR.sl (TR.sl TR.int)) v0 x0] rfl ⟨rfl, trivial⟩ hS ⟨k0, trivial⟩ ?_
  unfold duel_Top_m at hm
  refine GL.seq ?_
  refine GL.region ?_
  refine RL.asg rfl rfl rfl ?_
  refine RL.asg rfl rfl rfl ?_
  refine RL.finG ?_
  refine GL.seq ?_
  refine GL.seq ?_
  refine GL.region ?_
  refine RL.mv rfl rfl rfl ?_
  obtain ⟨y4, e5, hm⟩ := bind_some hm
  refine RL.callC (v := .int .i64 y4) (vs := [v0]) Try_fit41 rfl rfl rfl rfl (fun U w hU hW hL => duel_Check_c U w hU _ _ (hL 0 _ _ rfl Seen.imm) _ e5) ?_
  refine RL.asg rfl rfl rfl ?_
  refine RL.finG ?_
  refine GL.seq ?_
  refine GL.region ?_
  refine RL.mv rfl rfl rfl ?_
  refine RL.binI (v := .bool (y4 != (0 : Int))) rfl rfl rfl rfl rfl ?_
  refine RL.finG ?_
  refine GL.cond rfl (fun b6 => ?_) (fun b6 => ?_)
  · replace hm := ite_t b6 hm
    refine GL.seq ?_
    refine GL.region ?_
    refine RL.mv rfl rfl rfl ?_
    refine RL.asg rfl rfl rfl ?_
    refine RL.asg rfl rfl rfl ?_
    refine RL.finG ?_
    refine GL.weak (fun a w st => st.nilOwn 3 TR.int) ?_
    have hm := Option.some.inj hm
    subst hm
    exact GL.ret (Gx.ret (v := .tuple #[Value.slice none 0 0, .int .i64 y4]) (res2 rfl rfl rfl) (fun a w st => (st.pick [1] (by decide) rfl).toPost (Value.slice none 0 0)))
  · replace hm := ite_f b6 hm
    refine GL.skip ?_
    refine GL.seq ?_
    refine GL.region ?_
    refine RL.mv rfl rfl rfl ?_
    refine RL.lenS 0 Try.underlying22 rfl rfl rfl rfl SlOf.imm ?_
    refine RL.asg rfl rfl rfl ?_
    refine RL.finG ?_
    refine GL.seq ?_
    refine GL.region ?_
    refine RL.mv rfl rfl rfl ?_
    obtain ⟨y10, e11, hm⟩ := bind_some hm
    replace e11 := chk_some e11
    refine RL.mkS (t := TR.raw) (z := .slice none 0 0) Try.underlying22 Try_lo28 (fun S => ⟨rfl, rfl⟩) rfl rfl rfl rfl e11.1 e11.2 ?_
    intro v12
    refine RL.weak (fun a w st => st.toRows 3 TR.int 1 rfl) ?_
    refine RL.reL (L' := [imm (TR.sl (TR.sl TR.int)) v0 x0, own2 28 3 TR.int v12 (List.replicate (((x0).length : Int)).toNat (Value.slice none 0 0)) (List.replicate (((x0).length : Int)).toNat ([] : (List Int)))]) rfl ?_
    refine RL.asg rfl rfl rfl ?_
    refine RL.finG ?_
    refine GL.seq ?_
    refine GL.seq ?_
    refine GL.region ?_
    refine RL.mv rfl rfl rfl ?_
    refine RL.lenR 1 Try.underlying22 rfl rfl rfl rfl ?_
    refine RL.mv rfl rfl rfl ?_
    refine RL.finG ?_
    refine GL.lenR 1 rfl (fun n387 => ?_)
    obtain ⟨y388, K389, h390, h391, h392, h393, h394⟩ := bindR_K hm
    refine GL.join (ι := (List (List Int)) × (List Value)) (fun (p : (List (List Int)) × (List Value)) => [(5, .int .i64 ((x0).length : Int)), (6, v12)]) (fun (p : (List (List Int)) × (List Value)) => [own2 28 3 TR.int v12 p.2 p.1]) (fun (p : (List (List Int)) × (List Value)) => K389 (.nx p.1)) ?_ ?_
    · refine GL.block ?_
      refine GL.loop (ι := Nat × Nat × (List (List Int)) × (List Value)) (fun (p : Nat × Nat × (List (List Int)) × (List Value)) => [(0, v0), (5, .int .i64 ((x0).length : Int)), (6, v12), (26, .int .i64 (((List.replicate (((x0).length : Int)).toNat ([] : (List Int)))).length : Int)), (27, .int .i64 (p.1 : Int))]) (fun (p : Nat × Nat × (List (List Int)) × (List Value)) => [imm (TR.sl (TR.sl TR.int)) v0 x0, own2 28 3 TR.int v12 p.2.2.2 p.2.2.1]) (fun (p : Nat × Nat × (List (List Int)) × (List Value)) => p.1 + p.2.1 = ((List.replicate (((x0).length : Int)).toNat ([] : (List Int)))).length ∧ rangeN (duel_Top_b1 x0) p.2.1 p.1 p.2.2.1 = some y388) (fun (p : Nat × Nat × (List (List Int)) × (List Value)) => p.2.1) (0, ((List.replicate (((x0).length : Int)).toNat ([] : (List Int)))).length, (List.replicate (((x0).length : Int)).toNat ([] : (List Int))), (List.replicate (((x0).length : Int)).toNat (Value.slice none 0 0))) ⟨by simp, h390⟩ (fun a w st => St.cut [0, 1] ⟨rfl, rfl, rfl, rfl, rfl, trivial⟩ (by decide) rfl st) ?_
      rintro ⟨i395, r396, l199, V200⟩ ⟨h401, h400⟩
      try dsimp only at h401 h400
      refine GL.weak (env' := [(0, v0), (5, .int .i64 ((x0).length : Int)), (6, v12), (26, .int .i64 (((List.replicate (((x0).length : Int)).toNat ([] : (List Int)))).length : Int)), (27, .int .i64 (i395 : Int))]) (L' := [imm (TR.sl (TR.sl TR.int)) v0 x0, own2 28 3 TR.int v12 V200 l199]) (fun _ _ st => st) ?_
      refine GL.seq ?_
      refine GL.region ?_
      refine RL.binI (v := .bool (decide ((i395 : Int) < (((List.replicate (((x0).length : Int)).toNat ([] : (List Int)))).length : Int)))) rfl rfl rfl rfl rfl ?_
      refine RL.finG ?_
      refine GL.seq ?_
      refine GL.cond rfl (fun b403 => ?_) (fun b403 => ?_)
      · have h404 : i395 < ((List.replicate (((x0).length : Int)).toNat ([] : (List Int)))).length := by have := of_decide_eq_true b403; omega
        obtain ⟨r405, hr⟩ : ∃ m, r396 = m + 1 := ⟨r396 - 1, by omega⟩
        subst hr
        obtain ⟨z397, h398, h399⟩ := rangeN_some h400
        unfold duel_Top_b1 at h398
        try dsimp only at h398
        refine GL.skip ?_
        refine GL.seq ?_
        refine GL.block ?_
        refine GL.seq ?_
        refine GL.region ?_
        refine RL.mv rfl rfl rfl ?_
        refine RL.asg rfl rfl rfl ?_
        refine RL.finG ?_
        refine GL.seq ?_
        refine GL.region ?_
        refine RL.mv rfl rfl rfl ?_
        refine RL.mv rfl rfl rfl ?_
        refine RL.mv rfl rfl rfl ?_
        obtain ⟨y411, e412, h398⟩ := bind_some h398
        replace e412 := chk_some e412
        refine RL.mkS (t := TR.int) (z := (0 : Int)) Try.underlying28 Try_lo3 (fun S => rfl) rfl rfl rfl rfl e412.1 e412.2 ?_
        intro v413
        obtain ⟨y414, e415, h398⟩ := bind_some h398
        refine RL.idxR 1 Try.underlying22 Try_ln28 rfl rfl rfl rfl rfl (idx_some e415).1 (idx_some e415).2.1 ?_
        refine RL.stSp (i := i395) (r0 := y414) 1 2 (by decide) Try_ln28 rfl rfl rfl rfl rfl rfl (idx_some e415).2.2 ?_
        refine RL.reL (L' := [imm (TR.sl (TR.sl TR.int)) v0 x0, own2 28 3 TR.int v12 (List.set V200 i395 v413) (List.set l199 i395 (List.replicate (((x0).length : Int)).toNat (0 : Int))), gone]) rfl ?_
        refine RL.finG ?_
        refine GL.seq ?_
        refine GL.region ?_
        refine RL.mv rfl rfl rfl ?_
        refine RL.mv rfl rfl rfl ?_
        refine RL.finG ?_
        refine GL.open_ 0 rfl (fun S h => len_imm S h) (fun n522 => ?_)
        obtain ⟨y523, K524, h525, h526, h527, h528, h529⟩ := bindF_K h398
        refine GL.join (ι := (List (List Int)) × (List Value)) (fun (p : (List (List Int)) × (List Value)) => [(0, v0), (5, .int .i64 ((x0).length : Int)), (6, v12), (26, .int .i64 (((List.replicate (((x0).length : Int)).toNat ([] : (List Int)))).length : Int)), (27, .int .i64 (i395 : Int))]) (fun (p : (List (List Int)) × (List Value)) => [imm (TR.sl (TR.sl TR.int)) v0 x0, own2 28 3 TR.int v12 p.2 p.1]) (fun (p : (List (List Int)) × (List Value)) => K524 (.nx p.1)) ?_ ?_
        · refine GL.block ?_
          refine GL.loop (ι := Nat × (List (List Int)) × (List (List Int)) × (List Value)) (fun (p : Nat × (List (List Int)) × (List (List Int)) × (List Value)) => [(0, v0), (5, .int .i64 ((x0).length : Int)), (6, v12), (7, .int .i64 (i395 : Int)), (26, .int .i64 (((List.replicate (((x0).length : Int)).toNat ([] : (List Int)))).length : Int)), (27, .int .i64 (i395 : Int)), (35, .int .i64 ((x0).length : Int)), (36, .int .i64 (p.1 : Int))]) (fun (p : Nat × (List (List Int)) × (List (List Int)) × (List Value)) => [imm (TR.sl (TR.sl TR.int)) v0 x0, own2 28 3 TR.int v12 p.2.2.2 p.2.2.1]) (fun (p : Nat × (List (List Int)) × (List (List Int)) × (List Value)) => p.1 + p.2.1.length = (x0).length ∧ List.drop p.1 x0 = p.2.1 ∧ rangeL (duel_Top_b2 i395 x0) p.2.1 p.1 p.2.2.1 = some y523) (fun (p : Nat × (List (List Int)) × (List (List Int)) × (List Value)) => p.2.1.length) (0, x0, (List.set l199 i395 (List.replicate (((x0).length : Int)).toNat (0 : Int))), (List.set V200 i395 v413)) ⟨by simp, by simp, h525⟩ (fun a w st => St.cut [0, 1] ⟨rfl, rfl, rfl, rfl, rfl, rfl, rfl, rfl, trivial⟩ (by decide) rfl st) ?_
          rintro ⟨i530, r531, l468, V469⟩ ⟨h536, h537, h535⟩
          try dsimp only at h536 h537 h535
          refine GL.weak (env' := [(0, v0), (5, .int .i64 ((x0).length : Int)), (6, v12), (7, .int .i64 (i395 : Int)), (26, .int .i64 (((List.replicate (((x0).length : Int)).toNat ([] : (List Int)))).length : Int)), (27, .int .i64 (i395 : Int)), (35, .int .i64 ((x0).length : Int)), (36, .int .i64 (i530 : Int))]) (L' := [imm (TR.sl (TR.sl TR.int)) v0 x0, own2 28 3 TR.int v12 V469 l468]) (fun _ _ st => st) ?_
          refine GL.seq ?_
          refine GL.region ?_
          refine RL.binI (v := .bool (decide ((i530 : Int) < ((x0).length : Int)))) rfl rfl rfl rfl rfl ?_
          refine RL.finG ?_
          refine GL.seq ?_
          refine GL.cond rfl (fun b538 => ?_) (fun b538 => ?_)
          · have h539 : i530 < (x0).length := by have := of_decide_eq_true b538; omega
            obtain ⟨y540, r542, hr, e541, h543⟩ := drop_cons h537 rfl h539
            subst hr
            obtain ⟨z532, h533, h534⟩ := rangeL_some h535
            unfold duel_Top_b2 at h533
            try dsimp only at h533
            refine GL.skip ?_
            refine GL.seq ?_
            refine GL.block ?_
            refine GL.seq ?_
            refine GL.region ?_
            refine RL.mv rfl rfl rfl ?_
            refine RL.asg rfl rfl rfl ?_
            refine RL.finG ?_
            refine GL.seq ?_
            obtain ⟨y563, K564, h565, h566, h567, h568, h569⟩ := bindF_K h533
            refine GL.join (ι := Bool) (fun (p : Bool) => [(0, v0), (5, .int .i64 ((x0).length : Int)), (6, v12), (7, .int .i64 (i395 : Int)), (8, .int .i64 (i530 : Int)), (26, .int .i64 (((List.replicate (((x0).length : Int)).toNat ([] : (List Int)))).length : Int)), (27, .int .i64 (i395 : Int)), (35, .int .i64 ((x0).length : Int)), (36, .int .i64 (i530 : Int)), (58, .bool p)]) (fun (p : Bool) => [imm (TR.sl (TR.sl TR.int)) v0 x0, own2 28 3 TR.int v12 V469 l468]) (fun (p : Bool) => K564 (.nx p)) ?_ ?_
            · skip
              refine GL.regionQ rfl rfl (by kernel_rfl) ?_
              refine RL.mv rfl rfl rfl ?_
              refine RL.mv rfl rfl rfl ?_
              refine RL.binI (v := .bool ((i395 : Int) == (i530 : Int))) rfl rfl rfl rfl rfl ?_
              refine RL.mv rfl rfl rfl ?_
              refine RL.split (t := 42) rfl (fun b570 => ?_) (fun b570 => ?_)
              · replace h565 := ite_t b570 h565
                refine RL.skip rfl rfl ?_
                refine RL.skip rfl rfl ?_
                refine RL.skip rfl rfl ?_
                refine RL.skip rfl rfl ?_
                refine RL.skip rfl rfl ?_
                refine RL.skip rfl rfl ?_
                refine RL.skip rfl rfl ?_
                refine RL.skip rfl rfl ?_
                refine RL.skip rfl rfl ?_
                refine RL.skip rfl rfl ?_
                refine RL.skip rfl rfl ?_
                refine RL.skip rfl rfl ?_
                refine RL.skip rfl rfl ?_
                refine RL.skip rfl rfl ?_
                refine RL.skip rfl rfl ?_
                refine RL.pickT rfl rfl rfl rfl ?_
                refine RL.finQ ?_
                cases h565
                exact fun a w st => mid_intro true h566 (St.cut [0, 1] ⟨rfl, rfl, rfl, rfl, rfl, rfl, rfl, rfl, rfl, rfl, trivial⟩ (by decide) rfl st)
              · replace h565 := ite_f b570 h565
                refine RL.mv rfl rfl rfl ?_
                refine RL.mv rfl rfl rfl ?_
                obtain ⟨y571, e572, h565⟩ := bind_some h565
                refine RL.idxS (sz := 1) 0 Try.underlying22 Try_ln28 rfl rfl rfl rfl rfl SlOf.imm (idx_some e572).1 (idx_some e572).2.1 ?_
                refine RL.ldS (i := i395) (r := (TR.sl TR.int)) (e' := y571) 0 Try_ln28 rfl rfl rfl rfl SlOf.imm (idx_some e572).2.2 Part.self ?_
                intro v573
                refine RL.mv rfl rfl rfl ?_
                obtain ⟨y574, e575, h565⟩ := bind_some h565
                refine RL.idxS (sz := 1) 2 Try.underlying28 Try_ln3 rfl rfl rfl rfl rfl SlOf.imm (idx_some e575).1 (idx_some e575).2.1 ?_
                refine RL.ldSx (i := i530) (e' := y574) 2 Ex.ik Try_ln3 rfl rfl rfl rfl SlOf.imm (idx_some e575).2.2 Part.self ?_
                refine RL.mv rfl rfl rfl ?_
                refine RL.mv rfl rfl rfl ?_
                refine RL.idxS (sz := 1) 0 Try.underlying22 Try_ln28 rfl rfl rfl rfl rfl SlOf.imm (by omega) (by omega) ?_
                refine RL.ldS (i := i530) (r := (TR.sl TR.int)) (e' := y540) 0 Try_ln28 rfl rfl rfl rfl SlOf.imm e541 Part.self ?_
                intro v576
                refine RL.reL (L' := [imm (TR.sl (TR.sl TR.int)) v0 x0, own2 28 3 TR.int v12 V469 l468, imm (TR.sl TR.int) v573 y571, imm (TR.sl TR.int) v576 y540]) rfl ?_
                refine RL.mv rfl rfl rfl ?_
                obtain ⟨y577, e578, h565⟩ := bind_some h565
                refine RL.idxS (sz := 1) 3 Try.underlying28 Try_ln3 rfl rfl rfl rfl rfl SlOf.imm (idx_some e578).1 (idx_some e578).2.1 ?_
                refine RL.ldSx (i := i395) (e' := y577) 3 Ex.ik Try_ln3 rfl rfl rfl rfl SlOf.imm (idx_some e578).2.2 Part.self ?_
                refine RL.binI (v := .bool (decide (y574 ≥ y577))) rfl rfl rfl rfl rfl ?_
                refine RL.pickF rfl rfl rfl rfl ?_
                refine RL.finQ ?_
                cases h565
                exact fun a w st => mid_intro (decide (y574 ≥ y577)) h566 (St.cut [0, 1] ⟨rfl, rfl, rfl, rfl, rfl, rfl, rfl, rfl, rfl, rfl, trivial⟩ (by decide) rfl st)
            · rintro x562 h579
              have h580 := h567 _ h579
              try dsimp only at h580
              refine GL.weak (env' := [(0, v0), (5, .int .i64 ((x0).length : Int)), (6, v12), (7, .int .i64 (i395 : Int)), (8, .int .i64 (i530 : Int)), (26, .int .i64 (((List.replicate (((x0).length : Int)).toNat ([] : (List Int)))).length : Int)), (27, .int .i64 (i395 : Int)), (35, .int .i64 ((x0).length : Int)), (36, .int .i64 (i530 : Int)), (58, .bool x562)]) (L' := [imm (TR.sl (TR.sl TR.int)) v0 x0, own2 28 3 TR.int v12 V469 l468]) (fun _ _ st => st) ?_
              refine GL.cond rfl (fun b581 => ?_) (fun b581 => ?_)
              · replace h580 := ite_t b581 h580
                refine GL.region ?_
                refine RL.mv rfl rfl rfl ?_
                refine RL.mv rfl rfl rfl ?_
                obtain ⟨y586, e587, h580⟩ := bind_some h580
                refine RL.idxR 1 Try.underlying22 Try_ln28 rfl rfl rfl rfl rfl (idx_some e587).1 (idx_some e587).2.1 ?_
                refine RL.ldR (i := i395) (r := y586) 1 Try_ln28 rfl rfl rfl rfl (idx_some e587).2.2 ?_
                refine RL.mv rfl rfl rfl ?_
                obtain ⟨y588, e589, h580⟩ := bind_some h580
                refine RL.idxS (sz := 1) 1 Try.underlying28 Try_ln3 rfl rfl rfl rfl rfl (SlOf.row (idx_some e587).2.2) (idx_some e589).1 (idx_some e589).2.1 ?_
                refine RL.stR (i := i395) (j := i530) (row := y586) (e' := (1 : Int)) (e1 := (1 : Int)) (r := TR.int) 1 Try_ln3 rfl rfl rfl rfl VR.int rfl (idx_some e587).2.2 (idx_some e589).2.2 Upd.self ?_
                refine RL.finG ?_
                refine GL.nilB ?_
                refine GL.region ?_
                refine RL.binI (v := .int .i64 ((i530 + 1 : Nat) : Int)) rfl rfl rfl rfl (binI_succ i530 (by omega)) ?_
                refine RL.mv rfl rfl rfl ?_
                refine RL.fin ?_
                cases h580
                exact fun a w st => lop_intro (i530 + 1, r542, (List.set l468 i395 (List.set y586 i530 (1 : Int))), V469) ⟨by show i530 + 1 + r542.length = (x0).length; simp only [List.length_cons] at h536; omega, h543, h534⟩ (by simp) (St.cut [0, 1] ⟨rfl, rfl, rfl, rfl, rfl, rfl, rfl, rfl, trivial⟩ (by decide) rfl st)
              · replace h580 := ite_f b581 h580
                refine GL.skip ?_
                refine GL.nilB ?_
                refine GL.region ?_
                refine RL.binI (v := .int .i64 ((i530 + 1 : Nat) : Int)) rfl rfl rfl rfl (binI_succ i530 (by omega)) ?_
                refine RL.mv rfl rfl rfl ?_
                refine RL.fin ?_
                cases h580
                exact fun a w st => lop_intro (i530 + 1, r542, l468, V469) ⟨by show i530 + 1 + r542.length = (x0).length; simp only [List.length_cons] at h536; omega, h543, h534⟩ (by simp) (St.cut [0, 1] ⟨rfl, rfl, rfl, rfl, rfl, rfl, rfl, rfl, trivial⟩ (by decide) rfl st)
          · have h539 : ¬ i530 < (x0).length := by have := of_decide_eq_false b538; omega
            obtain rfl : r531 = [] := by rw [← h537]; exact List.drop_of_length_le (by omega)
            replace h535 : some (Fl.nx _) = some y523 := h535
            cases h535
            exact GL.exit (fun a w st => mid_intro (l468, V469) h526 (St.cut [0, 1] ⟨rfl, rfl, rfl, rfl, rfl, trivial⟩ (by decide) rfl st))
        · rintro ⟨l468, V469⟩ h590
          have h591 := h527 _ h590
          try dsimp only at h591
          refine GL.weak (env' := [(0, v0), (5, .int .i64 ((x0).length : Int)), (6, v12), (26, .int .i64 (((List.replicate (((x0).length : Int)).toNat ([] : (List Int)))).length : Int)), (27, .int .i64 (i395 : Int))]) (L' := [imm (TR.sl (TR.sl TR.int)) v0 x0, own2 28 3 TR.int v12 V469 l468]) (fun _ _ st => st) ?_
          refine GL.nilB ?_
          refine GL.region ?_
          refine RL.binI (v := .int .i64 ((i395 + 1 : Nat) : Int)) rfl rfl rfl rfl (binI_succ i395 (by omega)) ?_
          refine RL.mv rfl rfl rfl ?_
          refine RL.fin ?_
          cases h591
          exact fun a w st => lop_intro (i395 + 1, r405, l468, V469) ⟨by show i395 + 1 + r405 = ((List.replicate (((x0).length : Int)).toNat ([] : (List Int)))).length; omega, h399⟩ (by simp) (St.cut [0, 1] ⟨rfl, rfl, rfl, rfl, rfl, trivial⟩ (by decide) rfl st)
      · have h404 : ¬ i395 < ((List.replicate (((x0).length : Int)).toNat ([] : (List Int)))).length := by have := of_decide_eq_false b403; omega
        obtain rfl : r396 = 0 := by omega
        replace h400 : some (Fl.nx _) = some y388 := h400
        cases h400
        exact GL.exit (fun a w st => mid_intro (l199, V200) h391 (St.cut [1] ⟨rfl, rfl, trivial⟩ (by decide) rfl st))
    · rintro ⟨l199, V200⟩ h592
      have h593 := h392 _ h592
      try dsimp only at h593
      refine GL.weak (env' := [(5, .int .i64 ((x0).length : Int)), (6, v12)]) (L' := [own2 28 3 TR.int v12 V200 l199]) (fun _ _ st => st) ?_
      refine GL.seq ?_
      refine GL.seq ?_
      refine GL.region ?_
      refine RL.mv rfl rfl rfl ?_
      refine RL.mv rfl rfl rfl ?_
      refine RL.finG ?_
      obtain ⟨y1625, e1626, h593⟩ := bind_some h593
      replace e1626 := chk_some e1626
      obtain ⟨y1627, K1628, h1629, h1630, h1631, h1632, h1633⟩ := bindR_K h593
      refine GL.join (ι := (List (List Int)) × (List Value)) (fun (p : (List (List Int)) × (List Value)) => [(5, .int .i64 ((x0).length : Int)), (6, v12)]) (fun (p : (List (List Int)) × (List Value)) => [own2 28 3 TR.int v12 p.2 p.1]) (fun (p : (List (List Int)) × (List Value)) => K1628 (.nx p.1)) ?_ ?_
      · refine GL.block ?_
        refine GL.loop (ι := Nat × Nat × (List (List Int)) × (List Value)) (fun (p : Nat × Nat × (List (List Int)) × (List Value)) => [(5, .int .i64 ((x0).length : Int)), (6, v12), (67, .int .i64 ((x0).length : Int)), (68, .int .i64 (p.1 : Int))]) (fun (p : Nat × Nat × (List (List Int)) × (List Value)) => [own2 28 3 TR.int v12 p.2.2.2 p.2.2.1]) (fun (p : Nat × Nat × (List (List Int)) × (List Value)) => p.1 + p.2.1 = (((x0).length : Int)).toNat ∧ rangeN (duel_Top_b3 x0) p.2.1 p.1 p.2.2.1 = some y1627) (fun (p : Nat × Nat × (List (List Int)) × (List Value)) => p.2.1) (0, (((x0).length : Int)).toNat, l199, V200) ⟨by simp, h1629⟩ (fun a w st => St.cut [0] ⟨rfl, rfl, rfl, rfl, trivial⟩ (by decide) rfl st) ?_
        rintro ⟨i1634, r1635, l1108, V1109⟩ ⟨h1640, h1639⟩
        try dsimp only at h1640 h1639
        refine GL.weak (env' := [(5, .int .i64 ((x0).length : Int)), (6, v12), (67, .int .i64 ((x0).length : Int)), (68, .int .i64 (i1634 : Int))]) (L' := [own2 28 3 TR.int v12 V1109 l1108]) (fun _ _ st => st) ?_
        refine GL.seq ?_
        refine GL.region ?_
        refine RL.binI (v := .bool (decide ((i1634 : Int) < ((x0).length : Int)))) rfl rfl rfl rfl rfl ?_
        refine RL.finG ?_
        refine GL.seq ?_
        refine GL.cond rfl (fun b1642 => ?_) (fun b1642 => ?_)
        · have h1643 : i1634 < (((x0).length : Int)).toNat := by have := of_decide_eq_true b1642; omega
          obtain ⟨r1644, hr⟩ : ∃ m, r1635 = m + 1 := ⟨r1635 - 1, by omega⟩
          subst hr
          obtain ⟨z1636, h1637, h1638⟩ := rangeN_some h1639
          unfold duel_Top_b3 at h1637
          try dsimp only at h1637
          refine GL.skip ?_
          refine GL.seq ?_
          refine GL.block ?_
          refine GL.seq ?_
          refine GL.region ?_
          refine RL.mv rfl rfl rfl ?_
          refine RL.asg rfl rfl rfl ?_
          refine RL.finG ?_
          refine GL.seq ?_
          refine GL.region ?_
          refine RL.mv rfl rfl rfl ?_
          refine RL.mv rfl rfl rfl ?_
          refine RL.finG ?_
          obtain ⟨y1974, e1975, h1637⟩ := bind_some h1637
          replace e1975 := chk_some e1975
          obtain ⟨y1976, K1977, h1978, h1979, h1980, h1981, h1982⟩ := bindF_K h1637
          refine GL.join (ι := (List (List Int)) × (List Value)) (fun (p : (List (List Int)) × (List Value)) => [(5, .int .i64 ((x0).length : Int)), (6, v12), (67, .int .i64 ((x0).length : Int)), (68, .int .i64 (i1634 : Int))]) (fun (p : (List (List Int)) × (List Value)) => [own2 28 3 TR.int v12 p.2 p.1]) (fun (p : (List (List Int)) × (List Value)) => K1977 (.nx p.1)) ?_ ?_
          · refine GL.block ?_
            refine GL.loop (ι := Nat × Nat × (List (List Int)) × (List Value)) (fun (p : Nat × Nat × (List (List Int)) × (List Value)) => [(5, .int .i64 ((x0).length : Int)), (6, v12), (9, .int .i64 (i1634 : Int)), (67, .int .i64 ((x0).length : Int)), (68, .int .i64 (i1634 : Int)), (71, .int .i64 ((x0).length : Int)), (72, .int .i64 (p.1 : Int))]) (fun (p : Nat × Nat × (List (List Int)) × (List Value)) => [own2 28 3 TR.int v12 p.2.2.2 p.2.2.1]) (fun (p : Nat × Nat × (List (List Int)) × (List Value)) => p.1 + p.2.1 = (((x0).length : Int)).toNat ∧ rangeN (duel_Top_b4 x0 i1634) p.2.1 p.1 p.2.2.1 = some y1976) (fun (p : Nat × Nat × (List (List Int)) × (List Value)) => p.2.1) (0, (((x0).length : Int)).toNat, l1108, V1109) ⟨by simp, h1978⟩ (fun a w st => St.cut [0] ⟨rfl, rfl, rfl, rfl, rfl, rfl, rfl, trivial⟩ (by decide) rfl st) ?_
            rintro ⟨i1983, r1984, l1808, V1809⟩ ⟨h1989, h1988⟩
            try dsimp only at h1989 h1988
            refine GL.weak (env' := [(5, .int .i64 ((x0).length : Int)), (6, v12), (9, .int .i64 (i1634 : Int)), (67, .int .i64 ((x0).length : Int)), (68, .int .i64 (i1634 : Int)), (71, .int .i64 ((x0).length : Int)), (72, .int .i64 (i1983 : Int))]) (L' := [own2 28 3 TR.int v12 V1809 l1808]) (fun _ _ st => st) ?_
            refine GL.seq ?_
            refine GL.region ?_
            refine RL.binI (v := .bool (decide ((i1983 : Int) < ((x0).length : Int)))) rfl rfl rfl rfl rfl ?_
            refine RL.finG ?_
            refine GL.seq ?_
            refine GL.cond rfl (fun b1991 => ?_) (fun b1991 => ?_)
            · have h1992 : i1983 < (((x0).length : Int)).toNat := by have := of_decide_eq_true b1991; omega
              obtain ⟨r1993, hr⟩ : ∃ m, r1984 = m + 1 := ⟨r1984 - 1, by omega⟩
              subst hr
              obtain ⟨z1985, h1986, h1987⟩ := rangeN_some h1988
              unfold duel_Top_b4 at h1986
              try dsimp only at h1986
              refine GL.skip ?_
              refine GL.seq ?_
              refine GL.block ?_
              refine GL.seq ?_
              refine GL.region ?_
              refine RL.mv rfl rfl rfl ?_
              refine RL.asg rfl rfl rfl ?_
              refine RL.finG ?_
              refine GL.seq ?_
              refine GL.region ?_
              refine RL.mv rfl rfl rfl ?_
              refine RL.mv rfl rfl rfl ?_
              refine RL.finG ?_
              obtain ⟨y2089, e2090, h1986⟩ := bind_some h1986
              replace e2090 := chk_some e2090
              obtain ⟨y2091, K2092, h2093, h2094, h2095, h2096, h2097⟩ := bindF_K h1986
              refine GL.join (ι := (List (List Int)) × (List Value)) (fun (p : (List (List Int)) × (List Value)) => [(5, .int .i64 ((x0).length : Int)), (6, v12), (9, .int .i64 (i1634 : Int)), (67, .int .i64 ((x0).length : Int)), (68, .int .i64 (i1634 : Int)), (71, .int .i64 ((x0).length : Int)), (72, .int .i64 (i1983 : Int))]) (fun (p : (List (List Int)) × (List Value)) => [own2 28 3 TR.int v12 p.2 p.1]) (fun (p : (List (List Int)) × (List Value)) => K2092 (.nx p.1)) ?_ ?_
              · refine GL.block ?_
                refine GL.loop (ι := Nat × Nat × (List (List Int)) × (List Value)) (fun (p : Nat × Nat × (List (List Int)) × (List Value)) => [(5, .int .i64 ((x0).length : Int)), (6, v12), (9, .int .i64 (i1634 : Int)), (10, .int .i64 (i1983 : Int)), (67, .int .i64 ((x0).length : Int)), (68, .int .i64 (i1634 : Int)), (71, .int .i64 ((x0).length : Int)), (72, .int .i64 (i1983 : Int)), (75, .int .i64 ((x0).length : Int)), (76, .int .i64 (p.1 : Int))]) (fun (p : Nat × Nat × (List (List Int)) × (List Value)) => [own2 28 3 TR.int v12 p.2.2.2 p.2.2.1]) (fun (p : Nat × Nat × (List (List Int)) × (List Value)) => p.1 + p.2.1 = (((x0).length : Int)).toNat ∧ rangeN (duel_Top_b5 i1983 i1634) p.2.1 p.1 p.2.2.1 = some y2091) (fun (p : Nat × Nat × (List (List Int)) × (List Value)) => p.2.1) (0, (((x0).length : Int)).toNat, l1808, V1809) ⟨by simp, h2093⟩ (fun a w st => St.cut [0] ⟨rfl, rfl, rfl, rfl, rfl, rfl, rfl, rfl, rfl, rfl, trivial⟩ (by decide) rfl st) ?_
                rintro ⟨i2098, r2099, l2040, V2041⟩ ⟨h2104, h2103⟩
                try dsimp only at h2104 h2103
                refine GL.weak (env' := [(5, .int .i64 ((x0).length : Int)), (6, v12), (9, .int .i64 (i1634 : Int)), (10, .int .i64 (i1983 : Int)), (67, .int .i64 ((x0).length : Int)), (68, .int .i64 (i1634 : Int)), (71, .int .i64 ((x0).length : Int)), (72, .int .i64 (i1983 : Int)), (75, .int .i64 ((x0).length : Int)), (76, .int .i64 (i2098 : Int))]) (L' := [own2 28 3 TR.int v12 V2041 l2040]) (fun _ _ st => st) ?_
                refine GL.seq ?_
                refine GL.region ?_
                refine RL.binI (v := .bool (decide ((i2098 : Int) < ((x0).length : Int)))) rfl rfl rfl rfl rfl ?_
                refine RL.finG ?_
                refine GL.seq ?_
                refine GL.cond rfl (fun b2106 => ?_) (fun b2106 => ?_)
                · have h2107 : i2098 < (((x0).length : Int)).toNat := by have := of_decide_eq_true b2106; omega
                  obtain ⟨r2108, hr⟩ : ∃ m, r2099 = m + 1 := ⟨r2099 - 1, by omega⟩
                  subst hr
                  obtain ⟨z2100, h2101, h2102⟩ := rangeN_some h2103
                  unfold duel_Top_b5 at h2101
                  try dsimp only at h2101
                  refine GL.skip ?_
                  refine GL.seq ?_
                  refine GL.block ?_
                  refine GL.seq ?_
                  refine GL.region ?_
                  refine RL.mv rfl rfl rfl ?_
                  refine RL.asg rfl rfl rfl ?_
                  refine RL.finG ?_
                  refine GL.seq ?_
                  obtain ⟨y2128, K2129, h2130, h2131, h2132, h2133, h2134⟩ := bindF_K h2101
                  refine GL.join (ι := Bool) (fun (p : Bool) => [(5, .int .i64 ((x0).length : Int)), (6, v12), (9, .int .i64 (i1634 : Int)), (10, .int .i64 (i1983 : Int)), (11, .int .i64 (i2098 : Int)), (67, .int .i64 ((x0).length : Int)), (68, .int .i64 (i1634 : Int)), (71, .int .i64 ((x0).length : Int)), (72, .int .i64 (i1983 : Int)), (75, .int .i64 ((x0).length : Int)), (76, .int .i64 (i2098 : Int)), (96, .bool p)]) (fun (p : Bool) => [own2 28 3 TR.int v12 V2041 l2040]) (fun (p : Bool) => K2129 (.nx p)) ?_ ?_
                  · skip
                    refine GL.region ?_
                    refine RL.mv rfl rfl rfl ?_
                    refine RL.mv rfl rfl rfl ?_
                    obtain ⟨y2135, e2136, h2130⟩ := bind_some h2130
                    refine RL.idxR 0 Try.underlying22 Try_ln28 rfl rfl rfl rfl rfl (idx_some e2136).1 (idx_some e2136).2.1 ?_
                    refine RL.ldR (i := i1983) (r := y2135) 0 Try_ln28 rfl rfl rfl rfl (idx_some e2136).2.2 ?_
                    refine RL.mv rfl rfl rfl ?_
                    obtain ⟨y2137, e2138, h2130⟩ := bind_some h2130
                    refine RL.idxS (sz := 1) 0 Try.underlying28 Try_ln3 rfl rfl rfl rfl rfl (SlOf.row (idx_some e2136).2.2) (idx_some e2138).1 (idx_some e2138).2.1 ?_
                    refine RL.ldSx (i := i1634) (e' := y2137) 0 Ex.ik Try_ln3 rfl rfl rfl rfl (SlOf.row (idx_some e2136).2.2) (idx_some e2138).2.2 Part.self ?_
                    refine RL.binI (v := .bool (y2137 == (1 : Int))) rfl rfl rfl rfl rfl ?_
                    refine RL.mv rfl rfl rfl ?_
                    refine RL.split (t := 87) rfl (fun b2139 => ?_) (fun b2139 => ?_)
                    · replace h2130 := ite_t b2139 h2130
                      refine RL.mv rfl rfl rfl ?_
                      refine RL.mv rfl rfl rfl ?_
                      obtain ⟨y2140, e2141, h2130⟩ := bind_some h2130
                      refine RL.idxR 0 Try.underlying22 Try_ln28 rfl rfl rfl rfl rfl (idx_some e2141).1 (idx_some e2141).2.1 ?_
                      refine RL.ldR (i := i1634) (r := y2140) 0 Try_ln28 rfl rfl rfl rfl (idx_some e2141).2.2 ?_
                      refine RL.mv rfl rfl rfl ?_
                      obtain ⟨y2142, e2143, h2130⟩ := bind_some h2130
                      refine RL.idxS (sz := 1) 0 Try.underlying28 Try_ln3 rfl rfl rfl rfl rfl (SlOf.row (idx_some e2141).2.2) (idx_some e2143).1 (idx_some e2143).2.1 ?_
                      refine RL.ldSx (i := i2098) (e' := y2142) 0 Ex.ik Try_ln3 rfl rfl rfl rfl (SlOf.row (idx_some e2141).2.2) (idx_some e2143).2.2 Part.self ?_
                      refine RL.binI (v := .bool (y2142 == (1 : Int))) rfl rfl rfl rfl rfl ?_
                      refine RL.pickT rfl rfl rfl rfl ?_
                      refine RL.fin ?_
                      cases h2130
                      exact fun a w st => mid_intro (y2142 == (1 : Int)) h2131 (St.cut [0] ⟨rfl, rfl, rfl, rfl, rfl, rfl, rfl, rfl, rfl, rfl, rfl, rfl, trivial⟩ (by decide) rfl st)
                    · replace h2130 := ite_f b2139 h2130
                      refine RL.skip rfl rfl ?_
                      refine RL.skip rfl rfl ?_
                      refine RL.skip rfl rfl ?_
                      refine RL.skip rfl rfl ?_
                      refine RL.skip rfl rfl ?_
                      refine RL.skip rfl rfl ?_
                      refine RL.skip rfl rfl ?_
                      refine RL.skip rfl rfl ?_
                      refine RL.pickF rfl rfl rfl rfl ?_
                      refine RL.fin ?_
                      cases h2130
                      exact fun a w st => mid_intro false h2131 (St.cut [0] ⟨rfl, rfl, rfl, rfl, rfl, rfl, rfl, rfl, rfl, rfl, rfl, rfl, trivial⟩ (by decide) rfl st)
                  · rintro x2127 h2144
                    have h2145 := h2132 _ h2144
                    try dsimp only at h2145
                    refine GL.weak (env' := [(5, .int .i64 ((x0).length : Int)), (6, v12), (9, .int .i64 (i1634 : Int)), (10, .int .i64 (i1983 : Int)), (11, .int .i64 (i2098 : Int)), (67, .int .i64 ((x0).length : Int)), (68, .int .i64 (i1634 : Int)), (71, .int .i64 ((x0).length : Int)), (72, .int .i64 (i1983 : Int)), (75, .int .i64 ((x0).length : Int)), (76, .int .i64 (i2098 : Int)), (96, .bool x2127)]) (L' := [own2 28 3 TR.int v12 V2041 l2040]) (fun _ _ st => st) ?_
                    refine GL.cond rfl (fun b2146 => ?_) (fun b2146 => ?_)
                    · replace h2145 := ite_t b2146 h2145
                      refine GL.region ?_
                      refine RL.mv rfl rfl rfl ?_
                      refine RL.mv rfl rfl rfl ?_
                      obtain ⟨y2151, e2152, h2145⟩ := bind_some h2145
                      refine RL.idxR 0 Try.underlying22 Try_ln28 rfl rfl rfl rfl rfl (idx_some e2152).1 (idx_some e2152).2.1 ?_
                      refine RL.ldR (i := i1983) (r := y2151) 0 Try_ln28 rfl rfl rfl rfl (idx_some e2152).2.2 ?_
                      refine RL.mv rfl rfl rfl ?_
                      obtain ⟨y2153, e2154, h2145⟩ := bind_some h2145
                      refine RL.idxS (sz := 1) 0 Try.underlying28 Try_ln3 rfl rfl rfl rfl rfl (SlOf.row (idx_some e2152).2.2) (idx_some e2154).1 (idx_some e2154).2.1 ?_
                      refine RL.stR (i := i1983) (j := i2098) (row := y2151) (e' := (1 : Int)) (e1 := (1 : Int)) (r := TR.int) 0 Try_ln3 rfl rfl rfl rfl VR.int rfl (idx_some e2152).2.2 (idx_some e2154).2.2 Upd.self ?_
                      refine RL.finG ?_
                      refine GL.nilB ?_
                      refine GL.region ?_
                      refine RL.binI (v := .int .i64 ((i2098 + 1 : Nat) : Int)) rfl rfl rfl rfl (binI_succ i2098 (by omega)) ?_
                      refine RL.mv rfl rfl rfl ?_
                      refine RL.fin ?_
                      cases h2145
                      exact fun a w st => lop_intro (i2098 + 1, r2108, (List.set l2040 i1983 (List.set y2151 i2098 (1 : Int))), V2041) ⟨by show i2098 + 1 + r2108 = (((x0).length : Int)).toNat; omega, h2102⟩ (by simp) (St.cut [0] ⟨rfl, rfl, rfl, rfl, rfl, rfl, rfl, rfl, rfl, rfl, trivial⟩ (by decide) rfl st)
                    · replace h2145 := ite_f b2146 h2145
                      refine GL.skip ?_
                      refine GL.nilB ?_
                      refine GL.region ?_
                      refine RL.binI (v := .int .i64 ((i2098 + 1 : Nat) : Int)) rfl rfl rfl rfl (binI_succ i2098 (by omega)) ?_
                      refine RL.mv rfl rfl rfl ?_
                      refine RL.fin ?_
                      cases h2145
                      exact fun a w st => lop_intro (i2098 + 1, r2108, l2040, V2041) ⟨by show i2098 + 1 + r2108 = (((x0).length : Int)).toNat; omega, h2102⟩ (by simp) (St.cut [0] ⟨rfl, rfl, rfl, rfl, rfl, rfl, rfl, rfl, rfl, rfl, trivial⟩ (by decide) rfl st)
                · have h2107 : ¬ i2098 < (((x0).length : Int)).toNat := by have := of_decide_eq_false b2106; omega
                  obtain rfl : r2099 = 0 := by omega
                  replace h2103 : some (Fl.nx _) = some y2091 := h2103
                  cases h2103
                  exact GL.exit (fun a w st => mid_intro (l2040, V2041) h2094 (St.cut [0] ⟨rfl, rfl, rfl, rfl, rfl, rfl, rfl, trivial⟩ (by decide) rfl st))
              · rintro ⟨l2040, V2041⟩ h2155
                have h2156 := h2095 _ h2155
                try dsimp only at h2156
                refine GL.weak (env' := [(5, .int .i64 ((x0).length : Int)), (6, v12), (9, .int .i64 (i1634 : Int)), (67, .int .i64 ((x0).length : Int)), (68, .int .i64 (i1634 : Int)), (71, .int .i64 ((x0).length : Int)), (72, .int .i64 (i1983 : Int))]) (L' := [own2 28 3 TR.int v12 V2041 l2040]) (fun _ _ st => st) ?_
                refine GL.nilB ?_
                refine GL.region ?_
                refine RL.binI (v := .int .i64 ((i1983 + 1 : Nat) : Int)) rfl rfl rfl rfl (binI_succ i1983 (by omega)) ?_
                refine RL.mv rfl rfl rfl ?_
                refine RL.fin ?_
                cases h2156
                exact fun a w st => lop_intro (i1983 + 1, r1993, l2040, V2041) ⟨by show i1983 + 1 + r1993 = (((x0).length : Int)).toNat; omega, h1987⟩ (by simp) (St.cut [0] ⟨rfl, rfl, rfl, rfl, rfl, rfl, rfl, trivial⟩ (by decide) rfl st)
            · have h1992 : ¬ i1983 < (((x0).length : Int)).toNat := by have := of_decide_eq_false b1991; omega
              obtain rfl : r1984 = 0 := by omega
              replace h1988 : some (Fl.nx _) = some y1976 := h1988
              cases h1988
              exact GL.exit (fun a w st => mid_intro (l1808, V1809) h1979 (St.cut [0] ⟨rfl, rfl, rfl, rfl, trivial⟩ (by decide) rfl st))
          · rintro ⟨l1808, V1809⟩ h2157
            have h2158 := h1980 _ h2157
            try dsimp only at h2158
            refine GL.weak (env' := [(5, .int .i64 ((x0).length : Int)), (6, v12), (67, .int .i64 ((x0).length : Int)), (68, .int .i64 (i1634 : Int))]) (L' := [own2 28 3 TR.int v12 V1809 l1808]) (fun _ _ st => st) ?_
            refine GL.nilB ?_
            refine GL.region ?_
            refine RL.binI (v := .int .i64 ((i1634 + 1 : Nat) : Int)) rfl rfl rfl rfl (binI_succ i1634 (by omega)) ?_
            refine RL.mv rfl rfl rfl ?_
            refine RL.fin ?_
            cases h2158
            exact fun a w st => lop_intro (i1634 + 1, r1644, l1808, V1809) ⟨by show i1634 + 1 + r1644 = (((x0).length : Int)).toNat; omega, h1638⟩ (by simp) (St.cut [0] ⟨rfl, rfl, rfl, rfl, trivial⟩ (by decide) rfl st)
        · have h1643 : ¬ i1634 < (((x0).length : Int)).toNat := by have := of_decide_eq_false b1642; omega
          obtain rfl : r1635 = 0 := by omega
          replace h1639 : some (Fl.nx _) = some y1627 := h1639
          cases h1639
          exact GL.exit (fun a w st => mid_intro (l1108, V1109) h1630 (St.cut [0] ⟨rfl, rfl, trivial⟩ (by decide) rfl st))
      · rintro ⟨l1108, V1109⟩ h2159
        have h2160 := h1631 _ h2159
        try dsimp only at h2160
        refine GL.weak (env' := [(5, .int .i64 ((x0).length : Int)), (6, v12)]) (L' := [own2 28 3 TR.int v12 V1109 l1108]) (fun _ _ st => st) ?_
        refine GL.seq ?_
        refine GL.region ?_
        refine RL.asg rfl rfl rfl ?_
        refine RL.finG ?_
        refine GL.seq ?_
        refine GL.seq ?_
        refine GL.region ?_
        refine RL.mv rfl rfl rfl ?_
        refine RL.mv rfl rfl rfl ?_
        refine RL.finG ?_
        refine GL.weak (fun a w st => st.nilOwn 3 TR.int) ?_
        obtain ⟨y2213, e2214, h2160⟩ := bind_some h2160
        replace e2214 := chk_some e2214
        obtain ⟨y2215, K2216, h2217, h2218, h2219, h2220, h2221⟩ := bindR_K h2160
        refine GL.join (ι := (List Int) × Value) (fun (p : (List Int) × Value) => [(12, p.2)]) (fun (p : (List Int) × Value) => [own 3 TR.int p.2 p.1]) (fun (p : (List Int) × Value) => K2216 (.nx p.1)) ?_ ?_
        · refine GL.block ?_
          refine GL.loop (ι := Nat × Nat × (List Int) × Value) (fun (p : Nat × Nat × (List Int) × Value) => [(5, .int .i64 ((x0).length : Int)), (6, v12), (12, p.2.2.2), (106, .int .i64 ((x0).length : Int)), (107, .int .i64 (p.1 : Int))]) (fun (p : Nat × Nat × (List Int) × Value) => [own2 28 3 TR.int v12 V1109 l1108, own 3 TR.int p.2.2.2 p.2.2.1]) (fun (p : Nat × Nat × (List Int) × Value) => p.1 + p.2.1 = (((x0).length : Int)).toNat ∧ rangeN (duel_Top_b6 x0 l1108) p.2.1 p.1 p.2.2.1 = some y2215) (fun (p : Nat × Nat × (List Int) × Value) => p.2.1) (0, (((x0).length : Int)).toNat, [], Value.slice none 0 0) ⟨by simp, h2217⟩ (fun a w st => St.cut [0, 1] ⟨rfl, rfl, rfl, rfl, rfl, trivial⟩ (by decide) rfl st) ?_
          rintro ⟨i2222, r2223, l2161, v2162⟩ ⟨h2228, h2227⟩
          try dsimp only at h2228 h2227
          refine GL.weak (env' := [(5, .int .i64 ((x0).length : Int)), (6, v12), (12, v2162), (106, .int .i64 ((x0).length : Int)), (107, .int .i64 (i2222 : Int))]) (L' := [own2 28 3 TR.int v12 V1109 l1108, own 3 TR.int v2162 l2161]) (fun _ _ st => st) ?_
          refine GL.seq ?_
          refine GL.region ?_
          refine RL.binI (v := .bool (decide ((i2222 : Int) < ((x0).length : Int)))) rfl rfl rfl rfl rfl ?_
          refine RL.finG ?_
          refine GL.seq ?_
          refine GL.cond rfl (fun b2230 => ?_) (fun b2230 => ?_)
          · have h2231 : i2222 < (((x0).length : Int)).toNat := by have := of_decide_eq_true b2230; omega
            obtain ⟨r2232, hr⟩ : ∃ m, r2223 = m + 1 := ⟨r2223 - 1, by omega⟩
            subst hr
            obtain ⟨z2224, h2225, h2226⟩ := rangeN_some h2227
            unfold duel_Top_b6 at h2225
            try dsimp only at h2225
            refine GL.skip ?_
            refine GL.seq ?_
            refine GL.block ?_
            refine GL.seq ?_
            refine GL.region ?_
            refine RL.mv rfl rfl rfl ?_
            refine RL.asg rfl rfl rfl ?_
            refine RL.finG ?_
            refine GL.seq ?_
            refine GL.region ?_
            refine RL.asg rfl rfl rfl ?_
            refine RL.finG ?_
            refine GL.seq ?_
            refine GL.seq ?_
            refine GL.region ?_
            refine RL.mv rfl rfl rfl ?_
            refine RL.mv rfl rfl rfl ?_
            refine RL.finG ?_
            obtain ⟨y2243, e2244, h2225⟩ := bind_some h2225
            replace e2244 := chk_some e2244
            obtain ⟨y2245, K2246, h2247, h2248, h2249, h2250, h2251⟩ := bindF_K h2225
            refine GL.join (ι := Int) (fun (p : Int) => [(5, .int .i64 ((x0).length : Int)), (6, v12), (12, v2162), (13, .int .i64 (i2222 : Int)), (14, .int .i64 p), (106, .int .i64 ((x0).length : Int)), (107, .int .i64 (i2222 : Int))]) (fun (p : Int) => [own2 28 3 TR.int v12 V1109 l1108, own 3 TR.int v2162 l2161]) (fun (p : Int) => K2246 (.nx p)) ?_ ?_
            · refine GL.block ?_
              refine GL.loop (ι := Nat × Nat × Int) (fun (p : Nat × Nat × Int) => [(5, .int .i64 ((x0).length : Int)), (6, v12), (12, v2162), (13, .int .i64 (i2222 : Int)), (14, .int .i64 p.2.2), (106, .int .i64 ((x0).length : Int)), (107, .int .i64 (i2222 : Int)), (110, .int .i64 ((x0).length : Int)), (111, .int .i64 (p.1 : Int))]) (fun (p : Nat × Nat × Int) => [own2 28 3 TR.int v12 V1109 l1108, own 3 TR.int v2162 l2161]) (fun (p : Nat × Nat × Int) => p.1 + p.2.1 = (((x0).length : Int)).toNat ∧ rangeN (duel_Top_b7 l1108 i2222) p.2.1 p.1 p.2.2 = some y2245) (fun (p : Nat × Nat × Int) => p.2.1) (0, (((x0).length : Int)).toNat, (0 : Int)) ⟨by simp, h2247⟩ (fun a w st => St.cut [0, 1] ⟨rfl, rfl, rfl, rfl, rfl, rfl, rfl, rfl, rfl, trivial⟩ (by decide) rfl st) ?_
              rintro ⟨i2252, r2253, x2233⟩ ⟨h2258, h2257⟩
              try dsimp only at h2258 h2257
              refine GL.weak (env' := [(5, .int .i64 ((x0).length : Int)), (6, v12), (12, v2162), (13, .int .i64 (i2222 : Int)), (14, .int .i64 x2233), (106, .int .i64 ((x0).length : Int)), (107, .int .i64 (i2222 : Int)), (110, .int .i64 ((x0).length : Int)), (111, .int .i64 (i2252 : Int))]) (L' := [own2 28 3 TR.int v12 V1109 l1108, own 3 TR.int v2162 l2161]) (fun _ _ st => st) ?_
              refine GL.seq ?_
              refine GL.region ?_
              refine RL.binI (v := .bool (decide ((i2252 : Int) < ((x0).length : Int)))) rfl rfl rfl rfl rfl ?_
              refine RL.finG ?_
              refine GL.seq ?_
              refine GL.cond rfl (fun b2260 => ?_) (fun b2260 => ?_)
              · have h2261 : i2252 < (((x0).length : Int)).toNat := by have := of_decide_eq_true b2260; omega
                obtain ⟨r2262, hr⟩ : ∃ m, r2253 = m + 1 := ⟨r2253 - 1, by omega⟩
                subst hr
                obtain ⟨z2254, h2255, h2256⟩ := rangeN_some h2257
                unfold duel_Top_b7 at h2255
                try dsimp only at h2255
                refine GL.skip ?_
                refine GL.seq ?_
                refine GL.block ?_
                refine GL.seq ?_
                refine GL.region ?_
                refine RL.mv rfl rfl rfl ?_
                refine RL.asg rfl rfl rfl ?_
                refine RL.finG ?_
                refine GL.region ?_
                refine RL.mv rfl rfl rfl ?_
                refine RL.mv rfl rfl rfl ?_
                refine RL.mv rfl rfl rfl ?_
                obtain ⟨y2267, e2268, h2255⟩ := bind_some h2255
                refine RL.idxR 0 Try.underlying22 Try_ln28 rfl rfl rfl rfl rfl (idx_some e2268).1 (idx_some e2268).2.1 ?_
                refine RL.ldR (i := i2222) (r := y2267) 0 Try_ln28 rfl rfl rfl rfl (idx_some e2268).2.2 ?_
                refine RL.mv rfl rfl rfl ?_
                obtain ⟨y2269, e2270, h2255⟩ := bind_some h2255
                refine RL.idxS (sz := 1) 0 Try.underlying28 Try_ln3 rfl rfl rfl rfl rfl (SlOf.row (idx_some e2268).2.2) (idx_some e2270).1 (idx_some e2270).2.1 ?_
                refine RL.ldSx (i := i2252) (e' := y2269) 0 Ex.ik Try_ln3 rfl rfl rfl rfl (SlOf.row (idx_some e2268).2.2) (idx_some e2270).2.2 Part.self ?_
                refine RL.binI (v := .int .i64 (wadd x2233 y2269)) rfl rfl rfl rfl rfl ?_
                refine RL.asg rfl rfl rfl ?_
                refine RL.finG ?_
                refine GL.nilB ?_
                refine GL.region ?_
                refine RL.binI (v := .int .i64 ((i2252 + 1 : Nat) : Int)) rfl rfl rfl rfl (binI_succ i2252 (by omega)) ?_
                refine RL.mv rfl rfl rfl ?_
                refine RL.fin ?_
                cases h2255
                exact fun a w st => lop_intro (i2252 + 1, r2262, wadd x2233 y2269) ⟨by show i2252 + 1 + r2262 = (((x0).length : Int)).toNat; omega, h2256⟩ (by simp) (St.cut [0, 1] ⟨rfl, rfl, rfl, rfl, rfl, rfl, rfl, rfl, rfl, trivial⟩ (by decide) rfl st)
              · have h2261 : ¬ i2252 < (((x0).length : Int)).toNat := by have := of_decide_eq_false b2260; omega
                obtain rfl : r2253 = 0 := by omega
                replace h2257 : some (Fl.nx _) = some y2245 := h2257
                cases h2257
                exact GL.exit (fun a w st => mid_intro x2233 h2248 (St.cut [0, 1] ⟨rfl, rfl, rfl, rfl, rfl, rfl, rfl, trivial⟩ (by decide) rfl st))
            · rintro x2233 h2271
              have h2272 := h2249 _ h2271
              try dsimp only at h2272
              refine GL.weak (env' := [(5, .int .i64 ((x0).length : Int)), (6, v12), (12, v2162), (13, .int .i64 (i2222 : Int)), (14, .int .i64 x2233), (106, .int .i64 ((x0).length : Int)), (107, .int .i64 (i2222 : Int))]) (L' := [own2 28 3 TR.int v12 V1109 l1108, own 3 TR.int v2162 l2161]) (fun _ _ st => st) ?_
              refine GL.seq ?_
              refine GL.region ?_
              refine RL.mv rfl rfl rfl ?_
              refine RL.mv rfl rfl rfl ?_
              refine RL.binI (v := .bool (x2233 == ((x0).length : Int))) rfl rfl rfl rfl rfl ?_
              refine RL.finG ?_
              refine GL.cond rfl (fun b2273 => ?_) (fun b2273 => ?_)
              · replace h2272 := ite_t b2273 h2272
                refine GL.region ?_
                refine RL.mv rfl rfl rfl ?_
                refine RL.mv rfl rfl rfl ?_
                refine RL.bS (t := TR.int) (vs := [.int .i64 (i2222 : Int)]) ([(i2222 : Int)] : (List Int)) Try.underlying28 Try_lo3 rfl rfl rfl rfl ⟨VR.int, trivial⟩ rfl (by decide) ?_
                intro v2278
                obtain ⟨y2279, e2280, h2272⟩ := bind_some h2272
                replace e2280 := chk_some e2280
                refine RL.app 1 2 Try.underlying28 Try_lo3 rfl rfl rfl rfl rfl rfl rfl SlOf.own e2280 ?_
                intro v2281
                refine RL.reL (L' := [own2 28 3 TR.int v12 V1109 l1108, own 3 TR.int v2281 (l2161 ++ ([(i2222 : Int)] : (List Int))), own 3 TR.int v2278 ([(i2222 : Int)] : (List Int))]) rfl ?_
                refine RL.asg rfl rfl rfl ?_
                refine RL.finG ?_
                refine GL.nilB ?_
                refine GL.region ?_
                refine RL.binI (v := .int .i64 ((i2222 + 1 : Nat) : Int)) rfl rfl rfl rfl (binI_succ i2222 (by omega)) ?_
                refine RL.mv rfl rfl rfl ?_
                refine RL.fin ?_
                cases h2272
                exact fun a w st => lop_intro (i2222 + 1, r2232, (l2161 ++ ([(i2222 : Int)] : (List Int))), v2281) ⟨by show i2222 + 1 + r2232 = (((x0).length : Int)).toNat; omega, h2226⟩ (by simp) (St.cut [0, 1] ⟨rfl, rfl, rfl, rfl, rfl, trivial⟩ (by decide) rfl st)
              · replace h2272 := ite_f b2273 h2272
                refine GL.skip ?_
                refine GL.nilB ?_
                refine GL.region ?_
                refine RL.binI (v := .int .i64 ((i2222 + 1 : Nat) : Int)) rfl rfl rfl rfl (binI_succ i2222 (by omega)) ?_
                refine RL.mv rfl rfl rfl ?_
                refine RL.fin ?_
                cases h2272
                exact fun a w st => lop_intro (i2222 + 1, r2232, l2161, v2162) ⟨by show i2222 + 1 + r2232 = (((x0).length : Int)).toNat; omega, h2226⟩ (by simp) (St.cut [0, 1] ⟨rfl, rfl, rfl, rfl, rfl, trivial⟩ (by decide) rfl st)
          · have h2231 : ¬ i2222 < (((x0).length : Int)).toNat := by have := of_decide_eq_false b2230; omega
            obtain rfl : r2223 = 0 := by omega
            replace h2227 : some (Fl.nx _) = some y2215 := h2227
            cases h2227
            exact GL.exit (fun a w st => mid_intro (l2161, v2162) h2218 (St.cut [1] ⟨rfl, trivial⟩ (by decide) rfl st))
        · rintro ⟨l2161, v2162⟩ h2282
          have h2283 := h2219 _ h2282
          try dsimp only at h2283
          refine GL.weak (env' := [(12, v2162)]) (L' := [own 3 TR.int v2162 l2161]) (fun _ _ st => st) ?_
          refine GL.seq ?_
          refine GL.region ?_
          refine RL.mv rfl rfl rfl ?_
          refine RL.asg rfl rfl rfl ?_
          refine RL.asg rfl rfl rfl ?_
          refine RL.finG ?_
          have h2283 := Option.some.inj h2283
          subst h2283
          exact GL.ret (Gx.ret (v := .tuple #[v2162, .int .i64 (0 : Int)]) (res2 rfl rfl rfl) (fun a w st => (st.pick [0] (by decide) rfl).toPost v2162))

set_option maxHeartbeats 4000000 in
theorem duel_Wins_c (S : Hp) (w : World) (hS : S.sub w) (v0 : Value) (x0 : (List (List Int))) (k0 : ((TR.sl (TR.sl TR.int))).vrep S v0 x0) (res : (List Int) × Int) (hm : duel_Wins_m x0 = some res) : Calls Try.prog 33 #[v0] w (Post w S (fun (o : Value) => .tuple #[o, .int .i64 res.2]) (fun (o : Value) => [own 3 TR.int o res.1])) := by
  refine calls_enter 73 Try.func33 Try.ntmps33 rfl S false [(0, v0)] [imm (TR.sl (TR.sl TR.int)) v0 x0] rfl ⟨rfl, trivial⟩ hS ⟨k0, trivial⟩ ?_
  unfold duel_Wins_m at hm
  refine GL.seq ?_
  refine GL.region ?_
  refine RL.asg rfl rfl rfl ?_
  refine RL.asg rfl rfl rfl ?_
  refine RL.finG ?_
  refine GL.seq ?_
  refine GL.seq ?_
  refine GL.region ?_
  refine RL.mv rfl rfl rfl ?_
  obtain ⟨y4, e5, hm⟩ := bind_some hm
  refine RL.callC (v := .int .i64 y4) (vs := [v0]) Try_fit41 rfl rfl rfl rfl (fun U w hU hW hL => duel_Check_c U w hU _ _ (hL 0 _ _ rfl Seen.imm) _ e5) ?_
  refine RL.asg rfl rfl rfl ?_
  refine RL.finG ?_
  refine GL.seq ?_
  refine GL.region ?_
  refine RL.mv rfl rfl rfl ?_
  refine RL.binI (v := .bool (y4 != (0 : Int))) rfl rfl rfl rfl rfl ?_
  refine RL.finG ?_
  refine GL.cond rfl (fun b6 => ?_) (fun b6 => ?_)
  · replace hm := ite_t b6 hm
    refine GL.seq ?_
    refine GL.region ?_
    refine RL.mv rfl rfl rfl ?_
    refine RL.asg rfl rfl rfl ?_
    refine RL.asg rfl rfl rfl ?_
    refine RL.finG ?_
    refine GL.weak (fun a w st => st.nilOwn 3 TR.int) ?_
    have hm := Option.some.inj hm
    subst hm
    exact GL.ret (Gx.ret (v := .tuple #[Value.slice none 0 0, .int .i64 y4]) (res2 rfl rfl rfl) (fun a w st => (st.pick [1] (by decide) rfl).toPost (Value.slice none 0 0)))
  · replace hm := ite_f b6 hm
    refine GL.skip ?_
    refine GL.seq ?_
    refine GL.region ?_
    refine RL.mv rfl rfl rfl ?_
    refine RL.lenS 0 Try.underlying22 rfl rfl rfl rfl SlOf.imm ?_
    obtain ⟨y10, e11, hm⟩ := bind_some hm
    replace e11 := chk_some e11
    refine RL.mkS (t := TR.int) (z := (0 : Int)) Try.underlying28 Try_lo3 (fun S => rfl) rfl rfl rfl rfl e11.1 e11.2 ?_
    intro v12
    refine RL.asg rfl rfl rfl ?_
    refine RL.finG ?_
    refine GL.seq ?_
    refine GL.seq ?_
    refine GL.region ?_
    refine RL.mv rfl rfl rfl ?_
    refine RL.lenS 0 Try.underlying22 rfl rfl rfl rfl SlOf.imm ?_
    refine RL.mv rfl rfl rfl ?_
    refine RL.finG ?_
    refine GL.open_ 0 rfl (fun S h => len_imm S h) (fun n399 => ?_)
    obtain ⟨y400, K401, h402, h403, h404, h405, h406⟩ := bindR_K hm
    refine GL.join (ι := (List Int) × Value) (fun (p : (List Int) × Value) => [(5, p.2)]) (fun (p : (List Int) × Value) => [own 3 TR.int p.2 p.1]) (fun (p : (List Int) × Value) => K401 (.nx p.1)) ?_ ?_
    · refine GL.block ?_
      refine GL.loop (ι := Nat × (List (List Int)) × (List Int) × Value) (fun (p : Nat × (List (List Int)) × (List Int) × Value) => [(0, v0), (5, p.2.2.2), (17, .int .i64 ((x0).length : Int)), (18, .int .i64 (p.1 : Int))]) (fun (p : Nat × (List (List Int)) × (List Int) × Value) => [imm (TR.sl (TR.sl TR.int)) v0 x0, own 3 TR.int p.2.2.2 p.2.2.1]) (fun (p : Nat × (List (List Int)) × (List Int) × Value) => p.1 + p.2.1.length = (x0).length ∧ List.drop p.1 x0 = p.2.1 ∧ rangeL (duel_Wins_b1 x0) p.2.1 p.1 p.2.2.1 = some y400) (fun (p : Nat × (List (List Int)) × (List Int) × Value) => p.2.1.length) (0, x0, (List.replicate (((x0).length : Int)).toNat (0 : Int)), v12) ⟨by simp, by simp, h402⟩ (fun a w st => St.cut [0, 1] ⟨rfl, rfl, rfl, rfl, trivial⟩ (by decide) rfl st) ?_
      rintro ⟨i407, r408, l205, v206⟩ ⟨h413, h414, h412⟩
      try dsimp only at h413 h414 h412
      refine GL.weak (env' := [(0, v0), (5, v206), (17, .int .i64 ((x0).length : Int)), (18, .int .i64 (i407 : Int))]) (L' := [imm (TR.sl (TR.sl TR.int)) v0 x0, own 3 TR.int v206 l205]) (fun _ _ st => st) ?_
      refine GL.seq ?_
      refine GL.region ?_
      refine RL.binI (v := .bool (decide ((i407 : Int) < ((x0).length : Int)))) rfl rfl rfl rfl rfl ?_
      refine RL.finG ?_
      refine GL.seq ?_
      refine GL.cond rfl (fun b415 => ?_) (fun b415 => ?_)
      · have h416 : i407 < (x0).length := by have := of_decide_eq_true b415; omega
        obtain ⟨y417, r419, hr, e418, h420⟩ := drop_cons h414 rfl h416
        subst hr
        obtain ⟨z409, h410, h411⟩ := rangeL_some h412
        unfold duel_Wins_b1 at h410
        try dsimp only at h410
        refine GL.skip ?_
        refine GL.seq ?_
        refine GL.block ?_
        refine GL.seq ?_
        refine GL.region ?_
        refine RL.mv rfl rfl rfl ?_
        refine RL.asg rfl rfl rfl ?_
        refine RL.finG ?_
        refine GL.seq ?_
        refine GL.region ?_
        refine RL.mv rfl rfl rfl ?_
        refine RL.lenS 0 Try.underlying22 rfl rfl rfl rfl SlOf.imm ?_
        refine RL.mv rfl rfl rfl ?_
        refine RL.finG ?_
        refine GL.open_ 0 rfl (fun S h => len_imm S h) (fun n523 => ?_)
        obtain ⟨y524, K525, h526, h527, h528, h529, h530⟩ := bindF_K h410
        refine GL.join (ι := (List Int) × Value) (fun (p : (List Int) × Value) => [(0, v0), (5, p.2), (17, .int .i64 ((x0).length : Int)), (18, .int .i64 (i407 : Int))]) (fun (p : (List Int) × Value) => [imm (TR.sl (TR.sl TR.int)) v0 x0, own 3 TR.int p.2 p.1]) (fun (p : (List Int) × Value) => K525 (.nx p.1)) ?_ ?_
        · refine GL.block ?_
          refine GL.loop (ι := Nat × (List (List Int)) × (List Int) × Value) (fun (p : Nat × (List (List Int)) × (List Int) × Value) => [(0, v0), (5, p.2.2.2), (6, .int .i64 (i407 : Int)), (17, .int .i64 ((x0).length : Int)), (18, .int .i64 (i407 : Int)), (22, .int .i64 ((x0).length : Int)), (23, .int .i64 (p.1 : Int))]) (fun (p : Nat × (List (List Int)) × (List Int) × Value) => [imm (TR.sl (TR.sl TR.int)) v0 x0, own 3 TR.int p.2.2.2 p.2.2.1]) (fun (p : Nat × (List (List Int)) × (List Int) × Value) => p.1 + p.2.1.length = (x0).length ∧ List.drop p.1 x0 = p.2.1 ∧ rangeL (duel_Wins_b2 y417 i407) p.2.1 p.1 p.2.2.1 = some y524) (fun (p : Nat × (List (List Int)) × (List Int) × Value) => p.2.1.length) (0, x0, l205, v206) ⟨by simp, by simp, h526⟩ (fun a w st => St.cut [0, 1] ⟨rfl, rfl, rfl, rfl, rfl, rfl, rfl, trivial⟩ (by decide) rfl st) ?_
          rintro ⟨i531, r532, l471, v472⟩ ⟨h537, h538, h536⟩
          try dsimp only at h537 h538 h536
          refine GL.weak (env' := [(0, v0), (5, v472), (6, .int .i64 (i407 : Int)), (17, .int .i64 ((x0).length : Int)), (18, .int .i64 (i407 : Int)), (22, .int .i64 ((x0).length : Int)), (23, .int .i64 (i531 : Int))]) (L' := [imm (TR.sl (TR.sl TR.int)) v0 x0, own 3 TR.int v472 l471]) (fun _ _ st => st) ?_
          refine GL.seq ?_
          refine GL.region ?_
          refine RL.binI (v := .bool (decide ((i531 : Int) < ((x0).length : Int)))) rfl rfl rfl rfl rfl ?_
          refine RL.finG ?_
          refine GL.seq ?_
          refine GL.cond rfl (fun b539 => ?_) (fun b539 => ?_)
          · have h540 : i531 < (x0).length := by have := of_decide_eq_true b539; omega
            obtain ⟨y541, r543, hr, e542, h544⟩ := drop_cons h538 rfl h540
            subst hr
            obtain ⟨z533, h534, h535⟩ := rangeL_some h536
            unfold duel_Wins_b2 at h534
            try dsimp only at h534
            refine GL.skip ?_
            refine GL.seq ?_
            refine GL.block ?_
            refine GL.seq ?_
            refine GL.region ?_
            refine RL.mv rfl rfl rfl ?_
            refine RL.asg rfl rfl rfl ?_
            refine RL.finG ?_
            refine GL.block ?_
            refine GL.seq ?_
            refine GL.regionQ rfl rfl (by kernel_rfl) ?_
            refine RL.mv rfl rfl rfl ?_
            refine RL.mv rfl rfl rfl ?_
            refine RL.idxS (sz := 1) 0 Try.underlying22 Try_ln28 rfl rfl rfl rfl rfl SlOf.imm (by omega) (by omega) ?_
            refine RL.ldS (i := i407) (r := (TR.sl TR.int)) (e' := y417) 0 Try_ln28 rfl rfl rfl rfl SlOf.imm e418 Part.self ?_
            intro v551
            refine RL.mv rfl rfl rfl ?_
            obtain ⟨y552, e553, h534⟩ := bind_some h534
            refine RL.idxS (sz := 1) 2 Try.underlying28 Try_ln3 rfl rfl rfl rfl rfl SlOf.imm (idx_some e553).1 (idx_some e553).2.1 ?_
            refine RL.ldSx (i := i531) (e' := y552) 2 Ex.ik Try_ln3 rfl rfl rfl rfl SlOf.imm (idx_some e553).2.2 Part.self ?_
            refine RL.mv rfl rfl rfl ?_
            refine RL.mv rfl rfl rfl ?_
            refine RL.idxS (sz := 1) 0 Try.underlying22 Try_ln28 rfl rfl rfl rfl rfl SlOf.imm (by omega) (by omega) ?_
            refine RL.ldS (i := i531) (r := (TR.sl TR.int)) (e' := y541) 0 Try_ln28 rfl rfl rfl rfl SlOf.imm e542 Part.self ?_
            intro v554
            refine RL.reL (L' := [imm (TR.sl (TR.sl TR.int)) v0 x0, own 3 TR.int v472 l471, imm (TR.sl TR.int) v551 y417, imm (TR.sl TR.int) v554 y541]) rfl ?_
            refine RL.mv rfl rfl rfl ?_
            obtain ⟨y555, e556, h534⟩ := bind_some h534
            refine RL.idxS (sz := 1) 3 Try.underlying28 Try_ln3 rfl rfl rfl rfl rfl SlOf.imm (idx_some e556).1 (idx_some e556).2.1 ?_
            refine RL.ldSx (i := i407) (e' := y555) 3 Ex.ik Try_ln3 rfl rfl rfl rfl SlOf.imm (idx_some e556).2.2 Part.self ?_
            refine RL.binI (v := .bool (decide (y552 > y555))) rfl rfl rfl rfl rfl ?_
            refine RL.asg rfl rfl rfl ?_
            refine RL.finQG ?_
            refine GL.cond rfl (fun b557 => ?_) (fun b557 => ?_)
            · replace h534 := ite_t b557 h534
              refine GL.region ?_
              refine RL.mv rfl rfl rfl ?_
              refine RL.mv rfl rfl rfl ?_
              obtain ⟨y562, e563, h534⟩ := bind_some h534
              refine RL.idxS (sz := 1) 1 Try.underlying28 Try_ln3 rfl rfl rfl rfl rfl SlOf.own (idx_some e563).1 (idx_some e563).2.1 ?_
              refine RL.ldSx (i := i407) (e' := y562) 1 Ex.ik Try_ln3 rfl rfl rfl rfl SlOf.own (idx_some e563).2.2 Part.self ?_
              refine RL.binI (v := .int .i64 (wadd y562 (1 : Int))) rfl rfl rfl rfl rfl ?_
              obtain ⟨y564, e565, h534⟩ := bind_some h534
              refine RL.idxS (sz := 1) 1 Try.underlying28 Try_ln3 rfl rfl rfl rfl rfl SlOf.own (idx_some e565).1 (idx_some e565).2.1 ?_
              refine RL.stS (i := i407) (e' := wadd y562 (1 : Int)) (e1 := wadd y562 (1 : Int)) (r := TR.int) 1 Try_ln3 rfl rfl rfl rfl VR.int rfl (idx_some e565).2.2 Upd.self ?_
              refine RL.finG ?_
              refine GL.nilB ?_
              refine GL.nilB ?_
              refine GL.region ?_
              refine RL.binI (v := .int .i64 ((i531 + 1 : Nat) : Int)) rfl rfl rfl rfl (binI_succ i531 (by omega)) ?_
              refine RL.mv rfl rfl rfl ?_
              refine RL.fin ?_
              cases h534
              exact fun a w st => lop_intro (i531 + 1, r543, (List.set l471 i407 (wadd y562 (1 : Int))), v472) ⟨by show i531 + 1 + r543.length = (x0).length; simp only [List.length_cons] at h537; omega, h544, h535⟩ (by simp) (St.cut [0, 1] ⟨rfl, rfl, rfl, rfl, rfl, rfl, rfl, trivial⟩ (by decide) rfl st)
            · replace h534 := ite_f b557 h534
              refine GL.seq ?_
              refine GL.regionQ rfl rfl (by kernel_rfl) ?_
              refine RL.mv rfl rfl rfl ?_
              refine RL.mv rfl rfl rfl ?_
              refine RL.idxS (sz := 1) 0 Try.underlying22 Try_ln28 rfl rfl rfl rfl rfl SlOf.imm (by omega) (by omega) ?_
              refine RL.ldS (i := i407) (r := (TR.sl TR.int)) (e' := y417) 0 Try_ln28 rfl rfl rfl rfl SlOf.imm e418 Part.self ?_
              intro v572
              refine RL.mv rfl rfl rfl ?_
              obtain ⟨y573, e574, h534⟩ := bind_some h534
              refine RL.idxS (sz := 1) 4 Try.underlying28 Try_ln3 rfl rfl rfl rfl rfl SlOf.imm (idx_some e574).1 (idx_some e574).2.1 ?_
              refine RL.ldSx (i := i531) (e' := y573) 4 Ex.ik Try_ln3 rfl rfl rfl rfl SlOf.imm (idx_some e574).2.2 Part.self ?_
              refine RL.mv rfl rfl rfl ?_
              refine RL.mv rfl rfl rfl ?_
              refine RL.idxS (sz := 1) 0 Try.underlying22 Try_ln28 rfl rfl rfl rfl rfl SlOf.imm (by omega) (by omega) ?_
              refine RL.ldS (i := i531) (r := (TR.sl TR.int)) (e' := y541) 0 Try_ln28 rfl rfl rfl rfl SlOf.imm e542 Part.self ?_
              intro v575
              refine RL.reL (L' := [imm (TR.sl (TR.sl TR.int)) v0 x0, own 3 TR.int v472 l471, imm (TR.sl TR.int) v551 y417, imm (TR.sl TR.int) v554 y541, imm (TR.sl TR.int) v572 y417, imm (TR.sl TR.int) v575 y541]) rfl ?_
              refine RL.mv rfl rfl rfl ?_
              obtain ⟨y576, e577, h534⟩ := bind_some h534
              refine RL.idxS (sz := 1) 5 Try.underlying28 Try_ln3 rfl rfl rfl rfl rfl SlOf.imm (idx_some e577).1 (idx_some e577).2.1 ?_
              refine RL.ldSx (i := i407) (e' := y576) 5 Ex.ik Try_ln3 rfl rfl rfl rfl SlOf.imm (idx_some e577).2.2 Part.self ?_
              refine RL.binI (v := .bool (decide (y573 < y576))) rfl rfl rfl rfl rfl ?_
              refine RL.asg rfl rfl rfl ?_
              refine RL.finQG ?_
              refine GL.cond rfl (fun b578 => ?_) (fun b578 => ?_)
              · replace h534 := ite_t b578 h534
                refine GL.region ?_
                refine RL.mv rfl rfl rfl ?_
                refine RL.mv rfl rfl rfl ?_
                obtain ⟨y583, e584, h534⟩ := bind_some h534
                refine RL.idxS (sz := 1) 1 Try.underlying28 Try_ln3 rfl rfl rfl rfl rfl SlOf.own (idx_some e584).1 (idx_some e584).2.1 ?_
                refine RL.ldSx (i := i407) (e' := y583) 1 Ex.ik Try_ln3 rfl rfl rfl rfl SlOf.own (idx_some e584).2.2 Part.self ?_
                refine RL.binI (v := .int .i64 (wsub y583 (1 : Int))) rfl rfl rfl rfl rfl ?_
                obtain ⟨y585, e586, h534⟩ := bind_some h534
                refine RL.idxS (sz := 1) 1 Try.underlying28 Try_ln3 rfl rfl rfl rfl rfl SlOf.own (idx_some e586).1 (idx_some e586).2.1 ?_
                refine RL.stS (i := i407) (e' := wsub y583 (1 : Int)) (e1 := wsub y583 (1 : Int)) (r := TR.int) 1 Try_ln3 rfl rfl rfl rfl VR.int rfl (idx_some e586).2.2 Upd.self ?_
                refine RL.finG ?_
                refine GL.nilB ?_
                refine GL.nilB ?_
                refine GL.region ?_
                refine RL.binI (v := .int .i64 ((i531 + 1 : Nat) : Int)) rfl rfl rfl rfl (binI_succ i531 (by omega)) ?_
                refine RL.mv rfl rfl rfl ?_
                refine RL.fin ?_
                cases h534
                exact fun a w st => lop_intro (i531 + 1, r543, (List.set l471 i407 (wsub y583 (1 : Int))), v472) ⟨by show i531 + 1 + r543.length = (x0).length; simp only [List.length_cons] at h537; omega, h544, h535⟩ (by simp) (St.cut [0, 1] ⟨rfl, rfl, rfl, rfl, rfl, rfl, rfl, trivial⟩ (by decide) rfl st)
              · replace h534 := ite_f b578 h534
                refine GL.skip ?_
                refine GL.nilB ?_
                refine GL.nilB ?_
                refine GL.region ?_
                refine RL.binI (v := .int .i64 ((i531 + 1 : Nat) : Int)) rfl rfl rfl rfl (binI_succ i531 (by omega)) ?_
                refine RL.mv rfl rfl rfl ?_
                refine RL.fin ?_
                cases h534
                exact fun a w st => lop_intro (i531 + 1, r543, l471, v472) ⟨by show i531 + 1 + r543.length = (x0).length; simp only [List.length_cons] at h537; omega, h544, h535⟩ (by simp) (St.cut [0, 1] ⟨rfl, rfl, rfl, rfl, rfl, rfl, rfl, trivial⟩ (by decide) rfl st)
          · have h540 : ¬ i531 < (x0).length := by have := of_decide_eq_false b539; omega
            obtain rfl : r532 = [] := by rw [← h538]; exact List.drop_of_length_le (by omega)
            replace h536 : some (Fl.nx _) = some y524 := h536
            cases h536
            exact GL.exit (fun a w st => mid_intro (l471, v472) h527 (St.cut [0, 1] ⟨rfl, rfl, rfl, rfl, trivial⟩ (by decide) rfl st))
        · rintro ⟨l471, v472⟩ h587
          have h588 := h528 _ h587
          try dsimp only at h588
          refine GL.weak (env' := [(0, v0), (5, v472), (17, .int .i64 ((x0).length : Int)), (18, .int .i64 (i407 : Int))]) (L' := [imm (TR.sl (TR.sl TR.int)) v0 x0, own 3 TR.int v472 l471]) (fun _ _ st => st) ?_
          refine GL.nilB ?_
          refine GL.region ?_
          refine RL.binI (v := .int .i64 ((i407 + 1 : Nat) : Int)) rfl rfl rfl rfl (binI_succ i407 (by omega)) ?_
          refine RL.mv rfl rfl rfl ?_
          refine RL.fin ?_
          cases h588
          exact fun a w st => lop_intro (i407 + 1, r419, l471, v472) ⟨by show i407 + 1 + r419.length = (x0).length; simp only [List.length_cons] at h413; omega, h420, h411⟩ (by simp) (St.cut [0, 1] ⟨rfl, rfl, rfl, rfl, trivial⟩ (by decide) rfl st)
      · have h416 : ¬ i407 < (x0).length := by have := of_decide_eq_false b415; omega
        obtain rfl : r408 = [] := by rw [← h414]; exact List.drop_of_length_le (by omega)
        replace h412 : some (Fl.nx _) = some y400 := h412
        cases h412
        exact GL.exit (fun a w st => mid_intro (l205, v206) h403 (St.cut [1] ⟨rfl, trivial⟩ (by decide) rfl st))
    · rintro ⟨l205, v206⟩ h589
      have h590 := h404 _ h589
      try dsimp only at h590
      refine GL.weak (env' := [(5, v206)]) (L' := [own 3 TR.int v206 l205]) (fun _ _ st => st) ?_
      refine GL.seq ?_
      refine GL.region ?_
      refine RL.mv rfl rfl rfl ?_
      refine RL.asg rfl rfl rfl ?_
      refine RL.asg rfl rfl rfl ?_
      refine RL.finG ?_
      have h590 := Option.some.inj h590
      subst h590
      exact GL.ret (Gx.ret (v := .tuple #[v206, .int .i64 (0 : Int)]) (res2 rfl rfl rfl) (fun a w st => (st.pick [0] (by decide) rfl).toPost v206))

set_option maxHeartbeats 4000000 in
theorem slices_IndexFunc_api_Errno_api_Errno_c (S : Hp) (w : World) (hS : S.sub w) (v0 : Value) (x0 : (List Int)) (k0 : ((TR.sl TR.int)).vrep S v0 x0) (f1 : FuncId) (c1 : Array Value) (t1 : Fit Try.prog f1) (g1 : Int → Option Bool) (k1 : ∀ (U : Hp) (w' : World), Hp.le S U → U.sub w' → ∀ (a0 : Int) (rr : Bool), g1 a0 = some rr → Calls Try.prog f1 (#[.int .i64 a0] ++ c1) w' (PostV w' (.bool rr))) (res : Int) (hm : slices_IndexFunc_api_Errno_api_Errno_m x0 g1 = some res) : Calls Try.prog 54 #[v0, .func (.func f1) #[] c1] w (PostV w (.int .i64 res)) := by
  refine calls_enter 19 Try.func54 Try.ntmps54 rfl S false [(0, v0), (1, .func (.func f1) #[] c1)] [imm (TR.sl TR.int) v0 x0] rfl ⟨rfl, ⟨rfl, trivial⟩⟩ hS ⟨k0, trivial⟩ ?_
  unfold slices_IndexFunc_api_Errno_api_Errno_m at hm
  refine GL.seq ?_
  refine GL.region ?_
  refine RL.asg rfl rfl rfl ?_
  refine RL.finG ?_
  refine GL.seq ?_
  refine GL.seq ?_
  refine GL.region ?_
  refine RL.mv rfl rfl rfl ?_
  refine RL.lenS 0 Try.underlying55 rfl rfl rfl rfl SlOf.imm ?_
  refine RL.mv rfl rfl rfl ?_
  refine RL.finG ?_
  refine GL.open_ 0 rfl (fun S h => len_imm S h) (fun n12 => ?_)
  obtain ⟨y13, K14, h15, h16, h17, h18, h19⟩ := bindR_K hm
  refine GL.join (ι := Unit) (fun (p : Unit) => []) (fun (p : Unit) => []) (fun (p : Unit) => K14 (.nx ())) ?_ ?_
  · refine GL.block ?_
    refine GL.loop (ι := Nat × (List Int)) (fun (p : Nat × (List Int)) => [(0, v0), (1, .func (.func f1) #[] c1), (7, .int .i64 ((x0).length : Int)), (8, .int .i64 (p.1 : Int))]) (fun (p : Nat × (List Int)) => [imm (TR.sl TR.int) v0 x0]) (fun (p : Nat × (List Int)) => p.1 + p.2.length = (x0).length ∧ List.drop p.1 x0 = p.2 ∧ rangeL (slices_IndexFunc_api_Errno_api_Errno_b1 g1) p.2 p.1 () = some y13) (fun (p : Nat × (List Int)) => p.2.length) (0, x0) ⟨by simp, by simp, h15⟩ (fun a w st => St.cut [0] ⟨rfl, rfl, rfl, rfl, trivial⟩ (by decide) rfl st) ?_
    rintro ⟨i20, r21⟩ ⟨h26, h27, h25⟩
    try dsimp only at h26 h27 h25
    refine GL.weak (env' := [(0, v0), (1, .func (.func f1) #[] c1), (7, .int .i64 ((x0).length : Int)), (8, .int .i64 (i20 : Int))]) (L' := [imm (TR.sl TR.int) v0 x0]) (fun _ _ st => st) ?_
    refine GL.seq ?_
    refine GL.region ?_
    refine RL.binI (v := .bool (decide ((i20 : Int) < ((x0).length : Int)))) rfl rfl rfl rfl rfl ?_
    refine RL.finG ?_
    refine GL.seq ?_
    refine GL.cond rfl (fun b28 => ?_) (fun b28 => ?_)
    · have h29 : i20 < (x0).length := by have := of_decide_eq_true b28; omega
      obtain ⟨y30, r32, hr, e31, h33⟩ := drop_cons h27 rfl h29
      subst hr
      obtain ⟨z22, h23, h24⟩ := rangeL_some h25
      unfold slices_IndexFunc_api_Errno_api_Errno_b1 at h23
      try dsimp only at h23
      refine GL.skip ?_
      refine GL.seq ?_
      refine GL.block ?_
      refine GL.seq ?_
      refine GL.region ?_
      refine RL.mv rfl rfl rfl ?_
      refine RL.asg rfl rfl rfl ?_
      refine RL.finG ?_
      refine GL.seq ?_
      refine GL.region ?_
      refine RL.mv rfl rfl rfl ?_
      refine RL.mv rfl rfl rfl ?_
      refine RL.mv rfl rfl rfl ?_
      refine RL.idxS (sz := 1) 0 Try.underlying55 Try_ln24 rfl rfl rfl rfl rfl SlOf.imm (by omega) (by omega) ?_
      refine RL.ldSx (i := i20) (e' := y30) 0 Ex.ik Try_ln24 rfl rfl rfl rfl SlOf.imm e31 Part.self ?_
      obtain ⟨y36, e37, h23⟩ := bind_some h23
      refine RL.callV (v := .bool y36) (vs := [.int .i64 y30]) t1 rfl (Or.inl rfl) rfl rfl rfl rfl (fun U w hU hW hL => k1 U w hW hU y30 _ e37) ?_
      refine RL.finG ?_
      refine GL.cond rfl (fun b38 => ?_) (fun b38 => ?_)
      · replace h23 := ite_t b38 h23
        refine GL.seq ?_
        refine GL.region ?_
        refine RL.mv rfl rfl rfl ?_
        refine RL.asg rfl rfl rfl ?_
        refine RL.finG ?_
        cases h23
        replace h24 : some (Fl.rt _) = some y13 := h24
        cases h24
        have hh := h18 _ h16
        subst hh
        exact GL.ret (Gx.ret (v := .int .i64 (i20 : Int)) (res1 rfl rfl) (fun a w st => st.toPostV))
      · replace h23 := ite_f b38 h23
        refine GL.skip ?_
        refine GL.nilB ?_
        refine GL.region ?_
        refine RL.binI (v := .int .i64 ((i20 + 1 : Nat) : Int)) rfl rfl rfl rfl (binI_succ i20 (by omega)) ?_
        refine RL.mv rfl rfl rfl ?_
        refine RL.fin ?_
        cases h23
        exact fun a w st => lop_intro (i20 + 1, r32) ⟨by show i20 + 1 + r32.length = (x0).length; simp only [List.length_cons] at h26; omega, h33, h24⟩ (by simp) (St.cut [0] ⟨rfl, rfl, rfl, rfl, trivial⟩ (by decide) rfl st)
    · have h29 : ¬ i20 < (x0).length := by have := of_decide_eq_false b28; omega
      obtain rfl : r21 = [] := by rw [← h27]; exact List.drop_of_length_le (by omega)
      replace h25 : some (Fl.nx _) = some y13 := h25
      cases h25
      exact GL.exit (fun a w st => mid_intro () h16 (St.cut [] trivial (by decide) rfl st))
  · rintro ⟨⟩ h39
    have h40 := h17 _ h39
    try dsimp only at h40
    refine GL.weak (env' := []) (L' := []) (fun _ _ st => st) ?_
    refine GL.seq ?_
    refine GL.region ?_
    refine RL.asg rfl rfl rfl ?_
    refine RL.finG ?_
    have h40 := Option.some.inj h40
    subst h40
    exact GL.ret (Gx.ret (v := .int .i64 (-1 : Int)) (res1 rfl rfl) (fun a w st => st.toPostV))

set_option maxHeartbeats 4000000 in
theorem slices_ContainsFunc_api_Errno_api_Errno_c (S : Hp) (w : World) (hS : S.sub w) (v0 : Value) (x0 : (List Int)) (k0 : ((TR.sl TR.int)).vrep S v0 x0) (f1 : FuncId) (c1 : Array Value) (t1 : Fit Try.prog f1) (g1 : Int → Option Bool) (k1 : ∀ (U : Hp) (w' : World), Hp.le S U → U.sub w' → ∀ (a0 : Int) (rr : Bool), g1 a0 = some rr → Calls Try.prog f1 (#[.int .i64 a0] ++ c1) w' (PostV w' (.bool rr))) (res : Bool) (hm : slices_ContainsFunc_api_Errno_api_Errno_m x0 g1 = some res) : Calls Try.prog 46 #[v0, .func (.func f1) #[] c1] w (PostV w (.bool res)) := by
  refine calls_enter 9 Try.func46 Try.ntmps46 rfl S false [(0, v0), (1, .func (.func f1) #[] c1)] [imm (TR.sl TR.int) v0 x0] rfl ⟨rfl, ⟨rfl, trivial⟩⟩ hS ⟨k0, trivial⟩ ?_
  unfold slices_ContainsFunc_api_Errno_api_Errno_m at hm
  refine GL.seq ?_
  refine GL.region ?_
  refine RL.asg rfl rfl rfl ?_
  refine RL.finG ?_
  refine GL.seq ?_
  refine GL.region ?_
  refine RL.mv rfl rfl rfl ?_
  refine RL.mv rfl rfl rfl ?_
  obtain ⟨y5, e6, hm⟩ := bind_some hm
  refine RL.callV (v := .int .i64 y5) (vs := [v0, .func (.func f1) #[] c1]) Try_fit54 rfl (Or.inl rfl) rfl rfl rfl rfl (fun U w hU hW hL => slices_IndexFunc_api_Errno_api_Errno_c U w hU _ _ (hL 0 _ _ rfl Seen.imm) f1 c1 t1 g1 (fun U' w' hle => k1 U' w' (Hp.le_trans hW hle)) _ e6) ?_
  refine RL.binI (v := .bool (decide (y5 ≥ (0 : Int)))) rfl rfl rfl rfl rfl ?_
  refine RL.asg rfl rfl rfl ?_
  refine RL.finG ?_
  have hm := Option.some.inj hm
  subst hm
  exact GL.ret (Gx.ret (v := .bool (decide (y5 ≥ (0 : Int)))) (res1 rfl rfl) (fun a w st => st.toPostV))

set_option maxHeartbeats 4000000 in
theorem pk_good_1_c (S : Hp) (w : World) (hS : S.sub w) (x0 : Int) (res : Bool) (hm : pk_good_1_m x0 = some res) : Calls Try.prog 47 #[.int .i64 x0] w (PostC w (.bool res)) := by
  refine calls_enter 5 Try.func47 Try.ntmps47 rfl S true [(0, .int .i64 x0)] [] rfl ⟨rfl, trivial⟩ hS trivial ?_
  unfold pk_good_1_m at hm
  refine GL.seq ?_
  refine GL.region ?_
  refine RL.asg rfl rfl rfl ?_
  refine RL.finG ?_
  refine GL.seq ?_
  refine GL.region ?_
  refine RL.mv rfl rfl rfl ?_
  refine RL.binI (v := .bool (x0 != (0 : Int))) rfl rfl rfl rfl rfl ?_
  refine RL.asg rfl rfl rfl ?_
  refine RL.finG ?_
  have hm := Option.some.inj hm
  subst hm
  exact GL.ret (Gx.ret (v := .bool (x0 != (0 : Int))) (res1 rfl rfl) (fun a w st => st.toPostC rfl))

set_option maxHeartbeats 4000000 in
theorem pk_good_c (S : Hp) (w : World) (hS : S.sub w) (v0 : Value) (x0 : (List Int)) (k0 : ((TR.sl TR.int)).vrep S v0 x0) (res : Bool) (hm : pk_good_m x0 = some res) : Calls Try.prog 25 #[v0] w (PostV w (.bool res)) := by
  refine calls_enter 6 Try.func25 Try.ntmps25 rfl S false [(0, v0)] [imm (TR.sl TR.int) v0 x0] rfl ⟨rfl, trivial⟩ hS ⟨k0, trivial⟩ ?_
  unfold pk_good_m at hm
  refine GL.seq ?_
  refine GL.region ?_
  refine RL.asg rfl rfl rfl ?_
  refine RL.finG ?_
  refine GL.seq ?_
  refine GL.region ?_
  refine RL.mv rfl rfl rfl ?_
  obtain ⟨y4, e5, hm⟩ := bind_some hm
  refine RL.callV (v := .bool y4) (vs := [v0, .func (.func 47) #[] #[]]) Try_fit46 rfl (Or.inl rfl) rfl rfl rfl rfl (fun U w hU hW hL => slices_ContainsFunc_api_Errno_api_Errno_c U w hU _ _ (hL 0 _ _ rfl Seen.imm) 47 #[] Try_fit47 (fun a0 => pk_good_1_m a0) (fun U' w' hle hU' a0 rr hr => (pk_good_1_c U' w' hU' a0 rr hr).mono (fun _ _ z => z.toV)) _ e5) ?_
  refine RL.notB rfl rfl rfl ?_
  refine RL.asg rfl rfl rfl ?_
  refine RL.finG ?_
  have hm := Option.some.inj hm
  subst hm
  exact GL.ret (Gx.ret (v := .bool (!y4)) (res1 rfl rfl) (fun a w st => st.toPostV))

set_option maxHeartbeats 4000000 in
theorem slices_Equal_int_int_c (S : Hp) (w : World) (hS : S.sub w) (v0 : Value) (x0 : (List Int)) (k0 : ((TR.sl TR.int)).vrep S v0 x0) (v1 : Value) (x1 : (List Int)) (k1 : ((TR.sl TR.int)).vrep S v1 x1) (res : Bool) (hm : slices_Equal_int_int_m x0 x1 = some res) : Calls Try.prog 19 #[v0, v1] w (PostV w (.bool res)) := by
  refine calls_enter 26 Try.func19 Try.ntmps19 rfl S false [(0, v0), (1, v1)] [imm (TR.sl TR.int) v0 x0, imm (TR.sl TR.int) v1 x1] rfl ⟨rfl, ⟨rfl, trivial⟩⟩ hS ⟨k0, ⟨k1, trivial⟩⟩ ?_
  unfold slices_Equal_int_int_m at hm
  refine GL.seq ?_
  refine GL.region ?_
  refine RL.asg rfl rfl rfl ?_
  refine RL.finG ?_
  refine GL.seq ?_
  refine GL.seq ?_
  refine GL.region ?_
  refine RL.mv rfl rfl rfl ?_
  refine RL.lenS 0 Try.underlying28 rfl rfl rfl rfl SlOf.imm ?_
  refine RL.mv rfl rfl rfl ?_
  refine RL.lenS 1 Try.underlying28 rfl rfl rfl rfl SlOf.imm ?_
  refine RL.binI (v := .bool (((x0).length : Int) != ((x1).length : Int))) rfl rfl rfl rfl rfl ?_
  refine RL.finG ?_
  refine GL.cond rfl (fun b3 => ?_) (fun b3 => ?_)
  · replace hm := ite_t b3 hm
    refine GL.seq ?_
    refine GL.region ?_
    refine RL.asg rfl rfl rfl ?_
    refine RL.finG ?_
    have hm := Option.some.inj hm
    subst hm
    exact GL.ret (Gx.ret (v := .bool false) (res1 rfl rfl) (fun a w st => st.toPostV))
  · replace hm := ite_f b3 hm
    refine GL.skip ?_
    refine GL.seq ?_
    refine GL.seq ?_
    refine GL.region ?_
    refine RL.mv rfl rfl rfl ?_
    refine RL.lenS 0 Try.underlying28 rfl rfl rfl rfl SlOf.imm ?_
    refine RL.mv rfl rfl rfl ?_
    refine RL.finG ?_
    refine GL.open_ 0 rfl (fun S h => len_imm S h) (fun n13 => ?_)
    obtain ⟨y14, K15, h16, h17, h18, h19, h20⟩ := bindR_K hm
    refine GL.join (ι := Unit) (fun (p : Unit) => []) (fun (p : Unit) => []) (fun (p : Unit) => K15 (.nx ())) ?_ ?_
    · refine GL.block ?_
      refine GL.loop (ι := Nat × (List Int)) (fun (p : Nat × (List Int)) => [(0, v0), (1, v1), (12, .int .i64 ((x0).length : Int)), (13, .int .i64 (p.1 : Int))]) (fun (p : Nat × (List Int)) => [imm (TR.sl TR.int) v0 x0, imm (TR.sl TR.int) v1 x1]) (fun (p : Nat × (List Int)) => p.1 + p.2.length = (x0).length ∧ List.drop p.1 x0 = p.2 ∧ rangeL (slices_Equal_int_int_b1 x1) p.2 p.1 () = some y14) (fun (p : Nat × (List Int)) => p.2.length) (0, x0) ⟨by simp, by simp, h16⟩ (fun a w st => St.cut [0, 1] ⟨rfl, rfl, rfl, rfl, trivial⟩ (by decide) rfl st) ?_
      rintro ⟨i21, r22⟩ ⟨h27, h28, h26⟩
      try dsimp only at h27 h28 h26
      refine GL.weak (env' := [(0, v0), (1, v1), (12, .int .i64 ((x0).length : Int)), (13, .int .i64 (i21 : Int))]) (L' := [imm (TR.sl TR.int) v0 x0, imm (TR.sl TR.int) v1 x1]) (fun _ _ st => st) ?_
      refine GL.seq ?_
      refine GL.region ?_
      refine RL.binI (v := .bool (decide ((i21 : Int) < ((x0).length : Int)))) rfl rfl rfl rfl rfl ?_
      refine RL.finG ?_
      refine GL.seq ?_
      refine GL.cond rfl (fun b29 => ?_) (fun b29 => ?_)
      · have h30 : i21 < (x0).length := by have := of_decide_eq_true b29; omega
        obtain ⟨y31, r33, hr, e32, h34⟩ := drop_cons h28 rfl h30
        subst hr
        obtain ⟨z23, h24, h25⟩ := rangeL_some h26
        unfold slices_Equal_int_int_b1 at h24
        try dsimp only at h24
        refine GL.skip ?_
        refine GL.seq ?_
        refine GL.block ?_
        refine GL.seq ?_
        refine GL.region ?_
        refine RL.mv rfl rfl rfl ?_
        refine RL.asg rfl rfl rfl ?_
        refine RL.finG ?_
        refine GL.seq ?_
        refine GL.regionQ rfl rfl (by kernel_rfl) ?_
        refine RL.mv rfl rfl rfl ?_
        refine RL.mv rfl rfl rfl ?_
        refine RL.idxS (sz := 1) 0 Try.underlying28 Try_ln3 rfl rfl rfl rfl rfl SlOf.imm (by omega) (by omega) ?_
        refine RL.ldSx (i := i21) (e' := y31) 0 Ex.ik Try_ln3 rfl rfl rfl rfl SlOf.imm e32 Part.self ?_
        refine RL.mv rfl rfl rfl ?_
        refine RL.mv rfl rfl rfl ?_
        obtain ⟨y37, e38, h24⟩ := bind_some h24
        refine RL.idxS (sz := 1) 1 Try.underlying28 Try_ln3 rfl rfl rfl rfl rfl SlOf.imm (idx_some e38).1 (idx_some e38).2.1 ?_
        refine RL.ldSx (i := i21) (e' := y37) 1 Ex.ik Try_ln3 rfl rfl rfl rfl SlOf.imm (idx_some e38).2.2 Part.self ?_
        refine RL.binI (v := .bool (y31 != y37)) rfl rfl rfl rfl rfl ?_
        refine RL.finQG ?_
        refine GL.cond rfl (fun b39 => ?_) (fun b39 => ?_)
        · replace h24 := ite_t b39 h24
          refine GL.seq ?_
          refine GL.region ?_
          refine RL.asg rfl rfl rfl ?_
          refine RL.finG ?_
          cases h24
          replace h25 : some (Fl.rt _) = some y14 := h25
          cases h25
          have hh := h19 _ h17
          subst hh
          exact GL.ret (Gx.ret (v := .bool false) (res1 rfl rfl) (fun a w st => st.toPostV))
        · replace h24 := ite_f b39 h24
          refine GL.skip ?_
          refine GL.nilB ?_
          refine GL.region ?_
          refine RL.binI (v := .int .i64 ((i21 + 1 : Nat) : Int)) rfl rfl rfl rfl (binI_succ i21 (by omega)) ?_
          refine RL.mv rfl rfl rfl ?_
          refine RL.fin ?_
          cases h24
          exact fun a w st => lop_intro (i21 + 1, r33) ⟨by show i21 + 1 + r33.length = (x0).length; simp only [List.length_cons] at h27; omega, h34, h25⟩ (by simp) (St.cut [0, 1] ⟨rfl, rfl, rfl, rfl, trivial⟩ (by decide) rfl st)
      · have h30 : ¬ i21 < (x0).length := by have := of_decide_eq_false b29; omega
        obtain rfl : r22 = [] := by rw [← h28]; exact List.drop_of_length_le (by omega)
        replace h26 : some (Fl.nx _) = some y14 := h26
        cases h26
        exact GL.exit (fun a w st => mid_intro () h17 (St.cut [] trivial (by decide) rfl st))
    · rintro ⟨⟩ h40
      have h41 := h18 _ h40
      try dsimp only at h41
      refine GL.weak (env' := []) (L' := []) (fun _ _ st => st) ?_
      refine GL.seq ?_
      refine GL.region ?_
      refine RL.asg rfl rfl rfl ?_
      refine RL.finG ?_
      have h41 := Option.some.inj h41
      subst h41
      exact GL.ret (Gx.ret (v := .bool true) (res1 rfl rfl) (fun a w st => st.toPostV))

set_option maxHeartbeats 4000000 in
theorem pk_duels_c (S : Hp) (w : World) (hS : S.sub w)  (res : Bool) (hm : pk_duels_m = some res) : Calls Try.prog 26 #[] w (PostV w (.bool res)) := by
  refine calls_enter 35 Try.func26 Try.ntmps26 rfl S false [] [] rfl trivial hS trivial ?_
  unfold pk_duels_m at hm
  refine GL.seq ?_
  refine GL.region ?_
  refine RL.asg rfl rfl rfl ?_
  refine RL.finG ?_
  refine GL.seq ?_
  refine GL.region ?_
  refine RL.bS (t := TR.int) (vs := [.int .i64 (0 : Int), .int .i64 (2 : Int), .int .i64 (1 : Int)]) ([(0 : Int), (2 : Int), (1 : Int)] : (List Int)) Try.underlying28 Try_lo3 rfl rfl rfl rfl ⟨VR.int, ⟨VR.int, ⟨VR.int, trivial⟩⟩⟩ rfl (by decide) ?_
  intro v8
  refine RL.bS (t := TR.int) (vs := [.int .i64 (1 : Int), .int .i64 (0 : Int), .int .i64 (2 : Int)]) ([(1 : Int), (0 : Int), (2 : Int)] : (List Int)) Try.underlying28 Try_lo3 rfl rfl rfl rfl ⟨VR.int, ⟨VR.int, ⟨VR.int, trivial⟩⟩⟩ rfl (by decide) ?_
  intro v9
  refine RL.reL (L' := [own 3 TR.int v8 ([(0 : Int), (2 : Int), (1 : Int)] : (List Int)), own 3 TR.int v9 ([(1 : Int), (0 : Int), (2 : Int)] : (List Int))]) rfl ?_
  refine RL.bS (t := TR.int) (vs := [.int .i64 (2 : Int), .int .i64 (1 : Int), .int .i64 (0 : Int)]) ([(2 : Int), (1 : Int), (0 : Int)] : (List Int)) Try.underlying28 Try_lo3 rfl rfl rfl rfl ⟨VR.int, ⟨VR.int, ⟨VR.int, trivial⟩⟩⟩ rfl (by decide) ?_
  intro v10
  refine RL.weak (fun a w st => st.freeze 0 rfl) ?_
  refine RL.weak (fun a w st => st.freeze 1 rfl) ?_
  refine RL.weak (fun a w st => st.freeze 2 rfl) ?_
  refine RL.bS (t := (TR.sl TR.int)) (vs := [v8, v9, v10]) ([([(0 : Int), (2 : Int), (1 : Int)] : (List Int)), ([(1 : Int), (0 : Int), (2 : Int)] : (List Int)), ([(2 : Int), (1 : Int), (0 : Int)] : (List Int))] : (List (List Int))) Try.underlying22 Try_lo28 rfl rfl rfl rfl ⟨(VR.item 0 rfl), ⟨(VR.item 1 rfl), ⟨(VR.item 2 rfl), trivial⟩⟩⟩ rfl (by decide) ?_
  intro v11
  refine RL.reL (L' := [imm (TR.sl TR.int) v8 ([(0 : Int), (2 : Int), (1 : Int)] : (List Int)), imm (TR.sl TR.int) v9 ([(1 : Int), (0 : Int), (2 : Int)] : (List Int)), imm (TR.sl TR.int) v10 ([(2 : Int), (1 : Int), (0 : Int)] : (List Int)), own 28 (TR.sl TR.int) v11 ([([(0 : Int), (2 : Int), (1 : Int)] : (List Int)), ([(1 : Int), (0 : Int), (2 : Int)] : (List Int)), ([(2 : Int), (1 : Int), (0 : Int)] : (List Int))] : (List (List Int)))]) rfl ?_
  refine RL.weak (fun a w st => st.freeze 3 rfl) ?_
  obtain ⟨y12, e13, hm⟩ := bind_some hm
  refine RL.call (vs := [v11]) Try_fit27 rfl rfl rfl rfl rfl (fun S f w hS hW hi => duel_Top_c S w hS _ _ (hi 3 _ rfl) _ e13) ?_
  intro v14
  refine RL.reL (L' := [imm (TR.sl TR.int) v8 ([(0 : Int), (2 : Int), (1 : Int)] : (List Int)), imm (TR.sl TR.int) v9 ([(1 : Int), (0 : Int), (2 : Int)] : (List Int)), imm (TR.sl TR.int) v10 ([(2 : Int), (1 : Int), (0 : Int)] : (List Int)), imm (TR.sl (TR.sl TR.int)) v11 ([([(0 : Int), (2 : Int), (1 : Int)] : (List Int)), ([(1 : Int), (0 : Int), (2 : Int)] : (List Int)), ([(2 : Int), (1 : Int), (0 : Int)] : (List Int))] : (List (List Int))), own 3 TR.int v14 y12.1]) rfl ?_
  refine RL.mv rfl rfl rfl ?_
  refine RL.ext rfl rfl rfl rfl ?_
  refine RL.ext rfl rfl rfl rfl ?_
  refine RL.asg rfl rfl rfl ?_
  refine RL.asg rfl rfl rfl ?_
  refine RL.finG ?_
  refine GL.seq ?_
  refine GL.region ?_
  refine RL.bS (t := TR.int) (vs := [.int .i64 (0 : Int), .int .i64 (2 : Int), .int .i64 (2 : Int)]) ([(0 : Int), (2 : Int), (2 : Int)] : (List Int)) Try.underlying28 Try_lo3 rfl rfl rfl rfl ⟨VR.int, ⟨VR.int, ⟨VR.int, trivial⟩⟩⟩ rfl (by decide) ?_
  intro v22
  refine RL.bS (t := TR.int) (vs := [.int .i64 (1 : Int), .int .i64 (0 : Int), .int .i64 (2 : Int)]) ([(1 : Int), (0 : Int), (2 : Int)] : (List Int)) Try.underlying28 Try_lo3 rfl rfl rfl rfl ⟨VR.int, ⟨VR.int, ⟨VR.int, trivial⟩⟩⟩ rfl (by decide) ?_
  intro v23
  refine RL.reL (L' := [imm (TR.sl TR.int) v8 ([(0 : Int), (2 : Int), (1 : Int)] : (List Int)), imm (TR.sl TR.int) v9 ([(1 : Int), (0 : Int), (2 : Int)] : (List Int)), imm (TR.sl TR.int) v10 ([(2 : Int), (1 : Int), (0 : Int)] : (List Int)), imm (TR.sl (TR.sl TR.int)) v11 ([([(0 : Int), (2 : Int), (1 : Int)] : (List Int)), ([(1 : Int), (0 : Int), (2 : Int)] : (List Int)), ([(2 : Int), (1 : Int), (0 : Int)] : (List Int))] : (List (List Int))), own 3 TR.int v14 y12.1, own 3 TR.int v22 ([(0 : Int), (2 : Int), (2 : Int)] : (List Int)), own 3 TR.int v23 ([(1 : Int), (0 : Int), (2 : Int)] : (List Int))]) rfl ?_
  refine RL.bS (t := TR.int) (vs := [.int .i64 (1 : Int), .int .i64 (1 : Int), .int .i64 (0 : Int)]) ([(1 : Int), (1 : Int), (0 : Int)] : (List Int)) Try.underlying28 Try_lo3 rfl rfl rfl rfl ⟨VR.int, ⟨VR.int, ⟨VR.int, trivial⟩⟩⟩ rfl (by decide) ?_
  intro v24
  refine RL.weak (fun a w st => st.freeze 5 rfl) ?_
  refine RL.weak (fun a w st => st.freeze 6 rfl) ?_
  refine RL.weak (fun a w st => st.freeze 7 rfl) ?_
  refine RL.bS (t := (TR.sl TR.int)) (vs := [v22, v23, v24]) ([([(0 : Int), (2 : Int), (2 : Int)] : (List Int)), ([(1 : Int), (0 : Int), (2 : Int)] : (List Int)), ([(1 : Int), (1 : Int), (0 : Int)] : (List Int))] : (List (List Int))) Try.underlying22 Try_lo28 rfl rfl rfl rfl ⟨(VR.item 5 rfl), ⟨(VR.item 6 rfl), ⟨(VR.item 7 rfl), trivial⟩⟩⟩ rfl (by decide) ?_
  intro v25
  refine RL.reL (L' := [imm (TR.sl TR.int) v8 ([(0 : Int), (2 : Int), (1 : Int)] : (List Int)), imm (TR.sl TR.int) v9 ([(1 : Int), (0 : Int), (2 : Int)] : (List Int)), imm (TR.sl TR.int) v10 ([(2 : Int), (1 : Int), (0 : Int)] : (List Int)), imm (TR.sl (TR.sl TR.int)) v11 ([([(0 : Int), (2 : Int), (1 : Int)] : (List Int)), ([(1 : Int), (0 : Int), (2 : Int)] : (List Int)), ([(2 : Int), (1 : Int), (0 : Int)] : (List Int))] : (List (List Int))), own 3 TR.int v14 y12.1, imm (TR.sl TR.int) v22 ([(0 : Int), (2 : Int), (2 : Int)] : (List Int)), imm (TR.sl TR.int) v23 ([(1 : Int), (0 : Int), (2 : Int)] : (List Int)), imm (TR.sl TR.int) v24 ([(1 : Int), (1 : Int), (0 : Int)] : (List Int)), own 28 (TR.sl TR.int) v25 ([([(0 : Int), (2 : Int), (2 : Int)] : (List Int)), ([(1 : Int), (0 : Int), (2 : Int)] : (List Int)), ([(1 : Int), (1 : Int), (0 : Int)] : (List Int))] : (List (List Int)))]) rfl ?_
  refine RL.weak (fun a w st => st.freeze 8 rfl) ?_
  obtain ⟨y26, e27, hm⟩ := bind_some hm
  refine RL.call (vs := [v25]) Try_fit33 rfl rfl rfl rfl rfl (fun S f w hS hW hi => duel_Wins_c S w hS _ _ (hi 8 _ rfl) _ e27) ?_
  intro v28
  refine RL.reL (L' := [imm (TR.sl TR.int) v8 ([(0 : Int), (2 : Int), (1 : Int)] : (List Int)), imm (TR.sl TR.int) v9 ([(1 : Int), (0 : Int), (2 : Int)] : (List Int)), imm (TR.sl TR.int) v10 ([(2 : Int), (1 : Int), (0 : Int)] : (List Int)), imm (TR.sl (TR.sl TR.int)) v11 ([([(0 : Int), (2 : Int), (1 : Int)] : (List Int)), ([(1 : Int), (0 : Int), (2 : Int)] : (List Int)), ([(2 : Int), (1 : Int), (0 : Int)] : (List Int))] : (List (List Int))), own 3 TR.int v14 y12.1, imm (TR.sl TR.int) v22 ([(0 : Int), (2 : Int), (2 : Int)] : (List Int)), imm (TR.sl TR.int) v23 ([(1 : Int), (0 : Int), (2 : Int)] : (List Int)), imm (TR.sl TR.int) v24 ([(1 : Int), (1 : Int), (0 : Int)] : (List Int)), imm (TR.sl (TR.sl TR.int)) v25 ([([(0 : Int), (2 : Int), (2 : Int)] : (List Int)), ([(1 : Int), (0 : Int), (2 : Int)] : (List Int)), ([(1 : Int), (1 : Int), (0 : Int)] : (List Int))] : (List (List Int))), own 3 TR.int v28 y26.1]) rfl ?_
  refine RL.mv rfl rfl rfl ?_
  refine RL.ext rfl rfl rfl rfl ?_
  refine RL.ext rfl rfl rfl rfl ?_
  refine RL.asg rfl rfl rfl ?_
  refine RL.asg rfl rfl rfl ?_
  refine RL.finG ?_
  refine GL.seq ?_
  obtain ⟨y52, K53, h54, h55, h56, h57, h58⟩ := bindR_K hm
  refine GL.join (ι := Bool) (fun (p : Bool) => [(0, .bool p)]) (fun (p : Bool) => []) (fun (p : Bool) => K53 (.nx p)) ?_ ?_
  · skip
    refine GL.region ?_
    refine RL.mv rfl rfl rfl ?_
    refine RL.mv rfl rfl rfl ?_
    refine RL.bS (t := TR.int) (vs := [.int .i64 y12.2, .int .i64 y26.2]) ([y12.2, y26.2] : (List Int)) Try.underlying55 Try_lo24 rfl rfl rfl rfl ⟨VR.int, ⟨VR.int, trivial⟩⟩ rfl (by decide) ?_
    intro v59
    obtain ⟨y60, e61, h54⟩ := bind_some h54
    refine RL.callV (v := .bool y60) (vs := [v59]) Try_fit25 rfl (Or.inl rfl) rfl rfl rfl rfl (fun U w hU hW hL => pk_good_c U w hU _ _ (hL 10 _ _ rfl Seen.own) _ e61) ?_
    refine RL.mv rfl rfl rfl ?_
    refine RL.split (t := 25) rfl (fun b62 => ?_) (fun b62 => ?_)
    · replace h54 := ite_t b62 h54
      refine RL.mv rfl rfl rfl ?_
      refine RL.bS (t := TR.int) (vs := [.int .i64 (0 : Int), .int .i64 (1 : Int), .int .i64 (2 : Int)]) ([(0 : Int), (1 : Int), (2 : Int)] : (List Int)) Try.underlying28 Try_lo3 rfl rfl rfl rfl ⟨VR.int, ⟨VR.int, ⟨VR.int, trivial⟩⟩⟩ rfl (by decide) ?_
      intro v63
      refine RL.reL (L' := [imm (TR.sl TR.int) v8 ([(0 : Int), (2 : Int), (1 : Int)] : (List Int)), imm (TR.sl TR.int) v9 ([(1 : Int), (0 : Int), (2 : Int)] : (List Int)), imm (TR.sl TR.int) v10 ([(2 : Int), (1 : Int), (0 : Int)] : (List Int)), imm (TR.sl (TR.sl TR.int)) v11 ([([(0 : Int), (2 : Int), (1 : Int)] : (List Int)), ([(1 : Int), (0 : Int), (2 : Int)] : (List Int)), ([(2 : Int), (1 : Int), (0 : Int)] : (List Int))] : (List (List Int))), own 3 TR.int v14 y12.1, imm (TR.sl TR.int) v22 ([(0 : Int), (2 : Int), (2 : Int)] : (List Int)), imm (TR.sl TR.int) v23 ([(1 : Int), (0 : Int), (2 : Int)] : (List Int)), imm (TR.sl TR.int) v24 ([(1 : Int), (1 : Int), (0 : Int)] : (List Int)), imm (TR.sl (TR.sl TR.int)) v25 ([([(0 : Int), (2 : Int), (2 : Int)] : (List Int)), ([(1 : Int), (0 : Int), (2 : Int)] : (List Int)), ([(1 : Int), (1 : Int), (0 : Int)] : (List Int))] : (List (List Int))), own 3 TR.int v28 y26.1, own 24 TR.int v59 ([y12.2, y26.2] : (List Int)), own 3 TR.int v63 ([(0 : Int), (1 : Int), (2 : Int)] : (List Int))]) rfl ?_
      obtain ⟨y64, e65, h54⟩ := bind_some h54
      refine RL.callV (v := .bool y64) (vs := [v14, v63]) Try_fit19 rfl (Or.inl rfl) rfl rfl rfl rfl (fun U w hU hW hL => slices_Equal_int_int_c U w hU _ _ (hL 4 _ _ rfl Seen.own) _ _ (hL 11 _ _ rfl Seen.own) _ e65) ?_
      refine RL.pickT rfl rfl rfl rfl ?_
      refine RL.mv rfl rfl rfl ?_
      refine RL.split (t := 30) rfl (fun b66 => ?_) (fun b66 => ?_)
      · replace h54 := ite_t b66 h54
        refine RL.mv rfl rfl rfl ?_
        refine RL.bS (t := TR.int) (vs := [.int .i64 (2 : Int), .int .i64 (0 : Int), .int .i64 (-2 : Int)]) ([(2 : Int), (0 : Int), (-2 : Int)] : (List Int)) Try.underlying28 Try_lo3 rfl rfl rfl rfl ⟨VR.int, ⟨VR.int, ⟨VR.int, trivial⟩⟩⟩ rfl (by decide) ?_
        intro v67
        obtain ⟨y68, e69, h54⟩ := bind_some h54
        refine RL.callV (v := .bool y68) (vs := [v28, v67]) Try_fit19 rfl (Or.inl rfl) rfl rfl rfl rfl (fun U w hU hW hL => slices_Equal_int_int_c U w hU _ _ (hL 9 _ _ rfl Seen.own) _ _ (hL 12 _ _ rfl Seen.own) _ e69) ?_
        refine RL.pickT rfl rfl rfl rfl ?_
        refine RL.asg rfl rfl rfl ?_
        refine RL.fin ?_
        cases h54
        exact fun a w st => mid_intro y68 h55 (St.cut [] ⟨rfl, trivial⟩ (by decide) rfl st)
      · replace h54 := ite_f b66 h54
        refine RL.skip rfl rfl ?_
        refine RL.skip rfl rfl ?_
        refine RL.skip rfl rfl ?_
        refine RL.pickF rfl rfl rfl rfl ?_
        refine RL.asg rfl rfl rfl ?_
        refine RL.fin ?_
        cases h54
        exact fun a w st => mid_intro false h55 (St.cut [] ⟨rfl, trivial⟩ (by decide) rfl st)
    · replace h54 := ite_f b62 h54
      refine RL.skip rfl rfl ?_
      refine RL.skip rfl rfl ?_
      refine RL.skip rfl rfl ?_
      refine RL.pickF rfl rfl rfl rfl ?_
      refine RL.mv rfl rfl rfl ?_
      refine RL.skip rfl rfl ?_
      refine RL.skip rfl rfl ?_
      refine RL.skip rfl rfl ?_
      refine RL.pickF rfl rfl rfl rfl ?_
      refine RL.asg rfl rfl rfl ?_
      refine RL.fin ?_
      cases h54
      exact fun a w st => mid_intro false h55 (St.cut [] ⟨rfl, trivial⟩ (by decide) rfl st)
  · rintro x51 h70
    have h71 := h56 _ h70
    try dsimp only at h71
    refine GL.weak (env' := [(0, .bool x51)]) (L' := []) (fun _ _ st => st) ?_
    have h71 := Option.some.inj h71
    subst h71
    exact GL.ret (Gx.ret (v := .bool x51) (res1 rfl rfl) (fun a w st => st.toPostV))

set_option maxHeartbeats 4000000 in
theorem slices_Index_int_int_c (S : Hp) (w : World) (hS : S.sub w) (v0 : Value) (x0 : (List Int)) (k0 : ((TR.sl TR.int)).vrep S v0 x0) (x1 : Int) (res : Int) (hm : slices_Index_int_int_m x0 x1 = some res) : Calls Try.prog 48 #[v0, .int .i64 x1] w (PostC w (.int .i64 res)) := by
  refine calls_enter 19 Try.func48 Try.ntmps48 rfl S true [(0, v0), (1, .int .i64 x1)] [imm (TR.sl TR.int) v0 x0] rfl ⟨rfl, ⟨rfl, trivial⟩⟩ hS ⟨k0, trivial⟩ ?_
  unfold slices_Index_int_int_m at hm
  refine GL.seq ?_
  refine GL.region ?_
  refine RL.asg rfl rfl rfl ?_
  refine RL.finG ?_
  refine GL.seq ?_
  refine GL.seq ?_
  refine GL.region ?_
  refine RL.mv rfl rfl rfl ?_
  refine RL.lenS 0 Try.underlying28 rfl rfl rfl rfl SlOf.imm ?_
  refine RL.mv rfl rfl rfl ?_
  refine RL.finG ?_
  refine GL.open_ 0 rfl (fun S h => len_imm S h) (fun n8 => ?_)
  obtain ⟨y9, K10, h11, h12, h13, h14, h15⟩ := bindR_K hm
  refine GL.join (ι := Unit) (fun (p : Unit) => []) (fun (p : Unit) => []) (fun (p : Unit) => K10 (.nx ())) ?_ ?_
  · refine GL.block ?_
    refine GL.loop (ι := Nat × (List Int)) (fun (p : Nat × (List Int)) => [(0, v0), (1, .int .i64 x1), (7, .int .i64 ((x0).length : Int)), (8, .int .i64 (p.1 : Int))]) (fun (p : Nat × (List Int)) => [imm (TR.sl TR.int) v0 x0]) (fun (p : Nat × (List Int)) => p.1 + p.2.length = (x0).length ∧ List.drop p.1 x0 = p.2 ∧ rangeL (slices_Index_int_int_b1 x1) p.2 p.1 () = some y9) (fun (p : Nat × (List Int)) => p.2.length) (0, x0) ⟨by simp, by simp, h11⟩ (fun a w st => St.cut [0] ⟨rfl, rfl, rfl, rfl, trivial⟩ (by decide) rfl st) ?_
    rintro ⟨i16, r17⟩ ⟨h22, h23, h21⟩
    try dsimp only at h22 h23 h21
    refine GL.weak (env' := [(0, v0), (1, .int .i64 x1), (7, .int .i64 ((x0).length : Int)), (8, .int .i64 (i16 : Int))]) (L' := [imm (TR.sl TR.int) v0 x0]) (fun _ _ st => st) ?_
    refine GL.seq ?_
    refine GL.region ?_
    refine RL.binI (v := .bool (decide ((i16 : Int) < ((x0).length : Int)))) rfl rfl rfl rfl rfl ?_
    refine RL.finG ?_
    refine GL.seq ?_
    refine GL.cond rfl (fun b24 => ?_) (fun b24 => ?_)
    · have h25 : i16 < (x0).length := by have := of_decide_eq_true b24; omega
      obtain ⟨y26, r28, hr, e27, h29⟩ := drop_cons h23 rfl h25
      subst hr
      obtain ⟨z18, h19, h20⟩ := rangeL_some h21
      unfold slices_Index_int_int_b1 at h19
      try dsimp only at h19
      refine GL.skip ?_
      refine GL.seq ?_
      refine GL.block ?_
      refine GL.seq ?_
      refine GL.region ?_
      refine RL.mv rfl rfl rfl ?_
      refine RL.asg rfl rfl rfl ?_
      refine RL.finG ?_
      refine GL.seq ?_
      refine GL.region ?_
      refine RL.mv rfl rfl rfl ?_
      refine RL.mv rfl rfl rfl ?_
      refine RL.mv rfl rfl rfl ?_
      refine RL.idxS (sz := 1) 0 Try.underlying28 Try_ln3 rfl rfl rfl rfl rfl SlOf.imm (by omega) (by omega) ?_
      refine RL.ldSx (i := i16) (e' := y26) 0 Ex.ik Try_ln3 rfl rfl rfl rfl SlOf.imm e27 Part.self ?_
      refine RL.binI (v := .bool (x1 == y26)) rfl rfl rfl rfl rfl ?_
      refine RL.finG ?_
      refine GL.cond rfl (fun b30 => ?_) (fun b30 => ?_)
      · replace h19 := ite_t b30 h19
        refine GL.seq ?_
        refine GL.region ?_
        refine RL.mv rfl rfl rfl ?_
        refine RL.asg rfl rfl rfl ?_
        refine RL.finG ?_
        cases h19
        replace h20 : some (Fl.rt _) = some y9 := h20
        cases h20
        have hh := h14 _ h12
        subst hh
        exact GL.ret (Gx.ret (v := .int .i64 (i16 : Int)) (res1 rfl rfl) (fun a w st => st.toPostC rfl))
      · replace h19 := ite_f b30 h19
        refine GL.skip ?_
        refine GL.nilB ?_
        refine GL.region ?_
        refine RL.binI (v := .int .i64 ((i16 + 1 : Nat) : Int)) rfl rfl rfl rfl (binI_succ i16 (by omega)) ?_
        refine RL.mv rfl rfl rfl ?_
        refine RL.fin ?_
        cases h19
        exact fun a w st => lop_intro (i16 + 1, r28) ⟨by show i16 + 1 + r28.length = (x0).length; simp only [List.length_cons] at h22; omega, h29, h20⟩ (by simp) (St.cut [0] ⟨rfl, rfl, rfl, rfl, trivial⟩ (by decide) rfl st)
    · have h25 : ¬ i16 < (x0).length := by have := of_decide_eq_false b24; omega
      obtain rfl : r17 = [] := by rw [← h23]; exact List.drop_of_length_le (by omega)
      replace h21 : some (Fl.nx _) = some y9 := h21
      cases h21
      exact GL.exit (fun a w st => mid_intro () h12 (St.cut [] trivial (by decide) rfl st))
  · rintro ⟨⟩ h31
    have h32 := h13 _ h31
    try dsimp only at h32
    refine GL.weak (env' := []) (L' := []) (fun _ _ st => st) ?_
    refine GL.seq ?_
    refine GL.region ?_
    refine RL.asg rfl rfl rfl ?_
    refine RL.finG ?_
    have h32 := Option.some.inj h32
    subst h32
    exact GL.ret (Gx.ret (v := .int .i64 (-1 : Int)) (res1 rfl rfl) (fun a w st => st.toPostC rfl))

set_option maxHeartbeats 4000000 in
theorem slices_Contains_int_int_c (S : Hp) (w : World) (hS : S.sub w) (v0 : Value) (x0 : (List Int)) (k0 : ((TR.sl TR.int)).vrep S v0 x0) (x1 : Int) (res : Bool) (hm : slices_Contains_int_int_m x0 x1 = some res) : Calls Try.prog 28 #[v0, .int .i64 x1] w (PostC w (.bool res)) := by
  refine calls_enter 9 Try.func28 Try.ntmps28 rfl S true [(0, v0), (1, .int .i64 x1)] [imm (TR.sl TR.int) v0 x0] rfl ⟨rfl, ⟨rfl, trivial⟩⟩ hS ⟨k0, trivial⟩ ?_
  unfold slices_Contains_int_int_m at hm
  refine GL.seq ?_
  refine GL.region ?_
  refine RL.asg rfl rfl rfl ?_
  refine RL.finG ?_
  refine GL.seq ?_
  refine GL.region ?_
  refine RL.mv rfl rfl rfl ?_
  refine RL.mv rfl rfl rfl ?_
  obtain ⟨y5, e6, hm⟩ := bind_some hm
  refine RL.callC (v := .int .i64 y5) (vs := [v0, .int .i64 x1]) Try_fit48 rfl rfl rfl rfl (fun U w hU hW hL => slices_Index_int_int_c U w hU _ _ (hL 0 _ _ rfl Seen.imm) x1 _ e6) ?_
  refine RL.binI (v := .bool (decide (y5 ≥ (0 : Int)))) rfl rfl rfl rfl rfl ?_
  refine RL.asg rfl rfl rfl ?_
  refine RL.finG ?_
  have hm := Option.some.inj hm
  subst hm
  exact GL.ret (Gx.ret (v := .bool (decide (y5 ≥ (0 : Int)))) (res1 rfl rfl) (fun a w st => st.toPostC rfl))

set_option maxHeartbeats 4000000 in
theorem pk_DuelTop_c (S : Hp) (w : World) (hS : S.sub w) (v0 : Value) (x0 : (List (List Int))) (k0 : ((TR.sl (TR.sl TR.int))).vrep S v0 x0) (res : Bool) (hm : pk_DuelTop_m x0 = some res) : Calls Try.prog 6 #[v0] w (PostV w (.bool res)) := by
  refine calls_enter 136 Try.func6 Try.ntmps6 rfl S false [(0, v0)] [imm (TR.sl (TR.sl TR.int)) v0 x0] rfl ⟨rfl, trivial⟩ hS ⟨k0, trivial⟩ ?_
  unfold pk_DuelTop_m at hm
  refine GL.seq ?_
  refine GL.region ?_
  refine RL.asg rfl rfl rfl ?_
  refine RL.finG ?_
  refine GL.seq ?_
  refine GL.seq ?_
  refine GL.region ?_
  obtain ⟨y4, e5, hm⟩ := bind_some hm
  refine RL.callV (v := .bool y4) (vs := []) Try_fit26 rfl (Or.inl rfl) rfl rfl rfl rfl (fun U w hU hW hL => pk_duels_c U w hU  _ e5) ?_
  refine RL.notB rfl rfl rfl ?_
  refine RL.finG ?_
  refine GL.cond rfl (fun b6 => ?_) (fun b6 => ?_)
  · replace hm := ite_t b6 hm
    refine GL.seq ?_
    refine GL.region ?_
    refine RL.asg rfl rfl rfl ?_
    refine RL.finG ?_
    have hm := Option.some.inj hm
    subst hm
    exact GL.ret (Gx.ret (v := .bool false) (res1 rfl rfl) (fun a w st => st.toPostV))
  · replace hm := ite_f b6 hm
    refine GL.skip ?_
    refine GL.seq ?_
    refine GL.region ?_
    refine RL.mv rfl rfl rfl ?_
    obtain ⟨y10, e11, hm⟩ := bind_some hm
    refine RL.call (vs := [v0]) Try_fit27 rfl rfl rfl rfl rfl (fun S f w hS hW hi => duel_Top_c S w hS _ _ (hi 0 _ rfl) _ e11) ?_
    intro v12
    refine RL.mv rfl rfl rfl ?_
    refine RL.ext rfl rfl rfl rfl ?_
    refine RL.ext rfl rfl rfl rfl ?_
    refine RL.asg rfl rfl rfl ?_
    refine RL.asg rfl rfl rfl ?_
    refine RL.finG ?_
    refine GL.seq ?_
    refine GL.seq ?_
    obtain ⟨y16, K17, h18, h19, h20, h21, h22⟩ := bindR_K hm
    refine GL.join (ι := Bool) (fun (p : Bool) => [(0, v0), (3, v12), (4, .int .i64 y10.2), (25, .bool p)]) (fun (p : Bool) => [imm (TR.sl (TR.sl TR.int)) v0 x0, own 3 TR.int v12 y10.1]) (fun (p : Bool) => K17 (.nx p)) ?_ ?_
    · skip
      refine GL.region ?_
      refine RL.mv rfl rfl rfl ?_
      refine RL.binI (v := .bool (y10.2 != (0 : Int))) rfl rfl rfl rfl rfl ?_
      refine RL.mv rfl rfl rfl ?_
      refine RL.split (t := 21) rfl (fun b23 => ?_) (fun b23 => ?_)
      · replace h18 := ite_t b23 h18
        refine RL.skip rfl rfl ?_
        refine RL.skip rfl rfl ?_
        refine RL.skip rfl rfl ?_
        refine RL.pickT rfl rfl rfl rfl ?_
        refine RL.fin ?_
        cases h18
        exact fun a w st => mid_intro true h19 (St.cut [0, 1] ⟨rfl, rfl, rfl, rfl, trivial⟩ (by decide) rfl st)
      · replace h18 := ite_f b23 h18
        refine RL.mv rfl rfl rfl ?_
        refine RL.lenS 1 Try.underlying28 rfl rfl rfl rfl SlOf.own ?_
        refine RL.binI (v := .bool (((y10.1).length : Int) == (0 : Int))) rfl rfl rfl rfl rfl ?_
        refine RL.pickF rfl rfl rfl rfl ?_
        refine RL.fin ?_
        cases h18
        exact fun a w st => mid_intro (((y10.1).length : Int) == (0 : Int)) h19 (St.cut [0, 1] ⟨rfl, rfl, rfl, rfl, trivial⟩ (by decide) rfl st)
    · rintro x15 h24
      have h25 := h20 _ h24
      try dsimp only at h25
      refine GL.weak (env' := [(0, v0), (3, v12), (4, .int .i64 y10.2), (25, .bool x15)]) (L' := [imm (TR.sl (TR.sl TR.int)) v0 x0, own 3 TR.int v12 y10.1]) (fun _ _ st => st) ?_
      refine GL.cond rfl (fun b26 => ?_) (fun b26 => ?_)
      · replace h25 := ite_t b26 h25
        refine GL.seq ?_
        obtain ⟨y30, K31, h32, h33, h34, h35, h36⟩ := bindR_K h25
        refine GL.join (ι := Bool) (fun (p : Bool) => [(2, .bool p)]) (fun (p : Bool) => []) (fun (p : Bool) => K31 (.nx p)) ?_ ?_
        · skip
          refine GL.region ?_
          refine RL.mv rfl rfl rfl ?_
          refine RL.binI (v := .bool (y10.2 != (0 : Int))) rfl rfl rfl rfl rfl ?_
          refine RL.mv rfl rfl rfl ?_
          refine RL.split (t := 28) rfl (fun b37 => ?_) (fun b37 => ?_)
          · replace h32 := ite_t b37 h32
            refine RL.mv rfl rfl rfl ?_
            refine RL.lenS 1 Try.underlying28 rfl rfl rfl rfl SlOf.own ?_
            refine RL.binI (v := .bool (((y10.1).length : Int) == (0 : Int))) rfl rfl rfl rfl rfl ?_
            refine RL.pickT rfl rfl rfl rfl ?_
            refine RL.asg rfl rfl rfl ?_
            refine RL.fin ?_
            cases h32
            exact fun a w st => mid_intro (((y10.1).length : Int) == (0 : Int)) h33 (St.cut [] ⟨rfl, trivial⟩ (by decide) rfl st)
          · replace h32 := ite_f b37 h32
            refine RL.skip rfl rfl ?_
            refine RL.skip rfl rfl ?_
            refine RL.skip rfl rfl ?_
            refine RL.pickF rfl rfl rfl rfl ?_
            refine RL.asg rfl rfl rfl ?_
            refine RL.fin ?_
            cases h32
            exact fun a w st => mid_intro false h33 (St.cut [] ⟨rfl, trivial⟩ (by decide) rfl st)
        · rintro x29 h38
          have h39 := h34 _ h38
          try dsimp only at h39
          refine GL.weak (env' := [(2, .bool x29)]) (L' := []) (fun _ _ st => st) ?_
          have h39 := Option.some.inj h39
          subst h39
          exact GL.ret (Gx.ret (v := .bool x29) (res1 rfl rfl) (fun a w st => st.toPostV))
      · replace h25 := ite_f b26 h25
        refine GL.skip ?_
        refine GL.seq ?_
        refine GL.seq ?_
        refine GL.region ?_
        refine RL.mv rfl rfl rfl ?_
        refine RL.lenS 0 Try.underlying22 rfl rfl rfl rfl SlOf.imm ?_
        refine RL.mv rfl rfl rfl ?_
        refine RL.finG ?_
        refine GL.open_ 0 rfl (fun S h => len_imm S h) (fun n176 => ?_)
        obtain ⟨y177, K178, h179, h180, h181, h182, h183⟩ := bindR_K h25
        refine GL.join (ι := Unit) (fun (p : Unit) => [(0, v0), (3, v12)]) (fun (p : Unit) => [imm (TR.sl (TR.sl TR.int)) v0 x0, own 3 TR.int v12 y10.1]) (fun (p : Unit) => K178 (.nx ())) ?_ ?_
        · refine GL.block ?_
          refine GL.loop (ι := Nat × (List (List Int))) (fun (p : Nat × (List (List Int))) => [(0, v0), (3, v12), (34, .int .i64 ((x0).length : Int)), (35, .int .i64 (p.1 : Int))]) (fun (p : Nat × (List (List Int))) => [imm (TR.sl (TR.sl TR.int)) v0 x0, own 3 TR.int v12 y10.1]) (fun (p : Nat × (List (List Int))) => p.1 + p.2.length = (x0).length ∧ List.drop p.1 x0 = p.2 ∧ rangeL (pk_DuelTop_b1 y10 x0) p.2 p.1 () = some y177) (fun (p : Nat × (List (List Int))) => p.2.length) (0, x0) ⟨by simp, by simp, h179⟩ (fun a w st => St.cut [0, 1] ⟨rfl, rfl, rfl, rfl, trivial⟩ (by decide) rfl st) ?_
          rintro ⟨i184, r185⟩ ⟨h190, h191, h189⟩
          try dsimp only at h190 h191 h189
          refine GL.weak (env' := [(0, v0), (3, v12), (34, .int .i64 ((x0).length : Int)), (35, .int .i64 (i184 : Int))]) (L' := [imm (TR.sl (TR.sl TR.int)) v0 x0, own 3 TR.int v12 y10.1]) (fun _ _ st => st) ?_
          refine GL.seq ?_
          refine GL.region ?_
          refine RL.binI (v := .bool (decide ((i184 : Int) < ((x0).length : Int)))) rfl rfl rfl rfl rfl ?_
          refine RL.finG ?_
          refine GL.seq ?_
          refine GL.cond rfl (fun b192 => ?_) (fun b192 => ?_)
          · have h193 : i184 < (x0).length := by have := of_decide_eq_true b192; omega
            obtain ⟨y194, r196, hr, e195, h197⟩ := drop_cons h191 rfl h193
            subst hr
            obtain ⟨z186, h187, h188⟩ := rangeL_some h189
            unfold pk_DuelTop_b1 at h187
            try dsimp only at h187
            refine GL.skip ?_
            refine GL.seq ?_
            refine GL.block ?_
            refine GL.seq ?_
            refine GL.region ?_
            refine RL.mv rfl rfl rfl ?_
            refine RL.asg rfl rfl rfl ?_
            refine RL.finG ?_
            refine GL.seq ?_
            refine GL.region ?_
            refine RL.mv rfl rfl rfl ?_
            refine RL.lenS 0 Try.underlying22 rfl rfl rfl rfl SlOf.imm ?_
            refine RL.mv rfl rfl rfl ?_
            refine RL.finG ?_
            refine GL.open_ 0 rfl (fun S h => len_imm S h) (fun n251 => ?_)
            obtain ⟨y252, K253, h254, h255, h256, h257, h258⟩ := bindF_K h187
            refine GL.join (ι := Unit) (fun (p : Unit) => [(0, v0), (3, v12), (34, .int .i64 ((x0).length : Int)), (35, .int .i64 (i184 : Int))]) (fun (p : Unit) => [imm (TR.sl (TR.sl TR.int)) v0 x0, own 3 TR.int v12 y10.1]) (fun (p : Unit) => K253 (.nx ())) ?_ ?_
            · refine GL.block ?_
              refine GL.loop (ι := Nat × (List (List Int))) (fun (p : Nat × (List (List Int))) => [(0, v0), (3, v12), (5, .int .i64 (i184 : Int)), (34, .int .i64 ((x0).length : Int)), (35, .int .i64 (i184 : Int)), (39, .int .i64 ((x0).length : Int)), (40, .int .i64 (p.1 : Int))]) (fun (p : Nat × (List (List Int))) => [imm (TR.sl (TR.sl TR.int)) v0 x0, own 3 TR.int v12 y10.1]) (fun (p : Nat × (List (List Int))) => p.1 + p.2.length = (x0).length ∧ List.drop p.1 x0 = p.2 ∧ rangeL (pk_DuelTop_b2 y10 i184 y194) p.2 p.1 () = some y252) (fun (p : Nat × (List (List Int))) => p.2.length) (0, x0) ⟨by simp, by simp, h254⟩ (fun a w st => St.cut [0, 1] ⟨rfl, rfl, rfl, rfl, rfl, rfl, rfl, trivial⟩ (by decide) rfl st) ?_
              rintro ⟨i259, r260⟩ ⟨h265, h266, h264⟩
              try dsimp only at h265 h266 h264
              refine GL.weak (env' := [(0, v0), (3, v12), (5, .int .i64 (i184 : Int)), (34, .int .i64 ((x0).length : Int)), (35, .int .i64 (i184 : Int)), (39, .int .i64 ((x0).length : Int)), (40, .int .i64 (i259 : Int))]) (L' := [imm (TR.sl (TR.sl TR.int)) v0 x0, own 3 TR.int v12 y10.1]) (fun _ _ st => st) ?_
              refine GL.seq ?_
              refine GL.region ?_
              refine RL.binI (v := .bool (decide ((i259 : Int) < ((x0).length : Int)))) rfl rfl rfl rfl rfl ?_
              refine RL.finG ?_
              refine GL.seq ?_
              refine GL.cond rfl (fun b267 => ?_) (fun b267 => ?_)
              · have h268 : i259 < (x0).length := by have := of_decide_eq_true b267; omega
                obtain ⟨y269, r271, hr, e270, h272⟩ := drop_cons h266 rfl h268
                subst hr
                obtain ⟨z261, h262, h263⟩ := rangeL_some h264
                unfold pk_DuelTop_b2 at h262
                try dsimp only at h262
                refine GL.skip ?_
                refine GL.seq ?_
                refine GL.block ?_
                refine GL.seq ?_
                refine GL.region ?_
                refine RL.mv rfl rfl rfl ?_
                refine RL.asg rfl rfl rfl ?_
                refine RL.finG ?_
                refine GL.seq ?_
                obtain ⟨y298, K299, h300, h301, h302, h303, h304⟩ := bindF_K h262
                refine GL.join (ι := Bool) (fun (p : Bool) => [(0, v0), (3, v12), (5, .int .i64 (i184 : Int)), (34, .int .i64 ((x0).length : Int)), (35, .int .i64 (i184 : Int)), (39, .int .i64 ((x0).length : Int)), (40, .int .i64 (i259 : Int)), (68, .bool p)]) (fun (p : Bool) => [imm (TR.sl (TR.sl TR.int)) v0 x0, own 3 TR.int v12 y10.1]) (fun (p : Bool) => K299 (.nx p)) ?_ ?_
                · skip
                  refine GL.regionQ rfl rfl (by kernel_rfl) ?_
                  refine RL.mv rfl rfl rfl ?_
                  refine RL.mv rfl rfl rfl ?_
                  obtain ⟨y305, e306, h300⟩ := bind_some h300
                  refine RL.callC (v := .bool y305) (vs := [v12, .int .i64 (i184 : Int)]) Try_fit28 rfl rfl rfl rfl (fun U w hU hW hL => slices_Contains_int_int_c U w hU _ _ (hL 1 _ _ rfl Seen.own) (i184 : Int) _ e306) ?_
                  refine RL.mv rfl rfl rfl ?_
                  refine RL.split (t := 46) rfl (fun b307 => ?_) (fun b307 => ?_)
                  · replace h300 := ite_t b307 h300
                    refine RL.mv rfl rfl rfl ?_
                    refine RL.mv rfl rfl rfl ?_
                    obtain ⟨y308, e309, h300⟩ := bind_some h300
                    refine RL.callC (v := .bool y308) (vs := [v12, .int .i64 (i259 : Int)]) Try_fit28 rfl rfl rfl rfl (fun U w hU hW hL => slices_Contains_int_int_c U w hU _ _ (hL 1 _ _ rfl Seen.own) (i259 : Int) _ e309) ?_
                    refine RL.notB rfl rfl rfl ?_
                    refine RL.pickT rfl rfl rfl rfl ?_
                    refine RL.mv rfl rfl rfl ?_
                    refine RL.split (t := 52) rfl (fun b310 => ?_) (fun b310 => ?_)
                    · replace h300 := ite_t b310 h300
                      refine RL.mv rfl rfl rfl ?_
                      refine RL.mv rfl rfl rfl ?_
                      refine RL.idxS (sz := 1) 0 Try.underlying22 Try_ln28 rfl rfl rfl rfl rfl SlOf.imm (by omega) (by omega) ?_
                      refine RL.ldS (i := i184) (r := (TR.sl TR.int)) (e' := y194) 0 Try_ln28 rfl rfl rfl rfl SlOf.imm e195 Part.self ?_
                      intro v311
                      refine RL.mv rfl rfl rfl ?_
                      obtain ⟨y312, e313, h300⟩ := bind_some h300
                      refine RL.idxS (sz := 1) 2 Try.underlying28 Try_ln3 rfl rfl rfl rfl rfl SlOf.imm (idx_some e313).1 (idx_some e313).2.1 ?_
                      refine RL.ldSx (i := i259) (e' := y312) 2 Ex.ik Try_ln3 rfl rfl rfl rfl SlOf.imm (idx_some e313).2.2 Part.self ?_
                      refine RL.mv rfl rfl rfl ?_
                      refine RL.mv rfl rfl rfl ?_
                      refine RL.idxS (sz := 1) 0 Try.underlying22 Try_ln28 rfl rfl rfl rfl rfl SlOf.imm (by omega) (by omega) ?_
                      refine RL.ldS (i := i259) (r := (TR.sl TR.int)) (e' := y269) 0 Try_ln28 rfl rfl rfl rfl SlOf.imm e270 Part.self ?_
                      intro v314
                      refine RL.reL (L' := [imm (TR.sl (TR.sl TR.int)) v0 x0, own 3 TR.int v12 y10.1, imm (TR.sl TR.int) v311 y194, imm (TR.sl TR.int) v314 y269]) rfl ?_
                      refine RL.mv rfl rfl rfl ?_
                      obtain ⟨y315, e316, h300⟩ := bind_some h300
                      refine RL.idxS (sz := 1) 3 Try.underlying28 Try_ln3 rfl rfl rfl rfl rfl SlOf.imm (idx_some e316).1 (idx_some e316).2.1 ?_
                      refine RL.ldSx (i := i184) (e' := y315) 3 Ex.ik Try_ln3 rfl rfl rfl rfl SlOf.imm (idx_some e316).2.2 Part.self ?_
                      refine RL.binI (v := .bool (decide (y312 ≤ y315))) rfl rfl rfl rfl rfl ?_
                      refine RL.pickT rfl rfl rfl rfl ?_
                      refine RL.finQ ?_
                      cases h300
                      exact fun a w st => mid_intro (decide (y312 ≤ y315)) h301 (St.cut [0, 1] ⟨rfl, rfl, rfl, rfl, rfl, rfl, rfl, rfl, trivial⟩ (by decide) rfl st)
                    · replace h300 := ite_f b310 h300
                      refine RL.skip rfl rfl ?_
                      refine RL.skip rfl rfl ?_
                      refine RL.skip rfl rfl ?_
                      refine RL.skip rfl rfl ?_
                      refine RL.skip rfl rfl ?_
                      refine RL.skip rfl rfl ?_
                      refine RL.skip rfl rfl ?_
                      refine RL.skip rfl rfl ?_
                      refine RL.skip rfl rfl ?_
                      refine RL.skip rfl rfl ?_
                      refine RL.skip rfl rfl ?_
                      refine RL.skip rfl rfl ?_
                      refine RL.skip rfl rfl ?_
                      refine RL.skip rfl rfl ?_
                      refine RL.skip rfl rfl ?_
                      refine RL.pickF rfl rfl rfl rfl ?_
                      refine RL.finQ ?_
                      cases h300
                      exact fun a w st => mid_intro false h301 (St.cut [0, 1] ⟨rfl, rfl, rfl, rfl, rfl, rfl, rfl, rfl, trivial⟩ (by decide) rfl st)
                  · replace h300 := ite_f b307 h300
                    refine RL.skip rfl rfl ?_
                    refine RL.skip rfl rfl ?_
                    refine RL.skip rfl rfl ?_
                    refine RL.skip rfl rfl ?_
                    refine RL.pickF rfl rfl rfl rfl ?_
                    refine RL.mv rfl rfl rfl ?_
                    refine RL.skip rfl rfl ?_
                    refine RL.skip rfl rfl ?_
                    refine RL.skip rfl rfl ?_
                    refine RL.skip rfl rfl ?_
                    refine RL.skip rfl rfl ?_
                    refine RL.skip rfl rfl ?_
                    refine RL.skip rfl rfl ?_
                    refine RL.skip rfl rfl ?_
                    refine RL.skip rfl rfl ?_
                    refine RL.skip rfl rfl ?_
                    refine RL.skip rfl rfl ?_
                    refine RL.skip rfl rfl ?_
                    refine RL.skip rfl rfl ?_
                    refine RL.skip rfl rfl ?_
                    refine RL.skip rfl rfl ?_
                    refine RL.pickF rfl rfl rfl rfl ?_
                    refine RL.finQ ?_
                    cases h300
                    exact fun a w st => mid_intro false h301 (St.cut [0, 1] ⟨rfl, rfl, rfl, rfl, rfl, rfl, rfl, rfl, trivial⟩ (by decide) rfl st)
                · rintro x297 h317
                  have h318 := h302 _ h317
                  try dsimp only at h318
                  refine GL.weak (env' := [(0, v0), (3, v12), (5, .int .i64 (i184 : Int)), (34, .int .i64 ((x0).length : Int)), (35, .int .i64 (i184 : Int)), (39, .int .i64 ((x0).length : Int)), (40, .int .i64 (i259 : Int)), (68, .bool x297)]) (L' := [imm (TR.sl (TR.sl TR.int)) v0 x0, own 3 TR.int v12 y10.1]) (fun _ _ st => st) ?_
                  refine GL.cond rfl (fun b319 => ?_) (fun b319 => ?_)
                  · replace h318 := ite_t b319 h318
                    refine GL.seq ?_
                    refine GL.region ?_
                    refine RL.asg rfl rfl rfl ?_
                    refine RL.finG ?_
                    cases h318
                    replace h263 : some (Fl.rt _) = some y252 := h263
                    cases h263
                    have hh := h257 _ h255
                    subst hh
                    replace h188 : some (Fl.rt _) = some y177 := h188
                    cases h188
                    have hh := h182 _ h180
                    subst hh
                    exact GL.ret (Gx.ret (v := .bool false) (res1 rfl rfl) (fun a w st => st.toPostV))
                  · replace h318 := ite_f b319 h318
                    refine GL.skip ?_
                    refine GL.nilB ?_
                    refine GL.region ?_
                    refine RL.binI (v := .int .i64 ((i259 + 1 : Nat) : Int)) rfl rfl rfl rfl (binI_succ i259 (by omega)) ?_
                    refine RL.mv rfl rfl rfl ?_
                    refine RL.fin ?_
                    cases h318
                    exact fun a w st => lop_intro (i259 + 1, r271) ⟨by show i259 + 1 + r271.length = (x0).length; simp only [List.length_cons] at h265; omega, h272, h263⟩ (by simp) (St.cut [0, 1] ⟨rfl, rfl, rfl, rfl, rfl, rfl, rfl, trivial⟩ (by decide) rfl st)
              · have h268 : ¬ i259 < (x0).length := by have := of_decide_eq_false b267; omega
                obtain rfl : r260 = [] := by rw [← h266]; exact List.drop_of_length_le (by omega)
                replace h264 : some (Fl.nx _) = some y252 := h264
                cases h264
                exact GL.exit (fun a w st => mid_intro () h255 (St.cut [0, 1] ⟨rfl, rfl, rfl, rfl, trivial⟩ (by decide) rfl st))
            · rintro ⟨⟩ h320
              have h321 := h256 _ h320
              try dsimp only at h321
              refine GL.weak (env' := [(0, v0), (3, v12), (34, .int .i64 ((x0).length : Int)), (35, .int .i64 (i184 : Int))]) (L' := [imm (TR.sl (TR.sl TR.int)) v0 x0, own 3 TR.int v12 y10.1]) (fun _ _ st => st) ?_
              refine GL.nilB ?_
              refine GL.region ?_
              refine RL.binI (v := .int .i64 ((i184 + 1 : Nat) : Int)) rfl rfl rfl rfl (binI_succ i184 (by omega)) ?_
              refine RL.mv rfl rfl rfl ?_
              refine RL.fin ?_
              cases h321
              exact fun a w st => lop_intro (i184 + 1, r196) ⟨by show i184 + 1 + r196.length = (x0).length; simp only [List.length_cons] at h190; omega, h197, h188⟩ (by simp) (St.cut [0, 1] ⟨rfl, rfl, rfl, rfl, trivial⟩ (by decide) rfl st)
          · have h193 : ¬ i184 < (x0).length := by have := of_decide_eq_false b192; omega
            obtain rfl : r185 = [] := by rw [← h191]; exact List.drop_of_length_le (by omega)
            replace h189 : some (Fl.nx _) = some y177 := h189
            cases h189
            exact GL.exit (fun a w st => mid_intro () h180 (St.cut [0, 1] ⟨rfl, rfl, trivial⟩ (by decide) rfl st))
        · rintro ⟨⟩ h322
          have h323 := h181 _ h322
          try dsimp only at h323
          refine GL.weak (env' := [(0, v0), (3, v12)]) (L' := [imm (TR.sl (TR.sl TR.int)) v0 x0, own 3 TR.int v12 y10.1]) (fun _ _ st => st) ?_
          refine GL.seq ?_
          refine GL.seq ?_
          refine GL.region ?_
          refine RL.mv rfl rfl rfl ?_
          refine RL.lenS 1 Try.underlying28 rfl rfl rfl rfl SlOf.own ?_
          refine RL.mv rfl rfl rfl ?_
          refine RL.finG ?_
          refine GL.lenOwn 1 rfl (fun n688 => ?_)
          obtain ⟨y689, K690, h691, h692, h693, h694, h695⟩ := bindR_K h323
          refine GL.join (ι := Unit) (fun (p : Unit) => []) (fun (p : Unit) => []) (fun (p : Unit) => K690 (.nx ())) ?_ ?_
          · refine GL.block ?_
            refine GL.loop (ι := Nat × Nat) (fun (p : Nat × Nat) => [(0, v0), (71, v12), (72, .int .i64 ((y10.1).length : Int)), (73, .int .i64 (p.1 : Int))]) (fun (p : Nat × Nat) => [imm (TR.sl (TR.sl TR.int)) v0 x0, own 3 TR.int v12 y10.1]) (fun (p : Nat × Nat) => p.1 + p.2 = (y10.1).length ∧ rangeN (pk_DuelTop_b3 y10 x0) p.2 p.1 () = some y689) (fun (p : Nat × Nat) => p.2) (0, (y10.1).length) ⟨by simp, h691⟩ (fun a w st => St.cut [0, 1] ⟨rfl, rfl, rfl, rfl, trivial⟩ (by decide) rfl st) ?_
            rintro ⟨i696, r697⟩ ⟨h702, h701⟩
            try dsimp only at h702 h701
            refine GL.weak (env' := [(0, v0), (71, v12), (72, .int .i64 ((y10.1).length : Int)), (73, .int .i64 (i696 : Int))]) (L' := [imm (TR.sl (TR.sl TR.int)) v0 x0, own 3 TR.int v12 y10.1]) (fun _ _ st => st) ?_
            refine GL.seq ?_
            refine GL.region ?_
            refine RL.binI (v := .bool (decide ((i696 : Int) < ((y10.1).length : Int)))) rfl rfl rfl rfl rfl ?_
            refine RL.finG ?_
            refine GL.seq ?_
            refine GL.cond rfl (fun b704 => ?_) (fun b704 => ?_)
            · have h705 : i696 < (y10.1).length := by have := of_decide_eq_true b704; omega
              obtain ⟨r706, hr⟩ : ∃ m, r697 = m + 1 := ⟨r697 - 1, by omega⟩
              subst hr
              obtain ⟨z698, h699, h700⟩ := rangeN_some h701
              unfold pk_DuelTop_b3 at h699
              try dsimp only at h699
              refine GL.skip ?_
              refine GL.seq ?_
              refine GL.block ?_
              refine GL.seq ?_
              refine GL.region ?_
              obtain ⟨y709, e710, h699⟩ := bind_some h699
              refine RL.idxS (sz := 1) 1 Try.underlying28 Try_ln3 rfl rfl rfl rfl rfl SlOf.own (idx_some e710).1 (idx_some e710).2.1 ?_
              refine RL.ldSx (i := i696) (e' := y709) 1 Ex.ik Try_ln3 rfl rfl rfl rfl SlOf.own (idx_some e710).2.2 Part.self ?_
              refine RL.asg rfl rfl rfl ?_
              refine RL.finG ?_
              refine GL.seq ?_
              refine GL.seq ?_
              obtain ⟨y714, K715, h716, h717, h718, h719, h720⟩ := bindF_K h699
              refine GL.join (ι := Bool) (fun (p : Bool) => [(0, v0), (8, .int .i64 y709), (71, v12), (72, .int .i64 ((y10.1).length : Int)), (73, .int .i64 (i696 : Int)), (84, .bool p)]) (fun (p : Bool) => [imm (TR.sl (TR.sl TR.int)) v0 x0, own 3 TR.int v12 y10.1]) (fun (p : Bool) => K715 (.nx p)) ?_ ?_
              · skip
                refine GL.region ?_
                refine RL.mv rfl rfl rfl ?_
                refine RL.binI (v := .bool (decide (y709 < (0 : Int)))) rfl rfl rfl rfl rfl ?_
                refine RL.mv rfl rfl rfl ?_
                refine RL.split (t := 79) rfl (fun b721 => ?_) (fun b721 => ?_)
                · replace h716 := ite_t b721 h716
                  refine RL.skip rfl rfl ?_
                  refine RL.skip rfl rfl ?_
                  refine RL.skip rfl rfl ?_
                  refine RL.skip rfl rfl ?_
                  refine RL.pickT rfl rfl rfl rfl ?_
                  refine RL.fin ?_
                  cases h716
                  exact fun a w st => mid_intro true h717 (St.cut [0, 1] ⟨rfl, rfl, rfl, rfl, rfl, rfl, trivial⟩ (by decide) rfl st)
                · replace h716 := ite_f b721 h716
                  refine RL.mv rfl rfl rfl ?_
                  refine RL.mv rfl rfl rfl ?_
                  refine RL.lenS 0 Try.underlying22 rfl rfl rfl rfl SlOf.imm ?_
                  refine RL.binI (v := .bool (decide (y709 ≥ ((x0).length : Int)))) rfl rfl rfl rfl rfl ?_
                  refine RL.pickF rfl rfl rfl rfl ?_
                  refine RL.fin ?_
                  cases h716
                  exact fun a w st => mid_intro (decide (y709 ≥ ((x0).length : Int))) h717 (St.cut [0, 1] ⟨rfl, rfl, rfl, rfl, rfl, rfl, trivial⟩ (by decide) rfl st)
              · rintro x713 h722
                have h723 := h718 _ h722
                try dsimp only at h723
                refine GL.weak (env' := [(0, v0), (8, .int .i64 y709), (71, v12), (72, .int .i64 ((y10.1).length : Int)), (73, .int .i64 (i696 : Int)), (84, .bool x713)]) (L' := [imm (TR.sl (TR.sl TR.int)) v0 x0, own 3 TR.int v12 y10.1]) (fun _ _ st => st) ?_
                refine GL.cond rfl (fun b724 => ?_) (fun b724 => ?_)
                · replace h723 := ite_t b724 h723
                  refine GL.seq ?_
                  refine GL.region ?_
                  refine RL.asg rfl rfl rfl ?_
                  refine RL.finG ?_
                  cases h723
                  replace h700 : some (Fl.rt _) = some y689 := h700
                  cases h700
                  have hh := h694 _ h692
                  subst hh
                  exact GL.ret (Gx.ret (v := .bool false) (res1 rfl rfl) (fun a w st => st.toPostV))
                · replace h723 := ite_f b724 h723
                  refine GL.skip ?_
                  refine GL.seq ?_
                  refine GL.region ?_
                  refine RL.mv rfl rfl rfl ?_
                  refine RL.bS (t := TR.int) (vs := [.int .i64 y709]) ([y709] : (List Int)) Try.underlying28 Try_lo3 rfl rfl rfl rfl ⟨VR.int, trivial⟩ rfl (by decide) ?_
                  intro v726
                  refine RL.asg rfl rfl rfl ?_
                  refine RL.finG ?_
                  refine GL.seq ?_
                  refine GL.seq ?_
                  refine GL.region ?_
                  refine RL.asg rfl rfl rfl ?_
                  refine RL.finG ?_
                  obtain ⟨y891, K892, h893, h894, h895, h896, h897⟩ := bindF_K h723
                  refine GL.join (ι := (List Int) × Int × Value) (fun (p : (List Int) × Int × Value) => [(0, v0), (9, p.2.2), (71, v12), (72, .int .i64 ((y10.1).length : Int)), (73, .int .i64 (i696 : Int))]) (fun (p : (List Int) × Int × Value) => [imm (TR.sl (TR.sl TR.int)) v0 x0, own 3 TR.int p.2.2 p.1, own 3 TR.int v12 y10.1]) (fun (p : (List Int) × Int × Value) => K892 (.nx (p.1, p.2.1))) ?_ ?_
                  · refine GL.block ?_
                    refine GL.loop (ι := Nat × (List Int) × Int × Value) (fun (p : Nat × (List Int) × Int × Value) => [(0, v0), (9, p.2.2.2), (10, .int .i64 p.2.2.1), (71, v12), (72, .int .i64 ((y10.1).length : Int)), (73, .int .i64 (i696 : Int))]) (fun (p : Nat × (List Int) × Int × Value) => [imm (TR.sl (TR.sl TR.int)) v0 x0, own 3 TR.int p.2.2.2 p.2.1, own 3 TR.int v12 y10.1]) (fun (p : Nat × (List Int) × Int × Value) => loopM (pk_DuelTop_b4 x0) p.1 (p.2.1, p.2.2.1) = some y891) (fun (p : Nat × (List Int) × Int × Value) => p.1) (1048576, ([y709] : (List Int)), (0 : Int), v726) h893 (fun a w st => St.cut [0, 2, 1] ⟨rfl, rfl, rfl, rfl, rfl, rfl, trivial⟩ (by decide) rfl st) ?_
                    rintro ⟨r899, l727, x729, v728⟩ h903
                    try dsimp only at h903
                    refine GL.weak (env' := [(0, v0), (9, v728), (10, .int .i64 x729), (71, v12), (72, .int .i64 ((y10.1).length : Int)), (73, .int .i64 (i696 : Int))]) (L' := [imm (TR.sl (TR.sl TR.int)) v0 x0, own 3 TR.int v728 l727, own 3 TR.int v12 y10.1]) (fun _ _ st => st) ?_
                    obtain ⟨r906, z900, hr, h901, h902⟩ := loopM_some h903
                    subst hr
                    unfold pk_DuelTop_b4 at h901
                    try dsimp only at h901
                    refine GL.seq ?_
                    refine GL.seq ?_
                    refine GL.region ?_
                    refine RL.mv rfl rfl rfl ?_
                    refine RL.mv rfl rfl rfl ?_
                    refine RL.lenS 1 Try.underlying28 rfl rfl rfl rfl SlOf.own ?_
                    refine RL.binI (v := .bool (decide (x729 < ((l727).length : Int)))) rfl rfl rfl rfl rfl ?_
                    refine RL.finG ?_
                    refine GL.cond rfl (fun b907 => ?_) (fun b907 => ?_)
                    · replace h901 := ite_t b907 h901
                      refine GL.skip ?_
                      refine GL.seq ?_
                      refine GL.block ?_
                      refine GL.seq ?_
                      refine GL.region ?_
                      refine RL.mv rfl rfl rfl ?_
                      refine RL.lenS 0 Try.underlying22 rfl rfl rfl rfl SlOf.imm ?_
                      refine RL.mv rfl rfl rfl ?_
                      refine RL.finG ?_
                      refine GL.open_ 0 rfl (fun S h => len_imm S h) (fun n980 => ?_)
                      obtain ⟨y981, K982, h983, h984, h985, h986, h987⟩ := bindF_K h901
                      refine GL.join (ι := (List Int) × Value) (fun (p : (List Int) × Value) => [(0, v0), (9, p.2), (10, .int .i64 x729), (71, v12), (72, .int .i64 ((y10.1).length : Int)), (73, .int .i64 (i696 : Int))]) (fun (p : (List Int) × Value) => [imm (TR.sl (TR.sl TR.int)) v0 x0, own 3 TR.int p.2 p.1, own 3 TR.int v12 y10.1]) (fun (p : (List Int) × Value) => K982 (.nx p.1)) ?_ ?_
                      · refine GL.block ?_
                        refine GL.loop (ι := Nat × (List (List Int)) × (List Int) × Value) (fun (p : Nat × (List (List Int)) × (List Int) × Value) => [(0, v0), (9, p.2.2.2), (10, .int .i64 x729), (71, v12), (72, .int .i64 ((y10.1).length : Int)), (73, .int .i64 (i696 : Int)), (94, .int .i64 ((x0).length : Int)), (95, .int .i64 (p.1 : Int))]) (fun (p : Nat × (List (List Int)) × (List Int) × Value) => [imm (TR.sl (TR.sl TR.int)) v0 x0, own 3 TR.int p.2.2.2 p.2.2.1, own 3 TR.int v12 y10.1]) (fun (p : Nat × (List (List Int)) × (List Int) × Value) => p.1 + p.2.1.length = (x0).length ∧ List.drop p.1 x0 = p.2.1 ∧ rangeL (pk_DuelTop_b5 x729 x0) p.2.1 p.1 p.2.2.1 = some y981) (fun (p : Nat × (List (List Int)) × (List Int) × Value) => p.2.1.length) (0, x0, l727, v728) ⟨by simp, by simp, h983⟩ (fun a w st => St.cut [0, 1, 2] ⟨rfl, rfl, rfl, rfl, rfl, rfl, rfl, rfl, trivial⟩ (by decide) rfl st) ?_
                        rintro ⟨i988, r989, l908, v909⟩ ⟨h994, h995, h993⟩
                        try dsimp only at h994 h995 h993
                        refine GL.weak (env' := [(0, v0), (9, v909), (10, .int .i64 x729), (71, v12), (72, .int .i64 ((y10.1).length : Int)), (73, .int .i64 (i696 : Int)), (94, .int .i64 ((x0).length : Int)), (95, .int .i64 (i988 : Int))]) (L' := [imm (TR.sl (TR.sl TR.int)) v0 x0, own 3 TR.int v909 l908, own 3 TR.int v12 y10.1]) (fun _ _ st => st) ?_
                        refine GL.seq ?_
                        refine GL.region ?_
                        refine RL.binI (v := .bool (decide ((i988 : Int) < ((x0).length : Int)))) rfl rfl rfl rfl rfl ?_
                        refine RL.finG ?_
                        refine GL.seq ?_
                        refine GL.cond rfl (fun b996 => ?_) (fun b996 => ?_)
                        · have h997 : i988 < (x0).length := by have := of_decide_eq_true b996; omega
                          obtain ⟨y998, r1000, hr, e999, h1001⟩ := drop_cons h995 rfl h997
                          subst hr
                          obtain ⟨z990, h991, h992⟩ := rangeL_some h993
                          unfold pk_DuelTop_b5 at h991
                          try dsimp only at h991
                          refine GL.skip ?_
                          refine GL.seq ?_
                          refine GL.block ?_
                          refine GL.seq ?_
                          refine GL.region ?_
                          refine RL.mv rfl rfl rfl ?_
                          refine RL.asg rfl rfl rfl ?_
                          refine RL.finG ?_
                          refine GL.seq ?_
                          obtain ⟨y1033, K1034, h1035, h1036, h1037, h1038, h1039⟩ := bindF_K h991
                          refine GL.join (ι := Bool) (fun (p : Bool) => [(0, v0), (9, v909), (10, .int .i64 x729), (11, .int .i64 (i988 : Int)), (71, v12), (72, .int .i64 ((y10.1).length : Int)), (73, .int .i64 (i696 : Int)), (94, .int .i64 ((x0).length : Int)), (95, .int .i64 (i988 : Int)), (124, .bool p)]) (fun (p : Bool) => [imm (TR.sl (TR.sl TR.int)) v0 x0, own 3 TR.int v909 l908, own 3 TR.int v12 y10.1]) (fun (p : Bool) => K1034 (.nx p)) ?_ ?_
                          · skip
                            refine GL.regionQ rfl rfl (by kernel_rfl) ?_
                            refine RL.mv rfl rfl rfl ?_
                            refine RL.mv rfl rfl rfl ?_
                            obtain ⟨y1040, e1041, h1035⟩ := bind_some h1035
                            refine RL.callC (v := .bool y1040) (vs := [v909, .int .i64 (i988 : Int)]) Try_fit28 rfl rfl rfl rfl (fun U w hU hW hL => slices_Contains_int_int_c U w hU _ _ (hL 1 _ _ rfl Seen.own) (i988 : Int) _ e1041) ?_
                            refine RL.notB rfl rfl rfl ?_
                            refine RL.mv rfl rfl rfl ?_
                            refine RL.split (t := 102) rfl (fun b1042 => ?_) (fun b1042 => ?_)
                            · replace h1035 := ite_t b1042 h1035
                              refine RL.mv rfl rfl rfl ?_
                              refine RL.mv rfl rfl rfl ?_
                              refine RL.mv rfl rfl rfl ?_
                              obtain ⟨y1043, e1044, h1035⟩ := bind_some h1035
                              refine RL.idxS (sz := 1) 1 Try.underlying28 Try_ln3 rfl rfl rfl rfl rfl SlOf.own (idx_some e1044).1 (idx_some e1044).2.1 ?_
                              refine RL.ldSx (i := (x729).toNat) (e' := y1043) 1 Ex.ik Try_ln3 rfl rfl rfl rfl SlOf.own (idx_some e1044).2.2 Part.self ?_
                              obtain ⟨y1045, e1046, h1035⟩ := bind_some h1035
                              refine RL.idxS (sz := 1) 0 Try.underlying22 Try_ln28 rfl rfl rfl rfl rfl SlOf.imm (idx_some e1046).1 (idx_some e1046).2.1 ?_
                              refine RL.ldS (i := (y1043).toNat) (r := (TR.sl TR.int)) (e' := y1045) 0 Try_ln28 rfl rfl rfl rfl SlOf.imm (idx_some e1046).2.2 Part.self ?_
                              intro v1047
                              refine RL.mv rfl rfl rfl ?_
                              obtain ⟨y1048, e1049, h1035⟩ := bind_some h1035
                              refine RL.idxS (sz := 1) 3 Try.underlying28 Try_ln3 rfl rfl rfl rfl rfl SlOf.imm (idx_some e1049).1 (idx_some e1049).2.1 ?_
                              refine RL.ldSx (i := i988) (e' := y1048) 3 Ex.ik Try_ln3 rfl rfl rfl rfl SlOf.imm (idx_some e1049).2.2 Part.self ?_
                              refine RL.mv rfl rfl rfl ?_
                              refine RL.mv rfl rfl rfl ?_
                              refine RL.idxS (sz := 1) 0 Try.underlying22 Try_ln28 rfl rfl rfl rfl rfl SlOf.imm (by omega) (by omega) ?_
                              refine RL.ldS (i := i988) (r := (TR.sl TR.int)) (e' := y998) 0 Try_ln28 rfl rfl rfl rfl SlOf.imm e999 Part.self ?_
                              intro v1050
                              refine RL.reL (L' := [imm (TR.sl (TR.sl TR.int)) v0 x0, own 3 TR.int v909 l908, own 3 TR.int v12 y10.1, imm (TR.sl TR.int) v1047 y1045, imm (TR.sl TR.int) v1050 y998]) rfl ?_
                              refine RL.mv rfl rfl rfl ?_
                              refine RL.mv rfl rfl rfl ?_
                              obtain ⟨y1051, e1052, h1035⟩ := bind_some h1035
                              refine RL.idxS (sz := 1) 1 Try.underlying28 Try_ln3 rfl rfl rfl rfl rfl SlOf.own (idx_some e1052).1 (idx_some e1052).2.1 ?_
                              refine RL.ldSx (i := (x729).toNat) (e' := y1051) 1 Ex.ik Try_ln3 rfl rfl rfl rfl SlOf.own (idx_some e1052).2.2 Part.self ?_
                              obtain ⟨y1053, e1054, h1035⟩ := bind_some h1035
                              refine RL.idxS (sz := 1) 4 Try.underlying28 Try_ln3 rfl rfl rfl rfl rfl SlOf.imm (idx_some e1054).1 (idx_some e1054).2.1 ?_
                              refine RL.ldSx (i := (y1051).toNat) (e' := y1053) 4 Ex.ik Try_ln3 rfl rfl rfl rfl SlOf.imm (idx_some e1054).2.2 Part.self ?_
                              refine RL.binI (v := .bool (decide (y1048 ≥ y1053))) rfl rfl rfl rfl rfl ?_
                              refine RL.pickT rfl rfl rfl rfl ?_
                              refine RL.finQ ?_
                              cases h1035
                              exact fun a w st => mid_intro (decide (y1048 ≥ y1053)) h1036 (St.cut [0, 1, 2] ⟨rfl, rfl, rfl, rfl, rfl, rfl, rfl, rfl, rfl, rfl, trivial⟩ (by decide) rfl st)
                            · replace h1035 := ite_f b1042 h1035
                              refine RL.skip rfl rfl ?_
                              refine RL.skip rfl rfl ?_
                              refine RL.skip rfl rfl ?_
                              refine RL.skip rfl rfl ?_
                              refine RL.skip rfl rfl ?_
                              refine RL.skip rfl rfl ?_
                              refine RL.skip rfl rfl ?_
                              refine RL.skip rfl rfl ?_
                              refine RL.skip rfl rfl ?_
                              refine RL.skip rfl rfl ?_
                              refine RL.skip rfl rfl ?_
                              refine RL.skip rfl rfl ?_
                              refine RL.skip rfl rfl ?_
                              refine RL.skip rfl rfl ?_
                              refine RL.skip rfl rfl ?_
                              refine RL.skip rfl rfl ?_
                              refine RL.skip rfl rfl ?_
                              refine RL.skip rfl rfl ?_
                              refine RL.skip rfl rfl ?_
                              refine RL.skip rfl rfl ?_
                              refine RL.skip rfl rfl ?_
                              refine RL.pickF rfl rfl rfl rfl ?_
                              refine RL.finQ ?_
                              cases h1035
                              exact fun a w st => mid_intro false h1036 (St.cut [0, 1, 2] ⟨rfl, rfl, rfl, rfl, rfl, rfl, rfl, rfl, rfl, rfl, trivial⟩ (by decide) rfl st)
                          · rintro x1032 h1055
                            have h1056 := h1037 _ h1055
                            try dsimp only at h1056
                            refine GL.weak (env' := [(0, v0), (9, v909), (10, .int .i64 x729), (11, .int .i64 (i988 : Int)), (71, v12), (72, .int .i64 ((y10.1).length : Int)), (73, .int .i64 (i696 : Int)), (94, .int .i64 ((x0).length : Int)), (95, .int .i64 (i988 : Int)), (124, .bool x1032)]) (L' := [imm (TR.sl (TR.sl TR.int)) v0 x0, own 3 TR.int v909 l908, own 3 TR.int v12 y10.1]) (fun _ _ st => st) ?_
                            refine GL.cond rfl (fun b1057 => ?_) (fun b1057 => ?_)
                            · replace h1056 := ite_t b1057 h1056
                              refine GL.region ?_
                              refine RL.mv rfl rfl rfl ?_
                              refine RL.mv rfl rfl rfl ?_
                              refine RL.bS (t := TR.int) (vs := [.int .i64 (i988 : Int)]) ([(i988 : Int)] : (List Int)) Try.underlying28 Try_lo3 rfl rfl rfl rfl ⟨VR.int, trivial⟩ rfl (by decide) ?_
                              intro v1062
                              obtain ⟨y1063, e1064, h1056⟩ := bind_some h1056
                              replace e1064 := chk_some e1064
                              refine RL.app 1 3 Try.underlying28 Try_lo3 rfl rfl rfl rfl rfl rfl rfl SlOf.own e1064 ?_
                              intro v1065
                              refine RL.reL (L' := [imm (TR.sl (TR.sl TR.int)) v0 x0, own 3 TR.int v1065 (l908 ++ ([(i988 : Int)] : (List Int))), own 3 TR.int v12 y10.1, own 3 TR.int v1062 ([(i988 : Int)] : (List Int))]) rfl ?_
                              refine RL.asg rfl rfl rfl ?_
                              refine RL.finG ?_
                              refine GL.nilB ?_
                              refine GL.region ?_
                              refine RL.binI (v := .int .i64 ((i988 + 1 : Nat) : Int)) rfl rfl rfl rfl (binI_succ i988 (by omega)) ?_
                              refine RL.mv rfl rfl rfl ?_
                              refine RL.fin ?_
                              cases h1056
                              exact fun a w st => lop_intro (i988 + 1, r1000, (l908 ++ ([(i988 : Int)] : (List Int))), v1065) ⟨by show i988 + 1 + r1000.length = (x0).length; simp only [List.length_cons] at h994; omega, h1001, h992⟩ (by simp) (St.cut [0, 1, 2] ⟨rfl, rfl, rfl, rfl, rfl, rfl, rfl, rfl, trivial⟩ (by decide) rfl st)
                            · replace h1056 := ite_f b1057 h1056
                              refine GL.skip ?_
                              refine GL.nilB ?_
                              refine GL.region ?_
                              refine RL.binI (v := .int .i64 ((i988 + 1 : Nat) : Int)) rfl rfl rfl rfl (binI_succ i988 (by omega)) ?_
                              refine RL.mv rfl rfl rfl ?_
                              refine RL.fin ?_
                              cases h1056
                              exact fun a w st => lop_intro (i988 + 1, r1000, l908, v909) ⟨by show i988 + 1 + r1000.length = (x0).length; simp only [List.length_cons] at h994; omega, h1001, h992⟩ (by simp) (St.cut [0, 1, 2] ⟨rfl, rfl, rfl, rfl, rfl, rfl, rfl, rfl, trivial⟩ (by decide) rfl st)
                        · have h997 : ¬ i988 < (x0).length := by have := of_decide_eq_false b996; omega
                          obtain rfl : r989 = [] := by rw [← h995]; exact List.drop_of_length_le (by omega)
                          replace h993 : some (Fl.nx _) = some y981 := h993
                          cases h993
                          exact GL.exit (fun a w st => mid_intro (l908, v909) h984 (St.cut [0, 1, 2] ⟨rfl, rfl, rfl, rfl, rfl, rfl, trivial⟩ (by decide) rfl st))
                      · rintro ⟨l908, v909⟩ h1066
                        have h1067 := h985 _ h1066
                        try dsimp only at h1067
                        refine GL.weak (env' := [(0, v0), (9, v909), (10, .int .i64 x729), (71, v12), (72, .int .i64 ((y10.1).length : Int)), (73, .int .i64 (i696 : Int))]) (L' := [imm (TR.sl (TR.sl TR.int)) v0 x0, own 3 TR.int v909 l908, own 3 TR.int v12 y10.1]) (fun _ _ st => st) ?_
                        refine GL.nilB ?_
                        refine GL.region ?_
                        refine RL.mv rfl rfl rfl ?_
                        refine RL.binI (v := .int .i64 (wadd x729 (1 : Int))) rfl rfl rfl rfl rfl ?_
                        refine RL.asg rfl rfl rfl ?_
                        refine RL.finG ?_
                        cases h1067
                        exact fun a w st => lop_intro (r906, l908, wadd x729 (1 : Int), v909) h902 (by simp) (St.cut [0, 1, 2] ⟨rfl, rfl, rfl, rfl, rfl, rfl, trivial⟩ (by decide) rfl st)
                    · replace h901 := ite_f b907 h901
                      cases h901
                      replace h902 : some (Fl.nx _) = some y891 := h902
                      cases h902
                      exact GL.exit (fun a w st => mid_intro (l727, x729, v728) h894 (St.cut [0, 1, 2] ⟨rfl, rfl, rfl, rfl, rfl, trivial⟩ (by decide) rfl st))
                  · rintro ⟨l727, x729, v728⟩ h1068
                    have h1069 := h895 _ h1068
                    try dsimp only at h1069
                    refine GL.weak (env' := [(0, v0), (9, v728), (71, v12), (72, .int .i64 ((y10.1).length : Int)), (73, .int .i64 (i696 : Int))]) (L' := [imm (TR.sl (TR.sl TR.int)) v0 x0, own 3 TR.int v728 l727, own 3 TR.int v12 y10.1]) (fun _ _ st => st) ?_
                    refine GL.seq ?_
                    refine GL.region ?_
                    refine RL.mv rfl rfl rfl ?_
                    refine RL.lenS 1 Try.underlying28 rfl rfl rfl rfl SlOf.own ?_
                    refine RL.mv rfl rfl rfl ?_
                    refine RL.lenS 0 Try.underlying22 rfl rfl rfl rfl SlOf.imm ?_
                    refine RL.binI (v := .bool (((l727).length : Int) != ((x0).length : Int))) rfl rfl rfl rfl rfl ?_
                    refine RL.finG ?_
                    refine GL.cond rfl (fun b1070 => ?_) (fun b1070 => ?_)
                    · replace h1069 := ite_t b1070 h1069
                      refine GL.seq ?_
                      refine GL.region ?_
                      refine RL.asg rfl rfl rfl ?_
                      refine RL.finG ?_
                      cases h1069
                      replace h700 : some (Fl.rt _) = some y689 := h700
                      cases h700
                      have hh := h694 _ h692
                      subst hh
                      exact GL.ret (Gx.ret (v := .bool false) (res1 rfl rfl) (fun a w st => st.toPostV))
                    · replace h1069 := ite_f b1070 h1069
                      refine GL.skip ?_
                      refine GL.nilB ?_
                      refine GL.region ?_
                      refine RL.binI (v := .int .i64 ((i696 + 1 : Nat) : Int)) rfl rfl rfl rfl (binI_succ i696 (by omega)) ?_
                      refine RL.mv rfl rfl rfl ?_
                      refine RL.fin ?_
                      cases h1069
                      exact fun a w st => lop_intro (i696 + 1, r706) ⟨by show i696 + 1 + r706 = (y10.1).length; omega, h700⟩ (by simp) (St.cut [0, 2] ⟨rfl, rfl, rfl, rfl, trivial⟩ (by decide) rfl st)
            · have h705 : ¬ i696 < (y10.1).length := by have := of_decide_eq_false b704; omega
              obtain rfl : r697 = 0 := by omega
              replace h701 : some (Fl.nx _) = some y689 := h701
              cases h701
              exact GL.exit (fun a w st => mid_intro () h692 (St.cut [] trivial (by decide) rfl st))
          · rintro ⟨⟩ h1071
            have h1072 := h693 _ h1071
            try dsimp only at h1072
            refine GL.weak (env' := []) (L' := []) (fun _ _ st => st) ?_
            refine GL.seq ?_
            refine GL.region ?_
            refine RL.asg rfl rfl rfl ?_
            refine RL.finG ?_
            have h1072 := Option.some.inj h1072
            subst h1072
            exact GL.ret (Gx.ret (v := .bool true) (res1 rfl rfl) (fun a w st => st.toPostV))
end Go.Wk
