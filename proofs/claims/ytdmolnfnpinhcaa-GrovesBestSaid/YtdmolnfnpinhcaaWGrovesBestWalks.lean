/- Each function comes to what its model says; printed by a program of this repository. -/
import Derived.Test.YtdmolnfnpinhcaaProg
import Derived.Test.YtdmolnfnpinhcaaWGrovesBestModels
namespace Go.Wk
open Go.Fw Go.Mo Go.Proofs Go.RowKit
set_option linter.all false
set_option maxRecDepth 100000
theorem loopNx {ρ σ β γ : Type} {body : σ → Option (Fl ρ β σ)} {n : Nat} {s : σ} {y : Fl ρ γ β} (h : stepM body n (.nx s) = some y) : loopM body n s = some y := h
theorem Try_info3 : (Try.prog.info? 3).map (fun i => (i.zero, i.size, i.bytes)) = some (some (.int .i64 0), 1, 8) := by kernel_rfl
theorem Try_ln3 : Ln Try.prog 3 1 false := Ln.of Try_info3 Try.underlying3 rfl
theorem Try_lo3 : LnO Try.prog 3 1 [.int .i64 0] := LnO.of Try_info3 rfl rfl (by decide) (by decide)
theorem Try_info24 : (Try.prog.info? 24).map (fun i => (i.zero, i.size, i.bytes)) = some (some (.int .i64 0), 1, 8) := by kernel_rfl
theorem Try_ln24 : Ln Try.prog 24 1 false := Ln.of Try_info24 Try.underlying24 rfl
theorem Try_lo24 : LnO Try.prog 24 1 [.int .i64 0] := LnO.of Try_info24 rfl rfl (by decide) (by decide)
theorem Try_info34 : (Try.prog.info? 34).map (fun i => (i.zero, i.size, i.bytes)) = some (some (.slice none 0 0), 1, 24) := by kernel_rfl
theorem Try_ln34 : Ln Try.prog 34 1 false := Ln.of Try_info34 Try.underlying34 rfl
theorem Try_lo34 : LnO Try.prog 34 1 [.slice none 0 0] := LnO.of Try_info34 rfl rfl (by decide) (by decide)
theorem Try_fit18 : Fit Try.prog 18 := Fit.of Try.func18 (by kernel_rfl) rfl
theorem Try_fit22 : Fit Try.prog 22 := Fit.of Try.func22 (by kernel_rfl) rfl
theorem Try_fit23 : Fit Try.prog 23 := Fit.of Try.func23 (by kernel_rfl) rfl
theorem Try_fit24 : Fit Try.prog 24 := Fit.of Try.func24 (by kernel_rfl) rfl
theorem Try_fit25 : Fit Try.prog 25 := Fit.of Try.func25 (by kernel_rfl) rfl
theorem Try_fit26 : Fit Try.prog 26 := Fit.of Try.func26 (by kernel_rfl) rfl
theorem Try_fit45 : Fit Try.prog 45 := Fit.of Try.func45 (by kernel_rfl) rfl
theorem Try_fit46 : Fit Try.prog 46 := Fit.of Try.func46 (by kernel_rfl) rfl
theorem Try_fit47 : Fit Try.prog 47 := Fit.of Try.func47 (by kernel_rfl) rfl
theorem Try_fit48 : Fit Try.prog 48 := Fit.of Try.func48 (by kernel_rfl) rfl
theorem Try_fit49 : Fit Try.prog 49 := Fit.of Try.func49 (by kernel_rfl) rfl
theorem Try_fit50 : Fit Try.prog 50 := Fit.of Try.func50 (by kernel_rfl) rfl
theorem Try_fit55 : Fit Try.prog 55 := Fit.of Try.func55 (by kernel_rfl) rfl

set_option maxHeartbeats 4000000 in
theorem groves_Check_c (S : Hp) (w : World) (hS : S.sub w) (v0 : Value) (x0 : (List (List Int))) (k0 : ((TR.sl (TR.sl TR.int))).vrep S v0 x0) (res : Int) (hm : groves_Check_m x0 = some res) : Calls Try.prog 47 #[v0] w (PostC w (.int .i64 res)) := by
  refine calls_enter 40 Try.func47 Try.ntmps47 rfl S true [(0, v0)] [imm (TR.sl (TR.sl TR.int)) v0 x0] rfl ⟨rfl, trivial⟩ hS ⟨k0, trivial⟩ ?_
  unfold groves_Check_m at hm
  refine GL.seq ?_
  refine GL.region ?_
  refine RL.asg rfl rfl rfl ?_
  refine RL.finG ?_
  refine GL.seq ?_
  refine GL.seq ?_
  refine GL.region ?_
  refine RL.mv rfl rfl rfl ?_
  refine RL.lenS 0 Try.underlying42 rfl rfl rfl rfl SlOf.imm ?_
  refine RL.binI (v := .bool (decide (((x0).length : Int) > (4 : Int)))) rfl rfl rfl rfl rfl ?_
  refine RL.finG ?_
  refine GL.cond rfl (fun b2 => ?_) (fun b2 => ?_)
  · replace hm := ite_t b2 hm
    refine GL.seq ?_
    refine GL.region ?_
    refine RL.asg rfl rfl rfl ?_
    refine RL.finG ?_
    have hm := Option.some.inj hm
    subst hm
    exact GL.ret (Gx.ret (v := .int .i64 (2 : Int)) (res1 rfl rfl) (fun a w st => st.toPostC rfl))
  · replace hm := ite_f b2 hm
    refine GL.skip ?_
    refine GL.seq ?_
    refine GL.seq ?_
    refine GL.region ?_
    refine RL.mv rfl rfl rfl ?_
    refine RL.lenS 0 Try.underlying42 rfl rfl rfl rfl SlOf.imm ?_
    refine RL.mv rfl rfl rfl ?_
    refine RL.finG ?_
    refine GL.open_ 0 rfl (fun S h => len_imm S h) (fun n73 => ?_)
    obtain ⟨y74, K75, h76, h77, h78, h79, h80⟩ := bindR_K hm
    refine GL.join (ι := Unit) (fun (p : Unit) => []) (fun (p : Unit) => []) (fun (p : Unit) => K75 (.nx ())) ?_ ?_
    · refine GL.block ?_
      refine GL.loop (ι := Nat × (List (List Int))) (fun (p : Nat × (List (List Int))) => [(0, v0), (10, v0), (11, .int .i64 ((x0).length : Int)), (12, .int .i64 (p.1 : Int))]) (fun (p : Nat × (List (List Int))) => [imm (TR.sl (TR.sl TR.int)) v0 x0]) (fun (p : Nat × (List (List Int))) => p.1 + p.2.length = (x0).length ∧ List.drop p.1 x0 = p.2 ∧ rangeL (groves_Check_b1 x0) p.2 p.1 () = some y74) (fun (p : Nat × (List (List Int))) => p.2.length) (0, x0) ⟨by simp, by simp, h76⟩ (fun a w st => St.cut [0] ⟨rfl, rfl, rfl, rfl, trivial⟩ (by decide) rfl st) ?_
      rintro ⟨i81, r82⟩ ⟨h87, h88, h86⟩
      try dsimp only at h87 h88 h86
      refine GL.weak (env' := [(0, v0), (10, v0), (11, .int .i64 ((x0).length : Int)), (12, .int .i64 (i81 : Int))]) (L' := [imm (TR.sl (TR.sl TR.int)) v0 x0]) (fun _ _ st => st) ?_
      refine GL.seq ?_
      refine GL.region ?_
      refine RL.binI (v := .bool (decide ((i81 : Int) < ((x0).length : Int)))) rfl rfl rfl rfl rfl ?_
      refine RL.finG ?_
      refine GL.seq ?_
      refine GL.cond rfl (fun b89 => ?_) (fun b89 => ?_)
      · have h90 : i81 < (x0).length := by have := of_decide_eq_true b89; omega
        obtain ⟨y91, r93, hr, e92, h94⟩ := drop_cons h88 rfl h90
        subst hr
        obtain ⟨z83, h84, h85⟩ := rangeL_some h86
        unfold groves_Check_b1 at h84
        try dsimp only at h84
        refine GL.skip ?_
        refine GL.seq ?_
        refine GL.block ?_
        refine GL.seq ?_
        refine GL.region ?_
        refine RL.idxS (sz := 1) 0 Try.underlying42 Try_ln34 rfl rfl rfl rfl rfl SlOf.imm (by omega) (by omega) ?_
        refine RL.ldS (i := i81) (r := (TR.sl TR.int)) (e' := y91) 0 Try_ln34 rfl rfl rfl rfl SlOf.imm e92 Part.self ?_
        intro v96
        refine RL.asg rfl rfl rfl ?_
        refine RL.finG ?_
        refine GL.seq ?_
        refine GL.seq ?_
        refine GL.region ?_
        refine RL.mv rfl rfl rfl ?_
        refine RL.lenS 1 Try.underlying34 rfl rfl rfl rfl SlOf.imm ?_
        refine RL.mv rfl rfl rfl ?_
        obtain ⟨y100, e101, h84⟩ := bind_some h84
        refine RL.idxS (sz := 1) 0 Try.underlying42 Try_ln34 rfl rfl rfl rfl rfl SlOf.imm (idx_some e101).1 (idx_some e101).2.1 ?_
        refine RL.ldS (i := ((0 : Int)).toNat) (r := (TR.sl TR.int)) (e' := y100) 0 Try_ln34 rfl rfl rfl rfl SlOf.imm (idx_some e101).2.2 Part.self ?_
        intro v102
        refine RL.reL (L' := [imm (TR.sl (TR.sl TR.int)) v0 x0, imm (TR.sl TR.int) v96 y91, imm (TR.sl TR.int) v102 y100]) rfl ?_
        refine RL.lenS 2 Try.underlying34 rfl rfl rfl rfl SlOf.imm ?_
        refine RL.binI (v := .bool (((y91).length : Int) != ((y100).length : Int))) rfl rfl rfl rfl rfl ?_
        refine RL.finG ?_
        refine GL.cond rfl (fun b103 => ?_) (fun b103 => ?_)
        · replace h84 := ite_t b103 h84
          refine GL.seq ?_
          refine GL.region ?_
          refine RL.asg rfl rfl rfl ?_
          refine RL.finG ?_
          cases h84
          replace h85 : some (Fl.rt _) = some y74 := h85
          cases h85
          have hh := h79 _ h77
          subst hh
          exact GL.ret (Gx.ret (v := .int .i64 (3 : Int)) (res1 rfl rfl) (fun a w st => st.toPostC rfl))
        · replace h84 := ite_f b103 h84
          refine GL.skip ?_
          refine GL.seq ?_
          refine GL.seq ?_
          refine GL.region ?_
          refine RL.mv rfl rfl rfl ?_
          refine RL.lenS 1 Try.underlying34 rfl rfl rfl rfl SlOf.imm ?_
          refine RL.binI (v := .bool (decide (((y91).length : Int) > (4 : Int)))) rfl rfl rfl rfl rfl ?_
          refine RL.finG ?_
          refine GL.cond rfl (fun b104 => ?_) (fun b104 => ?_)
          · replace h84 := ite_t b104 h84
            refine GL.seq ?_
            refine GL.region ?_
            refine RL.asg rfl rfl rfl ?_
            refine RL.finG ?_
            cases h84
            replace h85 : some (Fl.rt _) = some y74 := h85
            cases h85
            have hh := h79 _ h77
            subst hh
            exact GL.ret (Gx.ret (v := .int .i64 (2 : Int)) (res1 rfl rfl) (fun a w st => st.toPostC rfl))
          · replace h84 := ite_f b104 h84
            refine GL.skip ?_
            refine GL.seq ?_
            refine GL.region ?_
            refine RL.mv rfl rfl rfl ?_
            refine RL.lenS 1 Try.underlying34 rfl rfl rfl rfl SlOf.imm ?_
            refine RL.mv rfl rfl rfl ?_
            refine RL.finG ?_
            refine GL.open_ 1 rfl (fun S h => len_imm S h) (fun n123 => ?_)
            obtain ⟨y124, K125, h126, h127, h128, h129, h130⟩ := bindF_K h84
            refine GL.join (ι := Unit) (fun (p : Unit) => [(0, v0), (10, v0), (11, .int .i64 ((x0).length : Int)), (12, .int .i64 (i81 : Int))]) (fun (p : Unit) => [imm (TR.sl (TR.sl TR.int)) v0 x0]) (fun (p : Unit) => K125 (.nx ())) ?_ ?_
            · refine GL.block ?_
              refine GL.loop (ι := Nat × (List Int)) (fun (p : Nat × (List Int)) => [(0, v0), (10, v0), (11, .int .i64 ((x0).length : Int)), (12, .int .i64 (i81 : Int)), (26, v96), (27, .int .i64 ((y91).length : Int)), (28, .int .i64 (p.1 : Int))]) (fun (p : Nat × (List Int)) => [imm (TR.sl (TR.sl TR.int)) v0 x0, imm (TR.sl TR.int) v96 y91]) (fun (p : Nat × (List Int)) => p.1 + p.2.length = (y91).length ∧ List.drop p.1 y91 = p.2 ∧ rangeL groves_Check_b2 p.2 p.1 () = some y124) (fun (p : Nat × (List Int)) => p.2.length) (0, y91) ⟨by simp, by simp, h126⟩ (fun a w st => St.cut [0, 1] ⟨rfl, rfl, rfl, rfl, rfl, rfl, rfl, trivial⟩ (by decide) rfl st) ?_
              rintro ⟨i131, r132⟩ ⟨h137, h138, h136⟩
              try dsimp only at h137 h138 h136
              refine GL.weak (env' := [(0, v0), (10, v0), (11, .int .i64 ((x0).length : Int)), (12, .int .i64 (i81 : Int)), (26, v96), (27, .int .i64 ((y91).length : Int)), (28, .int .i64 (i131 : Int))]) (L' := [imm (TR.sl (TR.sl TR.int)) v0 x0, imm (TR.sl TR.int) v96 y91]) (fun _ _ st => st) ?_
              refine GL.seq ?_
              refine GL.region ?_
              refine RL.binI (v := .bool (decide ((i131 : Int) < ((y91).length : Int)))) rfl rfl rfl rfl rfl ?_
              refine RL.finG ?_
              refine GL.seq ?_
              refine GL.cond rfl (fun b139 => ?_) (fun b139 => ?_)
              · have h140 : i131 < (y91).length := by have := of_decide_eq_true b139; omega
                obtain ⟨y141, r143, hr, e142, h144⟩ := drop_cons h138 rfl h140
                subst hr
                obtain ⟨z133, h134, h135⟩ := rangeL_some h136
                unfold groves_Check_b2 at h134
                try dsimp only at h134
                refine GL.skip ?_
                refine GL.seq ?_
                refine GL.block ?_
                refine GL.seq ?_
                refine GL.region ?_
                refine RL.idxS (sz := 1) 1 Try.underlying34 Try_ln3 rfl rfl rfl rfl rfl SlOf.imm (by omega) (by omega) ?_
                refine RL.ldSx (i := i131) (e' := y141) 1 Ex.ik Try_ln3 rfl rfl rfl rfl SlOf.imm e142 Part.self ?_
                refine RL.asg rfl rfl rfl ?_
                refine RL.finG ?_
                refine GL.seq ?_
                obtain ⟨y148, K149, h150, h151, h152, h153, h154⟩ := bindF_K h134
                refine GL.join (ι := Bool) (fun (p : Bool) => [(0, v0), (10, v0), (11, .int .i64 ((x0).length : Int)), (12, .int .i64 (i81 : Int)), (26, v96), (27, .int .i64 ((y91).length : Int)), (28, .int .i64 (i131 : Int)), (37, .bool p)]) (fun (p : Bool) => [imm (TR.sl (TR.sl TR.int)) v0 x0, imm (TR.sl TR.int) v96 y91]) (fun (p : Bool) => K149 (.nx p)) ?_ ?_
                · skip
                  refine GL.region ?_
                  refine RL.mv rfl rfl rfl ?_
                  refine RL.binI (v := .bool (decide (y141 < (0 : Int)))) rfl rfl rfl rfl rfl ?_
                  refine RL.mv rfl rfl rfl ?_
                  refine RL.split (t := 34) rfl (fun b155 => ?_) (fun b155 => ?_)
                  · replace h150 := ite_t b155 h150
                    refine RL.skip rfl rfl ?_
                    refine RL.skip rfl rfl ?_
                    refine RL.pickT rfl rfl rfl rfl ?_
                    refine RL.fin ?_
                    cases h150
                    exact fun a w st => mid_intro true h151 (St.cut [0, 1] ⟨rfl, rfl, rfl, rfl, rfl, rfl, rfl, rfl, trivial⟩ (by decide) rfl st)
                  · replace h150 := ite_f b155 h150
                    refine RL.mv rfl rfl rfl ?_
                    refine RL.binI (v := .bool (decide (y141 > (1000000 : Int)))) rfl rfl rfl rfl rfl ?_
                    refine RL.pickF rfl rfl rfl rfl ?_
                    refine RL.fin ?_
                    cases h150
                    exact fun a w st => mid_intro (decide (y141 > (1000000 : Int))) h151 (St.cut [0, 1] ⟨rfl, rfl, rfl, rfl, rfl, rfl, rfl, rfl, trivial⟩ (by decide) rfl st)
                · rintro x147 h156
                  have h157 := h152 _ h156
                  try dsimp only at h157
                  refine GL.weak (env' := [(0, v0), (10, v0), (11, .int .i64 ((x0).length : Int)), (12, .int .i64 (i81 : Int)), (26, v96), (27, .int .i64 ((y91).length : Int)), (28, .int .i64 (i131 : Int)), (37, .bool x147)]) (L' := [imm (TR.sl (TR.sl TR.int)) v0 x0, imm (TR.sl TR.int) v96 y91]) (fun _ _ st => st) ?_
                  refine GL.cond rfl (fun b158 => ?_) (fun b158 => ?_)
                  · replace h157 := ite_t b158 h157
                    refine GL.seq ?_
                    refine GL.region ?_
                    refine RL.asg rfl rfl rfl ?_
                    refine RL.finG ?_
                    cases h157
                    replace h135 : some (Fl.rt _) = some y124 := h135
                    cases h135
                    have hh := h129 _ h127
                    subst hh
                    replace h85 : some (Fl.rt _) = some y74 := h85
                    cases h85
                    have hh := h79 _ h77
                    subst hh
                    exact GL.ret (Gx.ret (v := .int .i64 (1 : Int)) (res1 rfl rfl) (fun a w st => st.toPostC rfl))
                  · replace h157 := ite_f b158 h157
                    refine GL.skip ?_
                    refine GL.nilB ?_
                    refine GL.region ?_
                    refine RL.binI (v := .int .i64 ((i131 + 1 : Nat) : Int)) rfl rfl rfl rfl (binI_succ i131 (by omega)) ?_
                    refine RL.mv rfl rfl rfl ?_
                    refine RL.fin ?_
                    cases h157
                    exact fun a w st => lop_intro (i131 + 1, r143) ⟨by show i131 + 1 + r143.length = (y91).length; simp only [List.length_cons] at h137; omega, h144, h135⟩ (by simp) (St.cut [0, 1] ⟨rfl, rfl, rfl, rfl, rfl, rfl, rfl, trivial⟩ (by decide) rfl st)
              · have h140 : ¬ i131 < (y91).length := by have := of_decide_eq_false b139; omega
                obtain rfl : r132 = [] := by rw [← h138]; exact List.drop_of_length_le (by omega)
                replace h136 : some (Fl.nx _) = some y124 := h136
                cases h136
                exact GL.exit (fun a w st => mid_intro () h127 (St.cut [0] ⟨rfl, rfl, rfl, rfl, trivial⟩ (by decide) rfl st))
            · rintro ⟨⟩ h159
              have h160 := h128 _ h159
              try dsimp only at h160
              refine GL.weak (env' := [(0, v0), (10, v0), (11, .int .i64 ((x0).length : Int)), (12, .int .i64 (i81 : Int))]) (L' := [imm (TR.sl (TR.sl TR.int)) v0 x0]) (fun _ _ st => st) ?_
              refine GL.nilB ?_
              refine GL.region ?_
              refine RL.binI (v := .int .i64 ((i81 + 1 : Nat) : Int)) rfl rfl rfl rfl (binI_succ i81 (by omega)) ?_
              refine RL.mv rfl rfl rfl ?_
              refine RL.fin ?_
              cases h160
              exact fun a w st => lop_intro (i81 + 1, r93) ⟨by show i81 + 1 + r93.length = (x0).length; simp only [List.length_cons] at h87; omega, h94, h85⟩ (by simp) (St.cut [0] ⟨rfl, rfl, rfl, rfl, trivial⟩ (by decide) rfl st)
      · have h90 : ¬ i81 < (x0).length := by have := of_decide_eq_false b89; omega
        obtain rfl : r82 = [] := by rw [← h88]; exact List.drop_of_length_le (by omega)
        replace h86 : some (Fl.nx _) = some y74 := h86
        cases h86
        exact GL.exit (fun a w st => mid_intro () h77 (St.cut [] trivial (by decide) rfl st))
    · rintro ⟨⟩ h161
      have h162 := h78 _ h161
      try dsimp only at h162
      refine GL.weak (env' := []) (L' := []) (fun _ _ st => st) ?_
      refine GL.seq ?_
      refine GL.region ?_
      refine RL.asg rfl rfl rfl ?_
      refine RL.finG ?_
      have h162 := Option.some.inj h162
      subst h162
      exact GL.ret (Gx.ret (v := .int .i64 (0 : Int)) (res1 rfl rfl) (fun a w st => st.toPostC rfl))

set_option maxHeartbeats 4000000 in
def groves_best_C (M : (List (List Int)) → Int → Int → Int → Option ((List Int) × Int)) : Prop := ∀ (S : Hp) (w : World) (hS : S.sub w) (v0 : Value) (x0 : (List (List Int))) (k0 : ((TR.sl (TR.sl TR.int))).vrep S v0 x0) (x1 : Int) (x2 : Int) (x3 : Int) (res : (List Int) × Int) (hm : M x0 x1 x2 x3 = some res), Calls Try.prog 48 #[v0, .int .i64 x1, .int .i64 x2, .int .i64 x3] w (Post w S (fun (o : Value) => .tuple #[o, .int .i64 res.2]) (fun (o : Value) => [own 3 TR.int o res.1]))
theorem groves_best_cr (rcm : (List (List Int)) → Int → Int → Int → Option ((List Int) × Int)) (rcm_c : groves_best_C rcm) : groves_best_C (groves_best_r rcm) := by
  intro S w hS v0 x0 k0 x1 x2 x3 res hm
  refine calls_enter 76 Try.func48 Try.ntmps48 rfl S false [(0, v0), (1, .int .i64 x1), (2, .int .i64 x2), (3, .int .i64 x3)] [imm (TR.sl (TR.sl TR.int)) v0 x0] rfl ⟨rfl, ⟨rfl, ⟨rfl, ⟨rfl, trivial⟩⟩⟩⟩ hS ⟨k0, trivial⟩ ?_
  unfold groves_best_r at hm
  refine GL.seq ?_
  refine GL.region ?_
  refine RL.asg rfl rfl rfl ?_
  refine RL.asg rfl rfl rfl ?_
  refine RL.finG ?_
  refine GL.seq ?_
  refine GL.seq ?_
  refine GL.region ?_
  refine RL.mv rfl rfl rfl ?_
  refine RL.mv rfl rfl rfl ?_
  refine RL.lenS 0 Try.underlying42 rfl rfl rfl rfl SlOf.imm ?_
  refine RL.binI (v := .bool (x1 == ((x0).length : Int))) rfl rfl rfl rfl rfl ?_
  refine RL.finG ?_
  refine GL.cond rfl (fun b5 => ?_) (fun b5 => ?_)
  · replace hm := ite_t b5 hm
    refine GL.seq ?_
    refine GL.region ?_
    refine RL.asg rfl rfl rfl ?_
    refine RL.asg rfl rfl rfl ?_
    refine RL.finG ?_
    refine GL.weak (fun a w st => st.nilOwn 3 TR.int) ?_
    have hm := Option.some.inj hm
    subst hm
    exact GL.ret (Gx.ret (v := .tuple #[Value.slice none 0 0, .int .i64 (0 : Int)]) (res2 rfl rfl rfl) (fun a w st => (st.pick [1] (by decide) rfl).toPost (Value.slice none 0 0)))
  · replace hm := ite_f b5 hm
    refine GL.skip ?_
    refine GL.seq ?_
    refine GL.region ?_
    refine RL.mv rfl rfl rfl ?_
    refine RL.mv rfl rfl rfl ?_
    refine RL.binI (v := .int .i64 (wadd x1 (1 : Int))) rfl rfl rfl rfl rfl ?_
    refine RL.mv rfl rfl rfl ?_
    refine RL.mv rfl rfl rfl ?_
    obtain ⟨y9, e10, hm⟩ := bind_some hm
    refine RL.call (vs := [v0, .int .i64 (wadd x1 (1 : Int)), .int .i64 x2, .int .i64 x3]) Try_fit48 rfl rfl rfl rfl rfl (fun S f w hS hW hi => rcm_c S w hS _ _ (hi 0 _ rfl) (wadd x1 (1 : Int)) x2 x3 _ e10) ?_
    intro v11
    refine RL.mv rfl rfl rfl ?_
    refine RL.ext rfl rfl rfl rfl ?_
    refine RL.ext rfl rfl rfl rfl ?_
    refine RL.asg rfl rfl rfl ?_
    refine RL.asg rfl rfl rfl ?_
    refine RL.finG ?_
    refine GL.seq ?_
    refine GL.region ?_
    refine RL.asg rfl rfl rfl ?_
    refine RL.finG ?_
    refine GL.seq ?_
    refine GL.seq ?_
    refine GL.region ?_
    refine RL.mv rfl rfl rfl ?_
    refine RL.mv rfl rfl rfl ?_
    refine RL.binI (v := .bool (x1 != x3)) rfl rfl rfl rfl rfl ?_
    refine RL.finG ?_
    obtain ⟨y87, K88, h89, h90, h91, h92, h93⟩ := bindR_K hm
    refine GL.join (ι := (List Int) × Int × Int × Value) (fun (p : (List Int) × Int × Int × Value) => [(10, p.2.2.2), (11, .int .i64 p.2.1), (12, .int .i64 p.2.2.1)]) (fun (p : (List Int) × Int × Int × Value) => [own 3 TR.int p.2.2.2 p.1]) (fun (p : (List Int) × Int × Int × Value) => K88 (.nx (p.1, p.2.1, p.2.2.1))) ?_ ?_
    · skip
      refine GL.cond rfl (fun b94 => ?_) (fun b94 => ?_)
      · replace h89 := ite_t b94 h89
        refine GL.seq ?_
        refine GL.region ?_
        refine RL.mv rfl rfl rfl ?_
        refine RL.mv rfl rfl rfl ?_
        obtain ⟨y98, e99, h89⟩ := bind_some h89
        refine RL.idxS (sz := 1) 0 Try.underlying42 Try_ln34 rfl rfl rfl rfl rfl SlOf.imm (idx_some e99).1 (idx_some e99).2.1 ?_
        refine RL.ldS (i := (x1).toNat) (r := (TR.sl TR.int)) (e' := y98) 0 Try_ln34 rfl rfl rfl rfl SlOf.imm (idx_some e99).2.2 Part.self ?_
        intro v100
        refine RL.reL (L' := [imm (TR.sl (TR.sl TR.int)) v0 x0, own 3 TR.int v11 y9.1, imm (TR.sl TR.int) v100 y98]) rfl ?_
        refine RL.lenS 2 Try.underlying34 rfl rfl rfl rfl SlOf.imm ?_
        refine RL.mv rfl rfl rfl ?_
        refine RL.finG ?_
        refine GL.open_ 2 rfl (fun S h => len_imm S h) (fun n125 => ?_)
        obtain ⟨y126, K127, h128, h129, h130, h131, h132⟩ := bindF_K h89
        refine GL.join (ι := (List Int) × Int × Int × Value) (fun (p : (List Int) × Int × Int × Value) => [(10, p.2.2.2), (11, .int .i64 p.2.1), (12, .int .i64 p.2.2.1)]) (fun (p : (List Int) × Int × Int × Value) => [own 3 TR.int p.2.2.2 p.1]) (fun (p : (List Int) × Int × Int × Value) => K127 (.nx (p.1, p.2.1, p.2.2.1))) ?_ ?_
        · refine GL.block ?_
          refine GL.loop (ι := Nat × (List Int) × (List Int) × Int × Int × Value) (fun (p : Nat × (List Int) × (List Int) × Int × Int × Value) => [(0, v0), (1, .int .i64 x1), (2, .int .i64 x2), (3, .int .i64 x3), (10, p.2.2.2.2.2), (11, .int .i64 p.2.2.2.1), (12, .int .i64 p.2.2.2.2.1), (36, v100), (37, .int .i64 ((y98).length : Int)), (38, .int .i64 (p.1 : Int))]) (fun (p : Nat × (List Int) × (List Int) × Int × Int × Value) => [imm (TR.sl (TR.sl TR.int)) v0 x0, own 3 TR.int p.2.2.2.2.2 p.2.2.1, imm (TR.sl TR.int) v100 y98]) (fun (p : Nat × (List Int) × (List Int) × Int × Int × Value) => p.1 + p.2.1.length = (y98).length ∧ List.drop p.1 y98 = p.2.1 ∧ rangeL (groves_best_b1 x2 rcm x0 x1 x3) p.2.1 p.1 (p.2.2.1, p.2.2.2.1, p.2.2.2.2.1) = some y126) (fun (p : Nat × (List Int) × (List Int) × Int × Int × Value) => p.2.1.length) (0, y98, y9.1, y9.2, (-1 : Int), v11) ⟨by simp, by simp, h128⟩ (fun a w st => St.cut [0, 1, 2] ⟨rfl, rfl, rfl, rfl, rfl, rfl, rfl, rfl, rfl, rfl, trivial⟩ (by decide) rfl st) ?_
          rintro ⟨i133, r134, l101, x103, x104, v102⟩ ⟨h139, h140, h138⟩
          try dsimp only at h139 h140 h138
          refine GL.weak (env' := [(0, v0), (1, .int .i64 x1), (2, .int .i64 x2), (3, .int .i64 x3), (10, v102), (11, .int .i64 x103), (12, .int .i64 x104), (36, v100), (37, .int .i64 ((y98).length : Int)), (38, .int .i64 (i133 : Int))]) (L' := [imm (TR.sl (TR.sl TR.int)) v0 x0, own 3 TR.int v102 l101, imm (TR.sl TR.int) v100 y98]) (fun _ _ st => st) ?_
          refine GL.seq ?_
          refine GL.region ?_
          refine RL.binI (v := .bool (decide ((i133 : Int) < ((y98).length : Int)))) rfl rfl rfl rfl rfl ?_
          refine RL.finG ?_
          refine GL.seq ?_
          refine GL.cond rfl (fun b141 => ?_) (fun b141 => ?_)
          · have h142 : i133 < (y98).length := by have := of_decide_eq_true b141; omega
            obtain ⟨y143, r145, hr, e144, h146⟩ := drop_cons h140 rfl h142
            subst hr
            obtain ⟨z135, h136, h137⟩ := rangeL_some h138
            unfold groves_best_b1 at h136
            try dsimp only at h136
            refine GL.skip ?_
            refine GL.seq ?_
            refine GL.block ?_
            refine GL.seq ?_
            refine GL.region ?_
            refine RL.mv rfl rfl rfl ?_
            refine RL.idxS (sz := 1) 2 Try.underlying34 Try_ln3 rfl rfl rfl rfl rfl SlOf.imm (by omega) (by omega) ?_
            refine RL.ldSx (i := i133) (e' := y143) 2 Ex.ik Try_ln3 rfl rfl rfl rfl SlOf.imm e144 Part.self ?_
            refine RL.asg rfl rfl rfl ?_
            refine RL.asg rfl rfl rfl ?_
            refine RL.finG ?_
            refine GL.seq ?_
            refine GL.region ?_
            refine RL.mv rfl rfl rfl ?_
            refine RL.mv rfl rfl rfl ?_
            obtain ⟨y149, e150, h136⟩ := bind_some h136
            replace e150 := chk_some e150
            refine RL.sh (by simp) rfl rfl rfl rfl e150 ?_
            refine RL.binI (v := .int .i64 (bits .and .i64 (Int.fdiv x2 (2 ^ (min (i133 : Int).toNat (IntKind.bits .i64)))) (1 : Int))) rfl rfl rfl rfl rfl ?_
            refine RL.binI (v := .bool ((bits .and .i64 (Int.fdiv x2 (2 ^ (min (i133 : Int).toNat (IntKind.bits .i64)))) (1 : Int)) == (0 : Int))) rfl rfl rfl rfl rfl ?_
            refine RL.finG ?_
            refine GL.cond rfl (fun b151 => ?_) (fun b151 => ?_)
            · replace h136 := ite_t b151 h136
              refine GL.seq ?_
              refine GL.region ?_
              refine RL.mv rfl rfl rfl ?_
              refine RL.mv rfl rfl rfl ?_
              refine RL.binI (v := .int .i64 (wadd x1 (1 : Int))) rfl rfl rfl rfl rfl ?_
              refine RL.mv rfl rfl rfl ?_
              refine RL.mv rfl rfl rfl ?_
              obtain ⟨y157, e158, h136⟩ := bind_some h136
              replace e158 := chk_some e158
              refine RL.sh (by simp) rfl rfl rfl rfl e158 ?_
              refine RL.binI (v := .int .i64 (bits .or .i64 x2 (IntKind.wrap .i64 ((1 : Int) * 2 ^ (min (i133 : Int).toNat (IntKind.bits .i64)))))) rfl rfl rfl rfl rfl ?_
              refine RL.mv rfl rfl rfl ?_
              obtain ⟨y159, e160, h136⟩ := bind_some h136
              refine RL.call (vs := [v0, .int .i64 (wadd x1 (1 : Int)), .int .i64 (bits .or .i64 x2 (IntKind.wrap .i64 ((1 : Int) * 2 ^ (min (i133 : Int).toNat (IntKind.bits .i64))))), .int .i64 x3]) Try_fit48 rfl rfl rfl rfl rfl (fun S f w hS hW hi => rcm_c S w hS _ _ (hi 0 _ rfl) (wadd x1 (1 : Int)) (bits .or .i64 x2 (IntKind.wrap .i64 ((1 : Int) * 2 ^ (min (i133 : Int).toNat (IntKind.bits .i64))))) x3 _ e160) ?_
              intro v161
              refine RL.mv rfl rfl rfl ?_
              refine RL.ext rfl rfl rfl rfl ?_
              refine RL.ext rfl rfl rfl rfl ?_
              refine RL.asg rfl rfl rfl ?_
              refine RL.asg rfl rfl rfl ?_
              refine RL.finG ?_
              refine GL.seq ?_
              refine GL.region ?_
              refine RL.mv rfl rfl rfl ?_
              refine RL.mv rfl rfl rfl ?_
              refine RL.binI (v := .int .i64 (wadd y143 y159.2)) rfl rfl rfl rfl rfl ?_
              refine RL.mv rfl rfl rfl ?_
              refine RL.binI (v := .bool (decide ((wadd y143 y159.2) > x103))) rfl rfl rfl rfl rfl ?_
              refine RL.finG ?_
              refine GL.cond rfl (fun b162 => ?_) (fun b162 => ?_)
              · replace h136 := ite_t b162 h136
                refine GL.region ?_
                refine RL.mv rfl rfl rfl ?_
                refine RL.mv rfl rfl rfl ?_
                refine RL.mv rfl rfl rfl ?_
                refine RL.binI (v := .int .i64 (wadd y143 y159.2)) rfl rfl rfl rfl rfl ?_
                refine RL.mv rfl rfl rfl ?_
                refine RL.asg rfl rfl rfl ?_
                refine RL.asg rfl rfl rfl ?_
                refine RL.asg rfl rfl rfl ?_
                refine RL.finG ?_
                refine GL.nilB ?_
                refine GL.region ?_
                refine RL.binI (v := .int .i64 ((i133 + 1 : Nat) : Int)) rfl rfl rfl rfl (binI_succ i133 (by omega)) ?_
                refine RL.mv rfl rfl rfl ?_
                refine RL.fin ?_
                cases h136
                exact fun a w st => lop_intro (i133 + 1, r145, y159.1, wadd y143 y159.2, (i133 : Int), v161) ⟨by show i133 + 1 + r145.length = (y98).length; simp only [List.length_cons] at h139; omega, h146, h137⟩ (by simp) (St.cut [0, 3, 2] ⟨rfl, rfl, rfl, rfl, rfl, rfl, rfl, rfl, rfl, rfl, trivial⟩ (by decide) rfl st)
              · replace h136 := ite_f b162 h136
                refine GL.skip ?_
                refine GL.nilB ?_
                refine GL.region ?_
                refine RL.binI (v := .int .i64 ((i133 + 1 : Nat) : Int)) rfl rfl rfl rfl (binI_succ i133 (by omega)) ?_
                refine RL.mv rfl rfl rfl ?_
                refine RL.fin ?_
                cases h136
                exact fun a w st => lop_intro (i133 + 1, r145, l101, x103, x104, v102) ⟨by show i133 + 1 + r145.length = (y98).length; simp only [List.length_cons] at h139; omega, h146, h137⟩ (by simp) (St.cut [0, 1, 2] ⟨rfl, rfl, rfl, rfl, rfl, rfl, rfl, rfl, rfl, rfl, trivial⟩ (by decide) rfl st)
            · replace h136 := ite_f b151 h136
              refine GL.skip ?_
              refine GL.nilB ?_
              refine GL.region ?_
              refine RL.binI (v := .int .i64 ((i133 + 1 : Nat) : Int)) rfl rfl rfl rfl (binI_succ i133 (by omega)) ?_
              refine RL.mv rfl rfl rfl ?_
              refine RL.fin ?_
              cases h136
              exact fun a w st => lop_intro (i133 + 1, r145, l101, x103, x104, v102) ⟨by show i133 + 1 + r145.length = (y98).length; simp only [List.length_cons] at h139; omega, h146, h137⟩ (by simp) (St.cut [0, 1, 2] ⟨rfl, rfl, rfl, rfl, rfl, rfl, rfl, rfl, rfl, rfl, trivial⟩ (by decide) rfl st)
          · have h142 : ¬ i133 < (y98).length := by have := of_decide_eq_false b141; omega
            obtain rfl : r134 = [] := by rw [← h140]; exact List.drop_of_length_le (by omega)
            replace h138 : some (Fl.nx _) = some y126 := h138
            cases h138
            exact GL.exit (fun a w st => mid_intro (l101, x103, x104, v102) h129 (St.cut [1] ⟨rfl, rfl, rfl, trivial⟩ (by decide) rfl st))
        · rintro ⟨l101, x103, x104, v102⟩ h163
          have h164 := h130 _ h163
          try dsimp only at h164
          refine GL.weak (env' := [(10, v102), (11, .int .i64 x103), (12, .int .i64 x104)]) (L' := [own 3 TR.int v102 l101]) (fun _ _ st => st) ?_
          cases h164
          exact fun a w st => mid_intro (l101, x103, x104, v102) h90 (St.cut [0] ⟨rfl, rfl, rfl, trivial⟩ (by decide) rfl st)
      · replace h89 := ite_f b94 h89
        refine GL.skip ?_
        cases h89
        exact fun a w st => mid_intro (y9.1, y9.2, (-1 : Int), v11) h90 (St.cut [1] ⟨rfl, rfl, rfl, trivial⟩ (by decide) rfl st)
    · rintro ⟨l83, x85, x86, v84⟩ h165
      have h166 := h91 _ h165
      try dsimp only at h166
      refine GL.weak (env' := [(10, v84), (11, .int .i64 x85), (12, .int .i64 x86)]) (L' := [own 3 TR.int v84 l83]) (fun _ _ st => st) ?_
      refine GL.seq ?_
      refine GL.region ?_
      refine RL.mv rfl rfl rfl ?_
      refine RL.bS (t := TR.int) (vs := [.int .i64 x86]) ([x86] : (List Int)) Try.underlying34 Try_lo3 rfl rfl rfl rfl ⟨VR.int, trivial⟩ rfl (by decide) ?_
      intro v171
      refine RL.mv rfl rfl rfl ?_
      obtain ⟨y172, e173, h166⟩ := bind_some h166
      replace e173 := chk_some e173
      refine RL.app 1 0 Try.underlying34 Try_lo3 rfl rfl rfl rfl rfl rfl rfl SlOf.own e173 ?_
      intro v174
      refine RL.reL (L' := [own 3 TR.int v84 l83, own 3 TR.int v174 (([x86] : (List Int)) ++ l83)]) rfl ?_
      refine RL.mv rfl rfl rfl ?_
      refine RL.asg rfl rfl rfl ?_
      refine RL.asg rfl rfl rfl ?_
      refine RL.finG ?_
      have h166 := Option.some.inj h166
      subst h166
      exact GL.ret (Gx.ret (v := .tuple #[v174, .int .i64 x85]) (res2 rfl rfl rfl) (fun a w st => (st.pick [1] (by decide) rfl).toPost v174))
theorem groves_best_cf : ∀ n, groves_best_C (groves_best_f n)
  | 0 => fun S w hS v0 x0 k0 x1 x2 x3 res hm => by cases hm
  | n + 1 => groves_best_cr (groves_best_f n) (groves_best_cf n)
theorem groves_best_c (S : Hp) (w : World) (hS : S.sub w) (v0 : Value) (x0 : (List (List Int))) (k0 : ((TR.sl (TR.sl TR.int))).vrep S v0 x0) (x1 : Int) (x2 : Int) (x3 : Int) (res : (List Int) × Int) (hm : groves_best_m x0 x1 x2 x3 = some res) : Calls Try.prog 48 #[v0, .int .i64 x1, .int .i64 x2, .int .i64 x3] w (Post w S (fun (o : Value) => .tuple #[o, .int .i64 res.2]) (fun (o : Value) => [own 3 TR.int o res.1])) := groves_best_cf 64 S w hS v0 x0 k0 x1 x2 x3 res hm

set_option maxHeartbeats 4000000 in
theorem groves_Share_c (S : Hp) (w : World) (hS : S.sub w) (v0 : Value) (x0 : (List (List Int))) (k0 : ((TR.sl (TR.sl TR.int))).vrep S v0 x0) (res : (List Int) × Int × Int) (hm : groves_Share_m x0 = some res) : Calls Try.prog 24 #[v0] w (Post w S (fun (o : Value) => .tuple #[o, .int .i64 res.2.1, .int .i64 res.2.2]) (fun (o : Value) => [own 3 TR.int o res.1])) := by
  refine calls_enter 20 Try.func24 Try.ntmps24 rfl S false [(0, v0)] [imm (TR.sl (TR.sl TR.int)) v0 x0] rfl ⟨rfl, trivial⟩ hS ⟨k0, trivial⟩ ?_
  unfold groves_Share_m at hm
  refine GL.seq ?_
  refine GL.region ?_
  refine RL.asg rfl rfl rfl ?_
  refine RL.asg rfl rfl rfl ?_
  refine RL.asg rfl rfl rfl ?_
  refine RL.finG ?_
  refine GL.seq ?_
  refine GL.seq ?_
  refine GL.region ?_
  refine RL.mv rfl rfl rfl ?_
  obtain ⟨y4, e5, hm⟩ := bind_some hm
  refine RL.callC (v := .int .i64 y4) (vs := [v0]) Try_fit47 rfl rfl rfl rfl (fun U w hU hW hL => groves_Check_c U w hU _ _ (hL 0 _ _ rfl Seen.imm) _ e5) ?_
  refine RL.asg rfl rfl rfl ?_
  refine RL.finG ?_
  refine GL.seq ?_
  refine GL.region ?_
  refine RL.mv rfl rfl rfl ?_
  refine RL.binI (v := .bool (y4 != (0 : Int))) rfl rfl rfl rfl rfl ?_
  refine RL.finG ?_
  refine GL.cond rfl (fun b6 => ?_) (fun b6 => ?_)
  · replace hm := ite_t b6 hm
    refine GL.seq ?_
    refine GL.region ?_
    refine RL.mv rfl rfl rfl ?_
    refine RL.asg rfl rfl rfl ?_
    refine RL.asg rfl rfl rfl ?_
    refine RL.asg rfl rfl rfl ?_
    refine RL.finG ?_
    refine GL.weak (fun a w st => st.nilOwn 3 TR.int) ?_
    have hm := Option.some.inj hm
    subst hm
    exact GL.ret (Gx.ret (v := .tuple #[Value.slice none 0 0, .int .i64 (0 : Int), .int .i64 y4]) (res3 rfl rfl rfl rfl) (fun a w st => (st.pick [1] (by decide) rfl).toPost (Value.slice none 0 0)))
  · replace hm := ite_f b6 hm
    refine GL.skip ?_
    refine GL.seq ?_
    refine GL.region ?_
    refine RL.mv rfl rfl rfl ?_
    obtain ⟨y10, e11, hm⟩ := bind_some hm
    refine RL.call (vs := [v0, .int .i64 (0 : Int), .int .i64 (0 : Int), .int .i64 (-1 : Int)]) Try_fit48 rfl rfl rfl rfl rfl (fun S f w hS hW hi => groves_best_c S w hS _ _ (hi 0 _ rfl) (0 : Int) (0 : Int) (-1 : Int) _ e11) ?_
    intro v12
    refine RL.mv rfl rfl rfl ?_
    refine RL.ext rfl rfl rfl rfl ?_
    refine RL.ext rfl rfl rfl rfl ?_
    refine RL.asg rfl rfl rfl ?_
    refine RL.asg rfl rfl rfl ?_
    refine RL.finG ?_
    refine GL.seq ?_
    refine GL.region ?_
    refine RL.mv rfl rfl rfl ?_
    refine RL.mv rfl rfl rfl ?_
    refine RL.asg rfl rfl rfl ?_
    refine RL.asg rfl rfl rfl ?_
    refine RL.asg rfl rfl rfl ?_
    refine RL.finG ?_
    have hm := Option.some.inj hm
    subst hm
    exact GL.ret (Gx.ret (v := .tuple #[v12, .int .i64 y10.2, .int .i64 (0 : Int)]) (res3 rfl rfl rfl rfl) (fun a w st => (st.pick [1] (by decide) rfl).toPost v12))

set_option maxHeartbeats 4000000 in
theorem groves_Pays_c (S : Hp) (w : World) (hS : S.sub w) (v0 : Value) (x0 : (List (List Int))) (k0 : ((TR.sl (TR.sl TR.int))).vrep S v0 x0) (res : (List Int) × Int) (hm : groves_Pays_m x0 = some res) : Calls Try.prog 25 #[v0] w (Post w S (fun (o : Value) => .tuple #[o, .int .i64 res.2]) (fun (o : Value) => [own 3 TR.int o res.1])) := by
  refine calls_enter 57 Try.func25 Try.ntmps25 rfl S false [(0, v0)] [imm (TR.sl (TR.sl TR.int)) v0 x0] rfl ⟨rfl, trivial⟩ hS ⟨k0, trivial⟩ ?_
  unfold groves_Pays_m at hm
  refine GL.seq ?_
  refine GL.region ?_
  refine RL.asg rfl rfl rfl ?_
  refine RL.asg rfl rfl rfl ?_
  refine RL.finG ?_
  refine GL.seq ?_
  refine GL.region ?_
  refine RL.mv rfl rfl rfl ?_
  obtain ⟨y5, e6, hm⟩ := bind_some hm
  refine RL.call (vs := [v0]) Try_fit24 rfl rfl rfl rfl rfl (fun S f w hS hW hi => groves_Share_c S w hS _ _ (hi 0 _ rfl) _ e6) ?_
  intro v7
  refine RL.mv rfl rfl rfl ?_
  refine RL.ext rfl rfl rfl rfl ?_
  refine RL.ext rfl rfl rfl rfl ?_
  refine RL.ext rfl rfl rfl rfl ?_
  refine RL.asg rfl rfl rfl ?_
  refine RL.asg rfl rfl rfl ?_
  refine RL.asg rfl rfl rfl ?_
  refine RL.finG ?_
  refine GL.seq ?_
  refine GL.seq ?_
  refine GL.region ?_
  refine RL.mv rfl rfl rfl ?_
  refine RL.binI (v := .bool (y5.2.2 != (0 : Int))) rfl rfl rfl rfl rfl ?_
  refine RL.finG ?_
  refine GL.cond rfl (fun b8 => ?_) (fun b8 => ?_)
  · replace hm := ite_t b8 hm
    refine GL.seq ?_
    refine GL.region ?_
    refine RL.mv rfl rfl rfl ?_
    refine RL.asg rfl rfl rfl ?_
    refine RL.asg rfl rfl rfl ?_
    refine RL.finG ?_
    refine GL.weak (fun a w st => st.nilOwn 3 TR.int) ?_
    have hm := Option.some.inj hm
    subst hm
    exact GL.ret (Gx.ret (v := .tuple #[Value.slice none 0 0, .int .i64 y5.2.2]) (res2 rfl rfl rfl) (fun a w st => (st.pick [2] (by decide) rfl).toPost (Value.slice none 0 0)))
  · replace hm := ite_f b8 hm
    refine GL.skip ?_
    refine GL.seq ?_
    refine GL.region ?_
    refine RL.mv rfl rfl rfl ?_
    refine RL.lenS 1 Try.underlying34 rfl rfl rfl rfl SlOf.own ?_
    obtain ⟨y12, e13, hm⟩ := bind_some hm
    replace e13 := chk_some e13
    refine RL.mkS (t := TR.int) (z := (0 : Int)) Try.underlying34 Try_lo3 (fun S => rfl) rfl rfl rfl rfl e13.1 e13.2 ?_
    intro v14
    refine RL.reL (L' := [imm (TR.sl (TR.sl TR.int)) v0 x0, own 3 TR.int v7 y5.1, own 3 TR.int v14 (List.replicate (((y5.1).length : Int)).toNat (0 : Int))]) rfl ?_
    refine RL.asg rfl rfl rfl ?_
    refine RL.finG ?_
    refine GL.seq ?_
    refine GL.seq ?_
    refine GL.region ?_
    refine RL.mv rfl rfl rfl ?_
    refine RL.lenS 1 Try.underlying34 rfl rfl rfl rfl SlOf.own ?_
    refine RL.mv rfl rfl rfl ?_
    refine RL.finG ?_
    refine GL.lenOwn 1 rfl (fun n108 => ?_)
    obtain ⟨y109, K110, h111, h112, h113, h114, h115⟩ := bindR_K hm
    refine GL.join (ι := (List Int)) (fun (p : (List Int)) => [(7, v14)]) (fun (p : (List Int)) => [own 3 TR.int v14 p]) (fun (p : (List Int)) => K110 (.nx p)) ?_ ?_
    · refine GL.block ?_
      refine GL.loop (ι := Nat × Nat × (List Int)) (fun (p : Nat × Nat × (List Int)) => [(0, v0), (5, .int .i64 y5.2.1), (7, v14), (25, v7), (26, .int .i64 ((y5.1).length : Int)), (27, .int .i64 (p.1 : Int))]) (fun (p : Nat × Nat × (List Int)) => [imm (TR.sl (TR.sl TR.int)) v0 x0, own 3 TR.int v14 p.2.2, own 3 TR.int v7 y5.1]) (fun (p : Nat × Nat × (List Int)) => p.1 + p.2.1 = (y5.1).length ∧ rangeN (groves_Pays_b1 y5 x0) p.2.1 p.1 p.2.2 = some y109) (fun (p : Nat × Nat × (List Int)) => p.2.1) (0, (y5.1).length, (List.replicate (((y5.1).length : Int)).toNat (0 : Int))) ⟨by simp, h111⟩ (fun a w st => St.cut [0, 2, 1] ⟨rfl, rfl, rfl, rfl, rfl, rfl, trivial⟩ (by decide) rfl st) ?_
      rintro ⟨i116, r117, l61⟩ ⟨h122, h121⟩
      try dsimp only at h122 h121
      refine GL.weak (env' := [(0, v0), (5, .int .i64 y5.2.1), (7, v14), (25, v7), (26, .int .i64 ((y5.1).length : Int)), (27, .int .i64 (i116 : Int))]) (L' := [imm (TR.sl (TR.sl TR.int)) v0 x0, own 3 TR.int v14 l61, own 3 TR.int v7 y5.1]) (fun _ _ st => st) ?_
      refine GL.seq ?_
      refine GL.region ?_
      refine RL.binI (v := .bool (decide ((i116 : Int) < ((y5.1).length : Int)))) rfl rfl rfl rfl rfl ?_
      refine RL.finG ?_
      refine GL.seq ?_
      refine GL.cond rfl (fun b124 => ?_) (fun b124 => ?_)
      · have h125 : i116 < (y5.1).length := by have := of_decide_eq_true b124; omega
        obtain ⟨r126, hr⟩ : ∃ m, r117 = m + 1 := ⟨r117 - 1, by omega⟩
        subst hr
        obtain ⟨z118, h119, h120⟩ := rangeN_some h121
        unfold groves_Pays_b1 at h119
        try dsimp only at h119
        refine GL.skip ?_
        refine GL.seq ?_
        refine GL.block ?_
        refine GL.seq ?_
        refine GL.region ?_
        refine RL.mv rfl rfl rfl ?_
        obtain ⟨y129, e130, h119⟩ := bind_some h119
        refine RL.idxS (sz := 1) 2 Try.underlying34 Try_ln3 rfl rfl rfl rfl rfl SlOf.own (idx_some e130).1 (idx_some e130).2.1 ?_
        refine RL.ldSx (i := i116) (e' := y129) 2 Ex.ik Try_ln3 rfl rfl rfl rfl SlOf.own (idx_some e130).2.2 Part.self ?_
        refine RL.asg rfl rfl rfl ?_
        refine RL.asg rfl rfl rfl ?_
        refine RL.finG ?_
        refine GL.seq ?_
        refine GL.region ?_
        refine RL.mv rfl rfl rfl ?_
        refine RL.mv rfl rfl rfl ?_
        obtain ⟨y134, e135, h119⟩ := bind_some h119
        refine RL.call (vs := [v0, .int .i64 (0 : Int), .int .i64 (0 : Int), .int .i64 (i116 : Int)]) Try_fit48 rfl rfl rfl rfl rfl (fun S f w hS hW hi => groves_best_c S w hS _ _ (hi 0 _ rfl) (0 : Int) (0 : Int) (i116 : Int) _ e135) ?_
        intro v136
        refine RL.mv rfl rfl rfl ?_
        refine RL.ext rfl rfl rfl rfl ?_
        refine RL.ext rfl rfl rfl rfl ?_
        refine RL.asg rfl rfl rfl ?_
        refine RL.asg rfl rfl rfl ?_
        refine RL.finG ?_
        refine GL.seq ?_
        refine GL.region ?_
        refine RL.asg rfl rfl rfl ?_
        refine RL.finG ?_
        refine GL.seq ?_
        refine GL.seq ?_
        refine GL.region ?_
        refine RL.mv rfl rfl rfl ?_
        refine RL.binI (v := .bool (decide (y129 ≥ (0 : Int)))) rfl rfl rfl rfl rfl ?_
        refine RL.finG ?_
        obtain ⟨y149, K150, h151, h152, h153, h154, h155⟩ := bindF_K h119
        refine GL.join (ι := Int) (fun (p : Int) => [(0, v0), (5, .int .i64 y5.2.1), (7, v14), (8, .int .i64 (i116 : Int)), (11, .int .i64 y134.2), (12, .int .i64 p), (25, v7), (26, .int .i64 ((y5.1).length : Int)), (27, .int .i64 (i116 : Int))]) (fun (p : Int) => [imm (TR.sl (TR.sl TR.int)) v0 x0, own 3 TR.int v14 l61, own 3 TR.int v7 y5.1]) (fun (p : Int) => K150 (.nx p)) ?_ ?_
        · skip
          refine GL.cond rfl (fun b156 => ?_) (fun b156 => ?_)
          · replace h151 := ite_t b156 h151
            refine GL.region ?_
            refine RL.mv rfl rfl rfl ?_
            refine RL.mv rfl rfl rfl ?_
            obtain ⟨y162, e163, h151⟩ := bind_some h151
            refine RL.idxS (sz := 1) 0 Try.underlying42 Try_ln34 rfl rfl rfl rfl rfl SlOf.imm (idx_some e163).1 (idx_some e163).2.1 ?_
            refine RL.ldS (i := i116) (r := (TR.sl TR.int)) (e' := y162) 0 Try_ln34 rfl rfl rfl rfl SlOf.imm (idx_some e163).2.2 Part.self ?_
            intro v164
            refine RL.reL (L' := [imm (TR.sl (TR.sl TR.int)) v0 x0, own 3 TR.int v14 l61, own 3 TR.int v7 y5.1, own 3 TR.int v136 y134.1, imm (TR.sl TR.int) v164 y162]) rfl ?_
            refine RL.mv rfl rfl rfl ?_
            obtain ⟨y165, e166, h151⟩ := bind_some h151
            refine RL.idxS (sz := 1) 4 Try.underlying34 Try_ln3 rfl rfl rfl rfl rfl SlOf.imm (idx_some e166).1 (idx_some e166).2.1 ?_
            refine RL.ldSx (i := (y129).toNat) (e' := y165) 4 Ex.ik Try_ln3 rfl rfl rfl rfl SlOf.imm (idx_some e166).2.2 Part.self ?_
            refine RL.asg rfl rfl rfl ?_
            refine RL.finG ?_
            cases h151
            exact fun a w st => mid_intro y165 h152 (St.cut [0, 1, 2] ⟨rfl, rfl, rfl, rfl, rfl, rfl, rfl, rfl, rfl, trivial⟩ (by decide) rfl st)
          · replace h151 := ite_f b156 h151
            refine GL.skip ?_
            cases h151
            exact fun a w st => mid_intro (0 : Int) h152 (St.cut [0, 1, 2] ⟨rfl, rfl, rfl, rfl, rfl, rfl, rfl, rfl, rfl, trivial⟩ (by decide) rfl st)
        · rintro x148 h167
          have h168 := h153 _ h167
          try dsimp only at h168
          refine GL.weak (env' := [(0, v0), (5, .int .i64 y5.2.1), (7, v14), (8, .int .i64 (i116 : Int)), (11, .int .i64 y134.2), (12, .int .i64 x148), (25, v7), (26, .int .i64 ((y5.1).length : Int)), (27, .int .i64 (i116 : Int))]) (L' := [imm (TR.sl (TR.sl TR.int)) v0 x0, own 3 TR.int v14 l61, own 3 TR.int v7 y5.1]) (fun _ _ st => st) ?_
          refine GL.region ?_
          refine RL.mv rfl rfl rfl ?_
          refine RL.mv rfl rfl rfl ?_
          refine RL.mv rfl rfl rfl ?_
          refine RL.mv rfl rfl rfl ?_
          refine RL.mv rfl rfl rfl ?_
          refine RL.binI (v := .int .i64 (wsub y5.2.1 x148)) rfl rfl rfl rfl rfl ?_
          refine RL.binI (v := .int .i64 (wsub y134.2 (wsub y5.2.1 x148))) rfl rfl rfl rfl rfl ?_
          obtain ⟨y171, e172, h168⟩ := bind_some h168
          refine RL.idxS (sz := 1) 1 Try.underlying34 Try_ln3 rfl rfl rfl rfl rfl SlOf.own (idx_some e172).1 (idx_some e172).2.1 ?_
          refine RL.stS (i := i116) (e' := wsub y134.2 (wsub y5.2.1 x148)) (e1 := wsub y134.2 (wsub y5.2.1 x148)) (r := TR.int) 1 Try_ln3 rfl rfl rfl rfl VR.int rfl (idx_some e172).2.2 Upd.self ?_
          refine RL.finG ?_
          refine GL.nilB ?_
          refine GL.region ?_
          refine RL.binI (v := .int .i64 ((i116 + 1 : Nat) : Int)) rfl rfl rfl rfl (binI_succ i116 (by omega)) ?_
          refine RL.mv rfl rfl rfl ?_
          refine RL.fin ?_
          cases h168
          exact fun a w st => lop_intro (i116 + 1, r126, (List.set l61 i116 (wsub y134.2 (wsub y5.2.1 x148)))) ⟨by show i116 + 1 + r126 = (y5.1).length; omega, h120⟩ (by simp) (St.cut [0, 1, 2] ⟨rfl, rfl, rfl, rfl, rfl, rfl, trivial⟩ (by decide) rfl st)
      · have h125 : ¬ i116 < (y5.1).length := by have := of_decide_eq_false b124; omega
        obtain rfl : r117 = 0 := by omega
        replace h121 : some (Fl.nx _) = some y109 := h121
        cases h121
        exact GL.exit (fun a w st => mid_intro l61 h112 (St.cut [1] ⟨rfl, trivial⟩ (by decide) rfl st))
    · rintro l61 h173
      have h174 := h113 _ h173
      try dsimp only at h174
      refine GL.weak (env' := [(7, v14)]) (L' := [own 3 TR.int v14 l61]) (fun _ _ st => st) ?_
      refine GL.seq ?_
      refine GL.region ?_
      refine RL.mv rfl rfl rfl ?_
      refine RL.asg rfl rfl rfl ?_
      refine RL.asg rfl rfl rfl ?_
      refine RL.finG ?_
      have h174 := Option.some.inj h174
      subst h174
      exact GL.ret (Gx.ret (v := .tuple #[v14, .int .i64 (0 : Int)]) (res2 rfl rfl rfl) (fun a w st => (st.pick [0] (by decide) rfl).toPost v14))

set_option maxHeartbeats 4000000 in
theorem slices_IndexFunc_api_Errno_api_Errno_c (S : Hp) (w : World) (hS : S.sub w) (v0 : Value) (x0 : (List Int)) (k0 : ((TR.sl TR.int)).vrep S v0 x0) (f1 : FuncId) (c1 : Array Value) (t1 : Fit Try.prog f1) (g1 : Int → Option Bool) (k1 : ∀ (U : Hp) (w' : World), Hp.le S U → U.sub w' → ∀ (a0 : Int) (rr : Bool), g1 a0 = some rr → Calls Try.prog f1 (#[.int .i64 a0] ++ c1) w' (PostV w' (.bool rr))) (res : Int) (hm : slices_IndexFunc_api_Errno_api_Errno_m x0 g1 = some res) : Calls Try.prog 55 #[v0, .func (.func f1) #[] c1] w (PostV w (.int .i64 res)) := by
  refine calls_enter 19 Try.func55 Try.ntmps55 rfl S false [(0, v0), (1, .func (.func f1) #[] c1)] [imm (TR.sl TR.int) v0 x0] rfl ⟨rfl, ⟨rfl, trivial⟩⟩ hS ⟨k0, trivial⟩ ?_
  unfold slices_IndexFunc_api_Errno_api_Errno_m at hm
  refine GL.seq ?_
  refine GL.region ?_
  refine RL.asg rfl rfl rfl ?_
  refine RL.finG ?_
  refine GL.seq ?_
  refine GL.seq ?_
  refine GL.region ?_
  refine RL.mv rfl rfl rfl ?_
  refine RL.lenS 0 Try.underlying80 rfl rfl rfl rfl SlOf.imm ?_
  refine RL.mv rfl rfl rfl ?_
  refine RL.finG ?_
  refine GL.open_ 0 rfl (fun S h => len_imm S h) (fun n12 => ?_)
  obtain ⟨y13, K14, h15, h16, h17, h18, h19⟩ := bindR_K hm
  refine GL.join (ι := Unit) (fun (p : Unit) => []) (fun (p : Unit) => []) (fun (p : Unit) => K14 (.nx ())) ?_ ?_
  · refine GL.block ?_
    refine GL.loop (ι := Nat × (List Int)) (fun (p : Nat × (List Int)) => [(0, v0), (1, .func (.func f1) #[] c1), (7, .int .i64 ((x0).length : Int)), (8, .int .i64 (p.1 : Int))]) (fun (p : Nat × (List Int)) => [imm (TR.sl TR.int) v0 x0]) (fun (p : Nat × (List Int)) => p.1 + p.2.length = (x0).length ∧ List.drop p.1 x0 = p.2 ∧ rangeL (slices_IndexFunc_api_Errno_api_Errno_b1 g1) p.2 p.1 () = some y13) (fun (p : Nat × (List Int)) => p.2.length) (0, x0) ⟨by simp, by simp, h15⟩ (fun a w st => St.cut [0] ⟨rfl, rfl, rfl, rfl, trivial⟩ (by decide) rfl st) ?_
    rintro ⟨i20, r21⟩ ⟨h26, h27, h25⟩
    try dsimp only at h26 h27 h25
    refine GL.weak (env' := [(0, v0), (1, .func (.func f1) #[] c1), (7, .int .i64 ((x0).length : Int)), (8, .int .i64 (i20 : Int))]) (L' := [imm (TR.sl TR.int) v0 x0]) (fun _ _ st => st) ?_
    refine GL.seq ?_
    refine GL.region ?_
    refine RL.binI (v := .bool (decide ((i20 : Int) < ((x0).length : Int)))) rfl rfl rfl rfl rfl ?_
    refine RL.finG ?_
    refine GL.seq ?_
    refine GL.cond rfl (fun b28 => ?_) (fun b28 => ?_)
    · have h29 : i20 < (x0).length := by have := of_decide_eq_true b28; omega
      obtain ⟨y30, r32, hr, e31, h33⟩ := drop_cons h27 rfl h29
      subst hr
      obtain ⟨z22, h23, h24⟩ := rangeL_some h25
      unfold slices_IndexFunc_api_Errno_api_Errno_b1 at h23
      try dsimp only at h23
      refine GL.skip ?_
      refine GL.seq ?_
      refine GL.block ?_
      refine GL.seq ?_
      refine GL.region ?_
      refine RL.mv rfl rfl rfl ?_
      refine RL.asg rfl rfl rfl ?_
      refine RL.finG ?_
      refine GL.seq ?_
      refine GL.region ?_
      refine RL.mv rfl rfl rfl ?_
      refine RL.mv rfl rfl rfl ?_
      refine RL.mv rfl rfl rfl ?_
      refine RL.idxS (sz := 1) 0 Try.underlying80 Try_ln24 rfl rfl rfl rfl rfl SlOf.imm (by omega) (by omega) ?_
      refine RL.ldSx (i := i20) (e' := y30) 0 Ex.ik Try_ln24 rfl rfl rfl rfl SlOf.imm e31 Part.self ?_
      obtain ⟨y36, e37, h23⟩ := bind_some h23
      refine RL.callV (v := .bool y36) (vs := [.int .i64 y30]) t1 rfl (Or.inl rfl) rfl rfl rfl rfl (fun U w hU hW hL => k1 U w hW hU y30 _ e37) ?_
      refine RL.finG ?_
      refine GL.cond rfl (fun b38 => ?_) (fun b38 => ?_)
      · replace h23 := ite_t b38 h23
        refine GL.seq ?_
        refine GL.region ?_
        refine RL.mv rfl rfl rfl ?_
        refine RL.asg rfl rfl rfl ?_
        refine RL.finG ?_
        cases h23
        replace h24 : some (Fl.rt _) = some y13 := h24
        cases h24
        have hh := h18 _ h16
        subst hh
        exact GL.ret (Gx.ret (v := .int .i64 (i20 : Int)) (res1 rfl rfl) (fun a w st => st.toPostV))
      · replace h23 := ite_f b38 h23
        refine GL.skip ?_
        refine GL.nilB ?_
        refine GL.region ?_
        refine RL.binI (v := .int .i64 ((i20 + 1 : Nat) : Int)) rfl rfl rfl rfl (binI_succ i20 (by omega)) ?_
        refine RL.mv rfl rfl rfl ?_
        refine RL.fin ?_
        cases h23
        exact fun a w st => lop_intro (i20 + 1, r32) ⟨by show i20 + 1 + r32.length = (x0).length; simp only [List.length_cons] at h26; omega, h33, h24⟩ (by simp) (St.cut [0] ⟨rfl, rfl, rfl, rfl, trivial⟩ (by decide) rfl st)
    · have h29 : ¬ i20 < (x0).length := by have := of_decide_eq_false b28; omega
      obtain rfl : r21 = [] := by rw [← h27]; exact List.drop_of_length_le (by omega)
      replace h25 : some (Fl.nx _) = some y13 := h25
      cases h25
      exact GL.exit (fun a w st => mid_intro () h16 (St.cut [] trivial (by decide) rfl st))
  · rintro ⟨⟩ h39
    have h40 := h17 _ h39
    try dsimp only at h40
    refine GL.weak (env' := []) (L' := []) (fun _ _ st => st) ?_
    refine GL.seq ?_
    refine GL.region ?_
    refine RL.asg rfl rfl rfl ?_
    refine RL.finG ?_
    have h40 := Option.some.inj h40
    subst h40
    exact GL.ret (Gx.ret (v := .int .i64 (-1 : Int)) (res1 rfl rfl) (fun a w st => st.toPostV))

set_option maxHeartbeats 4000000 in
theorem slices_ContainsFunc_api_Errno_api_Errno_c (S : Hp) (w : World) (hS : S.sub w) (v0 : Value) (x0 : (List Int)) (k0 : ((TR.sl TR.int)).vrep S v0 x0) (f1 : FuncId) (c1 : Array Value) (t1 : Fit Try.prog f1) (g1 : Int → Option Bool) (k1 : ∀ (U : Hp) (w' : World), Hp.le S U → U.sub w' → ∀ (a0 : Int) (rr : Bool), g1 a0 = some rr → Calls Try.prog f1 (#[.int .i64 a0] ++ c1) w' (PostV w' (.bool rr))) (res : Bool) (hm : slices_ContainsFunc_api_Errno_api_Errno_m x0 g1 = some res) : Calls Try.prog 49 #[v0, .func (.func f1) #[] c1] w (PostV w (.bool res)) := by
  refine calls_enter 9 Try.func49 Try.ntmps49 rfl S false [(0, v0), (1, .func (.func f1) #[] c1)] [imm (TR.sl TR.int) v0 x0] rfl ⟨rfl, ⟨rfl, trivial⟩⟩ hS ⟨k0, trivial⟩ ?_
  unfold slices_ContainsFunc_api_Errno_api_Errno_m at hm
  refine GL.seq ?_
  refine GL.region ?_
  refine RL.asg rfl rfl rfl ?_
  refine RL.finG ?_
  refine GL.seq ?_
  refine GL.region ?_
  refine RL.mv rfl rfl rfl ?_
  refine RL.mv rfl rfl rfl ?_
  obtain ⟨y5, e6, hm⟩ := bind_some hm
  refine RL.callV (v := .int .i64 y5) (vs := [v0, .func (.func f1) #[] c1]) Try_fit55 rfl (Or.inl rfl) rfl rfl rfl rfl (fun U w hU hW hL => slices_IndexFunc_api_Errno_api_Errno_c U w hU _ _ (hL 0 _ _ rfl Seen.imm) f1 c1 t1 g1 (fun U' w' hle => k1 U' w' (Hp.le_trans hW hle)) _ e6) ?_
  refine RL.binI (v := .bool (decide (y5 ≥ (0 : Int)))) rfl rfl rfl rfl rfl ?_
  refine RL.asg rfl rfl rfl ?_
  refine RL.finG ?_
  have hm := Option.some.inj hm
  subst hm
  exact GL.ret (Gx.ret (v := .bool (decide (y5 ≥ (0 : Int)))) (res1 rfl rfl) (fun a w st => st.toPostV))

set_option maxHeartbeats 4000000 in
theorem pk_good_1_c (S : Hp) (w : World) (hS : S.sub w) (x0 : Int) (res : Bool) (hm : pk_good_1_m x0 = some res) : Calls Try.prog 50 #[.int .i64 x0] w (PostC w (.bool res)) := by
  refine calls_enter 5 Try.func50 Try.ntmps50 rfl S true [(0, .int .i64 x0)] [] rfl ⟨rfl, trivial⟩ hS trivial ?_
  unfold pk_good_1_m at hm
  refine GL.seq ?_
  refine GL.region ?_
  refine RL.asg rfl rfl rfl ?_
  refine RL.finG ?_
  refine GL.seq ?_
  refine GL.region ?_
  refine RL.mv rfl rfl rfl ?_
  refine RL.binI (v := .bool (x0 != (0 : Int))) rfl rfl rfl rfl rfl ?_
  refine RL.asg rfl rfl rfl ?_
  refine RL.finG ?_
  have hm := Option.some.inj hm
  subst hm
  exact GL.ret (Gx.ret (v := .bool (x0 != (0 : Int))) (res1 rfl rfl) (fun a w st => st.toPostC rfl))

set_option maxHeartbeats 4000000 in
theorem pk_good_c (S : Hp) (w : World) (hS : S.sub w) (v0 : Value) (x0 : (List Int)) (k0 : ((TR.sl TR.int)).vrep S v0 x0) (res : Bool) (hm : pk_good_m x0 = some res) : Calls Try.prog 26 #[v0] w (PostV w (.bool res)) := by
  refine calls_enter 6 Try.func26 Try.ntmps26 rfl S false [(0, v0)] [imm (TR.sl TR.int) v0 x0] rfl ⟨rfl, trivial⟩ hS ⟨k0, trivial⟩ ?_
  unfold pk_good_m at hm
  refine GL.seq ?_
  refine GL.region ?_
  refine RL.asg rfl rfl rfl ?_
  refine RL.finG ?_
  refine GL.seq ?_
  refine GL.region ?_
  refine RL.mv rfl rfl rfl ?_
  obtain ⟨y4, e5, hm⟩ := bind_some hm
  refine RL.callV (v := .bool y4) (vs := [v0, .func (.func 50) #[] #[]]) Try_fit49 rfl (Or.inl rfl) rfl rfl rfl rfl (fun U w hU hW hL => slices_ContainsFunc_api_Errno_api_Errno_c U w hU _ _ (hL 0 _ _ rfl Seen.imm) 50 #[] Try_fit50 (fun a0 => pk_good_1_m a0) (fun U' w' hle hU' a0 rr hr => (pk_good_1_c U' w' hU' a0 rr hr).mono (fun _ _ z => z.toV)) _ e5) ?_
  refine RL.notB rfl rfl rfl ?_
  refine RL.asg rfl rfl rfl ?_
  refine RL.finG ?_
  have hm := Option.some.inj hm
  subst hm
  exact GL.ret (Gx.ret (v := .bool (!y4)) (res1 rfl rfl) (fun a w st => st.toPostV))

set_option maxHeartbeats 4000000 in
theorem slices_Equal_int_int_c (S : Hp) (w : World) (hS : S.sub w) (v0 : Value) (x0 : (List Int)) (k0 : ((TR.sl TR.int)).vrep S v0 x0) (v1 : Value) (x1 : (List Int)) (k1 : ((TR.sl TR.int)).vrep S v1 x1) (res : Bool) (hm : slices_Equal_int_int_m x0 x1 = some res) : Calls Try.prog 46 #[v0, v1] w (PostV w (.bool res)) := by
  refine calls_enter 26 Try.func46 Try.ntmps46 rfl S false [(0, v0), (1, v1)] [imm (TR.sl TR.int) v0 x0, imm (TR.sl TR.int) v1 x1] rfl ⟨rfl, ⟨rfl, trivial⟩⟩ hS ⟨k0, ⟨k1, trivial⟩⟩ ?_
  unfold slices_Equal_int_int_m at hm
  refine GL.seq ?_
  refine GL.region ?_
  refine RL.asg rfl rfl rfl ?_
  refine RL.finG ?_
  refine GL.seq ?_
  refine GL.seq ?_
  refine GL.region ?_
  refine RL.mv rfl rfl rfl ?_
  refine RL.lenS 0 Try.underlying34 rfl rfl rfl rfl SlOf.imm ?_
  refine RL.mv rfl rfl rfl ?_
  refine RL.lenS 1 Try.underlying34 rfl rfl rfl rfl SlOf.imm ?_
  refine RL.binI (v := .bool (((x0).length : Int) != ((x1).length : Int))) rfl rfl rfl rfl rfl ?_
  refine RL.finG ?_
  refine GL.cond rfl (fun b3 => ?_) (fun b3 => ?_)
  · replace hm := ite_t b3 hm
    refine GL.seq ?_
    refine GL.region ?_
    refine RL.asg rfl rfl rfl ?_
    refine RL.finG ?_
    have hm := Option.some.inj hm
    subst hm
    exact GL.ret (Gx.ret (v := .bool false) (res1 rfl rfl) (fun a w st => st.toPostV))
  · replace hm := ite_f b3 hm
    refine GL.skip ?_
    refine GL.seq ?_
    refine GL.seq ?_
    refine GL.region ?_
    refine RL.mv rfl rfl rfl ?_
    refine RL.lenS 0 Try.underlying34 rfl rfl rfl rfl SlOf.imm ?_
    refine RL.mv rfl rfl rfl ?_
    refine RL.finG ?_
    refine GL.open_ 0 rfl (fun S h => len_imm S h) (fun n13 => ?_)
    obtain ⟨y14, K15, h16, h17, h18, h19, h20⟩ := bindR_K hm
    refine GL.join (ι := Unit) (fun (p : Unit) => []) (fun (p : Unit) => []) (fun (p : Unit) => K15 (.nx ())) ?_ ?_
    · refine GL.block ?_
      refine GL.loop (ι := Nat × (List Int)) (fun (p : Nat × (List Int)) => [(0, v0), (1, v1), (12, .int .i64 ((x0).length : Int)), (13, .int .i64 (p.1 : Int))]) (fun (p : Nat × (List Int)) => [imm (TR.sl TR.int) v0 x0, imm (TR.sl TR.int) v1 x1]) (fun (p : Nat × (List Int)) => p.1 + p.2.length = (x0).length ∧ List.drop p.1 x0 = p.2 ∧ rangeL (slices_Equal_int_int_b1 x1) p.2 p.1 () = some y14) (fun (p : Nat × (List Int)) => p.2.length) (0, x0) ⟨by simp, by simp, h16⟩ (fun a w st => St.cut [0, 1] ⟨rfl, rfl, rfl, rfl, trivial⟩ (by decide) rfl st) ?_
      rintro ⟨i21, r22⟩ ⟨h27, h28, h26⟩
      try dsimp only at h27 h28 h26
      refine GL.weak (env' := [(0, v0), (1, v1), (12, .int .i64 ((x0).length : Int)), (13, .int .i64 (i21 : Int))]) (L' := [imm (TR.sl TR.int) v0 x0, imm (TR.sl TR.int) v1 x1]) (fun _ _ st => st) ?_
      refine GL.seq ?_
      refine GL.region ?_
      refine RL.binI (v := .bool (decide ((i21 : Int) < ((x0).length : Int)))) rfl rfl rfl rfl rfl ?_
      refine RL.finG ?_
      refine GL.seq ?_
      refine GL.cond rfl (fun b29 => ?_) (fun b29 => ?_)
      · have h30 : i21 < (x0).length := by have := of_decide_eq_true b29; omega
        obtain ⟨y31, r33, hr, e32, h34⟩ := drop_cons h28 rfl h30
        subst hr
        obtain ⟨z23, h24, h25⟩ := rangeL_some h26
        unfold slices_Equal_int_int_b1 at h24
        try dsimp only at h24
        refine GL.skip ?_
        refine GL.seq ?_
        refine GL.block ?_
        refine GL.seq ?_
        refine GL.region ?_
        refine RL.mv rfl rfl rfl ?_
        refine RL.asg rfl rfl rfl ?_
        refine RL.finG ?_
        refine GL.seq ?_
        refine GL.regionQ rfl rfl (by kernel_rfl) ?_
        refine RL.mv rfl rfl rfl ?_
        refine RL.mv rfl rfl rfl ?_
        refine RL.idxS (sz := 1) 0 Try.underlying34 Try_ln3 rfl rfl rfl rfl rfl SlOf.imm (by omega) (by omega) ?_
        refine RL.ldSx (i := i21) (e' := y31) 0 Ex.ik Try_ln3 rfl rfl rfl rfl SlOf.imm e32 Part.self ?_
        refine RL.mv rfl rfl rfl ?_
        refine RL.mv rfl rfl rfl ?_
        obtain ⟨y37, e38, h24⟩ := bind_some h24
        refine RL.idxS (sz := 1) 1 Try.underlying34 Try_ln3 rfl rfl rfl rfl rfl SlOf.imm (idx_some e38).1 (idx_some e38).2.1 ?_
        refine RL.ldSx (i := i21) (e' := y37) 1 Ex.ik Try_ln3 rfl rfl rfl rfl SlOf.imm (idx_some e38).2.2 Part.self ?_
        refine RL.binI (v := .bool (y31 != y37)) rfl rfl rfl rfl rfl ?_
        refine RL.finQG ?_
        refine GL.cond rfl (fun b39 => ?_) (fun b39 => ?_)
        · replace h24 := ite_t b39 h24
          refine GL.seq ?_
          refine GL.region ?_
          refine RL.asg rfl rfl rfl ?_
          refine RL.finG ?_
          cases h24
          replace h25 : some (Fl.rt _) = some y14 := h25
          cases h25
          have hh := h19 _ h17
          subst hh
          exact GL.ret (Gx.ret (v := .bool false) (res1 rfl rfl) (fun a w st => st.toPostV))
        · replace h24 := ite_f b39 h24
          refine GL.skip ?_
          refine GL.nilB ?_
          refine GL.region ?_
          refine RL.binI (v := .int .i64 ((i21 + 1 : Nat) : Int)) rfl rfl rfl rfl (binI_succ i21 (by omega)) ?_
          refine RL.mv rfl rfl rfl ?_
          refine RL.fin ?_
          cases h24
          exact fun a w st => lop_intro (i21 + 1, r33) ⟨by show i21 + 1 + r33.length = (x0).length; simp only [List.length_cons] at h27; omega, h34, h25⟩ (by simp) (St.cut [0, 1] ⟨rfl, rfl, rfl, rfl, trivial⟩ (by decide) rfl st)
      · have h30 : ¬ i21 < (x0).length := by have := of_decide_eq_false b29; omega
        obtain rfl : r22 = [] := by rw [← h28]; exact List.drop_of_length_le (by omega)
        replace h26 : some (Fl.nx _) = some y14 := h26
        cases h26
        exact GL.exit (fun a w st => mid_intro () h17 (St.cut [] trivial (by decide) rfl st))
    · rintro ⟨⟩ h40
      have h41 := h18 _ h40
      try dsimp only at h41
      refine GL.weak (env' := []) (L' := []) (fun _ _ st => st) ?_
      refine GL.seq ?_
      refine GL.region ?_
      refine RL.asg rfl rfl rfl ?_
      refine RL.finG ?_
      have h41 := Option.some.inj h41
      subst h41
      exact GL.ret (Gx.ret (v := .bool true) (res1 rfl rfl) (fun a w st => st.toPostV))

set_option maxHeartbeats 4000000 in
theorem pk_vickreys_c (S : Hp) (w : World) (hS : S.sub w)  (res : Bool) (hm : pk_vickreys_m = some res) : Calls Try.prog 22 #[] w (PostV w (.bool res)) := by
  refine calls_enter 39 Try.func22 Try.ntmps22 rfl S false [] [] rfl trivial hS trivial ?_
  unfold pk_vickreys_m at hm
  refine GL.seq ?_
  refine GL.region ?_
  refine RL.asg rfl rfl rfl ?_
  refine RL.finG ?_
  refine GL.seq ?_
  refine GL.region ?_
  refine RL.bS (t := TR.int) (vs := [.int .i64 (5 : Int), .int .i64 (4 : Int)]) ([(5 : Int), (4 : Int)] : (List Int)) Try.underlying34 Try_lo3 rfl rfl rfl rfl ⟨VR.int, ⟨VR.int, trivial⟩⟩ rfl (by decide) ?_
  intro v7
  refine RL.bS (t := TR.int) (vs := [.int .i64 (6 : Int), .int .i64 (1 : Int)]) ([(6 : Int), (1 : Int)] : (List Int)) Try.underlying34 Try_lo3 rfl rfl rfl rfl ⟨VR.int, ⟨VR.int, trivial⟩⟩ rfl (by decide) ?_
  intro v8
  refine RL.reL (L' := [own 3 TR.int v7 ([(5 : Int), (4 : Int)] : (List Int)), own 3 TR.int v8 ([(6 : Int), (1 : Int)] : (List Int))]) rfl ?_
  refine RL.weak (fun a w st => st.freeze 0 rfl) ?_
  refine RL.weak (fun a w st => st.freeze 1 rfl) ?_
  refine RL.bS (t := (TR.sl TR.int)) (vs := [v7, v8]) ([([(5 : Int), (4 : Int)] : (List Int)), ([(6 : Int), (1 : Int)] : (List Int))] : (List (List Int))) Try.underlying42 Try_lo34 rfl rfl rfl rfl ⟨(VR.item 0 rfl), ⟨(VR.item 1 rfl), trivial⟩⟩ rfl (by decide) ?_
  intro v9
  refine RL.reL (L' := [imm (TR.sl TR.int) v7 ([(5 : Int), (4 : Int)] : (List Int)), imm (TR.sl TR.int) v8 ([(6 : Int), (1 : Int)] : (List Int)), own 34 (TR.sl TR.int) v9 ([([(5 : Int), (4 : Int)] : (List Int)), ([(6 : Int), (1 : Int)] : (List Int))] : (List (List Int)))]) rfl ?_
  obtain ⟨y10, e11, hm⟩ := bind_some hm
  refine RL.callU (vs := [v9]) (LR := fun (o : Value) => [own 3 TR.int o y10.1]) (fun o => ⟨Loc.own TR.flatT_ik, trivial⟩) Try_fit24 rfl rfl rfl rfl rfl (fun U w hU hW hL => groves_Share_c U w hU _ _ (hL 2 _ _ rfl Seen.own) _ e11) ?_
  intro v12
  refine RL.mv rfl rfl rfl ?_
  refine RL.ext rfl rfl rfl rfl ?_
  refine RL.ext rfl rfl rfl rfl ?_
  refine RL.ext rfl rfl rfl rfl ?_
  refine RL.asg rfl rfl rfl ?_
  refine RL.asg rfl rfl rfl ?_
  refine RL.asg rfl rfl rfl ?_
  refine RL.finG ?_
  refine GL.seq ?_
  refine GL.region ?_
  refine RL.bS (t := TR.int) (vs := [.int .i64 (5 : Int), .int .i64 (4 : Int)]) ([(5 : Int), (4 : Int)] : (List Int)) Try.underlying34 Try_lo3 rfl rfl rfl rfl ⟨VR.int, ⟨VR.int, trivial⟩⟩ rfl (by decide) ?_
  intro v19
  refine RL.bS (t := TR.int) (vs := [.int .i64 (6 : Int), .int .i64 (1 : Int)]) ([(6 : Int), (1 : Int)] : (List Int)) Try.underlying34 Try_lo3 rfl rfl rfl rfl ⟨VR.int, ⟨VR.int, trivial⟩⟩ rfl (by decide) ?_
  intro v20
  refine RL.reL (L' := [imm (TR.sl TR.int) v7 ([(5 : Int), (4 : Int)] : (List Int)), imm (TR.sl TR.int) v8 ([(6 : Int), (1 : Int)] : (List Int)), own 34 (TR.sl TR.int) v9 ([([(5 : Int), (4 : Int)] : (List Int)), ([(6 : Int), (1 : Int)] : (List Int))] : (List (List Int))), own 3 TR.int v12 y10.1, own 3 TR.int v19 ([(5 : Int), (4 : Int)] : (List Int)), own 3 TR.int v20 ([(6 : Int), (1 : Int)] : (List Int))]) rfl ?_
  refine RL.weak (fun a w st => st.freeze 4 rfl) ?_
  refine RL.weak (fun a w st => st.freeze 5 rfl) ?_
  refine RL.bS (t := (TR.sl TR.int)) (vs := [v19, v20]) ([([(5 : Int), (4 : Int)] : (List Int)), ([(6 : Int), (1 : Int)] : (List Int))] : (List (List Int))) Try.underlying42 Try_lo34 rfl rfl rfl rfl ⟨(VR.item 4 rfl), ⟨(VR.item 5 rfl), trivial⟩⟩ rfl (by decide) ?_
  intro v21
  refine RL.reL (L' := [imm (TR.sl TR.int) v7 ([(5 : Int), (4 : Int)] : (List Int)), imm (TR.sl TR.int) v8 ([(6 : Int), (1 : Int)] : (List Int)), own 34 (TR.sl TR.int) v9 ([([(5 : Int), (4 : Int)] : (List Int)), ([(6 : Int), (1 : Int)] : (List Int))] : (List (List Int))), own 3 TR.int v12 y10.1, imm (TR.sl TR.int) v19 ([(5 : Int), (4 : Int)] : (List Int)), imm (TR.sl TR.int) v20 ([(6 : Int), (1 : Int)] : (List Int)), own 34 (TR.sl TR.int) v21 ([([(5 : Int), (4 : Int)] : (List Int)), ([(6 : Int), (1 : Int)] : (List Int))] : (List (List Int)))]) rfl ?_
  obtain ⟨y22, e23, hm⟩ := bind_some hm
  refine RL.callU (vs := [v21]) (LR := fun (o : Value) => [own 3 TR.int o y22.1]) (fun o => ⟨Loc.own TR.flatT_ik, trivial⟩) Try_fit25 rfl rfl rfl rfl rfl (fun U w hU hW hL => groves_Pays_c U w hU _ _ (hL 6 _ _ rfl Seen.own) _ e23) ?_
  intro v24
  refine RL.mv rfl rfl rfl ?_
  refine RL.ext rfl rfl rfl rfl ?_
  refine RL.ext rfl rfl rfl rfl ?_
  refine RL.asg rfl rfl rfl ?_
  refine RL.asg rfl rfl rfl ?_
  refine RL.finG ?_
  refine GL.seq ?_
  obtain ⟨y50, K51, h52, h53, h54, h55, h56⟩ := bindR_K hm
  refine GL.join (ι := Bool) (fun (p : Bool) => [(0, .bool p)]) (fun (p : Bool) => []) (fun (p : Bool) => K51 (.nx p)) ?_ ?_
  · skip
    refine GL.region ?_
    refine RL.mv rfl rfl rfl ?_
    refine RL.mv rfl rfl rfl ?_
    refine RL.bS (t := TR.int) (vs := [.int .i64 y10.2.2, .int .i64 y22.2]) ([y10.2.2, y22.2] : (List Int)) Try.underlying80 Try_lo24 rfl rfl rfl rfl ⟨VR.int, ⟨VR.int, trivial⟩⟩ rfl (by decide) ?_
    intro v57
    obtain ⟨y58, e59, h52⟩ := bind_some h52
    refine RL.callV (v := .bool y58) (vs := [v57]) Try_fit26 rfl (Or.inl rfl) rfl rfl rfl rfl (fun U w hU hW hL => pk_good_c U w hU _ _ (hL 8 _ _ rfl Seen.own) _ e59) ?_
    refine RL.mv rfl rfl rfl ?_
    refine RL.split (t := 25) rfl (fun b60 => ?_) (fun b60 => ?_)
    · replace h52 := ite_t b60 h52
      refine RL.mv rfl rfl rfl ?_
      refine RL.bS (t := TR.int) (vs := [.int .i64 (1 : Int), .int .i64 (0 : Int)]) ([(1 : Int), (0 : Int)] : (List Int)) Try.underlying34 Try_lo3 rfl rfl rfl rfl ⟨VR.int, ⟨VR.int, trivial⟩⟩ rfl (by decide) ?_
      intro v61
      refine RL.reL (L' := [imm (TR.sl TR.int) v7 ([(5 : Int), (4 : Int)] : (List Int)), imm (TR.sl TR.int) v8 ([(6 : Int), (1 : Int)] : (List Int)), own 34 (TR.sl TR.int) v9 ([([(5 : Int), (4 : Int)] : (List Int)), ([(6 : Int), (1 : Int)] : (List Int))] : (List (List Int))), own 3 TR.int v12 y10.1, imm (TR.sl TR.int) v19 ([(5 : Int), (4 : Int)] : (List Int)), imm (TR.sl TR.int) v20 ([(6 : Int), (1 : Int)] : (List Int)), own 34 (TR.sl TR.int) v21 ([([(5 : Int), (4 : Int)] : (List Int)), ([(6 : Int), (1 : Int)] : (List Int))] : (List (List Int))), own 3 TR.int v24 y22.1, own 24 TR.int v57 ([y10.2.2, y22.2] : (List Int)), own 3 TR.int v61 ([(1 : Int), (0 : Int)] : (List Int))]) rfl ?_
      obtain ⟨y62, e63, h52⟩ := bind_some h52
      refine RL.callV (v := .bool y62) (vs := [v12, v61]) Try_fit46 rfl (Or.inl rfl) rfl rfl rfl rfl (fun U w hU hW hL => slices_Equal_int_int_c U w hU _ _ (hL 3 _ _ rfl Seen.own) _ _ (hL 9 _ _ rfl Seen.own) _ e63) ?_
      refine RL.pickT rfl rfl rfl rfl ?_
      refine RL.mv rfl rfl rfl ?_
      refine RL.split (t := 30) rfl (fun b64 => ?_) (fun b64 => ?_)
      · replace h52 := ite_t b64 h52
        refine RL.mv rfl rfl rfl ?_
        refine RL.binI (v := .bool (y10.2.1 == (10 : Int))) rfl rfl rfl rfl rfl ?_
        refine RL.pickT rfl rfl rfl rfl ?_
        refine RL.mv rfl rfl rfl ?_
        refine RL.split (t := 34) rfl (fun b65 => ?_) (fun b65 => ?_)
        · replace h52 := ite_t b65 h52
          refine RL.mv rfl rfl rfl ?_
          refine RL.bS (t := TR.int) (vs := [.int .i64 (0 : Int), .int .i64 (1 : Int)]) ([(0 : Int), (1 : Int)] : (List Int)) Try.underlying34 Try_lo3 rfl rfl rfl rfl ⟨VR.int, ⟨VR.int, trivial⟩⟩ rfl (by decide) ?_
          intro v66
          obtain ⟨y67, e68, h52⟩ := bind_some h52
          refine RL.callV (v := .bool y67) (vs := [v24, v66]) Try_fit46 rfl (Or.inl rfl) rfl rfl rfl rfl (fun U w hU hW hL => slices_Equal_int_int_c U w hU _ _ (hL 7 _ _ rfl Seen.own) _ _ (hL 10 _ _ rfl Seen.own) _ e68) ?_
          refine RL.pickT rfl rfl rfl rfl ?_
          refine RL.asg rfl rfl rfl ?_
          refine RL.fin ?_
          cases h52
          exact fun a w st => mid_intro y67 h53 (St.cut [] ⟨rfl, trivial⟩ (by decide) rfl st)
        · replace h52 := ite_f b65 h52
          refine RL.skip rfl rfl ?_
          refine RL.skip rfl rfl ?_
          refine RL.skip rfl rfl ?_
          refine RL.pickF rfl rfl rfl rfl ?_
          refine RL.asg rfl rfl rfl ?_
          refine RL.fin ?_
          cases h52
          exact fun a w st => mid_intro false h53 (St.cut [] ⟨rfl, trivial⟩ (by decide) rfl st)
      · replace h52 := ite_f b64 h52
        refine RL.skip rfl rfl ?_
        refine RL.skip rfl rfl ?_
        refine RL.pickF rfl rfl rfl rfl ?_
        refine RL.mv rfl rfl rfl ?_
        refine RL.skip rfl rfl ?_
        refine RL.skip rfl rfl ?_
        refine RL.skip rfl rfl ?_
        refine RL.pickF rfl rfl rfl rfl ?_
        refine RL.asg rfl rfl rfl ?_
        refine RL.fin ?_
        cases h52
        exact fun a w st => mid_intro false h53 (St.cut [] ⟨rfl, trivial⟩ (by decide) rfl st)
    · replace h52 := ite_f b60 h52
      refine RL.skip rfl rfl ?_
      refine RL.skip rfl rfl ?_
      refine RL.skip rfl rfl ?_
      refine RL.pickF rfl rfl rfl rfl ?_
      refine RL.mv rfl rfl rfl ?_
      refine RL.skip rfl rfl ?_
      refine RL.skip rfl rfl ?_
      refine RL.pickF rfl rfl rfl rfl ?_
      refine RL.mv rfl rfl rfl ?_
      refine RL.skip rfl rfl ?_
      refine RL.skip rfl rfl ?_
      refine RL.skip rfl rfl ?_
      refine RL.pickF rfl rfl rfl rfl ?_
      refine RL.asg rfl rfl rfl ?_
      refine RL.fin ?_
      cases h52
      exact fun a w st => mid_intro false h53 (St.cut [] ⟨rfl, trivial⟩ (by decide) rfl st)
  · rintro x49 h69
    have h70 := h54 _ h69
    try dsimp only at h70
    refine GL.weak (env' := [(0, .bool x49)]) (L' := []) (fun _ _ st => st) ?_
    have h70 := Option.some.inj h70
    subst h70
    exact GL.ret (Gx.ret (v := .bool x49) (res1 rfl rfl) (fun a w st => st.toPostV))

set_option maxHeartbeats 4000000 in
theorem ref_Rest_c (S : Hp) (w : World) (hS : S.sub w) (x0 : Int) (x1 : Int) (res : Int) (hm : ref_Rest_m x0 x1 = some res) : Calls Try.prog 45 #[.int .i64 x0, .int .i64 x1] w (PostC w (.int .i64 res)) := by
  refine calls_enter 14 Try.func45 Try.ntmps45 rfl S true [(0, .int .i64 x0), (1, .int .i64 x1)] [] rfl ⟨rfl, ⟨rfl, trivial⟩⟩ hS trivial ?_
  unfold ref_Rest_m at hm
  refine GL.seq ?_
  refine GL.region ?_
  refine RL.asg rfl rfl rfl ?_
  refine RL.finG ?_
  refine GL.seq ?_
  refine GL.region ?_
  refine RL.mv rfl rfl rfl ?_
  refine RL.mv rfl rfl rfl ?_
  obtain ⟨y5, e6, hm⟩ := bind_some hm
  replace e6 := chk_some e6
  refine RL.rem rfl rfl rfl rfl e6 ?_
  refine RL.asg rfl rfl rfl ?_
  refine RL.finG ?_
  refine GL.seq ?_
  refine GL.seq ?_
  refine GL.region ?_
  refine RL.mv rfl rfl rfl ?_
  refine RL.binI (v := .bool (decide ((Int.tmod x0 x1) < (0 : Int)))) rfl rfl rfl rfl rfl ?_
  refine RL.finG ?_
  obtain ⟨y9, K10, h11, h12, h13, h14, h15⟩ := bindR_K hm
  refine GL.join (ι := Int) (fun (p : Int) => [(0, .int .i64 p)]) (fun (p : Int) => []) (fun (p : Int) => K10 (.nx p)) ?_ ?_
  · skip
    refine GL.cond rfl (fun b16 => ?_) (fun b16 => ?_)
    · replace h11 := ite_t b16 h11
      refine GL.region ?_
      refine RL.mv rfl rfl rfl ?_
      refine RL.mv rfl rfl rfl ?_
      refine RL.binI (v := .int .i64 (wadd (Int.tmod x0 x1) x1)) rfl rfl rfl rfl rfl ?_
      refine RL.asg rfl rfl rfl ?_
      refine RL.finG ?_
      cases h11
      exact fun a w st => mid_intro (wadd (Int.tmod x0 x1) x1) h12 (St.cut [] ⟨rfl, trivial⟩ (by decide) rfl st)
    · replace h11 := ite_f b16 h11
      refine GL.skip ?_
      cases h11
      exact fun a w st => mid_intro (Int.tmod x0 x1) h12 (St.cut [] ⟨rfl, trivial⟩ (by decide) rfl st)
  · rintro x8 h17
    have h18 := h13 _ h17
    try dsimp only at h18
    refine GL.weak (env' := [(0, .int .i64 x8)]) (L' := []) (fun _ _ st => st) ?_
    refine GL.seq ?_
    refine GL.region ?_
    refine RL.mv rfl rfl rfl ?_
    refine RL.asg rfl rfl rfl ?_
    refine RL.finG ?_
    have h18 := Option.some.inj h18
    subst h18
    exact GL.ret (Gx.ret (v := .int .i64 x8) (res1 rfl rfl) (fun a w st => st.toPostC rfl))

set_option maxHeartbeats 4000000 in
theorem pk_Within_c (S : Hp) (w : World) (hS : S.sub w) (x0 : Int) (x1 : Int) (res : Int) (hm : pk_Within_m x0 x1 = some res) : Calls Try.prog 18 #[.int .i64 x0, .int .i64 x1] w (PostC w (.int .i64 res)) := by
  refine calls_enter 8 Try.func18 Try.ntmps18 rfl S true [(0, .int .i64 x0), (1, .int .i64 x1)] [] rfl ⟨rfl, ⟨rfl, trivial⟩⟩ hS trivial ?_
  unfold pk_Within_m at hm
  refine GL.seq ?_
  refine GL.region ?_
  refine RL.asg rfl rfl rfl ?_
  refine RL.finG ?_
  refine GL.seq ?_
  refine GL.region ?_
  refine RL.mv rfl rfl rfl ?_
  refine RL.mv rfl rfl rfl ?_
  obtain ⟨y5, e6, hm⟩ := bind_some hm
  refine RL.callC (v := .int .i64 y5) (vs := [.int .i64 x0, .int .i64 x1]) Try_fit45 rfl rfl rfl rfl (fun U w hU hW hL => ref_Rest_c U w hU x0 x1 _ e6) ?_
  refine RL.asg rfl rfl rfl ?_
  refine RL.finG ?_
  have hm := Option.some.inj hm
  subst hm
  exact GL.ret (Gx.ret (v := .int .i64 y5) (res1 rfl rfl) (fun a w st => st.toPostC rfl))

set_option maxHeartbeats 4000000 in
theorem pk_GoodsOf_c (S : Hp) (w : World) (hS : S.sub w) (x0 : Int) (x1 : Int) (v2 : Value) (x2 : (List Int)) (k2 : ((TR.sl TR.int)).vrep S v2 x2) (res : (List (List Int))) (hm : pk_GoodsOf_m x0 x1 x2 = some res) : Calls Try.prog 23 #[.int .i64 x0, .int .i64 x1, v2] w (Post w S (fun (o : Value) => o) (fun (o : Value) => [own 34 (TR.sl TR.int) o res])) := by
  refine calls_enter 46 Try.func23 Try.ntmps23 rfl S false [(0, .int .i64 x0), (1, .int .i64 x1), (2, v2)] [imm (TR.sl TR.int) v2 x2] rfl ⟨rfl, ⟨rfl, ⟨rfl, trivial⟩⟩⟩ hS ⟨k2, trivial⟩ ?_
  unfold pk_GoodsOf_m at hm
  refine GL.seq ?_
  refine GL.region ?_
  refine RL.asg rfl rfl rfl ?_
  refine RL.finG ?_
  refine GL.seq ?_
  refine GL.region ?_
  refine RL.asg rfl rfl rfl ?_
  refine RL.finG ?_
  refine GL.seq ?_
  refine GL.seq ?_
  refine GL.region ?_
  refine RL.mv rfl rfl rfl ?_
  refine RL.mv rfl rfl rfl ?_
  refine RL.finG ?_
  refine GL.weak (fun a w st => st.nilOwn 34 (TR.sl TR.int)) ?_
  obtain ⟨y112, e113, hm⟩ := bind_some hm
  replace e113 := chk_some e113
  obtain ⟨y114, K115, h116, h117, h118, h119, h120⟩ := bindR_K hm
  refine GL.join (ι := (List (List Int)) × Value) (fun (p : (List (List Int)) × Value) => [(7, p.2)]) (fun (p : (List (List Int)) × Value) => [own 34 (TR.sl TR.int) p.2 p.1]) (fun (p : (List (List Int)) × Value) => K115 (.nx p.1)) ?_ ?_
  · refine GL.block ?_
    refine GL.loop (ι := Nat × Nat × (List (List Int)) × Value) (fun (p : Nat × Nat × (List (List Int)) × Value) => [(1, .int .i64 x1), (2, v2), (7, p.2.2.2), (13, .int .i64 x0), (14, .int .i64 (p.1 : Int))]) (fun (p : Nat × Nat × (List (List Int)) × Value) => [imm (TR.sl TR.int) v2 x2, own 34 (TR.sl TR.int) p.2.2.2 p.2.2.1]) (fun (p : Nat × Nat × (List (List Int)) × Value) => p.1 + p.2.1 = (x0).toNat ∧ rangeN (pk_GoodsOf_b1 x1 x2) p.2.1 p.1 p.2.2.1 = some y114) (fun (p : Nat × Nat × (List (List Int)) × Value) => p.2.1) (0, (x0).toNat, [], Value.slice none 0 0) ⟨by simp, h116⟩ (fun a w st => St.cut [0, 1] ⟨rfl, rfl, rfl, rfl, rfl, trivial⟩ (by decide) rfl st) ?_
    rintro ⟨i121, r122, l4, v5⟩ ⟨h127, h126⟩
    try dsimp only at h127 h126
    refine GL.weak (env' := [(1, .int .i64 x1), (2, v2), (7, v5), (13, .int .i64 x0), (14, .int .i64 (i121 : Int))]) (L' := [imm (TR.sl TR.int) v2 x2, own 34 (TR.sl TR.int) v5 l4]) (fun _ _ st => st) ?_
    refine GL.seq ?_
    refine GL.region ?_
    refine RL.binI (v := .bool (decide ((i121 : Int) < x0))) rfl rfl rfl rfl rfl ?_
    refine RL.finG ?_
    refine GL.seq ?_
    refine GL.cond rfl (fun b129 => ?_) (fun b129 => ?_)
    · have h130 : i121 < (x0).toNat := by have := of_decide_eq_true b129; omega
      obtain ⟨r131, hr⟩ : ∃ m, r122 = m + 1 := ⟨r122 - 1, by omega⟩
      subst hr
      obtain ⟨z123, h124, h125⟩ := rangeN_some h126
      unfold pk_GoodsOf_b1 at h124
      try dsimp only at h124
      refine GL.skip ?_
      refine GL.seq ?_
      refine GL.block ?_
      refine GL.seq ?_
      refine GL.region ?_
      refine RL.mv rfl rfl rfl ?_
      refine RL.asg rfl rfl rfl ?_
      refine RL.finG ?_
      refine GL.seq ?_
      refine GL.region ?_
      refine RL.asg rfl rfl rfl ?_
      refine RL.finG ?_
      refine GL.seq ?_
      refine GL.seq ?_
      refine GL.region ?_
      refine RL.mv rfl rfl rfl ?_
      refine RL.mv rfl rfl rfl ?_
      refine RL.finG ?_
      refine GL.weak (fun a w st => st.nilOwn 3 TR.int) ?_
      obtain ⟨y171, e172, h124⟩ := bind_some h124
      replace e172 := chk_some e172
      obtain ⟨y173, K174, h175, h176, h177, h178, h179⟩ := bindF_K h124
      refine GL.join (ι := (List Int) × Value) (fun (p : (List Int) × Value) => [(1, .int .i64 x1), (2, v2), (7, v5), (9, p.2), (13, .int .i64 x0), (14, .int .i64 (i121 : Int))]) (fun (p : (List Int) × Value) => [imm (TR.sl TR.int) v2 x2, own 34 (TR.sl TR.int) v5 l4, own 3 TR.int p.2 p.1]) (fun (p : (List Int) × Value) => K174 (.nx p.1)) ?_ ?_
      · refine GL.block ?_
        refine GL.loop (ι := Nat × Nat × (List Int) × Value) (fun (p : Nat × Nat × (List Int) × Value) => [(1, .int .i64 x1), (2, v2), (7, v5), (8, .int .i64 (i121 : Int)), (9, p.2.2.2), (13, .int .i64 x0), (14, .int .i64 (i121 : Int)), (17, .int .i64 x1), (18, .int .i64 (p.1 : Int))]) (fun (p : Nat × Nat × (List Int) × Value) => [imm (TR.sl TR.int) v2 x2, own 34 (TR.sl TR.int) v5 l4, own 3 TR.int p.2.2.2 p.2.2.1]) (fun (p : Nat × Nat × (List Int) × Value) => p.1 + p.2.1 = (x1).toNat ∧ rangeN (pk_GoodsOf_b2 i121 x1 x2) p.2.1 p.1 p.2.2.1 = some y173) (fun (p : Nat × Nat × (List Int) × Value) => p.2.1) (0, (x1).toNat, [], Value.slice none 0 0) ⟨by simp, h175⟩ (fun a w st => St.cut [0, 1, 2] ⟨rfl, rfl, rfl, rfl, rfl, rfl, rfl, rfl, rfl, trivial⟩ (by decide) rfl st) ?_
        rintro ⟨i180, r181, l132, v133⟩ ⟨h186, h185⟩
        try dsimp only at h186 h185
        refine GL.weak (env' := [(1, .int .i64 x1), (2, v2), (7, v5), (8, .int .i64 (i121 : Int)), (9, v133), (13, .int .i64 x0), (14, .int .i64 (i121 : Int)), (17, .int .i64 x1), (18, .int .i64 (i180 : Int))]) (L' := [imm (TR.sl TR.int) v2 x2, own 34 (TR.sl TR.int) v5 l4, own 3 TR.int v133 l132]) (fun _ _ st => st) ?_
        refine GL.seq ?_
        refine GL.region ?_
        refine RL.binI (v := .bool (decide ((i180 : Int) < x1))) rfl rfl rfl rfl rfl ?_
        refine RL.finG ?_
        refine GL.seq ?_
        refine GL.cond rfl (fun b188 => ?_) (fun b188 => ?_)
        · have h189 : i180 < (x1).toNat := by have := of_decide_eq_true b188; omega
          obtain ⟨r190, hr⟩ : ∃ m, r181 = m + 1 := ⟨r181 - 1, by omega⟩
          subst hr
          obtain ⟨z182, h183, h184⟩ := rangeN_some h185
          unfold pk_GoodsOf_b2 at h183
          try dsimp only at h183
          refine GL.skip ?_
          refine GL.seq ?_
          refine GL.block ?_
          refine GL.seq ?_
          refine GL.region ?_
          refine RL.mv rfl rfl rfl ?_
          refine RL.asg rfl rfl rfl ?_
          refine RL.finG ?_
          refine GL.seq ?_
          refine GL.region ?_
          refine RL.asg rfl rfl rfl ?_
          refine RL.finG ?_
          refine GL.seq ?_
          refine GL.seq ?_
          refine GL.region ?_
          refine RL.mv rfl rfl rfl ?_
          refine RL.mv rfl rfl rfl ?_
          refine RL.binI (v := .int .i64 (wmul (i121 : Int) x1)) rfl rfl rfl rfl rfl ?_
          refine RL.mv rfl rfl rfl ?_
          refine RL.binI (v := .int .i64 (wadd (wmul (i121 : Int) x1) (i180 : Int))) rfl rfl rfl rfl rfl ?_
          refine RL.asg rfl rfl rfl ?_
          refine RL.finG ?_
          refine GL.seq ?_
          refine GL.region ?_
          refine RL.mv rfl rfl rfl ?_
          refine RL.mv rfl rfl rfl ?_
          refine RL.lenS 0 Try.underlying34 rfl rfl rfl rfl SlOf.imm ?_
          refine RL.binI (v := .bool (decide ((wadd (wmul (i121 : Int) x1) (i180 : Int)) < ((x2).length : Int)))) rfl rfl rfl rfl rfl ?_
          refine RL.finG ?_
          obtain ⟨y201, K202, h203, h204, h205, h206, h207⟩ := bindF_K h183
          refine GL.join (ι := Int) (fun (p : Int) => [(1, .int .i64 x1), (2, v2), (7, v5), (8, .int .i64 (i121 : Int)), (9, v133), (11, .int .i64 p), (13, .int .i64 x0), (14, .int .i64 (i121 : Int)), (17, .int .i64 x1), (18, .int .i64 (i180 : Int))]) (fun (p : Int) => [imm (TR.sl TR.int) v2 x2, own 34 (TR.sl TR.int) v5 l4, own 3 TR.int v133 l132]) (fun (p : Int) => K202 (.nx p)) ?_ ?_
          · skip
            refine GL.cond rfl (fun b208 => ?_) (fun b208 => ?_)
            · replace h203 := ite_t b208 h203
              refine GL.region ?_
              refine RL.mv rfl rfl rfl ?_
              refine RL.mv rfl rfl rfl ?_
              obtain ⟨y213, e214, h203⟩ := bind_some h203
              refine RL.idxS (sz := 1) 0 Try.underlying34 Try_ln3 rfl rfl rfl rfl rfl SlOf.imm (idx_some e214).1 (idx_some e214).2.1 ?_
              refine RL.ldSx (i := (wadd (wmul (i121 : Int) x1) (i180 : Int)).toNat) (e' := y213) 0 Ex.ik Try_ln3 rfl rfl rfl rfl SlOf.imm (idx_some e214).2.2 Part.self ?_
              obtain ⟨y215, e216, h203⟩ := bind_some h203
              refine RL.callC (v := .int .i64 y215) (vs := [.int .i64 y213, .int .i64 (60 : Int)]) Try_fit18 rfl rfl rfl rfl (fun U w hU hW hL => pk_Within_c U w hU y213 (60 : Int) _ e216) ?_
              refine RL.asg rfl rfl rfl ?_
              refine RL.finG ?_
              cases h203
              exact fun a w st => mid_intro y215 h204 (St.cut [0, 1, 2] ⟨rfl, rfl, rfl, rfl, rfl, rfl, rfl, rfl, rfl, rfl, trivial⟩ (by decide) rfl st)
            · replace h203 := ite_f b208 h203
              refine GL.skip ?_
              cases h203
              exact fun a w st => mid_intro (0 : Int) h204 (St.cut [0, 1, 2] ⟨rfl, rfl, rfl, rfl, rfl, rfl, rfl, rfl, rfl, rfl, trivial⟩ (by decide) rfl st)
          · rintro x200 h217
            have h218 := h205 _ h217
            try dsimp only at h218
            refine GL.weak (env' := [(1, .int .i64 x1), (2, v2), (7, v5), (8, .int .i64 (i121 : Int)), (9, v133), (11, .int .i64 x200), (13, .int .i64 x0), (14, .int .i64 (i121 : Int)), (17, .int .i64 x1), (18, .int .i64 (i180 : Int))]) (L' := [imm (TR.sl TR.int) v2 x2, own 34 (TR.sl TR.int) v5 l4, own 3 TR.int v133 l132]) (fun _ _ st => st) ?_
            refine GL.region ?_
            refine RL.mv rfl rfl rfl ?_
            refine RL.mv rfl rfl rfl ?_
            refine RL.bS (t := TR.int) (vs := [.int .i64 x200]) ([x200] : (List Int)) Try.underlying34 Try_lo3 rfl rfl rfl rfl ⟨VR.int, trivial⟩ rfl (by decide) ?_
            intro v223
            obtain ⟨y224, e225, h218⟩ := bind_some h218
            replace e225 := chk_some e225
            refine RL.app 2 3 Try.underlying34 Try_lo3 rfl rfl rfl rfl rfl rfl rfl SlOf.own e225 ?_
            intro v226
            refine RL.reL (L' := [imm (TR.sl TR.int) v2 x2, own 34 (TR.sl TR.int) v5 l4, own 3 TR.int v226 (l132 ++ ([x200] : (List Int))), own 3 TR.int v223 ([x200] : (List Int))]) rfl ?_
            refine RL.asg rfl rfl rfl ?_
            refine RL.finG ?_
            refine GL.nilB ?_
            refine GL.region ?_
            refine RL.binI (v := .int .i64 ((i180 + 1 : Nat) : Int)) rfl rfl rfl rfl (binI_succ i180 (by omega)) ?_
            refine RL.mv rfl rfl rfl ?_
            refine RL.fin ?_
            cases h218
            exact fun a w st => lop_intro (i180 + 1, r190, (l132 ++ ([x200] : (List Int))), v226) ⟨by show i180 + 1 + r190 = (x1).toNat; omega, h184⟩ (by simp) (St.cut [0, 1, 2] ⟨rfl, rfl, rfl, rfl, rfl, rfl, rfl, rfl, rfl, trivial⟩ (by decide) rfl st)
        · have h189 : ¬ i180 < (x1).toNat := by have := of_decide_eq_false b188; omega
          obtain rfl : r181 = 0 := by omega
          replace h185 : some (Fl.nx _) = some y173 := h185
          cases h185
          exact GL.exit (fun a w st => mid_intro (l132, v133) h176 (St.cut [0, 1, 2] ⟨rfl, rfl, rfl, rfl, rfl, rfl, trivial⟩ (by decide) rfl st))
      · rintro ⟨l132, v133⟩ h227
        have h228 := h177 _ h227
        try dsimp only at h228
        refine GL.weak (env' := [(1, .int .i64 x1), (2, v2), (7, v5), (9, v133), (13, .int .i64 x0), (14, .int .i64 (i121 : Int))]) (L' := [imm (TR.sl TR.int) v2 x2, own 34 (TR.sl TR.int) v5 l4, own 3 TR.int v133 l132]) (fun _ _ st => st) ?_
        refine GL.region ?_
        refine RL.mv rfl rfl rfl ?_
        refine RL.mv rfl rfl rfl ?_
        refine RL.weak (fun a w st => st.freeze 2 rfl) ?_
        refine RL.bS (t := (TR.sl TR.int)) (vs := [v133]) ([l132] : (List (List Int))) Try.underlying42 Try_lo34 rfl rfl rfl rfl ⟨(VR.item 2 rfl), trivial⟩ rfl (by decide) ?_
        intro v233
        refine RL.reL (L' := [imm (TR.sl TR.int) v2 x2, own 34 (TR.sl TR.int) v5 l4, imm (TR.sl TR.int) v133 l132, own 34 (TR.sl TR.int) v233 ([l132] : (List (List Int)))]) rfl ?_
        obtain ⟨y234, e235, h228⟩ := bind_some h228
        replace e235 := chk_some e235
        refine RL.app 1 3 Try.underlying42 Try_lo34 rfl rfl rfl rfl rfl rfl rfl SlOf.own e235 ?_
        intro v236
        refine RL.asg rfl rfl rfl ?_
        refine RL.finG ?_
        refine GL.nilB ?_
        refine GL.region ?_
        refine RL.binI (v := .int .i64 ((i121 + 1 : Nat) : Int)) rfl rfl rfl rfl (binI_succ i121 (by omega)) ?_
        refine RL.mv rfl rfl rfl ?_
        refine RL.fin ?_
        cases h228
        exact fun a w st => lop_intro (i121 + 1, r131, (l4 ++ ([l132] : (List (List Int)))), v236) ⟨by show i121 + 1 + r131 = (x0).toNat; omega, h125⟩ (by simp) (St.cut [0, 1] ⟨rfl, rfl, rfl, rfl, rfl, trivial⟩ (by decide) rfl st)
    · have h130 : ¬ i121 < (x0).toNat := by have := of_decide_eq_false b129; omega
      obtain rfl : r122 = 0 := by omega
      replace h126 : some (Fl.nx _) = some y114 := h126
      cases h126
      exact GL.exit (fun a w st => mid_intro (l4, v5) h117 (St.cut [1] ⟨rfl, trivial⟩ (by decide) rfl st))
  · rintro ⟨l4, v5⟩ h237
    have h238 := h118 _ h237
    try dsimp only at h238
    refine GL.weak (env' := [(7, v5)]) (L' := [own 34 (TR.sl TR.int) v5 l4]) (fun _ _ st => st) ?_
    refine GL.seq ?_
    refine GL.region ?_
    refine RL.mv rfl rfl rfl ?_
    refine RL.asg rfl rfl rfl ?_
    refine RL.finG ?_
    have h238 := Option.some.inj h238
    subst h238
    exact GL.ret (Gx.ret (v := v5) (res1 rfl rfl) (fun a w st => (st.pick [0] (by decide) rfl).toPost v5))

set_option maxHeartbeats 4000000 in
theorem pk_GrovesBest_c (S : Hp) (w : World) (hS : S.sub w) (x0 : Int) (x1 : Int) (v2 : Value) (x2 : (List Int)) (k2 : ((TR.sl TR.int)).vrep S v2 x2) (v3 : Value) (x3 : (List Int)) (k3 : ((TR.sl TR.int)).vrep S v3 x3) (res : Bool) (hm : pk_GrovesBest_m x0 x1 x2 x3 = some res) : Calls Try.prog 6 #[.int .i64 x0, .int .i64 x1, v2, v3] w (PostV w (.bool res)) := by
  refine calls_enter 134 Try.func6 Try.ntmps6 rfl S false [(0, .int .i64 x0), (1, .int .i64 x1), (2, v2), (3, v3)] [imm (TR.sl TR.int) v2 x2, imm (TR.sl TR.int) v3 x3] rfl ⟨rfl, ⟨rfl, ⟨rfl, ⟨rfl, trivial⟩⟩⟩⟩ hS ⟨k2, ⟨k3, trivial⟩⟩ ?_
  unfold pk_GrovesBest_m at hm
  refine GL.seq ?_
  refine GL.region ?_
  refine RL.asg rfl rfl rfl ?_
  refine RL.finG ?_
  refine GL.seq ?_
  refine GL.seq ?_
  refine GL.region ?_
  obtain ⟨y7, e8, hm⟩ := bind_some hm
  refine RL.callV (v := .bool y7) (vs := []) Try_fit22 rfl (Or.inl rfl) rfl rfl rfl rfl (fun U w hU hW hL => pk_vickreys_c U w hU  _ e8) ?_
  refine RL.notB rfl rfl rfl ?_
  refine RL.finG ?_
  refine GL.cond rfl (fun b9 => ?_) (fun b9 => ?_)
  · replace hm := ite_t b9 hm
    refine GL.seq ?_
    refine GL.region ?_
    refine RL.asg rfl rfl rfl ?_
    refine RL.finG ?_
    have hm := Option.some.inj hm
    subst hm
    exact GL.ret (Gx.ret (v := .bool false) (res1 rfl rfl) (fun a w st => st.toPostV))
  · replace hm := ite_f b9 hm
    refine GL.skip ?_
    refine GL.seq ?_
    refine GL.region ?_
    refine RL.mv rfl rfl rfl ?_
    obtain ⟨y14, e15, hm⟩ := bind_some hm
    refine RL.callC (v := .int .i64 y14) (vs := [.int .i64 x0, .int .i64 (4 : Int)]) Try_fit18 rfl rfl rfl rfl (fun U w hU hW hL => pk_Within_c U w hU x0 (4 : Int) _ e15) ?_
    refine RL.binI (v := .int .i64 (wadd (1 : Int) y14)) rfl rfl rfl rfl rfl ?_
    refine RL.mv rfl rfl rfl ?_
    obtain ⟨y16, e17, hm⟩ := bind_some hm
    refine RL.callC (v := .int .i64 y16) (vs := [.int .i64 x1, .int .i64 (4 : Int)]) Try_fit18 rfl rfl rfl rfl (fun U w hU hW hL => pk_Within_c U w hU x1 (4 : Int) _ e17) ?_
    refine RL.binI (v := .int .i64 (wadd (1 : Int) y16)) rfl rfl rfl rfl rfl ?_
    refine RL.asg rfl rfl rfl ?_
    refine RL.asg rfl rfl rfl ?_
    refine RL.finG ?_
    refine GL.seq ?_
    refine GL.region ?_
    refine RL.mv rfl rfl rfl ?_
    refine RL.mv rfl rfl rfl ?_
    refine RL.mv rfl rfl rfl ?_
    obtain ⟨y21, e22, hm⟩ := bind_some hm
    refine RL.call (vs := [.int .i64 (wadd (1 : Int) y14), .int .i64 (wadd (1 : Int) y16), v2]) Try_fit23 rfl rfl rfl rfl rfl (fun S f w hS hW hi => pk_GoodsOf_c S w hS (wadd (1 : Int) y14) (wadd (1 : Int) y16) _ _ (hi 0 _ rfl) _ e22) ?_
    intro v23
    refine RL.asg rfl rfl rfl ?_
    refine RL.finG ?_
    refine GL.seq ?_
    refine GL.region ?_
    refine RL.mv rfl rfl rfl ?_
    obtain ⟨y27, e28, hm⟩ := bind_some hm
    refine RL.callU (vs := [v23]) (LR := fun (o : Value) => [own 3 TR.int o y27.1]) (fun o => ⟨Loc.own TR.flatT_ik, trivial⟩) Try_fit24 rfl rfl rfl rfl rfl (fun U w hU hW hL => groves_Share_c U w hU _ _ (hL 2 _ _ rfl Seen.own) _ e28) ?_
    intro v29
    refine RL.mv rfl rfl rfl ?_
    refine RL.ext rfl rfl rfl rfl ?_
    refine RL.ext rfl rfl rfl rfl ?_
    refine RL.ext rfl rfl rfl rfl ?_
    refine RL.asg rfl rfl rfl ?_
    refine RL.asg rfl rfl rfl ?_
    refine RL.asg rfl rfl rfl ?_
    refine RL.finG ?_
    refine GL.seq ?_
    refine GL.seq ?_
    obtain ⟨y33, K34, h35, h36, h37, h38, h39⟩ := bindR_K hm
    refine GL.join (ι := Bool) (fun (p : Bool) => [(0, .int .i64 (wadd (1 : Int) y14)), (1, .int .i64 (wadd (1 : Int) y16)), (3, v3), (9, v23), (10, v29), (11, .int .i64 y27.2.1), (45, .bool p)]) (fun (p : Bool) => [imm (TR.sl TR.int) v3 x3, own 34 (TR.sl TR.int) v23 y21, own 3 TR.int v29 y27.1]) (fun (p : Bool) => K34 (.nx p)) ?_ ?_
    · skip
      refine GL.region ?_
      refine RL.mv rfl rfl rfl ?_
      refine RL.binI (v := .bool (y27.2.2 != (0 : Int))) rfl rfl rfl rfl rfl ?_
      refine RL.mv rfl rfl rfl ?_
      refine RL.split (t := 40) rfl (fun b40 => ?_) (fun b40 => ?_)
      · replace h35 := ite_t b40 h35
        refine RL.skip rfl rfl ?_
        refine RL.skip rfl rfl ?_
        refine RL.skip rfl rfl ?_
        refine RL.skip rfl rfl ?_
        refine RL.pickT rfl rfl rfl rfl ?_
        refine RL.fin ?_
        cases h35
        exact fun a w st => mid_intro true h36 (St.cut [1, 2, 3] ⟨rfl, rfl, rfl, rfl, rfl, rfl, rfl, trivial⟩ (by decide) rfl st)
      · replace h35 := ite_f b40 h35
        refine RL.mv rfl rfl rfl ?_
        refine RL.lenS 3 Try.underlying34 rfl rfl rfl rfl SlOf.own ?_
        refine RL.mv rfl rfl rfl ?_
        refine RL.binI (v := .bool (((y27.1).length : Int) != (wadd (1 : Int) y14))) rfl rfl rfl rfl rfl ?_
        refine RL.pickF rfl rfl rfl rfl ?_
        refine RL.fin ?_
        cases h35
        exact fun a w st => mid_intro (((y27.1).length : Int) != (wadd (1 : Int) y14)) h36 (St.cut [1, 2, 3] ⟨rfl, rfl, rfl, rfl, rfl, rfl, rfl, trivial⟩ (by decide) rfl st)
    · rintro x32 h41
      have h42 := h37 _ h41
      try dsimp only at h42
      refine GL.weak (env' := [(0, .int .i64 (wadd (1 : Int) y14)), (1, .int .i64 (wadd (1 : Int) y16)), (3, v3), (9, v23), (10, v29), (11, .int .i64 y27.2.1), (45, .bool x32)]) (L' := [imm (TR.sl TR.int) v3 x3, own 34 (TR.sl TR.int) v23 y21, own 3 TR.int v29 y27.1]) (fun _ _ st => st) ?_
      refine GL.cond rfl (fun b43 => ?_) (fun b43 => ?_)
      · replace h42 := ite_t b43 h42
        refine GL.seq ?_
        refine GL.region ?_
        refine RL.asg rfl rfl rfl ?_
        refine RL.finG ?_
        have h42 := Option.some.inj h42
        subst h42
        exact GL.ret (Gx.ret (v := .bool false) (res1 rfl rfl) (fun a w st => st.toPostV))
      · replace h42 := ite_f b43 h42
        refine GL.skip ?_
        refine GL.seq ?_
        refine GL.region ?_
        refine RL.asg rfl rfl rfl ?_
        refine RL.asg rfl rfl rfl ?_
        refine RL.asg rfl rfl rfl ?_
        refine RL.finG ?_
        refine GL.seq ?_
        refine GL.seq ?_
        refine GL.region ?_
        refine RL.mv rfl rfl rfl ?_
        refine RL.lenS 2 Try.underlying34 rfl rfl rfl rfl SlOf.own ?_
        refine RL.mv rfl rfl rfl ?_
        refine RL.finG ?_
        refine GL.lenOwn 2 rfl (fun n91 => ?_)
        obtain ⟨y92, K93, h94, h95, h96, h97, h98⟩ := bindR_K h42
        refine GL.join (ι := Int × Int) (fun (p : Int × Int) => [(0, .int .i64 (wadd (1 : Int) y14)), (1, .int .i64 (wadd (1 : Int) y16)), (3, v3), (9, v23), (11, .int .i64 y27.2.1), (13, .int .i64 p.1), (14, .int .i64 (0 : Int))]) (fun (p : Int × Int) => [imm (TR.sl TR.int) v3 x3, own 34 (TR.sl TR.int) v23 y21]) (fun (p : Int × Int) => K93 (.nx (p.1, p.2))) ?_ ?_
        · refine GL.block ?_
          refine GL.loop (ι := Nat × Nat × Int × Int) (fun (p : Nat × Nat × Int × Int) => [(0, .int .i64 (wadd (1 : Int) y14)), (1, .int .i64 (wadd (1 : Int) y16)), (3, v3), (9, v23), (11, .int .i64 y27.2.1), (13, .int .i64 p.2.2.1), (14, .int .i64 (0 : Int)), (15, .int .i64 p.2.2.2), (46, v29), (47, .int .i64 ((y27.1).length : Int)), (48, .int .i64 (p.1 : Int))]) (fun (p : Nat × Nat × Int × Int) => [imm (TR.sl TR.int) v3 x3, own 34 (TR.sl TR.int) v23 y21, own 3 TR.int v29 y27.1]) (fun (p : Nat × Nat × Int × Int) => p.1 + p.2.1 = (y27.1).length ∧ rangeN (pk_GrovesBest_b1 y27 y16 y21) p.2.1 p.1 (p.2.2.1, p.2.2.2) = some y92) (fun (p : Nat × Nat × Int × Int) => p.2.1) (0, (y27.1).length, (0 : Int), (0 : Int)) ⟨by simp, h94⟩ (fun a w st => St.cut [0, 1, 2] ⟨rfl, rfl, rfl, rfl, rfl, rfl, rfl, rfl, rfl, rfl, rfl, trivial⟩ (by decide) rfl st) ?_
          rintro ⟨i99, r100, x44, x45⟩ ⟨h105, h104⟩
          try dsimp only at h105 h104
          refine GL.weak (env' := [(0, .int .i64 (wadd (1 : Int) y14)), (1, .int .i64 (wadd (1 : Int) y16)), (3, v3), (9, v23), (11, .int .i64 y27.2.1), (13, .int .i64 x44), (14, .int .i64 (0 : Int)), (15, .int .i64 x45), (46, v29), (47, .int .i64 ((y27.1).length : Int)), (48, .int .i64 (i99 : Int))]) (L' := [imm (TR.sl TR.int) v3 x3, own 34 (TR.sl TR.int) v23 y21, own 3 TR.int v29 y27.1]) (fun _ _ st => st) ?_
          refine GL.seq ?_
          refine GL.region ?_
          refine RL.binI (v := .bool (decide ((i99 : Int) < ((y27.1).length : Int)))) rfl rfl rfl rfl rfl ?_
          refine RL.finG ?_
          refine GL.seq ?_
          refine GL.cond rfl (fun b107 => ?_) (fun b107 => ?_)
          · have h108 : i99 < (y27.1).length := by have := of_decide_eq_true b107; omega
            obtain ⟨r109, hr⟩ : ∃ m, r100 = m + 1 := ⟨r100 - 1, by omega⟩
            subst hr
            obtain ⟨z101, h102, h103⟩ := rangeN_some h104
            unfold pk_GrovesBest_b1 at h102
            try dsimp only at h102
            refine GL.skip ?_
            refine GL.seq ?_
            refine GL.block ?_
            refine GL.seq ?_
            refine GL.region ?_
            refine RL.mv rfl rfl rfl ?_
            obtain ⟨y112, e113, h102⟩ := bind_some h102
            refine RL.idxS (sz := 1) 2 Try.underlying34 Try_ln3 rfl rfl rfl rfl rfl SlOf.own (idx_some e113).1 (idx_some e113).2.1 ?_
            refine RL.ldSx (i := i99) (e' := y112) 2 Ex.ik Try_ln3 rfl rfl rfl rfl SlOf.own (idx_some e113).2.2 Part.self ?_
            refine RL.asg rfl rfl rfl ?_
            refine RL.asg rfl rfl rfl ?_
            refine RL.finG ?_
            refine GL.seq ?_
            refine GL.seq ?_
            obtain ⟨y125, K126, h127, h128, h129, h130, h131⟩ := bindF_K h102
            refine GL.join (ι := Bool) (fun (p : Bool) => [(0, .int .i64 (wadd (1 : Int) y14)), (1, .int .i64 (wadd (1 : Int) y16)), (3, v3), (9, v23), (11, .int .i64 y27.2.1), (13, .int .i64 x44), (14, .int .i64 (0 : Int)), (15, .int .i64 x45), (16, .int .i64 (i99 : Int)), (17, .int .i64 y112), (46, v29), (47, .int .i64 ((y27.1).length : Int)), (48, .int .i64 (i99 : Int)), (70, .bool p)]) (fun (p : Bool) => [imm (TR.sl TR.int) v3 x3, own 34 (TR.sl TR.int) v23 y21, own 3 TR.int v29 y27.1]) (fun (p : Bool) => K126 (.nx p)) ?_ ?_
            · skip
              refine GL.region ?_
              refine RL.mv rfl rfl rfl ?_
              refine RL.binI (v := .bool (decide (y112 < (-1 : Int)))) rfl rfl rfl rfl rfl ?_
              refine RL.mv rfl rfl rfl ?_
              refine RL.split (t := 55) rfl (fun b132 => ?_) (fun b132 => ?_)
              · replace h127 := ite_t b132 h127
                refine RL.skip rfl rfl ?_
                refine RL.skip rfl rfl ?_
                refine RL.skip rfl rfl ?_
                refine RL.pickT rfl rfl rfl rfl ?_
                refine RL.mv rfl rfl rfl ?_
                refine RL.skip rfl rfl ?_
                refine RL.skip rfl rfl ?_
                refine RL.skip rfl rfl ?_
                refine RL.skip rfl rfl ?_
                refine RL.skip rfl rfl ?_
                refine RL.skip rfl rfl ?_
                refine RL.skip rfl rfl ?_
                refine RL.skip rfl rfl ?_
                refine RL.skip rfl rfl ?_
                refine RL.pickT rfl rfl rfl rfl ?_
                refine RL.fin ?_
                cases h127
                exact fun a w st => mid_intro true h128 (St.cut [0, 1, 2] ⟨rfl, rfl, rfl, rfl, rfl, rfl, rfl, rfl, rfl, rfl, rfl, rfl, rfl, rfl, trivial⟩ (by decide) rfl st)
              · replace h127 := ite_f b132 h127
                refine RL.mv rfl rfl rfl ?_
                refine RL.mv rfl rfl rfl ?_
                refine RL.binI (v := .bool (decide (y112 ≥ (wadd (1 : Int) y16)))) rfl rfl rfl rfl rfl ?_
                refine RL.pickF rfl rfl rfl rfl ?_
                refine RL.mv rfl rfl rfl ?_
                refine RL.split (t := 60) rfl (fun b133 => ?_) (fun b133 => ?_)
                · replace h127 := ite_t b133 h127
                  refine RL.skip rfl rfl ?_
                  refine RL.skip rfl rfl ?_
                  refine RL.skip rfl rfl ?_
                  refine RL.skip rfl rfl ?_
                  refine RL.skip rfl rfl ?_
                  refine RL.skip rfl rfl ?_
                  refine RL.skip rfl rfl ?_
                  refine RL.skip rfl rfl ?_
                  refine RL.skip rfl rfl ?_
                  refine RL.pickT rfl rfl rfl rfl ?_
                  refine RL.fin ?_
                  cases h127
                  exact fun a w st => mid_intro true h128 (St.cut [0, 1, 2] ⟨rfl, rfl, rfl, rfl, rfl, rfl, rfl, rfl, rfl, rfl, rfl, rfl, rfl, rfl, trivial⟩ (by decide) rfl st)
                · replace h127 := ite_f b133 h127
                  refine RL.mv rfl rfl rfl ?_
                  refine RL.binI (v := .bool (decide (y112 ≥ (0 : Int)))) rfl rfl rfl rfl rfl ?_
                  refine RL.mv rfl rfl rfl ?_
                  refine RL.split (t := 63) rfl (fun b134 => ?_) (fun b134 => ?_)
                  · replace h127 := ite_t b134 h127
                    refine RL.mv rfl rfl rfl ?_
                    refine RL.mv rfl rfl rfl ?_
                    obtain ⟨y135, e136, h127⟩ := bind_some h127
                    replace e136 := chk_some e136
                    refine RL.sh (by simp) rfl rfl rfl rfl e136 ?_
                    refine RL.binI (v := .int .i64 (bits .and .i64 (Int.fdiv x45 (2 ^ (min y112.toNat (IntKind.bits .i64)))) (1 : Int))) rfl rfl rfl rfl rfl ?_
                    refine RL.binI (v := .bool ((bits .and .i64 (Int.fdiv x45 (2 ^ (min y112.toNat (IntKind.bits .i64)))) (1 : Int)) == (1 : Int))) rfl rfl rfl rfl rfl ?_
                    refine RL.pickT rfl rfl rfl rfl ?_
                    refine RL.pickF rfl rfl rfl rfl ?_
                    refine RL.fin ?_
                    cases h127
                    exact fun a w st => mid_intro ((bits .and .i64 (Int.fdiv x45 (2 ^ (min y112.toNat (IntKind.bits .i64)))) (1 : Int)) == (1 : Int)) h128 (St.cut [0, 1, 2] ⟨rfl, rfl, rfl, rfl, rfl, rfl, rfl, rfl, rfl, rfl, rfl, rfl, rfl, rfl, trivial⟩ (by decide) rfl st)
                  · replace h127 := ite_f b134 h127
                    refine RL.skip rfl rfl ?_
                    refine RL.skip rfl rfl ?_
                    refine RL.skip rfl rfl ?_
                    refine RL.skip rfl rfl ?_
                    refine RL.skip rfl rfl ?_
                    refine RL.pickF rfl rfl rfl rfl ?_
                    refine RL.pickF rfl rfl rfl rfl ?_
                    refine RL.fin ?_
                    cases h127
                    exact fun a w st => mid_intro false h128 (St.cut [0, 1, 2] ⟨rfl, rfl, rfl, rfl, rfl, rfl, rfl, rfl, rfl, rfl, rfl, rfl, rfl, rfl, trivial⟩ (by decide) rfl st)
            · rintro x124 h137
              have h138 := h129 _ h137
              try dsimp only at h138
              refine GL.weak (env' := [(0, .int .i64 (wadd (1 : Int) y14)), (1, .int .i64 (wadd (1 : Int) y16)), (3, v3), (9, v23), (11, .int .i64 y27.2.1), (13, .int .i64 x44), (14, .int .i64 (0 : Int)), (15, .int .i64 x45), (16, .int .i64 (i99 : Int)), (17, .int .i64 y112), (46, v29), (47, .int .i64 ((y27.1).length : Int)), (48, .int .i64 (i99 : Int)), (70, .bool x124)]) (L' := [imm (TR.sl TR.int) v3 x3, own 34 (TR.sl TR.int) v23 y21, own 3 TR.int v29 y27.1]) (fun _ _ st => st) ?_
              refine GL.cond rfl (fun b139 => ?_) (fun b139 => ?_)
              · replace h138 := ite_t b139 h138
                refine GL.seq ?_
                refine GL.region ?_
                refine RL.asg rfl rfl rfl ?_
                refine RL.finG ?_
                cases h138
                replace h103 : some (Fl.rt _) = some y92 := h103
                cases h103
                have hh := h97 _ h95
                subst hh
                exact GL.ret (Gx.ret (v := .bool false) (res1 rfl rfl) (fun a w st => st.toPostV))
              · replace h138 := ite_f b139 h138
                refine GL.skip ?_
                refine GL.seq ?_
                refine GL.region ?_
                refine RL.mv rfl rfl rfl ?_
                refine RL.binI (v := .bool (decide (y112 ≥ (0 : Int)))) rfl rfl rfl rfl rfl ?_
                refine RL.finG ?_
                refine GL.cond rfl (fun b140 => ?_) (fun b140 => ?_)
                · replace h138 := ite_t b140 h138
                  refine GL.seq ?_
                  refine GL.region ?_
                  refine RL.mv rfl rfl rfl ?_
                  refine RL.mv rfl rfl rfl ?_
                  obtain ⟨y143, e144, h138⟩ := bind_some h138
                  replace e144 := chk_some e144
                  refine RL.sh (by simp) rfl rfl rfl rfl e144 ?_
                  refine RL.binI (v := .int .i64 (bits .or .i64 x45 (IntKind.wrap .i64 ((1 : Int) * 2 ^ (min y112.toNat (IntKind.bits .i64)))))) rfl rfl rfl rfl rfl ?_
                  refine RL.asg rfl rfl rfl ?_
                  refine RL.finG ?_
                  refine GL.region ?_
                  refine RL.mv rfl rfl rfl ?_
                  refine RL.mv rfl rfl rfl ?_
                  refine RL.mv rfl rfl rfl ?_
                  obtain ⟨y150, e151, h138⟩ := bind_some h138
                  refine RL.idxS (sz := 1) 1 Try.underlying42 Try_ln34 rfl rfl rfl rfl rfl SlOf.own (idx_some e151).1 (idx_some e151).2.1 ?_
                  refine RL.ldS (i := i99) (r := (TR.sl TR.int)) (e' := y150) 1 Try_ln34 rfl rfl rfl rfl SlOf.own (idx_some e151).2.2 Part.self ?_
                  intro v152
                  refine RL.mv rfl rfl rfl ?_
                  obtain ⟨y153, e154, h138⟩ := bind_some h138
                  refine RL.idxS (sz := 1) 3 Try.underlying34 Try_ln3 rfl rfl rfl rfl rfl SlOf.imm (idx_some e154).1 (idx_some e154).2.1 ?_
                  refine RL.ldSx (i := (y112).toNat) (e' := y153) 3 Ex.ik Try_ln3 rfl rfl rfl rfl SlOf.imm (idx_some e154).2.2 Part.self ?_
                  refine RL.binI (v := .int .i64 (wadd x44 y153)) rfl rfl rfl rfl rfl ?_
                  refine RL.asg rfl rfl rfl ?_
                  refine RL.finG ?_
                  refine GL.nilB ?_
                  refine GL.region ?_
                  refine RL.binI (v := .int .i64 ((i99 + 1 : Nat) : Int)) rfl rfl rfl rfl (binI_succ i99 (by omega)) ?_
                  refine RL.mv rfl rfl rfl ?_
                  refine RL.fin ?_
                  cases h138
                  exact fun a w st => lop_intro (i99 + 1, r109, wadd x44 y153, bits .or .i64 x45 (IntKind.wrap .i64 ((1 : Int) * 2 ^ (min y112.toNat (IntKind.bits .i64))))) ⟨by show i99 + 1 + r109 = (y27.1).length; omega, h103⟩ (by simp) (St.cut [0, 1, 2] ⟨rfl, rfl, rfl, rfl, rfl, rfl, rfl, rfl, rfl, rfl, rfl, trivial⟩ (by decide) rfl st)
                · replace h138 := ite_f b140 h138
                  refine GL.skip ?_
                  refine GL.nilB ?_
                  refine GL.region ?_
                  refine RL.binI (v := .int .i64 ((i99 + 1 : Nat) : Int)) rfl rfl rfl rfl (binI_succ i99 (by omega)) ?_
                  refine RL.mv rfl rfl rfl ?_
                  refine RL.fin ?_
                  cases h138
                  exact fun a w st => lop_intro (i99 + 1, r109, x44, x45) ⟨by show i99 + 1 + r109 = (y27.1).length; omega, h103⟩ (by simp) (St.cut [0, 1, 2] ⟨rfl, rfl, rfl, rfl, rfl, rfl, rfl, rfl, rfl, rfl, rfl, trivial⟩ (by decide) rfl st)
          · have h108 : ¬ i99 < (y27.1).length := by have := of_decide_eq_false b107; omega
            obtain rfl : r100 = 0 := by omega
            replace h104 : some (Fl.nx _) = some y92 := h104
            cases h104
            exact GL.exit (fun a w st => mid_intro (x44, x45) h95 (St.cut [0, 1] ⟨rfl, rfl, rfl, rfl, rfl, rfl, rfl, trivial⟩ (by decide) rfl st))
        · rintro ⟨x44, x45⟩ h155
          have h156 := h96 _ h155
          try dsimp only at h156
          refine GL.weak (env' := [(0, .int .i64 (wadd (1 : Int) y14)), (1, .int .i64 (wadd (1 : Int) y16)), (3, v3), (9, v23), (11, .int .i64 y27.2.1), (13, .int .i64 x44), (14, .int .i64 (0 : Int))]) (L' := [imm (TR.sl TR.int) v3 x3, own 34 (TR.sl TR.int) v23 y21]) (fun _ _ st => st) ?_
          refine GL.seq ?_
          refine GL.region ?_
          refine RL.asg rfl rfl rfl ?_
          refine RL.finG ?_
          refine GL.seq ?_
          refine GL.seq ?_
          refine GL.region ?_
          refine RL.mv rfl rfl rfl ?_
          refine RL.mv rfl rfl rfl ?_
          refine RL.finG ?_
          obtain ⟨y222, e223, h156⟩ := bind_some h156
          replace e223 := chk_some e223
          obtain ⟨y224, K225, h226, h227, h228, h229, h230⟩ := bindR_K h156
          refine GL.join (ι := Int × Int) (fun (p : Int × Int) => [(11, .int .i64 y27.2.1), (13, .int .i64 x44), (14, .int .i64 p.1)]) (fun (p : Int × Int) => []) (fun (p : Int × Int) => K225 (.nx (p.1, p.2))) ?_ ?_
          · refine GL.block ?_
            refine GL.loop (ι := Nat × Nat × Int × Int) (fun (p : Nat × Nat × Int × Int) => [(1, .int .i64 (wadd (1 : Int) y16)), (3, v3), (9, v23), (11, .int .i64 y27.2.1), (13, .int .i64 x44), (14, .int .i64 p.2.2.1), (15, .int .i64 p.2.2.2), (87, .int .i64 (wadd (1 : Int) y14)), (88, .int .i64 (p.1 : Int))]) (fun (p : Nat × Nat × Int × Int) => [imm (TR.sl TR.int) v3 x3, own 34 (TR.sl TR.int) v23 y21]) (fun (p : Nat × Nat × Int × Int) => p.1 + p.2.1 = (wadd (1 : Int) y14).toNat ∧ rangeN (pk_GrovesBest_b2 x3 y16 y21) p.2.1 p.1 (p.2.2.1, p.2.2.2) = some y224) (fun (p : Nat × Nat × Int × Int) => p.2.1) (0, (wadd (1 : Int) y14).toNat, (0 : Int), (0 : Int)) ⟨by simp, h226⟩ (fun a w st => St.cut [0, 1] ⟨rfl, rfl, rfl, rfl, rfl, rfl, rfl, rfl, rfl, trivial⟩ (by decide) rfl st) ?_
            rintro ⟨i231, r232, x157, x158⟩ ⟨h237, h236⟩
            try dsimp only at h237 h236
            refine GL.weak (env' := [(1, .int .i64 (wadd (1 : Int) y16)), (3, v3), (9, v23), (11, .int .i64 y27.2.1), (13, .int .i64 x44), (14, .int .i64 x157), (15, .int .i64 x158), (87, .int .i64 (wadd (1 : Int) y14)), (88, .int .i64 (i231 : Int))]) (L' := [imm (TR.sl TR.int) v3 x3, own 34 (TR.sl TR.int) v23 y21]) (fun _ _ st => st) ?_
            refine GL.seq ?_
            refine GL.region ?_
            refine RL.binI (v := .bool (decide ((i231 : Int) < wadd (1 : Int) y14))) rfl rfl rfl rfl rfl ?_
            refine RL.finG ?_
            refine GL.seq ?_
            refine GL.cond rfl (fun b239 => ?_) (fun b239 => ?_)
            · have h240 : i231 < (wadd (1 : Int) y14).toNat := by have := of_decide_eq_true b239; omega
              obtain ⟨r241, hr⟩ : ∃ m, r232 = m + 1 := ⟨r232 - 1, by omega⟩
              subst hr
              obtain ⟨z233, h234, h235⟩ := rangeN_some h236
              unfold pk_GrovesBest_b2 at h234
              try dsimp only at h234
              refine GL.skip ?_
              refine GL.seq ?_
              refine GL.block ?_
              refine GL.seq ?_
              refine GL.region ?_
              refine RL.mv rfl rfl rfl ?_
              refine RL.asg rfl rfl rfl ?_
              refine RL.finG ?_
              refine GL.seq ?_
              refine GL.region ?_
              refine RL.asg rfl rfl rfl ?_
              refine RL.finG ?_
              refine GL.seq ?_
              refine GL.seq ?_
              refine GL.region ?_
              refine RL.mv rfl rfl rfl ?_
              refine RL.mv rfl rfl rfl ?_
              refine RL.lenS 0 Try.underlying34 rfl rfl rfl rfl SlOf.imm ?_
              refine RL.binI (v := .bool (decide ((i231 : Int) < ((x3).length : Int)))) rfl rfl rfl rfl rfl ?_
              refine RL.finG ?_
              obtain ⟨y252, K253, h254, h255, h256, h257, h258⟩ := bindF_K h234
              refine GL.join (ι := Int) (fun (p : Int) => [(1, .int .i64 (wadd (1 : Int) y16)), (3, v3), (9, v23), (11, .int .i64 y27.2.1), (13, .int .i64 x44), (14, .int .i64 x157), (15, .int .i64 x158), (18, .int .i64 (i231 : Int)), (19, .int .i64 p), (87, .int .i64 (wadd (1 : Int) y14)), (88, .int .i64 (i231 : Int))]) (fun (p : Int) => [imm (TR.sl TR.int) v3 x3, own 34 (TR.sl TR.int) v23 y21]) (fun (p : Int) => K253 (.nx p)) ?_ ?_
              · skip
                refine GL.cond rfl (fun b259 => ?_) (fun b259 => ?_)
                · replace h254 := ite_t b259 h254
                  refine GL.region ?_
                  refine RL.mv rfl rfl rfl ?_
                  refine RL.mv rfl rfl rfl ?_
                  obtain ⟨y264, e265, h254⟩ := bind_some h254
                  refine RL.idxS (sz := 1) 0 Try.underlying34 Try_ln3 rfl rfl rfl rfl rfl SlOf.imm (idx_some e265).1 (idx_some e265).2.1 ?_
                  refine RL.ldSx (i := i231) (e' := y264) 0 Ex.ik Try_ln3 rfl rfl rfl rfl SlOf.imm (idx_some e265).2.2 Part.self ?_
                  refine RL.mv rfl rfl rfl ?_
                  refine RL.binI (v := .int .i64 (wadd (wadd (1 : Int) y16) (1 : Int))) rfl rfl rfl rfl rfl ?_
                  obtain ⟨y266, e267, h254⟩ := bind_some h254
                  refine RL.callC (v := .int .i64 y266) (vs := [.int .i64 y264, .int .i64 (wadd (wadd (1 : Int) y16) (1 : Int))]) Try_fit18 rfl rfl rfl rfl (fun U w hU hW hL => pk_Within_c U w hU y264 (wadd (wadd (1 : Int) y16) (1 : Int)) _ e267) ?_
                  refine RL.binI (v := .int .i64 (wsub y266 (1 : Int))) rfl rfl rfl rfl rfl ?_
                  refine RL.asg rfl rfl rfl ?_
                  refine RL.finG ?_
                  cases h254
                  exact fun a w st => mid_intro (wsub y266 (1 : Int)) h255 (St.cut [0, 1] ⟨rfl, rfl, rfl, rfl, rfl, rfl, rfl, rfl, rfl, rfl, rfl, trivial⟩ (by decide) rfl st)
                · replace h254 := ite_f b259 h254
                  refine GL.skip ?_
                  cases h254
                  exact fun a w st => mid_intro (-1 : Int) h255 (St.cut [0, 1] ⟨rfl, rfl, rfl, rfl, rfl, rfl, rfl, rfl, rfl, rfl, rfl, trivial⟩ (by decide) rfl st)
              · rintro x251 h268
                have h269 := h256 _ h268
                try dsimp only at h269
                refine GL.weak (env' := [(1, .int .i64 (wadd (1 : Int) y16)), (3, v3), (9, v23), (11, .int .i64 y27.2.1), (13, .int .i64 x44), (14, .int .i64 x157), (15, .int .i64 x158), (18, .int .i64 (i231 : Int)), (19, .int .i64 x251), (87, .int .i64 (wadd (1 : Int) y14)), (88, .int .i64 (i231 : Int))]) (L' := [imm (TR.sl TR.int) v3 x3, own 34 (TR.sl TR.int) v23 y21]) (fun _ _ st => st) ?_
                refine GL.seq ?_
                obtain ⟨y277, K278, h279, h280, h281, h282, h283⟩ := bindF_K h269
                refine GL.join (ι := Bool) (fun (p : Bool) => [(1, .int .i64 (wadd (1 : Int) y16)), (3, v3), (9, v23), (11, .int .i64 y27.2.1), (13, .int .i64 x44), (14, .int .i64 x157), (15, .int .i64 x158), (18, .int .i64 (i231 : Int)), (19, .int .i64 x251), (87, .int .i64 (wadd (1 : Int) y14)), (88, .int .i64 (i231 : Int)), (111, .bool p)]) (fun (p : Bool) => [imm (TR.sl TR.int) v3 x3, own 34 (TR.sl TR.int) v23 y21]) (fun (p : Bool) => K278 (.nx p)) ?_ ?_
                · skip
                  refine GL.region ?_
                  refine RL.mv rfl rfl rfl ?_
                  refine RL.binI (v := .bool (decide (x251 ≥ (0 : Int)))) rfl rfl rfl rfl rfl ?_
                  refine RL.mv rfl rfl rfl ?_
                  refine RL.split (t := 105) rfl (fun b284 => ?_) (fun b284 => ?_)
                  · replace h279 := ite_t b284 h279
                    refine RL.mv rfl rfl rfl ?_
                    refine RL.mv rfl rfl rfl ?_
                    obtain ⟨y285, e286, h279⟩ := bind_some h279
                    replace e286 := chk_some e286
                    refine RL.sh (by simp) rfl rfl rfl rfl e286 ?_
                    refine RL.binI (v := .int .i64 (bits .and .i64 (Int.fdiv x158 (2 ^ (min x251.toNat (IntKind.bits .i64)))) (1 : Int))) rfl rfl rfl rfl rfl ?_
                    refine RL.binI (v := .bool ((bits .and .i64 (Int.fdiv x158 (2 ^ (min x251.toNat (IntKind.bits .i64)))) (1 : Int)) == (0 : Int))) rfl rfl rfl rfl rfl ?_
                    refine RL.pickT rfl rfl rfl rfl ?_
                    refine RL.fin ?_
                    cases h279
                    exact fun a w st => mid_intro ((bits .and .i64 (Int.fdiv x158 (2 ^ (min x251.toNat (IntKind.bits .i64)))) (1 : Int)) == (0 : Int)) h280 (St.cut [0, 1] ⟨rfl, rfl, rfl, rfl, rfl, rfl, rfl, rfl, rfl, rfl, rfl, rfl, trivial⟩ (by decide) rfl st)
                  · replace h279 := ite_f b284 h279
                    refine RL.skip rfl rfl ?_
                    refine RL.skip rfl rfl ?_
                    refine RL.skip rfl rfl ?_
                    refine RL.skip rfl rfl ?_
                    refine RL.skip rfl rfl ?_
                    refine RL.pickF rfl rfl rfl rfl ?_
                    refine RL.fin ?_
                    cases h279
                    exact fun a w st => mid_intro false h280 (St.cut [0, 1] ⟨rfl, rfl, rfl, rfl, rfl, rfl, rfl, rfl, rfl, rfl, rfl, rfl, trivial⟩ (by decide) rfl st)
                · rintro x276 h287
                  have h288 := h281 _ h287
                  try dsimp only at h288
                  refine GL.weak (env' := [(1, .int .i64 (wadd (1 : Int) y16)), (3, v3), (9, v23), (11, .int .i64 y27.2.1), (13, .int .i64 x44), (14, .int .i64 x157), (15, .int .i64 x158), (18, .int .i64 (i231 : Int)), (19, .int .i64 x251), (87, .int .i64 (wadd (1 : Int) y14)), (88, .int .i64 (i231 : Int)), (111, .bool x276)]) (L' := [imm (TR.sl TR.int) v3 x3, own 34 (TR.sl TR.int) v23 y21]) (fun _ _ st => st) ?_
                  refine GL.cond rfl (fun b289 => ?_) (fun b289 => ?_)
                  · replace h288 := ite_t b289 h288
                    refine GL.seq ?_
                    refine GL.region ?_
                    refine RL.mv rfl rfl rfl ?_
                    refine RL.mv rfl rfl rfl ?_
                    obtain ⟨y292, e293, h288⟩ := bind_some h288
                    replace e293 := chk_some e293
                    refine RL.sh (by simp) rfl rfl rfl rfl e293 ?_
                    refine RL.binI (v := .int .i64 (bits .or .i64 x158 (IntKind.wrap .i64 ((1 : Int) * 2 ^ (min x251.toNat (IntKind.bits .i64)))))) rfl rfl rfl rfl rfl ?_
                    refine RL.asg rfl rfl rfl ?_
                    refine RL.finG ?_
                    refine GL.region ?_
                    refine RL.mv rfl rfl rfl ?_
                    refine RL.mv rfl rfl rfl ?_
                    refine RL.mv rfl rfl rfl ?_
                    obtain ⟨y299, e300, h288⟩ := bind_some h288
                    refine RL.idxS (sz := 1) 1 Try.underlying42 Try_ln34 rfl rfl rfl rfl rfl SlOf.own (idx_some e300).1 (idx_some e300).2.1 ?_
                    refine RL.ldS (i := i231) (r := (TR.sl TR.int)) (e' := y299) 1 Try_ln34 rfl rfl rfl rfl SlOf.own (idx_some e300).2.2 Part.self ?_
                    intro v301
                    refine RL.mv rfl rfl rfl ?_
                    obtain ⟨y302, e303, h288⟩ := bind_some h288
                    refine RL.idxS (sz := 1) 2 Try.underlying34 Try_ln3 rfl rfl rfl rfl rfl SlOf.imm (idx_some e303).1 (idx_some e303).2.1 ?_
                    refine RL.ldSx (i := (x251).toNat) (e' := y302) 2 Ex.ik Try_ln3 rfl rfl rfl rfl SlOf.imm (idx_some e303).2.2 Part.self ?_
                    refine RL.binI (v := .int .i64 (wadd x157 y302)) rfl rfl rfl rfl rfl ?_
                    refine RL.asg rfl rfl rfl ?_
                    refine RL.finG ?_
                    refine GL.nilB ?_
                    refine GL.region ?_
                    refine RL.binI (v := .int .i64 ((i231 + 1 : Nat) : Int)) rfl rfl rfl rfl (binI_succ i231 (by omega)) ?_
                    refine RL.mv rfl rfl rfl ?_
                    refine RL.fin ?_
                    cases h288
                    exact fun a w st => lop_intro (i231 + 1, r241, wadd x157 y302, bits .or .i64 x158 (IntKind.wrap .i64 ((1 : Int) * 2 ^ (min x251.toNat (IntKind.bits .i64))))) ⟨by show i231 + 1 + r241 = (wadd (1 : Int) y14).toNat; omega, h235⟩ (by simp) (St.cut [0, 1] ⟨rfl, rfl, rfl, rfl, rfl, rfl, rfl, rfl, rfl, trivial⟩ (by decide) rfl st)
                  · replace h288 := ite_f b289 h288
                    refine GL.skip ?_
                    refine GL.nilB ?_
                    refine GL.region ?_
                    refine RL.binI (v := .int .i64 ((i231 + 1 : Nat) : Int)) rfl rfl rfl rfl (binI_succ i231 (by omega)) ?_
                    refine RL.mv rfl rfl rfl ?_
                    refine RL.fin ?_
                    cases h288
                    exact fun a w st => lop_intro (i231 + 1, r241, x157, x158) ⟨by show i231 + 1 + r241 = (wadd (1 : Int) y14).toNat; omega, h235⟩ (by simp) (St.cut [0, 1] ⟨rfl, rfl, rfl, rfl, rfl, rfl, rfl, rfl, rfl, trivial⟩ (by decide) rfl st)
            · have h240 : ¬ i231 < (wadd (1 : Int) y14).toNat := by have := of_decide_eq_false b239; omega
              obtain rfl : r232 = 0 := by omega
              replace h236 : some (Fl.nx _) = some y224 := h236
              cases h236
              exact GL.exit (fun a w st => mid_intro (x157, x158) h227 (St.cut [] ⟨rfl, rfl, rfl, trivial⟩ (by decide) rfl st))
          · rintro ⟨x157, x158⟩ h304
            have h305 := h228 _ h304
            try dsimp only at h305
            refine GL.weak (env' := [(11, .int .i64 y27.2.1), (13, .int .i64 x44), (14, .int .i64 x157)]) (L' := []) (fun _ _ st => st) ?_
            refine GL.seq ?_
            obtain ⟨y309, K310, h311, h312, h313, h314, h315⟩ := bindR_K h305
            refine GL.join (ι := Bool) (fun (p : Bool) => [(8, .bool p)]) (fun (p : Bool) => []) (fun (p : Bool) => K310 (.nx p)) ?_ ?_
            · skip
              refine GL.region ?_
              refine RL.mv rfl rfl rfl ?_
              refine RL.mv rfl rfl rfl ?_
              refine RL.binI (v := .bool (y27.2.1 == x44)) rfl rfl rfl rfl rfl ?_
              refine RL.mv rfl rfl rfl ?_
              refine RL.split (t := 129) rfl (fun b316 => ?_) (fun b316 => ?_)
              · replace h311 := ite_t b316 h311
                refine RL.mv rfl rfl rfl ?_
                refine RL.mv rfl rfl rfl ?_
                refine RL.binI (v := .bool (decide (y27.2.1 ≥ x157))) rfl rfl rfl rfl rfl ?_
                refine RL.pickT rfl rfl rfl rfl ?_
                refine RL.asg rfl rfl rfl ?_
                refine RL.fin ?_
                cases h311
                exact fun a w st => mid_intro (decide (y27.2.1 ≥ x157)) h312 (St.cut [] ⟨rfl, trivial⟩ (by decide) rfl st)
              · replace h311 := ite_f b316 h311
                refine RL.skip rfl rfl ?_
                refine RL.skip rfl rfl ?_
                refine RL.skip rfl rfl ?_
                refine RL.pickF rfl rfl rfl rfl ?_
                refine RL.asg rfl rfl rfl ?_
                refine RL.fin ?_
                cases h311
                exact fun a w st => mid_intro false h312 (St.cut [] ⟨rfl, trivial⟩ (by decide) rfl st)
            · rintro x308 h317
              have h318 := h313 _ h317
              try dsimp only at h318
              refine GL.weak (env' := [(8, .bool x308)]) (L' := []) (fun _ _ st => st) ?_
              have h318 := Option.some.inj h318
              subst h318
              exact GL.ret (Gx.ret (v := .bool x308) (res1 rfl rfl) (fun a w st => st.toPostV))
end Go.Wk
