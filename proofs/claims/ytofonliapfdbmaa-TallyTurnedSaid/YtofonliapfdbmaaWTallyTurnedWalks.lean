/- Each function comes to what its model says; printed by a program of this repository. -/
import Derived.Test.YtofonliapfdbmaaProg
import Derived.Test.YtofonliapfdbmaaWTallyTurnedModels
namespace Go.Wk
open Go.Fw Go.Mo Go.Proofs Go.RowKit
set_option linter.unusedVariables false
set_option maxRecDepth 100000
theorem loopNx {ρ σ β γ : Type} {body : σ → Option (Fl ρ β σ)} {n : Nat} {s : σ} {y : Fl ρ γ β} (h : stepM body n (.nx s) = some y) : loopM body n s = some y := h
theorem Try_info3 : (Try.prog.info? 3).map (fun i => (i.zero, i.size, i.bytes)) = some (some (.int .i64 0), 1, 8) := by kernel_rfl
theorem Try_ln3 : Ln Try.prog 3 1 false := Ln.of Try_info3 Try.underlying3 rfl
theorem Try_lo3 : LnO Try.prog 3 1 [.int .i64 0] := LnO.of Try_info3 rfl rfl (by decide) (by decide)
theorem Try_info4 : (Try.prog.info? 4).map (fun i => (i.zero, i.size, i.bytes)) = some (some (.bool false), 1, 1) := by kernel_rfl
theorem Try_ln4 : Ln Try.prog 4 1 false := Ln.of Try_info4 Try.underlying4 rfl
theorem Try_lo4 : LnO Try.prog 4 1 [.bool false] := LnO.of Try_info4 rfl rfl (by decide) (by decide)
theorem Try_info24 : (Try.prog.info? 24).map (fun i => (i.zero, i.size, i.bytes)) = some (some (.int .i64 0), 1, 8) := by kernel_rfl
theorem Try_ln24 : Ln Try.prog 24 1 false := Ln.of Try_info24 Try.underlying24 rfl
theorem Try_lo24 : LnO Try.prog 24 1 [.int .i64 0] := LnO.of Try_info24 rfl rfl (by decide) (by decide)
theorem Try_info28 : (Try.prog.info? 28).map (fun i => (i.zero, i.size, i.bytes)) = some (some (.slice none 0 0), 1, 24) := by kernel_rfl
theorem Try_ln28 : Ln Try.prog 28 1 false := Ln.of Try_info28 Try.underlying28 rfl
theorem Try_lo28 : LnO Try.prog 28 1 [.slice none 0 0] := LnO.of Try_info28 rfl rfl (by decide) (by decide)
theorem Try_info65 : (Try.prog.info? 65).map (fun i => (i.zero, i.size, i.bytes)) = some (some (.agg #[.bool false, .bool false, .bool false, .bool false, .bool false, .bool false]), 6, 6) := by kernel_rfl
theorem Try_ln65 : Ln Try.prog 65 6 true := Ln.of Try_info65 Try.underlying65 rfl
theorem Try_lo65 : LnO Try.prog 65 6 [.bool false, .bool false, .bool false, .bool false, .bool false, .bool false] := LnO.of Try_info65 rfl rfl (by decide) (by decide)
theorem Try_fit16 : Fit Try.prog 16 := Fit.of Try.func16 (by kernel_rfl) rfl
theorem Try_fit19 : Fit Try.prog 19 := Fit.of Try.func19 (by kernel_rfl) rfl
theorem Try_fit20 : Fit Try.prog 20 := Fit.of Try.func20 (by kernel_rfl) rfl
theorem Try_fit22 : Fit Try.prog 22 := Fit.of Try.func22 (by kernel_rfl) rfl
theorem Try_fit24 : Fit Try.prog 24 := Fit.of Try.func24 (by kernel_rfl) rfl
theorem Try_fit25 : Fit Try.prog 25 := Fit.of Try.func25 (by kernel_rfl) rfl
theorem Try_fit30 : Fit Try.prog 30 := Fit.of Try.func30 (by kernel_rfl) rfl
theorem Try_fit31 : Fit Try.prog 31 := Fit.of Try.func31 (by kernel_rfl) rfl
theorem Try_fit32 : Fit Try.prog 32 := Fit.of Try.func32 (by kernel_rfl) rfl
theorem Try_fit35 : Fit Try.prog 35 := Fit.of Try.func35 (by kernel_rfl) rfl
theorem Try_fit37 : Fit Try.prog 37 := Fit.of Try.func37 (by kernel_rfl) rfl
theorem Try_fit38 : Fit Try.prog 38 := Fit.of Try.func38 (by kernel_rfl) rfl
theorem Try_fit42 : Fit Try.prog 42 := Fit.of Try.func42 (by kernel_rfl) rfl
theorem Try_fit43 : Fit Try.prog 43 := Fit.of Try.func43 (by kernel_rfl) rfl
theorem Try_fit44 : Fit Try.prog 44 := Fit.of Try.func44 (by kernel_rfl) rfl
theorem Try_fit45 : Fit Try.prog 45 := Fit.of Try.func45 (by kernel_rfl) rfl
theorem Try_fit46 : Fit Try.prog 46 := Fit.of Try.func46 (by kernel_rfl) rfl
theorem Try_fit47 : Fit Try.prog 47 := Fit.of Try.func47 (by kernel_rfl) rfl
theorem Try_fit49 : Fit Try.prog 49 := Fit.of Try.func49 (by kernel_rfl) rfl
theorem Try_fit50 : Fit Try.prog 50 := Fit.of Try.func50 (by kernel_rfl) rfl
theorem Try_fit51 : Fit Try.prog 51 := Fit.of Try.func51 (by kernel_rfl) rfl
theorem Try_fit52 : Fit Try.prog 52 := Fit.of Try.func52 (by kernel_rfl) rfl
theorem Try_fit53 : Fit Try.prog 53 := Fit.of Try.func53 (by kernel_rfl) rfl
theorem Try_fit54 : Fit Try.prog 54 := Fit.of Try.func54 (by kernel_rfl) rfl

set_option maxHeartbeats 4000000 in
theorem order_Check_c (S : Hp) (w : World) (hS : S.sub w) (x0 : Int) (v1 : Value) (x1 : (List Int)) (k1 : ((TR.sl TR.int)).vrep S v1 x1) (res : Int) (hm : order_Check_m x0 x1 = some res) : Calls Try.prog 53 #[.int .i64 x0, v1] w (PostV w (.int .i64 res)) := by
  refine calls_enter 39 Try.func53 Try.ntmps53 rfl S false [(0, .int .i64 x0), (1, v1)] [imm (TR.sl TR.int) v1 x1] rfl ⟨rfl, ⟨rfl, trivial⟩⟩ hS ⟨k1, trivial⟩ ?_
  unfold order_Check_m at hm
  refine GL.seq ?_
  refine GL.region ?_
  refine RL.asg rfl rfl rfl ?_
  refine RL.finG ?_
  refine GL.seq ?_
  refine GL.seq ?_
  obtain ⟨y6, K7, h8, h9, h10, h11, h12⟩ := bindR_K hm
  refine GL.join (ι := Bool) (fun (p : Bool) => [(0, .int .i64 x0), (1, v1), (13, .bool p)]) (fun (p : Bool) => [imm (TR.sl TR.int) v1 x1]) (fun (p : Bool) => K7 (.nx p)) ?_ ?_
  · skip
    refine GL.region ?_
    refine RL.mv rfl rfl rfl ?_
    refine RL.binI (v := .bool (decide (x0 < (1 : Int)))) rfl rfl rfl rfl rfl ?_
    refine RL.mv rfl rfl rfl ?_
    refine RL.split (t := 10) rfl (fun b13 => ?_) (fun b13 => ?_)
    · replace h8 := ite_t b13 h8
      refine RL.skip rfl rfl ?_
      refine RL.skip rfl rfl ?_
      refine RL.pickT rfl rfl rfl rfl ?_
      refine RL.fin ?_
      cases h8
      exact fun a w st => mid_intro true h9 (St.cut [0] ⟨rfl, rfl, rfl, trivial⟩ (by decide) rfl st)
    · replace h8 := ite_f b13 h8
      refine RL.mv rfl rfl rfl ?_
      refine RL.binI (v := .bool (decide (x0 > (6 : Int)))) rfl rfl rfl rfl rfl ?_
      refine RL.pickF rfl rfl rfl rfl ?_
      refine RL.fin ?_
      cases h8
      exact fun a w st => mid_intro (decide (x0 > (6 : Int))) h9 (St.cut [0] ⟨rfl, rfl, rfl, trivial⟩ (by decide) rfl st)
  · rintro x5 h14
    have h15 := h10 _ h14
    try dsimp only at h15
    refine GL.weak (env' := [(0, .int .i64 x0), (1, v1), (13, .bool x5)]) (L' := [imm (TR.sl TR.int) v1 x1]) (fun _ _ st => st) ?_
    refine GL.cond rfl (fun b16 => ?_) (fun b16 => ?_)
    · replace h15 := ite_t b16 h15
      refine GL.seq ?_
      refine GL.region ?_
      refine RL.asg rfl rfl rfl ?_
      refine RL.finG ?_
      have h15 := Option.some.inj h15
      subst h15
      exact GL.ret (Gx.ret (v := .int .i64 (1 : Int)) (res1 rfl rfl) (fun a w st => st.toPostV))
    · replace h15 := ite_f b16 h15
      refine GL.skip ?_
      refine GL.seq ?_
      refine GL.region ?_
      refine RL.alloc (t := (TR.arr 6 TR.bool)) (z := (List.replicate 6 false)) Try_lo65 (fun S => ⟨rfl, ⟨_, _, rfl, rfl, ⟨_, _, rfl, rfl, ⟨_, _, rfl, rfl, ⟨_, _, rfl, rfl, ⟨_, _, rfl, rfl, ⟨_, _, rfl, rfl, rfl⟩⟩⟩⟩⟩⟩⟩) rfl rfl rfl ?_
      intro v18
      refine RL.finG ?_
      refine GL.seq ?_
      refine GL.seq ?_
      refine GL.region ?_
      refine RL.mv rfl rfl rfl ?_
      refine RL.lenS 0 Try.underlying28 rfl rfl rfl rfl SlOf.imm ?_
      refine RL.mv rfl rfl rfl ?_
      refine RL.finG ?_
      refine GL.open_ 0 rfl (fun S h => len_imm S h) (fun n82 => ?_)
      obtain ⟨y83, K84, h85, h86, h87, h88, h89⟩ := bindR_K h15
      refine GL.join (ι := (List Bool)) (fun (p : (List Bool)) => [(0, .int .i64 x0), (1, v1)]) (fun (p : (List Bool)) => [imm (TR.sl TR.int) v1 x1]) (fun (p : (List Bool)) => K84 (.nx p)) ?_ ?_
      · refine GL.block ?_
        refine GL.loop (ι := Nat × (List Int) × (List Bool)) (fun (p : Nat × (List Int) × (List Bool)) => [(0, .int .i64 x0), (1, v1), (5, v18), (14, v1), (15, .int .i64 ((x1).length : Int)), (16, .int .i64 (p.1 : Int))]) (fun (p : Nat × (List Int) × (List Bool)) => [imm (TR.sl TR.int) v1 x1, obox 65 (TR.arr 6 TR.bool) v18 p.2.2]) (fun (p : Nat × (List Int) × (List Bool)) => p.1 + p.2.1.length = (x1).length ∧ List.drop p.1 x1 = p.2.1 ∧ rangeL (order_Check_b1 x0) p.2.1 p.1 p.2.2 = some y83) (fun (p : Nat × (List Int) × (List Bool)) => p.2.1.length) (0, x1, (List.replicate 6 false)) ⟨by simp, by simp, h85⟩ (fun a w st => St.cut [0, 1] ⟨rfl, rfl, rfl, rfl, rfl, rfl, trivial⟩ (by decide) rfl st) ?_
        rintro ⟨i90, r91, l50⟩ ⟨h96, h97, h95⟩
        try dsimp only at h96 h97 h95
        refine GL.weak (env' := [(0, .int .i64 x0), (1, v1), (5, v18), (14, v1), (15, .int .i64 ((x1).length : Int)), (16, .int .i64 (i90 : Int))]) (L' := [imm (TR.sl TR.int) v1 x1, obox 65 (TR.arr 6 TR.bool) v18 l50]) (fun _ _ st => st) ?_
        refine GL.seq ?_
        refine GL.region ?_
        refine RL.binI (v := .bool (decide ((i90 : Int) < ((x1).length : Int)))) rfl rfl rfl rfl rfl ?_
        refine RL.finG ?_
        refine GL.seq ?_
        refine GL.cond rfl (fun b98 => ?_) (fun b98 => ?_)
        · have h99 : i90 < (x1).length := by have := of_decide_eq_true b98; omega
          obtain ⟨y100, r102, hr, e101, h103⟩ := drop_cons h97 rfl h99
          subst hr
          obtain ⟨z92, h93, h94⟩ := rangeL_some h95
          unfold order_Check_b1 at h93
          try dsimp only at h93
          refine GL.skip ?_
          refine GL.seq ?_
          refine GL.block ?_
          refine GL.seq ?_
          refine GL.region ?_
          refine RL.idxS (sz := 1) 0 Try.underlying28 Try_ln3 rfl rfl rfl rfl rfl SlOf.imm (by omega) (by omega) ?_
          refine RL.ldSx (i := i90) (e' := y100) 0 Ex.ik Try_ln3 rfl rfl rfl rfl SlOf.imm e101 Part.self ?_
          refine RL.asg rfl rfl rfl ?_
          refine RL.finG ?_
          refine GL.seq ?_
          refine GL.seq ?_
          obtain ⟨y113, K114, h115, h116, h117, h118, h119⟩ := bindF_K h93
          refine GL.join (ι := Bool) (fun (p : Bool) => [(0, .int .i64 x0), (1, v1), (5, v18), (7, .int .i64 y100), (14, v1), (15, .int .i64 ((x1).length : Int)), (16, .int .i64 (i90 : Int)), (31, .bool p)]) (fun (p : Bool) => [imm (TR.sl TR.int) v1 x1, obox 65 (TR.arr 6 TR.bool) v18 l50]) (fun (p : Bool) => K114 (.nx p)) ?_ ?_
          · skip
            refine GL.region ?_
            refine RL.mv rfl rfl rfl ?_
            refine RL.binI (v := .bool (decide (y100 < (0 : Int)))) rfl rfl rfl rfl rfl ?_
            refine RL.mv rfl rfl rfl ?_
            refine RL.split (t := 22) rfl (fun b120 => ?_) (fun b120 => ?_)
            · replace h115 := ite_t b120 h115
              refine RL.skip rfl rfl ?_
              refine RL.skip rfl rfl ?_
              refine RL.skip rfl rfl ?_
              refine RL.pickT rfl rfl rfl rfl ?_
              refine RL.mv rfl rfl rfl ?_
              refine RL.skip rfl rfl ?_
              refine RL.skip rfl rfl ?_
              refine RL.skip rfl rfl ?_
              refine RL.pickT rfl rfl rfl rfl ?_
              refine RL.fin ?_
              cases h115
              exact fun a w st => mid_intro true h116 (St.cut [0, 1] ⟨rfl, rfl, rfl, rfl, rfl, rfl, rfl, rfl, trivial⟩ (by decide) rfl st)
            · replace h115 := ite_f b120 h115
              refine RL.mv rfl rfl rfl ?_
              refine RL.mv rfl rfl rfl ?_
              refine RL.binI (v := .bool (decide (y100 ≥ x0))) rfl rfl rfl rfl rfl ?_
              refine RL.pickF rfl rfl rfl rfl ?_
              refine RL.mv rfl rfl rfl ?_
              refine RL.split (t := 27) rfl (fun b121 => ?_) (fun b121 => ?_)
              · replace h115 := ite_t b121 h115
                refine RL.skip rfl rfl ?_
                refine RL.skip rfl rfl ?_
                refine RL.skip rfl rfl ?_
                refine RL.pickT rfl rfl rfl rfl ?_
                refine RL.fin ?_
                cases h115
                exact fun a w st => mid_intro true h116 (St.cut [0, 1] ⟨rfl, rfl, rfl, rfl, rfl, rfl, rfl, rfl, trivial⟩ (by decide) rfl st)
              · replace h115 := ite_f b121 h115
                refine RL.mv rfl rfl rfl ?_
                obtain ⟨y122, e123, h115⟩ := bind_some h115
                refine RL.idxA0 (sz := 1) (t' := TR.bool) 1 Try.underlying65 Try_ln4 rfl rfl rfl PtOf.obox rfl rfl Part.self (idx_some e123).1 (idx_some e123).2.1 ?_
                refine RL.ldPx (off := ((y100).toNat * 1)) (e' := y122) 1 Ex.bool Try_ln4 rfl rfl (Or.inl rfl) rfl PtOf.obox (Part.arr (idx_some e123).2.2 Part.self) ?_
                refine RL.pickF rfl rfl rfl rfl ?_
                refine RL.fin ?_
                cases h115
                exact fun a w st => mid_intro y122 h116 (St.cut [0, 1] ⟨rfl, rfl, rfl, rfl, rfl, rfl, rfl, rfl, trivial⟩ (by decide) rfl st)
          · rintro x112 h124
            have h125 := h117 _ h124
            try dsimp only at h125
            refine GL.weak (env' := [(0, .int .i64 x0), (1, v1), (5, v18), (7, .int .i64 y100), (14, v1), (15, .int .i64 ((x1).length : Int)), (16, .int .i64 (i90 : Int)), (31, .bool x112)]) (L' := [imm (TR.sl TR.int) v1 x1, obox 65 (TR.arr 6 TR.bool) v18 l50]) (fun _ _ st => st) ?_
            refine GL.cond rfl (fun b126 => ?_) (fun b126 => ?_)
            · replace h125 := ite_t b126 h125
              refine GL.seq ?_
              refine GL.region ?_
              refine RL.asg rfl rfl rfl ?_
              refine RL.finG ?_
              cases h125
              replace h94 : some (Fl.rt _) = some y83 := h94
              cases h94
              have hh := h88 _ h86
              subst hh
              exact GL.ret (Gx.ret (v := .int .i64 (3 : Int)) (res1 rfl rfl) (fun a w st => st.toPostV))
            · replace h125 := ite_f b126 h125
              refine GL.skip ?_
              refine GL.region ?_
              refine RL.mv rfl rfl rfl ?_
              obtain ⟨y129, e130, h125⟩ := bind_some h125
              refine RL.idxA0 (sz := 1) (t' := TR.bool) 1 Try.underlying65 Try_ln4 rfl rfl rfl PtOf.obox rfl rfl Part.self (idx_some e130).1 (idx_some e130).2.1 ?_
              refine RL.stP (off := ((y100).toNat * 1)) (e' := true) (d1 := (List.set l50 ((y100).toNat) true)) (r := TR.bool) 1 Try_ln4 rfl rfl (Or.inl rfl) rfl VR.bool rfl (Upd.arr (idx_some e130).2.2 Upd.self) ?_
              refine RL.finG ?_
              refine GL.nilB ?_
              refine GL.region ?_
              refine RL.binI (v := .int .i64 ((i90 + 1 : Nat) : Int)) rfl rfl rfl rfl (binI_succ i90 (by omega)) ?_
              refine RL.mv rfl rfl rfl ?_
              refine RL.fin ?_
              cases h125
              exact fun a w st => lop_intro (i90 + 1, r102, (List.set l50 ((y100).toNat) true)) ⟨by show i90 + 1 + r102.length = (x1).length; simp only [List.length_cons] at h96; omega, h103, h94⟩ (by simp) (St.cut [0, 1] ⟨rfl, rfl, rfl, rfl, rfl, rfl, trivial⟩ (by decide) rfl st)
        · have h99 : ¬ i90 < (x1).length := by have := of_decide_eq_false b98; omega
          obtain rfl : r91 = [] := by rw [← h97]; exact List.drop_of_length_le (by omega)
          replace h95 : some (Fl.nx _) = some y83 := h95
          cases h95
          exact GL.exit (fun a w st => mid_intro l50 h86 (St.cut [0] ⟨rfl, rfl, trivial⟩ (by decide) rfl st))
      · rintro l50 h131
        have h132 := h87 _ h131
        try dsimp only at h132
        refine GL.weak (env' := [(0, .int .i64 x0), (1, v1)]) (L' := [imm (TR.sl TR.int) v1 x1]) (fun _ _ st => st) ?_
        refine GL.seq ?_
        refine GL.seq ?_
        refine GL.region ?_
        refine RL.mv rfl rfl rfl ?_
        refine RL.lenS 0 Try.underlying28 rfl rfl rfl rfl SlOf.imm ?_
        refine RL.mv rfl rfl rfl ?_
        refine RL.binI (v := .bool (((x1).length : Int) != x0)) rfl rfl rfl rfl rfl ?_
        refine RL.finG ?_
        refine GL.cond rfl (fun b133 => ?_) (fun b133 => ?_)
        · replace h132 := ite_t b133 h132
          refine GL.seq ?_
          refine GL.region ?_
          refine RL.asg rfl rfl rfl ?_
          refine RL.finG ?_
          have h132 := Option.some.inj h132
          subst h132
          exact GL.ret (Gx.ret (v := .int .i64 (3 : Int)) (res1 rfl rfl) (fun a w st => st.toPostV))
        · replace h132 := ite_f b133 h132
          refine GL.skip ?_
          refine GL.seq ?_
          refine GL.region ?_
          refine RL.asg rfl rfl rfl ?_
          refine RL.finG ?_
          have h132 := Option.some.inj h132
          subst h132
          exact GL.ret (Gx.ret (v := .int .i64 (0 : Int)) (res1 rfl rfl) (fun a w st => st.toPostV))

set_option maxHeartbeats 4000000 in
theorem tally_Check_c (S : Hp) (w : World) (hS : S.sub w) (x0 : Int) (v1 : Value) (x1 : (List (List Int))) (k1 : ((TR.sl (TR.sl TR.int))).vrep S v1 x1) (res : Int) (hm : tally_Check_m x0 x1 = some res) : Calls Try.prog 45 #[.int .i64 x0, v1] w (PostV w (.int .i64 res)) := by
  refine calls_enter 27 Try.func45 Try.ntmps45 rfl S false [(0, .int .i64 x0), (1, v1)] [imm (TR.sl (TR.sl TR.int)) v1 x1] rfl ⟨rfl, ⟨rfl, trivial⟩⟩ hS ⟨k1, trivial⟩ ?_
  unfold tally_Check_m at hm
  refine GL.seq ?_
  refine GL.region ?_
  refine RL.asg rfl rfl rfl ?_
  refine RL.finG ?_
  refine GL.seq ?_
  refine GL.seq ?_
  obtain ⟨y6, K7, h8, h9, h10, h11, h12⟩ := bindR_K hm
  refine GL.join (ι := Bool) (fun (p : Bool) => [(0, .int .i64 x0), (1, v1), (12, .bool p)]) (fun (p : Bool) => [imm (TR.sl (TR.sl TR.int)) v1 x1]) (fun (p : Bool) => K7 (.nx p)) ?_ ?_
  · skip
    refine GL.region ?_
    refine RL.mv rfl rfl rfl ?_
    refine RL.binI (v := .bool (decide (x0 < (1 : Int)))) rfl rfl rfl rfl rfl ?_
    refine RL.mv rfl rfl rfl ?_
    refine RL.split (t := 9) rfl (fun b13 => ?_) (fun b13 => ?_)
    · replace h8 := ite_t b13 h8
      refine RL.skip rfl rfl ?_
      refine RL.skip rfl rfl ?_
      refine RL.pickT rfl rfl rfl rfl ?_
      refine RL.fin ?_
      cases h8
      exact fun a w st => mid_intro true h9 (St.cut [0] ⟨rfl, rfl, rfl, trivial⟩ (by decide) rfl st)
    · replace h8 := ite_f b13 h8
      refine RL.mv rfl rfl rfl ?_
      refine RL.binI (v := .bool (decide (x0 > (6 : Int)))) rfl rfl rfl rfl rfl ?_
      refine RL.pickF rfl rfl rfl rfl ?_
      refine RL.fin ?_
      cases h8
      exact fun a w st => mid_intro (decide (x0 > (6 : Int))) h9 (St.cut [0] ⟨rfl, rfl, rfl, trivial⟩ (by decide) rfl st)
  · rintro x5 h14
    have h15 := h10 _ h14
    try dsimp only at h15
    refine GL.weak (env' := [(0, .int .i64 x0), (1, v1), (12, .bool x5)]) (L' := [imm (TR.sl (TR.sl TR.int)) v1 x1]) (fun _ _ st => st) ?_
    refine GL.cond rfl (fun b16 => ?_) (fun b16 => ?_)
    · replace h15 := ite_t b16 h15
      refine GL.seq ?_
      refine GL.region ?_
      refine RL.asg rfl rfl rfl ?_
      refine RL.finG ?_
      have h15 := Option.some.inj h15
      subst h15
      exact GL.ret (Gx.ret (v := .int .i64 (1 : Int)) (res1 rfl rfl) (fun a w st => st.toPostV))
    · replace h15 := ite_f b16 h15
      refine GL.skip ?_
      refine GL.seq ?_
      refine GL.seq ?_
      refine GL.region ?_
      refine RL.mv rfl rfl rfl ?_
      refine RL.lenS 0 Try.underlying22 rfl rfl rfl rfl SlOf.imm ?_
      refine RL.binI (v := .bool (decide (((x1).length : Int) > (30 : Int)))) rfl rfl rfl rfl rfl ?_
      refine RL.finG ?_
      refine GL.cond rfl (fun b17 => ?_) (fun b17 => ?_)
      · replace h15 := ite_t b17 h15
        refine GL.seq ?_
        refine GL.region ?_
        refine RL.asg rfl rfl rfl ?_
        refine RL.finG ?_
        have h15 := Option.some.inj h15
        subst h15
        exact GL.ret (Gx.ret (v := .int .i64 (2 : Int)) (res1 rfl rfl) (fun a w st => st.toPostV))
      · replace h15 := ite_f b17 h15
        refine GL.skip ?_
        refine GL.seq ?_
        refine GL.seq ?_
        refine GL.region ?_
        refine RL.mv rfl rfl rfl ?_
        refine RL.lenS 0 Try.underlying22 rfl rfl rfl rfl SlOf.imm ?_
        refine RL.mv rfl rfl rfl ?_
        refine RL.finG ?_
        refine GL.open_ 0 rfl (fun S h => len_imm S h) (fun n29 => ?_)
        obtain ⟨y30, K31, h32, h33, h34, h35, h36⟩ := bindR_K h15
        refine GL.join (ι := Unit) (fun (p : Unit) => []) (fun (p : Unit) => []) (fun (p : Unit) => K31 (.nx ())) ?_ ?_
        · refine GL.block ?_
          refine GL.loop (ι := Nat × (List (List Int))) (fun (p : Nat × (List (List Int))) => [(0, .int .i64 x0), (16, v1), (17, .int .i64 ((x1).length : Int)), (18, .int .i64 (p.1 : Int))]) (fun (p : Nat × (List (List Int))) => [imm (TR.sl (TR.sl TR.int)) v1 x1]) (fun (p : Nat × (List (List Int))) => p.1 + p.2.length = (x1).length ∧ List.drop p.1 x1 = p.2 ∧ rangeL (tally_Check_b1 x0) p.2 p.1 () = some y30) (fun (p : Nat × (List (List Int))) => p.2.length) (0, x1) ⟨by simp, by simp, h32⟩ (fun a w st => St.cut [0] ⟨rfl, rfl, rfl, rfl, trivial⟩ (by decide) rfl st) ?_
          rintro ⟨i37, r38⟩ ⟨h43, h44, h42⟩
          try dsimp only at h43 h44 h42
          refine GL.weak (env' := [(0, .int .i64 x0), (16, v1), (17, .int .i64 ((x1).length : Int)), (18, .int .i64 (i37 : Int))]) (L' := [imm (TR.sl (TR.sl TR.int)) v1 x1]) (fun _ _ st => st) ?_
          refine GL.seq ?_
          refine GL.region ?_
          refine RL.binI (v := .bool (decide ((i37 : Int) < ((x1).length : Int)))) rfl rfl rfl rfl rfl ?_
          refine RL.finG ?_
          refine GL.seq ?_
          refine GL.cond rfl (fun b45 => ?_) (fun b45 => ?_)
          · have h46 : i37 < (x1).length := by have := of_decide_eq_true b45; omega
            obtain ⟨y47, r49, hr, e48, h50⟩ := drop_cons h44 rfl h46
            subst hr
            obtain ⟨z39, h40, h41⟩ := rangeL_some h42
            unfold tally_Check_b1 at h40
            try dsimp only at h40
            refine GL.skip ?_
            refine GL.seq ?_
            refine GL.block ?_
            refine GL.seq ?_
            refine GL.region ?_
            refine RL.idxS (sz := 1) 0 Try.underlying22 Try_ln28 rfl rfl rfl rfl rfl SlOf.imm (by omega) (by omega) ?_
            refine RL.ldS (i := i37) (r := (TR.sl TR.int)) (e' := y47) 0 Try_ln28 rfl rfl rfl rfl SlOf.imm e48 Part.self ?_
            intro v52
            refine RL.asg rfl rfl rfl ?_
            refine RL.finG ?_
            refine GL.seq ?_
            refine GL.region ?_
            refine RL.mv rfl rfl rfl ?_
            refine RL.mv rfl rfl rfl ?_
            obtain ⟨y55, e56, h40⟩ := bind_some h40
            refine RL.callV (v := .int .i64 y55) (vs := [.int .i64 x0, v52]) Try_fit53 rfl (Or.inl rfl) rfl rfl rfl rfl (fun U w hU hW hL => order_Check_c U w hU x0 _ _ (hL 1 _ _ rfl Seen.imm) _ e56) ?_
            refine RL.binI (v := .bool (y55 != (0 : Int))) rfl rfl rfl rfl rfl ?_
            refine RL.finG ?_
            refine GL.cond rfl (fun b57 => ?_) (fun b57 => ?_)
            · replace h40 := ite_t b57 h40
              refine GL.seq ?_
              refine GL.region ?_
              refine RL.asg rfl rfl rfl ?_
              refine RL.finG ?_
              cases h40
              replace h41 : some (Fl.rt _) = some y30 := h41
              cases h41
              have hh := h35 _ h33
              subst hh
              exact GL.ret (Gx.ret (v := .int .i64 (3 : Int)) (res1 rfl rfl) (fun a w st => st.toPostV))
            · replace h40 := ite_f b57 h40
              refine GL.skip ?_
              refine GL.nilB ?_
              refine GL.region ?_
              refine RL.binI (v := .int .i64 ((i37 + 1 : Nat) : Int)) rfl rfl rfl rfl (binI_succ i37 (by omega)) ?_
              refine RL.mv rfl rfl rfl ?_
              refine RL.fin ?_
              cases h40
              exact fun a w st => lop_intro (i37 + 1, r49) ⟨by show i37 + 1 + r49.length = (x1).length; simp only [List.length_cons] at h43; omega, h50, h41⟩ (by simp) (St.cut [0] ⟨rfl, rfl, rfl, rfl, trivial⟩ (by decide) rfl st)
          · have h46 : ¬ i37 < (x1).length := by have := of_decide_eq_false b45; omega
            obtain rfl : r38 = [] := by rw [← h44]; exact List.drop_of_length_le (by omega)
            replace h42 : some (Fl.nx _) = some y30 := h42
            cases h42
            exact GL.exit (fun a w st => mid_intro () h33 (St.cut [] trivial (by decide) rfl st))
        · rintro ⟨⟩ h58
          have h59 := h34 _ h58
          try dsimp only at h59
          refine GL.weak (env' := []) (L' := []) (fun _ _ st => st) ?_
          refine GL.seq ?_
          refine GL.region ?_
          refine RL.asg rfl rfl rfl ?_
          refine RL.finG ?_
          have h59 := Option.some.inj h59
          subst h59
          exact GL.ret (Gx.ret (v := .int .i64 (0 : Int)) (res1 rfl rfl) (fun a w st => st.toPostV))

set_option maxHeartbeats 4000000 in
theorem tally_Duels_c (S : Hp) (w : World) (hS : S.sub w) (x0 : Int) (v1 : Value) (x1 : (List (List Int))) (k1 : ((TR.sl (TR.sl TR.int))).vrep S v1 x1) (res : (List (List Int)) × Int) (hm : tally_Duels_m x0 x1 = some res) : Calls Try.prog 24 #[.int .i64 x0, v1] w (Post w S (fun (o : Value) => .tuple #[o, .int .i64 res.2]) (fun (o : Value) => [imm (TR.sl (TR.sl TR.int)) o res.1])) := by
  refine calls_enter 69 Try.func24 Try.ntmps24 rfl S false [(0, .int .i64 x0), (1, v1)] [imm (TR.sl (TR.sl TR.int)) v1 x1] rfl ⟨rfl, ⟨rfl, trivial⟩⟩ hS ⟨k1, trivial⟩ ?_
  unfold tally_Duels_m at hm
  refine GL.seq ?_
  refine GL.region ?_
  refine RL.asg rfl rfl rfl ?_
  refine RL.asg rfl rfl rfl ?_
  refine RL.finG ?_
  refine GL.seq ?_
  refine GL.seq ?_
  refine GL.region ?_
  refine RL.mv rfl rfl rfl ?_
  refine RL.mv rfl rfl rfl ?_
  obtain ⟨y5, e6, hm⟩ := bind_some hm
  refine RL.callV (v := .int .i64 y5) (vs := [.int .i64 x0, v1]) Try_fit45 rfl (Or.inl rfl) rfl rfl rfl rfl (fun U w hU hW hL => tally_Check_c U w hU x0 _ _ (hL 0 _ _ rfl Seen.imm) _ e6) ?_
  refine RL.asg rfl rfl rfl ?_
  refine RL.finG ?_
  refine GL.seq ?_
  refine GL.region ?_
  refine RL.mv rfl rfl rfl ?_
  refine RL.binI (v := .bool (y5 != (0 : Int))) rfl rfl rfl rfl rfl ?_
  refine RL.finG ?_
  refine GL.cond rfl (fun b7 => ?_) (fun b7 => ?_)
  · replace hm := ite_t b7 hm
    refine GL.seq ?_
    refine GL.region ?_
    refine RL.mv rfl rfl rfl ?_
    refine RL.asg rfl rfl rfl ?_
    refine RL.asg rfl rfl rfl ?_
    refine RL.finG ?_
    refine GL.weak (fun a w st => st.nilImm (TR.sl TR.int)) ?_
    have hm := Option.some.inj hm
    subst hm
    exact GL.ret (Gx.ret (v := .tuple #[Value.slice none 0 0, .int .i64 y5]) (res2 rfl rfl rfl) (fun a w st => (st.pick [1] (by decide) rfl).toPost (Value.slice none 0 0)))
  · replace hm := ite_f b7 hm
    refine GL.skip ?_
    refine GL.seq ?_
    refine GL.region ?_
    refine RL.mv rfl rfl rfl ?_
    obtain ⟨y11, e12, hm⟩ := bind_some hm
    replace e12 := chk_some e12
    refine RL.mkS (t := TR.raw) (z := .slice none 0 0) Try.underlying22 Try_lo28 (fun S => ⟨rfl, rfl⟩) rfl rfl rfl rfl e12.1 e12.2 ?_
    intro v13
    refine RL.weak (fun a w st => st.toRows 3 TR.int 1 rfl) ?_
    refine RL.reL (L' := [imm (TR.sl (TR.sl TR.int)) v1 x1, own2 28 3 TR.int v13 (List.replicate (x0).toNat (Value.slice none 0 0)) (List.replicate (x0).toNat ([] : (List Int)))]) rfl ?_
    refine RL.asg rfl rfl rfl ?_
    refine RL.finG ?_
    refine GL.seq ?_
    refine GL.seq ?_
    refine GL.region ?_
    refine RL.mv rfl rfl rfl ?_
    refine RL.lenR 1 Try.underlying22 rfl rfl rfl rfl ?_
    refine RL.mv rfl rfl rfl ?_
    refine RL.finG ?_
    refine GL.lenR 1 rfl (fun n36 => ?_)
    obtain ⟨y37, K38, h39, h40, h41, h42, h43⟩ := bindR_K hm
    refine GL.join (ι := (List (List Int)) × (List Value)) (fun (p : (List (List Int)) × (List Value)) => [(1, v1), (7, v13)]) (fun (p : (List (List Int)) × (List Value)) => [imm (TR.sl (TR.sl TR.int)) v1 x1, own2 28 3 TR.int v13 p.2 p.1]) (fun (p : (List (List Int)) × (List Value)) => K38 (.nx p.1)) ?_ ?_
    · refine GL.block ?_
      refine GL.loop (ι := Nat × Nat × (List (List Int)) × (List Value)) (fun (p : Nat × Nat × (List (List Int)) × (List Value)) => [(0, .int .i64 x0), (1, v1), (7, v13), (24, .int .i64 (((List.replicate (x0).toNat ([] : (List Int)))).length : Int)), (25, .int .i64 (p.1 : Int))]) (fun (p : Nat × Nat × (List (List Int)) × (List Value)) => [imm (TR.sl (TR.sl TR.int)) v1 x1, own2 28 3 TR.int v13 p.2.2.2 p.2.2.1]) (fun (p : Nat × Nat × (List (List Int)) × (List Value)) => p.1 + p.2.1 = ((List.replicate (x0).toNat ([] : (List Int)))).length ∧ rangeN (tally_Duels_b1 x0) p.2.1 p.1 p.2.2.1 = some y37) (fun (p : Nat × Nat × (List (List Int)) × (List Value)) => p.2.1) (0, ((List.replicate (x0).toNat ([] : (List Int)))).length, (List.replicate (x0).toNat ([] : (List Int))), (List.replicate (x0).toNat (Value.slice none 0 0))) ⟨by simp, h39⟩ (fun a w st => St.cut [0, 1] ⟨rfl, rfl, rfl, rfl, rfl, trivial⟩ (by decide) rfl st) ?_
      rintro ⟨i44, r45, l24, V25⟩ ⟨h50, h49⟩
      try dsimp only at h50 h49
      refine GL.weak (env' := [(0, .int .i64 x0), (1, v1), (7, v13), (24, .int .i64 (((List.replicate (x0).toNat ([] : (List Int)))).length : Int)), (25, .int .i64 (i44 : Int))]) (L' := [imm (TR.sl (TR.sl TR.int)) v1 x1, own2 28 3 TR.int v13 V25 l24]) (fun _ _ st => st) ?_
      refine GL.seq ?_
      refine GL.region ?_
      refine RL.binI (v := .bool (decide ((i44 : Int) < (((List.replicate (x0).toNat ([] : (List Int)))).length : Int)))) rfl rfl rfl rfl rfl ?_
      refine RL.finG ?_
      refine GL.seq ?_
      refine GL.cond rfl (fun b52 => ?_) (fun b52 => ?_)
      · have h53 : i44 < ((List.replicate (x0).toNat ([] : (List Int)))).length := by have := of_decide_eq_true b52; omega
        obtain ⟨r54, hr⟩ : ∃ m, r45 = m + 1 := ⟨r45 - 1, by omega⟩
        subst hr
        obtain ⟨z46, h47, h48⟩ := rangeN_some h49
        unfold tally_Duels_b1 at h47
        try dsimp only at h47
        refine GL.skip ?_
        refine GL.seq ?_
        refine GL.block ?_
        refine GL.seq ?_
        refine GL.region ?_
        refine RL.mv rfl rfl rfl ?_
        refine RL.asg rfl rfl rfl ?_
        refine RL.finG ?_
        refine GL.region ?_
        refine RL.mv rfl rfl rfl ?_
        refine RL.mv rfl rfl rfl ?_
        refine RL.mv rfl rfl rfl ?_
        obtain ⟨y60, e61, h47⟩ := bind_some h47
        replace e61 := chk_some e61
        refine RL.mkS (t := TR.int) (z := (0 : Int)) Try.underlying28 Try_lo3 (fun S => rfl) rfl rfl rfl rfl e61.1 e61.2 ?_
        intro v62
        obtain ⟨y63, e64, h47⟩ := bind_some h47
        refine RL.idxR 1 Try.underlying22 Try_ln28 rfl rfl rfl rfl rfl (idx_some e64).1 (idx_some e64).2.1 ?_
        refine RL.stSp (i := i44) (r0 := y63) 1 2 (by decide) Try_ln28 rfl rfl rfl rfl rfl rfl (idx_some e64).2.2 ?_
        refine RL.reL (L' := [imm (TR.sl (TR.sl TR.int)) v1 x1, own2 28 3 TR.int v13 (List.set V25 i44 v62) (List.set l24 i44 (List.replicate (x0).toNat (0 : Int))), gone]) rfl ?_
        refine RL.finG ?_
        refine GL.nilB ?_
        refine GL.region ?_
        refine RL.binI (v := .int .i64 ((i44 + 1 : Nat) : Int)) rfl rfl rfl rfl (binI_succ i44 (by omega)) ?_
        refine RL.mv rfl rfl rfl ?_
        refine RL.fin ?_
        cases h47
        exact fun a w st => lop_intro (i44 + 1, r54, (List.set l24 i44 (List.replicate (x0).toNat (0 : Int))), (List.set V25 i44 v62)) ⟨by show i44 + 1 + r54 = ((List.replicate (x0).toNat ([] : (List Int)))).length; omega, h48⟩ (by simp) (St.cut [0, 1] ⟨rfl, rfl, rfl, rfl, rfl, trivial⟩ (by decide) rfl st)
      · have h53 : ¬ i44 < ((List.replicate (x0).toNat ([] : (List Int)))).length := by have := of_decide_eq_false b52; omega
        obtain rfl : r45 = 0 := by omega
        replace h49 : some (Fl.nx _) = some y37 := h49
        cases h49
        exact GL.exit (fun a w st => mid_intro (l24, V25) h40 (St.cut [0, 1] ⟨rfl, rfl, trivial⟩ (by decide) rfl st))
    · rintro ⟨l24, V25⟩ h65
      have h66 := h41 _ h65
      try dsimp only at h66
      refine GL.weak (env' := [(1, v1), (7, v13)]) (L' := [imm (TR.sl (TR.sl TR.int)) v1 x1, own2 28 3 TR.int v13 V25 l24]) (fun _ _ st => st) ?_
      refine GL.seq ?_
      refine GL.seq ?_
      refine GL.region ?_
      refine RL.mv rfl rfl rfl ?_
      refine RL.lenS 0 Try.underlying22 rfl rfl rfl rfl SlOf.imm ?_
      refine RL.mv rfl rfl rfl ?_
      refine RL.finG ?_
      refine GL.open_ 0 rfl (fun S h => len_imm S h) (fun n605 => ?_)
      obtain ⟨y606, K607, h608, h609, h610, h611, h612⟩ := bindR_K h66
      refine GL.join (ι := (List (List Int)) × (List Value)) (fun (p : (List (List Int)) × (List Value)) => [(7, v13)]) (fun (p : (List (List Int)) × (List Value)) => [own2 28 3 TR.int v13 p.2 p.1]) (fun (p : (List (List Int)) × (List Value)) => K607 (.nx p.1)) ?_ ?_
      · refine GL.block ?_
        refine GL.loop (ι := Nat × (List (List Int)) × (List (List Int)) × (List Value)) (fun (p : Nat × (List (List Int)) × (List (List Int)) × (List Value)) => [(7, v13), (34, v1), (35, .int .i64 ((x1).length : Int)), (36, .int .i64 (p.1 : Int))]) (fun (p : Nat × (List (List Int)) × (List (List Int)) × (List Value)) => [own2 28 3 TR.int v13 p.2.2.2 p.2.2.1, imm (TR.sl (TR.sl TR.int)) v1 x1]) (fun (p : Nat × (List (List Int)) × (List (List Int)) × (List Value)) => p.1 + p.2.1.length = (x1).length ∧ List.drop p.1 x1 = p.2.1 ∧ rangeL tally_Duels_b2 p.2.1 p.1 p.2.2.1 = some y606) (fun (p : Nat × (List (List Int)) × (List (List Int)) × (List Value)) => p.2.1.length) (0, x1, l24, V25) ⟨by simp, by simp, h608⟩ (fun a w st => St.cut [1, 0] ⟨rfl, rfl, rfl, rfl, trivial⟩ (by decide) rfl st) ?_
        rintro ⟨i613, r614, l335, V336⟩ ⟨h619, h620, h618⟩
        try dsimp only at h619 h620 h618
        refine GL.weak (env' := [(7, v13), (34, v1), (35, .int .i64 ((x1).length : Int)), (36, .int .i64 (i613 : Int))]) (L' := [own2 28 3 TR.int v13 V336 l335, imm (TR.sl (TR.sl TR.int)) v1 x1]) (fun _ _ st => st) ?_
        refine GL.seq ?_
        refine GL.region ?_
        refine RL.binI (v := .bool (decide ((i613 : Int) < ((x1).length : Int)))) rfl rfl rfl rfl rfl ?_
        refine RL.finG ?_
        refine GL.seq ?_
        refine GL.cond rfl (fun b621 => ?_) (fun b621 => ?_)
        · have h622 : i613 < (x1).length := by have := of_decide_eq_true b621; omega
          obtain ⟨y623, r625, hr, e624, h626⟩ := drop_cons h620 rfl h622
          subst hr
          obtain ⟨z615, h616, h617⟩ := rangeL_some h618
          unfold tally_Duels_b2 at h616
          try dsimp only at h616
          refine GL.skip ?_
          refine GL.seq ?_
          refine GL.block ?_
          refine GL.seq ?_
          refine GL.region ?_
          refine RL.idxS (sz := 1) 1 Try.underlying22 Try_ln28 rfl rfl rfl rfl rfl SlOf.imm (by omega) (by omega) ?_
          refine RL.ldS (i := i613) (r := (TR.sl TR.int)) (e' := y623) 1 Try_ln28 rfl rfl rfl rfl SlOf.imm e624 Part.self ?_
          intro v628
          refine RL.asg rfl rfl rfl ?_
          refine RL.finG ?_
          refine GL.seq ?_
          refine GL.region ?_
          refine RL.mv rfl rfl rfl ?_
          refine RL.lenS 2 Try.underlying28 rfl rfl rfl rfl SlOf.imm ?_
          refine RL.mv rfl rfl rfl ?_
          refine RL.finG ?_
          refine GL.open_ 2 rfl (fun S h => len_imm S h) (fun n791 => ?_)
          obtain ⟨y792, K793, h794, h795, h796, h797, h798⟩ := bindF_K h616
          refine GL.join (ι := (List (List Int)) × (List Value)) (fun (p : (List (List Int)) × (List Value)) => [(7, v13), (34, v1), (35, .int .i64 ((x1).length : Int)), (36, .int .i64 (i613 : Int))]) (fun (p : (List (List Int)) × (List Value)) => [own2 28 3 TR.int v13 p.2 p.1, imm (TR.sl (TR.sl TR.int)) v1 x1]) (fun (p : (List (List Int)) × (List Value)) => K793 (.nx p.1)) ?_ ?_
          · refine GL.block ?_
            refine GL.loop (ι := Nat × (List Int) × (List (List Int)) × (List Value)) (fun (p : Nat × (List Int) × (List (List Int)) × (List Value)) => [(7, v13), (10, v628), (34, v1), (35, .int .i64 ((x1).length : Int)), (36, .int .i64 (i613 : Int)), (40, v628), (41, .int .i64 ((y623).length : Int)), (42, .int .i64 (p.1 : Int))]) (fun (p : Nat × (List Int) × (List (List Int)) × (List Value)) => [own2 28 3 TR.int v13 p.2.2.2 p.2.2.1, imm (TR.sl TR.int) v628 y623, imm (TR.sl (TR.sl TR.int)) v1 x1]) (fun (p : Nat × (List Int) × (List (List Int)) × (List Value)) => p.1 + p.2.1.length = (y623).length ∧ List.drop p.1 y623 = p.2.1 ∧ rangeL (tally_Duels_b3 y623) p.2.1 p.1 p.2.2.1 = some y792) (fun (p : Nat × (List Int) × (List (List Int)) × (List Value)) => p.2.1.length) (0, y623, l335, V336) ⟨by simp, by simp, h794⟩ (fun a w st => St.cut [0, 2, 1] ⟨rfl, rfl, rfl, rfl, rfl, rfl, rfl, rfl, trivial⟩ (by decide) rfl st) ?_
            rintro ⟨i799, r800, l709, V710⟩ ⟨h805, h806, h804⟩
            try dsimp only at h805 h806 h804
            refine GL.weak (env' := [(7, v13), (10, v628), (34, v1), (35, .int .i64 ((x1).length : Int)), (36, .int .i64 (i613 : Int)), (40, v628), (41, .int .i64 ((y623).length : Int)), (42, .int .i64 (i799 : Int))]) (L' := [own2 28 3 TR.int v13 V710 l709, imm (TR.sl TR.int) v628 y623, imm (TR.sl (TR.sl TR.int)) v1 x1]) (fun _ _ st => st) ?_
            refine GL.seq ?_
            refine GL.region ?_
            refine RL.binI (v := .bool (decide ((i799 : Int) < ((y623).length : Int)))) rfl rfl rfl rfl rfl ?_
            refine RL.finG ?_
            refine GL.seq ?_
            refine GL.cond rfl (fun b807 => ?_) (fun b807 => ?_)
            · have h808 : i799 < (y623).length := by have := of_decide_eq_true b807; omega
              obtain ⟨y809, r811, hr, e810, h812⟩ := drop_cons h806 rfl h808
              subst hr
              obtain ⟨z801, h802, h803⟩ := rangeL_some h804
              unfold tally_Duels_b3 at h802
              try dsimp only at h802
              refine GL.skip ?_
              refine GL.seq ?_
              refine GL.block ?_
              refine GL.seq ?_
              refine GL.region ?_
              refine RL.mv rfl rfl rfl ?_
              refine RL.idxS (sz := 1) 1 Try.underlying28 Try_ln3 rfl rfl rfl rfl rfl SlOf.imm (by omega) (by omega) ?_
              refine RL.ldSx (i := i799) (e' := y809) 1 Ex.ik Try_ln3 rfl rfl rfl rfl SlOf.imm e810 Part.self ?_
              refine RL.asg rfl rfl rfl ?_
              refine RL.asg rfl rfl rfl ?_
              refine RL.finG ?_
              refine GL.seq ?_
              refine GL.region ?_
              refine RL.mv rfl rfl rfl ?_
              refine RL.mv rfl rfl rfl ?_
              refine RL.binI (v := .int .i64 (wadd (i799 : Int) (1 : Int))) rfl rfl rfl rfl rfl ?_
              obtain ⟨y816, e817, h802⟩ := bind_some h802
              replace e817 := chk_some e817
              refine RL.slc (t := TR.int) (i := (wadd (i799 : Int) (1 : Int)).toNat) (j := (y623).length) (sz := 1) 1 Try.underlying28 Try_ln3 rfl rfl rfl rfl (Or.inr ⟨_, _, rfl, by rw [Int.toNat_of_nonneg (by omega)]; rfl⟩) (Or.inl ⟨rfl, rfl⟩) rfl (by omega) (by omega) ?_
              intro v818
              refine RL.lenS 3 Try.underlying28 rfl rfl rfl rfl SlOf.imm ?_
              refine RL.mv rfl rfl rfl ?_
              refine RL.finG ?_
              refine GL.open_ 3 rfl (fun S h => len_imm S h) (fun n853 => ?_)
              obtain ⟨y854, K855, h856, h857, h858, h859, h860⟩ := bindF_K h802
              refine GL.join (ι := (List (List Int)) × (List Value)) (fun (p : (List (List Int)) × (List Value)) => [(7, v13), (10, v628), (34, v1), (35, .int .i64 ((x1).length : Int)), (36, .int .i64 (i613 : Int)), (40, v628), (41, .int .i64 ((y623).length : Int)), (42, .int .i64 (i799 : Int))]) (fun (p : (List (List Int)) × (List Value)) => [own2 28 3 TR.int v13 p.2 p.1, imm (TR.sl TR.int) v628 y623, imm (TR.sl (TR.sl TR.int)) v1 x1]) (fun (p : (List (List Int)) × (List Value)) => K855 (.nx p.1)) ?_ ?_
              · refine GL.block ?_
                refine GL.loop (ι := Nat × (List Int) × (List (List Int)) × (List Value)) (fun (p : Nat × (List Int) × (List (List Int)) × (List Value)) => [(7, v13), (10, v628), (12, .int .i64 y809), (34, v1), (35, .int .i64 ((x1).length : Int)), (36, .int .i64 (i613 : Int)), (40, v628), (41, .int .i64 ((y623).length : Int)), (42, .int .i64 (i799 : Int)), (50, v818), (51, .int .i64 ((((List.take ((y623).length) y623).drop ((wadd (i799 : Int) (1 : Int)).toNat))).length : Int)), (52, .int .i64 (p.1 : Int))]) (fun (p : Nat × (List Int) × (List (List Int)) × (List Value)) => [own2 28 3 TR.int v13 p.2.2.2 p.2.2.1, imm (TR.sl TR.int) v628 y623, imm (TR.sl (TR.sl TR.int)) v1 x1, imm (TR.sl TR.int) v818 ((List.take ((y623).length) y623).drop ((wadd (i799 : Int) (1 : Int)).toNat))]) (fun (p : Nat × (List Int) × (List (List Int)) × (List Value)) => p.1 + p.2.1.length = (((List.take ((y623).length) y623).drop ((wadd (i799 : Int) (1 : Int)).toNat))).length ∧ List.drop p.1 ((List.take ((y623).length) y623).drop ((wadd (i799 : Int) (1 : Int)).toNat)) = p.2.1 ∧ rangeL (tally_Duels_b4 y809) p.2.1 p.1 p.2.2.1 = some y854) (fun (p : Nat × (List Int) × (List (List Int)) × (List Value)) => p.2.1.length) (0, ((List.take ((y623).length) y623).drop ((wadd (i799 : Int) (1 : Int)).toNat)), l709, V710) ⟨by simp, by simp, h856⟩ (fun a w st => St.cut [0, 1, 2, 3] ⟨rfl, rfl, rfl, rfl, rfl, rfl, rfl, rfl, rfl, rfl, rfl, rfl, trivial⟩ (by decide) rfl st) ?_
                rintro ⟨i861, r862, l835, V836⟩ ⟨h867, h868, h866⟩
                try dsimp only at h867 h868 h866
                refine GL.weak (env' := [(7, v13), (10, v628), (12, .int .i64 y809), (34, v1), (35, .int .i64 ((x1).length : Int)), (36, .int .i64 (i613 : Int)), (40, v628), (41, .int .i64 ((y623).length : Int)), (42, .int .i64 (i799 : Int)), (50, v818), (51, .int .i64 ((((List.take ((y623).length) y623).drop ((wadd (i799 : Int) (1 : Int)).toNat))).length : Int)), (52, .int .i64 (i861 : Int))]) (L' := [own2 28 3 TR.int v13 V836 l835, imm (TR.sl TR.int) v628 y623, imm (TR.sl (TR.sl TR.int)) v1 x1, imm (TR.sl TR.int) v818 ((List.take ((y623).length) y623).drop ((wadd (i799 : Int) (1 : Int)).toNat))]) (fun _ _ st => st) ?_
                refine GL.seq ?_
                refine GL.region ?_
                refine RL.binI (v := .bool (decide ((i861 : Int) < ((((List.take ((y623).length) y623).drop ((wadd (i799 : Int) (1 : Int)).toNat))).length : Int)))) rfl rfl rfl rfl rfl ?_
                refine RL.finG ?_
                refine GL.seq ?_
                refine GL.cond rfl (fun b869 => ?_) (fun b869 => ?_)
                · have h870 : i861 < (((List.take ((y623).length) y623).drop ((wadd (i799 : Int) (1 : Int)).toNat))).length := by have := of_decide_eq_true b869; omega
                  obtain ⟨y871, r873, hr, e872, h874⟩ := drop_cons h868 rfl h870
                  subst hr
                  obtain ⟨z863, h864, h865⟩ := rangeL_some h866
                  unfold tally_Duels_b4 at h864
                  try dsimp only at h864
                  refine GL.skip ?_
                  refine GL.seq ?_
                  refine GL.block ?_
                  refine GL.seq ?_
                  refine GL.region ?_
                  refine RL.idxS (sz := 1) 3 Try.underlying28 Try_ln3 rfl rfl rfl rfl rfl SlOf.imm (by omega) (by omega) ?_
                  refine RL.ldSx (i := i861) (e' := y871) 3 Ex.ik Try_ln3 rfl rfl rfl rfl SlOf.imm e872 Part.self ?_
                  refine RL.asg rfl rfl rfl ?_
                  refine RL.finG ?_
                  refine GL.region ?_
                  refine RL.mv rfl rfl rfl ?_
                  refine RL.mv rfl rfl rfl ?_
                  obtain ⟨y881, e882, h864⟩ := bind_some h864
                  refine RL.idxR 0 Try.underlying22 Try_ln28 rfl rfl rfl rfl rfl (idx_some e882).1 (idx_some e882).2.1 ?_
                  refine RL.ldR (i := (y809).toNat) (r := y881) 0 Try_ln28 rfl rfl rfl rfl (idx_some e882).2.2 ?_
                  refine RL.mv rfl rfl rfl ?_
                  obtain ⟨y883, e884, h864⟩ := bind_some h864
                  refine RL.idxS (sz := 1) 0 Try.underlying28 Try_ln3 rfl rfl rfl rfl rfl (SlOf.row (idx_some e882).2.2) (idx_some e884).1 (idx_some e884).2.1 ?_
                  refine RL.ldSx (i := (y871).toNat) (e' := y883) 0 Ex.ik Try_ln3 rfl rfl rfl rfl (SlOf.row (idx_some e882).2.2) (idx_some e884).2.2 Part.self ?_
                  refine RL.binI (v := .int .i64 (wadd y883 (1 : Int))) rfl rfl rfl rfl rfl ?_
                  obtain ⟨y885, e886, h864⟩ := bind_some h864
                  refine RL.idxS (sz := 1) 0 Try.underlying28 Try_ln3 rfl rfl rfl rfl rfl (SlOf.row (idx_some e882).2.2) (idx_some e886).1 (idx_some e886).2.1 ?_
                  refine RL.stR (i := (y809).toNat) (j := (y871).toNat) (row := y881) (e' := wadd y883 (1 : Int)) (e1 := wadd y883 (1 : Int)) (r := TR.int) 0 Try_ln3 rfl rfl rfl rfl VR.int rfl (idx_some e882).2.2 (idx_some e886).2.2 Upd.self ?_
                  refine RL.finG ?_
                  refine GL.nilB ?_
                  refine GL.region ?_
                  refine RL.binI (v := .int .i64 ((i861 + 1 : Nat) : Int)) rfl rfl rfl rfl (binI_succ i861 (by omega)) ?_
                  refine RL.mv rfl rfl rfl ?_
                  refine RL.fin ?_
                  cases h864
                  exact fun a w st => lop_intro (i861 + 1, r873, (List.set l835 ((y809).toNat) (List.set y881 ((y871).toNat) (wadd y883 (1 : Int)))), V836) ⟨by show i861 + 1 + r873.length = (((List.take ((y623).length) y623).drop ((wadd (i799 : Int) (1 : Int)).toNat))).length; simp only [List.length_cons] at h867; omega, h874, h865⟩ (by simp) (St.cut [0, 1, 2, 3] ⟨rfl, rfl, rfl, rfl, rfl, rfl, rfl, rfl, rfl, rfl, rfl, rfl, trivial⟩ (by decide) rfl st)
                · have h870 : ¬ i861 < (((List.take ((y623).length) y623).drop ((wadd (i799 : Int) (1 : Int)).toNat))).length := by have := of_decide_eq_false b869; omega
                  obtain rfl : r862 = [] := by rw [← h868]; exact List.drop_of_length_le (by omega)
                  replace h866 : some (Fl.nx _) = some y854 := h866
                  cases h866
                  exact GL.exit (fun a w st => mid_intro (l835, V836) h857 (St.cut [0, 1, 2] ⟨rfl, rfl, rfl, rfl, rfl, rfl, rfl, rfl, trivial⟩ (by decide) rfl st))
              · rintro ⟨l835, V836⟩ h887
                have h888 := h858 _ h887
                try dsimp only at h888
                refine GL.weak (env' := [(7, v13), (10, v628), (34, v1), (35, .int .i64 ((x1).length : Int)), (36, .int .i64 (i613 : Int)), (40, v628), (41, .int .i64 ((y623).length : Int)), (42, .int .i64 (i799 : Int))]) (L' := [own2 28 3 TR.int v13 V836 l835, imm (TR.sl TR.int) v628 y623, imm (TR.sl (TR.sl TR.int)) v1 x1]) (fun _ _ st => st) ?_
                refine GL.nilB ?_
                refine GL.region ?_
                refine RL.binI (v := .int .i64 ((i799 + 1 : Nat) : Int)) rfl rfl rfl rfl (binI_succ i799 (by omega)) ?_
                refine RL.mv rfl rfl rfl ?_
                refine RL.fin ?_
                cases h888
                exact fun a w st => lop_intro (i799 + 1, r811, l835, V836) ⟨by show i799 + 1 + r811.length = (y623).length; simp only [List.length_cons] at h805; omega, h812, h803⟩ (by simp) (St.cut [0, 1, 2] ⟨rfl, rfl, rfl, rfl, rfl, rfl, rfl, rfl, trivial⟩ (by decide) rfl st)
            · have h808 : ¬ i799 < (y623).length := by have := of_decide_eq_false b807; omega
              obtain rfl : r800 = [] := by rw [← h806]; exact List.drop_of_length_le (by omega)
              replace h804 : some (Fl.nx _) = some y792 := h804
              cases h804
              exact GL.exit (fun a w st => mid_intro (l709, V710) h795 (St.cut [0, 2] ⟨rfl, rfl, rfl, rfl, trivial⟩ (by decide) rfl st))
          · rintro ⟨l709, V710⟩ h889
            have h890 := h796 _ h889
            try dsimp only at h890
            refine GL.weak (env' := [(7, v13), (34, v1), (35, .int .i64 ((x1).length : Int)), (36, .int .i64 (i613 : Int))]) (L' := [own2 28 3 TR.int v13 V710 l709, imm (TR.sl (TR.sl TR.int)) v1 x1]) (fun _ _ st => st) ?_
            refine GL.nilB ?_
            refine GL.region ?_
            refine RL.binI (v := .int .i64 ((i613 + 1 : Nat) : Int)) rfl rfl rfl rfl (binI_succ i613 (by omega)) ?_
            refine RL.mv rfl rfl rfl ?_
            refine RL.fin ?_
            cases h890
            exact fun a w st => lop_intro (i613 + 1, r625, l709, V710) ⟨by show i613 + 1 + r625.length = (x1).length; simp only [List.length_cons] at h619; omega, h626, h617⟩ (by simp) (St.cut [0, 1] ⟨rfl, rfl, rfl, rfl, trivial⟩ (by decide) rfl st)
        · have h622 : ¬ i613 < (x1).length := by have := of_decide_eq_false b621; omega
          obtain rfl : r614 = [] := by rw [← h620]; exact List.drop_of_length_le (by omega)
          replace h618 : some (Fl.nx _) = some y606 := h618
          cases h618
          exact GL.exit (fun a w st => mid_intro (l335, V336) h609 (St.cut [0] ⟨rfl, trivial⟩ (by decide) rfl st))
      · rintro ⟨l335, V336⟩ h891
        have h892 := h610 _ h891
        try dsimp only at h892
        refine GL.weak (env' := [(7, v13)]) (L' := [own2 28 3 TR.int v13 V336 l335]) (fun _ _ st => st) ?_
        refine GL.seq ?_
        refine GL.region ?_
        refine RL.mv rfl rfl rfl ?_
        refine RL.asg rfl rfl rfl ?_
        refine RL.asg rfl rfl rfl ?_
        refine RL.finG ?_
        refine GL.weak (fun a w st => st.freeze2 0 rfl) ?_
        have h892 := Option.some.inj h892
        subst h892
        exact GL.ret (Gx.ret (v := .tuple #[v13, .int .i64 (0 : Int)]) (res2 rfl rfl rfl) (fun a w st => (st.pick [0] (by decide) rfl).toPost v13))

set_option maxHeartbeats 4000000 in
theorem tally_Beater_c (S : Hp) (w : World) (hS : S.sub w) (x0 : Int) (v1 : Value) (x1 : (List (List Int))) (k1 : ((TR.sl (TR.sl TR.int))).vrep S v1 x1) (res : Int × Int) (hm : tally_Beater_m x0 x1 = some res) : Calls Try.prog 32 #[.int .i64 x0, v1] w (PostV w (.tuple #[.int .i64 res.1, .int .i64 res.2])) := by
  refine calls_enter 55 Try.func32 Try.ntmps32 rfl S false [(0, .int .i64 x0), (1, v1)] [imm (TR.sl (TR.sl TR.int)) v1 x1] rfl ⟨rfl, ⟨rfl, trivial⟩⟩ hS ⟨k1, trivial⟩ ?_
  unfold tally_Beater_m at hm
  refine GL.seq ?_
  refine GL.region ?_
  refine RL.asg rfl rfl rfl ?_
  refine RL.asg rfl rfl rfl ?_
  refine RL.finG ?_
  refine GL.seq ?_
  refine GL.region ?_
  refine RL.mv rfl rfl rfl ?_
  refine RL.mv rfl rfl rfl ?_
  obtain ⟨y6, e7, hm⟩ := bind_some hm
  refine RL.call (vs := [.int .i64 x0, v1]) Try_fit24 rfl rfl rfl rfl rfl (fun S f w hS hW hi => tally_Duels_c S w hS x0 _ _ (hi 0 _ rfl) _ e7) ?_
  intro v8
  refine RL.mv rfl rfl rfl ?_
  refine RL.ext rfl rfl rfl rfl ?_
  refine RL.ext rfl rfl rfl rfl ?_
  refine RL.asg rfl rfl rfl ?_
  refine RL.asg rfl rfl rfl ?_
  refine RL.finG ?_
  refine GL.seq ?_
  refine GL.seq ?_
  refine GL.region ?_
  refine RL.mv rfl rfl rfl ?_
  refine RL.binI (v := .bool (y6.2 != (0 : Int))) rfl rfl rfl rfl rfl ?_
  refine RL.finG ?_
  refine GL.cond rfl (fun b9 => ?_) (fun b9 => ?_)
  · replace hm := ite_t b9 hm
    refine GL.seq ?_
    refine GL.region ?_
    refine RL.mv rfl rfl rfl ?_
    refine RL.asg rfl rfl rfl ?_
    refine RL.asg rfl rfl rfl ?_
    refine RL.finG ?_
    have hm := Option.some.inj hm
    subst hm
    exact GL.ret (Gx.ret (v := .tuple #[.int .i64 (0 : Int), .int .i64 y6.2]) (res2 rfl rfl rfl) (fun a w st => st.toPostV))
  · replace hm := ite_f b9 hm
    refine GL.skip ?_
    refine GL.seq ?_
    refine GL.seq ?_
    refine GL.region ?_
    refine RL.mv rfl rfl rfl ?_
    refine RL.mv rfl rfl rfl ?_
    refine RL.finG ?_
    obtain ⟨y128, e129, hm⟩ := bind_some hm
    replace e129 := chk_some e129
    obtain ⟨y130, K131, h132, h133, h134, h135, h136⟩ := bindR_K hm
    refine GL.join (ι := Unit) (fun (p : Unit) => []) (fun (p : Unit) => []) (fun (p : Unit) => K131 (.nx ())) ?_ ?_
    · refine GL.block ?_
      refine GL.loop (ι := Nat × Nat) (fun (p : Nat × Nat) => [(0, .int .i64 x0), (6, v8), (20, .int .i64 x0), (21, .int .i64 (p.1 : Int))]) (fun (p : Nat × Nat) => [imm (TR.sl (TR.sl TR.int)) v8 y6.1]) (fun (p : Nat × Nat) => p.1 + p.2 = (x0).toNat ∧ rangeN (tally_Beater_b1 x0 y6) p.2 p.1 () = some y130) (fun (p : Nat × Nat) => p.2) (0, (x0).toNat) ⟨by simp, h132⟩ (fun a w st => St.cut [1] ⟨rfl, rfl, rfl, rfl, trivial⟩ (by decide) rfl st) ?_
      rintro ⟨i137, r138⟩ ⟨h143, h142⟩
      try dsimp only at h143 h142
      refine GL.weak (env' := [(0, .int .i64 x0), (6, v8), (20, .int .i64 x0), (21, .int .i64 (i137 : Int))]) (L' := [imm (TR.sl (TR.sl TR.int)) v8 y6.1]) (fun _ _ st => st) ?_
      refine GL.seq ?_
      refine GL.region ?_
      refine RL.binI (v := .bool (decide ((i137 : Int) < x0))) rfl rfl rfl rfl rfl ?_
      refine RL.finG ?_
      refine GL.seq ?_
      refine GL.cond rfl (fun b145 => ?_) (fun b145 => ?_)
      · have h146 : i137 < (x0).toNat := by have := of_decide_eq_true b145; omega
        obtain ⟨r147, hr⟩ : ∃ m, r138 = m + 1 := ⟨r138 - 1, by omega⟩
        subst hr
        obtain ⟨z139, h140, h141⟩ := rangeN_some h142
        unfold tally_Beater_b1 at h140
        try dsimp only at h140
        refine GL.skip ?_
        refine GL.seq ?_
        refine GL.block ?_
        refine GL.seq ?_
        refine GL.region ?_
        refine RL.mv rfl rfl rfl ?_
        refine RL.asg rfl rfl rfl ?_
        refine RL.finG ?_
        refine GL.seq ?_
        refine GL.region ?_
        refine RL.asg rfl rfl rfl ?_
        refine RL.finG ?_
        refine GL.seq ?_
        refine GL.seq ?_
        refine GL.region ?_
        refine RL.mv rfl rfl rfl ?_
        refine RL.mv rfl rfl rfl ?_
        refine RL.finG ?_
        obtain ⟨y196, e197, h140⟩ := bind_some h140
        replace e197 := chk_some e197
        obtain ⟨y198, K199, h200, h201, h202, h203, h204⟩ := bindF_K h140
        refine GL.join (ι := Bool) (fun (p : Bool) => [(0, .int .i64 x0), (6, v8), (8, .int .i64 (i137 : Int)), (9, .bool p), (20, .int .i64 x0), (21, .int .i64 (i137 : Int))]) (fun (p : Bool) => [imm (TR.sl (TR.sl TR.int)) v8 y6.1]) (fun (p : Bool) => K199 (.nx p)) ?_ ?_
        · refine GL.block ?_
          refine GL.loop (ι := Nat × Nat × Bool) (fun (p : Nat × Nat × Bool) => [(0, .int .i64 x0), (6, v8), (8, .int .i64 (i137 : Int)), (9, .bool p.2.2), (20, .int .i64 x0), (21, .int .i64 (i137 : Int)), (24, .int .i64 x0), (25, .int .i64 (p.1 : Int))]) (fun (p : Nat × Nat × Bool) => [imm (TR.sl (TR.sl TR.int)) v8 y6.1]) (fun (p : Nat × Nat × Bool) => p.1 + p.2.1 = (x0).toNat ∧ rangeN (tally_Beater_b2 i137 y6) p.2.1 p.1 p.2.2 = some y198) (fun (p : Nat × Nat × Bool) => p.2.1) (0, (x0).toNat, true) ⟨by simp, h200⟩ (fun a w st => St.cut [0] ⟨rfl, rfl, rfl, rfl, rfl, rfl, rfl, rfl, trivial⟩ (by decide) rfl st) ?_
          rintro ⟨i205, r206, x148⟩ ⟨h211, h210⟩
          try dsimp only at h211 h210
          refine GL.weak (env' := [(0, .int .i64 x0), (6, v8), (8, .int .i64 (i137 : Int)), (9, .bool x148), (20, .int .i64 x0), (21, .int .i64 (i137 : Int)), (24, .int .i64 x0), (25, .int .i64 (i205 : Int))]) (L' := [imm (TR.sl (TR.sl TR.int)) v8 y6.1]) (fun _ _ st => st) ?_
          refine GL.seq ?_
          refine GL.region ?_
          refine RL.binI (v := .bool (decide ((i205 : Int) < x0))) rfl rfl rfl rfl rfl ?_
          refine RL.finG ?_
          refine GL.seq ?_
          refine GL.cond rfl (fun b213 => ?_) (fun b213 => ?_)
          · have h214 : i205 < (x0).toNat := by have := of_decide_eq_true b213; omega
            obtain ⟨r215, hr⟩ : ∃ m, r206 = m + 1 := ⟨r206 - 1, by omega⟩
            subst hr
            obtain ⟨z207, h208, h209⟩ := rangeN_some h210
            unfold tally_Beater_b2 at h208
            try dsimp only at h208
            refine GL.skip ?_
            refine GL.seq ?_
            refine GL.block ?_
            refine GL.seq ?_
            refine GL.region ?_
            refine RL.mv rfl rfl rfl ?_
            refine RL.asg rfl rfl rfl ?_
            refine RL.finG ?_
            obtain ⟨y241, K242, h243, h244, h245, h246, h247⟩ := bindF_K h208
            refine GL.join (ι := Bool) (fun (p : Bool) => [(0, .int .i64 x0), (6, v8), (8, .int .i64 (i137 : Int)), (9, .bool p), (20, .int .i64 x0), (21, .int .i64 (i137 : Int)), (24, .int .i64 x0), (25, .int .i64 (i205 : Int))]) (fun (p : Bool) => [imm (TR.sl (TR.sl TR.int)) v8 y6.1]) (fun (p : Bool) => K242 (.nx p)) ?_ ?_
            · skip
              refine GL.regionQ rfl rfl (by kernel_rfl) ?_
              refine RL.mv rfl rfl rfl ?_
              refine RL.mv rfl rfl rfl ?_
              refine RL.split (t := 29) rfl (fun b248 => ?_) (fun b248 => ?_)
              · replace h243 := ite_t b248 h243
                refine RL.mv rfl rfl rfl ?_
                refine RL.mv rfl rfl rfl ?_
                refine RL.binI (v := .bool ((i137 : Int) == (i205 : Int))) rfl rfl rfl rfl rfl ?_
                refine RL.mv rfl rfl rfl ?_
                refine RL.split (t := 33) rfl (fun b249 => ?_) (fun b249 => ?_)
                · replace h243 := ite_t b249 h243
                  refine RL.skip rfl rfl ?_
                  refine RL.skip rfl rfl ?_
                  refine RL.skip rfl rfl ?_
                  refine RL.skip rfl rfl ?_
                  refine RL.skip rfl rfl ?_
                  refine RL.skip rfl rfl ?_
                  refine RL.skip rfl rfl ?_
                  refine RL.skip rfl rfl ?_
                  refine RL.skip rfl rfl ?_
                  refine RL.skip rfl rfl ?_
                  refine RL.skip rfl rfl ?_
                  refine RL.skip rfl rfl ?_
                  refine RL.skip rfl rfl ?_
                  refine RL.skip rfl rfl ?_
                  refine RL.skip rfl rfl ?_
                  refine RL.pickT rfl rfl rfl rfl ?_
                  refine RL.pickT rfl rfl rfl rfl ?_
                  refine RL.asg rfl rfl rfl ?_
                  refine RL.finQ ?_
                  cases h243
                  exact fun a w st => mid_intro true h244 (St.cut [0] ⟨rfl, rfl, rfl, rfl, rfl, rfl, rfl, rfl, trivial⟩ (by decide) rfl st)
                · replace h243 := ite_f b249 h243
                  refine RL.mv rfl rfl rfl ?_
                  refine RL.mv rfl rfl rfl ?_
                  obtain ⟨y250, e251, h243⟩ := bind_some h243
                  refine RL.idxS (sz := 1) 0 Try.underlying22 Try_ln28 rfl rfl rfl rfl rfl SlOf.imm (idx_some e251).1 (idx_some e251).2.1 ?_
                  refine RL.ldS (i := i137) (r := (TR.sl TR.int)) (e' := y250) 0 Try_ln28 rfl rfl rfl rfl SlOf.imm (idx_some e251).2.2 Part.self ?_
                  intro v252
                  refine RL.mv rfl rfl rfl ?_
                  obtain ⟨y253, e254, h243⟩ := bind_some h243
                  refine RL.idxS (sz := 1) 1 Try.underlying28 Try_ln3 rfl rfl rfl rfl rfl SlOf.imm (idx_some e254).1 (idx_some e254).2.1 ?_
                  refine RL.ldSx (i := i205) (e' := y253) 1 Ex.ik Try_ln3 rfl rfl rfl rfl SlOf.imm (idx_some e254).2.2 Part.self ?_
                  refine RL.mv rfl rfl rfl ?_
                  refine RL.mv rfl rfl rfl ?_
                  obtain ⟨y255, e256, h243⟩ := bind_some h243
                  refine RL.idxS (sz := 1) 0 Try.underlying22 Try_ln28 rfl rfl rfl rfl rfl SlOf.imm (idx_some e256).1 (idx_some e256).2.1 ?_
                  refine RL.ldS (i := i205) (r := (TR.sl TR.int)) (e' := y255) 0 Try_ln28 rfl rfl rfl rfl SlOf.imm (idx_some e256).2.2 Part.self ?_
                  intro v257
                  refine RL.reL (L' := [imm (TR.sl (TR.sl TR.int)) v8 y6.1, imm (TR.sl TR.int) v252 y250, imm (TR.sl TR.int) v257 y255]) rfl ?_
                  refine RL.mv rfl rfl rfl ?_
                  obtain ⟨y258, e259, h243⟩ := bind_some h243
                  refine RL.idxS (sz := 1) 2 Try.underlying28 Try_ln3 rfl rfl rfl rfl rfl SlOf.imm (idx_some e259).1 (idx_some e259).2.1 ?_
                  refine RL.ldSx (i := i137) (e' := y258) 2 Ex.ik Try_ln3 rfl rfl rfl rfl SlOf.imm (idx_some e259).2.2 Part.self ?_
                  refine RL.binI (v := .bool (decide (y253 > y258))) rfl rfl rfl rfl rfl ?_
                  refine RL.pickF rfl rfl rfl rfl ?_
                  refine RL.pickT rfl rfl rfl rfl ?_
                  refine RL.asg rfl rfl rfl ?_
                  refine RL.finQ ?_
                  cases h243
                  exact fun a w st => mid_intro (decide (y253 > y258)) h244 (St.cut [0] ⟨rfl, rfl, rfl, rfl, rfl, rfl, rfl, rfl, trivial⟩ (by decide) rfl st)
              · replace h243 := ite_f b248 h243
                refine RL.skip rfl rfl ?_
                refine RL.skip rfl rfl ?_
                refine RL.skip rfl rfl ?_
                refine RL.skip rfl rfl ?_
                refine RL.skip rfl rfl ?_
                refine RL.skip rfl rfl ?_
                refine RL.skip rfl rfl ?_
                refine RL.skip rfl rfl ?_
                refine RL.skip rfl rfl ?_
                refine RL.skip rfl rfl ?_
                refine RL.skip rfl rfl ?_
                refine RL.skip rfl rfl ?_
                refine RL.skip rfl rfl ?_
                refine RL.skip rfl rfl ?_
                refine RL.skip rfl rfl ?_
                refine RL.skip rfl rfl ?_
                refine RL.skip rfl rfl ?_
                refine RL.skip rfl rfl ?_
                refine RL.skip rfl rfl ?_
                refine RL.skip rfl rfl ?_
                refine RL.pickF rfl rfl rfl rfl ?_
                refine RL.asg rfl rfl rfl ?_
                refine RL.finQ ?_
                cases h243
                exact fun a w st => mid_intro false h244 (St.cut [0] ⟨rfl, rfl, rfl, rfl, rfl, rfl, rfl, rfl, trivial⟩ (by decide) rfl st)
            · rintro x240 h260
              have h261 := h245 _ h260
              try dsimp only at h261
              refine GL.weak (env' := [(0, .int .i64 x0), (6, v8), (8, .int .i64 (i137 : Int)), (9, .bool x240), (20, .int .i64 x0), (21, .int .i64 (i137 : Int)), (24, .int .i64 x0), (25, .int .i64 (i205 : Int))]) (L' := [imm (TR.sl (TR.sl TR.int)) v8 y6.1]) (fun _ _ st => st) ?_
              refine GL.nilB ?_
              refine GL.region ?_
              refine RL.binI (v := .int .i64 ((i205 + 1 : Nat) : Int)) rfl rfl rfl rfl (binI_succ i205 (by omega)) ?_
              refine RL.mv rfl rfl rfl ?_
              refine RL.fin ?_
              cases h261
              exact fun a w st => lop_intro (i205 + 1, r215, x240) ⟨by show i205 + 1 + r215 = (x0).toNat; omega, h209⟩ (by simp) (St.cut [0] ⟨rfl, rfl, rfl, rfl, rfl, rfl, rfl, rfl, trivial⟩ (by decide) rfl st)
          · have h214 : ¬ i205 < (x0).toNat := by have := of_decide_eq_false b213; omega
            obtain rfl : r206 = 0 := by omega
            replace h210 : some (Fl.nx _) = some y198 := h210
            cases h210
            exact GL.exit (fun a w st => mid_intro x148 h201 (St.cut [0] ⟨rfl, rfl, rfl, rfl, rfl, rfl, trivial⟩ (by decide) rfl st))
        · rintro x148 h262
          have h263 := h202 _ h262
          try dsimp only at h263
          refine GL.weak (env' := [(0, .int .i64 x0), (6, v8), (8, .int .i64 (i137 : Int)), (9, .bool x148), (20, .int .i64 x0), (21, .int .i64 (i137 : Int))]) (L' := [imm (TR.sl (TR.sl TR.int)) v8 y6.1]) (fun _ _ st => st) ?_
          refine GL.seq ?_
          refine GL.region ?_
          refine RL.mv rfl rfl rfl ?_
          refine RL.finG ?_
          refine GL.cond rfl (fun b264 => ?_) (fun b264 => ?_)
          · replace h263 := ite_t b264 h263
            refine GL.seq ?_
            refine GL.region ?_
            refine RL.mv rfl rfl rfl ?_
            refine RL.asg rfl rfl rfl ?_
            refine RL.asg rfl rfl rfl ?_
            refine RL.finG ?_
            cases h263
            replace h141 : some (Fl.rt _) = some y130 := h141
            cases h141
            have hh := h135 _ h133
            subst hh
            exact GL.ret (Gx.ret (v := .tuple #[.int .i64 (i137 : Int), .int .i64 (0 : Int)]) (res2 rfl rfl rfl) (fun a w st => st.toPostV))
          · replace h263 := ite_f b264 h263
            refine GL.skip ?_
            refine GL.nilB ?_
            refine GL.region ?_
            refine RL.binI (v := .int .i64 ((i137 + 1 : Nat) : Int)) rfl rfl rfl rfl (binI_succ i137 (by omega)) ?_
            refine RL.mv rfl rfl rfl ?_
            refine RL.fin ?_
            cases h263
            exact fun a w st => lop_intro (i137 + 1, r147) ⟨by show i137 + 1 + r147 = (x0).toNat; omega, h141⟩ (by simp) (St.cut [0] ⟨rfl, rfl, rfl, rfl, trivial⟩ (by decide) rfl st)
      · have h146 : ¬ i137 < (x0).toNat := by have := of_decide_eq_false b145; omega
        obtain rfl : r138 = 0 := by omega
        replace h142 : some (Fl.nx _) = some y130 := h142
        cases h142
        exact GL.exit (fun a w st => mid_intro () h133 (St.cut [] trivial (by decide) rfl st))
    · rintro ⟨⟩ h265
      have h266 := h134 _ h265
      try dsimp only at h266
      refine GL.weak (env' := []) (L' := []) (fun _ _ st => st) ?_
      refine GL.seq ?_
      refine GL.region ?_
      refine RL.asg rfl rfl rfl ?_
      refine RL.asg rfl rfl rfl ?_
      refine RL.finG ?_
      have h266 := Option.some.inj h266
      subst h266
      exact GL.ret (Gx.ret (v := .tuple #[.int .i64 (0 : Int), .int .i64 (4 : Int)]) (res2 rfl rfl rfl) (fun a w st => st.toPostV))

set_option maxHeartbeats 4000000 in
theorem tally_Points_c (S : Hp) (w : World) (hS : S.sub w) (x0 : Int) (v1 : Value) (x1 : (List (List Int))) (k1 : ((TR.sl (TR.sl TR.int))).vrep S v1 x1) (res : (List Int) × Int) (hm : tally_Points_m x0 x1 = some res) : Calls Try.prog 35 #[.int .i64 x0, v1] w (Post w S (fun (o : Value) => .tuple #[o, .int .i64 res.2]) (fun (o : Value) => [own 3 TR.int o res.1])) := by
  refine calls_enter 46 Try.func35 Try.ntmps35 rfl S false [(0, .int .i64 x0), (1, v1)] [imm (TR.sl (TR.sl TR.int)) v1 x1] rfl ⟨rfl, ⟨rfl, trivial⟩⟩ hS ⟨k1, trivial⟩ ?_
  unfold tally_Points_m at hm
  refine GL.seq ?_
  refine GL.region ?_
  refine RL.asg rfl rfl rfl ?_
  refine RL.asg rfl rfl rfl ?_
  refine RL.finG ?_
  refine GL.seq ?_
  refine GL.seq ?_
  refine GL.region ?_
  refine RL.mv rfl rfl rfl ?_
  refine RL.mv rfl rfl rfl ?_
  obtain ⟨y5, e6, hm⟩ := bind_some hm
  refine RL.callV (v := .int .i64 y5) (vs := [.int .i64 x0, v1]) Try_fit45 rfl (Or.inl rfl) rfl rfl rfl rfl (fun U w hU hW hL => tally_Check_c U w hU x0 _ _ (hL 0 _ _ rfl Seen.imm) _ e6) ?_
  refine RL.asg rfl rfl rfl ?_
  refine RL.finG ?_
  refine GL.seq ?_
  refine GL.region ?_
  refine RL.mv rfl rfl rfl ?_
  refine RL.binI (v := .bool (y5 != (0 : Int))) rfl rfl rfl rfl rfl ?_
  refine RL.finG ?_
  refine GL.cond rfl (fun b7 => ?_) (fun b7 => ?_)
  · replace hm := ite_t b7 hm
    refine GL.seq ?_
    refine GL.region ?_
    refine RL.mv rfl rfl rfl ?_
    refine RL.asg rfl rfl rfl ?_
    refine RL.asg rfl rfl rfl ?_
    refine RL.finG ?_
    refine GL.weak (fun a w st => st.nilOwn 3 TR.int) ?_
    have hm := Option.some.inj hm
    subst hm
    exact GL.ret (Gx.ret (v := .tuple #[Value.slice none 0 0, .int .i64 y5]) (res2 rfl rfl rfl) (fun a w st => (st.pick [1] (by decide) rfl).toPost (Value.slice none 0 0)))
  · replace hm := ite_f b7 hm
    refine GL.skip ?_
    refine GL.seq ?_
    refine GL.region ?_
    refine RL.mv rfl rfl rfl ?_
    obtain ⟨y11, e12, hm⟩ := bind_some hm
    replace e12 := chk_some e12
    refine RL.mkS (t := TR.int) (z := (0 : Int)) Try.underlying28 Try_lo3 (fun S => rfl) rfl rfl rfl rfl e12.1 e12.2 ?_
    intro v13
    refine RL.asg rfl rfl rfl ?_
    refine RL.finG ?_
    refine GL.seq ?_
    refine GL.seq ?_
    refine GL.region ?_
    refine RL.mv rfl rfl rfl ?_
    refine RL.lenS 0 Try.underlying22 rfl rfl rfl rfl SlOf.imm ?_
    refine RL.mv rfl rfl rfl ?_
    refine RL.finG ?_
    refine GL.open_ 0 rfl (fun S h => len_imm S h) (fun n141 => ?_)
    obtain ⟨y142, K143, h144, h145, h146, h147, h148⟩ := bindR_K hm
    refine GL.join (ι := (List Int)) (fun (p : (List Int)) => [(7, v13)]) (fun (p : (List Int)) => [own 3 TR.int v13 p]) (fun (p : (List Int)) => K143 (.nx p)) ?_ ?_
    · refine GL.block ?_
      refine GL.loop (ι := Nat × (List (List Int)) × (List Int)) (fun (p : Nat × (List (List Int)) × (List Int)) => [(0, .int .i64 x0), (7, v13), (20, v1), (21, .int .i64 ((x1).length : Int)), (22, .int .i64 (p.1 : Int))]) (fun (p : Nat × (List (List Int)) × (List Int)) => [own 3 TR.int v13 p.2.2, imm (TR.sl (TR.sl TR.int)) v1 x1]) (fun (p : Nat × (List (List Int)) × (List Int)) => p.1 + p.2.1.length = (x1).length ∧ List.drop p.1 x1 = p.2.1 ∧ rangeL (tally_Points_b1 x0) p.2.1 p.1 p.2.2 = some y142) (fun (p : Nat × (List (List Int)) × (List Int)) => p.2.1.length) (0, x1, (List.replicate (x0).toNat (0 : Int))) ⟨by simp, by simp, h144⟩ (fun a w st => St.cut [1, 0] ⟨rfl, rfl, rfl, rfl, rfl, trivial⟩ (by decide) rfl st) ?_
      rintro ⟨i149, r150, l77⟩ ⟨h155, h156, h154⟩
      try dsimp only at h155 h156 h154
      refine GL.weak (env' := [(0, .int .i64 x0), (7, v13), (20, v1), (21, .int .i64 ((x1).length : Int)), (22, .int .i64 (i149 : Int))]) (L' := [own 3 TR.int v13 l77, imm (TR.sl (TR.sl TR.int)) v1 x1]) (fun _ _ st => st) ?_
      refine GL.seq ?_
      refine GL.region ?_
      refine RL.binI (v := .bool (decide ((i149 : Int) < ((x1).length : Int)))) rfl rfl rfl rfl rfl ?_
      refine RL.finG ?_
      refine GL.seq ?_
      refine GL.cond rfl (fun b157 => ?_) (fun b157 => ?_)
      · have h158 : i149 < (x1).length := by have := of_decide_eq_true b157; omega
        obtain ⟨y159, r161, hr, e160, h162⟩ := drop_cons h156 rfl h158
        subst hr
        obtain ⟨z151, h152, h153⟩ := rangeL_some h154
        unfold tally_Points_b1 at h152
        try dsimp only at h152
        refine GL.skip ?_
        refine GL.seq ?_
        refine GL.block ?_
        refine GL.seq ?_
        refine GL.region ?_
        refine RL.idxS (sz := 1) 1 Try.underlying22 Try_ln28 rfl rfl rfl rfl rfl SlOf.imm (by omega) (by omega) ?_
        refine RL.ldS (i := i149) (r := (TR.sl TR.int)) (e' := y159) 1 Try_ln28 rfl rfl rfl rfl SlOf.imm e160 Part.self ?_
        intro v164
        refine RL.asg rfl rfl rfl ?_
        refine RL.finG ?_
        refine GL.seq ?_
        refine GL.region ?_
        refine RL.mv rfl rfl rfl ?_
        refine RL.lenS 2 Try.underlying28 rfl rfl rfl rfl SlOf.imm ?_
        refine RL.mv rfl rfl rfl ?_
        refine RL.finG ?_
        refine GL.open_ 2 rfl (fun S h => len_imm S h) (fun n190 => ?_)
        obtain ⟨y191, K192, h193, h194, h195, h196, h197⟩ := bindF_K h152
        refine GL.join (ι := (List Int)) (fun (p : (List Int)) => [(0, .int .i64 x0), (7, v13), (20, v1), (21, .int .i64 ((x1).length : Int)), (22, .int .i64 (i149 : Int))]) (fun (p : (List Int)) => [own 3 TR.int v13 p, imm (TR.sl (TR.sl TR.int)) v1 x1]) (fun (p : (List Int)) => K192 (.nx p)) ?_ ?_
        · refine GL.block ?_
          refine GL.loop (ι := Nat × (List Int) × (List Int)) (fun (p : Nat × (List Int) × (List Int)) => [(0, .int .i64 x0), (7, v13), (20, v1), (21, .int .i64 ((x1).length : Int)), (22, .int .i64 (i149 : Int)), (26, v164), (27, .int .i64 ((y159).length : Int)), (28, .int .i64 (p.1 : Int))]) (fun (p : Nat × (List Int) × (List Int)) => [own 3 TR.int v13 p.2.2, imm (TR.sl (TR.sl TR.int)) v1 x1, imm (TR.sl TR.int) v164 y159]) (fun (p : Nat × (List Int) × (List Int)) => p.1 + p.2.1.length = (y159).length ∧ List.drop p.1 y159 = p.2.1 ∧ rangeL (tally_Points_b2 x0) p.2.1 p.1 p.2.2 = some y191) (fun (p : Nat × (List Int) × (List Int)) => p.2.1.length) (0, y159, l77) ⟨by simp, by simp, h193⟩ (fun a w st => St.cut [0, 1, 2] ⟨rfl, rfl, rfl, rfl, rfl, rfl, rfl, rfl, trivial⟩ (by decide) rfl st) ?_
          rintro ⟨i198, r199, l177⟩ ⟨h204, h205, h203⟩
          try dsimp only at h204 h205 h203
          refine GL.weak (env' := [(0, .int .i64 x0), (7, v13), (20, v1), (21, .int .i64 ((x1).length : Int)), (22, .int .i64 (i149 : Int)), (26, v164), (27, .int .i64 ((y159).length : Int)), (28, .int .i64 (i198 : Int))]) (L' := [own 3 TR.int v13 l177, imm (TR.sl (TR.sl TR.int)) v1 x1, imm (TR.sl TR.int) v164 y159]) (fun _ _ st => st) ?_
          refine GL.seq ?_
          refine GL.region ?_
          refine RL.binI (v := .bool (decide ((i198 : Int) < ((y159).length : Int)))) rfl rfl rfl rfl rfl ?_
          refine RL.finG ?_
          refine GL.seq ?_
          refine GL.cond rfl (fun b206 => ?_) (fun b206 => ?_)
          · have h207 : i198 < (y159).length := by have := of_decide_eq_true b206; omega
            obtain ⟨y208, r210, hr, e209, h211⟩ := drop_cons h205 rfl h207
            subst hr
            obtain ⟨z200, h201, h202⟩ := rangeL_some h203
            unfold tally_Points_b2 at h201
            try dsimp only at h201
            refine GL.skip ?_
            refine GL.seq ?_
            refine GL.block ?_
            refine GL.seq ?_
            refine GL.region ?_
            refine RL.mv rfl rfl rfl ?_
            refine RL.idxS (sz := 1) 2 Try.underlying28 Try_ln3 rfl rfl rfl rfl rfl SlOf.imm (by omega) (by omega) ?_
            refine RL.ldSx (i := i198) (e' := y208) 2 Ex.ik Try_ln3 rfl rfl rfl rfl SlOf.imm e209 Part.self ?_
            refine RL.asg rfl rfl rfl ?_
            refine RL.asg rfl rfl rfl ?_
            refine RL.finG ?_
            refine GL.region ?_
            refine RL.mv rfl rfl rfl ?_
            refine RL.mv rfl rfl rfl ?_
            obtain ⟨y216, e217, h201⟩ := bind_some h201
            refine RL.idxS (sz := 1) 0 Try.underlying28 Try_ln3 rfl rfl rfl rfl rfl SlOf.own (idx_some e217).1 (idx_some e217).2.1 ?_
            refine RL.ldSx (i := (y208).toNat) (e' := y216) 0 Ex.ik Try_ln3 rfl rfl rfl rfl SlOf.own (idx_some e217).2.2 Part.self ?_
            refine RL.mv rfl rfl rfl ?_
            refine RL.binI (v := .int .i64 (wsub x0 (1 : Int))) rfl rfl rfl rfl rfl ?_
            refine RL.mv rfl rfl rfl ?_
            refine RL.binI (v := .int .i64 (wsub (wsub x0 (1 : Int)) (i198 : Int))) rfl rfl rfl rfl rfl ?_
            refine RL.binI (v := .int .i64 (wadd y216 (wsub (wsub x0 (1 : Int)) (i198 : Int)))) rfl rfl rfl rfl rfl ?_
            obtain ⟨y218, e219, h201⟩ := bind_some h201
            refine RL.idxS (sz := 1) 0 Try.underlying28 Try_ln3 rfl rfl rfl rfl rfl SlOf.own (idx_some e219).1 (idx_some e219).2.1 ?_
            refine RL.stS (i := (y208).toNat) (e' := wadd y216 (wsub (wsub x0 (1 : Int)) (i198 : Int))) (e1 := wadd y216 (wsub (wsub x0 (1 : Int)) (i198 : Int))) (r := TR.int) 0 Try_ln3 rfl rfl rfl rfl VR.int rfl (idx_some e219).2.2 Upd.self ?_
            refine RL.finG ?_
            refine GL.nilB ?_
            refine GL.region ?_
            refine RL.binI (v := .int .i64 ((i198 + 1 : Nat) : Int)) rfl rfl rfl rfl (binI_succ i198 (by omega)) ?_
            refine RL.mv rfl rfl rfl ?_
            refine RL.fin ?_
            cases h201
            exact fun a w st => lop_intro (i198 + 1, r210, (List.set l177 ((y208).toNat) (wadd y216 (wsub (wsub x0 (1 : Int)) (i198 : Int))))) ⟨by show i198 + 1 + r210.length = (y159).length; simp only [List.length_cons] at h204; omega, h211, h202⟩ (by simp) (St.cut [0, 1, 2] ⟨rfl, rfl, rfl, rfl, rfl, rfl, rfl, rfl, trivial⟩ (by decide) rfl st)
          · have h207 : ¬ i198 < (y159).length := by have := of_decide_eq_false b206; omega
            obtain rfl : r199 = [] := by rw [← h205]; exact List.drop_of_length_le (by omega)
            replace h203 : some (Fl.nx _) = some y191 := h203
            cases h203
            exact GL.exit (fun a w st => mid_intro l177 h194 (St.cut [0, 1] ⟨rfl, rfl, rfl, rfl, rfl, trivial⟩ (by decide) rfl st))
        · rintro l177 h220
          have h221 := h195 _ h220
          try dsimp only at h221
          refine GL.weak (env' := [(0, .int .i64 x0), (7, v13), (20, v1), (21, .int .i64 ((x1).length : Int)), (22, .int .i64 (i149 : Int))]) (L' := [own 3 TR.int v13 l177, imm (TR.sl (TR.sl TR.int)) v1 x1]) (fun _ _ st => st) ?_
          refine GL.nilB ?_
          refine GL.region ?_
          refine RL.binI (v := .int .i64 ((i149 + 1 : Nat) : Int)) rfl rfl rfl rfl (binI_succ i149 (by omega)) ?_
          refine RL.mv rfl rfl rfl ?_
          refine RL.fin ?_
          cases h221
          exact fun a w st => lop_intro (i149 + 1, r161, l177) ⟨by show i149 + 1 + r161.length = (x1).length; simp only [List.length_cons] at h155; omega, h162, h153⟩ (by simp) (St.cut [0, 1] ⟨rfl, rfl, rfl, rfl, rfl, trivial⟩ (by decide) rfl st)
      · have h158 : ¬ i149 < (x1).length := by have := of_decide_eq_false b157; omega
        obtain rfl : r150 = [] := by rw [← h156]; exact List.drop_of_length_le (by omega)
        replace h154 : some (Fl.nx _) = some y142 := h154
        cases h154
        exact GL.exit (fun a w st => mid_intro l77 h145 (St.cut [0] ⟨rfl, trivial⟩ (by decide) rfl st))
    · rintro l77 h222
      have h223 := h146 _ h222
      try dsimp only at h223
      refine GL.weak (env' := [(7, v13)]) (L' := [own 3 TR.int v13 l77]) (fun _ _ st => st) ?_
      refine GL.seq ?_
      refine GL.region ?_
      refine RL.mv rfl rfl rfl ?_
      refine RL.asg rfl rfl rfl ?_
      refine RL.asg rfl rfl rfl ?_
      refine RL.finG ?_
      have h223 := Option.some.inj h223
      subst h223
      exact GL.ret (Gx.ret (v := .tuple #[v13, .int .i64 (0 : Int)]) (res2 rfl rfl rfl) (fun a w st => (st.pick [0] (by decide) rfl).toPost v13))

set_option maxHeartbeats 4000000 in
theorem slices_IndexFunc_api_Errno_api_Errno_c (S : Hp) (w : World) (hS : S.sub w) (v0 : Value) (x0 : (List Int)) (k0 : ((TR.sl TR.int)).vrep S v0 x0) (f1 : FuncId) (c1 : Array Value) (t1 : Fit Try.prog f1) (g1 : Int → Option Bool) (k1 : ∀ (U : Hp) (w' : World), Hp.le S U → U.sub w' → ∀ (a0 : Int) (rr : Bool), g1 a0 = some rr → Calls Try.prog f1 (#[.int .i64 a0] ++ c1) w' (PostV w' (.bool rr))) (res : Int) (hm : slices_IndexFunc_api_Errno_api_Errno_m x0 g1 = some res) : Calls Try.prog 54 #[v0, .func (.func f1) #[] c1] w (PostV w (.int .i64 res)) := by
  refine calls_enter 19 Try.func54 Try.ntmps54 rfl S false [(0, v0), (1, .func (.func f1) #[] c1)] [imm (TR.sl TR.int) v0 x0] rfl ⟨rfl, ⟨rfl, trivial⟩⟩ hS ⟨k0, trivial⟩ ?_
  unfold slices_IndexFunc_api_Errno_api_Errno_m at hm
  refine GL.seq ?_
  refine GL.region ?_
  refine RL.asg rfl rfl rfl ?_
  refine RL.finG ?_
  refine GL.seq ?_
  refine GL.seq ?_
  refine GL.region ?_
  refine RL.mv rfl rfl rfl ?_
  refine RL.lenS 0 Try.underlying55 rfl rfl rfl rfl SlOf.imm ?_
  refine RL.mv rfl rfl rfl ?_
  refine RL.finG ?_
  refine GL.open_ 0 rfl (fun S h => len_imm S h) (fun n12 => ?_)
  obtain ⟨y13, K14, h15, h16, h17, h18, h19⟩ := bindR_K hm
  refine GL.join (ι := Unit) (fun (p : Unit) => []) (fun (p : Unit) => []) (fun (p : Unit) => K14 (.nx ())) ?_ ?_
  · refine GL.block ?_
    refine GL.loop (ι := Nat × (List Int)) (fun (p : Nat × (List Int)) => [(0, v0), (1, .func (.func f1) #[] c1), (7, .int .i64 ((x0).length : Int)), (8, .int .i64 (p.1 : Int))]) (fun (p : Nat × (List Int)) => [imm (TR.sl TR.int) v0 x0]) (fun (p : Nat × (List Int)) => p.1 + p.2.length = (x0).length ∧ List.drop p.1 x0 = p.2 ∧ rangeL (slices_IndexFunc_api_Errno_api_Errno_b1 g1) p.2 p.1 () = some y13) (fun (p : Nat × (List Int)) => p.2.length) (0, x0) ⟨by simp, by simp, h15⟩ (fun a w st => St.cut [0] ⟨rfl, rfl, rfl, rfl, trivial⟩ (by decide) rfl st) ?_
    rintro ⟨i20, r21⟩ ⟨h26, h27, h25⟩
    try dsimp only at h26 h27 h25
    refine GL.weak (env' := [(0, v0), (1, .func (.func f1) #[] c1), (7, .int .i64 ((x0).length : Int)), (8, .int .i64 (i20 : Int))]) (L' := [imm (TR.sl TR.int) v0 x0]) (fun _ _ st => st) ?_
    refine GL.seq ?_
    refine GL.region ?_
    refine RL.binI (v := .bool (decide ((i20 : Int) < ((x0).length : Int)))) rfl rfl rfl rfl rfl ?_
    refine RL.finG ?_
    refine GL.seq ?_
    refine GL.cond rfl (fun b28 => ?_) (fun b28 => ?_)
    · have h29 : i20 < (x0).length := by have := of_decide_eq_true b28; omega
      obtain ⟨y30, r32, hr, e31, h33⟩ := drop_cons h27 rfl h29
      subst hr
      obtain ⟨z22, h23, h24⟩ := rangeL_some h25
      unfold slices_IndexFunc_api_Errno_api_Errno_b1 at h23
      try dsimp only at h23
      refine GL.skip ?_
      refine GL.seq ?_
      refine GL.block ?_
      refine GL.seq ?_
      refine GL.region ?_
      refine RL.mv rfl rfl rfl ?_
      refine RL.asg rfl rfl rfl ?_
      refine RL.finG ?_
      refine GL.seq ?_
      refine GL.region ?_
      refine RL.mv rfl rfl rfl ?_
      refine RL.mv rfl rfl rfl ?_
      refine RL.mv rfl rfl rfl ?_
      refine RL.idxS (sz := 1) 0 Try.underlying55 Try_ln24 rfl rfl rfl rfl rfl SlOf.imm (by omega) (by omega) ?_
      refine RL.ldSx (i := i20) (e' := y30) 0 Ex.ik Try_ln24 rfl rfl rfl rfl SlOf.imm e31 Part.self ?_
      obtain ⟨y36, e37, h23⟩ := bind_some h23
      refine RL.callV (v := .bool y36) (vs := [.int .i64 y30]) t1 rfl (Or.inl rfl) rfl rfl rfl rfl (fun U w hU hW hL => k1 U w hW hU y30 _ e37) ?_
      refine RL.finG ?_
      refine GL.cond rfl (fun b38 => ?_) (fun b38 => ?_)
      · replace h23 := ite_t b38 h23
        refine GL.seq ?_
        refine GL.region ?_
        refine RL.mv rfl rfl rfl ?_
        refine RL.asg rfl rfl rfl ?_
        refine RL.finG ?_
        cases h23
        replace h24 : some (Fl.rt _) = some y13 := h24
        cases h24
        have hh := h18 _ h16
        subst hh
        exact GL.ret (Gx.ret (v := .int .i64 (i20 : Int)) (res1 rfl rfl) (fun a w st => st.toPostV))
      · replace h23 := ite_f b38 h23
        refine GL.skip ?_
        refine GL.nilB ?_
        refine GL.region ?_
        refine RL.binI (v := .int .i64 ((i20 + 1 : Nat) : Int)) rfl rfl rfl rfl (binI_succ i20 (by omega)) ?_
        refine RL.mv rfl rfl rfl ?_
        refine RL.fin ?_
        cases h23
        exact fun a w st => lop_intro (i20 + 1, r32) ⟨by show i20 + 1 + r32.length = (x0).length; simp only [List.length_cons] at h26; omega, h33, h24⟩ (by simp) (St.cut [0] ⟨rfl, rfl, rfl, rfl, trivial⟩ (by decide) rfl st)
    · have h29 : ¬ i20 < (x0).length := by have := of_decide_eq_false b28; omega
      obtain rfl : r21 = [] := by rw [← h27]; exact List.drop_of_length_le (by omega)
      replace h25 : some (Fl.nx _) = some y13 := h25
      cases h25
      exact GL.exit (fun a w st => mid_intro () h16 (St.cut [] trivial (by decide) rfl st))
  · rintro ⟨⟩ h39
    have h40 := h17 _ h39
    try dsimp only at h40
    refine GL.weak (env' := []) (L' := []) (fun _ _ st => st) ?_
    refine GL.seq ?_
    refine GL.region ?_
    refine RL.asg rfl rfl rfl ?_
    refine RL.finG ?_
    have h40 := Option.some.inj h40
    subst h40
    exact GL.ret (Gx.ret (v := .int .i64 (-1 : Int)) (res1 rfl rfl) (fun a w st => st.toPostV))

set_option maxHeartbeats 4000000 in
theorem slices_ContainsFunc_api_Errno_api_Errno_c (S : Hp) (w : World) (hS : S.sub w) (v0 : Value) (x0 : (List Int)) (k0 : ((TR.sl TR.int)).vrep S v0 x0) (f1 : FuncId) (c1 : Array Value) (t1 : Fit Try.prog f1) (g1 : Int → Option Bool) (k1 : ∀ (U : Hp) (w' : World), Hp.le S U → U.sub w' → ∀ (a0 : Int) (rr : Bool), g1 a0 = some rr → Calls Try.prog f1 (#[.int .i64 a0] ++ c1) w' (PostV w' (.bool rr))) (res : Bool) (hm : slices_ContainsFunc_api_Errno_api_Errno_m x0 g1 = some res) : Calls Try.prog 46 #[v0, .func (.func f1) #[] c1] w (PostV w (.bool res)) := by
  refine calls_enter 9 Try.func46 Try.ntmps46 rfl S false [(0, v0), (1, .func (.func f1) #[] c1)] [imm (TR.sl TR.int) v0 x0] rfl ⟨rfl, ⟨rfl, trivial⟩⟩ hS ⟨k0, trivial⟩ ?_
  unfold slices_ContainsFunc_api_Errno_api_Errno_m at hm
  refine GL.seq ?_
  refine GL.region ?_
  refine RL.asg rfl rfl rfl ?_
  refine RL.finG ?_
  refine GL.seq ?_
  refine GL.region ?_
  refine RL.mv rfl rfl rfl ?_
  refine RL.mv rfl rfl rfl ?_
  obtain ⟨y5, e6, hm⟩ := bind_some hm
  refine RL.callV (v := .int .i64 y5) (vs := [v0, .func (.func f1) #[] c1]) Try_fit54 rfl (Or.inl rfl) rfl rfl rfl rfl (fun U w hU hW hL => slices_IndexFunc_api_Errno_api_Errno_c U w hU _ _ (hL 0 _ _ rfl Seen.imm) f1 c1 t1 g1 (fun U' w' hle => k1 U' w' (Hp.le_trans hW hle)) _ e6) ?_
  refine RL.binI (v := .bool (decide (y5 ≥ (0 : Int)))) rfl rfl rfl rfl rfl ?_
  refine RL.asg rfl rfl rfl ?_
  refine RL.finG ?_
  have hm := Option.some.inj hm
  subst hm
  exact GL.ret (Gx.ret (v := .bool (decide (y5 ≥ (0 : Int)))) (res1 rfl rfl) (fun a w st => st.toPostV))

set_option maxHeartbeats 4000000 in
theorem pk_good_1_c (S : Hp) (w : World) (hS : S.sub w) (x0 : Int) (res : Bool) (hm : pk_good_1_m x0 = some res) : Calls Try.prog 47 #[.int .i64 x0] w (PostC w (.bool res)) := by
  refine calls_enter 5 Try.func47 Try.ntmps47 rfl S true [(0, .int .i64 x0)] [] rfl ⟨rfl, trivial⟩ hS trivial ?_
  unfold pk_good_1_m at hm
  refine GL.seq ?_
  refine GL.region ?_
  refine RL.asg rfl rfl rfl ?_
  refine RL.finG ?_
  refine GL.seq ?_
  refine GL.region ?_
  refine RL.mv rfl rfl rfl ?_
  refine RL.binI (v := .bool (x0 != (0 : Int))) rfl rfl rfl rfl rfl ?_
  refine RL.asg rfl rfl rfl ?_
  refine RL.finG ?_
  have hm := Option.some.inj hm
  subst hm
  exact GL.ret (Gx.ret (v := .bool (x0 != (0 : Int))) (res1 rfl rfl) (fun a w st => st.toPostC rfl))

set_option maxHeartbeats 4000000 in
theorem pk_good_c (S : Hp) (w : World) (hS : S.sub w) (v0 : Value) (x0 : (List Int)) (k0 : ((TR.sl TR.int)).vrep S v0 x0) (res : Bool) (hm : pk_good_m x0 = some res) : Calls Try.prog 25 #[v0] w (PostV w (.bool res)) := by
  refine calls_enter 6 Try.func25 Try.ntmps25 rfl S false [(0, v0)] [imm (TR.sl TR.int) v0 x0] rfl ⟨rfl, trivial⟩ hS ⟨k0, trivial⟩ ?_
  unfold pk_good_m at hm
  refine GL.seq ?_
  refine GL.region ?_
  refine RL.asg rfl rfl rfl ?_
  refine RL.finG ?_
  refine GL.seq ?_
  refine GL.region ?_
  refine RL.mv rfl rfl rfl ?_
  obtain ⟨y4, e5, hm⟩ := bind_some hm
  refine RL.callV (v := .bool y4) (vs := [v0, .func (.func 47) #[] #[]]) Try_fit46 rfl (Or.inl rfl) rfl rfl rfl rfl (fun U w hU hW hL => slices_ContainsFunc_api_Errno_api_Errno_c U w hU _ _ (hL 0 _ _ rfl Seen.imm) 47 #[] Try_fit47 (fun a0 => pk_good_1_m a0) (fun U' w' hle hU' a0 rr hr => (pk_good_1_c U' w' hU' a0 rr hr).mono (fun _ _ z => z.toV)) _ e5) ?_
  refine RL.notB rfl rfl rfl ?_
  refine RL.asg rfl rfl rfl ?_
  refine RL.finG ?_
  have hm := Option.some.inj hm
  subst hm
  exact GL.ret (Gx.ret (v := .bool (!y4)) (res1 rfl rfl) (fun a w st => st.toPostV))

set_option maxHeartbeats 4000000 in
theorem slices_Equal_int_int_c (S : Hp) (w : World) (hS : S.sub w) (v0 : Value) (x0 : (List Int)) (k0 : ((TR.sl TR.int)).vrep S v0 x0) (v1 : Value) (x1 : (List Int)) (k1 : ((TR.sl TR.int)).vrep S v1 x1) (res : Bool) (hm : slices_Equal_int_int_m x0 x1 = some res) : Calls Try.prog 19 #[v0, v1] w (PostV w (.bool res)) := by
  refine calls_enter 26 Try.func19 Try.ntmps19 rfl S false [(0, v0), (1, v1)] [imm (TR.sl TR.int) v0 x0, imm (TR.sl TR.int) v1 x1] rfl ⟨rfl, ⟨rfl, trivial⟩⟩ hS ⟨k0, ⟨k1, trivial⟩⟩ ?_
  unfold slices_Equal_int_int_m at hm
  refine GL.seq ?_
  refine GL.region ?_
  refine RL.asg rfl rfl rfl ?_
  refine RL.finG ?_
  refine GL.seq ?_
  refine GL.seq ?_
  refine GL.region ?_
  refine RL.mv rfl rfl rfl ?_
  refine RL.lenS 0 Try.underlying28 rfl rfl rfl rfl SlOf.imm ?_
  refine RL.mv rfl rfl rfl ?_
  refine RL.lenS 1 Try.underlying28 rfl rfl rfl rfl SlOf.imm ?_
  refine RL.binI (v := .bool (((x0).length : Int) != ((x1).length : Int))) rfl rfl rfl rfl rfl ?_
  refine RL.finG ?_
  refine GL.cond rfl (fun b3 => ?_) (fun b3 => ?_)
  · replace hm := ite_t b3 hm
    refine GL.seq ?_
    refine GL.region ?_
    refine RL.asg rfl rfl rfl ?_
    refine RL.finG ?_
    have hm := Option.some.inj hm
    subst hm
    exact GL.ret (Gx.ret (v := .bool false) (res1 rfl rfl) (fun a w st => st.toPostV))
  · replace hm := ite_f b3 hm
    refine GL.skip ?_
    refine GL.seq ?_
    refine GL.seq ?_
    refine GL.region ?_
    refine RL.mv rfl rfl rfl ?_
    refine RL.lenS 0 Try.underlying28 rfl rfl rfl rfl SlOf.imm ?_
    refine RL.mv rfl rfl rfl ?_
    refine RL.finG ?_
    refine GL.open_ 0 rfl (fun S h => len_imm S h) (fun n13 => ?_)
    obtain ⟨y14, K15, h16, h17, h18, h19, h20⟩ := bindR_K hm
    refine GL.join (ι := Unit) (fun (p : Unit) => []) (fun (p : Unit) => []) (fun (p : Unit) => K15 (.nx ())) ?_ ?_
    · refine GL.block ?_
      refine GL.loop (ι := Nat × (List Int)) (fun (p : Nat × (List Int)) => [(0, v0), (1, v1), (12, .int .i64 ((x0).length : Int)), (13, .int .i64 (p.1 : Int))]) (fun (p : Nat × (List Int)) => [imm (TR.sl TR.int) v0 x0, imm (TR.sl TR.int) v1 x1]) (fun (p : Nat × (List Int)) => p.1 + p.2.length = (x0).length ∧ List.drop p.1 x0 = p.2 ∧ rangeL (slices_Equal_int_int_b1 x1) p.2 p.1 () = some y14) (fun (p : Nat × (List Int)) => p.2.length) (0, x0) ⟨by simp, by simp, h16⟩ (fun a w st => St.cut [0, 1] ⟨rfl, rfl, rfl, rfl, trivial⟩ (by decide) rfl st) ?_
      rintro ⟨i21, r22⟩ ⟨h27, h28, h26⟩
      try dsimp only at h27 h28 h26
      refine GL.weak (env' := [(0, v0), (1, v1), (12, .int .i64 ((x0).length : Int)), (13, .int .i64 (i21 : Int))]) (L' := [imm (TR.sl TR.int) v0 x0, imm (TR.sl TR.int) v1 x1]) (fun _ _ st => st) ?_
      refine GL.seq ?_
      refine GL.region ?_
      refine RL.binI (v := .bool (decide ((i21 : Int) < ((x0).length : Int)))) rfl rfl rfl rfl rfl ?_
      refine RL.finG ?_
      refine GL.seq ?_
      refine GL.cond rfl (fun b29 => ?_) (fun b29 => ?_)
      · have h30 : i21 < (x0).length := by have := of_decide_eq_true b29; omega
        obtain ⟨y31, r33, hr, e32, h34⟩ := drop_cons h28 rfl h30
        subst hr
        obtain ⟨z23, h24, h25⟩ := rangeL_some h26
        unfold slices_Equal_int_int_b1 at h24
        try dsimp only at h24
        refine GL.skip ?_
        refine GL.seq ?_
        refine GL.block ?_
        refine GL.seq ?_
        refine GL.region ?_
        refine RL.mv rfl rfl rfl ?_
        refine RL.asg rfl rfl rfl ?_
        refine RL.finG ?_
        refine GL.seq ?_
        refine GL.regionQ rfl rfl (by kernel_rfl) ?_
        refine RL.mv rfl rfl rfl ?_
        refine RL.mv rfl rfl rfl ?_
        refine RL.idxS (sz := 1) 0 Try.underlying28 Try_ln3 rfl rfl rfl rfl rfl SlOf.imm (by omega) (by omega) ?_
        refine RL.ldSx (i := i21) (e' := y31) 0 Ex.ik Try_ln3 rfl rfl rfl rfl SlOf.imm e32 Part.self ?_
        refine RL.mv rfl rfl rfl ?_
        refine RL.mv rfl rfl rfl ?_
        obtain ⟨y37, e38, h24⟩ := bind_some h24
        refine RL.idxS (sz := 1) 1 Try.underlying28 Try_ln3 rfl rfl rfl rfl rfl SlOf.imm (idx_some e38).1 (idx_some e38).2.1 ?_
        refine RL.ldSx (i := i21) (e' := y37) 1 Ex.ik Try_ln3 rfl rfl rfl rfl SlOf.imm (idx_some e38).2.2 Part.self ?_
        refine RL.binI (v := .bool (y31 != y37)) rfl rfl rfl rfl rfl ?_
        refine RL.finQG ?_
        refine GL.cond rfl (fun b39 => ?_) (fun b39 => ?_)
        · replace h24 := ite_t b39 h24
          refine GL.seq ?_
          refine GL.region ?_
          refine RL.asg rfl rfl rfl ?_
          refine RL.finG ?_
          cases h24
          replace h25 : some (Fl.rt _) = some y14 := h25
          cases h25
          have hh := h19 _ h17
          subst hh
          exact GL.ret (Gx.ret (v := .bool false) (res1 rfl rfl) (fun a w st => st.toPostV))
        · replace h24 := ite_f b39 h24
          refine GL.skip ?_
          refine GL.nilB ?_
          refine GL.region ?_
          refine RL.binI (v := .int .i64 ((i21 + 1 : Nat) : Int)) rfl rfl rfl rfl (binI_succ i21 (by omega)) ?_
          refine RL.mv rfl rfl rfl ?_
          refine RL.fin ?_
          cases h24
          exact fun a w st => lop_intro (i21 + 1, r33) ⟨by show i21 + 1 + r33.length = (x0).length; simp only [List.length_cons] at h27; omega, h34, h25⟩ (by simp) (St.cut [0, 1] ⟨rfl, rfl, rfl, rfl, trivial⟩ (by decide) rfl st)
      · have h30 : ¬ i21 < (x0).length := by have := of_decide_eq_false b29; omega
        obtain rfl : r22 = [] := by rw [← h28]; exact List.drop_of_length_le (by omega)
        replace h26 : some (Fl.nx _) = some y14 := h26
        cases h26
        exact GL.exit (fun a w st => mid_intro () h17 (St.cut [] trivial (by decide) rfl st))
    · rintro ⟨⟩ h40
      have h41 := h18 _ h40
      try dsimp only at h41
      refine GL.weak (env' := []) (L' := []) (fun _ _ st => st) ?_
      refine GL.seq ?_
      refine GL.region ?_
      refine RL.asg rfl rfl rfl ?_
      refine RL.finG ?_
      have h41 := Option.some.inj h41
      subst h41
      exact GL.ret (Gx.ret (v := .bool true) (res1 rfl rfl) (fun a w st => st.toPostV))

set_option maxHeartbeats 4000000 in
theorem pk_tallies_c (S : Hp) (w : World) (hS : S.sub w)  (res : Bool) (hm : pk_tallies_m = some res) : Calls Try.prog 30 #[] w (PostV w (.bool res)) := by
  refine calls_enter 33 Try.func30 Try.ntmps30 rfl S false [] [] rfl trivial hS trivial ?_
  unfold pk_tallies_m at hm
  refine GL.seq ?_
  refine GL.region ?_
  refine RL.asg rfl rfl rfl ?_
  refine RL.finG ?_
  refine GL.seq ?_
  refine GL.region ?_
  refine RL.bS (t := TR.int) (vs := [.int .i64 (0 : Int), .int .i64 (1 : Int), .int .i64 (2 : Int)]) ([(0 : Int), (1 : Int), (2 : Int)] : (List Int)) Try.underlying28 Try_lo3 rfl rfl rfl rfl ⟨VR.int, ⟨VR.int, ⟨VR.int, trivial⟩⟩⟩ rfl (by decide) ?_
  intro v5
  refine RL.bS (t := TR.int) (vs := [.int .i64 (1 : Int), .int .i64 (2 : Int), .int .i64 (0 : Int)]) ([(1 : Int), (2 : Int), (0 : Int)] : (List Int)) Try.underlying28 Try_lo3 rfl rfl rfl rfl ⟨VR.int, ⟨VR.int, ⟨VR.int, trivial⟩⟩⟩ rfl (by decide) ?_
  intro v6
  refine RL.reL (L' := [own 3 TR.int v5 ([(0 : Int), (1 : Int), (2 : Int)] : (List Int)), own 3 TR.int v6 ([(1 : Int), (2 : Int), (0 : Int)] : (List Int))]) rfl ?_
  refine RL.bS (t := TR.int) (vs := [.int .i64 (1 : Int), .int .i64 (0 : Int), .int .i64 (2 : Int)]) ([(1 : Int), (0 : Int), (2 : Int)] : (List Int)) Try.underlying28 Try_lo3 rfl rfl rfl rfl ⟨VR.int, ⟨VR.int, ⟨VR.int, trivial⟩⟩⟩ rfl (by decide) ?_
  intro v7
  refine RL.weak (fun a w st => st.freeze 0 rfl) ?_
  refine RL.weak (fun a w st => st.freeze 1 rfl) ?_
  refine RL.weak (fun a w st => st.freeze 2 rfl) ?_
  refine RL.bS (t := (TR.sl TR.int)) (vs := [v5, v6, v7]) ([([(0 : Int), (1 : Int), (2 : Int)] : (List Int)), ([(1 : Int), (2 : Int), (0 : Int)] : (List Int)), ([(1 : Int), (0 : Int), (2 : Int)] : (List Int))] : (List (List Int))) Try.underlying22 Try_lo28 rfl rfl rfl rfl ⟨(VR.item 0 rfl), ⟨(VR.item 1 rfl), ⟨(VR.item 2 rfl), trivial⟩⟩⟩ rfl (by decide) ?_
  intro v8
  refine RL.reL (L' := [imm (TR.sl TR.int) v5 ([(0 : Int), (1 : Int), (2 : Int)] : (List Int)), imm (TR.sl TR.int) v6 ([(1 : Int), (2 : Int), (0 : Int)] : (List Int)), imm (TR.sl TR.int) v7 ([(1 : Int), (0 : Int), (2 : Int)] : (List Int)), own 28 (TR.sl TR.int) v8 ([([(0 : Int), (1 : Int), (2 : Int)] : (List Int)), ([(1 : Int), (2 : Int), (0 : Int)] : (List Int)), ([(1 : Int), (0 : Int), (2 : Int)] : (List Int))] : (List (List Int)))]) rfl ?_
  refine RL.asg rfl rfl rfl ?_
  refine RL.finG ?_
  refine GL.seq ?_
  refine GL.region ?_
  refine RL.mv rfl rfl rfl ?_
  obtain ⟨y11, e12, hm⟩ := bind_some hm
  refine RL.callV (v := .tuple #[.int .i64 y11.1, .int .i64 y11.2]) (vs := [.int .i64 (3 : Int), v8]) Try_fit32 rfl (Or.inl rfl) rfl rfl rfl rfl (fun U w hU hW hL => tally_Beater_c U w hU (3 : Int) _ _ (hL 3 _ _ rfl Seen.own) _ e12) ?_
  refine RL.mv rfl rfl rfl ?_
  refine RL.ext rfl rfl rfl rfl ?_
  refine RL.ext rfl rfl rfl rfl ?_
  refine RL.asg rfl rfl rfl ?_
  refine RL.asg rfl rfl rfl ?_
  refine RL.finG ?_
  refine GL.seq ?_
  refine GL.region ?_
  refine RL.mv rfl rfl rfl ?_
  obtain ⟨y16, e17, hm⟩ := bind_some hm
  refine RL.callU (vs := [.int .i64 (3 : Int), v8]) (LR := fun (o : Value) => [own 3 TR.int o y16.1]) (fun o => ⟨Loc.own TR.flatT_ik, trivial⟩) Try_fit35 rfl rfl rfl rfl rfl (fun U w hU hW hL => tally_Points_c U w hU (3 : Int) _ _ (hL 3 _ _ rfl Seen.own) _ e17) ?_
  intro v18
  refine RL.mv rfl rfl rfl ?_
  refine RL.ext rfl rfl rfl rfl ?_
  refine RL.ext rfl rfl rfl rfl ?_
  refine RL.asg rfl rfl rfl ?_
  refine RL.asg rfl rfl rfl ?_
  refine RL.finG ?_
  refine GL.seq ?_
  obtain ⟨y36, K37, h38, h39, h40, h41, h42⟩ := bindR_K hm
  refine GL.join (ι := Bool) (fun (p : Bool) => [(0, .bool p)]) (fun (p : Bool) => []) (fun (p : Bool) => K37 (.nx p)) ?_ ?_
  · skip
    refine GL.region ?_
    refine RL.mv rfl rfl rfl ?_
    refine RL.mv rfl rfl rfl ?_
    refine RL.bS (t := TR.int) (vs := [.int .i64 y11.2, .int .i64 y16.2]) ([y11.2, y16.2] : (List Int)) Try.underlying55 Try_lo24 rfl rfl rfl rfl ⟨VR.int, ⟨VR.int, trivial⟩⟩ rfl (by decide) ?_
    intro v43
    obtain ⟨y44, e45, h38⟩ := bind_some h38
    refine RL.callV (v := .bool y44) (vs := [v43]) Try_fit25 rfl (Or.inl rfl) rfl rfl rfl rfl (fun U w hU hW hL => pk_good_c U w hU _ _ (hL 5 _ _ rfl Seen.own) _ e45) ?_
    refine RL.mv rfl rfl rfl ?_
    refine RL.split (t := 24) rfl (fun b46 => ?_) (fun b46 => ?_)
    · replace h38 := ite_t b46 h38
      refine RL.mv rfl rfl rfl ?_
      refine RL.binI (v := .bool (y11.1 == (1 : Int))) rfl rfl rfl rfl rfl ?_
      refine RL.pickT rfl rfl rfl rfl ?_
      refine RL.mv rfl rfl rfl ?_
      refine RL.split (t := 28) rfl (fun b47 => ?_) (fun b47 => ?_)
      · replace h38 := ite_t b47 h38
        refine RL.mv rfl rfl rfl ?_
        refine RL.bS (t := TR.int) (vs := [.int .i64 (3 : Int), .int .i64 (5 : Int), .int .i64 (1 : Int)]) ([(3 : Int), (5 : Int), (1 : Int)] : (List Int)) Try.underlying28 Try_lo3 rfl rfl rfl rfl ⟨VR.int, ⟨VR.int, ⟨VR.int, trivial⟩⟩⟩ rfl (by decide) ?_
        intro v48
        refine RL.reL (L' := [imm (TR.sl TR.int) v5 ([(0 : Int), (1 : Int), (2 : Int)] : (List Int)), imm (TR.sl TR.int) v6 ([(1 : Int), (2 : Int), (0 : Int)] : (List Int)), imm (TR.sl TR.int) v7 ([(1 : Int), (0 : Int), (2 : Int)] : (List Int)), own 28 (TR.sl TR.int) v8 ([([(0 : Int), (1 : Int), (2 : Int)] : (List Int)), ([(1 : Int), (2 : Int), (0 : Int)] : (List Int)), ([(1 : Int), (0 : Int), (2 : Int)] : (List Int))] : (List (List Int))), own 3 TR.int v18 y16.1, own 24 TR.int v43 ([y11.2, y16.2] : (List Int)), own 3 TR.int v48 ([(3 : Int), (5 : Int), (1 : Int)] : (List Int))]) rfl ?_
        obtain ⟨y49, e50, h38⟩ := bind_some h38
        refine RL.callV (v := .bool y49) (vs := [v18, v48]) Try_fit19 rfl (Or.inl rfl) rfl rfl rfl rfl (fun U w hU hW hL => slices_Equal_int_int_c U w hU _ _ (hL 4 _ _ rfl Seen.own) _ _ (hL 6 _ _ rfl Seen.own) _ e50) ?_
        refine RL.pickT rfl rfl rfl rfl ?_
        refine RL.asg rfl rfl rfl ?_
        refine RL.fin ?_
        cases h38
        exact fun a w st => mid_intro y49 h39 (St.cut [] ⟨rfl, trivial⟩ (by decide) rfl st)
      · replace h38 := ite_f b47 h38
        refine RL.skip rfl rfl ?_
        refine RL.skip rfl rfl ?_
        refine RL.skip rfl rfl ?_
        refine RL.pickF rfl rfl rfl rfl ?_
        refine RL.asg rfl rfl rfl ?_
        refine RL.fin ?_
        cases h38
        exact fun a w st => mid_intro false h39 (St.cut [] ⟨rfl, trivial⟩ (by decide) rfl st)
    · replace h38 := ite_f b46 h38
      refine RL.skip rfl rfl ?_
      refine RL.skip rfl rfl ?_
      refine RL.pickF rfl rfl rfl rfl ?_
      refine RL.mv rfl rfl rfl ?_
      refine RL.skip rfl rfl ?_
      refine RL.skip rfl rfl ?_
      refine RL.skip rfl rfl ?_
      refine RL.pickF rfl rfl rfl rfl ?_
      refine RL.asg rfl rfl rfl ?_
      refine RL.fin ?_
      cases h38
      exact fun a w st => mid_intro false h39 (St.cut [] ⟨rfl, trivial⟩ (by decide) rfl st)
  · rintro x35 h51
    have h52 := h40 _ h51
    try dsimp only at h52
    refine GL.weak (env' := [(0, .bool x35)]) (L' := []) (fun _ _ st => st) ?_
    have h52 := Option.some.inj h52
    subst h52
    exact GL.ret (Gx.ret (v := .bool x35) (res1 rfl rfl) (fun a w st => st.toPostV))

set_option maxHeartbeats 4000000 in
theorem ref_Rest_c (S : Hp) (w : World) (hS : S.sub w) (x0 : Int) (x1 : Int) (res : Int) (hm : ref_Rest_m x0 x1 = some res) : Calls Try.prog 43 #[.int .i64 x0, .int .i64 x1] w (PostC w (.int .i64 res)) := by
  refine calls_enter 14 Try.func43 Try.ntmps43 rfl S true [(0, .int .i64 x0), (1, .int .i64 x1)] [] rfl ⟨rfl, ⟨rfl, trivial⟩⟩ hS trivial ?_
  unfold ref_Rest_m at hm
  refine GL.seq ?_
  refine GL.region ?_
  refine RL.asg rfl rfl rfl ?_
  refine RL.finG ?_
  refine GL.seq ?_
  refine GL.region ?_
  refine RL.mv rfl rfl rfl ?_
  refine RL.mv rfl rfl rfl ?_
  obtain ⟨y5, e6, hm⟩ := bind_some hm
  replace e6 := chk_some e6
  refine RL.rem rfl rfl rfl rfl e6 ?_
  refine RL.asg rfl rfl rfl ?_
  refine RL.finG ?_
  refine GL.seq ?_
  refine GL.seq ?_
  refine GL.region ?_
  refine RL.mv rfl rfl rfl ?_
  refine RL.binI (v := .bool (decide ((Int.tmod x0 x1) < (0 : Int)))) rfl rfl rfl rfl rfl ?_
  refine RL.finG ?_
  obtain ⟨y9, K10, h11, h12, h13, h14, h15⟩ := bindR_K hm
  refine GL.join (ι := Int) (fun (p : Int) => [(0, .int .i64 p)]) (fun (p : Int) => []) (fun (p : Int) => K10 (.nx p)) ?_ ?_
  · skip
    refine GL.cond rfl (fun b16 => ?_) (fun b16 => ?_)
    · replace h11 := ite_t b16 h11
      refine GL.region ?_
      refine RL.mv rfl rfl rfl ?_
      refine RL.mv rfl rfl rfl ?_
      refine RL.binI (v := .int .i64 (wadd (Int.tmod x0 x1) x1)) rfl rfl rfl rfl rfl ?_
      refine RL.asg rfl rfl rfl ?_
      refine RL.finG ?_
      cases h11
      exact fun a w st => mid_intro (wadd (Int.tmod x0 x1) x1) h12 (St.cut [] ⟨rfl, trivial⟩ (by decide) rfl st)
    · replace h11 := ite_f b16 h11
      refine GL.skip ?_
      cases h11
      exact fun a w st => mid_intro (Int.tmod x0 x1) h12 (St.cut [] ⟨rfl, trivial⟩ (by decide) rfl st)
  · rintro x8 h17
    have h18 := h13 _ h17
    try dsimp only at h18
    refine GL.weak (env' := [(0, .int .i64 x8)]) (L' := []) (fun _ _ st => st) ?_
    refine GL.seq ?_
    refine GL.region ?_
    refine RL.mv rfl rfl rfl ?_
    refine RL.asg rfl rfl rfl ?_
    refine RL.finG ?_
    have h18 := Option.some.inj h18
    subst h18
    exact GL.ret (Gx.ret (v := .int .i64 x8) (res1 rfl rfl) (fun a w st => st.toPostC rfl))

set_option maxHeartbeats 4000000 in
theorem pk_Within_c (S : Hp) (w : World) (hS : S.sub w) (x0 : Int) (x1 : Int) (res : Int) (hm : pk_Within_m x0 x1 = some res) : Calls Try.prog 20 #[.int .i64 x0, .int .i64 x1] w (PostC w (.int .i64 res)) := by
  refine calls_enter 8 Try.func20 Try.ntmps20 rfl S true [(0, .int .i64 x0), (1, .int .i64 x1)] [] rfl ⟨rfl, ⟨rfl, trivial⟩⟩ hS trivial ?_
  unfold pk_Within_m at hm
  refine GL.seq ?_
  refine GL.region ?_
  refine RL.asg rfl rfl rfl ?_
  refine RL.finG ?_
  refine GL.seq ?_
  refine GL.region ?_
  refine RL.mv rfl rfl rfl ?_
  refine RL.mv rfl rfl rfl ?_
  obtain ⟨y5, e6, hm⟩ := bind_some hm
  refine RL.callC (v := .int .i64 y5) (vs := [.int .i64 x0, .int .i64 x1]) Try_fit43 rfl rfl rfl rfl (fun U w hU hW hL => ref_Rest_c U w hU x0 x1 _ e6) ?_
  refine RL.asg rfl rfl rfl ?_
  refine RL.finG ?_
  have hm := Option.some.inj hm
  subst hm
  exact GL.ret (Gx.ret (v := .int .i64 y5) (res1 rfl rfl) (fun a w st => st.toPostC rfl))

set_option maxHeartbeats 4000000 in
theorem ref_Sides_c (S : Hp) (w : World) (hS : S.sub w) (x0 : Int) (res : (List Int)) (hm : ref_Sides_m x0 = some res) : Calls Try.prog 51 #[.int .i64 x0] w (Post w S (fun (o : Value) => o) (fun (o : Value) => [own 3 TR.int o res])) := by
  refine calls_enter 15 Try.func51 Try.ntmps51 rfl S false [(0, .int .i64 x0)] [] rfl ⟨rfl, trivial⟩ hS trivial ?_
  unfold ref_Sides_m at hm
  refine GL.seq ?_
  refine GL.region ?_
  refine RL.asg rfl rfl rfl ?_
  refine RL.finG ?_
  refine GL.seq ?_
  refine GL.region ?_
  refine RL.asg rfl rfl rfl ?_
  refine RL.finG ?_
  refine GL.seq ?_
  refine GL.seq ?_
  refine GL.region ?_
  refine RL.mv rfl rfl rfl ?_
  refine RL.mv rfl rfl rfl ?_
  refine RL.finG ?_
  refine GL.weak (fun a w st => st.nilOwn 3 TR.int) ?_
  obtain ⟨y13, e14, hm⟩ := bind_some hm
  replace e14 := chk_some e14
  obtain ⟨y15, K16, h17, h18, h19, h20, h21⟩ := bindR_K hm
  refine GL.join (ι := (List Int) × Value) (fun (p : (List Int) × Value) => [(3, p.2)]) (fun (p : (List Int) × Value) => [own 3 TR.int p.2 p.1]) (fun (p : (List Int) × Value) => K16 (.nx p.1)) ?_ ?_
  · refine GL.block ?_
    refine GL.loop (ι := Nat × Nat × (List Int) × Value) (fun (p : Nat × Nat × (List Int) × Value) => [(3, p.2.2.2), (5, .int .i64 x0), (6, .int .i64 (p.1 : Int))]) (fun (p : Nat × Nat × (List Int) × Value) => [own 3 TR.int p.2.2.2 p.2.2.1]) (fun (p : Nat × Nat × (List Int) × Value) => p.1 + p.2.1 = (x0).toNat ∧ rangeN ref_Sides_b1 p.2.1 p.1 p.2.2.1 = some y15) (fun (p : Nat × Nat × (List Int) × Value) => p.2.1) (0, (x0).toNat, [], Value.slice none 0 0) ⟨by simp, h17⟩ (fun a w st => St.cut [0] ⟨rfl, rfl, rfl, trivial⟩ (by decide) rfl st) ?_
    rintro ⟨i22, r23, l2, v3⟩ ⟨h28, h27⟩
    try dsimp only at h28 h27
    refine GL.weak (env' := [(3, v3), (5, .int .i64 x0), (6, .int .i64 (i22 : Int))]) (L' := [own 3 TR.int v3 l2]) (fun _ _ st => st) ?_
    refine GL.seq ?_
    refine GL.region ?_
    refine RL.binI (v := .bool (decide ((i22 : Int) < x0))) rfl rfl rfl rfl rfl ?_
    refine RL.finG ?_
    refine GL.seq ?_
    refine GL.cond rfl (fun b30 => ?_) (fun b30 => ?_)
    · have h31 : i22 < (x0).toNat := by have := of_decide_eq_true b30; omega
      obtain ⟨r32, hr⟩ : ∃ m, r23 = m + 1 := ⟨r23 - 1, by omega⟩
      subst hr
      obtain ⟨z24, h25, h26⟩ := rangeN_some h27
      unfold ref_Sides_b1 at h25
      try dsimp only at h25
      refine GL.skip ?_
      refine GL.seq ?_
      refine GL.block ?_
      refine GL.seq ?_
      refine GL.region ?_
      refine RL.mv rfl rfl rfl ?_
      refine RL.asg rfl rfl rfl ?_
      refine RL.finG ?_
      refine GL.region ?_
      refine RL.mv rfl rfl rfl ?_
      refine RL.mv rfl rfl rfl ?_
      refine RL.bS (t := TR.int) (vs := [.int .i64 (i22 : Int)]) ([(i22 : Int)] : (List Int)) Try.underlying28 Try_lo3 rfl rfl rfl rfl ⟨VR.int, trivial⟩ rfl (by decide) ?_
      intro v37
      obtain ⟨y38, e39, h25⟩ := bind_some h25
      replace e39 := chk_some e39
      refine RL.app 0 1 Try.underlying28 Try_lo3 rfl rfl rfl rfl rfl rfl rfl SlOf.own e39 ?_
      intro v40
      refine RL.reL (L' := [own 3 TR.int v40 (l2 ++ ([(i22 : Int)] : (List Int))), own 3 TR.int v37 ([(i22 : Int)] : (List Int))]) rfl ?_
      refine RL.asg rfl rfl rfl ?_
      refine RL.finG ?_
      refine GL.nilB ?_
      refine GL.region ?_
      refine RL.binI (v := .int .i64 ((i22 + 1 : Nat) : Int)) rfl rfl rfl rfl (binI_succ i22 (by omega)) ?_
      refine RL.mv rfl rfl rfl ?_
      refine RL.fin ?_
      cases h25
      exact fun a w st => lop_intro (i22 + 1, r32, (l2 ++ ([(i22 : Int)] : (List Int))), v40) ⟨by show i22 + 1 + r32 = (x0).toNat; omega, h26⟩ (by simp) (St.cut [0] ⟨rfl, rfl, rfl, trivial⟩ (by decide) rfl st)
    · have h31 : ¬ i22 < (x0).toNat := by have := of_decide_eq_false b30; omega
      obtain rfl : r23 = 0 := by omega
      replace h27 : some (Fl.nx _) = some y15 := h27
      cases h27
      exact GL.exit (fun a w st => mid_intro (l2, v3) h18 (St.cut [0] ⟨rfl, trivial⟩ (by decide) rfl st))
  · rintro ⟨l2, v3⟩ h41
    have h42 := h19 _ h41
    try dsimp only at h42
    refine GL.weak (env' := [(3, v3)]) (L' := [own 3 TR.int v3 l2]) (fun _ _ st => st) ?_
    refine GL.seq ?_
    refine GL.region ?_
    refine RL.mv rfl rfl rfl ?_
    refine RL.asg rfl rfl rfl ?_
    refine RL.finG ?_
    have h42 := Option.some.inj h42
    subst h42
    exact GL.ret (Gx.ret (v := v3) (res1 rfl rfl) (fun a w st => (st.pick [0] (by decide) rfl).toPost v3))

set_option maxHeartbeats 4000000 in
theorem slices_Delete_int_int_c (B : World) (S X : Hp) (f : Nat → Hp) (w : World) (v0 : Value) (x0 : List Int) (hO : HeapOk B.heap.size S f [own 3 TR.int v0 x0, keep X].length w) (hB : Below B.heap.size B w) (hI : Its [own 3 TR.int v0 x0, keep X] S f) (x1 x2 : Int) (res : List Int) (hm : slices_Delete_int_int_m x0 x1 x2 = some res) : Calls Try.prog 52 #[v0, .int .i64 x1, .int .i64 x2] w (PostM B S (fun (o : Value) => o) (fun (o : Value) => [own 3 TR.int o res, keep X])) := by
  refine calls_enterM 33 Try.func52 Try.ntmps52 rfl B S f [(0, v0), (1, .int .i64 x1), (2, .int .i64 x2)] [own 3 TR.int v0 x0, keep X] [] rfl ⟨rfl, rfl, rfl, trivial⟩ hB hO hI trivial ?_
  unfold slices_Delete_int_int_m at hm
  obtain ⟨_, hc, hm⟩ := bind_some hm
  replace hc := chk_some hc
  have hm := Option.some.inj hm
  subst hm
  obtain ⟨i, rfl⟩ : ∃ i : Nat, x1 = (i : Int) := ⟨x1.toNat, by omega⟩
  obtain ⟨j, rfl⟩ : ∃ j : Nat, x2 = (j : Int) := ⟨x2.toNat, by omega⟩
  simp only [Int.toNat_natCast]
  refine GL.capO 0 rfl (fun hcap hmax hrl hcr => ?_)
  repeat refine GL.seq ?_
  refine GL.region ?_
  refine RL.asg rfl rfl rfl ?_
  refine RL.finG ?_
  repeat refine GL.seq ?_
  refine GL.region ?_
  refine RL.mv rfl rfl rfl ?_
  refine RL.mv rfl rfl rfl ?_
  refine RL.mv rfl rfl rfl ?_
  refine RL.mv rfl rfl rfl ?_
  refine RL.lenS 0 Try.underlying28 rfl rfl rfl rfl SlOf.own ?_
  refine RL.cut3 (i := i) (j := j) (m := x0.length) 0 Try.underlying28 Try_ln3 rfl rfl rfl rfl rfl rfl rfl (by omega) (by omega) (by omega) ?_
  intro u
  refine RL.finG ?_
  repeat refine GL.seq ?_
  refine GL.region ?_
  refine RL.mv rfl rfl rfl ?_
  refine RL.mv rfl rfl rfl ?_
  refine RL.binI (v := .bool ((i : Int) == (j : Int))) rfl rfl rfl rfl rfl ?_
  refine RL.finG ?_
  repeat refine GL.seq ?_
  refine GL.cond rfl (fun h => ?_) (fun h => ?_)
  · have hij : i = j := by have := of_decide_eq_true (p := (i : Int) = (j : Int)) (by simpa using h); omega
    subst hij
    repeat refine GL.seq ?_
    refine GL.region ?_
    refine RL.mv rfl rfl rfl ?_
    refine RL.asg rfl rfl rfl ?_
    refine RL.finG ?_
    have hx : x0.take i ++ x0.drop i = x0 := List.take_append_drop _ _
    rw [hx]
    exact GL.ret (Gx.ret (v := v0) (res1 rfl rfl) (fun a w st => (st.pick [0, 1] (by decide) rfl).toPostM (LR := fun (o : Value) => [own 3 TR.int o x0, keep X]) v0))
  · have hij : i ≠ j := fun e => by subst e; simp at h
    have hll : (x0.take i ++ x0.drop j).length = i + (x0.length - j) := by rw [List.length_append, List.length_take, List.length_drop]; omega
    refine GL.skip ?_
    repeat refine GL.seq ?_
    refine GL.region ?_
    refine RL.mv rfl rfl rfl ?_
    refine RL.lenS 0 Try.underlying28 rfl rfl rfl rfl SlOf.own ?_
    refine RL.asg rfl rfl rfl ?_
    refine RL.finG ?_
    repeat refine GL.seq ?_
    refine GL.regionH 6 rfl rfl (by kernel_rfl) ?_
    simp only [List.take_succ_cons, List.take_zero, List.drop_succ_cons, List.drop_zero]
    refine RL.mv rfl rfl rfl ?_
    refine RL.mv rfl rfl rfl ?_
    refine RL.cutO (i := 0) (j := i) 0 Try.underlying28 Try_ln3 rfl rfl rfl (Or.inl ⟨rfl, rfl⟩) (Or.inr ⟨_, _, rfl, rfl⟩) rfl (by omega) (by show i ≤ capv v0; omega) ?_
    refine RL.mv rfl rfl rfl ?_
    refine RL.mv rfl rfl rfl ?_
    refine RL.cutO (i := j) (j := x0.length) 0 Try.underlying28 Try_ln3 rfl rfl rfl (Or.inr ⟨_, _, rfl, rfl⟩) (Or.inl ⟨rfl, rfl⟩) rfl (by omega) hcap ?_
    refine RL.finH ?_
    refine RL.del (i := i) (j := j) 0 Try.underlying28 Try_lo3 rfl rfl rfl rfl rfl rfl (by omega) (by omega) ?_
    refine RL.asg rfl rfl rfl ?_
    refine RL.finG ?_
    repeat refine GL.seq ?_
    refine GL.region ?_
    refine RL.mv rfl rfl rfl ?_
    refine RL.mv rfl rfl rfl ?_
    refine RL.lenS 0 Try.underlying28 rfl rfl rfl rfl SlOf.own ?_
    refine RL.mv rfl rfl rfl ?_
    refine RL.cutO (i := (x0.take i ++ x0.drop j).length) (j := x0.length) 0 Try.underlying28 Try_ln3 rfl rfl rfl (Or.inr ⟨_, _, rfl, rfl⟩) (Or.inr ⟨_, _, rfl, rfl⟩) rfl (by omega) (by rw [hcr]; exact hcap) ?_
    refine RL.clr (j := x0.length) 0 Try.underlying28 Try_lo3 (by decide) rfl rfl rfl rfl (by omega) (by rw [hcr]; exact hcap) ?_
    refine RL.finG ?_
    repeat refine GL.seq ?_
    refine GL.region ?_
    refine RL.mv rfl rfl rfl ?_
    refine RL.asg rfl rfl rfl ?_
    refine RL.finG ?_
    exact GL.ret (Gx.ret (v := relen v0 (i + (x0.length - j))) (res1 rfl rfl) (fun a w st => (st.pick [0, 1] (by decide) rfl).toPostM (LR := fun (o : Value) => [own 3 TR.int o (x0.take i ++ x0.drop j), keep X]) (relen v0 (i + (x0.length - j)))))

set_option maxHeartbeats 4000000 in
theorem pk_OrderOf_c (S : Hp) (w : World) (hS : S.sub w) (x0 : Int) (v1 : Value) (x1 : (List Int)) (k1 : ((TR.sl TR.int)).vrep S v1 x1) (res : (List Int)) (hm : pk_OrderOf_m x0 x1 = some res) : Calls Try.prog 38 #[.int .i64 x0, v1] w (Post w S (fun (o : Value) => o) (fun (o : Value) => [own 3 TR.int o res])) := by
  refine calls_enter 40 Try.func38 Try.ntmps38 rfl S false [(0, .int .i64 x0), (1, v1)] [imm (TR.sl TR.int) v1 x1] rfl ⟨rfl, ⟨rfl, trivial⟩⟩ hS ⟨k1, trivial⟩ ?_
  unfold pk_OrderOf_m at hm
  refine GL.seq ?_
  refine GL.region ?_
  refine RL.asg rfl rfl rfl ?_
  refine RL.finG ?_
  refine GL.seq ?_
  refine GL.region ?_
  refine RL.mv rfl rfl rfl ?_
  obtain ⟨y6, e7, hm⟩ := bind_some hm
  refine RL.call (vs := [.int .i64 x0]) Try_fit51 rfl rfl rfl rfl rfl (fun S f w hS hW hi => ref_Sides_c S w hS x0 _ e7) ?_
  intro v8
  refine RL.asg rfl rfl rfl ?_
  refine RL.finG ?_
  refine GL.seq ?_
  refine GL.region ?_
  refine RL.asg rfl rfl rfl ?_
  refine RL.finG ?_
  refine GL.seq ?_
  refine GL.seq ?_
  refine GL.region ?_
  refine RL.mv rfl rfl rfl ?_
  refine RL.mv rfl rfl rfl ?_
  refine RL.finG ?_
  refine GL.weak (fun a w st => st.nilOwn 3 TR.int) ?_
  obtain ⟨y60, e61, hm⟩ := bind_some hm
  replace e61 := chk_some e61
  obtain ⟨y62, K63, h64, h65, h66, h67, h68⟩ := bindR_K hm
  refine GL.join (ι := (List Int) × (List Int) × Value) (fun (p : (List Int) × (List Int) × Value) => [(6, p.2.2)]) (fun (p : (List Int) × (List Int) × Value) => [own 3 TR.int p.2.2 p.2.1]) (fun (p : (List Int) × (List Int) × Value) => K63 (.nx (p.1, p.2.1))) ?_ ?_
  · refine GL.block ?_
    refine GL.loop (ι := Nat × Nat × (List Int) × (List Int) × Value × Value) (fun (p : Nat × Nat × (List Int) × (List Int) × Value × Value) => [(1, v1), (5, p.2.2.2.2.1), (6, p.2.2.2.2.2), (11, .int .i64 x0), (12, .int .i64 (p.1 : Int))]) (fun (p : Nat × Nat × (List Int) × (List Int) × Value × Value) => [imm (TR.sl TR.int) v1 x1, own 3 TR.int p.2.2.2.2.1 p.2.2.1, own 3 TR.int p.2.2.2.2.2 p.2.2.2.1]) (fun (p : Nat × Nat × (List Int) × (List Int) × Value × Value) => p.1 + p.2.1 = (x0).toNat ∧ rangeN (pk_OrderOf_b1 x1) p.2.1 p.1 (p.2.2.1, p.2.2.2.1) = some y62) (fun (p : Nat × Nat × (List Int) × (List Int) × Value × Value) => p.2.1) (0, (x0).toNat, y6, [], v8, Value.slice none 0 0) ⟨by simp, h64⟩ (fun a w st => St.cut [0, 1, 2] ⟨rfl, rfl, rfl, rfl, rfl, trivial⟩ (by decide) rfl st) ?_
    rintro ⟨i69, r70, l9, l11, v10, v12⟩ ⟨h75, h74⟩
    try dsimp only at h75 h74
    refine GL.weak (env' := [(1, v1), (5, v10), (6, v12), (11, .int .i64 x0), (12, .int .i64 (i69 : Int))]) (L' := [imm (TR.sl TR.int) v1 x1, own 3 TR.int v10 l9, own 3 TR.int v12 l11]) (fun _ _ st => st) ?_
    refine GL.seq ?_
    refine GL.region ?_
    refine RL.binI (v := .bool (decide ((i69 : Int) < x0))) rfl rfl rfl rfl rfl ?_
    refine RL.finG ?_
    refine GL.seq ?_
    refine GL.cond rfl (fun b77 => ?_) (fun b77 => ?_)
    · have h78 : i69 < (x0).toNat := by have := of_decide_eq_true b77; omega
      obtain ⟨r79, hr⟩ : ∃ m, r70 = m + 1 := ⟨r70 - 1, by omega⟩
      subst hr
      obtain ⟨z71, h72, h73⟩ := rangeN_some h74
      unfold pk_OrderOf_b1 at h72
      try dsimp only at h72
      refine GL.skip ?_
      refine GL.seq ?_
      refine GL.block ?_
      refine GL.seq ?_
      refine GL.region ?_
      refine RL.mv rfl rfl rfl ?_
      refine RL.asg rfl rfl rfl ?_
      refine RL.finG ?_
      refine GL.seq ?_
      refine GL.region ?_
      refine RL.asg rfl rfl rfl ?_
      refine RL.finG ?_
      refine GL.seq ?_
      refine GL.seq ?_
      refine GL.region ?_
      refine RL.mv rfl rfl rfl ?_
      refine RL.mv rfl rfl rfl ?_
      refine RL.lenS 0 Try.underlying28 rfl rfl rfl rfl SlOf.imm ?_
      refine RL.binI (v := .bool (decide ((i69 : Int) < ((x1).length : Int)))) rfl rfl rfl rfl rfl ?_
      refine RL.finG ?_
      obtain ⟨y90, K91, h92, h93, h94, h95, h96⟩ := bindF_K h72
      refine GL.join (ι := Int) (fun (p : Int) => [(1, v1), (5, v10), (6, v12), (8, .int .i64 p), (11, .int .i64 x0), (12, .int .i64 (i69 : Int))]) (fun (p : Int) => [imm (TR.sl TR.int) v1 x1, own 3 TR.int v10 l9, own 3 TR.int v12 l11]) (fun (p : Int) => K91 (.nx p)) ?_ ?_
      · skip
        refine GL.cond rfl (fun b97 => ?_) (fun b97 => ?_)
        · replace h92 := ite_t b97 h92
          refine GL.region ?_
          refine RL.mv rfl rfl rfl ?_
          refine RL.mv rfl rfl rfl ?_
          obtain ⟨y102, e103, h92⟩ := bind_some h92
          refine RL.idxS (sz := 1) 0 Try.underlying28 Try_ln3 rfl rfl rfl rfl rfl SlOf.imm (idx_some e103).1 (idx_some e103).2.1 ?_
          refine RL.ldSx (i := i69) (e' := y102) 0 Ex.ik Try_ln3 rfl rfl rfl rfl SlOf.imm (idx_some e103).2.2 Part.self ?_
          refine RL.mv rfl rfl rfl ?_
          refine RL.lenS 1 Try.underlying28 rfl rfl rfl rfl SlOf.own ?_
          obtain ⟨y104, e105, h92⟩ := bind_some h92
          refine RL.callC (v := .int .i64 y104) (vs := [.int .i64 y102, .int .i64 ((l9).length : Int)]) Try_fit20 rfl rfl rfl rfl (fun U w hU hW hL => pk_Within_c U w hU y102 ((l9).length : Int) _ e105) ?_
          refine RL.asg rfl rfl rfl ?_
          refine RL.finG ?_
          cases h92
          exact fun a w st => mid_intro y104 h93 (St.cut [0, 1, 2] ⟨rfl, rfl, rfl, rfl, rfl, rfl, trivial⟩ (by decide) rfl st)
        · replace h92 := ite_f b97 h92
          refine GL.skip ?_
          cases h92
          exact fun a w st => mid_intro (0 : Int) h93 (St.cut [0, 1, 2] ⟨rfl, rfl, rfl, rfl, rfl, rfl, trivial⟩ (by decide) rfl st)
      · rintro x89 h106
        have h107 := h94 _ h106
        try dsimp only at h107
        refine GL.weak (env' := [(1, v1), (5, v10), (6, v12), (8, .int .i64 x89), (11, .int .i64 x0), (12, .int .i64 (i69 : Int))]) (L' := [imm (TR.sl TR.int) v1 x1, own 3 TR.int v10 l9, own 3 TR.int v12 l11]) (fun _ _ st => st) ?_
        refine GL.seq ?_
        refine GL.region ?_
        refine RL.mv rfl rfl rfl ?_
        refine RL.mv rfl rfl rfl ?_
        refine RL.mv rfl rfl rfl ?_
        obtain ⟨y114, e115, h107⟩ := bind_some h107
        refine RL.idxS (sz := 1) 1 Try.underlying28 Try_ln3 rfl rfl rfl rfl rfl SlOf.own (idx_some e115).1 (idx_some e115).2.1 ?_
        refine RL.ldSx (i := (x89).toNat) (e' := y114) 1 Ex.ik Try_ln3 rfl rfl rfl rfl SlOf.own (idx_some e115).2.2 Part.self ?_
        refine RL.bS (t := TR.int) (vs := [.int .i64 y114]) ([y114] : (List Int)) Try.underlying28 Try_lo3 rfl rfl rfl rfl ⟨VR.int, trivial⟩ rfl (by decide) ?_
        intro v116
        obtain ⟨y117, e118, h107⟩ := bind_some h107
        replace e118 := chk_some e118
        refine RL.app 2 3 Try.underlying28 Try_lo3 rfl rfl rfl rfl rfl rfl rfl SlOf.own e118 ?_
        intro v119
        refine RL.reL (L' := [imm (TR.sl TR.int) v1 x1, own 3 TR.int v10 l9, own 3 TR.int v119 (l11 ++ ([y114] : (List Int))), own 3 TR.int v116 ([y114] : (List Int))]) rfl ?_
        refine RL.asg rfl rfl rfl ?_
        refine RL.finG ?_
        refine GL.region ?_
        refine RL.mv rfl rfl rfl ?_
        refine RL.mv rfl rfl rfl ?_
        refine RL.mv rfl rfl rfl ?_
        refine RL.binI (v := .int .i64 (wadd x89 (1 : Int))) rfl rfl rfl rfl rfl ?_
        obtain ⟨y123, e124, h107⟩ := bind_some h107
        refine RL.callK (vs := [v10, .int .i64 x89, .int .i64 (wadd x89 (1 : Int))]) (V := fun (o : Value) => o) (LR := fun (o : Value) => [own 3 TR.int o y123]) (Ls := [own 3 TR.int v10 l9]) [1] (by decide) Try_fit52 rfl rfl rfl rfl rfl rfl (fun S f X w hO hB hW hI hL => slices_Delete_int_int_c _ S X f w _ _ hO hB hI x89 (wadd x89 (1 : Int)) _ e124) ?_
        intro v125
        refine RL.reL (L' := [imm (TR.sl TR.int) v1 x1, gone, own 3 TR.int v119 (l11 ++ ([y114] : (List Int))), own 3 TR.int v116 ([y114] : (List Int)), own 3 TR.int v125 y123]) rfl ?_
        refine RL.asg rfl rfl rfl ?_
        refine RL.finG ?_
        refine GL.nilB ?_
        refine GL.region ?_
        refine RL.binI (v := .int .i64 ((i69 + 1 : Nat) : Int)) rfl rfl rfl rfl (binI_succ i69 (by omega)) ?_
        refine RL.mv rfl rfl rfl ?_
        refine RL.fin ?_
        cases h107
        exact fun a w st => lop_intro (i69 + 1, r79, y123, (l11 ++ ([y114] : (List Int))), v125, v119) ⟨by show i69 + 1 + r79 = (x0).toNat; omega, h73⟩ (by simp) (St.cut [0, 4, 2] ⟨rfl, rfl, rfl, rfl, rfl, trivial⟩ (by decide) rfl st)
    · have h78 : ¬ i69 < (x0).toNat := by have := of_decide_eq_false b77; omega
      obtain rfl : r70 = 0 := by omega
      replace h74 : some (Fl.nx _) = some y62 := h74
      cases h74
      exact GL.exit (fun a w st => mid_intro (l9, l11, v12) h65 (St.cut [2] ⟨rfl, trivial⟩ (by decide) rfl st))
  · rintro ⟨l9, l11, v12⟩ h126
    have h127 := h66 _ h126
    try dsimp only at h127
    refine GL.weak (env' := [(6, v12)]) (L' := [own 3 TR.int v12 l11]) (fun _ _ st => st) ?_
    refine GL.seq ?_
    refine GL.region ?_
    refine RL.mv rfl rfl rfl ?_
    refine RL.asg rfl rfl rfl ?_
    refine RL.finG ?_
    have h127 := Option.some.inj h127
    subst h127
    exact GL.ret (Gx.ret (v := v12) (res1 rfl rfl) (fun a w st => (st.pick [0] (by decide) rfl).toPost v12))

set_option maxHeartbeats 4000000 in
theorem pk_VotesOf_c (S : Hp) (w : World) (hS : S.sub w) (x0 : Int) (v1 : Value) (x1 : (List (List Int))) (k1 : ((TR.sl (TR.sl TR.int))).vrep S v1 x1) (res : (List (List Int))) (hm : pk_VotesOf_m x0 x1 = some res) : Calls Try.prog 31 #[.int .i64 x0, v1] w (Post w S (fun (o : Value) => o) (fun (o : Value) => [own 28 (TR.sl TR.int) o res])) := by
  refine calls_enter 26 Try.func31 Try.ntmps31 rfl S false [(0, .int .i64 x0), (1, v1)] [imm (TR.sl (TR.sl TR.int)) v1 x1] rfl ⟨rfl, ⟨rfl, trivial⟩⟩ hS ⟨k1, trivial⟩ ?_
  unfold pk_VotesOf_m at hm
  refine GL.seq ?_
  refine GL.region ?_
  refine RL.asg rfl rfl rfl ?_
  refine RL.finG ?_
  refine GL.seq ?_
  refine GL.region ?_
  refine RL.asg rfl rfl rfl ?_
  refine RL.finG ?_
  refine GL.seq ?_
  refine GL.seq ?_
  refine GL.region ?_
  refine RL.mv rfl rfl rfl ?_
  refine RL.mv rfl rfl rfl ?_
  refine RL.lenS 0 Try.underlying22 rfl rfl rfl rfl SlOf.imm ?_
  refine RL.minI rfl rfl rfl rfl ?_
  obtain ⟨y6, e7, hm⟩ := bind_some hm
  replace e7 := chk_some e7
  refine RL.slc (t := (TR.sl TR.int)) (i := 0) (j := (if (30 : Int) < ((x1).length : Int) then (30 : Int) else ((x1).length : Int)).toNat) (sz := 1) 0 Try.underlying22 Try_ln28 rfl rfl rfl rfl (Or.inl ⟨rfl, rfl⟩) (Or.inr ⟨_, _, rfl, by rw [Int.toNat_of_nonneg (by omega)]; rfl⟩) rfl (by omega) (by omega) ?_
  intro v8
  refine RL.lenS 1 Try.underlying22 rfl rfl rfl rfl SlOf.imm ?_
  refine RL.mv rfl rfl rfl ?_
  refine RL.finG ?_
  refine GL.weak (fun a w st => st.nilOwn 28 (TR.sl TR.int)) ?_
  refine GL.open_ 1 rfl (fun S h => len_imm S h) (fun n31 => ?_)
  obtain ⟨y32, K33, h34, h35, h36, h37, h38⟩ := bindR_K hm
  refine GL.join (ι := (List (List Int)) × Value) (fun (p : (List (List Int)) × Value) => [(5, p.2)]) (fun (p : (List (List Int)) × Value) => [own 28 (TR.sl TR.int) p.2 p.1]) (fun (p : (List (List Int)) × Value) => K33 (.nx p.1)) ?_ ?_
  · refine GL.block ?_
    refine GL.loop (ι := Nat × (List (List Int)) × (List (List Int)) × Value) (fun (p : Nat × (List (List Int)) × (List (List Int)) × Value) => [(0, .int .i64 x0), (5, p.2.2.2), (12, v8), (13, .int .i64 ((((List.take ((if (30 : Int) < ((x1).length : Int) then (30 : Int) else ((x1).length : Int)).toNat) x1).drop 0)).length : Int)), (14, .int .i64 (p.1 : Int))]) (fun (p : Nat × (List (List Int)) × (List (List Int)) × Value) => [own 28 (TR.sl TR.int) p.2.2.2 p.2.2.1, imm (TR.sl (TR.sl TR.int)) v8 ((List.take ((if (30 : Int) < ((x1).length : Int) then (30 : Int) else ((x1).length : Int)).toNat) x1).drop 0)]) (fun (p : Nat × (List (List Int)) × (List (List Int)) × Value) => p.1 + p.2.1.length = (((List.take ((if (30 : Int) < ((x1).length : Int) then (30 : Int) else ((x1).length : Int)).toNat) x1).drop 0)).length ∧ List.drop p.1 ((List.take ((if (30 : Int) < ((x1).length : Int) then (30 : Int) else ((x1).length : Int)).toNat) x1).drop 0) = p.2.1 ∧ rangeL (pk_VotesOf_b1 x0) p.2.1 p.1 p.2.2.1 = some y32) (fun (p : Nat × (List (List Int)) × (List (List Int)) × Value) => p.2.1.length) (0, ((List.take ((if (30 : Int) < ((x1).length : Int) then (30 : Int) else ((x1).length : Int)).toNat) x1).drop 0), [], Value.slice none 0 0) ⟨by simp, by simp, h34⟩ (fun a w st => St.cut [2, 1] ⟨rfl, rfl, rfl, rfl, rfl, trivial⟩ (by decide) rfl st) ?_
    rintro ⟨i39, r40, l9, v10⟩ ⟨h45, h46, h44⟩
    try dsimp only at h45 h46 h44
    refine GL.weak (env' := [(0, .int .i64 x0), (5, v10), (12, v8), (13, .int .i64 ((((List.take ((if (30 : Int) < ((x1).length : Int) then (30 : Int) else ((x1).length : Int)).toNat) x1).drop 0)).length : Int)), (14, .int .i64 (i39 : Int))]) (L' := [own 28 (TR.sl TR.int) v10 l9, imm (TR.sl (TR.sl TR.int)) v8 ((List.take ((if (30 : Int) < ((x1).length : Int) then (30 : Int) else ((x1).length : Int)).toNat) x1).drop 0)]) (fun _ _ st => st) ?_
    refine GL.seq ?_
    refine GL.region ?_
    refine RL.binI (v := .bool (decide ((i39 : Int) < ((((List.take ((if (30 : Int) < ((x1).length : Int) then (30 : Int) else ((x1).length : Int)).toNat) x1).drop 0)).length : Int)))) rfl rfl rfl rfl rfl ?_
    refine RL.finG ?_
    refine GL.seq ?_
    refine GL.cond rfl (fun b47 => ?_) (fun b47 => ?_)
    · have h48 : i39 < (((List.take ((if (30 : Int) < ((x1).length : Int) then (30 : Int) else ((x1).length : Int)).toNat) x1).drop 0)).length := by have := of_decide_eq_true b47; omega
      obtain ⟨y49, r51, hr, e50, h52⟩ := drop_cons h46 rfl h48
      subst hr
      obtain ⟨z41, h42, h43⟩ := rangeL_some h44
      unfold pk_VotesOf_b1 at h42
      try dsimp only at h42
      refine GL.skip ?_
      refine GL.seq ?_
      refine GL.block ?_
      refine GL.seq ?_
      refine GL.region ?_
      refine RL.idxS (sz := 1) 1 Try.underlying22 Try_ln28 rfl rfl rfl rfl rfl SlOf.imm (by omega) (by omega) ?_
      refine RL.ldS (i := i39) (r := (TR.sl TR.int)) (e' := y49) 1 Try_ln28 rfl rfl rfl rfl SlOf.imm e50 Part.self ?_
      intro v54
      refine RL.asg rfl rfl rfl ?_
      refine RL.finG ?_
      refine GL.region ?_
      refine RL.mv rfl rfl rfl ?_
      refine RL.mv rfl rfl rfl ?_
      refine RL.mv rfl rfl rfl ?_
      obtain ⟨y62, e63, h42⟩ := bind_some h42
      refine RL.call (vs := [.int .i64 x0, v54]) Try_fit38 rfl rfl rfl rfl rfl (fun S f w hS hW hi => pk_OrderOf_c S w hS x0 _ _ (hi 2 _ rfl) _ e63) ?_
      intro v64
      refine RL.reL (L' := [own 28 (TR.sl TR.int) v10 l9, imm (TR.sl (TR.sl TR.int)) v8 ((List.take ((if (30 : Int) < ((x1).length : Int) then (30 : Int) else ((x1).length : Int)).toNat) x1).drop 0), imm (TR.sl TR.int) v54 y49, own 3 TR.int v64 y62]) rfl ?_
      refine RL.weak (fun a w st => st.freeze 3 rfl) ?_
      refine RL.bS (t := (TR.sl TR.int)) (vs := [v64]) ([y62] : (List (List Int))) Try.underlying22 Try_lo28 rfl rfl rfl rfl ⟨(VR.item 3 rfl), trivial⟩ rfl (by decide) ?_
      intro v65
      refine RL.reL (L' := [own 28 (TR.sl TR.int) v10 l9, imm (TR.sl (TR.sl TR.int)) v8 ((List.take ((if (30 : Int) < ((x1).length : Int) then (30 : Int) else ((x1).length : Int)).toNat) x1).drop 0), imm (TR.sl TR.int) v54 y49, imm (TR.sl TR.int) v64 y62, own 28 (TR.sl TR.int) v65 ([y62] : (List (List Int)))]) rfl ?_
      obtain ⟨y66, e67, h42⟩ := bind_some h42
      replace e67 := chk_some e67
      refine RL.app 0 4 Try.underlying22 Try_lo28 rfl rfl rfl rfl rfl rfl rfl SlOf.own e67 ?_
      intro v68
      refine RL.asg rfl rfl rfl ?_
      refine RL.finG ?_
      refine GL.nilB ?_
      refine GL.region ?_
      refine RL.binI (v := .int .i64 ((i39 + 1 : Nat) : Int)) rfl rfl rfl rfl (binI_succ i39 (by omega)) ?_
      refine RL.mv rfl rfl rfl ?_
      refine RL.fin ?_
      cases h42
      exact fun a w st => lop_intro (i39 + 1, r51, (l9 ++ ([y62] : (List (List Int)))), v68) ⟨by show i39 + 1 + r51.length = (((List.take ((if (30 : Int) < ((x1).length : Int) then (30 : Int) else ((x1).length : Int)).toNat) x1).drop 0)).length; simp only [List.length_cons] at h45; omega, h52, h43⟩ (by simp) (St.cut [0, 1] ⟨rfl, rfl, rfl, rfl, rfl, trivial⟩ (by decide) rfl st)
    · have h48 : ¬ i39 < (((List.take ((if (30 : Int) < ((x1).length : Int) then (30 : Int) else ((x1).length : Int)).toNat) x1).drop 0)).length := by have := of_decide_eq_false b47; omega
      obtain rfl : r40 = [] := by rw [← h46]; exact List.drop_of_length_le (by omega)
      replace h44 : some (Fl.nx _) = some y32 := h44
      cases h44
      exact GL.exit (fun a w st => mid_intro (l9, v10) h35 (St.cut [0] ⟨rfl, trivial⟩ (by decide) rfl st))
  · rintro ⟨l9, v10⟩ h69
    have h70 := h36 _ h69
    try dsimp only at h70
    refine GL.weak (env' := [(5, v10)]) (L' := [own 28 (TR.sl TR.int) v10 l9]) (fun _ _ st => st) ?_
    refine GL.seq ?_
    refine GL.region ?_
    refine RL.mv rfl rfl rfl ?_
    refine RL.asg rfl rfl rfl ?_
    refine RL.finG ?_
    have h70 := Option.some.inj h70
    subst h70
    exact GL.ret (Gx.ret (v := v10) (res1 rfl rfl) (fun a w st => (st.pick [0] (by decide) rfl).toPost v10))

set_option maxHeartbeats 4000000 in
theorem slices_Clone_int_int_c (S : Hp) (w : World) (hS : S.sub w) (v0 : Value) (x0 : List Int) (k0 : (TR.sl TR.int).vrep S v0 x0) (res : List Int) (hm : slices_Clone_int_int_m x0 = some res) : Calls Try.prog 49 #[v0] w (Post w S (fun (o : Value) => o) (fun (o : Value) => [own 3 TR.int o res])) := by
  refine calls_enter 8 Try.func49 Try.ntmps49 rfl S false [(0, v0)] [imm (TR.sl TR.int) v0 x0] rfl ⟨rfl, trivial⟩ hS ⟨k0, trivial⟩ ?_
  unfold slices_Clone_int_int_m at hm
  obtain ⟨_, hc, hm⟩ := bind_some hm
  replace hc := chk_some hc
  have hm := Option.some.inj hm
  subst hm
  refine GL.seq (GL.region (RL.asg rfl rfl rfl (RL.finG (GL.seq (GL.seq (GL.region ?_))))))
  refine RL.mv rfl rfl rfl ?_
  refine RL.eqNil 0 Try.underlying28 rfl rfl rfl rfl rfl SlOf.imm (fun b hb => ?_)
  refine RL.finG (GL.cond rfl (fun h => ?_) (fun h => ?_))
  · have := hb h
    subst this
    refine GL.seq (GL.region (RL.asg rfl rfl rfl (RL.finG ?_)))
    refine GL.weak (fun a w st => st.nilOwn 3 TR.int) ?_
    exact GL.ret (Gx.ret (v := Value.slice none 0 0) (res1 rfl rfl) (fun a w st => (st.pick [1] (by decide) rfl).toPost (Value.slice none 0 0)))
  · refine GL.skip (GL.seq (GL.region ?_))
    refine RL.bS (t := TR.int) (vs := []) ([] : List Int) Try.underlying28 Try_lo3 rfl rfl rfl rfl trivial rfl (by decide) ?_
    intro v1
    refine RL.mv rfl rfl rfl ?_
    refine RL.app 1 0 Try.underlying28 Try_lo3 rfl rfl rfl rfl rfl rfl rfl SlOf.imm (by simpa using hc) ?_
    intro v2
    refine RL.asg rfl rfl rfl (RL.finG ?_)
    exact GL.ret (Gx.ret (v := v2) (res1 rfl rfl) (fun a w st => (st.pick [1] (by decide) rfl).toPost v2))

set_option maxHeartbeats 4000000 in
theorem slices_Reverse_int_int_c (B : World) (S X : Hp) (f : Nat → Hp) (w : World) (v0 : Value) (x0 : (List Int)) (hO : HeapOk B.heap.size S f [own 3 TR.int v0 x0, keep X].length w) (hB : Below B.heap.size B w) (hI : Its [own 3 TR.int v0 x0, keep X] S f)  (res : (List Int)) (hm : slices_Reverse_int_int_m x0 = some res) : Calls Try.prog 50 #[v0] w (PostM B S (fun (o : Unit) => .tuple #[]) (fun (o : Unit) => [own 3 TR.int v0 res, keep X])) := by
  refine calls_enterM 28 Try.func50 Try.ntmps50 rfl B S f [(0, v0)] [own 3 TR.int v0 x0, keep X] [] rfl ⟨rfl, trivial⟩ hB hO hI trivial ?_
  unfold slices_Reverse_int_int_m at hm
  refine GL.seq ?_
  refine GL.region ?_
  refine RL.mv rfl rfl rfl ?_
  refine RL.lenS 0 Try.underlying28 rfl rfl rfl rfl SlOf.own ?_
  refine RL.binI (v := .int .i64 (wsub ((x0).length : Int) (1 : Int))) rfl rfl rfl rfl rfl ?_
  refine RL.asg rfl rfl rfl ?_
  refine RL.asg rfl rfl rfl ?_
  refine RL.finG ?_
  obtain ⟨y41, K42, h43, h44, h45, h46, h47⟩ := bindR_K hm
  refine GL.join (ι := (List Int) × Int × Int) (fun (p : (List Int) × Int × Int) => []) (fun (p : (List Int) × Int × Int) => [own 3 TR.int v0 p.1, keep X]) (fun (p : (List Int) × Int × Int) => K42 (.nx (p.1, p.2.1, p.2.2))) ?_ ?_
  · refine GL.block ?_
    refine GL.loop (ι := Nat × (List Int) × Int × Int) (fun (p : Nat × (List Int) × Int × Int) => [(0, v0), (2, .int .i64 p.2.2.1), (3, .int .i64 p.2.2.2)]) (fun (p : Nat × (List Int) × Int × Int) => [own 3 TR.int v0 p.2.1, keep X]) (fun (p : Nat × (List Int) × Int × Int) => loopM slices_Reverse_int_int_b1 p.1 (p.2.1, p.2.2.1, p.2.2.2) = some y41) (fun (p : Nat × (List Int) × Int × Int) => p.1) (1048576, x0, (0 : Int), wsub ((x0).length : Int) (1 : Int)) h43 (fun a w st => St.cut [0, 1] ⟨rfl, rfl, rfl, trivial⟩ (by decide) rfl st) ?_
    rintro ⟨r49, l21, x22, x23⟩ h53
    try dsimp only at h53
    refine GL.weak (env' := [(0, v0), (2, .int .i64 x22), (3, .int .i64 x23)]) (L' := [own 3 TR.int v0 l21, keep X]) (fun _ _ st => st) ?_
    obtain ⟨r56, z50, hr, h51, h52⟩ := loopM_some h53
    subst hr
    unfold slices_Reverse_int_int_b1 at h51
    try dsimp only at h51
    refine GL.seq ?_
    refine GL.seq ?_
    refine GL.region ?_
    refine RL.mv rfl rfl rfl ?_
    refine RL.mv rfl rfl rfl ?_
    refine RL.binI (v := .bool (decide (x22 < x23))) rfl rfl rfl rfl rfl ?_
    refine RL.finG ?_
    refine GL.cond rfl (fun b57 => ?_) (fun b57 => ?_)
    · replace h51 := ite_t b57 h51
      refine GL.skip ?_
      refine GL.seq ?_
      refine GL.block ?_
      refine GL.regionA rfl rfl ?_
      refine RA.mv 0 rfl (by kernel_rfl) rfl rfl rfl ?_
      refine RA.mv 1 rfl (by kernel_rfl) rfl rfl rfl ?_
      refine RA.mv 2 rfl (by kernel_rfl) rfl rfl rfl ?_
      refine RA.mv 3 rfl (by kernel_rfl) rfl rfl rfl ?_
      refine RA.mv 4 rfl (by kernel_rfl) rfl rfl rfl ?_
      refine RA.mv 5 rfl (by kernel_rfl) rfl rfl rfl ?_
      obtain ⟨y66, e67, h51⟩ := bind_some h51
      refine RA.idxS (sz := 1) 0 Try.underlying28 Try_ln3 6 rfl (by kernel_rfl) rfl rfl rfl rfl rfl SlOf.own (idx_some e67).1 (idx_some e67).2.1 ?_
      refine RA.mv 8 rfl (by kernel_rfl) rfl rfl rfl ?_
      refine RA.mv 9 rfl (by kernel_rfl) rfl rfl rfl ?_
      obtain ⟨y68, e69, h51⟩ := bind_some h51
      refine RA.idxS (sz := 1) 0 Try.underlying28 Try_ln3 10 rfl (by kernel_rfl) rfl rfl rfl rfl rfl SlOf.own (idx_some e69).1 (idx_some e69).2.1 ?_
      refine RA.still (le := #[true, true, true, true, true, true, true, true, true, true, true, true, true, false, false, false]) (f := 3) [7, 11, 12] 13 rfl (by kernel_rfl) ?_
      simp only [pickOps, List.getElem?_toArray, List.getElem?_cons_succ, List.getElem?_cons_zero]
      refine RL.ldSx (i := (x23).toNat) (e' := y66) 0 Ex.ik Try_ln3 rfl rfl rfl rfl SlOf.own (idx_some e67).2.2 Part.self ?_
      refine RL.ldSx (i := (x22).toNat) (e' := y68) 0 Ex.ik Try_ln3 rfl rfl rfl rfl SlOf.own (idx_some e69).2.2 Part.self ?_
      obtain ⟨y70, e71, h51⟩ := bind_some h51
      refine RL.idxS (sz := 1) 0 Try.underlying28 Try_ln3 rfl rfl rfl rfl rfl SlOf.own (idx_some e71).1 (idx_some e71).2.1 ?_
      refine RL.finH ?_
      refine RL.fin ?_
      refine RA.next ?_
      refine RA.seq 13 rfl (by kernel_rfl) ?_
      refine RL.stS (i := (x22).toNat) (e' := y66) (e1 := y66) (r := TR.int) 0 Try_ln3 rfl rfl rfl rfl VR.int rfl (idx_some e71).2.2 Upd.self ?_
      refine RL.fin ?_
      refine RA.next ?_
      obtain ⟨y72, e73, h51⟩ := bind_some h51
      refine RA.idxS (sz := 1) 0 Try.underlying28 Try_ln3 14 rfl (by kernel_rfl) rfl rfl rfl rfl rfl SlOf.own (idx_some e73).1 (idx_some e73).2.1 ?_
      refine RA.seq 15 rfl (by kernel_rfl) ?_
      refine RL.stS (i := (x23).toNat) (e' := y68) (e1 := y68) (r := TR.int) 0 Try_ln3 rfl rfl rfl rfl VR.int rfl (idx_some e73).2.2 Upd.self ?_
      refine RL.fin ?_
      refine RA.next ?_
      refine RA.doneG (by kernel_rfl) ?_
      refine GL.weak (env' := [(0, v0), (2, .int .i64 x22), (3, .int .i64 x23)]) (L' := [own 3 TR.int v0 (List.set (List.set l21 ((x22).toNat) y66) ((x23).toNat) y68), keep X]) (fun a w st => St.cut [0, 1] ⟨rfl, rfl, rfl, trivial⟩ (by decide) rfl st) ?_
      refine GL.nilB ?_
      refine GL.region ?_
      refine RL.mv rfl rfl rfl ?_
      refine RL.binI (v := .int .i64 (wadd x22 (1 : Int))) rfl rfl rfl rfl rfl ?_
      refine RL.mv rfl rfl rfl ?_
      refine RL.binI (v := .int .i64 (wsub x23 (1 : Int))) rfl rfl rfl rfl rfl ?_
      refine RL.asg rfl rfl rfl ?_
      refine RL.asg rfl rfl rfl ?_
      refine RL.finG ?_
      cases h51
      exact fun a w st => lop_intro (r56, (List.set (List.set l21 ((x22).toNat) y66) ((x23).toNat) y68), wadd x22 (1 : Int), wsub x23 (1 : Int)) (by exact h52) (by simp) (St.cut [0, 1] ⟨rfl, rfl, rfl, trivial⟩ (by decide) rfl st)
    · replace h51 := ite_f b57 h51
      cases h51
      replace h52 : some (Fl.nx _) = some y41 := h52
      cases h52
      exact GL.exit (fun a w st => mid_intro (l21, x22, x23) h44 (St.cut [0, 1] trivial (by decide) rfl st))
  · rintro ⟨l21, x22, x23⟩ h74
    have h75 := h45 _ h74
    try dsimp only at h75
    refine GL.weak (env' := []) (L' := [own 3 TR.int v0 l21, keep X]) (fun _ _ st => st) ?_
    have h75 := Option.some.inj h75
    subst h75
    exact GL.nil (Gx.retN (v := .tuple #[]) (res0 rfl) (fun a w st => (st.pick [0, 1] (by decide) rfl).toPostM (V := fun (o : Unit) => .tuple #[]) (LR := fun (o : Unit) => [own 3 TR.int v0 l21, keep X]) ()))

set_option maxHeartbeats 4000000 in
theorem pk_turned_c (S : Hp) (w : World) (hS : S.sub w) (v0 : Value) (x0 : (List (List Int))) (k0 : ((TR.sl (TR.sl TR.int))).vrep S v0 x0) (res : (List (List Int))) (hm : pk_turned_m x0 = some res) : Calls Try.prog 37 #[v0] w (Post w S (fun (o : Value) => o) (fun (o : Value) => [own 28 (TR.sl TR.int) o res])) := by
  refine calls_enter 23 Try.func37 Try.ntmps37 rfl S false [(0, v0)] [imm (TR.sl (TR.sl TR.int)) v0 x0] rfl ⟨rfl, trivial⟩ hS ⟨k0, trivial⟩ ?_
  unfold pk_turned_m at hm
  refine GL.seq ?_
  refine GL.region ?_
  refine RL.asg rfl rfl rfl ?_
  refine RL.finG ?_
  refine GL.seq ?_
  refine GL.region ?_
  refine RL.asg rfl rfl rfl ?_
  refine RL.finG ?_
  refine GL.seq ?_
  refine GL.seq ?_
  refine GL.region ?_
  refine RL.mv rfl rfl rfl ?_
  refine RL.lenS 0 Try.underlying22 rfl rfl rfl rfl SlOf.imm ?_
  refine RL.mv rfl rfl rfl ?_
  refine RL.finG ?_
  refine GL.weak (fun a w st => st.nilOwn 28 (TR.sl TR.int)) ?_
  refine GL.open_ 0 rfl (fun S h => len_imm S h) (fun n28 => ?_)
  obtain ⟨y29, K30, h31, h32, h33, h34, h35⟩ := bindR_K hm
  refine GL.join (ι := (List (List Int)) × Value) (fun (p : (List (List Int)) × Value) => [(3, p.2)]) (fun (p : (List (List Int)) × Value) => [own 28 (TR.sl TR.int) p.2 p.1]) (fun (p : (List (List Int)) × Value) => K30 (.nx p.1)) ?_ ?_
  · refine GL.block ?_
    refine GL.loop (ι := Nat × (List (List Int)) × (List (List Int)) × Value) (fun (p : Nat × (List (List Int)) × (List (List Int)) × Value) => [(3, p.2.2.2), (7, v0), (8, .int .i64 ((x0).length : Int)), (9, .int .i64 (p.1 : Int))]) (fun (p : Nat × (List (List Int)) × (List (List Int)) × Value) => [own 28 (TR.sl TR.int) p.2.2.2 p.2.2.1, imm (TR.sl (TR.sl TR.int)) v0 x0]) (fun (p : Nat × (List (List Int)) × (List (List Int)) × Value) => p.1 + p.2.1.length = (x0).length ∧ List.drop p.1 x0 = p.2.1 ∧ rangeL pk_turned_b1 p.2.1 p.1 p.2.2.1 = some y29) (fun (p : Nat × (List (List Int)) × (List (List Int)) × Value) => p.2.1.length) (0, x0, [], Value.slice none 0 0) ⟨by simp, by simp, h31⟩ (fun a w st => St.cut [1, 0] ⟨rfl, rfl, rfl, rfl, trivial⟩ (by decide) rfl st) ?_
    rintro ⟨i36, r37, l2, v3⟩ ⟨h42, h43, h41⟩
    try dsimp only at h42 h43 h41
    refine GL.weak (env' := [(3, v3), (7, v0), (8, .int .i64 ((x0).length : Int)), (9, .int .i64 (i36 : Int))]) (L' := [own 28 (TR.sl TR.int) v3 l2, imm (TR.sl (TR.sl TR.int)) v0 x0]) (fun _ _ st => st) ?_
    refine GL.seq ?_
    refine GL.region ?_
    refine RL.binI (v := .bool (decide ((i36 : Int) < ((x0).length : Int)))) rfl rfl rfl rfl rfl ?_
    refine RL.finG ?_
    refine GL.seq ?_
    refine GL.cond rfl (fun b44 => ?_) (fun b44 => ?_)
    · have h45 : i36 < (x0).length := by have := of_decide_eq_true b44; omega
      obtain ⟨y46, r48, hr, e47, h49⟩ := drop_cons h43 rfl h45
      subst hr
      obtain ⟨z38, h39, h40⟩ := rangeL_some h41
      unfold pk_turned_b1 at h39
      try dsimp only at h39
      refine GL.skip ?_
      refine GL.seq ?_
      refine GL.block ?_
      refine GL.seq ?_
      refine GL.region ?_
      refine RL.idxS (sz := 1) 1 Try.underlying22 Try_ln28 rfl rfl rfl rfl rfl SlOf.imm (by omega) (by omega) ?_
      refine RL.ldS (i := i36) (r := (TR.sl TR.int)) (e' := y46) 1 Try_ln28 rfl rfl rfl rfl SlOf.imm e47 Part.self ?_
      intro v51
      refine RL.asg rfl rfl rfl ?_
      refine RL.finG ?_
      refine GL.seq ?_
      refine GL.region ?_
      refine RL.mv rfl rfl rfl ?_
      obtain ⟨y55, e56, h39⟩ := bind_some h39
      refine RL.call (vs := [v51]) Try_fit49 rfl rfl rfl rfl rfl (fun S f w hS hW hi => slices_Clone_int_int_c S w hS _ _ (hi 2 _ rfl) _ e56) ?_
      intro v57
      refine RL.reL (L' := [own 28 (TR.sl TR.int) v3 l2, imm (TR.sl (TR.sl TR.int)) v0 x0, imm (TR.sl TR.int) v51 y46, own 3 TR.int v57 y55]) rfl ?_
      refine RL.asg rfl rfl rfl ?_
      refine RL.finG ?_
      refine GL.seq ?_
      refine GL.region ?_
      refine RL.mv rfl rfl rfl ?_
      obtain ⟨y60, e61, h39⟩ := bind_some h39
      refine RL.callK (vs := [v57]) (V := fun (o : Unit) => .tuple #[]) (LR := fun (o : Unit) => [own 3 TR.int v57 y60]) (Ls := [own 3 TR.int v57 y55]) [3] (by decide) Try_fit50 rfl rfl rfl rfl rfl rfl (fun S f X w hO hB hW hI hL => slices_Reverse_int_int_c _ S X f w _ _ hO hB hI  _ e61) ?_
      intro _
      refine RL.reL (L' := [own 28 (TR.sl TR.int) v3 l2, imm (TR.sl (TR.sl TR.int)) v0 x0, imm (TR.sl TR.int) v51 y46, gone, own 3 TR.int v57 y60]) rfl ?_
      refine RL.finG ?_
      refine GL.region ?_
      refine RL.mv rfl rfl rfl ?_
      refine RL.mv rfl rfl rfl ?_
      refine RL.weak (fun a w st => st.freeze 4 rfl) ?_
      refine RL.bS (t := (TR.sl TR.int)) (vs := [v57]) ([y60] : (List (List Int))) Try.underlying22 Try_lo28 rfl rfl rfl rfl ⟨(VR.item 4 rfl), trivial⟩ rfl (by decide) ?_
      intro v66
      refine RL.reL (L' := [own 28 (TR.sl TR.int) v3 l2, imm (TR.sl (TR.sl TR.int)) v0 x0, imm (TR.sl TR.int) v51 y46, gone, imm (TR.sl TR.int) v57 y60, own 28 (TR.sl TR.int) v66 ([y60] : (List (List Int)))]) rfl ?_
      obtain ⟨y67, e68, h39⟩ := bind_some h39
      replace e68 := chk_some e68
      refine RL.app 0 5 Try.underlying22 Try_lo28 rfl rfl rfl rfl rfl rfl rfl SlOf.own e68 ?_
      intro v69
      refine RL.asg rfl rfl rfl ?_
      refine RL.finG ?_
      refine GL.nilB ?_
      refine GL.region ?_
      refine RL.binI (v := .int .i64 ((i36 + 1 : Nat) : Int)) rfl rfl rfl rfl (binI_succ i36 (by omega)) ?_
      refine RL.mv rfl rfl rfl ?_
      refine RL.fin ?_
      cases h39
      exact fun a w st => lop_intro (i36 + 1, r48, (l2 ++ ([y60] : (List (List Int)))), v69) ⟨by show i36 + 1 + r48.length = (x0).length; simp only [List.length_cons] at h42; omega, h49, h40⟩ (by simp) (St.cut [0, 1] ⟨rfl, rfl, rfl, rfl, trivial⟩ (by decide) rfl st)
    · have h45 : ¬ i36 < (x0).length := by have := of_decide_eq_false b44; omega
      obtain rfl : r37 = [] := by rw [← h43]; exact List.drop_of_length_le (by omega)
      replace h41 : some (Fl.nx _) = some y29 := h41
      cases h41
      exact GL.exit (fun a w st => mid_intro (l2, v3) h32 (St.cut [0] ⟨rfl, trivial⟩ (by decide) rfl st))
  · rintro ⟨l2, v3⟩ h70
    have h71 := h33 _ h70
    try dsimp only at h71
    refine GL.weak (env' := [(3, v3)]) (L' := [own 28 (TR.sl TR.int) v3 l2]) (fun _ _ st => st) ?_
    refine GL.seq ?_
    refine GL.region ?_
    refine RL.mv rfl rfl rfl ?_
    refine RL.asg rfl rfl rfl ?_
    refine RL.finG ?_
    have h71 := Option.some.inj h71
    subst h71
    exact GL.ret (Gx.ret (v := v3) (res1 rfl rfl) (fun a w st => (st.pick [0] (by decide) rfl).toPost v3))

set_option maxHeartbeats 4000000 in
theorem slices_IndexFunc_rows_c (S : Hp) (w : World) (hS : S.sub w) (v0 : Value) (x0 : (List (List Int))) (k0 : ((TR.sl (TR.sl TR.int))).vrep S v0 x0) (f1 : FuncId) (c1 : Array Value) (t1 : Fit Try.prog f1) (g1 : (List Int) → Option Bool) (k1 : ∀ (U : Hp) (w' : World), Hp.le S U → U.sub w' → ∀ (u0 : Value) (a0 : (List Int)) (_ : ((TR.sl TR.int)).vrep U u0 a0) (rr : Bool), g1 a0 = some rr → Calls Try.prog f1 (#[u0] ++ c1) w' (PostV w' (.bool rr))) (res : Int) (hm : slices_IndexFunc_rows_m x0 g1 = some res) : Calls Try.prog 44 #[v0, .func (.func f1) #[] c1] w (PostV w (.int .i64 res)) := by
  refine calls_enter 19 Try.func44 Try.ntmps44 rfl S false [(0, v0), (1, .func (.func f1) #[] c1)] [imm (TR.sl (TR.sl TR.int)) v0 x0] rfl ⟨rfl, ⟨rfl, trivial⟩⟩ hS ⟨k0, trivial⟩ ?_
  unfold slices_IndexFunc_rows_m at hm
  refine GL.seq ?_
  refine GL.region ?_
  refine RL.asg rfl rfl rfl ?_
  refine RL.finG ?_
  refine GL.seq ?_
  refine GL.seq ?_
  refine GL.region ?_
  refine RL.mv rfl rfl rfl ?_
  refine RL.lenS 0 Try.underlying22 rfl rfl rfl rfl SlOf.imm ?_
  refine RL.mv rfl rfl rfl ?_
  refine RL.finG ?_
  refine GL.open_ 0 rfl (fun S h => len_imm S h) (fun n14 => ?_)
  obtain ⟨y15, K16, h17, h18, h19, h20, h21⟩ := bindR_K hm
  refine GL.join (ι := Unit) (fun (p : Unit) => []) (fun (p : Unit) => []) (fun (p : Unit) => K16 (.nx ())) ?_ ?_
  · refine GL.block ?_
    refine GL.loop (ι := Nat × (List (List Int))) (fun (p : Nat × (List (List Int))) => [(0, v0), (1, .func (.func f1) #[] c1), (7, .int .i64 ((x0).length : Int)), (8, .int .i64 (p.1 : Int))]) (fun (p : Nat × (List (List Int))) => [imm (TR.sl (TR.sl TR.int)) v0 x0]) (fun (p : Nat × (List (List Int))) => p.1 + p.2.length = (x0).length ∧ List.drop p.1 x0 = p.2 ∧ rangeL (slices_IndexFunc_rows_b1 g1) p.2 p.1 () = some y15) (fun (p : Nat × (List (List Int))) => p.2.length) (0, x0) ⟨by simp, by simp, h17⟩ (fun a w st => St.cut [0] ⟨rfl, rfl, rfl, rfl, trivial⟩ (by decide) rfl st) ?_
    rintro ⟨i22, r23⟩ ⟨h28, h29, h27⟩
    try dsimp only at h28 h29 h27
    refine GL.weak (env' := [(0, v0), (1, .func (.func f1) #[] c1), (7, .int .i64 ((x0).length : Int)), (8, .int .i64 (i22 : Int))]) (L' := [imm (TR.sl (TR.sl TR.int)) v0 x0]) (fun _ _ st => st) ?_
    refine GL.seq ?_
    refine GL.region ?_
    refine RL.binI (v := .bool (decide ((i22 : Int) < ((x0).length : Int)))) rfl rfl rfl rfl rfl ?_
    refine RL.finG ?_
    refine GL.seq ?_
    refine GL.cond rfl (fun b30 => ?_) (fun b30 => ?_)
    · have h31 : i22 < (x0).length := by have := of_decide_eq_true b30; omega
      obtain ⟨y32, r34, hr, e33, h35⟩ := drop_cons h29 rfl h31
      subst hr
      obtain ⟨z24, h25, h26⟩ := rangeL_some h27
      unfold slices_IndexFunc_rows_b1 at h25
      try dsimp only at h25
      refine GL.skip ?_
      refine GL.seq ?_
      refine GL.block ?_
      refine GL.seq ?_
      refine GL.region ?_
      refine RL.mv rfl rfl rfl ?_
      refine RL.asg rfl rfl rfl ?_
      refine RL.finG ?_
      refine GL.seq ?_
      refine GL.region ?_
      refine RL.mv rfl rfl rfl ?_
      refine RL.mv rfl rfl rfl ?_
      refine RL.mv rfl rfl rfl ?_
      refine RL.idxS (sz := 1) 0 Try.underlying22 Try_ln28 rfl rfl rfl rfl rfl SlOf.imm (by omega) (by omega) ?_
      refine RL.ldS (i := i22) (r := (TR.sl TR.int)) (e' := y32) 0 Try_ln28 rfl rfl rfl rfl SlOf.imm e33 Part.self ?_
      intro v39
      obtain ⟨y40, e41, h25⟩ := bind_some h25
      refine RL.callV (v := .bool y40) (vs := [v39]) t1 rfl (Or.inl rfl) rfl rfl rfl rfl (fun U w hU hW hL => k1 U w hW hU _ _ (hL 1 _ _ rfl Seen.imm) _ e41) ?_
      refine RL.finG ?_
      refine GL.cond rfl (fun b42 => ?_) (fun b42 => ?_)
      · replace h25 := ite_t b42 h25
        refine GL.seq ?_
        refine GL.region ?_
        refine RL.mv rfl rfl rfl ?_
        refine RL.asg rfl rfl rfl ?_
        refine RL.finG ?_
        cases h25
        replace h26 : some (Fl.rt _) = some y15 := h26
        cases h26
        have hh := h20 _ h18
        subst hh
        exact GL.ret (Gx.ret (v := .int .i64 (i22 : Int)) (res1 rfl rfl) (fun a w st => st.toPostV))
      · replace h25 := ite_f b42 h25
        refine GL.skip ?_
        refine GL.nilB ?_
        refine GL.region ?_
        refine RL.binI (v := .int .i64 ((i22 + 1 : Nat) : Int)) rfl rfl rfl rfl (binI_succ i22 (by omega)) ?_
        refine RL.mv rfl rfl rfl ?_
        refine RL.fin ?_
        cases h25
        exact fun a w st => lop_intro (i22 + 1, r34) ⟨by show i22 + 1 + r34.length = (x0).length; simp only [List.length_cons] at h28; omega, h35, h26⟩ (by simp) (St.cut [0] ⟨rfl, rfl, rfl, rfl, trivial⟩ (by decide) rfl st)
    · have h31 : ¬ i22 < (x0).length := by have := of_decide_eq_false b30; omega
      obtain rfl : r23 = [] := by rw [← h29]; exact List.drop_of_length_le (by omega)
      replace h27 : some (Fl.nx _) = some y15 := h27
      cases h27
      exact GL.exit (fun a w st => mid_intro () h18 (St.cut [] trivial (by decide) rfl st))
  · rintro ⟨⟩ h43
    have h44 := h19 _ h43
    try dsimp only at h44
    refine GL.weak (env' := []) (L' := []) (fun _ _ st => st) ?_
    refine GL.seq ?_
    refine GL.region ?_
    refine RL.asg rfl rfl rfl ?_
    refine RL.finG ?_
    have h44 := Option.some.inj h44
    subst h44
    exact GL.ret (Gx.ret (v := .int .i64 (-1 : Int)) (res1 rfl rfl) (fun a w st => st.toPostV))

set_option maxHeartbeats 4000000 in
theorem slices_ContainsFunc_rows_c (S : Hp) (w : World) (hS : S.sub w) (v0 : Value) (x0 : (List (List Int))) (k0 : ((TR.sl (TR.sl TR.int))).vrep S v0 x0) (f1 : FuncId) (c1 : Array Value) (t1 : Fit Try.prog f1) (g1 : (List Int) → Option Bool) (k1 : ∀ (U : Hp) (w' : World), Hp.le S U → U.sub w' → ∀ (u0 : Value) (a0 : (List Int)) (_ : ((TR.sl TR.int)).vrep U u0 a0) (rr : Bool), g1 a0 = some rr → Calls Try.prog f1 (#[u0] ++ c1) w' (PostV w' (.bool rr))) (res : Bool) (hm : slices_ContainsFunc_rows_m x0 g1 = some res) : Calls Try.prog 22 #[v0, .func (.func f1) #[] c1] w (PostV w (.bool res)) := by
  refine calls_enter 9 Try.func22 Try.ntmps22 rfl S false [(0, v0), (1, .func (.func f1) #[] c1)] [imm (TR.sl (TR.sl TR.int)) v0 x0] rfl ⟨rfl, ⟨rfl, trivial⟩⟩ hS ⟨k0, trivial⟩ ?_
  unfold slices_ContainsFunc_rows_m at hm
  refine GL.seq ?_
  refine GL.region ?_
  refine RL.asg rfl rfl rfl ?_
  refine RL.finG ?_
  refine GL.seq ?_
  refine GL.region ?_
  refine RL.mv rfl rfl rfl ?_
  refine RL.mv rfl rfl rfl ?_
  obtain ⟨y5, e6, hm⟩ := bind_some hm
  refine RL.callV (v := .int .i64 y5) (vs := [v0, .func (.func f1) #[] c1]) Try_fit44 rfl (Or.inl rfl) rfl rfl rfl rfl (fun U w hU hW hL => slices_IndexFunc_rows_c U w hU _ _ (hL 0 _ _ rfl Seen.imm) f1 c1 t1 g1 (fun U' w' hle => k1 U' w' (Hp.le_trans hW hle)) _ e6) ?_
  refine RL.binI (v := .bool (decide (y5 ≥ (0 : Int)))) rfl rfl rfl rfl rfl ?_
  refine RL.asg rfl rfl rfl ?_
  refine RL.finG ?_
  have hm := Option.some.inj hm
  subst hm
  exact GL.ret (Gx.ret (v := .bool (decide (y5 ≥ (0 : Int)))) (res1 rfl rfl) (fun a w st => st.toPostV))

set_option maxHeartbeats 4000000 in
theorem pk_tableOf_1_c (S : Hp) (w : World) (hS : S.sub w) (v0 : Value) (x0 : (List Int)) (k0 : ((TR.sl TR.int)).vrep S v0 x0) (v1 : Value) (x1 : Int) (k1 : ((TR.ptr TR.int)).vrep S v1 x1) (res : Bool) (hm : pk_tableOf_1_m x0 x1 = some res) : Calls Try.prog 42 #[v0, v1] w (PostC w (.bool res)) := by
  refine calls_enter 8 Try.func42 Try.ntmps42 rfl S true [(0, v0), (1, v1)] [imm (TR.sl TR.int) v0 x0, imm (TR.ptr TR.int) v1 x1] rfl ⟨rfl, ⟨rfl, trivial⟩⟩ hS ⟨k0, ⟨k1, trivial⟩⟩ ?_
  unfold pk_tableOf_1_m at hm
  refine GL.seq ?_
  refine GL.region ?_
  refine RL.asg rfl rfl rfl ?_
  refine RL.finG ?_
  refine GL.seq ?_
  refine GL.region ?_
  refine RL.mv rfl rfl rfl ?_
  refine RL.lenS 0 Try.underlying28 rfl rfl rfl rfl SlOf.imm ?_
  refine RL.ldPx (off := 0) (e' := x1) 1 Ex.ik Try_ln3 rfl rfl (Or.inr ⟨rfl, rfl⟩) rfl PtOf.imm Part.self ?_
  refine RL.binI (v := .bool (((x0).length : Int) != x1)) rfl rfl rfl rfl rfl ?_
  refine RL.asg rfl rfl rfl ?_
  refine RL.finG ?_
  have hm := Option.some.inj hm
  subst hm
  exact GL.ret (Gx.ret (v := .bool (((x0).length : Int) != x1)) (res1 rfl rfl) (fun a w st => st.toPostC rfl))

set_option maxHeartbeats 4000000 in
theorem pk_tableOf_c (S : Hp) (w : World) (hS : S.sub w) (v0 : Value) (x0 : (List (List Int))) (k0 : ((TR.sl (TR.sl TR.int))).vrep S v0 x0) (x1 : Int) (res : Bool) (hm : pk_tableOf_m x0 x1 = some res) : Calls Try.prog 16 #[v0, .int .i64 x1] w (PostV w (.bool res)) := by
  refine calls_enter 15 Try.func16 Try.ntmps16 rfl S false [(0, v0), (1, .int .i64 x1)] [imm (TR.sl (TR.sl TR.int)) v0 x0] rfl ⟨rfl, ⟨rfl, trivial⟩⟩ hS ⟨k0, trivial⟩ ?_
  unfold pk_tableOf_m at hm
  refine GL.seq ?_
  refine GL.region ?_
  refine RL.box (t := TR.int) (e := x1) rfl rfl rfl rfl VR.int ?_
  intro v4
  refine RL.asg rfl rfl rfl ?_
  refine RL.finG ?_
  refine GL.seq ?_
  obtain ⟨y12, K13, h14, h15, h16, h17, h18⟩ := bindR_K hm
  refine GL.join (ι := Bool) (fun (p : Bool) => [(4, .bool p)]) (fun (p : Bool) => []) (fun (p : Bool) => K13 (.nx p)) ?_ ?_
  · skip
    refine GL.region ?_
    refine RL.mv rfl rfl rfl ?_
    refine RL.lenS 0 Try.underlying22 rfl rfl rfl rfl SlOf.imm ?_
    refine RL.ldPx (off := 0) (e' := x1) 1 Ex.ik Try_ln3 rfl rfl (Or.inr ⟨rfl, rfl⟩) rfl PtOf.obox Part.self ?_
    refine RL.binI (v := .bool (((x0).length : Int) == x1)) rfl rfl rfl rfl rfl ?_
    refine RL.mv rfl rfl rfl ?_
    refine RL.split (t := 9) rfl (fun b19 => ?_) (fun b19 => ?_)
    · replace h14 := ite_t b19 h14
      refine RL.mv rfl rfl rfl ?_
      refine RL.mkF (vs := [v4]) rfl rfl rfl ?_
      obtain ⟨y20, e21, h14⟩ := bind_some h14
      refine RL.callV (v := .bool y20) (vs := [v0, .func (.func 42) #[] #[v4]]) Try_fit22 rfl (Or.inl rfl) rfl rfl rfl rfl (fun U w hU hW hL => slices_ContainsFunc_rows_c U w hU _ _ (hL 0 _ _ rfl Seen.imm) 42 #[v4] Try_fit42 (fun a0 => pk_tableOf_1_m a0 x1) (fun U' w' hle hU' u0 a0 q0 rr hr => (pk_tableOf_1_c U' w' hU' u0 a0 q0 _ _ (TR.vrep_mono hle (hL 1 _ _ rfl Seen.obox)) rr hr).mono (fun _ _ z => z.toV)) _ e21) ?_
      refine RL.notB rfl rfl rfl ?_
      refine RL.pickT rfl rfl rfl rfl ?_
      refine RL.asg rfl rfl rfl ?_
      refine RL.fin ?_
      cases h14
      exact fun a w st => mid_intro (!y20) h15 (St.cut [] ⟨rfl, trivial⟩ (by decide) rfl st)
    · replace h14 := ite_f b19 h14
      refine RL.skip rfl rfl ?_
      refine RL.skip rfl rfl ?_
      refine RL.skip rfl rfl ?_
      refine RL.skip rfl rfl ?_
      refine RL.pickF rfl rfl rfl rfl ?_
      refine RL.asg rfl rfl rfl ?_
      refine RL.fin ?_
      cases h14
      exact fun a w st => mid_intro false h15 (St.cut [] ⟨rfl, trivial⟩ (by decide) rfl st)
  · rintro x11 h22
    have h23 := h16 _ h22
    try dsimp only at h23
    refine GL.weak (env' := [(4, .bool x11)]) (L' := []) (fun _ _ st => st) ?_
    have h23 := Option.some.inj h23
    subst h23
    exact GL.ret (Gx.ret (v := .bool x11) (res1 rfl rfl) (fun a w st => st.toPostV))

set_option maxHeartbeats 4000000 in
theorem pk_TallyTurned_c (S : Hp) (w : World) (hS : S.sub w) (x0 : Int) (v1 : Value) (x1 : (List (List Int))) (k1 : ((TR.sl (TR.sl TR.int))).vrep S v1 x1) (res : Bool) (hm : pk_TallyTurned_m x0 x1 = some res) : Calls Try.prog 11 #[.int .i64 x0, v1] w (PostV w (.bool res)) := by
  refine calls_enter 121 Try.func11 Try.ntmps11 rfl S false [(0, .int .i64 x0), (1, v1)] [imm (TR.sl (TR.sl TR.int)) v1 x1] rfl ⟨rfl, ⟨rfl, trivial⟩⟩ hS ⟨k1, trivial⟩ ?_
  unfold pk_TallyTurned_m at hm
  refine GL.seq ?_
  refine GL.region ?_
  refine RL.asg rfl rfl rfl ?_
  refine RL.finG ?_
  refine GL.seq ?_
  refine GL.seq ?_
  refine GL.region ?_
  obtain ⟨y5, e6, hm⟩ := bind_some hm
  refine RL.callV (v := .bool y5) (vs := []) Try_fit30 rfl (Or.inl rfl) rfl rfl rfl rfl (fun U w hU hW hL => pk_tallies_c U w hU  _ e6) ?_
  refine RL.notB rfl rfl rfl ?_
  refine RL.finG ?_
  refine GL.cond rfl (fun b7 => ?_) (fun b7 => ?_)
  · replace hm := ite_t b7 hm
    refine GL.seq ?_
    refine GL.region ?_
    refine RL.asg rfl rfl rfl ?_
    refine RL.finG ?_
    have hm := Option.some.inj hm
    subst hm
    exact GL.ret (Gx.ret (v := .bool false) (res1 rfl rfl) (fun a w st => st.toPostV))
  · replace hm := ite_f b7 hm
    refine GL.skip ?_
    refine GL.seq ?_
    refine GL.region ?_
    refine RL.mv rfl rfl rfl ?_
    obtain ⟨y10, e11, hm⟩ := bind_some hm
    refine RL.callC (v := .int .i64 y10) (vs := [.int .i64 x0, .int .i64 (6 : Int)]) Try_fit20 rfl rfl rfl rfl (fun U w hU hW hL => pk_Within_c U w hU x0 (6 : Int) _ e11) ?_
    refine RL.binI (v := .int .i64 (wadd (1 : Int) y10)) rfl rfl rfl rfl rfl ?_
    refine RL.asg rfl rfl rfl ?_
    refine RL.finG ?_
    refine GL.seq ?_
    refine GL.region ?_
    refine RL.mv rfl rfl rfl ?_
    refine RL.mv rfl rfl rfl ?_
    obtain ⟨y15, e16, hm⟩ := bind_some hm
    refine RL.call (vs := [.int .i64 (wadd (1 : Int) y10), v1]) Try_fit31 rfl rfl rfl rfl rfl (fun S f w hS hW hi => pk_VotesOf_c S w hS (wadd (1 : Int) y10) _ _ (hi 0 _ rfl) _ e16) ?_
    intro v17
    refine RL.asg rfl rfl rfl ?_
    refine RL.finG ?_
    refine GL.seq ?_
    refine GL.region ?_
    refine RL.mv rfl rfl rfl ?_
    refine RL.mv rfl rfl rfl ?_
    refine RL.weak (fun a w st => st.freeze 1 rfl) ?_
    obtain ⟨y21, e22, hm⟩ := bind_some hm
    refine RL.call (vs := [.int .i64 (wadd (1 : Int) y10), v17]) Try_fit24 rfl rfl rfl rfl rfl (fun S f w hS hW hi => tally_Duels_c S w hS (wadd (1 : Int) y10) _ _ (hi 1 _ rfl) _ e22) ?_
    intro v23
    refine RL.reL (L' := [imm (TR.sl (TR.sl TR.int)) v1 x1, imm (TR.sl (TR.sl TR.int)) v17 y15, imm (TR.sl (TR.sl TR.int)) v23 y21.1]) rfl ?_
    refine RL.mv rfl rfl rfl ?_
    refine RL.ext rfl rfl rfl rfl ?_
    refine RL.ext rfl rfl rfl rfl ?_
    refine RL.asg rfl rfl rfl ?_
    refine RL.asg rfl rfl rfl ?_
    refine RL.finG ?_
    refine GL.seq ?_
    refine GL.region ?_
    refine RL.mv rfl rfl rfl ?_
    refine RL.mv rfl rfl rfl ?_
    obtain ⟨y30, e31, hm⟩ := bind_some hm
    refine RL.call (vs := [v17]) Try_fit37 rfl rfl rfl rfl rfl (fun S f w hS hW hi => pk_turned_c S w hS _ _ (hi 1 _ rfl) _ e31) ?_
    intro v32
    refine RL.weak (fun a w st => st.freeze 3 rfl) ?_
    obtain ⟨y33, e34, hm⟩ := bind_some hm
    refine RL.call (vs := [.int .i64 (wadd (1 : Int) y10), v32]) Try_fit24 rfl rfl rfl rfl rfl (fun S f w hS hW hi => tally_Duels_c S w hS (wadd (1 : Int) y10) _ _ (hi 3 _ rfl) _ e34) ?_
    intro v35
    refine RL.reL (L' := [imm (TR.sl (TR.sl TR.int)) v1 x1, imm (TR.sl (TR.sl TR.int)) v17 y15, imm (TR.sl (TR.sl TR.int)) v23 y21.1, imm (TR.sl (TR.sl TR.int)) v32 y30, imm (TR.sl (TR.sl TR.int)) v35 y33.1]) rfl ?_
    refine RL.mv rfl rfl rfl ?_
    refine RL.ext rfl rfl rfl rfl ?_
    refine RL.ext rfl rfl rfl rfl ?_
    refine RL.asg rfl rfl rfl ?_
    refine RL.asg rfl rfl rfl ?_
    refine RL.finG ?_
    refine GL.seq ?_
    refine GL.region ?_
    refine RL.mv rfl rfl rfl ?_
    refine RL.mv rfl rfl rfl ?_
    obtain ⟨y39, e40, hm⟩ := bind_some hm
    refine RL.call (vs := [.int .i64 (wadd (1 : Int) y10), v17]) Try_fit35 rfl rfl rfl rfl rfl (fun S f w hS hW hi => tally_Points_c S w hS (wadd (1 : Int) y10) _ _ (hi 1 _ rfl) _ e40) ?_
    intro v41
    refine RL.mv rfl rfl rfl ?_
    refine RL.ext rfl rfl rfl rfl ?_
    refine RL.ext rfl rfl rfl rfl ?_
    refine RL.asg rfl rfl rfl ?_
    refine RL.asg rfl rfl rfl ?_
    refine RL.finG ?_
    refine GL.seq ?_
    refine GL.region ?_
    refine RL.mv rfl rfl rfl ?_
    refine RL.mv rfl rfl rfl ?_
    obtain ⟨y48, e49, hm⟩ := bind_some hm
    refine RL.call (vs := [v17]) Try_fit37 rfl rfl rfl rfl rfl (fun S f w hS hW hi => pk_turned_c S w hS _ _ (hi 1 _ rfl) _ e49) ?_
    intro v50
    refine RL.reL (L' := [imm (TR.sl (TR.sl TR.int)) v1 x1, imm (TR.sl (TR.sl TR.int)) v17 y15, imm (TR.sl (TR.sl TR.int)) v23 y21.1, imm (TR.sl (TR.sl TR.int)) v32 y30, imm (TR.sl (TR.sl TR.int)) v35 y33.1, own 3 TR.int v41 y39.1, own 28 (TR.sl TR.int) v50 y48]) rfl ?_
    obtain ⟨y51, e52, hm⟩ := bind_some hm
    refine RL.callU (vs := [.int .i64 (wadd (1 : Int) y10), v50]) (LR := fun (o : Value) => [own 3 TR.int o y51.1]) (fun o => ⟨Loc.own TR.flatT_ik, trivial⟩) Try_fit35 rfl rfl rfl rfl rfl (fun U w hU hW hL => tally_Points_c U w hU (wadd (1 : Int) y10) _ _ (hL 6 _ _ rfl Seen.own) _ e52) ?_
    intro v53
    refine RL.mv rfl rfl rfl ?_
    refine RL.ext rfl rfl rfl rfl ?_
    refine RL.ext rfl rfl rfl rfl ?_
    refine RL.asg rfl rfl rfl ?_
    refine RL.asg rfl rfl rfl ?_
    refine RL.finG ?_
    refine GL.seq ?_
    refine GL.seq ?_
    obtain ⟨y77, K78, h79, h80, h81, h82, h83⟩ := bindR_K hm
    refine GL.join (ι := Bool) (fun (p : Bool) => [(0, .int .i64 (wadd (1 : Int) y10)), (5, v17), (6, v23), (8, v35), (10, v41), (12, v53), (80, .bool p)]) (fun (p : Bool) => [imm (TR.sl (TR.sl TR.int)) v17 y15, imm (TR.sl (TR.sl TR.int)) v23 y21.1, imm (TR.sl (TR.sl TR.int)) v35 y33.1, own 3 TR.int v41 y39.1, own 3 TR.int v53 y51.1]) (fun (p : Bool) => K78 (.nx p)) ?_ ?_
    · skip
      refine GL.region ?_
      refine RL.mv rfl rfl rfl ?_
      refine RL.mv rfl rfl rfl ?_
      refine RL.mv rfl rfl rfl ?_
      refine RL.mv rfl rfl rfl ?_
      refine RL.bS (t := TR.int) (vs := [.int .i64 y21.2, .int .i64 y33.2, .int .i64 y39.2, .int .i64 y51.2]) ([y21.2, y33.2, y39.2, y51.2] : (List Int)) Try.underlying55 Try_lo24 rfl rfl rfl rfl ⟨VR.int, ⟨VR.int, ⟨VR.int, ⟨VR.int, trivial⟩⟩⟩⟩ rfl (by decide) ?_
      intro v84
      obtain ⟨y85, e86, h79⟩ := bind_some h79
      refine RL.callV (v := .bool y85) (vs := [v84]) Try_fit25 rfl (Or.inl rfl) rfl rfl rfl rfl (fun U w hU hW hL => pk_good_c U w hU _ _ (hL 8 _ _ rfl Seen.own) _ e86) ?_
      refine RL.notB rfl rfl rfl ?_
      refine RL.mv rfl rfl rfl ?_
      refine RL.split (t := 57) rfl (fun b87 => ?_) (fun b87 => ?_)
      · replace h79 := ite_t b87 h79
        refine RL.skip rfl rfl ?_
        refine RL.skip rfl rfl ?_
        refine RL.skip rfl rfl ?_
        refine RL.skip rfl rfl ?_
        refine RL.pickT rfl rfl rfl rfl ?_
        refine RL.mv rfl rfl rfl ?_
        refine RL.skip rfl rfl ?_
        refine RL.skip rfl rfl ?_
        refine RL.skip rfl rfl ?_
        refine RL.skip rfl rfl ?_
        refine RL.pickT rfl rfl rfl rfl ?_
        refine RL.mv rfl rfl rfl ?_
        refine RL.skip rfl rfl ?_
        refine RL.skip rfl rfl ?_
        refine RL.skip rfl rfl ?_
        refine RL.skip rfl rfl ?_
        refine RL.pickT rfl rfl rfl rfl ?_
        refine RL.mv rfl rfl rfl ?_
        refine RL.skip rfl rfl ?_
        refine RL.skip rfl rfl ?_
        refine RL.skip rfl rfl ?_
        refine RL.skip rfl rfl ?_
        refine RL.pickT rfl rfl rfl rfl ?_
        refine RL.fin ?_
        cases h79
        exact fun a w st => mid_intro true h80 (St.cut [1, 2, 4, 5, 7] ⟨rfl, rfl, rfl, rfl, rfl, rfl, rfl, trivial⟩ (by decide) rfl st)
      · replace h79 := ite_f b87 h79
        refine RL.mv rfl rfl rfl ?_
        refine RL.mv rfl rfl rfl ?_
        obtain ⟨y88, e89, h79⟩ := bind_some h79
        refine RL.callV (v := .bool y88) (vs := [v23, .int .i64 (wadd (1 : Int) y10)]) Try_fit16 rfl (Or.inl rfl) rfl rfl rfl rfl (fun U w hU hW hL => pk_tableOf_c U w hU _ _ (hL 2 _ _ rfl Seen.imm) (wadd (1 : Int) y10) _ e89) ?_
        refine RL.notB rfl rfl rfl ?_
        refine RL.pickF rfl rfl rfl rfl ?_
        refine RL.mv rfl rfl rfl ?_
        refine RL.split (t := 63) rfl (fun b90 => ?_) (fun b90 => ?_)
        · replace h79 := ite_t b90 h79
          refine RL.skip rfl rfl ?_
          refine RL.skip rfl rfl ?_
          refine RL.skip rfl rfl ?_
          refine RL.skip rfl rfl ?_
          refine RL.pickT rfl rfl rfl rfl ?_
          refine RL.mv rfl rfl rfl ?_
          refine RL.skip rfl rfl ?_
          refine RL.skip rfl rfl ?_
          refine RL.skip rfl rfl ?_
          refine RL.skip rfl rfl ?_
          refine RL.pickT rfl rfl rfl rfl ?_
          refine RL.mv rfl rfl rfl ?_
          refine RL.skip rfl rfl ?_
          refine RL.skip rfl rfl ?_
          refine RL.skip rfl rfl ?_
          refine RL.skip rfl rfl ?_
          refine RL.pickT rfl rfl rfl rfl ?_
          refine RL.fin ?_
          cases h79
          exact fun a w st => mid_intro true h80 (St.cut [1, 2, 4, 5, 7] ⟨rfl, rfl, rfl, rfl, rfl, rfl, rfl, trivial⟩ (by decide) rfl st)
        · replace h79 := ite_f b90 h79
          refine RL.mv rfl rfl rfl ?_
          refine RL.mv rfl rfl rfl ?_
          obtain ⟨y91, e92, h79⟩ := bind_some h79
          refine RL.callV (v := .bool y91) (vs := [v35, .int .i64 (wadd (1 : Int) y10)]) Try_fit16 rfl (Or.inl rfl) rfl rfl rfl rfl (fun U w hU hW hL => pk_tableOf_c U w hU _ _ (hL 4 _ _ rfl Seen.imm) (wadd (1 : Int) y10) _ e92) ?_
          refine RL.notB rfl rfl rfl ?_
          refine RL.pickF rfl rfl rfl rfl ?_
          refine RL.mv rfl rfl rfl ?_
          refine RL.split (t := 69) rfl (fun b93 => ?_) (fun b93 => ?_)
          · replace h79 := ite_t b93 h79
            refine RL.skip rfl rfl ?_
            refine RL.skip rfl rfl ?_
            refine RL.skip rfl rfl ?_
            refine RL.skip rfl rfl ?_
            refine RL.pickT rfl rfl rfl rfl ?_
            refine RL.mv rfl rfl rfl ?_
            refine RL.skip rfl rfl ?_
            refine RL.skip rfl rfl ?_
            refine RL.skip rfl rfl ?_
            refine RL.skip rfl rfl ?_
            refine RL.pickT rfl rfl rfl rfl ?_
            refine RL.fin ?_
            cases h79
            exact fun a w st => mid_intro true h80 (St.cut [1, 2, 4, 5, 7] ⟨rfl, rfl, rfl, rfl, rfl, rfl, rfl, trivial⟩ (by decide) rfl st)
          · replace h79 := ite_f b93 h79
            refine RL.mv rfl rfl rfl ?_
            refine RL.lenS 5 Try.underlying28 rfl rfl rfl rfl SlOf.own ?_
            refine RL.mv rfl rfl rfl ?_
            refine RL.binI (v := .bool (((y39.1).length : Int) != (wadd (1 : Int) y10))) rfl rfl rfl rfl rfl ?_
            refine RL.pickF rfl rfl rfl rfl ?_
            refine RL.mv rfl rfl rfl ?_
            refine RL.split (t := 75) rfl (fun b94 => ?_) (fun b94 => ?_)
            · replace h79 := ite_t b94 h79
              refine RL.skip rfl rfl ?_
              refine RL.skip rfl rfl ?_
              refine RL.skip rfl rfl ?_
              refine RL.skip rfl rfl ?_
              refine RL.pickT rfl rfl rfl rfl ?_
              refine RL.fin ?_
              cases h79
              exact fun a w st => mid_intro true h80 (St.cut [1, 2, 4, 5, 7] ⟨rfl, rfl, rfl, rfl, rfl, rfl, rfl, trivial⟩ (by decide) rfl st)
            · replace h79 := ite_f b94 h79
              refine RL.mv rfl rfl rfl ?_
              refine RL.lenS 7 Try.underlying28 rfl rfl rfl rfl SlOf.own ?_
              refine RL.mv rfl rfl rfl ?_
              refine RL.binI (v := .bool (((y51.1).length : Int) != (wadd (1 : Int) y10))) rfl rfl rfl rfl rfl ?_
              refine RL.pickF rfl rfl rfl rfl ?_
              refine RL.fin ?_
              cases h79
              exact fun a w st => mid_intro (((y51.1).length : Int) != (wadd (1 : Int) y10)) h80 (St.cut [1, 2, 4, 5, 7] ⟨rfl, rfl, rfl, rfl, rfl, rfl, rfl, trivial⟩ (by decide) rfl st)
    · rintro x76 h95
      have h96 := h81 _ h95
      try dsimp only at h96
      refine GL.weak (env' := [(0, .int .i64 (wadd (1 : Int) y10)), (5, v17), (6, v23), (8, v35), (10, v41), (12, v53), (80, .bool x76)]) (L' := [imm (TR.sl (TR.sl TR.int)) v17 y15, imm (TR.sl (TR.sl TR.int)) v23 y21.1, imm (TR.sl (TR.sl TR.int)) v35 y33.1, own 3 TR.int v41 y39.1, own 3 TR.int v53 y51.1]) (fun _ _ st => st) ?_
      refine GL.cond rfl (fun b97 => ?_) (fun b97 => ?_)
      · replace h96 := ite_t b97 h96
        refine GL.seq ?_
        refine GL.region ?_
        refine RL.asg rfl rfl rfl ?_
        refine RL.finG ?_
        have h96 := Option.some.inj h96
        subst h96
        exact GL.ret (Gx.ret (v := .bool false) (res1 rfl rfl) (fun a w st => st.toPostV))
      · replace h96 := ite_f b97 h96
        refine GL.skip ?_
        refine GL.seq ?_
        refine GL.seq ?_
        refine GL.region ?_
        refine RL.mv rfl rfl rfl ?_
        refine RL.mv rfl rfl rfl ?_
        refine RL.finG ?_
        obtain ⟨y173, e174, h96⟩ := bind_some h96
        replace e174 := chk_some e174
        obtain ⟨y175, K176, h177, h178, h179, h180, h181⟩ := bindR_K h96
        refine GL.join (ι := Unit) (fun (p : Unit) => []) (fun (p : Unit) => []) (fun (p : Unit) => K176 (.nx ())) ?_ ?_
        · refine GL.block ?_
          refine GL.loop (ι := Nat × Nat) (fun (p : Nat × Nat) => [(0, .int .i64 (wadd (1 : Int) y10)), (5, v17), (6, v23), (8, v35), (10, v41), (12, v53), (81, .int .i64 (wadd (1 : Int) y10)), (82, .int .i64 (p.1 : Int))]) (fun (p : Nat × Nat) => [imm (TR.sl (TR.sl TR.int)) v17 y15, imm (TR.sl (TR.sl TR.int)) v23 y21.1, imm (TR.sl (TR.sl TR.int)) v35 y33.1, own 3 TR.int v41 y39.1, own 3 TR.int v53 y51.1]) (fun (p : Nat × Nat) => p.1 + p.2 = (wadd (1 : Int) y10).toNat ∧ rangeN (pk_TallyTurned_b1 y10 y21 y33 y39 y51 y15) p.2 p.1 () = some y175) (fun (p : Nat × Nat) => p.2) (0, (wadd (1 : Int) y10).toNat) ⟨by simp, h177⟩ (fun a w st => St.cut [0, 1, 2, 3, 4] ⟨rfl, rfl, rfl, rfl, rfl, rfl, rfl, rfl, trivial⟩ (by decide) rfl st) ?_
          rintro ⟨i182, r183⟩ ⟨h188, h187⟩
          try dsimp only at h188 h187
          refine GL.weak (env' := [(0, .int .i64 (wadd (1 : Int) y10)), (5, v17), (6, v23), (8, v35), (10, v41), (12, v53), (81, .int .i64 (wadd (1 : Int) y10)), (82, .int .i64 (i182 : Int))]) (L' := [imm (TR.sl (TR.sl TR.int)) v17 y15, imm (TR.sl (TR.sl TR.int)) v23 y21.1, imm (TR.sl (TR.sl TR.int)) v35 y33.1, own 3 TR.int v41 y39.1, own 3 TR.int v53 y51.1]) (fun _ _ st => st) ?_
          refine GL.seq ?_
          refine GL.region ?_
          refine RL.binI (v := .bool (decide ((i182 : Int) < wadd (1 : Int) y10))) rfl rfl rfl rfl rfl ?_
          refine RL.finG ?_
          refine GL.seq ?_
          refine GL.cond rfl (fun b190 => ?_) (fun b190 => ?_)
          · have h191 : i182 < (wadd (1 : Int) y10).toNat := by have := of_decide_eq_true b190; omega
            obtain ⟨r192, hr⟩ : ∃ m, r183 = m + 1 := ⟨r183 - 1, by omega⟩
            subst hr
            obtain ⟨z184, h185, h186⟩ := rangeN_some h187
            unfold pk_TallyTurned_b1 at h185
            try dsimp only at h185
            refine GL.skip ?_
            refine GL.seq ?_
            refine GL.block ?_
            refine GL.seq ?_
            refine GL.region ?_
            refine RL.mv rfl rfl rfl ?_
            refine RL.asg rfl rfl rfl ?_
            refine RL.finG ?_
            refine GL.seq ?_
            refine GL.seq ?_
            refine GL.region ?_
            refine RL.mv rfl rfl rfl ?_
            refine RL.mv rfl rfl rfl ?_
            refine RL.finG ?_
            obtain ⟨y215, e216, h185⟩ := bind_some h185
            replace e216 := chk_some e216
            obtain ⟨y217, K218, h219, h220, h221, h222, h223⟩ := bindF_K h185
            refine GL.join (ι := Unit) (fun (p : Unit) => [(0, .int .i64 (wadd (1 : Int) y10)), (5, v17), (6, v23), (8, v35), (10, v41), (12, v53), (14, .int .i64 (i182 : Int)), (81, .int .i64 (wadd (1 : Int) y10)), (82, .int .i64 (i182 : Int))]) (fun (p : Unit) => [imm (TR.sl (TR.sl TR.int)) v17 y15, imm (TR.sl (TR.sl TR.int)) v23 y21.1, imm (TR.sl (TR.sl TR.int)) v35 y33.1, own 3 TR.int v41 y39.1, own 3 TR.int v53 y51.1]) (fun (p : Unit) => K218 (.nx ())) ?_ ?_
            · refine GL.block ?_
              refine GL.loop (ι := Nat × Nat) (fun (p : Nat × Nat) => [(0, .int .i64 (wadd (1 : Int) y10)), (5, v17), (6, v23), (8, v35), (10, v41), (12, v53), (14, .int .i64 (i182 : Int)), (81, .int .i64 (wadd (1 : Int) y10)), (82, .int .i64 (i182 : Int)), (85, .int .i64 (wadd (1 : Int) y10)), (86, .int .i64 (p.1 : Int))]) (fun (p : Nat × Nat) => [imm (TR.sl (TR.sl TR.int)) v17 y15, imm (TR.sl (TR.sl TR.int)) v23 y21.1, imm (TR.sl (TR.sl TR.int)) v35 y33.1, own 3 TR.int v41 y39.1, own 3 TR.int v53 y51.1]) (fun (p : Nat × Nat) => p.1 + p.2 = (wadd (1 : Int) y10).toNat ∧ rangeN (pk_TallyTurned_b2 y21 i182 y33) p.2 p.1 () = some y217) (fun (p : Nat × Nat) => p.2) (0, (wadd (1 : Int) y10).toNat) ⟨by simp, h219⟩ (fun a w st => St.cut [0, 1, 2, 3, 4] ⟨rfl, rfl, rfl, rfl, rfl, rfl, rfl, rfl, rfl, rfl, rfl, trivial⟩ (by decide) rfl st) ?_
              rintro ⟨i224, r225⟩ ⟨h230, h229⟩
              try dsimp only at h230 h229
              refine GL.weak (env' := [(0, .int .i64 (wadd (1 : Int) y10)), (5, v17), (6, v23), (8, v35), (10, v41), (12, v53), (14, .int .i64 (i182 : Int)), (81, .int .i64 (wadd (1 : Int) y10)), (82, .int .i64 (i182 : Int)), (85, .int .i64 (wadd (1 : Int) y10)), (86, .int .i64 (i224 : Int))]) (L' := [imm (TR.sl (TR.sl TR.int)) v17 y15, imm (TR.sl (TR.sl TR.int)) v23 y21.1, imm (TR.sl (TR.sl TR.int)) v35 y33.1, own 3 TR.int v41 y39.1, own 3 TR.int v53 y51.1]) (fun _ _ st => st) ?_
              refine GL.seq ?_
              refine GL.region ?_
              refine RL.binI (v := .bool (decide ((i224 : Int) < wadd (1 : Int) y10))) rfl rfl rfl rfl rfl ?_
              refine RL.finG ?_
              refine GL.seq ?_
              refine GL.cond rfl (fun b232 => ?_) (fun b232 => ?_)
              · have h233 : i224 < (wadd (1 : Int) y10).toNat := by have := of_decide_eq_true b232; omega
                obtain ⟨r234, hr⟩ : ∃ m, r225 = m + 1 := ⟨r225 - 1, by omega⟩
                subst hr
                obtain ⟨z226, h227, h228⟩ := rangeN_some h229
                unfold pk_TallyTurned_b2 at h227
                try dsimp only at h227
                refine GL.skip ?_
                refine GL.seq ?_
                refine GL.block ?_
                refine GL.seq ?_
                refine GL.region ?_
                refine RL.mv rfl rfl rfl ?_
                refine RL.asg rfl rfl rfl ?_
                refine RL.finG ?_
                refine GL.seq ?_
                refine GL.regionQ rfl rfl (by kernel_rfl) ?_
                refine RL.mv rfl rfl rfl ?_
                refine RL.mv rfl rfl rfl ?_
                obtain ⟨y245, e246, h227⟩ := bind_some h227
                refine RL.idxS (sz := 1) 1 Try.underlying22 Try_ln28 rfl rfl rfl rfl rfl SlOf.imm (idx_some e246).1 (idx_some e246).2.1 ?_
                refine RL.ldS (i := i182) (r := (TR.sl TR.int)) (e' := y245) 1 Try_ln28 rfl rfl rfl rfl SlOf.imm (idx_some e246).2.2 Part.self ?_
                intro v247
                refine RL.mv rfl rfl rfl ?_
                obtain ⟨y248, e249, h227⟩ := bind_some h227
                refine RL.idxS (sz := 1) 5 Try.underlying28 Try_ln3 rfl rfl rfl rfl rfl SlOf.imm (idx_some e249).1 (idx_some e249).2.1 ?_
                refine RL.ldSx (i := i224) (e' := y248) 5 Ex.ik Try_ln3 rfl rfl rfl rfl SlOf.imm (idx_some e249).2.2 Part.self ?_
                refine RL.mv rfl rfl rfl ?_
                refine RL.mv rfl rfl rfl ?_
                obtain ⟨y250, e251, h227⟩ := bind_some h227
                refine RL.idxS (sz := 1) 2 Try.underlying22 Try_ln28 rfl rfl rfl rfl rfl SlOf.imm (idx_some e251).1 (idx_some e251).2.1 ?_
                refine RL.ldS (i := i224) (r := (TR.sl TR.int)) (e' := y250) 2 Try_ln28 rfl rfl rfl rfl SlOf.imm (idx_some e251).2.2 Part.self ?_
                intro v252
                refine RL.reL (L' := [imm (TR.sl (TR.sl TR.int)) v17 y15, imm (TR.sl (TR.sl TR.int)) v23 y21.1, imm (TR.sl (TR.sl TR.int)) v35 y33.1, own 3 TR.int v41 y39.1, own 3 TR.int v53 y51.1, imm (TR.sl TR.int) v247 y245, imm (TR.sl TR.int) v252 y250]) rfl ?_
                refine RL.mv rfl rfl rfl ?_
                obtain ⟨y253, e254, h227⟩ := bind_some h227
                refine RL.idxS (sz := 1) 6 Try.underlying28 Try_ln3 rfl rfl rfl rfl rfl SlOf.imm (idx_some e254).1 (idx_some e254).2.1 ?_
                refine RL.ldSx (i := i182) (e' := y253) 6 Ex.ik Try_ln3 rfl rfl rfl rfl SlOf.imm (idx_some e254).2.2 Part.self ?_
                refine RL.binI (v := .bool (y248 != y253)) rfl rfl rfl rfl rfl ?_
                refine RL.finQG ?_
                refine GL.cond rfl (fun b255 => ?_) (fun b255 => ?_)
                · replace h227 := ite_t b255 h227
                  refine GL.seq ?_
                  refine GL.region ?_
                  refine RL.asg rfl rfl rfl ?_
                  refine RL.finG ?_
                  cases h227
                  replace h228 : some (Fl.rt _) = some y217 := h228
                  cases h228
                  have hh := h222 _ h220
                  subst hh
                  replace h186 : some (Fl.rt _) = some y175 := h186
                  cases h186
                  have hh := h180 _ h178
                  subst hh
                  exact GL.ret (Gx.ret (v := .bool false) (res1 rfl rfl) (fun a w st => st.toPostV))
                · replace h227 := ite_f b255 h227
                  refine GL.skip ?_
                  refine GL.nilB ?_
                  refine GL.region ?_
                  refine RL.binI (v := .int .i64 ((i224 + 1 : Nat) : Int)) rfl rfl rfl rfl (binI_succ i224 (by omega)) ?_
                  refine RL.mv rfl rfl rfl ?_
                  refine RL.fin ?_
                  cases h227
                  exact fun a w st => lop_intro (i224 + 1, r234) ⟨by show i224 + 1 + r234 = (wadd (1 : Int) y10).toNat; omega, h228⟩ (by simp) (St.cut [0, 1, 2, 3, 4] ⟨rfl, rfl, rfl, rfl, rfl, rfl, rfl, rfl, rfl, rfl, rfl, trivial⟩ (by decide) rfl st)
              · have h233 : ¬ i224 < (wadd (1 : Int) y10).toNat := by have := of_decide_eq_false b232; omega
                obtain rfl : r225 = 0 := by omega
                replace h229 : some (Fl.nx _) = some y217 := h229
                cases h229
                exact GL.exit (fun a w st => mid_intro () h220 (St.cut [0, 1, 2, 3, 4] ⟨rfl, rfl, rfl, rfl, rfl, rfl, rfl, rfl, rfl, trivial⟩ (by decide) rfl st))
            · rintro ⟨⟩ h256
              have h257 := h221 _ h256
              try dsimp only at h257
              refine GL.weak (env' := [(0, .int .i64 (wadd (1 : Int) y10)), (5, v17), (6, v23), (8, v35), (10, v41), (12, v53), (14, .int .i64 (i182 : Int)), (81, .int .i64 (wadd (1 : Int) y10)), (82, .int .i64 (i182 : Int))]) (L' := [imm (TR.sl (TR.sl TR.int)) v17 y15, imm (TR.sl (TR.sl TR.int)) v23 y21.1, imm (TR.sl (TR.sl TR.int)) v35 y33.1, own 3 TR.int v41 y39.1, own 3 TR.int v53 y51.1]) (fun _ _ st => st) ?_
              refine GL.seq ?_
              refine GL.regionQ rfl rfl (by kernel_rfl) ?_
              refine RL.mv rfl rfl rfl ?_
              refine RL.mv rfl rfl rfl ?_
              obtain ⟨y262, e263, h257⟩ := bind_some h257
              refine RL.idxS (sz := 1) 3 Try.underlying28 Try_ln3 rfl rfl rfl rfl rfl SlOf.own (idx_some e263).1 (idx_some e263).2.1 ?_
              refine RL.ldSx (i := i182) (e' := y262) 3 Ex.ik Try_ln3 rfl rfl rfl rfl SlOf.own (idx_some e263).2.2 Part.self ?_
              refine RL.mv rfl rfl rfl ?_
              refine RL.mv rfl rfl rfl ?_
              obtain ⟨y264, e265, h257⟩ := bind_some h257
              refine RL.idxS (sz := 1) 4 Try.underlying28 Try_ln3 rfl rfl rfl rfl rfl SlOf.own (idx_some e265).1 (idx_some e265).2.1 ?_
              refine RL.ldSx (i := i182) (e' := y264) 4 Ex.ik Try_ln3 rfl rfl rfl rfl SlOf.own (idx_some e265).2.2 Part.self ?_
              refine RL.binI (v := .int .i64 (wadd y262 y264)) rfl rfl rfl rfl rfl ?_
              refine RL.mv rfl rfl rfl ?_
              refine RL.binI (v := .int .i64 (wsub (wadd (1 : Int) y10) (1 : Int))) rfl rfl rfl rfl rfl ?_
              refine RL.mv rfl rfl rfl ?_
              refine RL.lenS 0 Try.underlying22 rfl rfl rfl rfl SlOf.imm ?_
              refine RL.binI (v := .int .i64 (wmul (wsub (wadd (1 : Int) y10) (1 : Int)) ((y15).length : Int))) rfl rfl rfl rfl rfl ?_
              refine RL.binI (v := .bool ((wadd y262 y264) != (wmul (wsub (wadd (1 : Int) y10) (1 : Int)) ((y15).length : Int)))) rfl rfl rfl rfl rfl ?_
              refine RL.finQG ?_
              refine GL.cond rfl (fun b266 => ?_) (fun b266 => ?_)
              · replace h257 := ite_t b266 h257
                refine GL.seq ?_
                refine GL.region ?_
                refine RL.asg rfl rfl rfl ?_
                refine RL.finG ?_
                cases h257
                replace h186 : some (Fl.rt _) = some y175 := h186
                cases h186
                have hh := h180 _ h178
                subst hh
                exact GL.ret (Gx.ret (v := .bool false) (res1 rfl rfl) (fun a w st => st.toPostV))
              · replace h257 := ite_f b266 h257
                refine GL.skip ?_
                refine GL.nilB ?_
                refine GL.region ?_
                refine RL.binI (v := .int .i64 ((i182 + 1 : Nat) : Int)) rfl rfl rfl rfl (binI_succ i182 (by omega)) ?_
                refine RL.mv rfl rfl rfl ?_
                refine RL.fin ?_
                cases h257
                exact fun a w st => lop_intro (i182 + 1, r192) ⟨by show i182 + 1 + r192 = (wadd (1 : Int) y10).toNat; omega, h186⟩ (by simp) (St.cut [0, 1, 2, 3, 4] ⟨rfl, rfl, rfl, rfl, rfl, rfl, rfl, rfl, trivial⟩ (by decide) rfl st)
          · have h191 : ¬ i182 < (wadd (1 : Int) y10).toNat := by have := of_decide_eq_false b190; omega
            obtain rfl : r183 = 0 := by omega
            replace h187 : some (Fl.nx _) = some y175 := h187
            cases h187
            exact GL.exit (fun a w st => mid_intro () h178 (St.cut [] trivial (by decide) rfl st))
        · rintro ⟨⟩ h267
          have h268 := h179 _ h267
          try dsimp only at h268
          refine GL.weak (env' := []) (L' := []) (fun _ _ st => st) ?_
          refine GL.seq ?_
          refine GL.region ?_
          refine RL.asg rfl rfl rfl ?_
          refine RL.finG ?_
          have h268 := Option.some.inj h268
          subst h268
          exact GL.ret (Gx.ret (v := .bool true) (res1 rfl rfl) (fun a w st => st.toPostV))
end Go.Wk
