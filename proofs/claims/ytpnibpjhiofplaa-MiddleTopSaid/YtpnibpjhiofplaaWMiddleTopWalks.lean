/- Each function comes to what its model says; printed by a program of this repository. -/
import Derived.Test.YtpnibpjhiofplaaProg
import Derived.Test.YtpnibpjhiofplaaWMiddleTopModels
namespace Go.Wk
open Go.Fw Go.Mo Go.Proofs Go.RowKit
set_option linter.unusedVariables false
set_option maxRecDepth 100000
theorem Try_info3 : (Try.prog.info? 3).map (fun i => (i.zero, i.size, i.bytes)) = some (some (.int .i64 0), 1, 8) := by kernel_rfl
theorem Try_ln3 : Ln Try.prog 3 1 false := Ln.of Try_info3 Try.underlying3 rfl
theorem Try_lo3 : LnO Try.prog 3 1 [.int .i64 0] := LnO.of Try_info3 rfl rfl (by decide) (by decide)
theorem Try_info4 : (Try.prog.info? 4).map (fun i => (i.zero, i.size, i.bytes)) = some (some (.bool false), 1, 1) := by kernel_rfl
theorem Try_ln4 : Ln Try.prog 4 1 false := Ln.of Try_info4 Try.underlying4 rfl
theorem Try_lo4 : LnO Try.prog 4 1 [.bool false] := LnO.of Try_info4 rfl rfl (by decide) (by decide)
theorem Try_info22 : (Try.prog.info? 22).map (fun i => (i.zero, i.size, i.bytes)) = some (some (.slice none 0 0), 1, 24) := by kernel_rfl
theorem Try_ln22 : Ln Try.prog 22 1 false := Ln.of Try_info22 Try.underlying22 rfl
theorem Try_lo22 : LnO Try.prog 22 1 [.slice none 0 0] := LnO.of Try_info22 rfl rfl (by decide) (by decide)
theorem Try_info29 : (Try.prog.info? 29).map (fun i => (i.zero, i.size, i.bytes)) = some (some (.int .i64 0), 1, 8) := by kernel_rfl
theorem Try_ln29 : Ln Try.prog 29 1 false := Ln.of Try_info29 Try.underlying29 rfl
theorem Try_lo29 : LnO Try.prog 29 1 [.int .i64 0] := LnO.of Try_info29 rfl rfl (by decide) (by decide)
theorem Try_info76 : (Try.prog.info? 76).map (fun i => (i.zero, i.size, i.bytes)) = some (some (.agg #[.bool false, .bool false, .bool false, .bool false, .bool false, .bool false]), 6, 6) := by kernel_rfl
theorem Try_ln76 : Ln Try.prog 76 6 true := Ln.of Try_info76 Try.underlying76 rfl
theorem Try_lo76 : LnO Try.prog 76 6 [.bool false, .bool false, .bool false, .bool false, .bool false, .bool false] := LnO.of Try_info76 rfl rfl (by decide) (by decide)
theorem Try_fit16 : Fit Try.prog 16 := Fit.of Try.func16 (by kernel_rfl) rfl
theorem Try_fit17 : Fit Try.prog 17 := Fit.of Try.func17 (by kernel_rfl) rfl
theorem Try_fit18 : Fit Try.prog 18 := Fit.of Try.func18 (by kernel_rfl) rfl
theorem Try_fit20 : Fit Try.prog 20 := Fit.of Try.func20 (by kernel_rfl) rfl
theorem Try_fit22 : Fit Try.prog 22 := Fit.of Try.func22 (by kernel_rfl) rfl
theorem Try_fit26 : Fit Try.prog 26 := Fit.of Try.func26 (by kernel_rfl) rfl
theorem Try_fit28 : Fit Try.prog 28 := Fit.of Try.func28 (by kernel_rfl) rfl
theorem Try_fit29 : Fit Try.prog 29 := Fit.of Try.func29 (by kernel_rfl) rfl
theorem Try_fit30 : Fit Try.prog 30 := Fit.of Try.func30 (by kernel_rfl) rfl
theorem Try_fit34 : Fit Try.prog 34 := Fit.of Try.func34 (by kernel_rfl) rfl
theorem Try_fit36 : Fit Try.prog 36 := Fit.of Try.func36 (by kernel_rfl) rfl
theorem Try_fit37 : Fit Try.prog 37 := Fit.of Try.func37 (by kernel_rfl) rfl
theorem Try_fit38 : Fit Try.prog 38 := Fit.of Try.func38 (by kernel_rfl) rfl
theorem Try_fit39 : Fit Try.prog 39 := Fit.of Try.func39 (by kernel_rfl) rfl
theorem Try_fit50 : Fit Try.prog 50 := Fit.of Try.func50 (by kernel_rfl) rfl
theorem Try_fit51 : Fit Try.prog 51 := Fit.of Try.func51 (by kernel_rfl) rfl
theorem Try_fit52 : Fit Try.prog 52 := Fit.of Try.func52 (by kernel_rfl) rfl
theorem Try_fit53 : Fit Try.prog 53 := Fit.of Try.func53 (by kernel_rfl) rfl
theorem Try_fit54 : Fit Try.prog 54 := Fit.of Try.func54 (by kernel_rfl) rfl
theorem Try_fit55 : Fit Try.prog 55 := Fit.of Try.func55 (by kernel_rfl) rfl
theorem Try_fit59 : Fit Try.prog 59 := Fit.of Try.func59 (by kernel_rfl) rfl
theorem Try_fit60 : Fit Try.prog 60 := Fit.of Try.func60 (by kernel_rfl) rfl
theorem Try_fit61 : Fit Try.prog 61 := Fit.of Try.func61 (by kernel_rfl) rfl
theorem Try_fit69 : Fit Try.prog 69 := Fit.of Try.func69 (by kernel_rfl) rfl

set_option maxHeartbeats 4000000 in
theorem order_Check_c (S : Hp) (w : World) (hS : S.sub w) (x0 : Int) (v1 : Value) (x1 : (List Int)) (k1 : ((TR.sl TR.int)).vrep S v1 x1) (res : Int) (hm : order_Check_m x0 x1 = some res) : Calls Try.prog 36 #[.int .i64 x0, v1] w (PostV w (.int .i64 res)) := by
  refine calls_enter 39 Try.func36 Try.ntmps36 rfl S false [(0, .int .i64 x0), (1, v1)] [imm (TR.sl TR.int) v1 x1] rfl ⟨rfl, ⟨rfl, trivial⟩⟩ hS ⟨k1, trivial⟩ ?_
  unfold order_Check_m at hm
  refine GL.seq ?_
  refine GL.region ?_
  refine RL.asg rfl rfl rfl ?_
  refine RL.finG ?_
  refine GL.seq ?_
  refine GL.seq ?_
  obtain ⟨y6, K7, h8, h9, h10, h11, h12⟩ := bindR_K hm
  refine GL.join (ι := Bool) (fun (p : Bool) => [(0, .int .i64 x0), (1, v1), (13, .bool p)]) (fun (p : Bool) => [imm (TR.sl TR.int) v1 x1]) (fun (p : Bool) => K7 (.nx p)) ?_ ?_
  · skip
    refine GL.region ?_
    refine RL.mv rfl rfl rfl ?_
    refine RL.binI (v := .bool (decide (x0 < (1 : Int)))) rfl rfl rfl rfl rfl ?_
    refine RL.mv rfl rfl rfl ?_
    refine RL.split (t := 10) rfl (fun b13 => ?_) (fun b13 => ?_)
    · replace h8 := ite_t b13 h8
      refine RL.skip rfl rfl ?_
      refine RL.skip rfl rfl ?_
      refine RL.pickT rfl rfl rfl rfl ?_
      refine RL.fin ?_
      cases h8
      exact fun a w st => mid_intro true h9 (St.cut [0] ⟨rfl, rfl, rfl, trivial⟩ (by decide) rfl st)
    · replace h8 := ite_f b13 h8
      refine RL.mv rfl rfl rfl ?_
      refine RL.binI (v := .bool (decide (x0 > (6 : Int)))) rfl rfl rfl rfl rfl ?_
      refine RL.pickF rfl rfl rfl rfl ?_
      refine RL.fin ?_
      cases h8
      exact fun a w st => mid_intro (decide (x0 > (6 : Int))) h9 (St.cut [0] ⟨rfl, rfl, rfl, trivial⟩ (by decide) rfl st)
  · rintro x5 h14
    have h15 := h10 _ h14
    try dsimp only at h15
    refine GL.weak (env' := [(0, .int .i64 x0), (1, v1), (13, .bool x5)]) (L' := [imm (TR.sl TR.int) v1 x1]) (fun _ _ st => st) ?_
    refine GL.cond rfl (fun b16 => ?_) (fun b16 => ?_)
    · replace h15 := ite_t b16 h15
      refine GL.seq ?_
      refine GL.region ?_
      refine RL.asg rfl rfl rfl ?_
      refine RL.finG ?_
      have h15 := Option.some.inj h15
      subst h15
      exact GL.ret (Gx.ret (v := .int .i64 (1 : Int)) (res1 rfl rfl) (fun a w st => st.toPostV))
    · replace h15 := ite_f b16 h15
      refine GL.skip ?_
      refine GL.seq ?_
      refine GL.region ?_
      refine RL.alloc (t := (TR.arr 6 TR.bool)) (z := (List.replicate 6 false)) Try_lo76 (fun S => ⟨rfl, ⟨_, _, rfl, rfl, ⟨_, _, rfl, rfl, ⟨_, _, rfl, rfl, ⟨_, _, rfl, rfl, ⟨_, _, rfl, rfl, ⟨_, _, rfl, rfl, rfl⟩⟩⟩⟩⟩⟩⟩) rfl rfl rfl ?_
      intro v18
      refine RL.finG ?_
      refine GL.seq ?_
      refine GL.seq ?_
      refine GL.region ?_
      refine RL.mv rfl rfl rfl ?_
      refine RL.lenS 0 Try.underlying22 rfl rfl rfl rfl SlOf.imm ?_
      refine RL.mv rfl rfl rfl ?_
      refine RL.finG ?_
      refine GL.open_ 0 rfl (fun S h => len_imm S h) (fun n82 => ?_)
      obtain ⟨y83, K84, h85, h86, h87, h88, h89⟩ := bindR_K h15
      refine GL.join (ι := (List Bool)) (fun (p : (List Bool)) => [(0, .int .i64 x0), (1, v1)]) (fun (p : (List Bool)) => [imm (TR.sl TR.int) v1 x1]) (fun (p : (List Bool)) => K84 (.nx p)) ?_ ?_
      · refine GL.block ?_
        refine GL.loop (ι := Nat × (List Int) × (List Bool)) (fun (p : Nat × (List Int) × (List Bool)) => [(0, .int .i64 x0), (1, v1), (5, v18), (14, v1), (15, .int .i64 ((x1).length : Int)), (16, .int .i64 (p.1 : Int))]) (fun (p : Nat × (List Int) × (List Bool)) => [imm (TR.sl TR.int) v1 x1, obox 76 (TR.arr 6 TR.bool) v18 p.2.2]) (fun (p : Nat × (List Int) × (List Bool)) => p.1 + p.2.1.length = (x1).length ∧ List.drop p.1 x1 = p.2.1 ∧ rangeL (order_Check_b1 x0) p.2.1 p.1 p.2.2 = some y83) (fun (p : Nat × (List Int) × (List Bool)) => p.2.1.length) (0, x1, (List.replicate 6 false)) ⟨by simp, by simp, h85⟩ (fun a w st => St.cut [0, 1] ⟨rfl, rfl, rfl, rfl, rfl, rfl, trivial⟩ (by decide) rfl st) ?_
        rintro ⟨i90, r91, l50⟩ ⟨h96, h97, h95⟩
        try dsimp only at h96 h97 h95
        refine GL.weak (env' := [(0, .int .i64 x0), (1, v1), (5, v18), (14, v1), (15, .int .i64 ((x1).length : Int)), (16, .int .i64 (i90 : Int))]) (L' := [imm (TR.sl TR.int) v1 x1, obox 76 (TR.arr 6 TR.bool) v18 l50]) (fun _ _ st => st) ?_
        refine GL.seq ?_
        refine GL.region ?_
        refine RL.binI (v := .bool (decide ((i90 : Int) < ((x1).length : Int)))) rfl rfl rfl rfl rfl ?_
        refine RL.finG ?_
        refine GL.seq ?_
        refine GL.cond rfl (fun b98 => ?_) (fun b98 => ?_)
        · have h99 : i90 < (x1).length := by have := of_decide_eq_true b98; omega
          obtain ⟨y100, r102, hr, e101, h103⟩ := drop_cons h97 rfl h99
          subst hr
          obtain ⟨z92, h93, h94⟩ := rangeL_some h95
          unfold order_Check_b1 at h93
          try dsimp only at h93
          refine GL.skip ?_
          refine GL.seq ?_
          refine GL.block ?_
          refine GL.seq ?_
          refine GL.region ?_
          refine RL.idxS (sz := 1) 0 Try.underlying22 Try_ln3 rfl rfl rfl rfl rfl SlOf.imm (by omega) (by omega) ?_
          refine RL.ldSx (i := i90) (e' := y100) 0 Ex.ik Try_ln3 rfl rfl rfl rfl SlOf.imm e101 Part.self ?_
          refine RL.asg rfl rfl rfl ?_
          refine RL.finG ?_
          refine GL.seq ?_
          refine GL.seq ?_
          obtain ⟨y113, K114, h115, h116, h117, h118, h119⟩ := bindF_K h93
          refine GL.join (ι := Bool) (fun (p : Bool) => [(0, .int .i64 x0), (1, v1), (5, v18), (7, .int .i64 y100), (14, v1), (15, .int .i64 ((x1).length : Int)), (16, .int .i64 (i90 : Int)), (31, .bool p)]) (fun (p : Bool) => [imm (TR.sl TR.int) v1 x1, obox 76 (TR.arr 6 TR.bool) v18 l50]) (fun (p : Bool) => K114 (.nx p)) ?_ ?_
          · skip
            refine GL.region ?_
            refine RL.mv rfl rfl rfl ?_
            refine RL.binI (v := .bool (decide (y100 < (0 : Int)))) rfl rfl rfl rfl rfl ?_
            refine RL.mv rfl rfl rfl ?_
            refine RL.split (t := 22) rfl (fun b120 => ?_) (fun b120 => ?_)
            · replace h115 := ite_t b120 h115
              refine RL.skip rfl rfl ?_
              refine RL.skip rfl rfl ?_
              refine RL.skip rfl rfl ?_
              refine RL.pickT rfl rfl rfl rfl ?_
              refine RL.mv rfl rfl rfl ?_
              refine RL.skip rfl rfl ?_
              refine RL.skip rfl rfl ?_
              refine RL.skip rfl rfl ?_
              refine RL.pickT rfl rfl rfl rfl ?_
              refine RL.fin ?_
              cases h115
              exact fun a w st => mid_intro true h116 (St.cut [0, 1] ⟨rfl, rfl, rfl, rfl, rfl, rfl, rfl, rfl, trivial⟩ (by decide) rfl st)
            · replace h115 := ite_f b120 h115
              refine RL.mv rfl rfl rfl ?_
              refine RL.mv rfl rfl rfl ?_
              refine RL.binI (v := .bool (decide (y100 ≥ x0))) rfl rfl rfl rfl rfl ?_
              refine RL.pickF rfl rfl rfl rfl ?_
              refine RL.mv rfl rfl rfl ?_
              refine RL.split (t := 27) rfl (fun b121 => ?_) (fun b121 => ?_)
              · replace h115 := ite_t b121 h115
                refine RL.skip rfl rfl ?_
                refine RL.skip rfl rfl ?_
                refine RL.skip rfl rfl ?_
                refine RL.pickT rfl rfl rfl rfl ?_
                refine RL.fin ?_
                cases h115
                exact fun a w st => mid_intro true h116 (St.cut [0, 1] ⟨rfl, rfl, rfl, rfl, rfl, rfl, rfl, rfl, trivial⟩ (by decide) rfl st)
              · replace h115 := ite_f b121 h115
                refine RL.mv rfl rfl rfl ?_
                obtain ⟨y122, e123, h115⟩ := bind_some h115
                refine RL.idxA0 (sz := 1) (t' := TR.bool) 1 Try.underlying76 Try_ln4 rfl rfl rfl PtOf.obox rfl rfl Part.self (idx_some e123).1 (idx_some e123).2.1 ?_
                refine RL.ldPx (off := ((y100).toNat * 1)) (e' := y122) 1 Ex.bool Try_ln4 rfl rfl (Or.inl rfl) rfl PtOf.obox (Part.arr (idx_some e123).2.2 Part.self) ?_
                refine RL.pickF rfl rfl rfl rfl ?_
                refine RL.fin ?_
                cases h115
                exact fun a w st => mid_intro y122 h116 (St.cut [0, 1] ⟨rfl, rfl, rfl, rfl, rfl, rfl, rfl, rfl, trivial⟩ (by decide) rfl st)
          · rintro x112 h124
            have h125 := h117 _ h124
            try dsimp only at h125
            refine GL.weak (env' := [(0, .int .i64 x0), (1, v1), (5, v18), (7, .int .i64 y100), (14, v1), (15, .int .i64 ((x1).length : Int)), (16, .int .i64 (i90 : Int)), (31, .bool x112)]) (L' := [imm (TR.sl TR.int) v1 x1, obox 76 (TR.arr 6 TR.bool) v18 l50]) (fun _ _ st => st) ?_
            refine GL.cond rfl (fun b126 => ?_) (fun b126 => ?_)
            · replace h125 := ite_t b126 h125
              refine GL.seq ?_
              refine GL.region ?_
              refine RL.asg rfl rfl rfl ?_
              refine RL.finG ?_
              cases h125
              replace h94 : some (Fl.rt _) = some y83 := h94
              cases h94
              have hh := h88 _ h86
              subst hh
              exact GL.ret (Gx.ret (v := .int .i64 (3 : Int)) (res1 rfl rfl) (fun a w st => st.toPostV))
            · replace h125 := ite_f b126 h125
              refine GL.skip ?_
              refine GL.region ?_
              refine RL.mv rfl rfl rfl ?_
              obtain ⟨y129, e130, h125⟩ := bind_some h125
              refine RL.idxA0 (sz := 1) (t' := TR.bool) 1 Try.underlying76 Try_ln4 rfl rfl rfl PtOf.obox rfl rfl Part.self (idx_some e130).1 (idx_some e130).2.1 ?_
              refine RL.stP (off := ((y100).toNat * 1)) (e' := true) (d1 := (List.set l50 ((y100).toNat) true)) (r := TR.bool) 1 Try_ln4 rfl rfl (Or.inl rfl) rfl VR.bool rfl (Upd.arr (idx_some e130).2.2 Upd.self) ?_
              refine RL.finG ?_
              refine GL.nilB ?_
              refine GL.region ?_
              refine RL.binI (v := .int .i64 ((i90 + 1 : Nat) : Int)) rfl rfl rfl rfl (binI_succ i90 (by omega)) ?_
              refine RL.mv rfl rfl rfl ?_
              refine RL.fin ?_
              cases h125
              exact fun a w st => lop_intro (i90 + 1, r102, (List.set l50 ((y100).toNat) true)) ⟨by show i90 + 1 + r102.length = (x1).length; simp only [List.length_cons] at h96; omega, h103, h94⟩ (by simp) (St.cut [0, 1] ⟨rfl, rfl, rfl, rfl, rfl, rfl, trivial⟩ (by decide) rfl st)
        · have h99 : ¬ i90 < (x1).length := by have := of_decide_eq_false b98; omega
          obtain rfl : r91 = [] := by rw [← h97]; exact List.drop_of_length_le (by omega)
          replace h95 : some (Fl.nx _) = some y83 := h95
          cases h95
          exact GL.exit (fun a w st => mid_intro l50 h86 (St.cut [0] ⟨rfl, rfl, trivial⟩ (by decide) rfl st))
      · rintro l50 h131
        have h132 := h87 _ h131
        try dsimp only at h132
        refine GL.weak (env' := [(0, .int .i64 x0), (1, v1)]) (L' := [imm (TR.sl TR.int) v1 x1]) (fun _ _ st => st) ?_
        refine GL.seq ?_
        refine GL.seq ?_
        refine GL.region ?_
        refine RL.mv rfl rfl rfl ?_
        refine RL.lenS 0 Try.underlying22 rfl rfl rfl rfl SlOf.imm ?_
        refine RL.mv rfl rfl rfl ?_
        refine RL.binI (v := .bool (((x1).length : Int) != x0)) rfl rfl rfl rfl rfl ?_
        refine RL.finG ?_
        refine GL.cond rfl (fun b133 => ?_) (fun b133 => ?_)
        · replace h132 := ite_t b133 h132
          refine GL.seq ?_
          refine GL.region ?_
          refine RL.asg rfl rfl rfl ?_
          refine RL.finG ?_
          have h132 := Option.some.inj h132
          subst h132
          exact GL.ret (Gx.ret (v := .int .i64 (3 : Int)) (res1 rfl rfl) (fun a w st => st.toPostV))
        · replace h132 := ite_f b133 h132
          refine GL.skip ?_
          refine GL.seq ?_
          refine GL.region ?_
          refine RL.asg rfl rfl rfl ?_
          refine RL.finG ?_
          have h132 := Option.some.inj h132
          subst h132
          exact GL.ret (Gx.ret (v := .int .i64 (0 : Int)) (res1 rfl rfl) (fun a w st => st.toPostV))

set_option maxHeartbeats 4000000 in
theorem tally_Check_c (S : Hp) (w : World) (hS : S.sub w) (x0 : Int) (v1 : Value) (x1 : (List (List Int))) (k1 : ((TR.sl (TR.sl TR.int))).vrep S v1 x1) (res : Int) (hm : tally_Check_m x0 x1 = some res) : Calls Try.prog 55 #[.int .i64 x0, v1] w (PostV w (.int .i64 res)) := by
  refine calls_enter 27 Try.func55 Try.ntmps55 rfl S false [(0, .int .i64 x0), (1, v1)] [imm (TR.sl (TR.sl TR.int)) v1 x1] rfl ⟨rfl, ⟨rfl, trivial⟩⟩ hS ⟨k1, trivial⟩ ?_
  unfold tally_Check_m at hm
  refine GL.seq ?_
  refine GL.region ?_
  refine RL.asg rfl rfl rfl ?_
  refine RL.finG ?_
  refine GL.seq ?_
  refine GL.seq ?_
  obtain ⟨y6, K7, h8, h9, h10, h11, h12⟩ := bindR_K hm
  refine GL.join (ι := Bool) (fun (p : Bool) => [(0, .int .i64 x0), (1, v1), (12, .bool p)]) (fun (p : Bool) => [imm (TR.sl (TR.sl TR.int)) v1 x1]) (fun (p : Bool) => K7 (.nx p)) ?_ ?_
  · skip
    refine GL.region ?_
    refine RL.mv rfl rfl rfl ?_
    refine RL.binI (v := .bool (decide (x0 < (1 : Int)))) rfl rfl rfl rfl rfl ?_
    refine RL.mv rfl rfl rfl ?_
    refine RL.split (t := 9) rfl (fun b13 => ?_) (fun b13 => ?_)
    · replace h8 := ite_t b13 h8
      refine RL.skip rfl rfl ?_
      refine RL.skip rfl rfl ?_
      refine RL.pickT rfl rfl rfl rfl ?_
      refine RL.fin ?_
      cases h8
      exact fun a w st => mid_intro true h9 (St.cut [0] ⟨rfl, rfl, rfl, trivial⟩ (by decide) rfl st)
    · replace h8 := ite_f b13 h8
      refine RL.mv rfl rfl rfl ?_
      refine RL.binI (v := .bool (decide (x0 > (6 : Int)))) rfl rfl rfl rfl rfl ?_
      refine RL.pickF rfl rfl rfl rfl ?_
      refine RL.fin ?_
      cases h8
      exact fun a w st => mid_intro (decide (x0 > (6 : Int))) h9 (St.cut [0] ⟨rfl, rfl, rfl, trivial⟩ (by decide) rfl st)
  · rintro x5 h14
    have h15 := h10 _ h14
    try dsimp only at h15
    refine GL.weak (env' := [(0, .int .i64 x0), (1, v1), (12, .bool x5)]) (L' := [imm (TR.sl (TR.sl TR.int)) v1 x1]) (fun _ _ st => st) ?_
    refine GL.cond rfl (fun b16 => ?_) (fun b16 => ?_)
    · replace h15 := ite_t b16 h15
      refine GL.seq ?_
      refine GL.region ?_
      refine RL.asg rfl rfl rfl ?_
      refine RL.finG ?_
      have h15 := Option.some.inj h15
      subst h15
      exact GL.ret (Gx.ret (v := .int .i64 (1 : Int)) (res1 rfl rfl) (fun a w st => st.toPostV))
    · replace h15 := ite_f b16 h15
      refine GL.skip ?_
      refine GL.seq ?_
      refine GL.seq ?_
      refine GL.region ?_
      refine RL.mv rfl rfl rfl ?_
      refine RL.lenS 0 Try.underlying28 rfl rfl rfl rfl SlOf.imm ?_
      refine RL.binI (v := .bool (decide (((x1).length : Int) > (30 : Int)))) rfl rfl rfl rfl rfl ?_
      refine RL.finG ?_
      refine GL.cond rfl (fun b17 => ?_) (fun b17 => ?_)
      · replace h15 := ite_t b17 h15
        refine GL.seq ?_
        refine GL.region ?_
        refine RL.asg rfl rfl rfl ?_
        refine RL.finG ?_
        have h15 := Option.some.inj h15
        subst h15
        exact GL.ret (Gx.ret (v := .int .i64 (2 : Int)) (res1 rfl rfl) (fun a w st => st.toPostV))
      · replace h15 := ite_f b17 h15
        refine GL.skip ?_
        refine GL.seq ?_
        refine GL.seq ?_
        refine GL.region ?_
        refine RL.mv rfl rfl rfl ?_
        refine RL.lenS 0 Try.underlying28 rfl rfl rfl rfl SlOf.imm ?_
        refine RL.mv rfl rfl rfl ?_
        refine RL.finG ?_
        refine GL.open_ 0 rfl (fun S h => len_imm S h) (fun n29 => ?_)
        obtain ⟨y30, K31, h32, h33, h34, h35, h36⟩ := bindR_K h15
        refine GL.join (ι := Unit) (fun (p : Unit) => []) (fun (p : Unit) => []) (fun (p : Unit) => K31 (.nx ())) ?_ ?_
        · refine GL.block ?_
          refine GL.loop (ι := Nat × (List (List Int))) (fun (p : Nat × (List (List Int))) => [(0, .int .i64 x0), (16, v1), (17, .int .i64 ((x1).length : Int)), (18, .int .i64 (p.1 : Int))]) (fun (p : Nat × (List (List Int))) => [imm (TR.sl (TR.sl TR.int)) v1 x1]) (fun (p : Nat × (List (List Int))) => p.1 + p.2.length = (x1).length ∧ List.drop p.1 x1 = p.2 ∧ rangeL (tally_Check_b1 x0) p.2 p.1 () = some y30) (fun (p : Nat × (List (List Int))) => p.2.length) (0, x1) ⟨by simp, by simp, h32⟩ (fun a w st => St.cut [0] ⟨rfl, rfl, rfl, rfl, trivial⟩ (by decide) rfl st) ?_
          rintro ⟨i37, r38⟩ ⟨h43, h44, h42⟩
          try dsimp only at h43 h44 h42
          refine GL.weak (env' := [(0, .int .i64 x0), (16, v1), (17, .int .i64 ((x1).length : Int)), (18, .int .i64 (i37 : Int))]) (L' := [imm (TR.sl (TR.sl TR.int)) v1 x1]) (fun _ _ st => st) ?_
          refine GL.seq ?_
          refine GL.region ?_
          refine RL.binI (v := .bool (decide ((i37 : Int) < ((x1).length : Int)))) rfl rfl rfl rfl rfl ?_
          refine RL.finG ?_
          refine GL.seq ?_
          refine GL.cond rfl (fun b45 => ?_) (fun b45 => ?_)
          · have h46 : i37 < (x1).length := by have := of_decide_eq_true b45; omega
            obtain ⟨y47, r49, hr, e48, h50⟩ := drop_cons h44 rfl h46
            subst hr
            obtain ⟨z39, h40, h41⟩ := rangeL_some h42
            unfold tally_Check_b1 at h40
            try dsimp only at h40
            refine GL.skip ?_
            refine GL.seq ?_
            refine GL.block ?_
            refine GL.seq ?_
            refine GL.region ?_
            refine RL.idxS (sz := 1) 0 Try.underlying28 Try_ln22 rfl rfl rfl rfl rfl SlOf.imm (by omega) (by omega) ?_
            refine RL.ldS (i := i37) (r := (TR.sl TR.int)) (e' := y47) 0 Try_ln22 rfl rfl rfl rfl SlOf.imm e48 Part.self ?_
            intro v52
            refine RL.asg rfl rfl rfl ?_
            refine RL.finG ?_
            refine GL.seq ?_
            refine GL.region ?_
            refine RL.mv rfl rfl rfl ?_
            refine RL.mv rfl rfl rfl ?_
            obtain ⟨y55, e56, h40⟩ := bind_some h40
            refine RL.callV (v := .int .i64 y55) (vs := [.int .i64 x0, v52]) Try_fit36 rfl (Or.inl rfl) rfl rfl rfl rfl (fun U w hU hW hL => order_Check_c U w hU x0 _ _ (hL 1 _ _ rfl Seen.imm) _ e56) ?_
            refine RL.binI (v := .bool (y55 != (0 : Int))) rfl rfl rfl rfl rfl ?_
            refine RL.finG ?_
            refine GL.cond rfl (fun b57 => ?_) (fun b57 => ?_)
            · replace h40 := ite_t b57 h40
              refine GL.seq ?_
              refine GL.region ?_
              refine RL.asg rfl rfl rfl ?_
              refine RL.finG ?_
              cases h40
              replace h41 : some (Fl.rt _) = some y30 := h41
              cases h41
              have hh := h35 _ h33
              subst hh
              exact GL.ret (Gx.ret (v := .int .i64 (3 : Int)) (res1 rfl rfl) (fun a w st => st.toPostV))
            · replace h40 := ite_f b57 h40
              refine GL.skip ?_
              refine GL.nilB ?_
              refine GL.region ?_
              refine RL.binI (v := .int .i64 ((i37 + 1 : Nat) : Int)) rfl rfl rfl rfl (binI_succ i37 (by omega)) ?_
              refine RL.mv rfl rfl rfl ?_
              refine RL.fin ?_
              cases h40
              exact fun a w st => lop_intro (i37 + 1, r49) ⟨by show i37 + 1 + r49.length = (x1).length; simp only [List.length_cons] at h43; omega, h50, h41⟩ (by simp) (St.cut [0] ⟨rfl, rfl, rfl, rfl, trivial⟩ (by decide) rfl st)
          · have h46 : ¬ i37 < (x1).length := by have := of_decide_eq_false b45; omega
            obtain rfl : r38 = [] := by rw [← h44]; exact List.drop_of_length_le (by omega)
            replace h42 : some (Fl.nx _) = some y30 := h42
            cases h42
            exact GL.exit (fun a w st => mid_intro () h33 (St.cut [] trivial (by decide) rfl st))
        · rintro ⟨⟩ h58
          have h59 := h34 _ h58
          try dsimp only at h59
          refine GL.weak (env' := []) (L' := []) (fun _ _ st => st) ?_
          refine GL.seq ?_
          refine GL.region ?_
          refine RL.asg rfl rfl rfl ?_
          refine RL.finG ?_
          have h59 := Option.some.inj h59
          subst h59
          exact GL.ret (Gx.ret (v := .int .i64 (0 : Int)) (res1 rfl rfl) (fun a w st => st.toPostV))

set_option maxHeartbeats 4000000 in
theorem tally_Duels_c (S : Hp) (w : World) (hS : S.sub w) (x0 : Int) (v1 : Value) (x1 : (List (List Int))) (k1 : ((TR.sl (TR.sl TR.int))).vrep S v1 x1) (res : (List (List Int)) × Int) (hm : tally_Duels_m x0 x1 = some res) : Calls Try.prog 26 #[.int .i64 x0, v1] w (Post w S (fun (o : Value) => .tuple #[o, .int .i64 res.2]) (fun (o : Value) => [imm (TR.sl (TR.sl TR.int)) o res.1])) := by
  refine calls_enter 69 Try.func26 Try.ntmps26 rfl S false [(0, .int .i64 x0), (1, v1)] [imm (TR.sl (TR.sl TR.int)) v1 x1] rfl ⟨rfl, ⟨rfl, trivial⟩⟩ hS ⟨k1, trivial⟩ ?_
  unfold tally_Duels_m at hm
  refine GL.seq ?_
  refine GL.region ?_
  refine RL.asg rfl rfl rfl ?_
  refine RL.asg rfl rfl rfl ?_
  refine RL.finG ?_
  refine GL.seq ?_
  refine GL.seq ?_
  refine GL.region ?_
  refine RL.mv rfl rfl rfl ?_
  refine RL.mv rfl rfl rfl ?_
  obtain ⟨y5, e6, hm⟩ := bind_some hm
  refine RL.callV (v := .int .i64 y5) (vs := [.int .i64 x0, v1]) Try_fit55 rfl (Or.inl rfl) rfl rfl rfl rfl (fun U w hU hW hL => tally_Check_c U w hU x0 _ _ (hL 0 _ _ rfl Seen.imm) _ e6) ?_
  refine RL.asg rfl rfl rfl ?_
  refine RL.finG ?_
  refine GL.seq ?_
  refine GL.region ?_
  refine RL.mv rfl rfl rfl ?_
  refine RL.binI (v := .bool (y5 != (0 : Int))) rfl rfl rfl rfl rfl ?_
  refine RL.finG ?_
  refine GL.cond rfl (fun b7 => ?_) (fun b7 => ?_)
  · replace hm := ite_t b7 hm
    refine GL.seq ?_
    refine GL.region ?_
    refine RL.mv rfl rfl rfl ?_
    refine RL.asg rfl rfl rfl ?_
    refine RL.asg rfl rfl rfl ?_
    refine RL.finG ?_
    refine GL.weak (fun a w st => st.nilImm (TR.sl TR.int)) ?_
    have hm := Option.some.inj hm
    subst hm
    exact GL.ret (Gx.ret (v := .tuple #[Value.slice none 0 0, .int .i64 y5]) (res2 rfl rfl rfl) (fun a w st => (st.pick [1] (by decide) rfl).toPost (Value.slice none 0 0)))
  · replace hm := ite_f b7 hm
    refine GL.skip ?_
    refine GL.seq ?_
    refine GL.region ?_
    refine RL.mv rfl rfl rfl ?_
    obtain ⟨y11, e12, hm⟩ := bind_some hm
    replace e12 := chk_some e12
    refine RL.mkS (t := TR.raw) (z := .slice none 0 0) Try.underlying28 Try_lo22 (fun S => ⟨rfl, rfl⟩) rfl rfl rfl rfl e12.1 e12.2 ?_
    intro v13
    refine RL.weak (fun a w st => st.toRows 3 TR.int 1 rfl) ?_
    refine RL.reL (L' := [imm (TR.sl (TR.sl TR.int)) v1 x1, own2 22 3 TR.int v13 (List.replicate (x0).toNat (Value.slice none 0 0)) (List.replicate (x0).toNat ([] : (List Int)))]) rfl ?_
    refine RL.asg rfl rfl rfl ?_
    refine RL.finG ?_
    refine GL.seq ?_
    refine GL.seq ?_
    refine GL.region ?_
    refine RL.mv rfl rfl rfl ?_
    refine RL.lenR 1 Try.underlying28 rfl rfl rfl rfl ?_
    refine RL.mv rfl rfl rfl ?_
    refine RL.finG ?_
    refine GL.lenR 1 rfl (fun n36 => ?_)
    obtain ⟨y37, K38, h39, h40, h41, h42, h43⟩ := bindR_K hm
    refine GL.join (ι := (List (List Int)) × (List Value)) (fun (p : (List (List Int)) × (List Value)) => [(1, v1), (7, v13)]) (fun (p : (List (List Int)) × (List Value)) => [imm (TR.sl (TR.sl TR.int)) v1 x1, own2 22 3 TR.int v13 p.2 p.1]) (fun (p : (List (List Int)) × (List Value)) => K38 (.nx p.1)) ?_ ?_
    · refine GL.block ?_
      refine GL.loop (ι := Nat × Nat × (List (List Int)) × (List Value)) (fun (p : Nat × Nat × (List (List Int)) × (List Value)) => [(0, .int .i64 x0), (1, v1), (7, v13), (24, .int .i64 (((List.replicate (x0).toNat ([] : (List Int)))).length : Int)), (25, .int .i64 (p.1 : Int))]) (fun (p : Nat × Nat × (List (List Int)) × (List Value)) => [imm (TR.sl (TR.sl TR.int)) v1 x1, own2 22 3 TR.int v13 p.2.2.2 p.2.2.1]) (fun (p : Nat × Nat × (List (List Int)) × (List Value)) => p.1 + p.2.1 = ((List.replicate (x0).toNat ([] : (List Int)))).length ∧ rangeN (tally_Duels_b1 x0) p.2.1 p.1 p.2.2.1 = some y37) (fun (p : Nat × Nat × (List (List Int)) × (List Value)) => p.2.1) (0, ((List.replicate (x0).toNat ([] : (List Int)))).length, (List.replicate (x0).toNat ([] : (List Int))), (List.replicate (x0).toNat (Value.slice none 0 0))) ⟨by simp, h39⟩ (fun a w st => St.cut [0, 1] ⟨rfl, rfl, rfl, rfl, rfl, trivial⟩ (by decide) rfl st) ?_
      rintro ⟨i44, r45, l24, V25⟩ ⟨h50, h49⟩
      try dsimp only at h50 h49
      refine GL.weak (env' := [(0, .int .i64 x0), (1, v1), (7, v13), (24, .int .i64 (((List.replicate (x0).toNat ([] : (List Int)))).length : Int)), (25, .int .i64 (i44 : Int))]) (L' := [imm (TR.sl (TR.sl TR.int)) v1 x1, own2 22 3 TR.int v13 V25 l24]) (fun _ _ st => st) ?_
      refine GL.seq ?_
      refine GL.region ?_
      refine RL.binI (v := .bool (decide ((i44 : Int) < (((List.replicate (x0).toNat ([] : (List Int)))).length : Int)))) rfl rfl rfl rfl rfl ?_
      refine RL.finG ?_
      refine GL.seq ?_
      refine GL.cond rfl (fun b52 => ?_) (fun b52 => ?_)
      · have h53 : i44 < ((List.replicate (x0).toNat ([] : (List Int)))).length := by have := of_decide_eq_true b52; omega
        obtain ⟨r54, hr⟩ : ∃ m, r45 = m + 1 := ⟨r45 - 1, by omega⟩
        subst hr
        obtain ⟨z46, h47, h48⟩ := rangeN_some h49
        unfold tally_Duels_b1 at h47
        try dsimp only at h47
        refine GL.skip ?_
        refine GL.seq ?_
        refine GL.block ?_
        refine GL.seq ?_
        refine GL.region ?_
        refine RL.mv rfl rfl rfl ?_
        refine RL.asg rfl rfl rfl ?_
        refine RL.finG ?_
        refine GL.region ?_
        refine RL.mv rfl rfl rfl ?_
        refine RL.mv rfl rfl rfl ?_
        refine RL.mv rfl rfl rfl ?_
        obtain ⟨y60, e61, h47⟩ := bind_some h47
        replace e61 := chk_some e61
        refine RL.mkS (t := TR.int) (z := (0 : Int)) Try.underlying22 Try_lo3 (fun S => rfl) rfl rfl rfl rfl e61.1 e61.2 ?_
        intro v62
        obtain ⟨y63, e64, h47⟩ := bind_some h47
        refine RL.idxR 1 Try.underlying28 Try_ln22 rfl rfl rfl rfl rfl (idx_some e64).1 (idx_some e64).2.1 ?_
        refine RL.stSp (i := i44) (r0 := y63) 1 2 (by decide) Try_ln22 rfl rfl rfl rfl rfl rfl (idx_some e64).2.2 ?_
        refine RL.reL (L' := [imm (TR.sl (TR.sl TR.int)) v1 x1, own2 22 3 TR.int v13 (List.set V25 i44 v62) (List.set l24 i44 (List.replicate (x0).toNat (0 : Int))), gone]) rfl ?_
        refine RL.finG ?_
        refine GL.nilB ?_
        refine GL.region ?_
        refine RL.binI (v := .int .i64 ((i44 + 1 : Nat) : Int)) rfl rfl rfl rfl (binI_succ i44 (by omega)) ?_
        refine RL.mv rfl rfl rfl ?_
        refine RL.fin ?_
        cases h47
        exact fun a w st => lop_intro (i44 + 1, r54, (List.set l24 i44 (List.replicate (x0).toNat (0 : Int))), (List.set V25 i44 v62)) ⟨by show i44 + 1 + r54 = ((List.replicate (x0).toNat ([] : (List Int)))).length; omega, h48⟩ (by simp) (St.cut [0, 1] ⟨rfl, rfl, rfl, rfl, rfl, trivial⟩ (by decide) rfl st)
      · have h53 : ¬ i44 < ((List.replicate (x0).toNat ([] : (List Int)))).length := by have := of_decide_eq_false b52; omega
        obtain rfl : r45 = 0 := by omega
        replace h49 : some (Fl.nx _) = some y37 := h49
        cases h49
        exact GL.exit (fun a w st => mid_intro (l24, V25) h40 (St.cut [0, 1] ⟨rfl, rfl, trivial⟩ (by decide) rfl st))
    · rintro ⟨l24, V25⟩ h65
      have h66 := h41 _ h65
      try dsimp only at h66
      refine GL.weak (env' := [(1, v1), (7, v13)]) (L' := [imm (TR.sl (TR.sl TR.int)) v1 x1, own2 22 3 TR.int v13 V25 l24]) (fun _ _ st => st) ?_
      refine GL.seq ?_
      refine GL.seq ?_
      refine GL.region ?_
      refine RL.mv rfl rfl rfl ?_
      refine RL.lenS 0 Try.underlying28 rfl rfl rfl rfl SlOf.imm ?_
      refine RL.mv rfl rfl rfl ?_
      refine RL.finG ?_
      refine GL.open_ 0 rfl (fun S h => len_imm S h) (fun n605 => ?_)
      obtain ⟨y606, K607, h608, h609, h610, h611, h612⟩ := bindR_K h66
      refine GL.join (ι := (List (List Int)) × (List Value)) (fun (p : (List (List Int)) × (List Value)) => [(7, v13)]) (fun (p : (List (List Int)) × (List Value)) => [own2 22 3 TR.int v13 p.2 p.1]) (fun (p : (List (List Int)) × (List Value)) => K607 (.nx p.1)) ?_ ?_
      · refine GL.block ?_
        refine GL.loop (ι := Nat × (List (List Int)) × (List (List Int)) × (List Value)) (fun (p : Nat × (List (List Int)) × (List (List Int)) × (List Value)) => [(7, v13), (34, v1), (35, .int .i64 ((x1).length : Int)), (36, .int .i64 (p.1 : Int))]) (fun (p : Nat × (List (List Int)) × (List (List Int)) × (List Value)) => [own2 22 3 TR.int v13 p.2.2.2 p.2.2.1, imm (TR.sl (TR.sl TR.int)) v1 x1]) (fun (p : Nat × (List (List Int)) × (List (List Int)) × (List Value)) => p.1 + p.2.1.length = (x1).length ∧ List.drop p.1 x1 = p.2.1 ∧ rangeL tally_Duels_b2 p.2.1 p.1 p.2.2.1 = some y606) (fun (p : Nat × (List (List Int)) × (List (List Int)) × (List Value)) => p.2.1.length) (0, x1, l24, V25) ⟨by simp, by simp, h608⟩ (fun a w st => St.cut [1, 0] ⟨rfl, rfl, rfl, rfl, trivial⟩ (by decide) rfl st) ?_
        rintro ⟨i613, r614, l335, V336⟩ ⟨h619, h620, h618⟩
        try dsimp only at h619 h620 h618
        refine GL.weak (env' := [(7, v13), (34, v1), (35, .int .i64 ((x1).length : Int)), (36, .int .i64 (i613 : Int))]) (L' := [own2 22 3 TR.int v13 V336 l335, imm (TR.sl (TR.sl TR.int)) v1 x1]) (fun _ _ st => st) ?_
        refine GL.seq ?_
        refine GL.region ?_
        refine RL.binI (v := .bool (decide ((i613 : Int) < ((x1).length : Int)))) rfl rfl rfl rfl rfl ?_
        refine RL.finG ?_
        refine GL.seq ?_
        refine GL.cond rfl (fun b621 => ?_) (fun b621 => ?_)
        · have h622 : i613 < (x1).length := by have := of_decide_eq_true b621; omega
          obtain ⟨y623, r625, hr, e624, h626⟩ := drop_cons h620 rfl h622
          subst hr
          obtain ⟨z615, h616, h617⟩ := rangeL_some h618
          unfold tally_Duels_b2 at h616
          try dsimp only at h616
          refine GL.skip ?_
          refine GL.seq ?_
          refine GL.block ?_
          refine GL.seq ?_
          refine GL.region ?_
          refine RL.idxS (sz := 1) 1 Try.underlying28 Try_ln22 rfl rfl rfl rfl rfl SlOf.imm (by omega) (by omega) ?_
          refine RL.ldS (i := i613) (r := (TR.sl TR.int)) (e' := y623) 1 Try_ln22 rfl rfl rfl rfl SlOf.imm e624 Part.self ?_
          intro v628
          refine RL.asg rfl rfl rfl ?_
          refine RL.finG ?_
          refine GL.seq ?_
          refine GL.region ?_
          refine RL.mv rfl rfl rfl ?_
          refine RL.lenS 2 Try.underlying22 rfl rfl rfl rfl SlOf.imm ?_
          refine RL.mv rfl rfl rfl ?_
          refine RL.finG ?_
          refine GL.open_ 2 rfl (fun S h => len_imm S h) (fun n791 => ?_)
          obtain ⟨y792, K793, h794, h795, h796, h797, h798⟩ := bindF_K h616
          refine GL.join (ι := (List (List Int)) × (List Value)) (fun (p : (List (List Int)) × (List Value)) => [(7, v13), (34, v1), (35, .int .i64 ((x1).length : Int)), (36, .int .i64 (i613 : Int))]) (fun (p : (List (List Int)) × (List Value)) => [own2 22 3 TR.int v13 p.2 p.1, imm (TR.sl (TR.sl TR.int)) v1 x1]) (fun (p : (List (List Int)) × (List Value)) => K793 (.nx p.1)) ?_ ?_
          · refine GL.block ?_
            refine GL.loop (ι := Nat × (List Int) × (List (List Int)) × (List Value)) (fun (p : Nat × (List Int) × (List (List Int)) × (List Value)) => [(7, v13), (10, v628), (34, v1), (35, .int .i64 ((x1).length : Int)), (36, .int .i64 (i613 : Int)), (40, v628), (41, .int .i64 ((y623).length : Int)), (42, .int .i64 (p.1 : Int))]) (fun (p : Nat × (List Int) × (List (List Int)) × (List Value)) => [own2 22 3 TR.int v13 p.2.2.2 p.2.2.1, imm (TR.sl TR.int) v628 y623, imm (TR.sl (TR.sl TR.int)) v1 x1]) (fun (p : Nat × (List Int) × (List (List Int)) × (List Value)) => p.1 + p.2.1.length = (y623).length ∧ List.drop p.1 y623 = p.2.1 ∧ rangeL (tally_Duels_b3 y623) p.2.1 p.1 p.2.2.1 = some y792) (fun (p : Nat × (List Int) × (List (List Int)) × (List Value)) => p.2.1.length) (0, y623, l335, V336) ⟨by simp, by simp, h794⟩ (fun a w st => St.cut [0, 2, 1] ⟨rfl, rfl, rfl, rfl, rfl, rfl, rfl, rfl, trivial⟩ (by decide) rfl st) ?_
            rintro ⟨i799, r800, l709, V710⟩ ⟨h805, h806, h804⟩
            try dsimp only at h805 h806 h804
            refine GL.weak (env' := [(7, v13), (10, v628), (34, v1), (35, .int .i64 ((x1).length : Int)), (36, .int .i64 (i613 : Int)), (40, v628), (41, .int .i64 ((y623).length : Int)), (42, .int .i64 (i799 : Int))]) (L' := [own2 22 3 TR.int v13 V710 l709, imm (TR.sl TR.int) v628 y623, imm (TR.sl (TR.sl TR.int)) v1 x1]) (fun _ _ st => st) ?_
            refine GL.seq ?_
            refine GL.region ?_
            refine RL.binI (v := .bool (decide ((i799 : Int) < ((y623).length : Int)))) rfl rfl rfl rfl rfl ?_
            refine RL.finG ?_
            refine GL.seq ?_
            refine GL.cond rfl (fun b807 => ?_) (fun b807 => ?_)
            · have h808 : i799 < (y623).length := by have := of_decide_eq_true b807; omega
              obtain ⟨y809, r811, hr, e810, h812⟩ := drop_cons h806 rfl h808
              subst hr
              obtain ⟨z801, h802, h803⟩ := rangeL_some h804
              unfold tally_Duels_b3 at h802
              try dsimp only at h802
              refine GL.skip ?_
              refine GL.seq ?_
              refine GL.block ?_
              refine GL.seq ?_
              refine GL.region ?_
              refine RL.mv rfl rfl rfl ?_
              refine RL.idxS (sz := 1) 1 Try.underlying22 Try_ln3 rfl rfl rfl rfl rfl SlOf.imm (by omega) (by omega) ?_
              refine RL.ldSx (i := i799) (e' := y809) 1 Ex.ik Try_ln3 rfl rfl rfl rfl SlOf.imm e810 Part.self ?_
              refine RL.asg rfl rfl rfl ?_
              refine RL.asg rfl rfl rfl ?_
              refine RL.finG ?_
              refine GL.seq ?_
              refine GL.region ?_
              refine RL.mv rfl rfl rfl ?_
              refine RL.mv rfl rfl rfl ?_
              refine RL.binI (v := .int .i64 (wadd (i799 : Int) (1 : Int))) rfl rfl rfl rfl rfl ?_
              obtain ⟨y816, e817, h802⟩ := bind_some h802
              replace e817 := chk_some e817
              refine RL.slc (t := TR.int) (i := (wadd (i799 : Int) (1 : Int)).toNat) (j := (y623).length) (sz := 1) 1 Try.underlying22 Try_ln3 rfl rfl rfl rfl (Or.inr ⟨_, _, rfl, by rw [Int.toNat_of_nonneg (by omega)]; rfl⟩) (Or.inl ⟨rfl, rfl⟩) rfl (by omega) (by omega) ?_
              intro v818
              refine RL.lenS 3 Try.underlying22 rfl rfl rfl rfl SlOf.imm ?_
              refine RL.mv rfl rfl rfl ?_
              refine RL.finG ?_
              refine GL.open_ 3 rfl (fun S h => len_imm S h) (fun n853 => ?_)
              obtain ⟨y854, K855, h856, h857, h858, h859, h860⟩ := bindF_K h802
              refine GL.join (ι := (List (List Int)) × (List Value)) (fun (p : (List (List Int)) × (List Value)) => [(7, v13), (10, v628), (34, v1), (35, .int .i64 ((x1).length : Int)), (36, .int .i64 (i613 : Int)), (40, v628), (41, .int .i64 ((y623).length : Int)), (42, .int .i64 (i799 : Int))]) (fun (p : (List (List Int)) × (List Value)) => [own2 22 3 TR.int v13 p.2 p.1, imm (TR.sl TR.int) v628 y623, imm (TR.sl (TR.sl TR.int)) v1 x1]) (fun (p : (List (List Int)) × (List Value)) => K855 (.nx p.1)) ?_ ?_
              · refine GL.block ?_
                refine GL.loop (ι := Nat × (List Int) × (List (List Int)) × (List Value)) (fun (p : Nat × (List Int) × (List (List Int)) × (List Value)) => [(7, v13), (10, v628), (12, .int .i64 y809), (34, v1), (35, .int .i64 ((x1).length : Int)), (36, .int .i64 (i613 : Int)), (40, v628), (41, .int .i64 ((y623).length : Int)), (42, .int .i64 (i799 : Int)), (50, v818), (51, .int .i64 ((((List.take ((y623).length) y623).drop ((wadd (i799 : Int) (1 : Int)).toNat))).length : Int)), (52, .int .i64 (p.1 : Int))]) (fun (p : Nat × (List Int) × (List (List Int)) × (List Value)) => [own2 22 3 TR.int v13 p.2.2.2 p.2.2.1, imm (TR.sl TR.int) v628 y623, imm (TR.sl (TR.sl TR.int)) v1 x1, imm (TR.sl TR.int) v818 ((List.take ((y623).length) y623).drop ((wadd (i799 : Int) (1 : Int)).toNat))]) (fun (p : Nat × (List Int) × (List (List Int)) × (List Value)) => p.1 + p.2.1.length = (((List.take ((y623).length) y623).drop ((wadd (i799 : Int) (1 : Int)).toNat))).length ∧ List.drop p.1 ((List.take ((y623).length) y623).drop ((wadd (i799 : Int) (1 : Int)).toNat)) = p.2.1 ∧ rangeL (tally_Duels_b4 y809) p.2.1 p.1 p.2.2.1 = some y854) (fun (p : Nat × (List Int) × (List (List Int)) × (List Value)) => p.2.1.length) (0, ((List.take ((y623).length) y623).drop ((wadd (i799 : Int) (1 : Int)).toNat)), l709, V710) ⟨by simp, by simp, h856⟩ (fun a w st => St.cut [0, 1, 2, 3] ⟨rfl, rfl, rfl, rfl, rfl, rfl, rfl, rfl, rfl, rfl, rfl, rfl, trivial⟩ (by decide) rfl st) ?_
                rintro ⟨i861, r862, l835, V836⟩ ⟨h867, h868, h866⟩
                try dsimp only at h867 h868 h866
                refine GL.weak (env' := [(7, v13), (10, v628), (12, .int .i64 y809), (34, v1), (35, .int .i64 ((x1).length : Int)), (36, .int .i64 (i613 : Int)), (40, v628), (41, .int .i64 ((y623).length : Int)), (42, .int .i64 (i799 : Int)), (50, v818), (51, .int .i64 ((((List.take ((y623).length) y623).drop ((wadd (i799 : Int) (1 : Int)).toNat))).length : Int)), (52, .int .i64 (i861 : Int))]) (L' := [own2 22 3 TR.int v13 V836 l835, imm (TR.sl TR.int) v628 y623, imm (TR.sl (TR.sl TR.int)) v1 x1, imm (TR.sl TR.int) v818 ((List.take ((y623).length) y623).drop ((wadd (i799 : Int) (1 : Int)).toNat))]) (fun _ _ st => st) ?_
                refine GL.seq ?_
                refine GL.region ?_
                refine RL.binI (v := .bool (decide ((i861 : Int) < ((((List.take ((y623).length) y623).drop ((wadd (i799 : Int) (1 : Int)).toNat))).length : Int)))) rfl rfl rfl rfl rfl ?_
                refine RL.finG ?_
                refine GL.seq ?_
                refine GL.cond rfl (fun b869 => ?_) (fun b869 => ?_)
                · have h870 : i861 < (((List.take ((y623).length) y623).drop ((wadd (i799 : Int) (1 : Int)).toNat))).length := by have := of_decide_eq_true b869; omega
                  obtain ⟨y871, r873, hr, e872, h874⟩ := drop_cons h868 rfl h870
                  subst hr
                  obtain ⟨z863, h864, h865⟩ := rangeL_some h866
                  unfold tally_Duels_b4 at h864
                  try dsimp only at h864
                  refine GL.skip ?_
                  refine GL.seq ?_
                  refine GL.block ?_
                  refine GL.seq ?_
                  refine GL.region ?_
                  refine RL.idxS (sz := 1) 3 Try.underlying22 Try_ln3 rfl rfl rfl rfl rfl SlOf.imm (by omega) (by omega) ?_
                  refine RL.ldSx (i := i861) (e' := y871) 3 Ex.ik Try_ln3 rfl rfl rfl rfl SlOf.imm e872 Part.self ?_
                  refine RL.asg rfl rfl rfl ?_
                  refine RL.finG ?_
                  refine GL.region ?_
                  refine RL.mv rfl rfl rfl ?_
                  refine RL.mv rfl rfl rfl ?_
                  obtain ⟨y881, e882, h864⟩ := bind_some h864
                  refine RL.idxR 0 Try.underlying28 Try_ln22 rfl rfl rfl rfl rfl (idx_some e882).1 (idx_some e882).2.1 ?_
                  refine RL.ldR (i := (y809).toNat) (r := y881) 0 Try_ln22 rfl rfl rfl rfl (idx_some e882).2.2 ?_
                  refine RL.mv rfl rfl rfl ?_
                  obtain ⟨y883, e884, h864⟩ := bind_some h864
                  refine RL.idxS (sz := 1) 0 Try.underlying22 Try_ln3 rfl rfl rfl rfl rfl (SlOf.row (idx_some e882).2.2) (idx_some e884).1 (idx_some e884).2.1 ?_
                  refine RL.ldSx (i := (y871).toNat) (e' := y883) 0 Ex.ik Try_ln3 rfl rfl rfl rfl (SlOf.row (idx_some e882).2.2) (idx_some e884).2.2 Part.self ?_
                  refine RL.binI (v := .int .i64 (wadd y883 (1 : Int))) rfl rfl rfl rfl rfl ?_
                  obtain ⟨y885, e886, h864⟩ := bind_some h864
                  refine RL.idxS (sz := 1) 0 Try.underlying22 Try_ln3 rfl rfl rfl rfl rfl (SlOf.row (idx_some e882).2.2) (idx_some e886).1 (idx_some e886).2.1 ?_
                  refine RL.stR (i := (y809).toNat) (j := (y871).toNat) (row := y881) (e' := wadd y883 (1 : Int)) (e1 := wadd y883 (1 : Int)) (r := TR.int) 0 Try_ln3 rfl rfl rfl rfl VR.int rfl (idx_some e882).2.2 (idx_some e886).2.2 Upd.self ?_
                  refine RL.finG ?_
                  refine GL.nilB ?_
                  refine GL.region ?_
                  refine RL.binI (v := .int .i64 ((i861 + 1 : Nat) : Int)) rfl rfl rfl rfl (binI_succ i861 (by omega)) ?_
                  refine RL.mv rfl rfl rfl ?_
                  refine RL.fin ?_
                  cases h864
                  exact fun a w st => lop_intro (i861 + 1, r873, (List.set l835 ((y809).toNat) (List.set y881 ((y871).toNat) (wadd y883 (1 : Int)))), V836) ⟨by show i861 + 1 + r873.length = (((List.take ((y623).length) y623).drop ((wadd (i799 : Int) (1 : Int)).toNat))).length; simp only [List.length_cons] at h867; omega, h874, h865⟩ (by simp) (St.cut [0, 1, 2, 3] ⟨rfl, rfl, rfl, rfl, rfl, rfl, rfl, rfl, rfl, rfl, rfl, rfl, trivial⟩ (by decide) rfl st)
                · have h870 : ¬ i861 < (((List.take ((y623).length) y623).drop ((wadd (i799 : Int) (1 : Int)).toNat))).length := by have := of_decide_eq_false b869; omega
                  obtain rfl : r862 = [] := by rw [← h868]; exact List.drop_of_length_le (by omega)
                  replace h866 : some (Fl.nx _) = some y854 := h866
                  cases h866
                  exact GL.exit (fun a w st => mid_intro (l835, V836) h857 (St.cut [0, 1, 2] ⟨rfl, rfl, rfl, rfl, rfl, rfl, rfl, rfl, trivial⟩ (by decide) rfl st))
              · rintro ⟨l835, V836⟩ h887
                have h888 := h858 _ h887
                try dsimp only at h888
                refine GL.weak (env' := [(7, v13), (10, v628), (34, v1), (35, .int .i64 ((x1).length : Int)), (36, .int .i64 (i613 : Int)), (40, v628), (41, .int .i64 ((y623).length : Int)), (42, .int .i64 (i799 : Int))]) (L' := [own2 22 3 TR.int v13 V836 l835, imm (TR.sl TR.int) v628 y623, imm (TR.sl (TR.sl TR.int)) v1 x1]) (fun _ _ st => st) ?_
                refine GL.nilB ?_
                refine GL.region ?_
                refine RL.binI (v := .int .i64 ((i799 + 1 : Nat) : Int)) rfl rfl rfl rfl (binI_succ i799 (by omega)) ?_
                refine RL.mv rfl rfl rfl ?_
                refine RL.fin ?_
                cases h888
                exact fun a w st => lop_intro (i799 + 1, r811, l835, V836) ⟨by show i799 + 1 + r811.length = (y623).length; simp only [List.length_cons] at h805; omega, h812, h803⟩ (by simp) (St.cut [0, 1, 2] ⟨rfl, rfl, rfl, rfl, rfl, rfl, rfl, rfl, trivial⟩ (by decide) rfl st)
            · have h808 : ¬ i799 < (y623).length := by have := of_decide_eq_false b807; omega
              obtain rfl : r800 = [] := by rw [← h806]; exact List.drop_of_length_le (by omega)
              replace h804 : some (Fl.nx _) = some y792 := h804
              cases h804
              exact GL.exit (fun a w st => mid_intro (l709, V710) h795 (St.cut [0, 2] ⟨rfl, rfl, rfl, rfl, trivial⟩ (by decide) rfl st))
          · rintro ⟨l709, V710⟩ h889
            have h890 := h796 _ h889
            try dsimp only at h890
            refine GL.weak (env' := [(7, v13), (34, v1), (35, .int .i64 ((x1).length : Int)), (36, .int .i64 (i613 : Int))]) (L' := [own2 22 3 TR.int v13 V710 l709, imm (TR.sl (TR.sl TR.int)) v1 x1]) (fun _ _ st => st) ?_
            refine GL.nilB ?_
            refine GL.region ?_
            refine RL.binI (v := .int .i64 ((i613 + 1 : Nat) : Int)) rfl rfl rfl rfl (binI_succ i613 (by omega)) ?_
            refine RL.mv rfl rfl rfl ?_
            refine RL.fin ?_
            cases h890
            exact fun a w st => lop_intro (i613 + 1, r625, l709, V710) ⟨by show i613 + 1 + r625.length = (x1).length; simp only [List.length_cons] at h619; omega, h626, h617⟩ (by simp) (St.cut [0, 1] ⟨rfl, rfl, rfl, rfl, trivial⟩ (by decide) rfl st)
        · have h622 : ¬ i613 < (x1).length := by have := of_decide_eq_false b621; omega
          obtain rfl : r614 = [] := by rw [← h620]; exact List.drop_of_length_le (by omega)
          replace h618 : some (Fl.nx _) = some y606 := h618
          cases h618
          exact GL.exit (fun a w st => mid_intro (l335, V336) h609 (St.cut [0] ⟨rfl, trivial⟩ (by decide) rfl st))
      · rintro ⟨l335, V336⟩ h891
        have h892 := h610 _ h891
        try dsimp only at h892
        refine GL.weak (env' := [(7, v13)]) (L' := [own2 22 3 TR.int v13 V336 l335]) (fun _ _ st => st) ?_
        refine GL.seq ?_
        refine GL.region ?_
        refine RL.mv rfl rfl rfl ?_
        refine RL.asg rfl rfl rfl ?_
        refine RL.asg rfl rfl rfl ?_
        refine RL.finG ?_
        refine GL.weak (fun a w st => st.freeze2 0 rfl) ?_
        have h892 := Option.some.inj h892
        subst h892
        exact GL.ret (Gx.ret (v := .tuple #[v13, .int .i64 (0 : Int)]) (res2 rfl rfl rfl) (fun a w st => (st.pick [0] (by decide) rfl).toPost v13))

set_option maxHeartbeats 4000000 in
theorem slices_Index_int_int_c (S : Hp) (w : World) (hS : S.sub w) (v0 : Value) (x0 : (List Int)) (k0 : ((TR.sl TR.int)).vrep S v0 x0) (x1 : Int) (res : Int) (hm : slices_Index_int_int_m x0 x1 = some res) : Calls Try.prog 61 #[v0, .int .i64 x1] w (PostC w (.int .i64 res)) := by
  refine calls_enter 19 Try.func61 Try.ntmps61 rfl S true [(0, v0), (1, .int .i64 x1)] [imm (TR.sl TR.int) v0 x0] rfl ⟨rfl, ⟨rfl, trivial⟩⟩ hS ⟨k0, trivial⟩ ?_
  unfold slices_Index_int_int_m at hm
  refine GL.seq ?_
  refine GL.region ?_
  refine RL.asg rfl rfl rfl ?_
  refine RL.finG ?_
  refine GL.seq ?_
  refine GL.seq ?_
  refine GL.region ?_
  refine RL.mv rfl rfl rfl ?_
  refine RL.lenS 0 Try.underlying22 rfl rfl rfl rfl SlOf.imm ?_
  refine RL.mv rfl rfl rfl ?_
  refine RL.finG ?_
  refine GL.open_ 0 rfl (fun S h => len_imm S h) (fun n8 => ?_)
  obtain ⟨y9, K10, h11, h12, h13, h14, h15⟩ := bindR_K hm
  refine GL.join (ι := Unit) (fun (p : Unit) => []) (fun (p : Unit) => []) (fun (p : Unit) => K10 (.nx ())) ?_ ?_
  · refine GL.block ?_
    refine GL.loop (ι := Nat × (List Int)) (fun (p : Nat × (List Int)) => [(0, v0), (1, .int .i64 x1), (7, .int .i64 ((x0).length : Int)), (8, .int .i64 (p.1 : Int))]) (fun (p : Nat × (List Int)) => [imm (TR.sl TR.int) v0 x0]) (fun (p : Nat × (List Int)) => p.1 + p.2.length = (x0).length ∧ List.drop p.1 x0 = p.2 ∧ rangeL (slices_Index_int_int_b1 x1) p.2 p.1 () = some y9) (fun (p : Nat × (List Int)) => p.2.length) (0, x0) ⟨by simp, by simp, h11⟩ (fun a w st => St.cut [0] ⟨rfl, rfl, rfl, rfl, trivial⟩ (by decide) rfl st) ?_
    rintro ⟨i16, r17⟩ ⟨h22, h23, h21⟩
    try dsimp only at h22 h23 h21
    refine GL.weak (env' := [(0, v0), (1, .int .i64 x1), (7, .int .i64 ((x0).length : Int)), (8, .int .i64 (i16 : Int))]) (L' := [imm (TR.sl TR.int) v0 x0]) (fun _ _ st => st) ?_
    refine GL.seq ?_
    refine GL.region ?_
    refine RL.binI (v := .bool (decide ((i16 : Int) < ((x0).length : Int)))) rfl rfl rfl rfl rfl ?_
    refine RL.finG ?_
    refine GL.seq ?_
    refine GL.cond rfl (fun b24 => ?_) (fun b24 => ?_)
    · have h25 : i16 < (x0).length := by have := of_decide_eq_true b24; omega
      obtain ⟨y26, r28, hr, e27, h29⟩ := drop_cons h23 rfl h25
      subst hr
      obtain ⟨z18, h19, h20⟩ := rangeL_some h21
      unfold slices_Index_int_int_b1 at h19
      try dsimp only at h19
      refine GL.skip ?_
      refine GL.seq ?_
      refine GL.block ?_
      refine GL.seq ?_
      refine GL.region ?_
      refine RL.mv rfl rfl rfl ?_
      refine RL.asg rfl rfl rfl ?_
      refine RL.finG ?_
      refine GL.seq ?_
      refine GL.region ?_
      refine RL.mv rfl rfl rfl ?_
      refine RL.mv rfl rfl rfl ?_
      refine RL.mv rfl rfl rfl ?_
      refine RL.idxS (sz := 1) 0 Try.underlying22 Try_ln3 rfl rfl rfl rfl rfl SlOf.imm (by omega) (by omega) ?_
      refine RL.ldSx (i := i16) (e' := y26) 0 Ex.ik Try_ln3 rfl rfl rfl rfl SlOf.imm e27 Part.self ?_
      refine RL.binI (v := .bool (x1 == y26)) rfl rfl rfl rfl rfl ?_
      refine RL.finG ?_
      refine GL.cond rfl (fun b30 => ?_) (fun b30 => ?_)
      · replace h19 := ite_t b30 h19
        refine GL.seq ?_
        refine GL.region ?_
        refine RL.mv rfl rfl rfl ?_
        refine RL.asg rfl rfl rfl ?_
        refine RL.finG ?_
        cases h19
        replace h20 : some (Fl.rt _) = some y9 := h20
        cases h20
        have hh := h14 _ h12
        subst hh
        exact GL.ret (Gx.ret (v := .int .i64 (i16 : Int)) (res1 rfl rfl) (fun a w st => st.toPostC rfl))
      · replace h19 := ite_f b30 h19
        refine GL.skip ?_
        refine GL.nilB ?_
        refine GL.region ?_
        refine RL.binI (v := .int .i64 ((i16 + 1 : Nat) : Int)) rfl rfl rfl rfl (binI_succ i16 (by omega)) ?_
        refine RL.mv rfl rfl rfl ?_
        refine RL.fin ?_
        cases h19
        exact fun a w st => lop_intro (i16 + 1, r28) ⟨by show i16 + 1 + r28.length = (x0).length; simp only [List.length_cons] at h22; omega, h29, h20⟩ (by simp) (St.cut [0] ⟨rfl, rfl, rfl, rfl, trivial⟩ (by decide) rfl st)
    · have h25 : ¬ i16 < (x0).length := by have := of_decide_eq_false b24; omega
      obtain rfl : r17 = [] := by rw [← h23]; exact List.drop_of_length_le (by omega)
      replace h21 : some (Fl.nx _) = some y9 := h21
      cases h21
      exact GL.exit (fun a w st => mid_intro () h12 (St.cut [] trivial (by decide) rfl st))
  · rintro ⟨⟩ h31
    have h32 := h13 _ h31
    try dsimp only at h32
    refine GL.weak (env' := []) (L' := []) (fun _ _ st => st) ?_
    refine GL.seq ?_
    refine GL.region ?_
    refine RL.asg rfl rfl rfl ?_
    refine RL.finG ?_
    have h32 := Option.some.inj h32
    subst h32
    exact GL.ret (Gx.ret (v := .int .i64 (-1 : Int)) (res1 rfl rfl) (fun a w st => st.toPostC rfl))

set_option maxHeartbeats 4000000 in
theorem slices_Contains_int_int_c (S : Hp) (w : World) (hS : S.sub w) (v0 : Value) (x0 : (List Int)) (k0 : ((TR.sl TR.int)).vrep S v0 x0) (x1 : Int) (res : Bool) (hm : slices_Contains_int_int_m x0 x1 = some res) : Calls Try.prog 39 #[v0, .int .i64 x1] w (PostC w (.bool res)) := by
  refine calls_enter 9 Try.func39 Try.ntmps39 rfl S true [(0, v0), (1, .int .i64 x1)] [imm (TR.sl TR.int) v0 x0] rfl ⟨rfl, ⟨rfl, trivial⟩⟩ hS ⟨k0, trivial⟩ ?_
  unfold slices_Contains_int_int_m at hm
  refine GL.seq ?_
  refine GL.region ?_
  refine RL.asg rfl rfl rfl ?_
  refine RL.finG ?_
  refine GL.seq ?_
  refine GL.region ?_
  refine RL.mv rfl rfl rfl ?_
  refine RL.mv rfl rfl rfl ?_
  obtain ⟨y5, e6, hm⟩ := bind_some hm
  refine RL.callC (v := .int .i64 y5) (vs := [v0, .int .i64 x1]) Try_fit61 rfl rfl rfl rfl (fun U w hU hW hL => slices_Index_int_int_c U w hU _ _ (hL 0 _ _ rfl Seen.imm) x1 _ e6) ?_
  refine RL.binI (v := .bool (decide (y5 ≥ (0 : Int)))) rfl rfl rfl rfl rfl ?_
  refine RL.asg rfl rfl rfl ?_
  refine RL.finG ?_
  have hm := Option.some.inj hm
  subst hm
  exact GL.ret (Gx.ret (v := .bool (decide (y5 ≥ (0 : Int)))) (res1 rfl rfl) (fun a w st => st.toPostC rfl))

set_option maxHeartbeats 4000000 in
theorem slices_Clone_int_int_c (S : Hp) (w : World) (hS : S.sub w) (v0 : Value) (x0 : List Int) (k0 : (TR.sl TR.int).vrep S v0 x0) (res : List Int) (hm : slices_Clone_int_int_m x0 = some res) : Calls Try.prog 18 #[v0] w (Post w S (fun (o : Value) => o) (fun (o : Value) => [own 3 TR.int o res])) := by
  refine calls_enter 8 Try.func18 Try.ntmps18 rfl S false [(0, v0)] [imm (TR.sl TR.int) v0 x0] rfl ⟨rfl, trivial⟩ hS ⟨k0, trivial⟩ ?_
  unfold slices_Clone_int_int_m at hm
  obtain ⟨_, hc, hm⟩ := bind_some hm
  replace hc := chk_some hc
  have hm := Option.some.inj hm
  subst hm
  refine GL.seq (GL.region (RL.asg rfl rfl rfl (RL.finG (GL.seq (GL.seq (GL.region ?_))))))
  refine RL.mv rfl rfl rfl ?_
  refine RL.eqNil 0 Try.underlying22 rfl rfl rfl rfl rfl SlOf.imm (fun b hb => ?_)
  refine RL.finG (GL.cond rfl (fun h => ?_) (fun h => ?_))
  · have := hb h
    subst this
    refine GL.seq (GL.region (RL.asg rfl rfl rfl (RL.finG ?_)))
    refine GL.weak (fun a w st => st.nilOwn 3 TR.int) ?_
    exact GL.ret (Gx.ret (v := Value.slice none 0 0) (res1 rfl rfl) (fun a w st => (st.pick [1] (by decide) rfl).toPost (Value.slice none 0 0)))
  · refine GL.skip (GL.seq (GL.region ?_))
    refine RL.bS (t := TR.int) (vs := []) ([] : List Int) Try.underlying22 Try_lo3 rfl rfl rfl rfl trivial rfl (by decide) ?_
    intro v1
    refine RL.mv rfl rfl rfl ?_
    refine RL.app 1 0 Try.underlying22 Try_lo3 rfl rfl rfl rfl rfl rfl rfl SlOf.imm (by simpa using hc) ?_
    intro v2
    refine RL.asg rfl rfl rfl (RL.finG ?_)
    exact GL.ret (Gx.ret (v := v2) (res1 rfl rfl) (fun a w st => (st.pick [1] (by decide) rfl).toPost v2))

set_option maxHeartbeats 4000000 in
theorem order_All_c (S : Hp) (w : World) (hS : S.sub w) (x0 : Int) (res : (List (List Int)) × Int) (hm : order_All_m x0 = some res) : Calls Try.prog 20 #[.int .i64 x0] w (Post w S (fun (o : Value) => .tuple #[o, .int .i64 res.2]) (fun (o : Value) => [own 22 (TR.sl TR.int) o res.1])) := by
  refine calls_enter 46 Try.func20 Try.ntmps20 rfl S false [(0, .int .i64 x0)] [] rfl ⟨rfl, trivial⟩ hS trivial ?_
  unfold order_All_m at hm
  refine GL.seq ?_
  refine GL.region ?_
  refine RL.asg rfl rfl rfl ?_
  refine RL.asg rfl rfl rfl ?_
  refine RL.finG ?_
  refine GL.seq ?_
  refine GL.seq ?_
  obtain ⟨y5, K6, h7, h8, h9, h10, h11⟩ := bindR_K hm
  refine GL.join (ι := Bool) (fun (p : Bool) => [(0, .int .i64 x0), (14, .bool p)]) (fun (p : Bool) => []) (fun (p : Bool) => K6 (.nx p)) ?_ ?_
  · skip
    refine GL.region ?_
    refine RL.mv rfl rfl rfl ?_
    refine RL.binI (v := .bool (decide (x0 < (1 : Int)))) rfl rfl rfl rfl rfl ?_
    refine RL.mv rfl rfl rfl ?_
    refine RL.split (t := 11) rfl (fun b12 => ?_) (fun b12 => ?_)
    · replace h7 := ite_t b12 h7
      refine RL.skip rfl rfl ?_
      refine RL.skip rfl rfl ?_
      refine RL.pickT rfl rfl rfl rfl ?_
      refine RL.fin ?_
      cases h7
      exact fun a w st => mid_intro true h8 (St.cut [] ⟨rfl, rfl, trivial⟩ (by decide) rfl st)
    · replace h7 := ite_f b12 h7
      refine RL.mv rfl rfl rfl ?_
      refine RL.binI (v := .bool (decide (x0 > (6 : Int)))) rfl rfl rfl rfl rfl ?_
      refine RL.pickF rfl rfl rfl rfl ?_
      refine RL.fin ?_
      cases h7
      exact fun a w st => mid_intro (decide (x0 > (6 : Int))) h8 (St.cut [] ⟨rfl, rfl, trivial⟩ (by decide) rfl st)
  · rintro x4 h13
    have h14 := h9 _ h13
    try dsimp only at h14
    refine GL.weak (env' := [(0, .int .i64 x0), (14, .bool x4)]) (L' := []) (fun _ _ st => st) ?_
    refine GL.cond rfl (fun b15 => ?_) (fun b15 => ?_)
    · replace h14 := ite_t b15 h14
      refine GL.seq ?_
      refine GL.region ?_
      refine RL.asg rfl rfl rfl ?_
      refine RL.asg rfl rfl rfl ?_
      refine RL.finG ?_
      refine GL.weak (fun a w st => st.nilOwn 22 (TR.sl TR.int)) ?_
      have h14 := Option.some.inj h14
      subst h14
      exact GL.ret (Gx.ret (v := .tuple #[Value.slice none 0 0, .int .i64 (1 : Int)]) (res2 rfl rfl rfl) (fun a w st => (st.pick [0] (by decide) rfl).toPost (Value.slice none 0 0)))
    · replace h14 := ite_f b15 h14
      refine GL.skip ?_
      refine GL.seq ?_
      refine GL.region ?_
      refine RL.bS (t := (TR.sl TR.int)) (vs := [Value.slice none 0 0]) ([[]] : (List (List Int))) Try.underlying28 Try_lo22 rfl rfl rfl rfl ⟨VR.nil, trivial⟩ rfl (by decide) ?_
      intro v17
      refine RL.asg rfl rfl rfl ?_
      refine RL.finG ?_
      refine GL.seq ?_
      refine GL.seq ?_
      refine GL.region ?_
      refine RL.mv rfl rfl rfl ?_
      refine RL.mv rfl rfl rfl ?_
      refine RL.finG ?_
      obtain ⟨y214, e215, h14⟩ := bind_some h14
      replace e215 := chk_some e215
      obtain ⟨y216, K217, h218, h219, h220, h221, h222⟩ := bindR_K h14
      refine GL.join (ι := (List (List Int)) × Value) (fun (p : (List (List Int)) × Value) => [(4, p.2)]) (fun (p : (List (List Int)) × Value) => [own 22 (TR.sl TR.int) p.2 p.1]) (fun (p : (List (List Int)) × Value) => K217 (.nx p.1)) ?_ ?_
      · refine GL.block ?_
        refine GL.loop (ι := Nat × Nat × (List (List Int)) × Value) (fun (p : Nat × Nat × (List (List Int)) × Value) => [(0, .int .i64 x0), (4, p.2.2.2), (16, .int .i64 x0), (17, .int .i64 (p.1 : Int))]) (fun (p : Nat × Nat × (List (List Int)) × Value) => [own 22 (TR.sl TR.int) p.2.2.2 p.2.2.1]) (fun (p : Nat × Nat × (List (List Int)) × Value) => p.1 + p.2.1 = (x0).toNat ∧ rangeN (order_All_b1 x0) p.2.1 p.1 p.2.2.1 = some y216) (fun (p : Nat × Nat × (List (List Int)) × Value) => p.2.1) (0, (x0).toNat, ([[]] : (List (List Int))), v17) ⟨by simp, h218⟩ (fun a w st => St.cut [0] ⟨rfl, rfl, rfl, rfl, trivial⟩ (by decide) rfl st) ?_
        rintro ⟨i223, r224, l18, v19⟩ ⟨h229, h228⟩
        try dsimp only at h229 h228
        refine GL.weak (env' := [(0, .int .i64 x0), (4, v19), (16, .int .i64 x0), (17, .int .i64 (i223 : Int))]) (L' := [own 22 (TR.sl TR.int) v19 l18]) (fun _ _ st => st) ?_
        refine GL.seq ?_
        refine GL.region ?_
        refine RL.binI (v := .bool (decide ((i223 : Int) < x0))) rfl rfl rfl rfl rfl ?_
        refine RL.finG ?_
        refine GL.seq ?_
        refine GL.cond rfl (fun b231 => ?_) (fun b231 => ?_)
        · have h232 : i223 < (x0).toNat := by have := of_decide_eq_true b231; omega
          obtain ⟨r233, hr⟩ : ∃ m, r224 = m + 1 := ⟨r224 - 1, by omega⟩
          subst hr
          obtain ⟨z225, h226, h227⟩ := rangeN_some h228
          unfold order_All_b1 at h226
          try dsimp only at h226
          refine GL.skip ?_
          refine GL.seq ?_
          refine GL.block ?_
          refine GL.seq ?_
          refine GL.region ?_
          refine RL.asg rfl rfl rfl ?_
          refine RL.finG ?_
          refine GL.seq ?_
          refine GL.seq ?_
          refine GL.region ?_
          refine RL.mv rfl rfl rfl ?_
          refine RL.lenS 0 Try.underlying28 rfl rfl rfl rfl SlOf.own ?_
          refine RL.mv rfl rfl rfl ?_
          refine RL.finG ?_
          refine GL.weak (fun a w st => st.nilOwn 22 (TR.sl TR.int)) ?_
          refine GL.lenOwn 0 rfl (fun n321 => ?_)
          obtain ⟨y322, K323, h324, h325, h326, h327, h328⟩ := bindF_K h226
          refine GL.join (ι := (List (List Int)) × Value) (fun (p : (List (List Int)) × Value) => [(0, .int .i64 x0), (5, p.2), (16, .int .i64 x0), (17, .int .i64 (i223 : Int))]) (fun (p : (List (List Int)) × Value) => [own 22 (TR.sl TR.int) p.2 p.1]) (fun (p : (List (List Int)) × Value) => K323 (.nx p.1)) ?_ ?_
          · refine GL.block ?_
            refine GL.loop (ι := Nat × Nat × (List (List Int)) × Value) (fun (p : Nat × Nat × (List (List Int)) × Value) => [(0, .int .i64 x0), (5, p.2.2.2), (16, .int .i64 x0), (17, .int .i64 (i223 : Int)), (19, v19), (20, .int .i64 ((l18).length : Int)), (21, .int .i64 (p.1 : Int))]) (fun (p : Nat × Nat × (List (List Int)) × Value) => [own 22 (TR.sl TR.int) p.2.2.2 p.2.2.1, own 22 (TR.sl TR.int) v19 l18]) (fun (p : Nat × Nat × (List (List Int)) × Value) => p.1 + p.2.1 = (l18).length ∧ rangeN (order_All_b2 l18 x0) p.2.1 p.1 p.2.2.1 = some y322) (fun (p : Nat × Nat × (List (List Int)) × Value) => p.2.1) (0, (l18).length, [], Value.slice none 0 0) ⟨by simp, h324⟩ (fun a w st => St.cut [1, 0] ⟨rfl, rfl, rfl, rfl, rfl, rfl, rfl, trivial⟩ (by decide) rfl st) ?_
            rintro ⟨i329, r330, l234, v235⟩ ⟨h335, h334⟩
            try dsimp only at h335 h334
            refine GL.weak (env' := [(0, .int .i64 x0), (5, v235), (16, .int .i64 x0), (17, .int .i64 (i223 : Int)), (19, v19), (20, .int .i64 ((l18).length : Int)), (21, .int .i64 (i329 : Int))]) (L' := [own 22 (TR.sl TR.int) v235 l234, own 22 (TR.sl TR.int) v19 l18]) (fun _ _ st => st) ?_
            refine GL.seq ?_
            refine GL.region ?_
            refine RL.binI (v := .bool (decide ((i329 : Int) < ((l18).length : Int)))) rfl rfl rfl rfl rfl ?_
            refine RL.finG ?_
            refine GL.seq ?_
            refine GL.cond rfl (fun b337 => ?_) (fun b337 => ?_)
            · have h338 : i329 < (l18).length := by have := of_decide_eq_true b337; omega
              obtain ⟨r339, hr⟩ : ∃ m, r330 = m + 1 := ⟨r330 - 1, by omega⟩
              subst hr
              obtain ⟨z331, h332, h333⟩ := rangeN_some h334
              unfold order_All_b2 at h332
              try dsimp only at h332
              refine GL.skip ?_
              refine GL.seq ?_
              refine GL.block ?_
              refine GL.seq ?_
              refine GL.region ?_
              obtain ⟨y343, e344, h332⟩ := bind_some h332
              refine RL.idxS (sz := 1) 1 Try.underlying28 Try_ln22 rfl rfl rfl rfl rfl SlOf.own (idx_some e344).1 (idx_some e344).2.1 ?_
              refine RL.ldS (i := i329) (r := (TR.sl TR.int)) (e' := y343) 1 Try_ln22 rfl rfl rfl rfl SlOf.own (idx_some e344).2.2 Part.self ?_
              intro v345
              refine RL.asg rfl rfl rfl ?_
              refine RL.finG ?_
              refine GL.seq ?_
              refine GL.region ?_
              refine RL.mv rfl rfl rfl ?_
              refine RL.mv rfl rfl rfl ?_
              refine RL.finG ?_
              obtain ⟨y376, e377, h332⟩ := bind_some h332
              replace e377 := chk_some e377
              obtain ⟨y378, K379, h380, h381, h382, h383, h384⟩ := bindF_K h332
              refine GL.join (ι := (List (List Int)) × Value) (fun (p : (List (List Int)) × Value) => [(0, .int .i64 x0), (5, p.2), (16, .int .i64 x0), (17, .int .i64 (i223 : Int)), (19, v19), (20, .int .i64 ((l18).length : Int)), (21, .int .i64 (i329 : Int))]) (fun (p : (List (List Int)) × Value) => [own 22 (TR.sl TR.int) p.2 p.1, own 22 (TR.sl TR.int) v19 l18]) (fun (p : (List (List Int)) × Value) => K379 (.nx p.1)) ?_ ?_
              · refine GL.block ?_
                refine GL.loop (ι := Nat × Nat × (List (List Int)) × Value) (fun (p : Nat × Nat × (List (List Int)) × Value) => [(0, .int .i64 x0), (5, p.2.2.2), (7, v345), (16, .int .i64 x0), (17, .int .i64 (i223 : Int)), (19, v19), (20, .int .i64 ((l18).length : Int)), (21, .int .i64 (i329 : Int)), (25, .int .i64 x0), (26, .int .i64 (p.1 : Int))]) (fun (p : Nat × Nat × (List (List Int)) × Value) => [own 22 (TR.sl TR.int) p.2.2.2 p.2.2.1, imm (TR.sl TR.int) v345 y343, own 22 (TR.sl TR.int) v19 l18]) (fun (p : Nat × Nat × (List (List Int)) × Value) => p.1 + p.2.1 = (x0).toNat ∧ rangeN (order_All_b3 y343) p.2.1 p.1 p.2.2.1 = some y378) (fun (p : Nat × Nat × (List (List Int)) × Value) => p.2.1) (0, (x0).toNat, l234, v235) ⟨by simp, h380⟩ (fun a w st => St.cut [0, 2, 1] ⟨rfl, rfl, rfl, rfl, rfl, rfl, rfl, rfl, rfl, rfl, trivial⟩ (by decide) rfl st) ?_
                rintro ⟨i385, r386, l346, v347⟩ ⟨h391, h390⟩
                try dsimp only at h391 h390
                refine GL.weak (env' := [(0, .int .i64 x0), (5, v347), (7, v345), (16, .int .i64 x0), (17, .int .i64 (i223 : Int)), (19, v19), (20, .int .i64 ((l18).length : Int)), (21, .int .i64 (i329 : Int)), (25, .int .i64 x0), (26, .int .i64 (i385 : Int))]) (L' := [own 22 (TR.sl TR.int) v347 l346, imm (TR.sl TR.int) v345 y343, own 22 (TR.sl TR.int) v19 l18]) (fun _ _ st => st) ?_
                refine GL.seq ?_
                refine GL.region ?_
                refine RL.binI (v := .bool (decide ((i385 : Int) < x0))) rfl rfl rfl rfl rfl ?_
                refine RL.finG ?_
                refine GL.seq ?_
                refine GL.cond rfl (fun b393 => ?_) (fun b393 => ?_)
                · have h394 : i385 < (x0).toNat := by have := of_decide_eq_true b393; omega
                  obtain ⟨r395, hr⟩ : ∃ m, r386 = m + 1 := ⟨r386 - 1, by omega⟩
                  subst hr
                  obtain ⟨z387, h388, h389⟩ := rangeN_some h390
                  unfold order_All_b3 at h388
                  try dsimp only at h388
                  refine GL.skip ?_
                  refine GL.seq ?_
                  refine GL.block ?_
                  refine GL.seq ?_
                  refine GL.region ?_
                  refine RL.mv rfl rfl rfl ?_
                  refine RL.asg rfl rfl rfl ?_
                  refine RL.finG ?_
                  refine GL.seq ?_
                  refine GL.region ?_
                  refine RL.mv rfl rfl rfl ?_
                  refine RL.mv rfl rfl rfl ?_
                  obtain ⟨y398, e399, h388⟩ := bind_some h388
                  refine RL.callC (v := .bool y398) (vs := [v345, .int .i64 (i385 : Int)]) Try_fit39 rfl rfl rfl rfl (fun U w hU hW hL => slices_Contains_int_int_c U w hU _ _ (hL 1 _ _ rfl Seen.imm) (i385 : Int) _ e399) ?_
                  refine RL.notB rfl rfl rfl ?_
                  refine RL.finG ?_
                  refine GL.cond rfl (fun b400 => ?_) (fun b400 => ?_)
                  · replace h388 := ite_t b400 h388
                    refine GL.region ?_
                    refine RL.mv rfl rfl rfl ?_
                    refine RL.mv rfl rfl rfl ?_
                    obtain ⟨y412, e413, h388⟩ := bind_some h388
                    refine RL.call (vs := [v345]) Try_fit18 rfl rfl rfl rfl rfl (fun S f w hS hW hi => slices_Clone_int_int_c S w hS _ _ (hi 1 _ rfl) _ e413) ?_
                    intro v414
                    refine RL.mv rfl rfl rfl ?_
                    refine RL.bS (t := TR.int) (vs := [.int .i64 (i385 : Int)]) ([(i385 : Int)] : (List Int)) Try.underlying22 Try_lo3 rfl rfl rfl rfl ⟨VR.int, trivial⟩ rfl (by decide) ?_
                    intro v415
                    refine RL.reL (L' := [own 22 (TR.sl TR.int) v347 l346, imm (TR.sl TR.int) v345 y343, own 22 (TR.sl TR.int) v19 l18, own 3 TR.int v414 y412, own 3 TR.int v415 ([(i385 : Int)] : (List Int))]) rfl ?_
                    obtain ⟨y416, e417, h388⟩ := bind_some h388
                    replace e417 := chk_some e417
                    refine RL.app 3 4 Try.underlying22 Try_lo3 rfl rfl rfl rfl rfl rfl rfl SlOf.own e417 ?_
                    intro v418
                    refine RL.weak (fun a w st => st.freeze 3 rfl) ?_
                    refine RL.bS (t := (TR.sl TR.int)) (vs := [v418]) ([(y412 ++ ([(i385 : Int)] : (List Int)))] : (List (List Int))) Try.underlying28 Try_lo22 rfl rfl rfl rfl ⟨(VR.item 3 rfl), trivial⟩ rfl (by decide) ?_
                    intro v419
                    refine RL.reL (L' := [own 22 (TR.sl TR.int) v347 l346, imm (TR.sl TR.int) v345 y343, own 22 (TR.sl TR.int) v19 l18, imm (TR.sl TR.int) v418 (y412 ++ ([(i385 : Int)] : (List Int))), own 3 TR.int v415 ([(i385 : Int)] : (List Int)), own 22 (TR.sl TR.int) v419 ([(y412 ++ ([(i385 : Int)] : (List Int)))] : (List (List Int)))]) rfl ?_
                    obtain ⟨y420, e421, h388⟩ := bind_some h388
                    replace e421 := chk_some e421
                    refine RL.app 0 5 Try.underlying28 Try_lo22 rfl rfl rfl rfl rfl rfl rfl SlOf.own e421 ?_
                    intro v422
                    refine RL.asg rfl rfl rfl ?_
                    refine RL.finG ?_
                    refine GL.nilB ?_
                    refine GL.region ?_
                    refine RL.binI (v := .int .i64 ((i385 + 1 : Nat) : Int)) rfl rfl rfl rfl (binI_succ i385 (by omega)) ?_
                    refine RL.mv rfl rfl rfl ?_
                    refine RL.fin ?_
                    cases h388
                    exact fun a w st => lop_intro (i385 + 1, r395, (l346 ++ ([(y412 ++ ([(i385 : Int)] : (List Int)))] : (List (List Int)))), v422) ⟨by show i385 + 1 + r395 = (x0).toNat; omega, h389⟩ (by simp) (St.cut [0, 1, 2] ⟨rfl, rfl, rfl, rfl, rfl, rfl, rfl, rfl, rfl, rfl, trivial⟩ (by decide) rfl st)
                  · replace h388 := ite_f b400 h388
                    refine GL.skip ?_
                    refine GL.nilB ?_
                    refine GL.region ?_
                    refine RL.binI (v := .int .i64 ((i385 + 1 : Nat) : Int)) rfl rfl rfl rfl (binI_succ i385 (by omega)) ?_
                    refine RL.mv rfl rfl rfl ?_
                    refine RL.fin ?_
                    cases h388
                    exact fun a w st => lop_intro (i385 + 1, r395, l346, v347) ⟨by show i385 + 1 + r395 = (x0).toNat; omega, h389⟩ (by simp) (St.cut [0, 1, 2] ⟨rfl, rfl, rfl, rfl, rfl, rfl, rfl, rfl, rfl, rfl, trivial⟩ (by decide) rfl st)
                · have h394 : ¬ i385 < (x0).toNat := by have := of_decide_eq_false b393; omega
                  obtain rfl : r386 = 0 := by omega
                  replace h390 : some (Fl.nx _) = some y378 := h390
                  cases h390
                  exact GL.exit (fun a w st => mid_intro (l346, v347) h381 (St.cut [0, 2] ⟨rfl, rfl, rfl, rfl, rfl, rfl, rfl, trivial⟩ (by decide) rfl st))
              · rintro ⟨l346, v347⟩ h423
                have h424 := h382 _ h423
                try dsimp only at h424
                refine GL.weak (env' := [(0, .int .i64 x0), (5, v347), (16, .int .i64 x0), (17, .int .i64 (i223 : Int)), (19, v19), (20, .int .i64 ((l18).length : Int)), (21, .int .i64 (i329 : Int))]) (L' := [own 22 (TR.sl TR.int) v347 l346, own 22 (TR.sl TR.int) v19 l18]) (fun _ _ st => st) ?_
                refine GL.nilB ?_
                refine GL.region ?_
                refine RL.binI (v := .int .i64 ((i329 + 1 : Nat) : Int)) rfl rfl rfl rfl (binI_succ i329 (by omega)) ?_
                refine RL.mv rfl rfl rfl ?_
                refine RL.fin ?_
                cases h424
                exact fun a w st => lop_intro (i329 + 1, r339, l346, v347) ⟨by show i329 + 1 + r339 = (l18).length; omega, h333⟩ (by simp) (St.cut [0, 1] ⟨rfl, rfl, rfl, rfl, rfl, rfl, rfl, trivial⟩ (by decide) rfl st)
            · have h338 : ¬ i329 < (l18).length := by have := of_decide_eq_false b337; omega
              obtain rfl : r330 = 0 := by omega
              replace h334 : some (Fl.nx _) = some y322 := h334
              cases h334
              exact GL.exit (fun a w st => mid_intro (l234, v235) h325 (St.cut [0] ⟨rfl, rfl, rfl, rfl, trivial⟩ (by decide) rfl st))
          · rintro ⟨l234, v235⟩ h425
            have h426 := h326 _ h425
            try dsimp only at h426
            refine GL.weak (env' := [(0, .int .i64 x0), (5, v235), (16, .int .i64 x0), (17, .int .i64 (i223 : Int))]) (L' := [own 22 (TR.sl TR.int) v235 l234]) (fun _ _ st => st) ?_
            refine GL.region ?_
            refine RL.mv rfl rfl rfl ?_
            refine RL.asg rfl rfl rfl ?_
            refine RL.finG ?_
            refine GL.nilB ?_
            refine GL.region ?_
            refine RL.binI (v := .int .i64 ((i223 + 1 : Nat) : Int)) rfl rfl rfl rfl (binI_succ i223 (by omega)) ?_
            refine RL.mv rfl rfl rfl ?_
            refine RL.fin ?_
            cases h426
            exact fun a w st => lop_intro (i223 + 1, r233, l234, v235) ⟨by show i223 + 1 + r233 = (x0).toNat; omega, h227⟩ (by simp) (St.cut [0] ⟨rfl, rfl, rfl, rfl, trivial⟩ (by decide) rfl st)
        · have h232 : ¬ i223 < (x0).toNat := by have := of_decide_eq_false b231; omega
          obtain rfl : r224 = 0 := by omega
          replace h228 : some (Fl.nx _) = some y216 := h228
          cases h228
          exact GL.exit (fun a w st => mid_intro (l18, v19) h219 (St.cut [0] ⟨rfl, trivial⟩ (by decide) rfl st))
      · rintro ⟨l18, v19⟩ h427
        have h428 := h220 _ h427
        try dsimp only at h428
        refine GL.weak (env' := [(4, v19)]) (L' := [own 22 (TR.sl TR.int) v19 l18]) (fun _ _ st => st) ?_
        refine GL.seq ?_
        refine GL.region ?_
        refine RL.mv rfl rfl rfl ?_
        refine RL.asg rfl rfl rfl ?_
        refine RL.asg rfl rfl rfl ?_
        refine RL.finG ?_
        have h428 := Option.some.inj h428
        subst h428
        exact GL.ret (Gx.ret (v := .tuple #[v19, .int .i64 (0 : Int)]) (res2 rfl rfl rfl) (fun a w st => (st.pick [0] (by decide) rfl).toPost v19))

set_option maxHeartbeats 4000000 in
theorem middle_Best_c (S : Hp) (w : World) (hS : S.sub w) (x0 : Int) (v1 : Value) (x1 : (List (List Int))) (k1 : ((TR.sl (TR.sl TR.int))).vrep S v1 x1) (res : (List Int) × Int × Int) (hm : middle_Best_m x0 x1 = some res) : Calls Try.prog 30 #[.int .i64 x0, v1] w (Post w S (fun (o : Value) => .tuple #[o, .int .i64 res.2.1, .int .i64 res.2.2]) (fun (o : Value) => [imm (TR.sl TR.int) o res.1])) := by
  refine calls_enter 79 Try.func30 Try.ntmps30 rfl S false [(0, .int .i64 x0), (1, v1)] [imm (TR.sl (TR.sl TR.int)) v1 x1] rfl ⟨rfl, ⟨rfl, trivial⟩⟩ hS ⟨k1, trivial⟩ ?_
  unfold middle_Best_m at hm
  refine GL.seq ?_
  refine GL.region ?_
  refine RL.asg rfl rfl rfl ?_
  refine RL.asg rfl rfl rfl ?_
  refine RL.asg rfl rfl rfl ?_
  refine RL.finG ?_
  refine GL.seq ?_
  refine GL.region ?_
  refine RL.mv rfl rfl rfl ?_
  refine RL.mv rfl rfl rfl ?_
  obtain ⟨y6, e7, hm⟩ := bind_some hm
  refine RL.call (vs := [.int .i64 x0, v1]) Try_fit26 rfl rfl rfl rfl rfl (fun S f w hS hW hi => tally_Duels_c S w hS x0 _ _ (hi 0 _ rfl) _ e7) ?_
  intro v8
  refine RL.mv rfl rfl rfl ?_
  refine RL.ext rfl rfl rfl rfl ?_
  refine RL.ext rfl rfl rfl rfl ?_
  refine RL.asg rfl rfl rfl ?_
  refine RL.asg rfl rfl rfl ?_
  refine RL.finG ?_
  refine GL.seq ?_
  refine GL.seq ?_
  refine GL.region ?_
  refine RL.mv rfl rfl rfl ?_
  refine RL.binI (v := .bool (y6.2 != (0 : Int))) rfl rfl rfl rfl rfl ?_
  refine RL.finG ?_
  refine GL.cond rfl (fun b9 => ?_) (fun b9 => ?_)
  · replace hm := ite_t b9 hm
    refine GL.seq ?_
    refine GL.region ?_
    refine RL.mv rfl rfl rfl ?_
    refine RL.asg rfl rfl rfl ?_
    refine RL.asg rfl rfl rfl ?_
    refine RL.asg rfl rfl rfl ?_
    refine RL.finG ?_
    refine GL.weak (fun a w st => st.nilImm TR.int) ?_
    have hm := Option.some.inj hm
    subst hm
    exact GL.ret (Gx.ret (v := .tuple #[Value.slice none 0 0, .int .i64 (0 : Int), .int .i64 y6.2]) (res3 rfl rfl rfl rfl) (fun a w st => (st.pick [2] (by decide) rfl).toPost (Value.slice none 0 0)))
  · replace hm := ite_f b9 hm
    refine GL.skip ?_
    refine GL.seq ?_
    refine GL.region ?_
    refine RL.mv rfl rfl rfl ?_
    obtain ⟨y13, e14, hm⟩ := bind_some hm
    refine RL.call (vs := [.int .i64 x0]) Try_fit20 rfl rfl rfl rfl rfl (fun S f w hS hW hi => order_All_c S w hS x0 _ e14) ?_
    intro v15
    refine RL.reL (L' := [imm (TR.sl (TR.sl TR.int)) v1 x1, imm (TR.sl (TR.sl TR.int)) v8 y6.1, own 22 (TR.sl TR.int) v15 y13.1]) rfl ?_
    refine RL.mv rfl rfl rfl ?_
    refine RL.ext rfl rfl rfl rfl ?_
    refine RL.ext rfl rfl rfl rfl ?_
    refine RL.asg rfl rfl rfl ?_
    refine RL.asg rfl rfl rfl ?_
    refine RL.finG ?_
    refine GL.seq ?_
    refine GL.region ?_
    refine RL.asg rfl rfl rfl ?_
    refine RL.finG ?_
    refine GL.seq ?_
    refine GL.region ?_
    refine RL.asg rfl rfl rfl ?_
    refine RL.finG ?_
    refine GL.seq ?_
    refine GL.seq ?_
    refine GL.region ?_
    refine RL.mv rfl rfl rfl ?_
    refine RL.lenS 2 Try.underlying28 rfl rfl rfl rfl SlOf.own ?_
    refine RL.mv rfl rfl rfl ?_
    refine RL.finG ?_
    refine GL.weak (fun a w st => st.nilOwn 3 TR.int) ?_
    refine GL.weak (fun a w st => st.freeze 3 rfl) ?_
    refine GL.lenOwn 2 rfl (fun n340 => ?_)
    obtain ⟨y341, K342, h343, h344, h345, h346, h347⟩ := bindR_K hm
    refine GL.join (ι := (List Int) × Int × Value) (fun (p : (List Int) × Int × Value) => [(11, p.2.2), (12, .int .i64 p.2.1)]) (fun (p : (List Int) × Int × Value) => [imm (TR.sl TR.int) p.2.2 p.1]) (fun (p : (List Int) × Int × Value) => K342 (.nx (p.1, p.2.1))) ?_ ?_
    · refine GL.block ?_
      refine GL.loop (ι := Nat × Nat × (List Int) × Int × Value) (fun (p : Nat × Nat × (List Int) × Int × Value) => [(7, v8), (11, p.2.2.2.2), (12, .int .i64 p.2.2.2.1), (34, v15), (35, .int .i64 ((y13.1).length : Int)), (36, .int .i64 (p.1 : Int))]) (fun (p : Nat × Nat × (List Int) × Int × Value) => [imm (TR.sl (TR.sl TR.int)) v8 y6.1, imm (TR.sl TR.int) p.2.2.2.2 p.2.2.1, own 22 (TR.sl TR.int) v15 y13.1]) (fun (p : Nat × Nat × (List Int) × Int × Value) => p.1 + p.2.1 = (y13.1).length ∧ rangeN (middle_Best_b1 y13 y6) p.2.1 p.1 (p.2.2.1, p.2.2.2.1) = some y341) (fun (p : Nat × Nat × (List Int) × Int × Value) => p.2.1) (0, (y13.1).length, [], (-1 : Int), Value.slice none 0 0) ⟨by simp, h343⟩ (fun a w st => St.cut [1, 3, 2] ⟨rfl, rfl, rfl, rfl, rfl, rfl, trivial⟩ (by decide) rfl st) ?_
      rintro ⟨i348, r349, l178, x180, v179⟩ ⟨h354, h353⟩
      try dsimp only at h354 h353
      refine GL.weak (env' := [(7, v8), (11, v179), (12, .int .i64 x180), (34, v15), (35, .int .i64 ((y13.1).length : Int)), (36, .int .i64 (i348 : Int))]) (L' := [imm (TR.sl (TR.sl TR.int)) v8 y6.1, imm (TR.sl TR.int) v179 l178, own 22 (TR.sl TR.int) v15 y13.1]) (fun _ _ st => st) ?_
      refine GL.seq ?_
      refine GL.region ?_
      refine RL.binI (v := .bool (decide ((i348 : Int) < ((y13.1).length : Int)))) rfl rfl rfl rfl rfl ?_
      refine RL.finG ?_
      refine GL.seq ?_
      refine GL.cond rfl (fun b356 => ?_) (fun b356 => ?_)
      · have h357 : i348 < (y13.1).length := by have := of_decide_eq_true b356; omega
        obtain ⟨r358, hr⟩ : ∃ m, r349 = m + 1 := ⟨r349 - 1, by omega⟩
        subst hr
        obtain ⟨z350, h351, h352⟩ := rangeN_some h353
        unfold middle_Best_b1 at h351
        try dsimp only at h351
        refine GL.skip ?_
        refine GL.seq ?_
        refine GL.block ?_
        refine GL.seq ?_
        refine GL.region ?_
        obtain ⟨y362, e363, h351⟩ := bind_some h351
        refine RL.idxS (sz := 1) 2 Try.underlying28 Try_ln22 rfl rfl rfl rfl rfl SlOf.own (idx_some e363).1 (idx_some e363).2.1 ?_
        refine RL.ldS (i := i348) (r := (TR.sl TR.int)) (e' := y362) 2 Try_ln22 rfl rfl rfl rfl SlOf.own (idx_some e363).2.2 Part.self ?_
        intro v364
        refine RL.asg rfl rfl rfl ?_
        refine RL.finG ?_
        refine GL.seq ?_
        refine GL.region ?_
        refine RL.asg rfl rfl rfl ?_
        refine RL.finG ?_
        refine GL.seq ?_
        refine GL.seq ?_
        refine GL.region ?_
        refine RL.mv rfl rfl rfl ?_
        refine RL.lenS 3 Try.underlying22 rfl rfl rfl rfl SlOf.imm ?_
        refine RL.mv rfl rfl rfl ?_
        refine RL.finG ?_
        refine GL.open_ 3 rfl (fun S h => len_imm S h) (fun n425 => ?_)
        obtain ⟨y426, K427, h428, h429, h430, h431, h432⟩ := bindF_K h351
        refine GL.join (ι := Int) (fun (p : Int) => [(7, v8), (11, v179), (12, .int .i64 x180), (14, v364), (15, .int .i64 p), (34, v15), (35, .int .i64 ((y13.1).length : Int)), (36, .int .i64 (i348 : Int))]) (fun (p : Int) => [imm (TR.sl (TR.sl TR.int)) v8 y6.1, imm (TR.sl TR.int) v179 l178, imm (TR.sl TR.int) v364 y362, own 22 (TR.sl TR.int) v15 y13.1]) (fun (p : Int) => K427 (.nx p)) ?_ ?_
        · refine GL.block ?_
          refine GL.loop (ι := Nat × (List Int) × Int) (fun (p : Nat × (List Int) × Int) => [(7, v8), (11, v179), (12, .int .i64 x180), (14, v364), (15, .int .i64 p.2.2), (34, v15), (35, .int .i64 ((y13.1).length : Int)), (36, .int .i64 (i348 : Int)), (40, v364), (41, .int .i64 ((y362).length : Int)), (42, .int .i64 (p.1 : Int))]) (fun (p : Nat × (List Int) × Int) => [imm (TR.sl (TR.sl TR.int)) v8 y6.1, imm (TR.sl TR.int) v179 l178, imm (TR.sl TR.int) v364 y362, own 22 (TR.sl TR.int) v15 y13.1]) (fun (p : Nat × (List Int) × Int) => p.1 + p.2.1.length = (y362).length ∧ List.drop p.1 y362 = p.2.1 ∧ rangeL (middle_Best_b2 y362 y6) p.2.1 p.1 p.2.2 = some y426) (fun (p : Nat × (List Int) × Int) => p.2.1.length) (0, y362, (0 : Int)) ⟨by simp, by simp, h428⟩ (fun a w st => St.cut [0, 1, 3, 2] ⟨rfl, rfl, rfl, rfl, rfl, rfl, rfl, rfl, rfl, rfl, rfl, trivial⟩ (by decide) rfl st) ?_
          rintro ⟨i433, r434, x365⟩ ⟨h439, h440, h438⟩
          try dsimp only at h439 h440 h438
          refine GL.weak (env' := [(7, v8), (11, v179), (12, .int .i64 x180), (14, v364), (15, .int .i64 x365), (34, v15), (35, .int .i64 ((y13.1).length : Int)), (36, .int .i64 (i348 : Int)), (40, v364), (41, .int .i64 ((y362).length : Int)), (42, .int .i64 (i433 : Int))]) (L' := [imm (TR.sl (TR.sl TR.int)) v8 y6.1, imm (TR.sl TR.int) v179 l178, imm (TR.sl TR.int) v364 y362, own 22 (TR.sl TR.int) v15 y13.1]) (fun _ _ st => st) ?_
          refine GL.seq ?_
          refine GL.region ?_
          refine RL.binI (v := .bool (decide ((i433 : Int) < ((y362).length : Int)))) rfl rfl rfl rfl rfl ?_
          refine RL.finG ?_
          refine GL.seq ?_
          refine GL.cond rfl (fun b441 => ?_) (fun b441 => ?_)
          · have h442 : i433 < (y362).length := by have := of_decide_eq_true b441; omega
            obtain ⟨y443, r445, hr, e444, h446⟩ := drop_cons h440 rfl h442
            subst hr
            obtain ⟨z435, h436, h437⟩ := rangeL_some h438
            unfold middle_Best_b2 at h436
            try dsimp only at h436
            refine GL.skip ?_
            refine GL.seq ?_
            refine GL.block ?_
            refine GL.seq ?_
            refine GL.region ?_
            refine RL.mv rfl rfl rfl ?_
            refine RL.idxS (sz := 1) 2 Try.underlying22 Try_ln3 rfl rfl rfl rfl rfl SlOf.imm (by omega) (by omega) ?_
            refine RL.ldSx (i := i433) (e' := y443) 2 Ex.ik Try_ln3 rfl rfl rfl rfl SlOf.imm e444 Part.self ?_
            refine RL.asg rfl rfl rfl ?_
            refine RL.asg rfl rfl rfl ?_
            refine RL.finG ?_
            refine GL.seq ?_
            refine GL.region ?_
            refine RL.mv rfl rfl rfl ?_
            refine RL.mv rfl rfl rfl ?_
            refine RL.binI (v := .int .i64 (wadd (i433 : Int) (1 : Int))) rfl rfl rfl rfl rfl ?_
            obtain ⟨y450, e451, h436⟩ := bind_some h436
            replace e451 := chk_some e451
            refine RL.slc (t := TR.int) (i := (wadd (i433 : Int) (1 : Int)).toNat) (j := (y362).length) (sz := 1) 2 Try.underlying22 Try_ln3 rfl rfl rfl rfl (Or.inr ⟨_, _, rfl, by rw [Int.toNat_of_nonneg (by omega)]; rfl⟩) (Or.inl ⟨rfl, rfl⟩) rfl (by omega) (by omega) ?_
            intro v452
            refine RL.lenS 4 Try.underlying22 rfl rfl rfl rfl SlOf.imm ?_
            refine RL.mv rfl rfl rfl ?_
            refine RL.finG ?_
            refine GL.open_ 4 rfl (fun S h => len_imm S h) (fun n468 => ?_)
            obtain ⟨y469, K470, h471, h472, h473, h474, h475⟩ := bindF_K h436
            refine GL.join (ι := Int) (fun (p : Int) => [(7, v8), (11, v179), (12, .int .i64 x180), (14, v364), (15, .int .i64 p), (34, v15), (35, .int .i64 ((y13.1).length : Int)), (36, .int .i64 (i348 : Int)), (40, v364), (41, .int .i64 ((y362).length : Int)), (42, .int .i64 (i433 : Int))]) (fun (p : Int) => [imm (TR.sl (TR.sl TR.int)) v8 y6.1, imm (TR.sl TR.int) v179 l178, imm (TR.sl TR.int) v364 y362, own 22 (TR.sl TR.int) v15 y13.1]) (fun (p : Int) => K470 (.nx p)) ?_ ?_
            · refine GL.block ?_
              refine GL.loop (ι := Nat × (List Int) × Int) (fun (p : Nat × (List Int) × Int) => [(7, v8), (11, v179), (12, .int .i64 x180), (14, v364), (15, .int .i64 p.2.2), (17, .int .i64 y443), (34, v15), (35, .int .i64 ((y13.1).length : Int)), (36, .int .i64 (i348 : Int)), (40, v364), (41, .int .i64 ((y362).length : Int)), (42, .int .i64 (i433 : Int)), (50, v452), (51, .int .i64 ((((List.take ((y362).length) y362).drop ((wadd (i433 : Int) (1 : Int)).toNat))).length : Int)), (52, .int .i64 (p.1 : Int))]) (fun (p : Nat × (List Int) × Int) => [imm (TR.sl (TR.sl TR.int)) v8 y6.1, imm (TR.sl TR.int) v179 l178, imm (TR.sl TR.int) v364 y362, own 22 (TR.sl TR.int) v15 y13.1, imm (TR.sl TR.int) v452 ((List.take ((y362).length) y362).drop ((wadd (i433 : Int) (1 : Int)).toNat))]) (fun (p : Nat × (List Int) × Int) => p.1 + p.2.1.length = (((List.take ((y362).length) y362).drop ((wadd (i433 : Int) (1 : Int)).toNat))).length ∧ List.drop p.1 ((List.take ((y362).length) y362).drop ((wadd (i433 : Int) (1 : Int)).toNat)) = p.2.1 ∧ rangeL (middle_Best_b3 y6 y443) p.2.1 p.1 p.2.2 = some y469) (fun (p : Nat × (List Int) × Int) => p.2.1.length) (0, ((List.take ((y362).length) y362).drop ((wadd (i433 : Int) (1 : Int)).toNat)), x365) ⟨by simp, by simp, h471⟩ (fun a w st => St.cut [0, 1, 2, 3, 4] ⟨rfl, rfl, rfl, rfl, rfl, rfl, rfl, rfl, rfl, rfl, rfl, rfl, rfl, rfl, rfl, trivial⟩ (by decide) rfl st) ?_
              rintro ⟨i476, r477, x453⟩ ⟨h482, h483, h481⟩
              try dsimp only at h482 h483 h481
              refine GL.weak (env' := [(7, v8), (11, v179), (12, .int .i64 x180), (14, v364), (15, .int .i64 x453), (17, .int .i64 y443), (34, v15), (35, .int .i64 ((y13.1).length : Int)), (36, .int .i64 (i348 : Int)), (40, v364), (41, .int .i64 ((y362).length : Int)), (42, .int .i64 (i433 : Int)), (50, v452), (51, .int .i64 ((((List.take ((y362).length) y362).drop ((wadd (i433 : Int) (1 : Int)).toNat))).length : Int)), (52, .int .i64 (i476 : Int))]) (L' := [imm (TR.sl (TR.sl TR.int)) v8 y6.1, imm (TR.sl TR.int) v179 l178, imm (TR.sl TR.int) v364 y362, own 22 (TR.sl TR.int) v15 y13.1, imm (TR.sl TR.int) v452 ((List.take ((y362).length) y362).drop ((wadd (i433 : Int) (1 : Int)).toNat))]) (fun _ _ st => st) ?_
              refine GL.seq ?_
              refine GL.region ?_
              refine RL.binI (v := .bool (decide ((i476 : Int) < ((((List.take ((y362).length) y362).drop ((wadd (i433 : Int) (1 : Int)).toNat))).length : Int)))) rfl rfl rfl rfl rfl ?_
              refine RL.finG ?_
              refine GL.seq ?_
              refine GL.cond rfl (fun b484 => ?_) (fun b484 => ?_)
              · have h485 : i476 < (((List.take ((y362).length) y362).drop ((wadd (i433 : Int) (1 : Int)).toNat))).length := by have := of_decide_eq_true b484; omega
                obtain ⟨y486, r488, hr, e487, h489⟩ := drop_cons h483 rfl h485
                subst hr
                obtain ⟨z478, h479, h480⟩ := rangeL_some h481
                unfold middle_Best_b3 at h479
                try dsimp only at h479
                refine GL.skip ?_
                refine GL.seq ?_
                refine GL.block ?_
                refine GL.seq ?_
                refine GL.region ?_
                refine RL.idxS (sz := 1) 4 Try.underlying22 Try_ln3 rfl rfl rfl rfl rfl SlOf.imm (by omega) (by omega) ?_
                refine RL.ldSx (i := i476) (e' := y486) 4 Ex.ik Try_ln3 rfl rfl rfl rfl SlOf.imm e487 Part.self ?_
                refine RL.asg rfl rfl rfl ?_
                refine RL.finG ?_
                refine GL.region ?_
                refine RL.mv rfl rfl rfl ?_
                refine RL.mv rfl rfl rfl ?_
                refine RL.mv rfl rfl rfl ?_
                obtain ⟨y495, e496, h479⟩ := bind_some h479
                refine RL.idxS (sz := 1) 0 Try.underlying28 Try_ln22 rfl rfl rfl rfl rfl SlOf.imm (idx_some e496).1 (idx_some e496).2.1 ?_
                refine RL.ldS (i := (y486).toNat) (r := (TR.sl TR.int)) (e' := y495) 0 Try_ln22 rfl rfl rfl rfl SlOf.imm (idx_some e496).2.2 Part.self ?_
                intro v497
                refine RL.mv rfl rfl rfl ?_
                obtain ⟨y498, e499, h479⟩ := bind_some h479
                refine RL.idxS (sz := 1) 5 Try.underlying22 Try_ln3 rfl rfl rfl rfl rfl SlOf.imm (idx_some e499).1 (idx_some e499).2.1 ?_
                refine RL.ldSx (i := (y443).toNat) (e' := y498) 5 Ex.ik Try_ln3 rfl rfl rfl rfl SlOf.imm (idx_some e499).2.2 Part.self ?_
                refine RL.binI (v := .int .i64 (wadd x453 y498)) rfl rfl rfl rfl rfl ?_
                refine RL.asg rfl rfl rfl ?_
                refine RL.finG ?_
                refine GL.nilB ?_
                refine GL.region ?_
                refine RL.binI (v := .int .i64 ((i476 + 1 : Nat) : Int)) rfl rfl rfl rfl (binI_succ i476 (by omega)) ?_
                refine RL.mv rfl rfl rfl ?_
                refine RL.fin ?_
                cases h479
                exact fun a w st => lop_intro (i476 + 1, r488, wadd x453 y498) ⟨by show i476 + 1 + r488.length = (((List.take ((y362).length) y362).drop ((wadd (i433 : Int) (1 : Int)).toNat))).length; simp only [List.length_cons] at h482; omega, h489, h480⟩ (by simp) (St.cut [0, 1, 2, 3, 4] ⟨rfl, rfl, rfl, rfl, rfl, rfl, rfl, rfl, rfl, rfl, rfl, rfl, rfl, rfl, rfl, trivial⟩ (by decide) rfl st)
              · have h485 : ¬ i476 < (((List.take ((y362).length) y362).drop ((wadd (i433 : Int) (1 : Int)).toNat))).length := by have := of_decide_eq_false b484; omega
                obtain rfl : r477 = [] := by rw [← h483]; exact List.drop_of_length_le (by omega)
                replace h481 : some (Fl.nx _) = some y469 := h481
                cases h481
                exact GL.exit (fun a w st => mid_intro x453 h472 (St.cut [0, 1, 2, 3] ⟨rfl, rfl, rfl, rfl, rfl, rfl, rfl, rfl, rfl, rfl, rfl, trivial⟩ (by decide) rfl st))
            · rintro x453 h500
              have h501 := h473 _ h500
              try dsimp only at h501
              refine GL.weak (env' := [(7, v8), (11, v179), (12, .int .i64 x180), (14, v364), (15, .int .i64 x453), (34, v15), (35, .int .i64 ((y13.1).length : Int)), (36, .int .i64 (i348 : Int)), (40, v364), (41, .int .i64 ((y362).length : Int)), (42, .int .i64 (i433 : Int))]) (L' := [imm (TR.sl (TR.sl TR.int)) v8 y6.1, imm (TR.sl TR.int) v179 l178, imm (TR.sl TR.int) v364 y362, own 22 (TR.sl TR.int) v15 y13.1]) (fun _ _ st => st) ?_
              refine GL.nilB ?_
              refine GL.region ?_
              refine RL.binI (v := .int .i64 ((i433 + 1 : Nat) : Int)) rfl rfl rfl rfl (binI_succ i433 (by omega)) ?_
              refine RL.mv rfl rfl rfl ?_
              refine RL.fin ?_
              cases h501
              exact fun a w st => lop_intro (i433 + 1, r445, x453) ⟨by show i433 + 1 + r445.length = (y362).length; simp only [List.length_cons] at h439; omega, h446, h437⟩ (by simp) (St.cut [0, 1, 2, 3] ⟨rfl, rfl, rfl, rfl, rfl, rfl, rfl, rfl, rfl, rfl, rfl, trivial⟩ (by decide) rfl st)
          · have h442 : ¬ i433 < (y362).length := by have := of_decide_eq_false b441; omega
            obtain rfl : r434 = [] := by rw [← h440]; exact List.drop_of_length_le (by omega)
            replace h438 : some (Fl.nx _) = some y426 := h438
            cases h438
            exact GL.exit (fun a w st => mid_intro x365 h429 (St.cut [0, 1, 2, 3] ⟨rfl, rfl, rfl, rfl, rfl, rfl, rfl, rfl, trivial⟩ (by decide) rfl st))
        · rintro x365 h502
          have h503 := h430 _ h502
          try dsimp only at h503
          refine GL.weak (env' := [(7, v8), (11, v179), (12, .int .i64 x180), (14, v364), (15, .int .i64 x365), (34, v15), (35, .int .i64 ((y13.1).length : Int)), (36, .int .i64 (i348 : Int))]) (L' := [imm (TR.sl (TR.sl TR.int)) v8 y6.1, imm (TR.sl TR.int) v179 l178, imm (TR.sl TR.int) v364 y362, own 22 (TR.sl TR.int) v15 y13.1]) (fun _ _ st => st) ?_
          refine GL.seq ?_
          obtain ⟨y507, K508, h509, h510, h511, h512, h513⟩ := bindF_K h503
          refine GL.join (ι := Bool) (fun (p : Bool) => [(7, v8), (11, v179), (12, .int .i64 x180), (14, v364), (15, .int .i64 x365), (34, v15), (35, .int .i64 ((y13.1).length : Int)), (36, .int .i64 (i348 : Int)), (73, .bool p)]) (fun (p : Bool) => [imm (TR.sl (TR.sl TR.int)) v8 y6.1, imm (TR.sl TR.int) v179 l178, imm (TR.sl TR.int) v364 y362, own 22 (TR.sl TR.int) v15 y13.1]) (fun (p : Bool) => K508 (.nx p)) ?_ ?_
          · skip
            refine GL.region ?_
            refine RL.mv rfl rfl rfl ?_
            refine RL.binI (v := .bool (decide (x180 < (0 : Int)))) rfl rfl rfl rfl rfl ?_
            refine RL.mv rfl rfl rfl ?_
            refine RL.split (t := 69) rfl (fun b514 => ?_) (fun b514 => ?_)
            · replace h509 := ite_t b514 h509
              refine RL.skip rfl rfl ?_
              refine RL.skip rfl rfl ?_
              refine RL.skip rfl rfl ?_
              refine RL.pickT rfl rfl rfl rfl ?_
              refine RL.fin ?_
              cases h509
              exact fun a w st => mid_intro true h510 (St.cut [0, 1, 2, 3] ⟨rfl, rfl, rfl, rfl, rfl, rfl, rfl, rfl, rfl, trivial⟩ (by decide) rfl st)
            · replace h509 := ite_f b514 h509
              refine RL.mv rfl rfl rfl ?_
              refine RL.mv rfl rfl rfl ?_
              refine RL.binI (v := .bool (decide (x365 < x180))) rfl rfl rfl rfl rfl ?_
              refine RL.pickF rfl rfl rfl rfl ?_
              refine RL.fin ?_
              cases h509
              exact fun a w st => mid_intro (decide (x365 < x180)) h510 (St.cut [0, 1, 2, 3] ⟨rfl, rfl, rfl, rfl, rfl, rfl, rfl, rfl, rfl, trivial⟩ (by decide) rfl st)
          · rintro x506 h515
            have h516 := h511 _ h515
            try dsimp only at h516
            refine GL.weak (env' := [(7, v8), (11, v179), (12, .int .i64 x180), (14, v364), (15, .int .i64 x365), (34, v15), (35, .int .i64 ((y13.1).length : Int)), (36, .int .i64 (i348 : Int)), (73, .bool x506)]) (L' := [imm (TR.sl (TR.sl TR.int)) v8 y6.1, imm (TR.sl TR.int) v179 l178, imm (TR.sl TR.int) v364 y362, own 22 (TR.sl TR.int) v15 y13.1]) (fun _ _ st => st) ?_
            refine GL.cond rfl (fun b517 => ?_) (fun b517 => ?_)
            · replace h516 := ite_t b517 h516
              refine GL.region ?_
              refine RL.mv rfl rfl rfl ?_
              refine RL.mv rfl rfl rfl ?_
              refine RL.asg rfl rfl rfl ?_
              refine RL.asg rfl rfl rfl ?_
              refine RL.finG ?_
              refine GL.nilB ?_
              refine GL.region ?_
              refine RL.binI (v := .int .i64 ((i348 + 1 : Nat) : Int)) rfl rfl rfl rfl (binI_succ i348 (by omega)) ?_
              refine RL.mv rfl rfl rfl ?_
              refine RL.fin ?_
              cases h516
              exact fun a w st => lop_intro (i348 + 1, r358, y362, x365, v364) ⟨by show i348 + 1 + r358 = (y13.1).length; omega, h352⟩ (by simp) (St.cut [0, 2, 3] ⟨rfl, rfl, rfl, rfl, rfl, rfl, trivial⟩ (by decide) rfl st)
            · replace h516 := ite_f b517 h516
              refine GL.skip ?_
              refine GL.nilB ?_
              refine GL.region ?_
              refine RL.binI (v := .int .i64 ((i348 + 1 : Nat) : Int)) rfl rfl rfl rfl (binI_succ i348 (by omega)) ?_
              refine RL.mv rfl rfl rfl ?_
              refine RL.fin ?_
              cases h516
              exact fun a w st => lop_intro (i348 + 1, r358, l178, x180, v179) ⟨by show i348 + 1 + r358 = (y13.1).length; omega, h352⟩ (by simp) (St.cut [0, 1, 3] ⟨rfl, rfl, rfl, rfl, rfl, rfl, trivial⟩ (by decide) rfl st)
      · have h357 : ¬ i348 < (y13.1).length := by have := of_decide_eq_false b356; omega
        obtain rfl : r349 = 0 := by omega
        replace h353 : some (Fl.nx _) = some y341 := h353
        cases h353
        exact GL.exit (fun a w st => mid_intro (l178, x180, v179) h344 (St.cut [1] ⟨rfl, rfl, trivial⟩ (by decide) rfl st))
    · rintro ⟨l178, x180, v179⟩ h518
      have h519 := h345 _ h518
      try dsimp only at h519
      refine GL.weak (env' := [(11, v179), (12, .int .i64 x180)]) (L' := [imm (TR.sl TR.int) v179 l178]) (fun _ _ st => st) ?_
      refine GL.seq ?_
      refine GL.region ?_
      refine RL.mv rfl rfl rfl ?_
      refine RL.mv rfl rfl rfl ?_
      refine RL.asg rfl rfl rfl ?_
      refine RL.asg rfl rfl rfl ?_
      refine RL.asg rfl rfl rfl ?_
      refine RL.finG ?_
      have h519 := Option.some.inj h519
      subst h519
      exact GL.ret (Gx.ret (v := .tuple #[v179, .int .i64 x180, .int .i64 (0 : Int)]) (res3 rfl rfl rfl rfl) (fun a w st => (st.pick [0] (by decide) rfl).toPost v179))

set_option maxHeartbeats 4000000 in
theorem slices_Equal_int_int_c (S : Hp) (w : World) (hS : S.sub w) (v0 : Value) (x0 : (List Int)) (k0 : ((TR.sl TR.int)).vrep S v0 x0) (v1 : Value) (x1 : (List Int)) (k1 : ((TR.sl TR.int)).vrep S v1 x1) (res : Bool) (hm : slices_Equal_int_int_m x0 x1 = some res) : Calls Try.prog 34 #[v0, v1] w (PostV w (.bool res)) := by
  refine calls_enter 26 Try.func34 Try.ntmps34 rfl S false [(0, v0), (1, v1)] [imm (TR.sl TR.int) v0 x0, imm (TR.sl TR.int) v1 x1] rfl ⟨rfl, ⟨rfl, trivial⟩⟩ hS ⟨k0, ⟨k1, trivial⟩⟩ ?_
  unfold slices_Equal_int_int_m at hm
  refine GL.seq ?_
  refine GL.region ?_
  refine RL.asg rfl rfl rfl ?_
  refine RL.finG ?_
  refine GL.seq ?_
  refine GL.seq ?_
  refine GL.region ?_
  refine RL.mv rfl rfl rfl ?_
  refine RL.lenS 0 Try.underlying22 rfl rfl rfl rfl SlOf.imm ?_
  refine RL.mv rfl rfl rfl ?_
  refine RL.lenS 1 Try.underlying22 rfl rfl rfl rfl SlOf.imm ?_
  refine RL.binI (v := .bool (((x0).length : Int) != ((x1).length : Int))) rfl rfl rfl rfl rfl ?_
  refine RL.finG ?_
  refine GL.cond rfl (fun b3 => ?_) (fun b3 => ?_)
  · replace hm := ite_t b3 hm
    refine GL.seq ?_
    refine GL.region ?_
    refine RL.asg rfl rfl rfl ?_
    refine RL.finG ?_
    have hm := Option.some.inj hm
    subst hm
    exact GL.ret (Gx.ret (v := .bool false) (res1 rfl rfl) (fun a w st => st.toPostV))
  · replace hm := ite_f b3 hm
    refine GL.skip ?_
    refine GL.seq ?_
    refine GL.seq ?_
    refine GL.region ?_
    refine RL.mv rfl rfl rfl ?_
    refine RL.lenS 0 Try.underlying22 rfl rfl rfl rfl SlOf.imm ?_
    refine RL.mv rfl rfl rfl ?_
    refine RL.finG ?_
    refine GL.open_ 0 rfl (fun S h => len_imm S h) (fun n13 => ?_)
    obtain ⟨y14, K15, h16, h17, h18, h19, h20⟩ := bindR_K hm
    refine GL.join (ι := Unit) (fun (p : Unit) => []) (fun (p : Unit) => []) (fun (p : Unit) => K15 (.nx ())) ?_ ?_
    · refine GL.block ?_
      refine GL.loop (ι := Nat × (List Int)) (fun (p : Nat × (List Int)) => [(0, v0), (1, v1), (12, .int .i64 ((x0).length : Int)), (13, .int .i64 (p.1 : Int))]) (fun (p : Nat × (List Int)) => [imm (TR.sl TR.int) v0 x0, imm (TR.sl TR.int) v1 x1]) (fun (p : Nat × (List Int)) => p.1 + p.2.length = (x0).length ∧ List.drop p.1 x0 = p.2 ∧ rangeL (slices_Equal_int_int_b1 x1) p.2 p.1 () = some y14) (fun (p : Nat × (List Int)) => p.2.length) (0, x0) ⟨by simp, by simp, h16⟩ (fun a w st => St.cut [0, 1] ⟨rfl, rfl, rfl, rfl, trivial⟩ (by decide) rfl st) ?_
      rintro ⟨i21, r22⟩ ⟨h27, h28, h26⟩
      try dsimp only at h27 h28 h26
      refine GL.weak (env' := [(0, v0), (1, v1), (12, .int .i64 ((x0).length : Int)), (13, .int .i64 (i21 : Int))]) (L' := [imm (TR.sl TR.int) v0 x0, imm (TR.sl TR.int) v1 x1]) (fun _ _ st => st) ?_
      refine GL.seq ?_
      refine GL.region ?_
      refine RL.binI (v := .bool (decide ((i21 : Int) < ((x0).length : Int)))) rfl rfl rfl rfl rfl ?_
      refine RL.finG ?_
      refine GL.seq ?_
      refine GL.cond rfl (fun b29 => ?_) (fun b29 => ?_)
      · have h30 : i21 < (x0).length := by have := of_decide_eq_true b29; omega
        obtain ⟨y31, r33, hr, e32, h34⟩ := drop_cons h28 rfl h30
        subst hr
        obtain ⟨z23, h24, h25⟩ := rangeL_some h26
        unfold slices_Equal_int_int_b1 at h24
        try dsimp only at h24
        refine GL.skip ?_
        refine GL.seq ?_
        refine GL.block ?_
        refine GL.seq ?_
        refine GL.region ?_
        refine RL.mv rfl rfl rfl ?_
        refine RL.asg rfl rfl rfl ?_
        refine RL.finG ?_
        refine GL.seq ?_
        refine GL.regionQ rfl rfl (by kernel_rfl) ?_
        refine RL.mv rfl rfl rfl ?_
        refine RL.mv rfl rfl rfl ?_
        refine RL.idxS (sz := 1) 0 Try.underlying22 Try_ln3 rfl rfl rfl rfl rfl SlOf.imm (by omega) (by omega) ?_
        refine RL.ldSx (i := i21) (e' := y31) 0 Ex.ik Try_ln3 rfl rfl rfl rfl SlOf.imm e32 Part.self ?_
        refine RL.mv rfl rfl rfl ?_
        refine RL.mv rfl rfl rfl ?_
        obtain ⟨y37, e38, h24⟩ := bind_some h24
        refine RL.idxS (sz := 1) 1 Try.underlying22 Try_ln3 rfl rfl rfl rfl rfl SlOf.imm (idx_some e38).1 (idx_some e38).2.1 ?_
        refine RL.ldSx (i := i21) (e' := y37) 1 Ex.ik Try_ln3 rfl rfl rfl rfl SlOf.imm (idx_some e38).2.2 Part.self ?_
        refine RL.binI (v := .bool (y31 != y37)) rfl rfl rfl rfl rfl ?_
        refine RL.finQG ?_
        refine GL.cond rfl (fun b39 => ?_) (fun b39 => ?_)
        · replace h24 := ite_t b39 h24
          refine GL.seq ?_
          refine GL.region ?_
          refine RL.asg rfl rfl rfl ?_
          refine RL.finG ?_
          cases h24
          replace h25 : some (Fl.rt _) = some y14 := h25
          cases h25
          have hh := h19 _ h17
          subst hh
          exact GL.ret (Gx.ret (v := .bool false) (res1 rfl rfl) (fun a w st => st.toPostV))
        · replace h24 := ite_f b39 h24
          refine GL.skip ?_
          refine GL.nilB ?_
          refine GL.region ?_
          refine RL.binI (v := .int .i64 ((i21 + 1 : Nat) : Int)) rfl rfl rfl rfl (binI_succ i21 (by omega)) ?_
          refine RL.mv rfl rfl rfl ?_
          refine RL.fin ?_
          cases h24
          exact fun a w st => lop_intro (i21 + 1, r33) ⟨by show i21 + 1 + r33.length = (x0).length; simp only [List.length_cons] at h27; omega, h34, h25⟩ (by simp) (St.cut [0, 1] ⟨rfl, rfl, rfl, rfl, trivial⟩ (by decide) rfl st)
      · have h30 : ¬ i21 < (x0).length := by have := of_decide_eq_false b29; omega
        obtain rfl : r22 = [] := by rw [← h28]; exact List.drop_of_length_le (by omega)
        replace h26 : some (Fl.nx _) = some y14 := h26
        cases h26
        exact GL.exit (fun a w st => mid_intro () h17 (St.cut [] trivial (by decide) rfl st))
    · rintro ⟨⟩ h40
      have h41 := h18 _ h40
      try dsimp only at h41
      refine GL.weak (env' := []) (L' := []) (fun _ _ st => st) ?_
      refine GL.seq ?_
      refine GL.region ?_
      refine RL.asg rfl rfl rfl ?_
      refine RL.finG ?_
      have h41 := Option.some.inj h41
      subst h41
      exact GL.ret (Gx.ret (v := .bool true) (res1 rfl rfl) (fun a w st => st.toPostV))

set_option maxHeartbeats 4000000 in
theorem pk_middles_c (S : Hp) (w : World) (hS : S.sub w)  (res : Bool) (hm : pk_middles_m = some res) : Calls Try.prog 28 #[] w (PostV w (.bool res)) := by
  refine calls_enter 24 Try.func28 Try.ntmps28 rfl S false [] [] rfl trivial hS trivial ?_
  unfold pk_middles_m at hm
  refine GL.seq ?_
  refine GL.region ?_
  refine RL.asg rfl rfl rfl ?_
  refine RL.finG ?_
  refine GL.seq ?_
  refine GL.region ?_
  refine RL.bS (t := TR.int) (vs := [.int .i64 (0 : Int), .int .i64 (1 : Int), .int .i64 (2 : Int)]) ([(0 : Int), (1 : Int), (2 : Int)] : (List Int)) Try.underlying22 Try_lo3 rfl rfl rfl rfl ⟨VR.int, ⟨VR.int, ⟨VR.int, trivial⟩⟩⟩ rfl (by decide) ?_
  intro v8
  refine RL.bS (t := TR.int) (vs := [.int .i64 (1 : Int), .int .i64 (2 : Int), .int .i64 (0 : Int)]) ([(1 : Int), (2 : Int), (0 : Int)] : (List Int)) Try.underlying22 Try_lo3 rfl rfl rfl rfl ⟨VR.int, ⟨VR.int, ⟨VR.int, trivial⟩⟩⟩ rfl (by decide) ?_
  intro v9
  refine RL.reL (L' := [own 3 TR.int v8 ([(0 : Int), (1 : Int), (2 : Int)] : (List Int)), own 3 TR.int v9 ([(1 : Int), (2 : Int), (0 : Int)] : (List Int))]) rfl ?_
  refine RL.bS (t := TR.int) (vs := [.int .i64 (1 : Int), .int .i64 (0 : Int), .int .i64 (2 : Int)]) ([(1 : Int), (0 : Int), (2 : Int)] : (List Int)) Try.underlying22 Try_lo3 rfl rfl rfl rfl ⟨VR.int, ⟨VR.int, ⟨VR.int, trivial⟩⟩⟩ rfl (by decide) ?_
  intro v10
  refine RL.weak (fun a w st => st.freeze 0 rfl) ?_
  refine RL.weak (fun a w st => st.freeze 1 rfl) ?_
  refine RL.weak (fun a w st => st.freeze 2 rfl) ?_
  refine RL.bS (t := (TR.sl TR.int)) (vs := [v8, v9, v10]) ([([(0 : Int), (1 : Int), (2 : Int)] : (List Int)), ([(1 : Int), (2 : Int), (0 : Int)] : (List Int)), ([(1 : Int), (0 : Int), (2 : Int)] : (List Int))] : (List (List Int))) Try.underlying28 Try_lo22 rfl rfl rfl rfl ⟨(VR.item 0 rfl), ⟨(VR.item 1 rfl), ⟨(VR.item 2 rfl), trivial⟩⟩⟩ rfl (by decide) ?_
  intro v11
  refine RL.reL (L' := [imm (TR.sl TR.int) v8 ([(0 : Int), (1 : Int), (2 : Int)] : (List Int)), imm (TR.sl TR.int) v9 ([(1 : Int), (2 : Int), (0 : Int)] : (List Int)), imm (TR.sl TR.int) v10 ([(1 : Int), (0 : Int), (2 : Int)] : (List Int)), own 22 (TR.sl TR.int) v11 ([([(0 : Int), (1 : Int), (2 : Int)] : (List Int)), ([(1 : Int), (2 : Int), (0 : Int)] : (List Int)), ([(1 : Int), (0 : Int), (2 : Int)] : (List Int))] : (List (List Int)))]) rfl ?_
  refine RL.weak (fun a w st => st.freeze 3 rfl) ?_
  obtain ⟨y12, e13, hm⟩ := bind_some hm
  refine RL.call (vs := [.int .i64 (3 : Int), v11]) Try_fit30 rfl rfl rfl rfl rfl (fun S f w hS hW hi => middle_Best_c S w hS (3 : Int) _ _ (hi 3 _ rfl) _ e13) ?_
  intro v14
  refine RL.reL (L' := [imm (TR.sl TR.int) v8 ([(0 : Int), (1 : Int), (2 : Int)] : (List Int)), imm (TR.sl TR.int) v9 ([(1 : Int), (2 : Int), (0 : Int)] : (List Int)), imm (TR.sl TR.int) v10 ([(1 : Int), (0 : Int), (2 : Int)] : (List Int)), imm (TR.sl (TR.sl TR.int)) v11 ([([(0 : Int), (1 : Int), (2 : Int)] : (List Int)), ([(1 : Int), (2 : Int), (0 : Int)] : (List Int)), ([(1 : Int), (0 : Int), (2 : Int)] : (List Int))] : (List (List Int))), imm (TR.sl TR.int) v14 y12.1]) rfl ?_
  refine RL.mv rfl rfl rfl ?_
  refine RL.ext rfl rfl rfl rfl ?_
  refine RL.ext rfl rfl rfl rfl ?_
  refine RL.ext rfl rfl rfl rfl ?_
  refine RL.asg rfl rfl rfl ?_
  refine RL.asg rfl rfl rfl ?_
  refine RL.asg rfl rfl rfl ?_
  refine RL.finG ?_
  refine GL.seq ?_
  obtain ⟨y26, K27, h28, h29, h30, h31, h32⟩ := bindR_K hm
  refine GL.join (ι := Bool) (fun (p : Bool) => [(0, .bool p)]) (fun (p : Bool) => []) (fun (p : Bool) => K27 (.nx p)) ?_ ?_
  · skip
    refine GL.region ?_
    refine RL.mv rfl rfl rfl ?_
    refine RL.binI (v := .bool (y12.2.2 == (0 : Int))) rfl rfl rfl rfl rfl ?_
    refine RL.mv rfl rfl rfl ?_
    refine RL.split (t := 15) rfl (fun b33 => ?_) (fun b33 => ?_)
    · replace h28 := ite_t b33 h28
      refine RL.mv rfl rfl rfl ?_
      refine RL.binI (v := .bool (y12.2.1 == (2 : Int))) rfl rfl rfl rfl rfl ?_
      refine RL.pickT rfl rfl rfl rfl ?_
      refine RL.mv rfl rfl rfl ?_
      refine RL.split (t := 19) rfl (fun b34 => ?_) (fun b34 => ?_)
      · replace h28 := ite_t b34 h28
        refine RL.mv rfl rfl rfl ?_
        refine RL.bS (t := TR.int) (vs := [.int .i64 (1 : Int), .int .i64 (0 : Int), .int .i64 (2 : Int)]) ([(1 : Int), (0 : Int), (2 : Int)] : (List Int)) Try.underlying22 Try_lo3 rfl rfl rfl rfl ⟨VR.int, ⟨VR.int, ⟨VR.int, trivial⟩⟩⟩ rfl (by decide) ?_
        intro v35
        obtain ⟨y36, e37, h28⟩ := bind_some h28
        refine RL.callV (v := .bool y36) (vs := [v14, v35]) Try_fit34 rfl (Or.inl rfl) rfl rfl rfl rfl (fun U w hU hW hL => slices_Equal_int_int_c U w hU _ _ (hL 4 _ _ rfl Seen.imm) _ _ (hL 5 _ _ rfl Seen.own) _ e37) ?_
        refine RL.pickT rfl rfl rfl rfl ?_
        refine RL.asg rfl rfl rfl ?_
        refine RL.fin ?_
        cases h28
        exact fun a w st => mid_intro y36 h29 (St.cut [] ⟨rfl, trivial⟩ (by decide) rfl st)
      · replace h28 := ite_f b34 h28
        refine RL.skip rfl rfl ?_
        refine RL.skip rfl rfl ?_
        refine RL.skip rfl rfl ?_
        refine RL.pickF rfl rfl rfl rfl ?_
        refine RL.asg rfl rfl rfl ?_
        refine RL.fin ?_
        cases h28
        exact fun a w st => mid_intro false h29 (St.cut [] ⟨rfl, trivial⟩ (by decide) rfl st)
    · replace h28 := ite_f b33 h28
      refine RL.skip rfl rfl ?_
      refine RL.skip rfl rfl ?_
      refine RL.pickF rfl rfl rfl rfl ?_
      refine RL.mv rfl rfl rfl ?_
      refine RL.skip rfl rfl ?_
      refine RL.skip rfl rfl ?_
      refine RL.skip rfl rfl ?_
      refine RL.pickF rfl rfl rfl rfl ?_
      refine RL.asg rfl rfl rfl ?_
      refine RL.fin ?_
      cases h28
      exact fun a w st => mid_intro false h29 (St.cut [] ⟨rfl, trivial⟩ (by decide) rfl st)
  · rintro x25 h38
    have h39 := h30 _ h38
    try dsimp only at h39
    refine GL.weak (env' := [(0, .bool x25)]) (L' := []) (fun _ _ st => st) ?_
    have h39 := Option.some.inj h39
    subst h39
    exact GL.ret (Gx.ret (v := .bool x25) (res1 rfl rfl) (fun a w st => st.toPostV))

set_option maxHeartbeats 4000000 in
theorem duel_Check_c (S : Hp) (w : World) (hS : S.sub w) (v0 : Value) (x0 : (List (List Int))) (k0 : ((TR.sl (TR.sl TR.int))).vrep S v0 x0) (res : Int) (hm : duel_Check_m x0 = some res) : Calls Try.prog 60 #[v0] w (PostC w (.int .i64 res)) := by
  refine calls_enter 55 Try.func60 Try.ntmps60 rfl S true [(0, v0)] [imm (TR.sl (TR.sl TR.int)) v0 x0] rfl ⟨rfl, trivial⟩ hS ⟨k0, trivial⟩ ?_
  unfold duel_Check_m at hm
  refine GL.seq ?_
  refine GL.region ?_
  refine RL.asg rfl rfl rfl ?_
  refine RL.finG ?_
  refine GL.seq ?_
  refine GL.seq ?_
  obtain ⟨y5, K6, h7, h8, h9, h10, h11⟩ := bindR_K hm
  refine GL.join (ι := Bool) (fun (p : Bool) => [(0, v0), (15, .bool p)]) (fun (p : Bool) => [imm (TR.sl (TR.sl TR.int)) v0 x0]) (fun (p : Bool) => K6 (.nx p)) ?_ ?_
  · skip
    refine GL.region ?_
    refine RL.mv rfl rfl rfl ?_
    refine RL.lenS 0 Try.underlying28 rfl rfl rfl rfl SlOf.imm ?_
    refine RL.binI (v := .bool (decide (((x0).length : Int) < (1 : Int)))) rfl rfl rfl rfl rfl ?_
    refine RL.mv rfl rfl rfl ?_
    refine RL.split (t := 11) rfl (fun b12 => ?_) (fun b12 => ?_)
    · replace h7 := ite_t b12 h7
      refine RL.skip rfl rfl ?_
      refine RL.skip rfl rfl ?_
      refine RL.skip rfl rfl ?_
      refine RL.pickT rfl rfl rfl rfl ?_
      refine RL.fin ?_
      cases h7
      exact fun a w st => mid_intro true h8 (St.cut [0] ⟨rfl, rfl, trivial⟩ (by decide) rfl st)
    · replace h7 := ite_f b12 h7
      refine RL.mv rfl rfl rfl ?_
      refine RL.lenS 0 Try.underlying28 rfl rfl rfl rfl SlOf.imm ?_
      refine RL.binI (v := .bool (decide (((x0).length : Int) > (6 : Int)))) rfl rfl rfl rfl rfl ?_
      refine RL.pickF rfl rfl rfl rfl ?_
      refine RL.fin ?_
      cases h7
      exact fun a w st => mid_intro (decide (((x0).length : Int) > (6 : Int))) h8 (St.cut [0] ⟨rfl, rfl, trivial⟩ (by decide) rfl st)
  · rintro x4 h13
    have h14 := h9 _ h13
    try dsimp only at h14
    refine GL.weak (env' := [(0, v0), (15, .bool x4)]) (L' := [imm (TR.sl (TR.sl TR.int)) v0 x0]) (fun _ _ st => st) ?_
    refine GL.cond rfl (fun b15 => ?_) (fun b15 => ?_)
    · replace h14 := ite_t b15 h14
      refine GL.seq ?_
      refine GL.region ?_
      refine RL.asg rfl rfl rfl ?_
      refine RL.finG ?_
      have h14 := Option.some.inj h14
      subst h14
      exact GL.ret (Gx.ret (v := .int .i64 (2 : Int)) (res1 rfl rfl) (fun a w st => st.toPostC rfl))
    · replace h14 := ite_f b15 h14
      refine GL.skip ?_
      refine GL.seq ?_
      refine GL.seq ?_
      refine GL.region ?_
      refine RL.mv rfl rfl rfl ?_
      refine RL.lenS 0 Try.underlying28 rfl rfl rfl rfl SlOf.imm ?_
      refine RL.mv rfl rfl rfl ?_
      refine RL.finG ?_
      refine GL.open_ 0 rfl (fun S h => len_imm S h) (fun n79 => ?_)
      obtain ⟨y80, K81, h82, h83, h84, h85, h86⟩ := bindR_K h14
      refine GL.join (ι := Unit) (fun (p : Unit) => [(0, v0)]) (fun (p : Unit) => [imm (TR.sl (TR.sl TR.int)) v0 x0]) (fun (p : Unit) => K81 (.nx ())) ?_ ?_
      · refine GL.block ?_
        refine GL.loop (ι := Nat × (List (List Int))) (fun (p : Nat × (List (List Int))) => [(0, v0), (16, v0), (17, .int .i64 ((x0).length : Int)), (18, .int .i64 (p.1 : Int))]) (fun (p : Nat × (List (List Int))) => [imm (TR.sl (TR.sl TR.int)) v0 x0]) (fun (p : Nat × (List (List Int))) => p.1 + p.2.length = (x0).length ∧ List.drop p.1 x0 = p.2 ∧ rangeL (duel_Check_b1 x0) p.2 p.1 () = some y80) (fun (p : Nat × (List (List Int))) => p.2.length) (0, x0) ⟨by simp, by simp, h82⟩ (fun a w st => St.cut [0] ⟨rfl, rfl, rfl, rfl, trivial⟩ (by decide) rfl st) ?_
        rintro ⟨i87, r88⟩ ⟨h93, h94, h92⟩
        try dsimp only at h93 h94 h92
        refine GL.weak (env' := [(0, v0), (16, v0), (17, .int .i64 ((x0).length : Int)), (18, .int .i64 (i87 : Int))]) (L' := [imm (TR.sl (TR.sl TR.int)) v0 x0]) (fun _ _ st => st) ?_
        refine GL.seq ?_
        refine GL.region ?_
        refine RL.binI (v := .bool (decide ((i87 : Int) < ((x0).length : Int)))) rfl rfl rfl rfl rfl ?_
        refine RL.finG ?_
        refine GL.seq ?_
        refine GL.cond rfl (fun b95 => ?_) (fun b95 => ?_)
        · have h96 : i87 < (x0).length := by have := of_decide_eq_true b95; omega
          obtain ⟨y97, r99, hr, e98, h100⟩ := drop_cons h94 rfl h96
          subst hr
          obtain ⟨z89, h90, h91⟩ := rangeL_some h92
          unfold duel_Check_b1 at h90
          try dsimp only at h90
          refine GL.skip ?_
          refine GL.seq ?_
          refine GL.block ?_
          refine GL.seq ?_
          refine GL.region ?_
          refine RL.idxS (sz := 1) 0 Try.underlying28 Try_ln22 rfl rfl rfl rfl rfl SlOf.imm (by omega) (by omega) ?_
          refine RL.ldS (i := i87) (r := (TR.sl TR.int)) (e' := y97) 0 Try_ln22 rfl rfl rfl rfl SlOf.imm e98 Part.self ?_
          intro v102
          refine RL.asg rfl rfl rfl ?_
          refine RL.finG ?_
          refine GL.seq ?_
          refine GL.seq ?_
          refine GL.region ?_
          refine RL.mv rfl rfl rfl ?_
          refine RL.lenS 1 Try.underlying22 rfl rfl rfl rfl SlOf.imm ?_
          refine RL.mv rfl rfl rfl ?_
          refine RL.lenS 0 Try.underlying28 rfl rfl rfl rfl SlOf.imm ?_
          refine RL.binI (v := .bool (((y97).length : Int) != ((x0).length : Int))) rfl rfl rfl rfl rfl ?_
          refine RL.finG ?_
          refine GL.cond rfl (fun b103 => ?_) (fun b103 => ?_)
          · replace h90 := ite_t b103 h90
            refine GL.seq ?_
            refine GL.region ?_
            refine RL.asg rfl rfl rfl ?_
            refine RL.finG ?_
            cases h90
            replace h91 : some (Fl.rt _) = some y80 := h91
            cases h91
            have hh := h85 _ h83
            subst hh
            exact GL.ret (Gx.ret (v := .int .i64 (3 : Int)) (res1 rfl rfl) (fun a w st => st.toPostC rfl))
          · replace h90 := ite_f b103 h90
            refine GL.skip ?_
            refine GL.seq ?_
            refine GL.region ?_
            refine RL.mv rfl rfl rfl ?_
            refine RL.lenS 1 Try.underlying22 rfl rfl rfl rfl SlOf.imm ?_
            refine RL.mv rfl rfl rfl ?_
            refine RL.finG ?_
            refine GL.open_ 1 rfl (fun S h => len_imm S h) (fun n122 => ?_)
            obtain ⟨y123, K124, h125, h126, h127, h128, h129⟩ := bindF_K h90
            refine GL.join (ι := Unit) (fun (p : Unit) => [(0, v0), (16, v0), (17, .int .i64 ((x0).length : Int)), (18, .int .i64 (i87 : Int))]) (fun (p : Unit) => [imm (TR.sl (TR.sl TR.int)) v0 x0]) (fun (p : Unit) => K124 (.nx ())) ?_ ?_
            · refine GL.block ?_
              refine GL.loop (ι := Nat × (List Int)) (fun (p : Nat × (List Int)) => [(0, v0), (16, v0), (17, .int .i64 ((x0).length : Int)), (18, .int .i64 (i87 : Int)), (27, v102), (28, .int .i64 ((y97).length : Int)), (29, .int .i64 (p.1 : Int))]) (fun (p : Nat × (List Int)) => [imm (TR.sl (TR.sl TR.int)) v0 x0, imm (TR.sl TR.int) v102 y97]) (fun (p : Nat × (List Int)) => p.1 + p.2.length = (y97).length ∧ List.drop p.1 y97 = p.2 ∧ rangeL duel_Check_b2 p.2 p.1 () = some y123) (fun (p : Nat × (List Int)) => p.2.length) (0, y97) ⟨by simp, by simp, h125⟩ (fun a w st => St.cut [0, 1] ⟨rfl, rfl, rfl, rfl, rfl, rfl, rfl, trivial⟩ (by decide) rfl st) ?_
              rintro ⟨i130, r131⟩ ⟨h136, h137, h135⟩
              try dsimp only at h136 h137 h135
              refine GL.weak (env' := [(0, v0), (16, v0), (17, .int .i64 ((x0).length : Int)), (18, .int .i64 (i87 : Int)), (27, v102), (28, .int .i64 ((y97).length : Int)), (29, .int .i64 (i130 : Int))]) (L' := [imm (TR.sl (TR.sl TR.int)) v0 x0, imm (TR.sl TR.int) v102 y97]) (fun _ _ st => st) ?_
              refine GL.seq ?_
              refine GL.region ?_
              refine RL.binI (v := .bool (decide ((i130 : Int) < ((y97).length : Int)))) rfl rfl rfl rfl rfl ?_
              refine RL.finG ?_
              refine GL.seq ?_
              refine GL.cond rfl (fun b138 => ?_) (fun b138 => ?_)
              · have h139 : i130 < (y97).length := by have := of_decide_eq_true b138; omega
                obtain ⟨y140, r142, hr, e141, h143⟩ := drop_cons h137 rfl h139
                subst hr
                obtain ⟨z132, h133, h134⟩ := rangeL_some h135
                unfold duel_Check_b2 at h133
                try dsimp only at h133
                refine GL.skip ?_
                refine GL.seq ?_
                refine GL.block ?_
                refine GL.seq ?_
                refine GL.region ?_
                refine RL.idxS (sz := 1) 1 Try.underlying22 Try_ln3 rfl rfl rfl rfl rfl SlOf.imm (by omega) (by omega) ?_
                refine RL.ldSx (i := i130) (e' := y140) 1 Ex.ik Try_ln3 rfl rfl rfl rfl SlOf.imm e141 Part.self ?_
                refine RL.asg rfl rfl rfl ?_
                refine RL.finG ?_
                refine GL.seq ?_
                obtain ⟨y147, K148, h149, h150, h151, h152, h153⟩ := bindF_K h133
                refine GL.join (ι := Bool) (fun (p : Bool) => [(0, v0), (16, v0), (17, .int .i64 ((x0).length : Int)), (18, .int .i64 (i87 : Int)), (27, v102), (28, .int .i64 ((y97).length : Int)), (29, .int .i64 (i130 : Int)), (38, .bool p)]) (fun (p : Bool) => [imm (TR.sl (TR.sl TR.int)) v0 x0, imm (TR.sl TR.int) v102 y97]) (fun (p : Bool) => K148 (.nx p)) ?_ ?_
                · skip
                  refine GL.region ?_
                  refine RL.mv rfl rfl rfl ?_
                  refine RL.binI (v := .bool (decide (y140 < (0 : Int)))) rfl rfl rfl rfl rfl ?_
                  refine RL.mv rfl rfl rfl ?_
                  refine RL.split (t := 35) rfl (fun b154 => ?_) (fun b154 => ?_)
                  · replace h149 := ite_t b154 h149
                    refine RL.skip rfl rfl ?_
                    refine RL.skip rfl rfl ?_
                    refine RL.pickT rfl rfl rfl rfl ?_
                    refine RL.fin ?_
                    cases h149
                    exact fun a w st => mid_intro true h150 (St.cut [0, 1] ⟨rfl, rfl, rfl, rfl, rfl, rfl, rfl, rfl, trivial⟩ (by decide) rfl st)
                  · replace h149 := ite_f b154 h149
                    refine RL.mv rfl rfl rfl ?_
                    refine RL.binI (v := .bool (decide (y140 > (30 : Int)))) rfl rfl rfl rfl rfl ?_
                    refine RL.pickF rfl rfl rfl rfl ?_
                    refine RL.fin ?_
                    cases h149
                    exact fun a w st => mid_intro (decide (y140 > (30 : Int))) h150 (St.cut [0, 1] ⟨rfl, rfl, rfl, rfl, rfl, rfl, rfl, rfl, trivial⟩ (by decide) rfl st)
                · rintro x146 h155
                  have h156 := h151 _ h155
                  try dsimp only at h156
                  refine GL.weak (env' := [(0, v0), (16, v0), (17, .int .i64 ((x0).length : Int)), (18, .int .i64 (i87 : Int)), (27, v102), (28, .int .i64 ((y97).length : Int)), (29, .int .i64 (i130 : Int)), (38, .bool x146)]) (L' := [imm (TR.sl (TR.sl TR.int)) v0 x0, imm (TR.sl TR.int) v102 y97]) (fun _ _ st => st) ?_
                  refine GL.cond rfl (fun b157 => ?_) (fun b157 => ?_)
                  · replace h156 := ite_t b157 h156
                    refine GL.seq ?_
                    refine GL.region ?_
                    refine RL.asg rfl rfl rfl ?_
                    refine RL.finG ?_
                    cases h156
                    replace h134 : some (Fl.rt _) = some y123 := h134
                    cases h134
                    have hh := h128 _ h126
                    subst hh
                    replace h91 : some (Fl.rt _) = some y80 := h91
                    cases h91
                    have hh := h85 _ h83
                    subst hh
                    exact GL.ret (Gx.ret (v := .int .i64 (1 : Int)) (res1 rfl rfl) (fun a w st => st.toPostC rfl))
                  · replace h156 := ite_f b157 h156
                    refine GL.skip ?_
                    refine GL.nilB ?_
                    refine GL.region ?_
                    refine RL.binI (v := .int .i64 ((i130 + 1 : Nat) : Int)) rfl rfl rfl rfl (binI_succ i130 (by omega)) ?_
                    refine RL.mv rfl rfl rfl ?_
                    refine RL.fin ?_
                    cases h156
                    exact fun a w st => lop_intro (i130 + 1, r142) ⟨by show i130 + 1 + r142.length = (y97).length; simp only [List.length_cons] at h136; omega, h143, h134⟩ (by simp) (St.cut [0, 1] ⟨rfl, rfl, rfl, rfl, rfl, rfl, rfl, trivial⟩ (by decide) rfl st)
              · have h139 : ¬ i130 < (y97).length := by have := of_decide_eq_false b138; omega
                obtain rfl : r131 = [] := by rw [← h137]; exact List.drop_of_length_le (by omega)
                replace h135 : some (Fl.nx _) = some y123 := h135
                cases h135
                exact GL.exit (fun a w st => mid_intro () h126 (St.cut [0] ⟨rfl, rfl, rfl, rfl, trivial⟩ (by decide) rfl st))
            · rintro ⟨⟩ h158
              have h159 := h127 _ h158
              try dsimp only at h159
              refine GL.weak (env' := [(0, v0), (16, v0), (17, .int .i64 ((x0).length : Int)), (18, .int .i64 (i87 : Int))]) (L' := [imm (TR.sl (TR.sl TR.int)) v0 x0]) (fun _ _ st => st) ?_
              refine GL.nilB ?_
              refine GL.region ?_
              refine RL.binI (v := .int .i64 ((i87 + 1 : Nat) : Int)) rfl rfl rfl rfl (binI_succ i87 (by omega)) ?_
              refine RL.mv rfl rfl rfl ?_
              refine RL.fin ?_
              cases h159
              exact fun a w st => lop_intro (i87 + 1, r99) ⟨by show i87 + 1 + r99.length = (x0).length; simp only [List.length_cons] at h93; omega, h100, h91⟩ (by simp) (St.cut [0] ⟨rfl, rfl, rfl, rfl, trivial⟩ (by decide) rfl st)
        · have h96 : ¬ i87 < (x0).length := by have := of_decide_eq_false b95; omega
          obtain rfl : r88 = [] := by rw [← h94]; exact List.drop_of_length_le (by omega)
          replace h92 : some (Fl.nx _) = some y80 := h92
          cases h92
          exact GL.exit (fun a w st => mid_intro () h83 (St.cut [0] ⟨rfl, trivial⟩ (by decide) rfl st))
      · rintro ⟨⟩ h160
        have h161 := h84 _ h160
        try dsimp only at h161
        refine GL.weak (env' := [(0, v0)]) (L' := [imm (TR.sl (TR.sl TR.int)) v0 x0]) (fun _ _ st => st) ?_
        refine GL.seq ?_
        refine GL.seq ?_
        refine GL.region ?_
        refine RL.mv rfl rfl rfl ?_
        refine RL.lenS 0 Try.underlying28 rfl rfl rfl rfl SlOf.imm ?_
        refine RL.mv rfl rfl rfl ?_
        refine RL.finG ?_
        refine GL.open_ 0 rfl (fun S h => len_imm S h) (fun n173 => ?_)
        obtain ⟨y174, K175, h176, h177, h178, h179, h180⟩ := bindR_K h161
        refine GL.join (ι := Unit) (fun (p : Unit) => []) (fun (p : Unit) => []) (fun (p : Unit) => K175 (.nx ())) ?_ ?_
        · refine GL.block ?_
          refine GL.loop (ι := Nat × (List (List Int))) (fun (p : Nat × (List (List Int))) => [(0, v0), (42, .int .i64 ((x0).length : Int)), (43, .int .i64 (p.1 : Int))]) (fun (p : Nat × (List (List Int))) => [imm (TR.sl (TR.sl TR.int)) v0 x0]) (fun (p : Nat × (List (List Int))) => p.1 + p.2.length = (x0).length ∧ List.drop p.1 x0 = p.2 ∧ rangeL duel_Check_b3 p.2 p.1 () = some y174) (fun (p : Nat × (List (List Int))) => p.2.length) (0, x0) ⟨by simp, by simp, h176⟩ (fun a w st => St.cut [0] ⟨rfl, rfl, rfl, trivial⟩ (by decide) rfl st) ?_
          rintro ⟨i181, r182⟩ ⟨h187, h188, h186⟩
          try dsimp only at h187 h188 h186
          refine GL.weak (env' := [(0, v0), (42, .int .i64 ((x0).length : Int)), (43, .int .i64 (i181 : Int))]) (L' := [imm (TR.sl (TR.sl TR.int)) v0 x0]) (fun _ _ st => st) ?_
          refine GL.seq ?_
          refine GL.region ?_
          refine RL.binI (v := .bool (decide ((i181 : Int) < ((x0).length : Int)))) rfl rfl rfl rfl rfl ?_
          refine RL.finG ?_
          refine GL.seq ?_
          refine GL.cond rfl (fun b189 => ?_) (fun b189 => ?_)
          · have h190 : i181 < (x0).length := by have := of_decide_eq_true b189; omega
            obtain ⟨y191, r193, hr, e192, h194⟩ := drop_cons h188 rfl h190
            subst hr
            obtain ⟨z183, h184, h185⟩ := rangeL_some h186
            unfold duel_Check_b3 at h184
            try dsimp only at h184
            refine GL.skip ?_
            refine GL.seq ?_
            refine GL.block ?_
            refine GL.seq ?_
            refine GL.region ?_
            refine RL.mv rfl rfl rfl ?_
            refine RL.asg rfl rfl rfl ?_
            refine RL.finG ?_
            refine GL.seq ?_
            refine GL.region ?_
            refine RL.mv rfl rfl rfl ?_
            refine RL.mv rfl rfl rfl ?_
            refine RL.idxS (sz := 1) 0 Try.underlying28 Try_ln22 rfl rfl rfl rfl rfl SlOf.imm (by omega) (by omega) ?_
            refine RL.ldS (i := i181) (r := (TR.sl TR.int)) (e' := y191) 0 Try_ln22 rfl rfl rfl rfl SlOf.imm e192 Part.self ?_
            intro v198
            refine RL.mv rfl rfl rfl ?_
            obtain ⟨y199, e200, h184⟩ := bind_some h184
            refine RL.idxS (sz := 1) 1 Try.underlying22 Try_ln3 rfl rfl rfl rfl rfl SlOf.imm (idx_some e200).1 (idx_some e200).2.1 ?_
            refine RL.ldSx (i := i181) (e' := y199) 1 Ex.ik Try_ln3 rfl rfl rfl rfl SlOf.imm (idx_some e200).2.2 Part.self ?_
            refine RL.binI (v := .bool (y199 != (0 : Int))) rfl rfl rfl rfl rfl ?_
            refine RL.finG ?_
            refine GL.cond rfl (fun b201 => ?_) (fun b201 => ?_)
            · replace h184 := ite_t b201 h184
              refine GL.seq ?_
              refine GL.region ?_
              refine RL.asg rfl rfl rfl ?_
              refine RL.finG ?_
              cases h184
              replace h185 : some (Fl.rt _) = some y174 := h185
              cases h185
              have hh := h179 _ h177
              subst hh
              exact GL.ret (Gx.ret (v := .int .i64 (3 : Int)) (res1 rfl rfl) (fun a w st => st.toPostC rfl))
            · replace h184 := ite_f b201 h184
              refine GL.skip ?_
              refine GL.nilB ?_
              refine GL.region ?_
              refine RL.binI (v := .int .i64 ((i181 + 1 : Nat) : Int)) rfl rfl rfl rfl (binI_succ i181 (by omega)) ?_
              refine RL.mv rfl rfl rfl ?_
              refine RL.fin ?_
              cases h184
              exact fun a w st => lop_intro (i181 + 1, r193) ⟨by show i181 + 1 + r193.length = (x0).length; simp only [List.length_cons] at h187; omega, h194, h185⟩ (by simp) (St.cut [0] ⟨rfl, rfl, rfl, trivial⟩ (by decide) rfl st)
          · have h190 : ¬ i181 < (x0).length := by have := of_decide_eq_false b189; omega
            obtain rfl : r182 = [] := by rw [← h188]; exact List.drop_of_length_le (by omega)
            replace h186 : some (Fl.nx _) = some y174 := h186
            cases h186
            exact GL.exit (fun a w st => mid_intro () h177 (St.cut [] trivial (by decide) rfl st))
        · rintro ⟨⟩ h202
          have h203 := h178 _ h202
          try dsimp only at h203
          refine GL.weak (env' := []) (L' := []) (fun _ _ st => st) ?_
          refine GL.seq ?_
          refine GL.region ?_
          refine RL.asg rfl rfl rfl ?_
          refine RL.finG ?_
          have h203 := Option.some.inj h203
          subst h203
          exact GL.ret (Gx.ret (v := .int .i64 (0 : Int)) (res1 rfl rfl) (fun a w st => st.toPostC rfl))

set_option maxHeartbeats 4000000 in
theorem duel_Top_c (S : Hp) (w : World) (hS : S.sub w) (v0 : Value) (x0 : (List (List Int))) (k0 : ((TR.sl (TR.sl TR.int))).vrep S v0 x0) (res : (List Int) × Int) (hm : duel_Top_m x0 = some res) : Calls Try.prog 38 #[v0] w (Post w S (fun (o : Value) => .tuple #[o, .int .i64 res.2]) (fun (o : Value) => [own 3 TR.int o res.1])) := by
  refine calls_enter 133 Try.func38 Try.ntmps38 rfl S false [(0, v0)] [imm (TR.sl (TR.sl TR.int)) v0 x0] rfl ⟨rfl, trivial⟩ hS ⟨k0, trivial⟩ ?_
  unfold duel_Top_m at hm
  refine GL.seq ?_
  refine GL.region ?_
  refine RL.asg rfl rfl rfl ?_
  refine RL.asg rfl rfl rfl ?_
  refine RL.finG ?_
  refine GL.seq ?_
  refine GL.seq ?_
  refine GL.region ?_
  refine RL.mv rfl rfl rfl ?_
  obtain ⟨y4, e5, hm⟩ := bind_some hm
  refine RL.callC (v := .int .i64 y4) (vs := [v0]) Try_fit60 rfl rfl rfl rfl (fun U w hU hW hL => duel_Check_c U w hU _ _ (hL 0 _ _ rfl Seen.imm) _ e5) ?_
  refine RL.asg rfl rfl rfl ?_
  refine RL.finG ?_
  refine GL.seq ?_
  refine GL.region ?_
  refine RL.mv rfl rfl rfl ?_
  refine RL.binI (v := .bool (y4 != (0 : Int))) rfl rfl rfl rfl rfl ?_
  refine RL.finG ?_
  refine GL.cond rfl (fun b6 => ?_) (fun b6 => ?_)
  · replace hm := ite_t b6 hm
    refine GL.seq ?_
    refine GL.region ?_
    refine RL.mv rfl rfl rfl ?_
    refine RL.asg rfl rfl rfl ?_
    refine RL.asg rfl rfl rfl ?_
    refine RL.finG ?_
    refine GL.weak (fun a w st => st.nilOwn 3 TR.int) ?_
    have hm := Option.some.inj hm
    subst hm
    exact GL.ret (Gx.ret (v := .tuple #[Value.slice none 0 0, .int .i64 y4]) (res2 rfl rfl rfl) (fun a w st => (st.pick [1] (by decide) rfl).toPost (Value.slice none 0 0)))
  · replace hm := ite_f b6 hm
    refine GL.skip ?_
    refine GL.seq ?_
    refine GL.region ?_
    refine RL.mv rfl rfl rfl ?_
    refine RL.lenS 0 Try.underlying28 rfl rfl rfl rfl SlOf.imm ?_
    refine RL.asg rfl rfl rfl ?_
    refine RL.finG ?_
    refine GL.seq ?_
    refine GL.region ?_
    refine RL.mv rfl rfl rfl ?_
    obtain ⟨y10, e11, hm⟩ := bind_some hm
    replace e11 := chk_some e11
    refine RL.mkS (t := TR.raw) (z := .slice none 0 0) Try.underlying28 Try_lo22 (fun S => ⟨rfl, rfl⟩) rfl rfl rfl rfl e11.1 e11.2 ?_
    intro v12
    refine RL.weak (fun a w st => st.toRows 3 TR.int 1 rfl) ?_
    refine RL.reL (L' := [imm (TR.sl (TR.sl TR.int)) v0 x0, own2 22 3 TR.int v12 (List.replicate (((x0).length : Int)).toNat (Value.slice none 0 0)) (List.replicate (((x0).length : Int)).toNat ([] : (List Int)))]) rfl ?_
    refine RL.asg rfl rfl rfl ?_
    refine RL.finG ?_
    refine GL.seq ?_
    refine GL.seq ?_
    refine GL.region ?_
    refine RL.mv rfl rfl rfl ?_
    refine RL.lenR 1 Try.underlying28 rfl rfl rfl rfl ?_
    refine RL.mv rfl rfl rfl ?_
    refine RL.finG ?_
    refine GL.lenR 1 rfl (fun n387 => ?_)
    obtain ⟨y388, K389, h390, h391, h392, h393, h394⟩ := bindR_K hm
    refine GL.join (ι := (List (List Int)) × (List Value)) (fun (p : (List (List Int)) × (List Value)) => [(5, .int .i64 ((x0).length : Int)), (6, v12)]) (fun (p : (List (List Int)) × (List Value)) => [own2 22 3 TR.int v12 p.2 p.1]) (fun (p : (List (List Int)) × (List Value)) => K389 (.nx p.1)) ?_ ?_
    · refine GL.block ?_
      refine GL.loop (ι := Nat × Nat × (List (List Int)) × (List Value)) (fun (p : Nat × Nat × (List (List Int)) × (List Value)) => [(0, v0), (5, .int .i64 ((x0).length : Int)), (6, v12), (26, .int .i64 (((List.replicate (((x0).length : Int)).toNat ([] : (List Int)))).length : Int)), (27, .int .i64 (p.1 : Int))]) (fun (p : Nat × Nat × (List (List Int)) × (List Value)) => [imm (TR.sl (TR.sl TR.int)) v0 x0, own2 22 3 TR.int v12 p.2.2.2 p.2.2.1]) (fun (p : Nat × Nat × (List (List Int)) × (List Value)) => p.1 + p.2.1 = ((List.replicate (((x0).length : Int)).toNat ([] : (List Int)))).length ∧ rangeN (duel_Top_b1 x0) p.2.1 p.1 p.2.2.1 = some y388) (fun (p : Nat × Nat × (List (List Int)) × (List Value)) => p.2.1) (0, ((List.replicate (((x0).length : Int)).toNat ([] : (List Int)))).length, (List.replicate (((x0).length : Int)).toNat ([] : (List Int))), (List.replicate (((x0).length : Int)).toNat (Value.slice none 0 0))) ⟨by simp, h390⟩ (fun a w st => St.cut [0, 1] ⟨rfl, rfl, rfl, rfl, rfl, trivial⟩ (by decide) rfl st) ?_
      rintro ⟨i395, r396, l199, V200⟩ ⟨h401, h400⟩
      try dsimp only at h401 h400
      refine GL.weak (env' := [(0, v0), (5, .int .i64 ((x0).length : Int)), (6, v12), (26, .int .i64 (((List.replicate (((x0).length : Int)).toNat ([] : (List Int)))).length : Int)), (27, .int .i64 (i395 : Int))]) (L' := [imm (TR.sl (TR.sl TR.int)) v0 x0, own2 22 3 TR.int v12 V200 l199]) (fun _ _ st => st) ?_
      refine GL.seq ?_
      refine GL.region ?_
      refine RL.binI (v := .bool (decide ((i395 : Int) < (((List.replicate (((x0).length : Int)).toNat ([] : (List Int)))).length : Int)))) rfl rfl rfl rfl rfl ?_
      refine RL.finG ?_
      refine GL.seq ?_
      refine GL.cond rfl (fun b403 => ?_) (fun b403 => ?_)
      · have h404 : i395 < ((List.replicate (((x0).length : Int)).toNat ([] : (List Int)))).length := by have := of_decide_eq_true b403; omega
        obtain ⟨r405, hr⟩ : ∃ m, r396 = m + 1 := ⟨r396 - 1, by omega⟩
        subst hr
        obtain ⟨z397, h398, h399⟩ := rangeN_some h400
        unfold duel_Top_b1 at h398
        try dsimp only at h398
        refine GL.skip ?_
        refine GL.seq ?_
        refine GL.block ?_
        refine GL.seq ?_
        refine GL.region ?_
        refine RL.mv rfl rfl rfl ?_
        refine RL.asg rfl rfl rfl ?_
        refine RL.finG ?_
        refine GL.seq ?_
        refine GL.region ?_
        refine RL.mv rfl rfl rfl ?_
        refine RL.mv rfl rfl rfl ?_
        refine RL.mv rfl rfl rfl ?_
        obtain ⟨y411, e412, h398⟩ := bind_some h398
        replace e412 := chk_some e412
        refine RL.mkS (t := TR.int) (z := (0 : Int)) Try.underlying22 Try_lo3 (fun S => rfl) rfl rfl rfl rfl e412.1 e412.2 ?_
        intro v413
        obtain ⟨y414, e415, h398⟩ := bind_some h398
        refine RL.idxR 1 Try.underlying28 Try_ln22 rfl rfl rfl rfl rfl (idx_some e415).1 (idx_some e415).2.1 ?_
        refine RL.stSp (i := i395) (r0 := y414) 1 2 (by decide) Try_ln22 rfl rfl rfl rfl rfl rfl (idx_some e415).2.2 ?_
        refine RL.reL (L' := [imm (TR.sl (TR.sl TR.int)) v0 x0, own2 22 3 TR.int v12 (List.set V200 i395 v413) (List.set l199 i395 (List.replicate (((x0).length : Int)).toNat (0 : Int))), gone]) rfl ?_
        refine RL.finG ?_
        refine GL.seq ?_
        refine GL.region ?_
        refine RL.mv rfl rfl rfl ?_
        refine RL.mv rfl rfl rfl ?_
        refine RL.finG ?_
        refine GL.open_ 0 rfl (fun S h => len_imm S h) (fun n522 => ?_)
        obtain ⟨y523, K524, h525, h526, h527, h528, h529⟩ := bindF_K h398
        refine GL.join (ι := (List (List Int)) × (List Value)) (fun (p : (List (List Int)) × (List Value)) => [(0, v0), (5, .int .i64 ((x0).length : Int)), (6, v12), (26, .int .i64 (((List.replicate (((x0).length : Int)).toNat ([] : (List Int)))).length : Int)), (27, .int .i64 (i395 : Int))]) (fun (p : (List (List Int)) × (List Value)) => [imm (TR.sl (TR.sl TR.int)) v0 x0, own2 22 3 TR.int v12 p.2 p.1]) (fun (p : (List (List Int)) × (List Value)) => K524 (.nx p.1)) ?_ ?_
        · refine GL.block ?_
          refine GL.loop (ι := Nat × (List (List Int)) × (List (List Int)) × (List Value)) (fun (p : Nat × (List (List Int)) × (List (List Int)) × (List Value)) => [(0, v0), (5, .int .i64 ((x0).length : Int)), (6, v12), (7, .int .i64 (i395 : Int)), (26, .int .i64 (((List.replicate (((x0).length : Int)).toNat ([] : (List Int)))).length : Int)), (27, .int .i64 (i395 : Int)), (35, .int .i64 ((x0).length : Int)), (36, .int .i64 (p.1 : Int))]) (fun (p : Nat × (List (List Int)) × (List (List Int)) × (List Value)) => [imm (TR.sl (TR.sl TR.int)) v0 x0, own2 22 3 TR.int v12 p.2.2.2 p.2.2.1]) (fun (p : Nat × (List (List Int)) × (List (List Int)) × (List Value)) => p.1 + p.2.1.length = (x0).length ∧ List.drop p.1 x0 = p.2.1 ∧ rangeL (duel_Top_b2 i395 x0) p.2.1 p.1 p.2.2.1 = some y523) (fun (p : Nat × (List (List Int)) × (List (List Int)) × (List Value)) => p.2.1.length) (0, x0, (List.set l199 i395 (List.replicate (((x0).length : Int)).toNat (0 : Int))), (List.set V200 i395 v413)) ⟨by simp, by simp, h525⟩ (fun a w st => St.cut [0, 1] ⟨rfl, rfl, rfl, rfl, rfl, rfl, rfl, rfl, trivial⟩ (by decide) rfl st) ?_
          rintro ⟨i530, r531, l468, V469⟩ ⟨h536, h537, h535⟩
          try dsimp only at h536 h537 h535
          refine GL.weak (env' := [(0, v0), (5, .int .i64 ((x0).length : Int)), (6, v12), (7, .int .i64 (i395 : Int)), (26, .int .i64 (((List.replicate (((x0).length : Int)).toNat ([] : (List Int)))).length : Int)), (27, .int .i64 (i395 : Int)), (35, .int .i64 ((x0).length : Int)), (36, .int .i64 (i530 : Int))]) (L' := [imm (TR.sl (TR.sl TR.int)) v0 x0, own2 22 3 TR.int v12 V469 l468]) (fun _ _ st => st) ?_
          refine GL.seq ?_
          refine GL.region ?_
          refine RL.binI (v := .bool (decide ((i530 : Int) < ((x0).length : Int)))) rfl rfl rfl rfl rfl ?_
          refine RL.finG ?_
          refine GL.seq ?_
          refine GL.cond rfl (fun b538 => ?_) (fun b538 => ?_)
          · have h539 : i530 < (x0).length := by have := of_decide_eq_true b538; omega
            obtain ⟨y540, r542, hr, e541, h543⟩ := drop_cons h537 rfl h539
            subst hr
            obtain ⟨z532, h533, h534⟩ := rangeL_some h535
            unfold duel_Top_b2 at h533
            try dsimp only at h533
            refine GL.skip ?_
            refine GL.seq ?_
            refine GL.block ?_
            refine GL.seq ?_
            refine GL.region ?_
            refine RL.mv rfl rfl rfl ?_
            refine RL.asg rfl rfl rfl ?_
            refine RL.finG ?_
            refine GL.seq ?_
            obtain ⟨y563, K564, h565, h566, h567, h568, h569⟩ := bindF_K h533
            refine GL.join (ι := Bool) (fun (p : Bool) => [(0, v0), (5, .int .i64 ((x0).length : Int)), (6, v12), (7, .int .i64 (i395 : Int)), (8, .int .i64 (i530 : Int)), (26, .int .i64 (((List.replicate (((x0).length : Int)).toNat ([] : (List Int)))).length : Int)), (27, .int .i64 (i395 : Int)), (35, .int .i64 ((x0).length : Int)), (36, .int .i64 (i530 : Int)), (58, .bool p)]) (fun (p : Bool) => [imm (TR.sl (TR.sl TR.int)) v0 x0, own2 22 3 TR.int v12 V469 l468]) (fun (p : Bool) => K564 (.nx p)) ?_ ?_
            · skip
              refine GL.regionQ rfl rfl (by kernel_rfl) ?_
              refine RL.mv rfl rfl rfl ?_
              refine RL.mv rfl rfl rfl ?_
              refine RL.binI (v := .bool ((i395 : Int) == (i530 : Int))) rfl rfl rfl rfl rfl ?_
              refine RL.mv rfl rfl rfl ?_
              refine RL.split (t := 42) rfl (fun b570 => ?_) (fun b570 => ?_)
              · replace h565 := ite_t b570 h565
                refine RL.skip rfl rfl ?_
                refine RL.skip rfl rfl ?_
                refine RL.skip rfl rfl ?_
                refine RL.skip rfl rfl ?_
                refine RL.skip rfl rfl ?_
                refine RL.skip rfl rfl ?_
                refine RL.skip rfl rfl ?_
                refine RL.skip rfl rfl ?_
                refine RL.skip rfl rfl ?_
                refine RL.skip rfl rfl ?_
                refine RL.skip rfl rfl ?_
                refine RL.skip rfl rfl ?_
                refine RL.skip rfl rfl ?_
                refine RL.skip rfl rfl ?_
                refine RL.skip rfl rfl ?_
                refine RL.pickT rfl rfl rfl rfl ?_
                refine RL.finQ ?_
                cases h565
                exact fun a w st => mid_intro true h566 (St.cut [0, 1] ⟨rfl, rfl, rfl, rfl, rfl, rfl, rfl, rfl, rfl, rfl, trivial⟩ (by decide) rfl st)
              · replace h565 := ite_f b570 h565
                refine RL.mv rfl rfl rfl ?_
                refine RL.mv rfl rfl rfl ?_
                obtain ⟨y571, e572, h565⟩ := bind_some h565
                refine RL.idxS (sz := 1) 0 Try.underlying28 Try_ln22 rfl rfl rfl rfl rfl SlOf.imm (idx_some e572).1 (idx_some e572).2.1 ?_
                refine RL.ldS (i := i395) (r := (TR.sl TR.int)) (e' := y571) 0 Try_ln22 rfl rfl rfl rfl SlOf.imm (idx_some e572).2.2 Part.self ?_
                intro v573
                refine RL.mv rfl rfl rfl ?_
                obtain ⟨y574, e575, h565⟩ := bind_some h565
                refine RL.idxS (sz := 1) 2 Try.underlying22 Try_ln3 rfl rfl rfl rfl rfl SlOf.imm (idx_some e575).1 (idx_some e575).2.1 ?_
                refine RL.ldSx (i := i530) (e' := y574) 2 Ex.ik Try_ln3 rfl rfl rfl rfl SlOf.imm (idx_some e575).2.2 Part.self ?_
                refine RL.mv rfl rfl rfl ?_
                refine RL.mv rfl rfl rfl ?_
                refine RL.idxS (sz := 1) 0 Try.underlying28 Try_ln22 rfl rfl rfl rfl rfl SlOf.imm (by omega) (by omega) ?_
                refine RL.ldS (i := i530) (r := (TR.sl TR.int)) (e' := y540) 0 Try_ln22 rfl rfl rfl rfl SlOf.imm e541 Part.self ?_
                intro v576
                refine RL.reL (L' := [imm (TR.sl (TR.sl TR.int)) v0 x0, own2 22 3 TR.int v12 V469 l468, imm (TR.sl TR.int) v573 y571, imm (TR.sl TR.int) v576 y540]) rfl ?_
                refine RL.mv rfl rfl rfl ?_
                obtain ⟨y577, e578, h565⟩ := bind_some h565
                refine RL.idxS (sz := 1) 3 Try.underlying22 Try_ln3 rfl rfl rfl rfl rfl SlOf.imm (idx_some e578).1 (idx_some e578).2.1 ?_
                refine RL.ldSx (i := i395) (e' := y577) 3 Ex.ik Try_ln3 rfl rfl rfl rfl SlOf.imm (idx_some e578).2.2 Part.self ?_
                refine RL.binI (v := .bool (decide (y574 ≥ y577))) rfl rfl rfl rfl rfl ?_
                refine RL.pickF rfl rfl rfl rfl ?_
                refine RL.finQ ?_
                cases h565
                exact fun a w st => mid_intro (decide (y574 ≥ y577)) h566 (St.cut [0, 1] ⟨rfl, rfl, rfl, rfl, rfl, rfl, rfl, rfl, rfl, rfl, trivial⟩ (by decide) rfl st)
            · rintro x562 h579
              have h580 := h567 _ h579
              try dsimp only at h580
              refine GL.weak (env' := [(0, v0), (5, .int .i64 ((x0).length : Int)), (6, v12), (7, .int .i64 (i395 : Int)), (8, .int .i64 (i530 : Int)), (26, .int .i64 (((List.replicate (((x0).length : Int)).toNat ([] : (List Int)))).length : Int)), (27, .int .i64 (i395 : Int)), (35, .int .i64 ((x0).length : Int)), (36, .int .i64 (i530 : Int)), (58, .bool x562)]) (L' := [imm (TR.sl (TR.sl TR.int)) v0 x0, own2 22 3 TR.int v12 V469 l468]) (fun _ _ st => st) ?_
              refine GL.cond rfl (fun b581 => ?_) (fun b581 => ?_)
              · replace h580 := ite_t b581 h580
                refine GL.region ?_
                refine RL.mv rfl rfl rfl ?_
                refine RL.mv rfl rfl rfl ?_
                obtain ⟨y586, e587, h580⟩ := bind_some h580
                refine RL.idxR 1 Try.underlying28 Try_ln22 rfl rfl rfl rfl rfl (idx_some e587).1 (idx_some e587).2.1 ?_
                refine RL.ldR (i := i395) (r := y586) 1 Try_ln22 rfl rfl rfl rfl (idx_some e587).2.2 ?_
                refine RL.mv rfl rfl rfl ?_
                obtain ⟨y588, e589, h580⟩ := bind_some h580
                refine RL.idxS (sz := 1) 1 Try.underlying22 Try_ln3 rfl rfl rfl rfl rfl (SlOf.row (idx_some e587).2.2) (idx_some e589).1 (idx_some e589).2.1 ?_
                refine RL.stR (i := i395) (j := i530) (row := y586) (e' := (1 : Int)) (e1 := (1 : Int)) (r := TR.int) 1 Try_ln3 rfl rfl rfl rfl VR.int rfl (idx_some e587).2.2 (idx_some e589).2.2 Upd.self ?_
                refine RL.finG ?_
                refine GL.nilB ?_
                refine GL.region ?_
                refine RL.binI (v := .int .i64 ((i530 + 1 : Nat) : Int)) rfl rfl rfl rfl (binI_succ i530 (by omega)) ?_
                refine RL.mv rfl rfl rfl ?_
                refine RL.fin ?_
                cases h580
                exact fun a w st => lop_intro (i530 + 1, r542, (List.set l468 i395 (List.set y586 i530 (1 : Int))), V469) ⟨by show i530 + 1 + r542.length = (x0).length; simp only [List.length_cons] at h536; omega, h543, h534⟩ (by simp) (St.cut [0, 1] ⟨rfl, rfl, rfl, rfl, rfl, rfl, rfl, rfl, trivial⟩ (by decide) rfl st)
              · replace h580 := ite_f b581 h580
                refine GL.skip ?_
                refine GL.nilB ?_
                refine GL.region ?_
                refine RL.binI (v := .int .i64 ((i530 + 1 : Nat) : Int)) rfl rfl rfl rfl (binI_succ i530 (by omega)) ?_
                refine RL.mv rfl rfl rfl ?_
                refine RL.fin ?_
                cases h580
                exact fun a w st => lop_intro (i530 + 1, r542, l468, V469) ⟨by show i530 + 1 + r542.length = (x0).length; simp only [List.length_cons] at h536; omega, h543, h534⟩ (by simp) (St.cut [0, 1] ⟨rfl, rfl, rfl, rfl, rfl, rfl, rfl, rfl, trivial⟩ (by decide) rfl st)
          · have h539 : ¬ i530 < (x0).length := by have := of_decide_eq_false b538; omega
            obtain rfl : r531 = [] := by rw [← h537]; exact List.drop_of_length_le (by omega)
            replace h535 : some (Fl.nx _) = some y523 := h535
            cases h535
            exact GL.exit (fun a w st => mid_intro (l468, V469) h526 (St.cut [0, 1] ⟨rfl, rfl, rfl, rfl, rfl, trivial⟩ (by decide) rfl st))
        · rintro ⟨l468, V469⟩ h590
          have h591 := h527 _ h590
          try dsimp only at h591
          refine GL.weak (env' := [(0, v0), (5, .int .i64 ((x0).length : Int)), (6, v12), (26, .int .i64 (((List.replicate (((x0).length : Int)).toNat ([] : (List Int)))).length : Int)), (27, .int .i64 (i395 : Int))]) (L' := [imm (TR.sl (TR.sl TR.int)) v0 x0, own2 22 3 TR.int v12 V469 l468]) (fun _ _ st => st) ?_
          refine GL.nilB ?_
          refine GL.region ?_
          refine RL.binI (v := .int .i64 ((i395 + 1 : Nat) : Int)) rfl rfl rfl rfl (binI_succ i395 (by omega)) ?_
          refine RL.mv rfl rfl rfl ?_
          refine RL.fin ?_
          cases h591
          exact fun a w st => lop_intro (i395 + 1, r405, l468, V469) ⟨by show i395 + 1 + r405 = ((List.replicate (((x0).length : Int)).toNat ([] : (List Int)))).length; omega, h399⟩ (by simp) (St.cut [0, 1] ⟨rfl, rfl, rfl, rfl, rfl, trivial⟩ (by decide) rfl st)
      · have h404 : ¬ i395 < ((List.replicate (((x0).length : Int)).toNat ([] : (List Int)))).length := by have := of_decide_eq_false b403; omega
        obtain rfl : r396 = 0 := by omega
        replace h400 : some (Fl.nx _) = some y388 := h400
        cases h400
        exact GL.exit (fun a w st => mid_intro (l199, V200) h391 (St.cut [1] ⟨rfl, rfl, trivial⟩ (by decide) rfl st))
    · rintro ⟨l199, V200⟩ h592
      have h593 := h392 _ h592
      try dsimp only at h593
      refine GL.weak (env' := [(5, .int .i64 ((x0).length : Int)), (6, v12)]) (L' := [own2 22 3 TR.int v12 V200 l199]) (fun _ _ st => st) ?_
      refine GL.seq ?_
      refine GL.seq ?_
      refine GL.region ?_
      refine RL.mv rfl rfl rfl ?_
      refine RL.mv rfl rfl rfl ?_
      refine RL.finG ?_
      obtain ⟨y1625, e1626, h593⟩ := bind_some h593
      replace e1626 := chk_some e1626
      obtain ⟨y1627, K1628, h1629, h1630, h1631, h1632, h1633⟩ := bindR_K h593
      refine GL.join (ι := (List (List Int)) × (List Value)) (fun (p : (List (List Int)) × (List Value)) => [(5, .int .i64 ((x0).length : Int)), (6, v12)]) (fun (p : (List (List Int)) × (List Value)) => [own2 22 3 TR.int v12 p.2 p.1]) (fun (p : (List (List Int)) × (List Value)) => K1628 (.nx p.1)) ?_ ?_
      · refine GL.block ?_
        refine GL.loop (ι := Nat × Nat × (List (List Int)) × (List Value)) (fun (p : Nat × Nat × (List (List Int)) × (List Value)) => [(5, .int .i64 ((x0).length : Int)), (6, v12), (67, .int .i64 ((x0).length : Int)), (68, .int .i64 (p.1 : Int))]) (fun (p : Nat × Nat × (List (List Int)) × (List Value)) => [own2 22 3 TR.int v12 p.2.2.2 p.2.2.1]) (fun (p : Nat × Nat × (List (List Int)) × (List Value)) => p.1 + p.2.1 = (((x0).length : Int)).toNat ∧ rangeN (duel_Top_b3 x0) p.2.1 p.1 p.2.2.1 = some y1627) (fun (p : Nat × Nat × (List (List Int)) × (List Value)) => p.2.1) (0, (((x0).length : Int)).toNat, l199, V200) ⟨by simp, h1629⟩ (fun a w st => St.cut [0] ⟨rfl, rfl, rfl, rfl, trivial⟩ (by decide) rfl st) ?_
        rintro ⟨i1634, r1635, l1108, V1109⟩ ⟨h1640, h1639⟩
        try dsimp only at h1640 h1639
        refine GL.weak (env' := [(5, .int .i64 ((x0).length : Int)), (6, v12), (67, .int .i64 ((x0).length : Int)), (68, .int .i64 (i1634 : Int))]) (L' := [own2 22 3 TR.int v12 V1109 l1108]) (fun _ _ st => st) ?_
        refine GL.seq ?_
        refine GL.region ?_
        refine RL.binI (v := .bool (decide ((i1634 : Int) < ((x0).length : Int)))) rfl rfl rfl rfl rfl ?_
        refine RL.finG ?_
        refine GL.seq ?_
        refine GL.cond rfl (fun b1642 => ?_) (fun b1642 => ?_)
        · have h1643 : i1634 < (((x0).length : Int)).toNat := by have := of_decide_eq_true b1642; omega
          obtain ⟨r1644, hr⟩ : ∃ m, r1635 = m + 1 := ⟨r1635 - 1, by omega⟩
          subst hr
          obtain ⟨z1636, h1637, h1638⟩ := rangeN_some h1639
          unfold duel_Top_b3 at h1637
          try dsimp only at h1637
          refine GL.skip ?_
          refine GL.seq ?_
          refine GL.block ?_
          refine GL.seq ?_
          refine GL.region ?_
          refine RL.mv rfl rfl rfl ?_
          refine RL.asg rfl rfl rfl ?_
          refine RL.finG ?_
          refine GL.seq ?_
          refine GL.region ?_
          refine RL.mv rfl rfl rfl ?_
          refine RL.mv rfl rfl rfl ?_
          refine RL.finG ?_
          obtain ⟨y1974, e1975, h1637⟩ := bind_some h1637
          replace e1975 := chk_some e1975
          obtain ⟨y1976, K1977, h1978, h1979, h1980, h1981, h1982⟩ := bindF_K h1637
          refine GL.join (ι := (List (List Int)) × (List Value)) (fun (p : (List (List Int)) × (List Value)) => [(5, .int .i64 ((x0).length : Int)), (6, v12), (67, .int .i64 ((x0).length : Int)), (68, .int .i64 (i1634 : Int))]) (fun (p : (List (List Int)) × (List Value)) => [own2 22 3 TR.int v12 p.2 p.1]) (fun (p : (List (List Int)) × (List Value)) => K1977 (.nx p.1)) ?_ ?_
          · refine GL.block ?_
            refine GL.loop (ι := Nat × Nat × (List (List Int)) × (List Value)) (fun (p : Nat × Nat × (List (List Int)) × (List Value)) => [(5, .int .i64 ((x0).length : Int)), (6, v12), (9, .int .i64 (i1634 : Int)), (67, .int .i64 ((x0).length : Int)), (68, .int .i64 (i1634 : Int)), (71, .int .i64 ((x0).length : Int)), (72, .int .i64 (p.1 : Int))]) (fun (p : Nat × Nat × (List (List Int)) × (List Value)) => [own2 22 3 TR.int v12 p.2.2.2 p.2.2.1]) (fun (p : Nat × Nat × (List (List Int)) × (List Value)) => p.1 + p.2.1 = (((x0).length : Int)).toNat ∧ rangeN (duel_Top_b4 x0 i1634) p.2.1 p.1 p.2.2.1 = some y1976) (fun (p : Nat × Nat × (List (List Int)) × (List Value)) => p.2.1) (0, (((x0).length : Int)).toNat, l1108, V1109) ⟨by simp, h1978⟩ (fun a w st => St.cut [0] ⟨rfl, rfl, rfl, rfl, rfl, rfl, rfl, trivial⟩ (by decide) rfl st) ?_
            rintro ⟨i1983, r1984, l1808, V1809⟩ ⟨h1989, h1988⟩
            try dsimp only at h1989 h1988
            refine GL.weak (env' := [(5, .int .i64 ((x0).length : Int)), (6, v12), (9, .int .i64 (i1634 : Int)), (67, .int .i64 ((x0).length : Int)), (68, .int .i64 (i1634 : Int)), (71, .int .i64 ((x0).length : Int)), (72, .int .i64 (i1983 : Int))]) (L' := [own2 22 3 TR.int v12 V1809 l1808]) (fun _ _ st => st) ?_
            refine GL.seq ?_
            refine GL.region ?_
            refine RL.binI (v := .bool (decide ((i1983 : Int) < ((x0).length : Int)))) rfl rfl rfl rfl rfl ?_
            refine RL.finG ?_
            refine GL.seq ?_
            refine GL.cond rfl (fun b1991 => ?_) (fun b1991 => ?_)
            · have h1992 : i1983 < (((x0).length : Int)).toNat := by have := of_decide_eq_true b1991; omega
              obtain ⟨r1993, hr⟩ : ∃ m, r1984 = m + 1 := ⟨r1984 - 1, by omega⟩
              subst hr
              obtain ⟨z1985, h1986, h1987⟩ := rangeN_some h1988
              unfold duel_Top_b4 at h1986
              try dsimp only at h1986
              refine GL.skip ?_
              refine GL.seq ?_
              refine GL.block ?_
              refine GL.seq ?_
              refine GL.region ?_
              refine RL.mv rfl rfl rfl ?_
              refine RL.asg rfl rfl rfl ?_
              refine RL.finG ?_
              refine GL.seq ?_
              refine GL.region ?_
              refine RL.mv rfl rfl rfl ?_
              refine RL.mv rfl rfl rfl ?_
              refine RL.finG ?_
              obtain ⟨y2089, e2090, h1986⟩ := bind_some h1986
              replace e2090 := chk_some e2090
              obtain ⟨y2091, K2092, h2093, h2094, h2095, h2096, h2097⟩ := bindF_K h1986
              refine GL.join (ι := (List (List Int)) × (List Value)) (fun (p : (List (List Int)) × (List Value)) => [(5, .int .i64 ((x0).length : Int)), (6, v12), (9, .int .i64 (i1634 : Int)), (67, .int .i64 ((x0).length : Int)), (68, .int .i64 (i1634 : Int)), (71, .int .i64 ((x0).length : Int)), (72, .int .i64 (i1983 : Int))]) (fun (p : (List (List Int)) × (List Value)) => [own2 22 3 TR.int v12 p.2 p.1]) (fun (p : (List (List Int)) × (List Value)) => K2092 (.nx p.1)) ?_ ?_
              · refine GL.block ?_
                refine GL.loop (ι := Nat × Nat × (List (List Int)) × (List Value)) (fun (p : Nat × Nat × (List (List Int)) × (List Value)) => [(5, .int .i64 ((x0).length : Int)), (6, v12), (9, .int .i64 (i1634 : Int)), (10, .int .i64 (i1983 : Int)), (67, .int .i64 ((x0).length : Int)), (68, .int .i64 (i1634 : Int)), (71, .int .i64 ((x0).length : Int)), (72, .int .i64 (i1983 : Int)), (75, .int .i64 ((x0).length : Int)), (76, .int .i64 (p.1 : Int))]) (fun (p : Nat × Nat × (List (List Int)) × (List Value)) => [own2 22 3 TR.int v12 p.2.2.2 p.2.2.1]) (fun (p : Nat × Nat × (List (List Int)) × (List Value)) => p.1 + p.2.1 = (((x0).length : Int)).toNat ∧ rangeN (duel_Top_b5 i1983 i1634) p.2.1 p.1 p.2.2.1 = some y2091) (fun (p : Nat × Nat × (List (List Int)) × (List Value)) => p.2.1) (0, (((x0).length : Int)).toNat, l1808, V1809) ⟨by simp, h2093⟩ (fun a w st => St.cut [0] ⟨rfl, rfl, rfl, rfl, rfl, rfl, rfl, rfl, rfl, rfl, trivial⟩ (by decide) rfl st) ?_
                rintro ⟨i2098, r2099, l2040, V2041⟩ ⟨h2104, h2103⟩
                try dsimp only at h2104 h2103
                refine GL.weak (env' := [(5, .int .i64 ((x0).length : Int)), (6, v12), (9, .int .i64 (i1634 : Int)), (10, .int .i64 (i1983 : Int)), (67, .int .i64 ((x0).length : Int)), (68, .int .i64 (i1634 : Int)), (71, .int .i64 ((x0).length : Int)), (72, .int .i64 (i1983 : Int)), (75, .int .i64 ((x0).length : Int)), (76, .int .i64 (i2098 : Int))]) (L' := [own2 22 3 TR.int v12 V2041 l2040]) (fun _ _ st => st) ?_
                refine GL.seq ?_
                refine GL.region ?_
                refine RL.binI (v := .bool (decide ((i2098 : Int) < ((x0).length : Int)))) rfl rfl rfl rfl rfl ?_
                refine RL.finG ?_
                refine GL.seq ?_
                refine GL.cond rfl (fun b2106 => ?_) (fun b2106 => ?_)
                · have h2107 : i2098 < (((x0).length : Int)).toNat := by have := of_decide_eq_true b2106; omega
                  obtain ⟨r2108, hr⟩ : ∃ m, r2099 = m + 1 := ⟨r2099 - 1, by omega⟩
                  subst hr
                  obtain ⟨z2100, h2101, h2102⟩ := rangeN_some h2103
                  unfold duel_Top_b5 at h2101
                  try dsimp only at h2101
                  refine GL.skip ?_
                  refine GL.seq ?_
                  refine GL.block ?_
                  refine GL.seq ?_
                  refine GL.region ?_
                  refine RL.mv rfl rfl rfl ?_
                  refine RL.asg rfl rfl rfl ?_
                  refine RL.finG ?_
                  refine GL.seq ?_
                  obtain ⟨y2128, K2129, h2130, h2131, h2132, h2133, h2134⟩ := bindF_K h2101
                  refine GL.join (ι := Bool) (fun (p : Bool) => [(5, .int .i64 ((x0).length : Int)), (6, v12), (9, .int .i64 (i1634 : Int)), (10, .int .i64 (i1983 : Int)), (11, .int .i64 (i2098 : Int)), (67, .int .i64 ((x0).length : Int)), (68, .int .i64 (i1634 : Int)), (71, .int .i64 ((x0).length : Int)), (72, .int .i64 (i1983 : Int)), (75, .int .i64 ((x0).length : Int)), (76, .int .i64 (i2098 : Int)), (96, .bool p)]) (fun (p : Bool) => [own2 22 3 TR.int v12 V2041 l2040]) (fun (p : Bool) => K2129 (.nx p)) ?_ ?_
                  · skip
                    refine GL.region ?_
                    refine RL.mv rfl rfl rfl ?_
                    refine RL.mv rfl rfl rfl ?_
                    obtain ⟨y2135, e2136, h2130⟩ := bind_some h2130
                    refine RL.idxR 0 Try.underlying28 Try_ln22 rfl rfl rfl rfl rfl (idx_some e2136).1 (idx_some e2136).2.1 ?_
                    refine RL.ldR (i := i1983) (r := y2135) 0 Try_ln22 rfl rfl rfl rfl (idx_some e2136).2.2 ?_
                    refine RL.mv rfl rfl rfl ?_
                    obtain ⟨y2137, e2138, h2130⟩ := bind_some h2130
                    refine RL.idxS (sz := 1) 0 Try.underlying22 Try_ln3 rfl rfl rfl rfl rfl (SlOf.row (idx_some e2136).2.2) (idx_some e2138).1 (idx_some e2138).2.1 ?_
                    refine RL.ldSx (i := i1634) (e' := y2137) 0 Ex.ik Try_ln3 rfl rfl rfl rfl (SlOf.row (idx_some e2136).2.2) (idx_some e2138).2.2 Part.self ?_
                    refine RL.binI (v := .bool (y2137 == (1 : Int))) rfl rfl rfl rfl rfl ?_
                    refine RL.mv rfl rfl rfl ?_
                    refine RL.split (t := 87) rfl (fun b2139 => ?_) (fun b2139 => ?_)
                    · replace h2130 := ite_t b2139 h2130
                      refine RL.mv rfl rfl rfl ?_
                      refine RL.mv rfl rfl rfl ?_
                      obtain ⟨y2140, e2141, h2130⟩ := bind_some h2130
                      refine RL.idxR 0 Try.underlying28 Try_ln22 rfl rfl rfl rfl rfl (idx_some e2141).1 (idx_some e2141).2.1 ?_
                      refine RL.ldR (i := i1634) (r := y2140) 0 Try_ln22 rfl rfl rfl rfl (idx_some e2141).2.2 ?_
                      refine RL.mv rfl rfl rfl ?_
                      obtain ⟨y2142, e2143, h2130⟩ := bind_some h2130
                      refine RL.idxS (sz := 1) 0 Try.underlying22 Try_ln3 rfl rfl rfl rfl rfl (SlOf.row (idx_some e2141).2.2) (idx_some e2143).1 (idx_some e2143).2.1 ?_
                      refine RL.ldSx (i := i2098) (e' := y2142) 0 Ex.ik Try_ln3 rfl rfl rfl rfl (SlOf.row (idx_some e2141).2.2) (idx_some e2143).2.2 Part.self ?_
                      refine RL.binI (v := .bool (y2142 == (1 : Int))) rfl rfl rfl rfl rfl ?_
                      refine RL.pickT rfl rfl rfl rfl ?_
                      refine RL.fin ?_
                      cases h2130
                      exact fun a w st => mid_intro (y2142 == (1 : Int)) h2131 (St.cut [0] ⟨rfl, rfl, rfl, rfl, rfl, rfl, rfl, rfl, rfl, rfl, rfl, rfl, trivial⟩ (by decide) rfl st)
                    · replace h2130 := ite_f b2139 h2130
                      refine RL.skip rfl rfl ?_
                      refine RL.skip rfl rfl ?_
                      refine RL.skip rfl rfl ?_
                      refine RL.skip rfl rfl ?_
                      refine RL.skip rfl rfl ?_
                      refine RL.skip rfl rfl ?_
                      refine RL.skip rfl rfl ?_
                      refine RL.skip rfl rfl ?_
                      refine RL.pickF rfl rfl rfl rfl ?_
                      refine RL.fin ?_
                      cases h2130
                      exact fun a w st => mid_intro false h2131 (St.cut [0] ⟨rfl, rfl, rfl, rfl, rfl, rfl, rfl, rfl, rfl, rfl, rfl, rfl, trivial⟩ (by decide) rfl st)
                  · rintro x2127 h2144
                    have h2145 := h2132 _ h2144
                    try dsimp only at h2145
                    refine GL.weak (env' := [(5, .int .i64 ((x0).length : Int)), (6, v12), (9, .int .i64 (i1634 : Int)), (10, .int .i64 (i1983 : Int)), (11, .int .i64 (i2098 : Int)), (67, .int .i64 ((x0).length : Int)), (68, .int .i64 (i1634 : Int)), (71, .int .i64 ((x0).length : Int)), (72, .int .i64 (i1983 : Int)), (75, .int .i64 ((x0).length : Int)), (76, .int .i64 (i2098 : Int)), (96, .bool x2127)]) (L' := [own2 22 3 TR.int v12 V2041 l2040]) (fun _ _ st => st) ?_
                    refine GL.cond rfl (fun b2146 => ?_) (fun b2146 => ?_)
                    · replace h2145 := ite_t b2146 h2145
                      refine GL.region ?_
                      refine RL.mv rfl rfl rfl ?_
                      refine RL.mv rfl rfl rfl ?_
                      obtain ⟨y2151, e2152, h2145⟩ := bind_some h2145
                      refine RL.idxR 0 Try.underlying28 Try_ln22 rfl rfl rfl rfl rfl (idx_some e2152).1 (idx_some e2152).2.1 ?_
                      refine RL.ldR (i := i1983) (r := y2151) 0 Try_ln22 rfl rfl rfl rfl (idx_some e2152).2.2 ?_
                      refine RL.mv rfl rfl rfl ?_
                      obtain ⟨y2153, e2154, h2145⟩ := bind_some h2145
                      refine RL.idxS (sz := 1) 0 Try.underlying22 Try_ln3 rfl rfl rfl rfl rfl (SlOf.row (idx_some e2152).2.2) (idx_some e2154).1 (idx_some e2154).2.1 ?_
                      refine RL.stR (i := i1983) (j := i2098) (row := y2151) (e' := (1 : Int)) (e1 := (1 : Int)) (r := TR.int) 0 Try_ln3 rfl rfl rfl rfl VR.int rfl (idx_some e2152).2.2 (idx_some e2154).2.2 Upd.self ?_
                      refine RL.finG ?_
                      refine GL.nilB ?_
                      refine GL.region ?_
                      refine RL.binI (v := .int .i64 ((i2098 + 1 : Nat) : Int)) rfl rfl rfl rfl (binI_succ i2098 (by omega)) ?_
                      refine RL.mv rfl rfl rfl ?_
                      refine RL.fin ?_
                      cases h2145
                      exact fun a w st => lop_intro (i2098 + 1, r2108, (List.set l2040 i1983 (List.set y2151 i2098 (1 : Int))), V2041) ⟨by show i2098 + 1 + r2108 = (((x0).length : Int)).toNat; omega, h2102⟩ (by simp) (St.cut [0] ⟨rfl, rfl, rfl, rfl, rfl, rfl, rfl, rfl, rfl, rfl, trivial⟩ (by decide) rfl st)
                    · replace h2145 := ite_f b2146 h2145
                      refine GL.skip ?_
                      refine GL.nilB ?_
                      refine GL.region ?_
                      refine RL.binI (v := .int .i64 ((i2098 + 1 : Nat) : Int)) rfl rfl rfl rfl (binI_succ i2098 (by omega)) ?_
                      refine RL.mv rfl rfl rfl ?_
                      refine RL.fin ?_
                      cases h2145
                      exact fun a w st => lop_intro (i2098 + 1, r2108, l2040, V2041) ⟨by show i2098 + 1 + r2108 = (((x0).length : Int)).toNat; omega, h2102⟩ (by simp) (St.cut [0] ⟨rfl, rfl, rfl, rfl, rfl, rfl, rfl, rfl, rfl, rfl, trivial⟩ (by decide) rfl st)
                · have h2107 : ¬ i2098 < (((x0).length : Int)).toNat := by have := of_decide_eq_false b2106; omega
                  obtain rfl : r2099 = 0 := by omega
                  replace h2103 : some (Fl.nx _) = some y2091 := h2103
                  cases h2103
                  exact GL.exit (fun a w st => mid_intro (l2040, V2041) h2094 (St.cut [0] ⟨rfl, rfl, rfl, rfl, rfl, rfl, rfl, trivial⟩ (by decide) rfl st))
              · rintro ⟨l2040, V2041⟩ h2155
                have h2156 := h2095 _ h2155
                try dsimp only at h2156
                refine GL.weak (env' := [(5, .int .i64 ((x0).length : Int)), (6, v12), (9, .int .i64 (i1634 : Int)), (67, .int .i64 ((x0).length : Int)), (68, .int .i64 (i1634 : Int)), (71, .int .i64 ((x0).length : Int)), (72, .int .i64 (i1983 : Int))]) (L' := [own2 22 3 TR.int v12 V2041 l2040]) (fun _ _ st => st) ?_
                refine GL.nilB ?_
                refine GL.region ?_
                refine RL.binI (v := .int .i64 ((i1983 + 1 : Nat) : Int)) rfl rfl rfl rfl (binI_succ i1983 (by omega)) ?_
                refine RL.mv rfl rfl rfl ?_
                refine RL.fin ?_
                cases h2156
                exact fun a w st => lop_intro (i1983 + 1, r1993, l2040, V2041) ⟨by show i1983 + 1 + r1993 = (((x0).length : Int)).toNat; omega, h1987⟩ (by simp) (St.cut [0] ⟨rfl, rfl, rfl, rfl, rfl, rfl, rfl, trivial⟩ (by decide) rfl st)
            · have h1992 : ¬ i1983 < (((x0).length : Int)).toNat := by have := of_decide_eq_false b1991; omega
              obtain rfl : r1984 = 0 := by omega
              replace h1988 : some (Fl.nx _) = some y1976 := h1988
              cases h1988
              exact GL.exit (fun a w st => mid_intro (l1808, V1809) h1979 (St.cut [0] ⟨rfl, rfl, rfl, rfl, trivial⟩ (by decide) rfl st))
          · rintro ⟨l1808, V1809⟩ h2157
            have h2158 := h1980 _ h2157
            try dsimp only at h2158
            refine GL.weak (env' := [(5, .int .i64 ((x0).length : Int)), (6, v12), (67, .int .i64 ((x0).length : Int)), (68, .int .i64 (i1634 : Int))]) (L' := [own2 22 3 TR.int v12 V1809 l1808]) (fun _ _ st => st) ?_
            refine GL.nilB ?_
            refine GL.region ?_
            refine RL.binI (v := .int .i64 ((i1634 + 1 : Nat) : Int)) rfl rfl rfl rfl (binI_succ i1634 (by omega)) ?_
            refine RL.mv rfl rfl rfl ?_
            refine RL.fin ?_
            cases h2158
            exact fun a w st => lop_intro (i1634 + 1, r1644, l1808, V1809) ⟨by show i1634 + 1 + r1644 = (((x0).length : Int)).toNat; omega, h1638⟩ (by simp) (St.cut [0] ⟨rfl, rfl, rfl, rfl, trivial⟩ (by decide) rfl st)
        · have h1643 : ¬ i1634 < (((x0).length : Int)).toNat := by have := of_decide_eq_false b1642; omega
          obtain rfl : r1635 = 0 := by omega
          replace h1639 : some (Fl.nx _) = some y1627 := h1639
          cases h1639
          exact GL.exit (fun a w st => mid_intro (l1108, V1109) h1630 (St.cut [0] ⟨rfl, rfl, trivial⟩ (by decide) rfl st))
      · rintro ⟨l1108, V1109⟩ h2159
        have h2160 := h1631 _ h2159
        try dsimp only at h2160
        refine GL.weak (env' := [(5, .int .i64 ((x0).length : Int)), (6, v12)]) (L' := [own2 22 3 TR.int v12 V1109 l1108]) (fun _ _ st => st) ?_
        refine GL.seq ?_
        refine GL.region ?_
        refine RL.asg rfl rfl rfl ?_
        refine RL.finG ?_
        refine GL.seq ?_
        refine GL.seq ?_
        refine GL.region ?_
        refine RL.mv rfl rfl rfl ?_
        refine RL.mv rfl rfl rfl ?_
        refine RL.finG ?_
        refine GL.weak (fun a w st => st.nilOwn 3 TR.int) ?_
        obtain ⟨y2213, e2214, h2160⟩ := bind_some h2160
        replace e2214 := chk_some e2214
        obtain ⟨y2215, K2216, h2217, h2218, h2219, h2220, h2221⟩ := bindR_K h2160
        refine GL.join (ι := (List Int) × Value) (fun (p : (List Int) × Value) => [(12, p.2)]) (fun (p : (List Int) × Value) => [own 3 TR.int p.2 p.1]) (fun (p : (List Int) × Value) => K2216 (.nx p.1)) ?_ ?_
        · refine GL.block ?_
          refine GL.loop (ι := Nat × Nat × (List Int) × Value) (fun (p : Nat × Nat × (List Int) × Value) => [(5, .int .i64 ((x0).length : Int)), (6, v12), (12, p.2.2.2), (106, .int .i64 ((x0).length : Int)), (107, .int .i64 (p.1 : Int))]) (fun (p : Nat × Nat × (List Int) × Value) => [own2 22 3 TR.int v12 V1109 l1108, own 3 TR.int p.2.2.2 p.2.2.1]) (fun (p : Nat × Nat × (List Int) × Value) => p.1 + p.2.1 = (((x0).length : Int)).toNat ∧ rangeN (duel_Top_b6 x0 l1108) p.2.1 p.1 p.2.2.1 = some y2215) (fun (p : Nat × Nat × (List Int) × Value) => p.2.1) (0, (((x0).length : Int)).toNat, [], Value.slice none 0 0) ⟨by simp, h2217⟩ (fun a w st => St.cut [0, 1] ⟨rfl, rfl, rfl, rfl, rfl, trivial⟩ (by decide) rfl st) ?_
          rintro ⟨i2222, r2223, l2161, v2162⟩ ⟨h2228, h2227⟩
          try dsimp only at h2228 h2227
          refine GL.weak (env' := [(5, .int .i64 ((x0).length : Int)), (6, v12), (12, v2162), (106, .int .i64 ((x0).length : Int)), (107, .int .i64 (i2222 : Int))]) (L' := [own2 22 3 TR.int v12 V1109 l1108, own 3 TR.int v2162 l2161]) (fun _ _ st => st) ?_
          refine GL.seq ?_
          refine GL.region ?_
          refine RL.binI (v := .bool (decide ((i2222 : Int) < ((x0).length : Int)))) rfl rfl rfl rfl rfl ?_
          refine RL.finG ?_
          refine GL.seq ?_
          refine GL.cond rfl (fun b2230 => ?_) (fun b2230 => ?_)
          · have h2231 : i2222 < (((x0).length : Int)).toNat := by have := of_decide_eq_true b2230; omega
            obtain ⟨r2232, hr⟩ : ∃ m, r2223 = m + 1 := ⟨r2223 - 1, by omega⟩
            subst hr
            obtain ⟨z2224, h2225, h2226⟩ := rangeN_some h2227
            unfold duel_Top_b6 at h2225
            try dsimp only at h2225
            refine GL.skip ?_
            refine GL.seq ?_
            refine GL.block ?_
            refine GL.seq ?_
            refine GL.region ?_
            refine RL.mv rfl rfl rfl ?_
            refine RL.asg rfl rfl rfl ?_
            refine RL.finG ?_
            refine GL.seq ?_
            refine GL.region ?_
            refine RL.asg rfl rfl rfl ?_
            refine RL.finG ?_
            refine GL.seq ?_
            refine GL.seq ?_
            refine GL.region ?_
            refine RL.mv rfl rfl rfl ?_
            refine RL.mv rfl rfl rfl ?_
            refine RL.finG ?_
            obtain ⟨y2243, e2244, h2225⟩ := bind_some h2225
            replace e2244 := chk_some e2244
            obtain ⟨y2245, K2246, h2247, h2248, h2249, h2250, h2251⟩ := bindF_K h2225
            refine GL.join (ι := Int) (fun (p : Int) => [(5, .int .i64 ((x0).length : Int)), (6, v12), (12, v2162), (13, .int .i64 (i2222 : Int)), (14, .int .i64 p), (106, .int .i64 ((x0).length : Int)), (107, .int .i64 (i2222 : Int))]) (fun (p : Int) => [own2 22 3 TR.int v12 V1109 l1108, own 3 TR.int v2162 l2161]) (fun (p : Int) => K2246 (.nx p)) ?_ ?_
            · refine GL.block ?_
              refine GL.loop (ι := Nat × Nat × Int) (fun (p : Nat × Nat × Int) => [(5, .int .i64 ((x0).length : Int)), (6, v12), (12, v2162), (13, .int .i64 (i2222 : Int)), (14, .int .i64 p.2.2), (106, .int .i64 ((x0).length : Int)), (107, .int .i64 (i2222 : Int)), (110, .int .i64 ((x0).length : Int)), (111, .int .i64 (p.1 : Int))]) (fun (p : Nat × Nat × Int) => [own2 22 3 TR.int v12 V1109 l1108, own 3 TR.int v2162 l2161]) (fun (p : Nat × Nat × Int) => p.1 + p.2.1 = (((x0).length : Int)).toNat ∧ rangeN (duel_Top_b7 l1108 i2222) p.2.1 p.1 p.2.2 = some y2245) (fun (p : Nat × Nat × Int) => p.2.1) (0, (((x0).length : Int)).toNat, (0 : Int)) ⟨by simp, h2247⟩ (fun a w st => St.cut [0, 1] ⟨rfl, rfl, rfl, rfl, rfl, rfl, rfl, rfl, rfl, trivial⟩ (by decide) rfl st) ?_
              rintro ⟨i2252, r2253, x2233⟩ ⟨h2258, h2257⟩
              try dsimp only at h2258 h2257
              refine GL.weak (env' := [(5, .int .i64 ((x0).length : Int)), (6, v12), (12, v2162), (13, .int .i64 (i2222 : Int)), (14, .int .i64 x2233), (106, .int .i64 ((x0).length : Int)), (107, .int .i64 (i2222 : Int)), (110, .int .i64 ((x0).length : Int)), (111, .int .i64 (i2252 : Int))]) (L' := [own2 22 3 TR.int v12 V1109 l1108, own 3 TR.int v2162 l2161]) (fun _ _ st => st) ?_
              refine GL.seq ?_
              refine GL.region ?_
              refine RL.binI (v := .bool (decide ((i2252 : Int) < ((x0).length : Int)))) rfl rfl rfl rfl rfl ?_
              refine RL.finG ?_
              refine GL.seq ?_
              refine GL.cond rfl (fun b2260 => ?_) (fun b2260 => ?_)
              · have h2261 : i2252 < (((x0).length : Int)).toNat := by have := of_decide_eq_true b2260; omega
                obtain ⟨r2262, hr⟩ : ∃ m, r2253 = m + 1 := ⟨r2253 - 1, by omega⟩
                subst hr
                obtain ⟨z2254, h2255, h2256⟩ := rangeN_some h2257
                unfold duel_Top_b7 at h2255
                try dsimp only at h2255
                refine GL.skip ?_
                refine GL.seq ?_
                refine GL.block ?_
                refine GL.seq ?_
                refine GL.region ?_
                refine RL.mv rfl rfl rfl ?_
                refine RL.asg rfl rfl rfl ?_
                refine RL.finG ?_
                refine GL.region ?_
                refine RL.mv rfl rfl rfl ?_
                refine RL.mv rfl rfl rfl ?_
                refine RL.mv rfl rfl rfl ?_
                obtain ⟨y2267, e2268, h2255⟩ := bind_some h2255
                refine RL.idxR 0 Try.underlying28 Try_ln22 rfl rfl rfl rfl rfl (idx_some e2268).1 (idx_some e2268).2.1 ?_
                refine RL.ldR (i := i2222) (r := y2267) 0 Try_ln22 rfl rfl rfl rfl (idx_some e2268).2.2 ?_
                refine RL.mv rfl rfl rfl ?_
                obtain ⟨y2269, e2270, h2255⟩ := bind_some h2255
                refine RL.idxS (sz := 1) 0 Try.underlying22 Try_ln3 rfl rfl rfl rfl rfl (SlOf.row (idx_some e2268).2.2) (idx_some e2270).1 (idx_some e2270).2.1 ?_
                refine RL.ldSx (i := i2252) (e' := y2269) 0 Ex.ik Try_ln3 rfl rfl rfl rfl (SlOf.row (idx_some e2268).2.2) (idx_some e2270).2.2 Part.self ?_
                refine RL.binI (v := .int .i64 (wadd x2233 y2269)) rfl rfl rfl rfl rfl ?_
                refine RL.asg rfl rfl rfl ?_
                refine RL.finG ?_
                refine GL.nilB ?_
                refine GL.region ?_
                refine RL.binI (v := .int .i64 ((i2252 + 1 : Nat) : Int)) rfl rfl rfl rfl (binI_succ i2252 (by omega)) ?_
                refine RL.mv rfl rfl rfl ?_
                refine RL.fin ?_
                cases h2255
                exact fun a w st => lop_intro (i2252 + 1, r2262, wadd x2233 y2269) ⟨by show i2252 + 1 + r2262 = (((x0).length : Int)).toNat; omega, h2256⟩ (by simp) (St.cut [0, 1] ⟨rfl, rfl, rfl, rfl, rfl, rfl, rfl, rfl, rfl, trivial⟩ (by decide) rfl st)
              · have h2261 : ¬ i2252 < (((x0).length : Int)).toNat := by have := of_decide_eq_false b2260; omega
                obtain rfl : r2253 = 0 := by omega
                replace h2257 : some (Fl.nx _) = some y2245 := h2257
                cases h2257
                exact GL.exit (fun a w st => mid_intro x2233 h2248 (St.cut [0, 1] ⟨rfl, rfl, rfl, rfl, rfl, rfl, rfl, trivial⟩ (by decide) rfl st))
            · rintro x2233 h2271
              have h2272 := h2249 _ h2271
              try dsimp only at h2272
              refine GL.weak (env' := [(5, .int .i64 ((x0).length : Int)), (6, v12), (12, v2162), (13, .int .i64 (i2222 : Int)), (14, .int .i64 x2233), (106, .int .i64 ((x0).length : Int)), (107, .int .i64 (i2222 : Int))]) (L' := [own2 22 3 TR.int v12 V1109 l1108, own 3 TR.int v2162 l2161]) (fun _ _ st => st) ?_
              refine GL.seq ?_
              refine GL.region ?_
              refine RL.mv rfl rfl rfl ?_
              refine RL.mv rfl rfl rfl ?_
              refine RL.binI (v := .bool (x2233 == ((x0).length : Int))) rfl rfl rfl rfl rfl ?_
              refine RL.finG ?_
              refine GL.cond rfl (fun b2273 => ?_) (fun b2273 => ?_)
              · replace h2272 := ite_t b2273 h2272
                refine GL.region ?_
                refine RL.mv rfl rfl rfl ?_
                refine RL.mv rfl rfl rfl ?_
                refine RL.bS (t := TR.int) (vs := [.int .i64 (i2222 : Int)]) ([(i2222 : Int)] : (List Int)) Try.underlying22 Try_lo3 rfl rfl rfl rfl ⟨VR.int, trivial⟩ rfl (by decide) ?_
                intro v2278
                obtain ⟨y2279, e2280, h2272⟩ := bind_some h2272
                replace e2280 := chk_some e2280
                refine RL.app 1 2 Try.underlying22 Try_lo3 rfl rfl rfl rfl rfl rfl rfl SlOf.own e2280 ?_
                intro v2281
                refine RL.reL (L' := [own2 22 3 TR.int v12 V1109 l1108, own 3 TR.int v2281 (l2161 ++ ([(i2222 : Int)] : (List Int))), own 3 TR.int v2278 ([(i2222 : Int)] : (List Int))]) rfl ?_
                refine RL.asg rfl rfl rfl ?_
                refine RL.finG ?_
                refine GL.nilB ?_
                refine GL.region ?_
                refine RL.binI (v := .int .i64 ((i2222 + 1 : Nat) : Int)) rfl rfl rfl rfl (binI_succ i2222 (by omega)) ?_
                refine RL.mv rfl rfl rfl ?_
                refine RL.fin ?_
                cases h2272
                exact fun a w st => lop_intro (i2222 + 1, r2232, (l2161 ++ ([(i2222 : Int)] : (List Int))), v2281) ⟨by show i2222 + 1 + r2232 = (((x0).length : Int)).toNat; omega, h2226⟩ (by simp) (St.cut [0, 1] ⟨rfl, rfl, rfl, rfl, rfl, trivial⟩ (by decide) rfl st)
              · replace h2272 := ite_f b2273 h2272
                refine GL.skip ?_
                refine GL.nilB ?_
                refine GL.region ?_
                refine RL.binI (v := .int .i64 ((i2222 + 1 : Nat) : Int)) rfl rfl rfl rfl (binI_succ i2222 (by omega)) ?_
                refine RL.mv rfl rfl rfl ?_
                refine RL.fin ?_
                cases h2272
                exact fun a w st => lop_intro (i2222 + 1, r2232, l2161, v2162) ⟨by show i2222 + 1 + r2232 = (((x0).length : Int)).toNat; omega, h2226⟩ (by simp) (St.cut [0, 1] ⟨rfl, rfl, rfl, rfl, rfl, trivial⟩ (by decide) rfl st)
          · have h2231 : ¬ i2222 < (((x0).length : Int)).toNat := by have := of_decide_eq_false b2230; omega
            obtain rfl : r2223 = 0 := by omega
            replace h2227 : some (Fl.nx _) = some y2215 := h2227
            cases h2227
            exact GL.exit (fun a w st => mid_intro (l2161, v2162) h2218 (St.cut [1] ⟨rfl, trivial⟩ (by decide) rfl st))
        · rintro ⟨l2161, v2162⟩ h2282
          have h2283 := h2219 _ h2282
          try dsimp only at h2283
          refine GL.weak (env' := [(12, v2162)]) (L' := [own 3 TR.int v2162 l2161]) (fun _ _ st => st) ?_
          refine GL.seq ?_
          refine GL.region ?_
          refine RL.mv rfl rfl rfl ?_
          refine RL.asg rfl rfl rfl ?_
          refine RL.asg rfl rfl rfl ?_
          refine RL.finG ?_
          have h2283 := Option.some.inj h2283
          subst h2283
          exact GL.ret (Gx.ret (v := .tuple #[v2162, .int .i64 (0 : Int)]) (res2 rfl rfl rfl) (fun a w st => (st.pick [0] (by decide) rfl).toPost v2162))

set_option maxHeartbeats 4000000 in
theorem duel_Wins_c (S : Hp) (w : World) (hS : S.sub w) (v0 : Value) (x0 : (List (List Int))) (k0 : ((TR.sl (TR.sl TR.int))).vrep S v0 x0) (res : (List Int) × Int) (hm : duel_Wins_m x0 = some res) : Calls Try.prog 59 #[v0] w (Post w S (fun (o : Value) => .tuple #[o, .int .i64 res.2]) (fun (o : Value) => [own 3 TR.int o res.1])) := by
  refine calls_enter 73 Try.func59 Try.ntmps59 rfl S false [(0, v0)] [imm (TR.sl (TR.sl TR.int)) v0 x0] rfl ⟨rfl, trivial⟩ hS ⟨k0, trivial⟩ ?_
  unfold duel_Wins_m at hm
  refine GL.seq ?_
  refine GL.region ?_
  refine RL.asg rfl rfl rfl ?_
  refine RL.asg rfl rfl rfl ?_
  refine RL.finG ?_
  refine GL.seq ?_
  refine GL.seq ?_
  refine GL.region ?_
  refine RL.mv rfl rfl rfl ?_
  obtain ⟨y4, e5, hm⟩ := bind_some hm
  refine RL.callC (v := .int .i64 y4) (vs := [v0]) Try_fit60 rfl rfl rfl rfl (fun U w hU hW hL => duel_Check_c U w hU _ _ (hL 0 _ _ rfl Seen.imm) _ e5) ?_
  refine RL.asg rfl rfl rfl ?_
  refine RL.finG ?_
  refine GL.seq ?_
  refine GL.region ?_
  refine RL.mv rfl rfl rfl ?_
  refine RL.binI (v := .bool (y4 != (0 : Int))) rfl rfl rfl rfl rfl ?_
  refine RL.finG ?_
  refine GL.cond rfl (fun b6 => ?_) (fun b6 => ?_)
  · replace hm := ite_t b6 hm
    refine GL.seq ?_
    refine GL.region ?_
    refine RL.mv rfl rfl rfl ?_
    refine RL.asg rfl rfl rfl ?_
    refine RL.asg rfl rfl rfl ?_
    refine RL.finG ?_
    refine GL.weak (fun a w st => st.nilOwn 3 TR.int) ?_
    have hm := Option.some.inj hm
    subst hm
    exact GL.ret (Gx.ret (v := .tuple #[Value.slice none 0 0, .int .i64 y4]) (res2 rfl rfl rfl) (fun a w st => (st.pick [1] (by decide) rfl).toPost (Value.slice none 0 0)))
  · replace hm := ite_f b6 hm
    refine GL.skip ?_
    refine GL.seq ?_
    refine GL.region ?_
    refine RL.mv rfl rfl rfl ?_
    refine RL.lenS 0 Try.underlying28 rfl rfl rfl rfl SlOf.imm ?_
    obtain ⟨y10, e11, hm⟩ := bind_some hm
    replace e11 := chk_some e11
    refine RL.mkS (t := TR.int) (z := (0 : Int)) Try.underlying22 Try_lo3 (fun S => rfl) rfl rfl rfl rfl e11.1 e11.2 ?_
    intro v12
    refine RL.asg rfl rfl rfl ?_
    refine RL.finG ?_
    refine GL.seq ?_
    refine GL.seq ?_
    refine GL.region ?_
    refine RL.mv rfl rfl rfl ?_
    refine RL.lenS 0 Try.underlying28 rfl rfl rfl rfl SlOf.imm ?_
    refine RL.mv rfl rfl rfl ?_
    refine RL.finG ?_
    refine GL.open_ 0 rfl (fun S h => len_imm S h) (fun n399 => ?_)
    obtain ⟨y400, K401, h402, h403, h404, h405, h406⟩ := bindR_K hm
    refine GL.join (ι := (List Int) × Value) (fun (p : (List Int) × Value) => [(5, p.2)]) (fun (p : (List Int) × Value) => [own 3 TR.int p.2 p.1]) (fun (p : (List Int) × Value) => K401 (.nx p.1)) ?_ ?_
    · refine GL.block ?_
      refine GL.loop (ι := Nat × (List (List Int)) × (List Int) × Value) (fun (p : Nat × (List (List Int)) × (List Int) × Value) => [(0, v0), (5, p.2.2.2), (17, .int .i64 ((x0).length : Int)), (18, .int .i64 (p.1 : Int))]) (fun (p : Nat × (List (List Int)) × (List Int) × Value) => [imm (TR.sl (TR.sl TR.int)) v0 x0, own 3 TR.int p.2.2.2 p.2.2.1]) (fun (p : Nat × (List (List Int)) × (List Int) × Value) => p.1 + p.2.1.length = (x0).length ∧ List.drop p.1 x0 = p.2.1 ∧ rangeL (duel_Wins_b1 x0) p.2.1 p.1 p.2.2.1 = some y400) (fun (p : Nat × (List (List Int)) × (List Int) × Value) => p.2.1.length) (0, x0, (List.replicate (((x0).length : Int)).toNat (0 : Int)), v12) ⟨by simp, by simp, h402⟩ (fun a w st => St.cut [0, 1] ⟨rfl, rfl, rfl, rfl, trivial⟩ (by decide) rfl st) ?_
      rintro ⟨i407, r408, l205, v206⟩ ⟨h413, h414, h412⟩
      try dsimp only at h413 h414 h412
      refine GL.weak (env' := [(0, v0), (5, v206), (17, .int .i64 ((x0).length : Int)), (18, .int .i64 (i407 : Int))]) (L' := [imm (TR.sl (TR.sl TR.int)) v0 x0, own 3 TR.int v206 l205]) (fun _ _ st => st) ?_
      refine GL.seq ?_
      refine GL.region ?_
      refine RL.binI (v := .bool (decide ((i407 : Int) < ((x0).length : Int)))) rfl rfl rfl rfl rfl ?_
      refine RL.finG ?_
      refine GL.seq ?_
      refine GL.cond rfl (fun b415 => ?_) (fun b415 => ?_)
      · have h416 : i407 < (x0).length := by have := of_decide_eq_true b415; omega
        obtain ⟨y417, r419, hr, e418, h420⟩ := drop_cons h414 rfl h416
        subst hr
        obtain ⟨z409, h410, h411⟩ := rangeL_some h412
        unfold duel_Wins_b1 at h410
        try dsimp only at h410
        refine GL.skip ?_
        refine GL.seq ?_
        refine GL.block ?_
        refine GL.seq ?_
        refine GL.region ?_
        refine RL.mv rfl rfl rfl ?_
        refine RL.asg rfl rfl rfl ?_
        refine RL.finG ?_
        refine GL.seq ?_
        refine GL.region ?_
        refine RL.mv rfl rfl rfl ?_
        refine RL.lenS 0 Try.underlying28 rfl rfl rfl rfl SlOf.imm ?_
        refine RL.mv rfl rfl rfl ?_
        refine RL.finG ?_
        refine GL.open_ 0 rfl (fun S h => len_imm S h) (fun n523 => ?_)
        obtain ⟨y524, K525, h526, h527, h528, h529, h530⟩ := bindF_K h410
        refine GL.join (ι := (List Int) × Value) (fun (p : (List Int) × Value) => [(0, v0), (5, p.2), (17, .int .i64 ((x0).length : Int)), (18, .int .i64 (i407 : Int))]) (fun (p : (List Int) × Value) => [imm (TR.sl (TR.sl TR.int)) v0 x0, own 3 TR.int p.2 p.1]) (fun (p : (List Int) × Value) => K525 (.nx p.1)) ?_ ?_
        · refine GL.block ?_
          refine GL.loop (ι := Nat × (List (List Int)) × (List Int) × Value) (fun (p : Nat × (List (List Int)) × (List Int) × Value) => [(0, v0), (5, p.2.2.2), (6, .int .i64 (i407 : Int)), (17, .int .i64 ((x0).length : Int)), (18, .int .i64 (i407 : Int)), (22, .int .i64 ((x0).length : Int)), (23, .int .i64 (p.1 : Int))]) (fun (p : Nat × (List (List Int)) × (List Int) × Value) => [imm (TR.sl (TR.sl TR.int)) v0 x0, own 3 TR.int p.2.2.2 p.2.2.1]) (fun (p : Nat × (List (List Int)) × (List Int) × Value) => p.1 + p.2.1.length = (x0).length ∧ List.drop p.1 x0 = p.2.1 ∧ rangeL (duel_Wins_b2 y417 i407) p.2.1 p.1 p.2.2.1 = some y524) (fun (p : Nat × (List (List Int)) × (List Int) × Value) => p.2.1.length) (0, x0, l205, v206) ⟨by simp, by simp, h526⟩ (fun a w st => St.cut [0, 1] ⟨rfl, rfl, rfl, rfl, rfl, rfl, rfl, trivial⟩ (by decide) rfl st) ?_
          rintro ⟨i531, r532, l471, v472⟩ ⟨h537, h538, h536⟩
          try dsimp only at h537 h538 h536
          refine GL.weak (env' := [(0, v0), (5, v472), (6, .int .i64 (i407 : Int)), (17, .int .i64 ((x0).length : Int)), (18, .int .i64 (i407 : Int)), (22, .int .i64 ((x0).length : Int)), (23, .int .i64 (i531 : Int))]) (L' := [imm (TR.sl (TR.sl TR.int)) v0 x0, own 3 TR.int v472 l471]) (fun _ _ st => st) ?_
          refine GL.seq ?_
          refine GL.region ?_
          refine RL.binI (v := .bool (decide ((i531 : Int) < ((x0).length : Int)))) rfl rfl rfl rfl rfl ?_
          refine RL.finG ?_
          refine GL.seq ?_
          refine GL.cond rfl (fun b539 => ?_) (fun b539 => ?_)
          · have h540 : i531 < (x0).length := by have := of_decide_eq_true b539; omega
            obtain ⟨y541, r543, hr, e542, h544⟩ := drop_cons h538 rfl h540
            subst hr
            obtain ⟨z533, h534, h535⟩ := rangeL_some h536
            unfold duel_Wins_b2 at h534
            try dsimp only at h534
            refine GL.skip ?_
            refine GL.seq ?_
            refine GL.block ?_
            refine GL.seq ?_
            refine GL.region ?_
            refine RL.mv rfl rfl rfl ?_
            refine RL.asg rfl rfl rfl ?_
            refine RL.finG ?_
            refine GL.block ?_
            refine GL.seq ?_
            refine GL.regionQ rfl rfl (by kernel_rfl) ?_
            refine RL.mv rfl rfl rfl ?_
            refine RL.mv rfl rfl rfl ?_
            refine RL.idxS (sz := 1) 0 Try.underlying28 Try_ln22 rfl rfl rfl rfl rfl SlOf.imm (by omega) (by omega) ?_
            refine RL.ldS (i := i407) (r := (TR.sl TR.int)) (e' := y417) 0 Try_ln22 rfl rfl rfl rfl SlOf.imm e418 Part.self ?_
            intro v551
            refine RL.mv rfl rfl rfl ?_
            obtain ⟨y552, e553, h534⟩ := bind_some h534
            refine RL.idxS (sz := 1) 2 Try.underlying22 Try_ln3 rfl rfl rfl rfl rfl SlOf.imm (idx_some e553).1 (idx_some e553).2.1 ?_
            refine RL.ldSx (i := i531) (e' := y552) 2 Ex.ik Try_ln3 rfl rfl rfl rfl SlOf.imm (idx_some e553).2.2 Part.self ?_
            refine RL.mv rfl rfl rfl ?_
            refine RL.mv rfl rfl rfl ?_
            refine RL.idxS (sz := 1) 0 Try.underlying28 Try_ln22 rfl rfl rfl rfl rfl SlOf.imm (by omega) (by omega) ?_
            refine RL.ldS (i := i531) (r := (TR.sl TR.int)) (e' := y541) 0 Try_ln22 rfl rfl rfl rfl SlOf.imm e542 Part.self ?_
            intro v554
            refine RL.reL (L' := [imm (TR.sl (TR.sl TR.int)) v0 x0, own 3 TR.int v472 l471, imm (TR.sl TR.int) v551 y417, imm (TR.sl TR.int) v554 y541]) rfl ?_
            refine RL.mv rfl rfl rfl ?_
            obtain ⟨y555, e556, h534⟩ := bind_some h534
            refine RL.idxS (sz := 1) 3 Try.underlying22 Try_ln3 rfl rfl rfl rfl rfl SlOf.imm (idx_some e556).1 (idx_some e556).2.1 ?_
            refine RL.ldSx (i := i407) (e' := y555) 3 Ex.ik Try_ln3 rfl rfl rfl rfl SlOf.imm (idx_some e556).2.2 Part.self ?_
            refine RL.binI (v := .bool (decide (y552 > y555))) rfl rfl rfl rfl rfl ?_
            refine RL.asg rfl rfl rfl ?_
            refine RL.finQG ?_
            refine GL.cond rfl (fun b557 => ?_) (fun b557 => ?_)
            · replace h534 := ite_t b557 h534
              refine GL.region ?_
              refine RL.mv rfl rfl rfl ?_
              refine RL.mv rfl rfl rfl ?_
              obtain ⟨y562, e563, h534⟩ := bind_some h534
              refine RL.idxS (sz := 1) 1 Try.underlying22 Try_ln3 rfl rfl rfl rfl rfl SlOf.own (idx_some e563).1 (idx_some e563).2.1 ?_
              refine RL.ldSx (i := i407) (e' := y562) 1 Ex.ik Try_ln3 rfl rfl rfl rfl SlOf.own (idx_some e563).2.2 Part.self ?_
              refine RL.binI (v := .int .i64 (wadd y562 (1 : Int))) rfl rfl rfl rfl rfl ?_
              obtain ⟨y564, e565, h534⟩ := bind_some h534
              refine RL.idxS (sz := 1) 1 Try.underlying22 Try_ln3 rfl rfl rfl rfl rfl SlOf.own (idx_some e565).1 (idx_some e565).2.1 ?_
              refine RL.stS (i := i407) (e' := wadd y562 (1 : Int)) (e1 := wadd y562 (1 : Int)) (r := TR.int) 1 Try_ln3 rfl rfl rfl rfl VR.int rfl (idx_some e565).2.2 Upd.self ?_
              refine RL.finG ?_
              refine GL.nilB ?_
              refine GL.nilB ?_
              refine GL.region ?_
              refine RL.binI (v := .int .i64 ((i531 + 1 : Nat) : Int)) rfl rfl rfl rfl (binI_succ i531 (by omega)) ?_
              refine RL.mv rfl rfl rfl ?_
              refine RL.fin ?_
              cases h534
              exact fun a w st => lop_intro (i531 + 1, r543, (List.set l471 i407 (wadd y562 (1 : Int))), v472) ⟨by show i531 + 1 + r543.length = (x0).length; simp only [List.length_cons] at h537; omega, h544, h535⟩ (by simp) (St.cut [0, 1] ⟨rfl, rfl, rfl, rfl, rfl, rfl, rfl, trivial⟩ (by decide) rfl st)
            · replace h534 := ite_f b557 h534
              refine GL.seq ?_
              refine GL.regionQ rfl rfl (by kernel_rfl) ?_
              refine RL.mv rfl rfl rfl ?_
              refine RL.mv rfl rfl rfl ?_
              refine RL.idxS (sz := 1) 0 Try.underlying28 Try_ln22 rfl rfl rfl rfl rfl SlOf.imm (by omega) (by omega) ?_
              refine RL.ldS (i := i407) (r := (TR.sl TR.int)) (e' := y417) 0 Try_ln22 rfl rfl rfl rfl SlOf.imm e418 Part.self ?_
              intro v572
              refine RL.mv rfl rfl rfl ?_
              obtain ⟨y573, e574, h534⟩ := bind_some h534
              refine RL.idxS (sz := 1) 4 Try.underlying22 Try_ln3 rfl rfl rfl rfl rfl SlOf.imm (idx_some e574).1 (idx_some e574).2.1 ?_
              refine RL.ldSx (i := i531) (e' := y573) 4 Ex.ik Try_ln3 rfl rfl rfl rfl SlOf.imm (idx_some e574).2.2 Part.self ?_
              refine RL.mv rfl rfl rfl ?_
              refine RL.mv rfl rfl rfl ?_
              refine RL.idxS (sz := 1) 0 Try.underlying28 Try_ln22 rfl rfl rfl rfl rfl SlOf.imm (by omega) (by omega) ?_
              refine RL.ldS (i := i531) (r := (TR.sl TR.int)) (e' := y541) 0 Try_ln22 rfl rfl rfl rfl SlOf.imm e542 Part.self ?_
              intro v575
              refine RL.reL (L' := [imm (TR.sl (TR.sl TR.int)) v0 x0, own 3 TR.int v472 l471, imm (TR.sl TR.int) v551 y417, imm (TR.sl TR.int) v554 y541, imm (TR.sl TR.int) v572 y417, imm (TR.sl TR.int) v575 y541]) rfl ?_
              refine RL.mv rfl rfl rfl ?_
              obtain ⟨y576, e577, h534⟩ := bind_some h534
              refine RL.idxS (sz := 1) 5 Try.underlying22 Try_ln3 rfl rfl rfl rfl rfl SlOf.imm (idx_some e577).1 (idx_some e577).2.1 ?_
              refine RL.ldSx (i := i407) (e' := y576) 5 Ex.ik Try_ln3 rfl rfl rfl rfl SlOf.imm (idx_some e577).2.2 Part.self ?_
              refine RL.binI (v := .bool (decide (y573 < y576))) rfl rfl rfl rfl rfl ?_
              refine RL.asg rfl rfl rfl ?_
              refine RL.finQG ?_
              refine GL.cond rfl (fun b578 => ?_) (fun b578 => ?_)
              · replace h534 := ite_t b578 h534
                refine GL.region ?_
                refine RL.mv rfl rfl rfl ?_
                refine RL.mv rfl rfl rfl ?_
                obtain ⟨y583, e584, h534⟩ := bind_some h534
                refine RL.idxS (sz := 1) 1 Try.underlying22 Try_ln3 rfl rfl rfl rfl rfl SlOf.own (idx_some e584).1 (idx_some e584).2.1 ?_
                refine RL.ldSx (i := i407) (e' := y583) 1 Ex.ik Try_ln3 rfl rfl rfl rfl SlOf.own (idx_some e584).2.2 Part.self ?_
                refine RL.binI (v := .int .i64 (wsub y583 (1 : Int))) rfl rfl rfl rfl rfl ?_
                obtain ⟨y585, e586, h534⟩ := bind_some h534
                refine RL.idxS (sz := 1) 1 Try.underlying22 Try_ln3 rfl rfl rfl rfl rfl SlOf.own (idx_some e586).1 (idx_some e586).2.1 ?_
                refine RL.stS (i := i407) (e' := wsub y583 (1 : Int)) (e1 := wsub y583 (1 : Int)) (r := TR.int) 1 Try_ln3 rfl rfl rfl rfl VR.int rfl (idx_some e586).2.2 Upd.self ?_
                refine RL.finG ?_
                refine GL.nilB ?_
                refine GL.nilB ?_
                refine GL.region ?_
                refine RL.binI (v := .int .i64 ((i531 + 1 : Nat) : Int)) rfl rfl rfl rfl (binI_succ i531 (by omega)) ?_
                refine RL.mv rfl rfl rfl ?_
                refine RL.fin ?_
                cases h534
                exact fun a w st => lop_intro (i531 + 1, r543, (List.set l471 i407 (wsub y583 (1 : Int))), v472) ⟨by show i531 + 1 + r543.length = (x0).length; simp only [List.length_cons] at h537; omega, h544, h535⟩ (by simp) (St.cut [0, 1] ⟨rfl, rfl, rfl, rfl, rfl, rfl, rfl, trivial⟩ (by decide) rfl st)
              · replace h534 := ite_f b578 h534
                refine GL.skip ?_
                refine GL.nilB ?_
                refine GL.nilB ?_
                refine GL.region ?_
                refine RL.binI (v := .int .i64 ((i531 + 1 : Nat) : Int)) rfl rfl rfl rfl (binI_succ i531 (by omega)) ?_
                refine RL.mv rfl rfl rfl ?_
                refine RL.fin ?_
                cases h534
                exact fun a w st => lop_intro (i531 + 1, r543, l471, v472) ⟨by show i531 + 1 + r543.length = (x0).length; simp only [List.length_cons] at h537; omega, h544, h535⟩ (by simp) (St.cut [0, 1] ⟨rfl, rfl, rfl, rfl, rfl, rfl, rfl, trivial⟩ (by decide) rfl st)
          · have h540 : ¬ i531 < (x0).length := by have := of_decide_eq_false b539; omega
            obtain rfl : r532 = [] := by rw [← h538]; exact List.drop_of_length_le (by omega)
            replace h536 : some (Fl.nx _) = some y524 := h536
            cases h536
            exact GL.exit (fun a w st => mid_intro (l471, v472) h527 (St.cut [0, 1] ⟨rfl, rfl, rfl, rfl, trivial⟩ (by decide) rfl st))
        · rintro ⟨l471, v472⟩ h587
          have h588 := h528 _ h587
          try dsimp only at h588
          refine GL.weak (env' := [(0, v0), (5, v472), (17, .int .i64 ((x0).length : Int)), (18, .int .i64 (i407 : Int))]) (L' := [imm (TR.sl (TR.sl TR.int)) v0 x0, own 3 TR.int v472 l471]) (fun _ _ st => st) ?_
          refine GL.nilB ?_
          refine GL.region ?_
          refine RL.binI (v := .int .i64 ((i407 + 1 : Nat) : Int)) rfl rfl rfl rfl (binI_succ i407 (by omega)) ?_
          refine RL.mv rfl rfl rfl ?_
          refine RL.fin ?_
          cases h588
          exact fun a w st => lop_intro (i407 + 1, r419, l471, v472) ⟨by show i407 + 1 + r419.length = (x0).length; simp only [List.length_cons] at h413; omega, h420, h411⟩ (by simp) (St.cut [0, 1] ⟨rfl, rfl, rfl, rfl, trivial⟩ (by decide) rfl st)
      · have h416 : ¬ i407 < (x0).length := by have := of_decide_eq_false b415; omega
        obtain rfl : r408 = [] := by rw [← h414]; exact List.drop_of_length_le (by omega)
        replace h412 : some (Fl.nx _) = some y400 := h412
        cases h412
        exact GL.exit (fun a w st => mid_intro (l205, v206) h403 (St.cut [1] ⟨rfl, trivial⟩ (by decide) rfl st))
    · rintro ⟨l205, v206⟩ h589
      have h590 := h404 _ h589
      try dsimp only at h590
      refine GL.weak (env' := [(5, v206)]) (L' := [own 3 TR.int v206 l205]) (fun _ _ st => st) ?_
      refine GL.seq ?_
      refine GL.region ?_
      refine RL.mv rfl rfl rfl ?_
      refine RL.asg rfl rfl rfl ?_
      refine RL.asg rfl rfl rfl ?_
      refine RL.finG ?_
      have h590 := Option.some.inj h590
      subst h590
      exact GL.ret (Gx.ret (v := .tuple #[v206, .int .i64 (0 : Int)]) (res2 rfl rfl rfl) (fun a w st => (st.pick [0] (by decide) rfl).toPost v206))

set_option maxHeartbeats 4000000 in
theorem slices_IndexFunc_api_Errno_api_Errno_c (S : Hp) (w : World) (hS : S.sub w) (v0 : Value) (x0 : (List Int)) (k0 : ((TR.sl TR.int)).vrep S v0 x0) (f1 : FuncId) (c1 : Array Value) (t1 : Fit Try.prog f1) (g1 : Int → Option Bool) (k1 : ∀ (U : Hp) (w' : World), Hp.le S U → U.sub w' → ∀ (a0 : Int) (rr : Bool), g1 a0 = some rr → Calls Try.prog f1 (#[.int .i64 a0] ++ c1) w' (PostV w' (.bool rr))) (res : Int) (hm : slices_IndexFunc_api_Errno_api_Errno_m x0 g1 = some res) : Calls Try.prog 69 #[v0, .func (.func f1) #[] c1] w (PostV w (.int .i64 res)) := by
  refine calls_enter 19 Try.func69 Try.ntmps69 rfl S false [(0, v0), (1, .func (.func f1) #[] c1)] [imm (TR.sl TR.int) v0 x0] rfl ⟨rfl, ⟨rfl, trivial⟩⟩ hS ⟨k0, trivial⟩ ?_
  unfold slices_IndexFunc_api_Errno_api_Errno_m at hm
  refine GL.seq ?_
  refine GL.region ?_
  refine RL.asg rfl rfl rfl ?_
  refine RL.finG ?_
  refine GL.seq ?_
  refine GL.seq ?_
  refine GL.region ?_
  refine RL.mv rfl rfl rfl ?_
  refine RL.lenS 0 Try.underlying69 rfl rfl rfl rfl SlOf.imm ?_
  refine RL.mv rfl rfl rfl ?_
  refine RL.finG ?_
  refine GL.open_ 0 rfl (fun S h => len_imm S h) (fun n12 => ?_)
  obtain ⟨y13, K14, h15, h16, h17, h18, h19⟩ := bindR_K hm
  refine GL.join (ι := Unit) (fun (p : Unit) => []) (fun (p : Unit) => []) (fun (p : Unit) => K14 (.nx ())) ?_ ?_
  · refine GL.block ?_
    refine GL.loop (ι := Nat × (List Int)) (fun (p : Nat × (List Int)) => [(0, v0), (1, .func (.func f1) #[] c1), (7, .int .i64 ((x0).length : Int)), (8, .int .i64 (p.1 : Int))]) (fun (p : Nat × (List Int)) => [imm (TR.sl TR.int) v0 x0]) (fun (p : Nat × (List Int)) => p.1 + p.2.length = (x0).length ∧ List.drop p.1 x0 = p.2 ∧ rangeL (slices_IndexFunc_api_Errno_api_Errno_b1 g1) p.2 p.1 () = some y13) (fun (p : Nat × (List Int)) => p.2.length) (0, x0) ⟨by simp, by simp, h15⟩ (fun a w st => St.cut [0] ⟨rfl, rfl, rfl, rfl, trivial⟩ (by decide) rfl st) ?_
    rintro ⟨i20, r21⟩ ⟨h26, h27, h25⟩
    try dsimp only at h26 h27 h25
    refine GL.weak (env' := [(0, v0), (1, .func (.func f1) #[] c1), (7, .int .i64 ((x0).length : Int)), (8, .int .i64 (i20 : Int))]) (L' := [imm (TR.sl TR.int) v0 x0]) (fun _ _ st => st) ?_
    refine GL.seq ?_
    refine GL.region ?_
    refine RL.binI (v := .bool (decide ((i20 : Int) < ((x0).length : Int)))) rfl rfl rfl rfl rfl ?_
    refine RL.finG ?_
    refine GL.seq ?_
    refine GL.cond rfl (fun b28 => ?_) (fun b28 => ?_)
    · have h29 : i20 < (x0).length := by have := of_decide_eq_true b28; omega
      obtain ⟨y30, r32, hr, e31, h33⟩ := drop_cons h27 rfl h29
      subst hr
      obtain ⟨z22, h23, h24⟩ := rangeL_some h25
      unfold slices_IndexFunc_api_Errno_api_Errno_b1 at h23
      try dsimp only at h23
      refine GL.skip ?_
      refine GL.seq ?_
      refine GL.block ?_
      refine GL.seq ?_
      refine GL.region ?_
      refine RL.mv rfl rfl rfl ?_
      refine RL.asg rfl rfl rfl ?_
      refine RL.finG ?_
      refine GL.seq ?_
      refine GL.region ?_
      refine RL.mv rfl rfl rfl ?_
      refine RL.mv rfl rfl rfl ?_
      refine RL.mv rfl rfl rfl ?_
      refine RL.idxS (sz := 1) 0 Try.underlying69 Try_ln29 rfl rfl rfl rfl rfl SlOf.imm (by omega) (by omega) ?_
      refine RL.ldSx (i := i20) (e' := y30) 0 Ex.ik Try_ln29 rfl rfl rfl rfl SlOf.imm e31 Part.self ?_
      obtain ⟨y36, e37, h23⟩ := bind_some h23
      refine RL.callV (v := .bool y36) (vs := [.int .i64 y30]) t1 rfl (Or.inl rfl) rfl rfl rfl rfl (fun U w hU hW hL => k1 U w hW hU y30 _ e37) ?_
      refine RL.finG ?_
      refine GL.cond rfl (fun b38 => ?_) (fun b38 => ?_)
      · replace h23 := ite_t b38 h23
        refine GL.seq ?_
        refine GL.region ?_
        refine RL.mv rfl rfl rfl ?_
        refine RL.asg rfl rfl rfl ?_
        refine RL.finG ?_
        cases h23
        replace h24 : some (Fl.rt _) = some y13 := h24
        cases h24
        have hh := h18 _ h16
        subst hh
        exact GL.ret (Gx.ret (v := .int .i64 (i20 : Int)) (res1 rfl rfl) (fun a w st => st.toPostV))
      · replace h23 := ite_f b38 h23
        refine GL.skip ?_
        refine GL.nilB ?_
        refine GL.region ?_
        refine RL.binI (v := .int .i64 ((i20 + 1 : Nat) : Int)) rfl rfl rfl rfl (binI_succ i20 (by omega)) ?_
        refine RL.mv rfl rfl rfl ?_
        refine RL.fin ?_
        cases h23
        exact fun a w st => lop_intro (i20 + 1, r32) ⟨by show i20 + 1 + r32.length = (x0).length; simp only [List.length_cons] at h26; omega, h33, h24⟩ (by simp) (St.cut [0] ⟨rfl, rfl, rfl, rfl, trivial⟩ (by decide) rfl st)
    · have h29 : ¬ i20 < (x0).length := by have := of_decide_eq_false b28; omega
      obtain rfl : r21 = [] := by rw [← h27]; exact List.drop_of_length_le (by omega)
      replace h25 : some (Fl.nx _) = some y13 := h25
      cases h25
      exact GL.exit (fun a w st => mid_intro () h16 (St.cut [] trivial (by decide) rfl st))
  · rintro ⟨⟩ h39
    have h40 := h17 _ h39
    try dsimp only at h40
    refine GL.weak (env' := []) (L' := []) (fun _ _ st => st) ?_
    refine GL.seq ?_
    refine GL.region ?_
    refine RL.asg rfl rfl rfl ?_
    refine RL.finG ?_
    have h40 := Option.some.inj h40
    subst h40
    exact GL.ret (Gx.ret (v := .int .i64 (-1 : Int)) (res1 rfl rfl) (fun a w st => st.toPostV))

set_option maxHeartbeats 4000000 in
theorem slices_ContainsFunc_api_Errno_api_Errno_c (S : Hp) (w : World) (hS : S.sub w) (v0 : Value) (x0 : (List Int)) (k0 : ((TR.sl TR.int)).vrep S v0 x0) (f1 : FuncId) (c1 : Array Value) (t1 : Fit Try.prog f1) (g1 : Int → Option Bool) (k1 : ∀ (U : Hp) (w' : World), Hp.le S U → U.sub w' → ∀ (a0 : Int) (rr : Bool), g1 a0 = some rr → Calls Try.prog f1 (#[.int .i64 a0] ++ c1) w' (PostV w' (.bool rr))) (res : Bool) (hm : slices_ContainsFunc_api_Errno_api_Errno_m x0 g1 = some res) : Calls Try.prog 53 #[v0, .func (.func f1) #[] c1] w (PostV w (.bool res)) := by
  refine calls_enter 9 Try.func53 Try.ntmps53 rfl S false [(0, v0), (1, .func (.func f1) #[] c1)] [imm (TR.sl TR.int) v0 x0] rfl ⟨rfl, ⟨rfl, trivial⟩⟩ hS ⟨k0, trivial⟩ ?_
  unfold slices_ContainsFunc_api_Errno_api_Errno_m at hm
  refine GL.seq ?_
  refine GL.region ?_
  refine RL.asg rfl rfl rfl ?_
  refine RL.finG ?_
  refine GL.seq ?_
  refine GL.region ?_
  refine RL.mv rfl rfl rfl ?_
  refine RL.mv rfl rfl rfl ?_
  obtain ⟨y5, e6, hm⟩ := bind_some hm
  refine RL.callV (v := .int .i64 y5) (vs := [v0, .func (.func f1) #[] c1]) Try_fit69 rfl (Or.inl rfl) rfl rfl rfl rfl (fun U w hU hW hL => slices_IndexFunc_api_Errno_api_Errno_c U w hU _ _ (hL 0 _ _ rfl Seen.imm) f1 c1 t1 g1 (fun U' w' hle => k1 U' w' (Hp.le_trans hW hle)) _ e6) ?_
  refine RL.binI (v := .bool (decide (y5 ≥ (0 : Int)))) rfl rfl rfl rfl rfl ?_
  refine RL.asg rfl rfl rfl ?_
  refine RL.finG ?_
  have hm := Option.some.inj hm
  subst hm
  exact GL.ret (Gx.ret (v := .bool (decide (y5 ≥ (0 : Int)))) (res1 rfl rfl) (fun a w st => st.toPostV))

set_option maxHeartbeats 4000000 in
theorem pk_good_1_c (S : Hp) (w : World) (hS : S.sub w) (x0 : Int) (res : Bool) (hm : pk_good_1_m x0 = some res) : Calls Try.prog 54 #[.int .i64 x0] w (PostC w (.bool res)) := by
  refine calls_enter 5 Try.func54 Try.ntmps54 rfl S true [(0, .int .i64 x0)] [] rfl ⟨rfl, trivial⟩ hS trivial ?_
  unfold pk_good_1_m at hm
  refine GL.seq ?_
  refine GL.region ?_
  refine RL.asg rfl rfl rfl ?_
  refine RL.finG ?_
  refine GL.seq ?_
  refine GL.region ?_
  refine RL.mv rfl rfl rfl ?_
  refine RL.binI (v := .bool (x0 != (0 : Int))) rfl rfl rfl rfl rfl ?_
  refine RL.asg rfl rfl rfl ?_
  refine RL.finG ?_
  have hm := Option.some.inj hm
  subst hm
  exact GL.ret (Gx.ret (v := .bool (x0 != (0 : Int))) (res1 rfl rfl) (fun a w st => st.toPostC rfl))

set_option maxHeartbeats 4000000 in
theorem pk_good_c (S : Hp) (w : World) (hS : S.sub w) (v0 : Value) (x0 : (List Int)) (k0 : ((TR.sl TR.int)).vrep S v0 x0) (res : Bool) (hm : pk_good_m x0 = some res) : Calls Try.prog 22 #[v0] w (PostV w (.bool res)) := by
  refine calls_enter 6 Try.func22 Try.ntmps22 rfl S false [(0, v0)] [imm (TR.sl TR.int) v0 x0] rfl ⟨rfl, trivial⟩ hS ⟨k0, trivial⟩ ?_
  unfold pk_good_m at hm
  refine GL.seq ?_
  refine GL.region ?_
  refine RL.asg rfl rfl rfl ?_
  refine RL.finG ?_
  refine GL.seq ?_
  refine GL.region ?_
  refine RL.mv rfl rfl rfl ?_
  obtain ⟨y4, e5, hm⟩ := bind_some hm
  refine RL.callV (v := .bool y4) (vs := [v0, .func (.func 54) #[] #[]]) Try_fit53 rfl (Or.inl rfl) rfl rfl rfl rfl (fun U w hU hW hL => slices_ContainsFunc_api_Errno_api_Errno_c U w hU _ _ (hL 0 _ _ rfl Seen.imm) 54 #[] Try_fit54 (fun a0 => pk_good_1_m a0) (fun U' w' hle hU' a0 rr hr => (pk_good_1_c U' w' hU' a0 rr hr).mono (fun _ _ z => z.toV)) _ e5) ?_
  refine RL.notB rfl rfl rfl ?_
  refine RL.asg rfl rfl rfl ?_
  refine RL.finG ?_
  have hm := Option.some.inj hm
  subst hm
  exact GL.ret (Gx.ret (v := .bool (!y4)) (res1 rfl rfl) (fun a w st => st.toPostV))

set_option maxHeartbeats 4000000 in
theorem pk_duels_c (S : Hp) (w : World) (hS : S.sub w)  (res : Bool) (hm : pk_duels_m = some res) : Calls Try.prog 37 #[] w (PostV w (.bool res)) := by
  refine calls_enter 35 Try.func37 Try.ntmps37 rfl S false [] [] rfl trivial hS trivial ?_
  unfold pk_duels_m at hm
  refine GL.seq ?_
  refine GL.region ?_
  refine RL.asg rfl rfl rfl ?_
  refine RL.finG ?_
  refine GL.seq ?_
  refine GL.region ?_
  refine RL.bS (t := TR.int) (vs := [.int .i64 (0 : Int), .int .i64 (2 : Int), .int .i64 (1 : Int)]) ([(0 : Int), (2 : Int), (1 : Int)] : (List Int)) Try.underlying22 Try_lo3 rfl rfl rfl rfl ⟨VR.int, ⟨VR.int, ⟨VR.int, trivial⟩⟩⟩ rfl (by decide) ?_
  intro v8
  refine RL.bS (t := TR.int) (vs := [.int .i64 (1 : Int), .int .i64 (0 : Int), .int .i64 (2 : Int)]) ([(1 : Int), (0 : Int), (2 : Int)] : (List Int)) Try.underlying22 Try_lo3 rfl rfl rfl rfl ⟨VR.int, ⟨VR.int, ⟨VR.int, trivial⟩⟩⟩ rfl (by decide) ?_
  intro v9
  refine RL.reL (L' := [own 3 TR.int v8 ([(0 : Int), (2 : Int), (1 : Int)] : (List Int)), own 3 TR.int v9 ([(1 : Int), (0 : Int), (2 : Int)] : (List Int))]) rfl ?_
  refine RL.bS (t := TR.int) (vs := [.int .i64 (2 : Int), .int .i64 (1 : Int), .int .i64 (0 : Int)]) ([(2 : Int), (1 : Int), (0 : Int)] : (List Int)) Try.underlying22 Try_lo3 rfl rfl rfl rfl ⟨VR.int, ⟨VR.int, ⟨VR.int, trivial⟩⟩⟩ rfl (by decide) ?_
  intro v10
  refine RL.weak (fun a w st => st.freeze 0 rfl) ?_
  refine RL.weak (fun a w st => st.freeze 1 rfl) ?_
  refine RL.weak (fun a w st => st.freeze 2 rfl) ?_
  refine RL.bS (t := (TR.sl TR.int)) (vs := [v8, v9, v10]) ([([(0 : Int), (2 : Int), (1 : Int)] : (List Int)), ([(1 : Int), (0 : Int), (2 : Int)] : (List Int)), ([(2 : Int), (1 : Int), (0 : Int)] : (List Int))] : (List (List Int))) Try.underlying28 Try_lo22 rfl rfl rfl rfl ⟨(VR.item 0 rfl), ⟨(VR.item 1 rfl), ⟨(VR.item 2 rfl), trivial⟩⟩⟩ rfl (by decide) ?_
  intro v11
  refine RL.reL (L' := [imm (TR.sl TR.int) v8 ([(0 : Int), (2 : Int), (1 : Int)] : (List Int)), imm (TR.sl TR.int) v9 ([(1 : Int), (0 : Int), (2 : Int)] : (List Int)), imm (TR.sl TR.int) v10 ([(2 : Int), (1 : Int), (0 : Int)] : (List Int)), own 22 (TR.sl TR.int) v11 ([([(0 : Int), (2 : Int), (1 : Int)] : (List Int)), ([(1 : Int), (0 : Int), (2 : Int)] : (List Int)), ([(2 : Int), (1 : Int), (0 : Int)] : (List Int))] : (List (List Int)))]) rfl ?_
  refine RL.weak (fun a w st => st.freeze 3 rfl) ?_
  obtain ⟨y12, e13, hm⟩ := bind_some hm
  refine RL.call (vs := [v11]) Try_fit38 rfl rfl rfl rfl rfl (fun S f w hS hW hi => duel_Top_c S w hS _ _ (hi 3 _ rfl) _ e13) ?_
  intro v14
  refine RL.reL (L' := [imm (TR.sl TR.int) v8 ([(0 : Int), (2 : Int), (1 : Int)] : (List Int)), imm (TR.sl TR.int) v9 ([(1 : Int), (0 : Int), (2 : Int)] : (List Int)), imm (TR.sl TR.int) v10 ([(2 : Int), (1 : Int), (0 : Int)] : (List Int)), imm (TR.sl (TR.sl TR.int)) v11 ([([(0 : Int), (2 : Int), (1 : Int)] : (List Int)), ([(1 : Int), (0 : Int), (2 : Int)] : (List Int)), ([(2 : Int), (1 : Int), (0 : Int)] : (List Int))] : (List (List Int))), own 3 TR.int v14 y12.1]) rfl ?_
  refine RL.mv rfl rfl rfl ?_
  refine RL.ext rfl rfl rfl rfl ?_
  refine RL.ext rfl rfl rfl rfl ?_
  refine RL.asg rfl rfl rfl ?_
  refine RL.asg rfl rfl rfl ?_
  refine RL.finG ?_
  refine GL.seq ?_
  refine GL.region ?_
  refine RL.bS (t := TR.int) (vs := [.int .i64 (0 : Int), .int .i64 (2 : Int), .int .i64 (2 : Int)]) ([(0 : Int), (2 : Int), (2 : Int)] : (List Int)) Try.underlying22 Try_lo3 rfl rfl rfl rfl ⟨VR.int, ⟨VR.int, ⟨VR.int, trivial⟩⟩⟩ rfl (by decide) ?_
  intro v22
  refine RL.bS (t := TR.int) (vs := [.int .i64 (1 : Int), .int .i64 (0 : Int), .int .i64 (2 : Int)]) ([(1 : Int), (0 : Int), (2 : Int)] : (List Int)) Try.underlying22 Try_lo3 rfl rfl rfl rfl ⟨VR.int, ⟨VR.int, ⟨VR.int, trivial⟩⟩⟩ rfl (by decide) ?_
  intro v23
  refine RL.reL (L' := [imm (TR.sl TR.int) v8 ([(0 : Int), (2 : Int), (1 : Int)] : (List Int)), imm (TR.sl TR.int) v9 ([(1 : Int), (0 : Int), (2 : Int)] : (List Int)), imm (TR.sl TR.int) v10 ([(2 : Int), (1 : Int), (0 : Int)] : (List Int)), imm (TR.sl (TR.sl TR.int)) v11 ([([(0 : Int), (2 : Int), (1 : Int)] : (List Int)), ([(1 : Int), (0 : Int), (2 : Int)] : (List Int)), ([(2 : Int), (1 : Int), (0 : Int)] : (List Int))] : (List (List Int))), own 3 TR.int v14 y12.1, own 3 TR.int v22 ([(0 : Int), (2 : Int), (2 : Int)] : (List Int)), own 3 TR.int v23 ([(1 : Int), (0 : Int), (2 : Int)] : (List Int))]) rfl ?_
  refine RL.bS (t := TR.int) (vs := [.int .i64 (1 : Int), .int .i64 (1 : Int), .int .i64 (0 : Int)]) ([(1 : Int), (1 : Int), (0 : Int)] : (List Int)) Try.underlying22 Try_lo3 rfl rfl rfl rfl ⟨VR.int, ⟨VR.int, ⟨VR.int, trivial⟩⟩⟩ rfl (by decide) ?_
  intro v24
  refine RL.weak (fun a w st => st.freeze 5 rfl) ?_
  refine RL.weak (fun a w st => st.freeze 6 rfl) ?_
  refine RL.weak (fun a w st => st.freeze 7 rfl) ?_
  refine RL.bS (t := (TR.sl TR.int)) (vs := [v22, v23, v24]) ([([(0 : Int), (2 : Int), (2 : Int)] : (List Int)), ([(1 : Int), (0 : Int), (2 : Int)] : (List Int)), ([(1 : Int), (1 : Int), (0 : Int)] : (List Int))] : (List (List Int))) Try.underlying28 Try_lo22 rfl rfl rfl rfl ⟨(VR.item 5 rfl), ⟨(VR.item 6 rfl), ⟨(VR.item 7 rfl), trivial⟩⟩⟩ rfl (by decide) ?_
  intro v25
  refine RL.reL (L' := [imm (TR.sl TR.int) v8 ([(0 : Int), (2 : Int), (1 : Int)] : (List Int)), imm (TR.sl TR.int) v9 ([(1 : Int), (0 : Int), (2 : Int)] : (List Int)), imm (TR.sl TR.int) v10 ([(2 : Int), (1 : Int), (0 : Int)] : (List Int)), imm (TR.sl (TR.sl TR.int)) v11 ([([(0 : Int), (2 : Int), (1 : Int)] : (List Int)), ([(1 : Int), (0 : Int), (2 : Int)] : (List Int)), ([(2 : Int), (1 : Int), (0 : Int)] : (List Int))] : (List (List Int))), own 3 TR.int v14 y12.1, imm (TR.sl TR.int) v22 ([(0 : Int), (2 : Int), (2 : Int)] : (List Int)), imm (TR.sl TR.int) v23 ([(1 : Int), (0 : Int), (2 : Int)] : (List Int)), imm (TR.sl TR.int) v24 ([(1 : Int), (1 : Int), (0 : Int)] : (List Int)), own 22 (TR.sl TR.int) v25 ([([(0 : Int), (2 : Int), (2 : Int)] : (List Int)), ([(1 : Int), (0 : Int), (2 : Int)] : (List Int)), ([(1 : Int), (1 : Int), (0 : Int)] : (List Int))] : (List (List Int)))]) rfl ?_
  refine RL.weak (fun a w st => st.freeze 8 rfl) ?_
  obtain ⟨y26, e27, hm⟩ := bind_some hm
  refine RL.call (vs := [v25]) Try_fit59 rfl rfl rfl rfl rfl (fun S f w hS hW hi => duel_Wins_c S w hS _ _ (hi 8 _ rfl) _ e27) ?_
  intro v28
  refine RL.reL (L' := [imm (TR.sl TR.int) v8 ([(0 : Int), (2 : Int), (1 : Int)] : (List Int)), imm (TR.sl TR.int) v9 ([(1 : Int), (0 : Int), (2 : Int)] : (List Int)), imm (TR.sl TR.int) v10 ([(2 : Int), (1 : Int), (0 : Int)] : (List Int)), imm (TR.sl (TR.sl TR.int)) v11 ([([(0 : Int), (2 : Int), (1 : Int)] : (List Int)), ([(1 : Int), (0 : Int), (2 : Int)] : (List Int)), ([(2 : Int), (1 : Int), (0 : Int)] : (List Int))] : (List (List Int))), own 3 TR.int v14 y12.1, imm (TR.sl TR.int) v22 ([(0 : Int), (2 : Int), (2 : Int)] : (List Int)), imm (TR.sl TR.int) v23 ([(1 : Int), (0 : Int), (2 : Int)] : (List Int)), imm (TR.sl TR.int) v24 ([(1 : Int), (1 : Int), (0 : Int)] : (List Int)), imm (TR.sl (TR.sl TR.int)) v25 ([([(0 : Int), (2 : Int), (2 : Int)] : (List Int)), ([(1 : Int), (0 : Int), (2 : Int)] : (List Int)), ([(1 : Int), (1 : Int), (0 : Int)] : (List Int))] : (List (List Int))), own 3 TR.int v28 y26.1]) rfl ?_
  refine RL.mv rfl rfl rfl ?_
  refine RL.ext rfl rfl rfl rfl ?_
  refine RL.ext rfl rfl rfl rfl ?_
  refine RL.asg rfl rfl rfl ?_
  refine RL.asg rfl rfl rfl ?_
  refine RL.finG ?_
  refine GL.seq ?_
  obtain ⟨y52, K53, h54, h55, h56, h57, h58⟩ := bindR_K hm
  refine GL.join (ι := Bool) (fun (p : Bool) => [(0, .bool p)]) (fun (p : Bool) => []) (fun (p : Bool) => K53 (.nx p)) ?_ ?_
  · skip
    refine GL.region ?_
    refine RL.mv rfl rfl rfl ?_
    refine RL.mv rfl rfl rfl ?_
    refine RL.bS (t := TR.int) (vs := [.int .i64 y12.2, .int .i64 y26.2]) ([y12.2, y26.2] : (List Int)) Try.underlying69 Try_lo29 rfl rfl rfl rfl ⟨VR.int, ⟨VR.int, trivial⟩⟩ rfl (by decide) ?_
    intro v59
    obtain ⟨y60, e61, h54⟩ := bind_some h54
    refine RL.callV (v := .bool y60) (vs := [v59]) Try_fit22 rfl (Or.inl rfl) rfl rfl rfl rfl (fun U w hU hW hL => pk_good_c U w hU _ _ (hL 10 _ _ rfl Seen.own) _ e61) ?_
    refine RL.mv rfl rfl rfl ?_
    refine RL.split (t := 25) rfl (fun b62 => ?_) (fun b62 => ?_)
    · replace h54 := ite_t b62 h54
      refine RL.mv rfl rfl rfl ?_
      refine RL.bS (t := TR.int) (vs := [.int .i64 (0 : Int), .int .i64 (1 : Int), .int .i64 (2 : Int)]) ([(0 : Int), (1 : Int), (2 : Int)] : (List Int)) Try.underlying22 Try_lo3 rfl rfl rfl rfl ⟨VR.int, ⟨VR.int, ⟨VR.int, trivial⟩⟩⟩ rfl (by decide) ?_
      intro v63
      refine RL.reL (L' := [imm (TR.sl TR.int) v8 ([(0 : Int), (2 : Int), (1 : Int)] : (List Int)), imm (TR.sl TR.int) v9 ([(1 : Int), (0 : Int), (2 : Int)] : (List Int)), imm (TR.sl TR.int) v10 ([(2 : Int), (1 : Int), (0 : Int)] : (List Int)), imm (TR.sl (TR.sl TR.int)) v11 ([([(0 : Int), (2 : Int), (1 : Int)] : (List Int)), ([(1 : Int), (0 : Int), (2 : Int)] : (List Int)), ([(2 : Int), (1 : Int), (0 : Int)] : (List Int))] : (List (List Int))), own 3 TR.int v14 y12.1, imm (TR.sl TR.int) v22 ([(0 : Int), (2 : Int), (2 : Int)] : (List Int)), imm (TR.sl TR.int) v23 ([(1 : Int), (0 : Int), (2 : Int)] : (List Int)), imm (TR.sl TR.int) v24 ([(1 : Int), (1 : Int), (0 : Int)] : (List Int)), imm (TR.sl (TR.sl TR.int)) v25 ([([(0 : Int), (2 : Int), (2 : Int)] : (List Int)), ([(1 : Int), (0 : Int), (2 : Int)] : (List Int)), ([(1 : Int), (1 : Int), (0 : Int)] : (List Int))] : (List (List Int))), own 3 TR.int v28 y26.1, own 29 TR.int v59 ([y12.2, y26.2] : (List Int)), own 3 TR.int v63 ([(0 : Int), (1 : Int), (2 : Int)] : (List Int))]) rfl ?_
      obtain ⟨y64, e65, h54⟩ := bind_some h54
      refine RL.callV (v := .bool y64) (vs := [v14, v63]) Try_fit34 rfl (Or.inl rfl) rfl rfl rfl rfl (fun U w hU hW hL => slices_Equal_int_int_c U w hU _ _ (hL 4 _ _ rfl Seen.own) _ _ (hL 11 _ _ rfl Seen.own) _ e65) ?_
      refine RL.pickT rfl rfl rfl rfl ?_
      refine RL.mv rfl rfl rfl ?_
      refine RL.split (t := 30) rfl (fun b66 => ?_) (fun b66 => ?_)
      · replace h54 := ite_t b66 h54
        refine RL.mv rfl rfl rfl ?_
        refine RL.bS (t := TR.int) (vs := [.int .i64 (2 : Int), .int .i64 (0 : Int), .int .i64 (-2 : Int)]) ([(2 : Int), (0 : Int), (-2 : Int)] : (List Int)) Try.underlying22 Try_lo3 rfl rfl rfl rfl ⟨VR.int, ⟨VR.int, ⟨VR.int, trivial⟩⟩⟩ rfl (by decide) ?_
        intro v67
        obtain ⟨y68, e69, h54⟩ := bind_some h54
        refine RL.callV (v := .bool y68) (vs := [v28, v67]) Try_fit34 rfl (Or.inl rfl) rfl rfl rfl rfl (fun U w hU hW hL => slices_Equal_int_int_c U w hU _ _ (hL 9 _ _ rfl Seen.own) _ _ (hL 12 _ _ rfl Seen.own) _ e69) ?_
        refine RL.pickT rfl rfl rfl rfl ?_
        refine RL.asg rfl rfl rfl ?_
        refine RL.fin ?_
        cases h54
        exact fun a w st => mid_intro y68 h55 (St.cut [] ⟨rfl, trivial⟩ (by decide) rfl st)
      · replace h54 := ite_f b66 h54
        refine RL.skip rfl rfl ?_
        refine RL.skip rfl rfl ?_
        refine RL.skip rfl rfl ?_
        refine RL.pickF rfl rfl rfl rfl ?_
        refine RL.asg rfl rfl rfl ?_
        refine RL.fin ?_
        cases h54
        exact fun a w st => mid_intro false h55 (St.cut [] ⟨rfl, trivial⟩ (by decide) rfl st)
    · replace h54 := ite_f b62 h54
      refine RL.skip rfl rfl ?_
      refine RL.skip rfl rfl ?_
      refine RL.skip rfl rfl ?_
      refine RL.pickF rfl rfl rfl rfl ?_
      refine RL.mv rfl rfl rfl ?_
      refine RL.skip rfl rfl ?_
      refine RL.skip rfl rfl ?_
      refine RL.skip rfl rfl ?_
      refine RL.pickF rfl rfl rfl rfl ?_
      refine RL.asg rfl rfl rfl ?_
      refine RL.fin ?_
      cases h54
      exact fun a w st => mid_intro false h55 (St.cut [] ⟨rfl, trivial⟩ (by decide) rfl st)
  · rintro x51 h70
    have h71 := h56 _ h70
    try dsimp only at h71
    refine GL.weak (env' := [(0, .bool x51)]) (L' := []) (fun _ _ st => st) ?_
    have h71 := Option.some.inj h71
    subst h71
    exact GL.ret (Gx.ret (v := .bool x51) (res1 rfl rfl) (fun a w st => st.toPostV))

set_option maxHeartbeats 4000000 in
theorem ref_Rest_c (S : Hp) (w : World) (hS : S.sub w) (x0 : Int) (x1 : Int) (res : Int) (hm : ref_Rest_m x0 x1 = some res) : Calls Try.prog 50 #[.int .i64 x0, .int .i64 x1] w (PostC w (.int .i64 res)) := by
  refine calls_enter 14 Try.func50 Try.ntmps50 rfl S true [(0, .int .i64 x0), (1, .int .i64 x1)] [] rfl ⟨rfl, ⟨rfl, trivial⟩⟩ hS trivial ?_
  unfold ref_Rest_m at hm
  refine GL.seq ?_
  refine GL.region ?_
  refine RL.asg rfl rfl rfl ?_
  refine RL.finG ?_
  refine GL.seq ?_
  refine GL.region ?_
  refine RL.mv rfl rfl rfl ?_
  refine RL.mv rfl rfl rfl ?_
  obtain ⟨y5, e6, hm⟩ := bind_some hm
  replace e6 := chk_some e6
  refine RL.rem rfl rfl rfl rfl e6 ?_
  refine RL.asg rfl rfl rfl ?_
  refine RL.finG ?_
  refine GL.seq ?_
  refine GL.seq ?_
  refine GL.region ?_
  refine RL.mv rfl rfl rfl ?_
  refine RL.binI (v := .bool (decide ((Int.tmod x0 x1) < (0 : Int)))) rfl rfl rfl rfl rfl ?_
  refine RL.finG ?_
  obtain ⟨y9, K10, h11, h12, h13, h14, h15⟩ := bindR_K hm
  refine GL.join (ι := Int) (fun (p : Int) => [(0, .int .i64 p)]) (fun (p : Int) => []) (fun (p : Int) => K10 (.nx p)) ?_ ?_
  · skip
    refine GL.cond rfl (fun b16 => ?_) (fun b16 => ?_)
    · replace h11 := ite_t b16 h11
      refine GL.region ?_
      refine RL.mv rfl rfl rfl ?_
      refine RL.mv rfl rfl rfl ?_
      refine RL.binI (v := .int .i64 (wadd (Int.tmod x0 x1) x1)) rfl rfl rfl rfl rfl ?_
      refine RL.asg rfl rfl rfl ?_
      refine RL.finG ?_
      cases h11
      exact fun a w st => mid_intro (wadd (Int.tmod x0 x1) x1) h12 (St.cut [] ⟨rfl, trivial⟩ (by decide) rfl st)
    · replace h11 := ite_f b16 h11
      refine GL.skip ?_
      cases h11
      exact fun a w st => mid_intro (Int.tmod x0 x1) h12 (St.cut [] ⟨rfl, trivial⟩ (by decide) rfl st)
  · rintro x8 h17
    have h18 := h13 _ h17
    try dsimp only at h18
    refine GL.weak (env' := [(0, .int .i64 x8)]) (L' := []) (fun _ _ st => st) ?_
    refine GL.seq ?_
    refine GL.region ?_
    refine RL.mv rfl rfl rfl ?_
    refine RL.asg rfl rfl rfl ?_
    refine RL.finG ?_
    have h18 := Option.some.inj h18
    subst h18
    exact GL.ret (Gx.ret (v := .int .i64 x8) (res1 rfl rfl) (fun a w st => st.toPostC rfl))

set_option maxHeartbeats 4000000 in
theorem pk_Within_c (S : Hp) (w : World) (hS : S.sub w) (x0 : Int) (x1 : Int) (res : Int) (hm : pk_Within_m x0 x1 = some res) : Calls Try.prog 16 #[.int .i64 x0, .int .i64 x1] w (PostC w (.int .i64 res)) := by
  refine calls_enter 8 Try.func16 Try.ntmps16 rfl S true [(0, .int .i64 x0), (1, .int .i64 x1)] [] rfl ⟨rfl, ⟨rfl, trivial⟩⟩ hS trivial ?_
  unfold pk_Within_m at hm
  refine GL.seq ?_
  refine GL.region ?_
  refine RL.asg rfl rfl rfl ?_
  refine RL.finG ?_
  refine GL.seq ?_
  refine GL.region ?_
  refine RL.mv rfl rfl rfl ?_
  refine RL.mv rfl rfl rfl ?_
  obtain ⟨y5, e6, hm⟩ := bind_some hm
  refine RL.callC (v := .int .i64 y5) (vs := [.int .i64 x0, .int .i64 x1]) Try_fit50 rfl rfl rfl rfl (fun U w hU hW hL => ref_Rest_c U w hU x0 x1 _ e6) ?_
  refine RL.asg rfl rfl rfl ?_
  refine RL.finG ?_
  have hm := Option.some.inj hm
  subst hm
  exact GL.ret (Gx.ret (v := .int .i64 y5) (res1 rfl rfl) (fun a w st => st.toPostC rfl))

set_option maxHeartbeats 4000000 in
theorem ref_Sides_c (S : Hp) (w : World) (hS : S.sub w) (x0 : Int) (res : (List Int)) (hm : ref_Sides_m x0 = some res) : Calls Try.prog 51 #[.int .i64 x0] w (Post w S (fun (o : Value) => o) (fun (o : Value) => [own 3 TR.int o res])) := by
  refine calls_enter 15 Try.func51 Try.ntmps51 rfl S false [(0, .int .i64 x0)] [] rfl ⟨rfl, trivial⟩ hS trivial ?_
  unfold ref_Sides_m at hm
  refine GL.seq ?_
  refine GL.region ?_
  refine RL.asg rfl rfl rfl ?_
  refine RL.finG ?_
  refine GL.seq ?_
  refine GL.region ?_
  refine RL.asg rfl rfl rfl ?_
  refine RL.finG ?_
  refine GL.seq ?_
  refine GL.seq ?_
  refine GL.region ?_
  refine RL.mv rfl rfl rfl ?_
  refine RL.mv rfl rfl rfl ?_
  refine RL.finG ?_
  refine GL.weak (fun a w st => st.nilOwn 3 TR.int) ?_
  obtain ⟨y13, e14, hm⟩ := bind_some hm
  replace e14 := chk_some e14
  obtain ⟨y15, K16, h17, h18, h19, h20, h21⟩ := bindR_K hm
  refine GL.join (ι := (List Int) × Value) (fun (p : (List Int) × Value) => [(3, p.2)]) (fun (p : (List Int) × Value) => [own 3 TR.int p.2 p.1]) (fun (p : (List Int) × Value) => K16 (.nx p.1)) ?_ ?_
  · refine GL.block ?_
    refine GL.loop (ι := Nat × Nat × (List Int) × Value) (fun (p : Nat × Nat × (List Int) × Value) => [(3, p.2.2.2), (5, .int .i64 x0), (6, .int .i64 (p.1 : Int))]) (fun (p : Nat × Nat × (List Int) × Value) => [own 3 TR.int p.2.2.2 p.2.2.1]) (fun (p : Nat × Nat × (List Int) × Value) => p.1 + p.2.1 = (x0).toNat ∧ rangeN ref_Sides_b1 p.2.1 p.1 p.2.2.1 = some y15) (fun (p : Nat × Nat × (List Int) × Value) => p.2.1) (0, (x0).toNat, [], Value.slice none 0 0) ⟨by simp, h17⟩ (fun a w st => St.cut [0] ⟨rfl, rfl, rfl, trivial⟩ (by decide) rfl st) ?_
    rintro ⟨i22, r23, l2, v3⟩ ⟨h28, h27⟩
    try dsimp only at h28 h27
    refine GL.weak (env' := [(3, v3), (5, .int .i64 x0), (6, .int .i64 (i22 : Int))]) (L' := [own 3 TR.int v3 l2]) (fun _ _ st => st) ?_
    refine GL.seq ?_
    refine GL.region ?_
    refine RL.binI (v := .bool (decide ((i22 : Int) < x0))) rfl rfl rfl rfl rfl ?_
    refine RL.finG ?_
    refine GL.seq ?_
    refine GL.cond rfl (fun b30 => ?_) (fun b30 => ?_)
    · have h31 : i22 < (x0).toNat := by have := of_decide_eq_true b30; omega
      obtain ⟨r32, hr⟩ : ∃ m, r23 = m + 1 := ⟨r23 - 1, by omega⟩
      subst hr
      obtain ⟨z24, h25, h26⟩ := rangeN_some h27
      unfold ref_Sides_b1 at h25
      try dsimp only at h25
      refine GL.skip ?_
      refine GL.seq ?_
      refine GL.block ?_
      refine GL.seq ?_
      refine GL.region ?_
      refine RL.mv rfl rfl rfl ?_
      refine RL.asg rfl rfl rfl ?_
      refine RL.finG ?_
      refine GL.region ?_
      refine RL.mv rfl rfl rfl ?_
      refine RL.mv rfl rfl rfl ?_
      refine RL.bS (t := TR.int) (vs := [.int .i64 (i22 : Int)]) ([(i22 : Int)] : (List Int)) Try.underlying22 Try_lo3 rfl rfl rfl rfl ⟨VR.int, trivial⟩ rfl (by decide) ?_
      intro v37
      obtain ⟨y38, e39, h25⟩ := bind_some h25
      replace e39 := chk_some e39
      refine RL.app 0 1 Try.underlying22 Try_lo3 rfl rfl rfl rfl rfl rfl rfl SlOf.own e39 ?_
      intro v40
      refine RL.reL (L' := [own 3 TR.int v40 (l2 ++ ([(i22 : Int)] : (List Int))), own 3 TR.int v37 ([(i22 : Int)] : (List Int))]) rfl ?_
      refine RL.asg rfl rfl rfl ?_
      refine RL.finG ?_
      refine GL.nilB ?_
      refine GL.region ?_
      refine RL.binI (v := .int .i64 ((i22 + 1 : Nat) : Int)) rfl rfl rfl rfl (binI_succ i22 (by omega)) ?_
      refine RL.mv rfl rfl rfl ?_
      refine RL.fin ?_
      cases h25
      exact fun a w st => lop_intro (i22 + 1, r32, (l2 ++ ([(i22 : Int)] : (List Int))), v40) ⟨by show i22 + 1 + r32 = (x0).toNat; omega, h26⟩ (by simp) (St.cut [0] ⟨rfl, rfl, rfl, trivial⟩ (by decide) rfl st)
    · have h31 : ¬ i22 < (x0).toNat := by have := of_decide_eq_false b30; omega
      obtain rfl : r23 = 0 := by omega
      replace h27 : some (Fl.nx _) = some y15 := h27
      cases h27
      exact GL.exit (fun a w st => mid_intro (l2, v3) h18 (St.cut [0] ⟨rfl, trivial⟩ (by decide) rfl st))
  · rintro ⟨l2, v3⟩ h41
    have h42 := h19 _ h41
    try dsimp only at h42
    refine GL.weak (env' := [(3, v3)]) (L' := [own 3 TR.int v3 l2]) (fun _ _ st => st) ?_
    refine GL.seq ?_
    refine GL.region ?_
    refine RL.mv rfl rfl rfl ?_
    refine RL.asg rfl rfl rfl ?_
    refine RL.finG ?_
    have h42 := Option.some.inj h42
    subst h42
    exact GL.ret (Gx.ret (v := v3) (res1 rfl rfl) (fun a w st => (st.pick [0] (by decide) rfl).toPost v3))

set_option maxHeartbeats 4000000 in
theorem slices_Delete_int_int_c (B : World) (S : Hp) (f : Nat → Hp) (w : World) (v0 : Value) (x0 : List Int) (hO : HeapOk B.heap.size S f [own 3 TR.int v0 x0].length w) (hB : Below B.heap.size B w) (hI : Its [own 3 TR.int v0 x0] S f) (x1 x2 : Int) (res : List Int) (hm : slices_Delete_int_int_m x0 x1 x2 = some res) : Calls Try.prog 52 #[v0, .int .i64 x1, .int .i64 x2] w (PostM B S (fun (o : Value) => o) (fun (o : Value) => [own 3 TR.int o res])) := by
  refine calls_enterM 33 Try.func52 Try.ntmps52 rfl B S f [(0, v0), (1, .int .i64 x1), (2, .int .i64 x2)] [own 3 TR.int v0 x0] [] rfl ⟨rfl, rfl, rfl, trivial⟩ hB hO hI trivial ?_
  unfold slices_Delete_int_int_m at hm
  obtain ⟨_, hc, hm⟩ := bind_some hm
  replace hc := chk_some hc
  have hm := Option.some.inj hm
  subst hm
  obtain ⟨i, rfl⟩ : ∃ i : Nat, x1 = (i : Int) := ⟨x1.toNat, by omega⟩
  obtain ⟨j, rfl⟩ : ∃ j : Nat, x2 = (j : Int) := ⟨x2.toNat, by omega⟩
  simp only [Int.toNat_natCast]
  refine GL.capO 0 rfl (fun hcap hmax hrl hcr => ?_)
  repeat refine GL.seq ?_
  refine GL.region ?_
  refine RL.asg rfl rfl rfl ?_
  refine RL.finG ?_
  repeat refine GL.seq ?_
  refine GL.region ?_
  refine RL.mv rfl rfl rfl ?_
  refine RL.mv rfl rfl rfl ?_
  refine RL.mv rfl rfl rfl ?_
  refine RL.mv rfl rfl rfl ?_
  refine RL.lenS 0 Try.underlying22 rfl rfl rfl rfl SlOf.own ?_
  refine RL.cut3 (i := i) (j := j) (m := x0.length) 0 Try.underlying22 Try_ln3 rfl rfl rfl rfl rfl rfl rfl (by omega) (by omega) (by omega) ?_
  intro u
  refine RL.finG ?_
  repeat refine GL.seq ?_
  refine GL.region ?_
  refine RL.mv rfl rfl rfl ?_
  refine RL.mv rfl rfl rfl ?_
  refine RL.binI (v := .bool ((i : Int) == (j : Int))) rfl rfl rfl rfl rfl ?_
  refine RL.finG ?_
  repeat refine GL.seq ?_
  refine GL.cond rfl (fun h => ?_) (fun h => ?_)
  · have hij : i = j := by have := of_decide_eq_true (p := (i : Int) = (j : Int)) (by simpa using h); omega
    subst hij
    repeat refine GL.seq ?_
    refine GL.region ?_
    refine RL.mv rfl rfl rfl ?_
    refine RL.asg rfl rfl rfl ?_
    refine RL.finG ?_
    have hx : x0.take i ++ x0.drop i = x0 := List.take_append_drop _ _
    rw [hx]
    exact GL.ret (Gx.ret (v := v0) (res1 rfl rfl) (fun a w st => (st.pick [0] (by decide) rfl).toPostM (LR := fun (o : Value) => [own 3 TR.int o x0]) v0))
  · have hij : i ≠ j := fun e => by subst e; simp at h
    have hll : (x0.take i ++ x0.drop j).length = i + (x0.length - j) := by rw [List.length_append, List.length_take, List.length_drop]; omega
    refine GL.skip ?_
    repeat refine GL.seq ?_
    refine GL.region ?_
    refine RL.mv rfl rfl rfl ?_
    refine RL.lenS 0 Try.underlying22 rfl rfl rfl rfl SlOf.own ?_
    refine RL.asg rfl rfl rfl ?_
    refine RL.finG ?_
    repeat refine GL.seq ?_
    refine GL.regionH 6 rfl rfl (by kernel_rfl) ?_
    simp only [List.take_succ_cons, List.take_zero, List.drop_succ_cons, List.drop_zero]
    refine RL.mv rfl rfl rfl ?_
    refine RL.mv rfl rfl rfl ?_
    refine RL.cutO (i := 0) (j := i) 0 Try.underlying22 Try_ln3 rfl rfl rfl (Or.inl ⟨rfl, rfl⟩) (Or.inr ⟨_, _, rfl, rfl⟩) rfl (by omega) (by show i ≤ capv v0; omega) ?_
    refine RL.mv rfl rfl rfl ?_
    refine RL.mv rfl rfl rfl ?_
    refine RL.cutO (i := j) (j := x0.length) 0 Try.underlying22 Try_ln3 rfl rfl rfl (Or.inr ⟨_, _, rfl, rfl⟩) (Or.inl ⟨rfl, rfl⟩) rfl (by omega) hcap ?_
    refine RL.finH ?_
    refine RL.del (i := i) (j := j) 0 Try.underlying22 Try_lo3 rfl rfl rfl rfl rfl rfl (by omega) (by omega) ?_
    refine RL.asg rfl rfl rfl ?_
    refine RL.finG ?_
    repeat refine GL.seq ?_
    refine GL.region ?_
    refine RL.mv rfl rfl rfl ?_
    refine RL.mv rfl rfl rfl ?_
    refine RL.lenS 0 Try.underlying22 rfl rfl rfl rfl SlOf.own ?_
    refine RL.mv rfl rfl rfl ?_
    refine RL.cutO (i := (x0.take i ++ x0.drop j).length) (j := x0.length) 0 Try.underlying22 Try_ln3 rfl rfl rfl (Or.inr ⟨_, _, rfl, rfl⟩) (Or.inr ⟨_, _, rfl, rfl⟩) rfl (by omega) (by rw [hcr]; exact hcap) ?_
    refine RL.clr (j := x0.length) 0 Try.underlying22 Try_lo3 (by decide) rfl rfl rfl rfl (by omega) (by rw [hcr]; exact hcap) ?_
    refine RL.finG ?_
    repeat refine GL.seq ?_
    refine GL.region ?_
    refine RL.mv rfl rfl rfl ?_
    refine RL.asg rfl rfl rfl ?_
    refine RL.finG ?_
    exact GL.ret (Gx.ret (v := relen v0 (i + (x0.length - j))) (res1 rfl rfl) (fun a w st => (st.pick [0] (by decide) rfl).toPostM (LR := fun (o : Value) => [own 3 TR.int o (x0.take i ++ x0.drop j)]) (relen v0 (i + (x0.length - j)))))

set_option maxHeartbeats 4000000 in
theorem pk_OrderOf_c (S : Hp) (w : World) (hS : S.sub w) (x0 : Int) (v1 : Value) (x1 : (List Int)) (k1 : ((TR.sl TR.int)).vrep S v1 x1) (res : (List Int)) (hm : pk_OrderOf_m x0 x1 = some res) : Calls Try.prog 17 #[.int .i64 x0, v1] w (Post w S (fun (o : Value) => o) (fun (o : Value) => [own 3 TR.int o res])) := by
  refine calls_enter 40 Try.func17 Try.ntmps17 rfl S false [(0, .int .i64 x0), (1, v1)] [imm (TR.sl TR.int) v1 x1] rfl ⟨rfl, ⟨rfl, trivial⟩⟩ hS ⟨k1, trivial⟩ ?_
  unfold pk_OrderOf_m at hm
  refine GL.seq ?_
  refine GL.region ?_
  refine RL.asg rfl rfl rfl ?_
  refine RL.finG ?_
  refine GL.seq ?_
  refine GL.region ?_
  refine RL.mv rfl rfl rfl ?_
  obtain ⟨y6, e7, hm⟩ := bind_some hm
  refine RL.call (vs := [.int .i64 x0]) Try_fit51 rfl rfl rfl rfl rfl (fun S f w hS hW hi => ref_Sides_c S w hS x0 _ e7) ?_
  intro v8
  refine RL.asg rfl rfl rfl ?_
  refine RL.finG ?_
  refine GL.seq ?_
  refine GL.region ?_
  refine RL.asg rfl rfl rfl ?_
  refine RL.finG ?_
  refine GL.seq ?_
  refine GL.seq ?_
  refine GL.region ?_
  refine RL.mv rfl rfl rfl ?_
  refine RL.mv rfl rfl rfl ?_
  refine RL.finG ?_
  refine GL.weak (fun a w st => st.nilOwn 3 TR.int) ?_
  obtain ⟨y60, e61, hm⟩ := bind_some hm
  replace e61 := chk_some e61
  obtain ⟨y62, K63, h64, h65, h66, h67, h68⟩ := bindR_K hm
  refine GL.join (ι := (List Int) × (List Int) × Value) (fun (p : (List Int) × (List Int) × Value) => [(6, p.2.2)]) (fun (p : (List Int) × (List Int) × Value) => [own 3 TR.int p.2.2 p.2.1]) (fun (p : (List Int) × (List Int) × Value) => K63 (.nx (p.1, p.2.1))) ?_ ?_
  · refine GL.block ?_
    refine GL.loop (ι := Nat × Nat × (List Int) × (List Int) × Value × Value) (fun (p : Nat × Nat × (List Int) × (List Int) × Value × Value) => [(1, v1), (5, p.2.2.2.2.1), (6, p.2.2.2.2.2), (11, .int .i64 x0), (12, .int .i64 (p.1 : Int))]) (fun (p : Nat × Nat × (List Int) × (List Int) × Value × Value) => [imm (TR.sl TR.int) v1 x1, own 3 TR.int p.2.2.2.2.1 p.2.2.1, own 3 TR.int p.2.2.2.2.2 p.2.2.2.1]) (fun (p : Nat × Nat × (List Int) × (List Int) × Value × Value) => p.1 + p.2.1 = (x0).toNat ∧ rangeN (pk_OrderOf_b1 x1) p.2.1 p.1 (p.2.2.1, p.2.2.2.1) = some y62) (fun (p : Nat × Nat × (List Int) × (List Int) × Value × Value) => p.2.1) (0, (x0).toNat, y6, [], v8, Value.slice none 0 0) ⟨by simp, h64⟩ (fun a w st => St.cut [0, 1, 2] ⟨rfl, rfl, rfl, rfl, rfl, trivial⟩ (by decide) rfl st) ?_
    rintro ⟨i69, r70, l9, l11, v10, v12⟩ ⟨h75, h74⟩
    try dsimp only at h75 h74
    refine GL.weak (env' := [(1, v1), (5, v10), (6, v12), (11, .int .i64 x0), (12, .int .i64 (i69 : Int))]) (L' := [imm (TR.sl TR.int) v1 x1, own 3 TR.int v10 l9, own 3 TR.int v12 l11]) (fun _ _ st => st) ?_
    refine GL.seq ?_
    refine GL.region ?_
    refine RL.binI (v := .bool (decide ((i69 : Int) < x0))) rfl rfl rfl rfl rfl ?_
    refine RL.finG ?_
    refine GL.seq ?_
    refine GL.cond rfl (fun b77 => ?_) (fun b77 => ?_)
    · have h78 : i69 < (x0).toNat := by have := of_decide_eq_true b77; omega
      obtain ⟨r79, hr⟩ : ∃ m, r70 = m + 1 := ⟨r70 - 1, by omega⟩
      subst hr
      obtain ⟨z71, h72, h73⟩ := rangeN_some h74
      unfold pk_OrderOf_b1 at h72
      try dsimp only at h72
      refine GL.skip ?_
      refine GL.seq ?_
      refine GL.block ?_
      refine GL.seq ?_
      refine GL.region ?_
      refine RL.mv rfl rfl rfl ?_
      refine RL.asg rfl rfl rfl ?_
      refine RL.finG ?_
      refine GL.seq ?_
      refine GL.region ?_
      refine RL.asg rfl rfl rfl ?_
      refine RL.finG ?_
      refine GL.seq ?_
      refine GL.seq ?_
      refine GL.region ?_
      refine RL.mv rfl rfl rfl ?_
      refine RL.mv rfl rfl rfl ?_
      refine RL.lenS 0 Try.underlying22 rfl rfl rfl rfl SlOf.imm ?_
      refine RL.binI (v := .bool (decide ((i69 : Int) < ((x1).length : Int)))) rfl rfl rfl rfl rfl ?_
      refine RL.finG ?_
      obtain ⟨y90, K91, h92, h93, h94, h95, h96⟩ := bindF_K h72
      refine GL.join (ι := Int) (fun (p : Int) => [(1, v1), (5, v10), (6, v12), (8, .int .i64 p), (11, .int .i64 x0), (12, .int .i64 (i69 : Int))]) (fun (p : Int) => [imm (TR.sl TR.int) v1 x1, own 3 TR.int v10 l9, own 3 TR.int v12 l11]) (fun (p : Int) => K91 (.nx p)) ?_ ?_
      · skip
        refine GL.cond rfl (fun b97 => ?_) (fun b97 => ?_)
        · replace h92 := ite_t b97 h92
          refine GL.region ?_
          refine RL.mv rfl rfl rfl ?_
          refine RL.mv rfl rfl rfl ?_
          obtain ⟨y102, e103, h92⟩ := bind_some h92
          refine RL.idxS (sz := 1) 0 Try.underlying22 Try_ln3 rfl rfl rfl rfl rfl SlOf.imm (idx_some e103).1 (idx_some e103).2.1 ?_
          refine RL.ldSx (i := i69) (e' := y102) 0 Ex.ik Try_ln3 rfl rfl rfl rfl SlOf.imm (idx_some e103).2.2 Part.self ?_
          refine RL.mv rfl rfl rfl ?_
          refine RL.lenS 1 Try.underlying22 rfl rfl rfl rfl SlOf.own ?_
          obtain ⟨y104, e105, h92⟩ := bind_some h92
          refine RL.callC (v := .int .i64 y104) (vs := [.int .i64 y102, .int .i64 ((l9).length : Int)]) Try_fit16 rfl rfl rfl rfl (fun U w hU hW hL => pk_Within_c U w hU y102 ((l9).length : Int) _ e105) ?_
          refine RL.asg rfl rfl rfl ?_
          refine RL.finG ?_
          cases h92
          exact fun a w st => mid_intro y104 h93 (St.cut [0, 1, 2] ⟨rfl, rfl, rfl, rfl, rfl, rfl, trivial⟩ (by decide) rfl st)
        · replace h92 := ite_f b97 h92
          refine GL.skip ?_
          cases h92
          exact fun a w st => mid_intro (0 : Int) h93 (St.cut [0, 1, 2] ⟨rfl, rfl, rfl, rfl, rfl, rfl, trivial⟩ (by decide) rfl st)
      · rintro x89 h106
        have h107 := h94 _ h106
        try dsimp only at h107
        refine GL.weak (env' := [(1, v1), (5, v10), (6, v12), (8, .int .i64 x89), (11, .int .i64 x0), (12, .int .i64 (i69 : Int))]) (L' := [imm (TR.sl TR.int) v1 x1, own 3 TR.int v10 l9, own 3 TR.int v12 l11]) (fun _ _ st => st) ?_
        refine GL.seq ?_
        refine GL.region ?_
        refine RL.mv rfl rfl rfl ?_
        refine RL.mv rfl rfl rfl ?_
        refine RL.mv rfl rfl rfl ?_
        obtain ⟨y114, e115, h107⟩ := bind_some h107
        refine RL.idxS (sz := 1) 1 Try.underlying22 Try_ln3 rfl rfl rfl rfl rfl SlOf.own (idx_some e115).1 (idx_some e115).2.1 ?_
        refine RL.ldSx (i := (x89).toNat) (e' := y114) 1 Ex.ik Try_ln3 rfl rfl rfl rfl SlOf.own (idx_some e115).2.2 Part.self ?_
        refine RL.bS (t := TR.int) (vs := [.int .i64 y114]) ([y114] : (List Int)) Try.underlying22 Try_lo3 rfl rfl rfl rfl ⟨VR.int, trivial⟩ rfl (by decide) ?_
        intro v116
        obtain ⟨y117, e118, h107⟩ := bind_some h107
        replace e118 := chk_some e118
        refine RL.app 2 3 Try.underlying22 Try_lo3 rfl rfl rfl rfl rfl rfl rfl SlOf.own e118 ?_
        intro v119
        refine RL.reL (L' := [imm (TR.sl TR.int) v1 x1, own 3 TR.int v10 l9, own 3 TR.int v119 (l11 ++ ([y114] : (List Int))), own 3 TR.int v116 ([y114] : (List Int))]) rfl ?_
        refine RL.asg rfl rfl rfl ?_
        refine RL.finG ?_
        refine GL.region ?_
        refine RL.mv rfl rfl rfl ?_
        refine RL.mv rfl rfl rfl ?_
        refine RL.mv rfl rfl rfl ?_
        refine RL.binI (v := .int .i64 (wadd x89 (1 : Int))) rfl rfl rfl rfl rfl ?_
        obtain ⟨y123, e124, h107⟩ := bind_some h107
        refine RL.callM (vs := [v10, .int .i64 x89, .int .i64 (wadd x89 (1 : Int))]) (V := fun (o : Value) => o) (A' := fun (o : Value) => own 3 TR.int o y123) 1 Try_fit52 rfl rfl rfl rfl rfl rfl (fun o => Loc.own TR.flatT_ik) (fun U f w hO hB hW hI hL => slices_Delete_int_int_c _ U f w _ _ hO hB hI x89 (wadd x89 (1 : Int)) _ e124) ?_
        intro v125
        refine RL.asg rfl rfl rfl ?_
        refine RL.finG ?_
        refine GL.nilB ?_
        refine GL.region ?_
        refine RL.binI (v := .int .i64 ((i69 + 1 : Nat) : Int)) rfl rfl rfl rfl (binI_succ i69 (by omega)) ?_
        refine RL.mv rfl rfl rfl ?_
        refine RL.fin ?_
        cases h107
        exact fun a w st => lop_intro (i69 + 1, r79, y123, (l11 ++ ([y114] : (List Int))), v125, v119) ⟨by show i69 + 1 + r79 = (x0).toNat; omega, h73⟩ (by simp) (St.cut [0, 1, 2] ⟨rfl, rfl, rfl, rfl, rfl, trivial⟩ (by decide) rfl st)
    · have h78 : ¬ i69 < (x0).toNat := by have := of_decide_eq_false b77; omega
      obtain rfl : r70 = 0 := by omega
      replace h74 : some (Fl.nx _) = some y62 := h74
      cases h74
      exact GL.exit (fun a w st => mid_intro (l9, l11, v12) h65 (St.cut [2] ⟨rfl, trivial⟩ (by decide) rfl st))
  · rintro ⟨l9, l11, v12⟩ h126
    have h127 := h66 _ h126
    try dsimp only at h127
    refine GL.weak (env' := [(6, v12)]) (L' := [own 3 TR.int v12 l11]) (fun _ _ st => st) ?_
    refine GL.seq ?_
    refine GL.region ?_
    refine RL.mv rfl rfl rfl ?_
    refine RL.asg rfl rfl rfl ?_
    refine RL.finG ?_
    have h127 := Option.some.inj h127
    subst h127
    exact GL.ret (Gx.ret (v := v12) (res1 rfl rfl) (fun a w st => (st.pick [0] (by decide) rfl).toPost v12))

set_option maxHeartbeats 4000000 in
theorem pk_VotesOf_c (S : Hp) (w : World) (hS : S.sub w) (x0 : Int) (v1 : Value) (x1 : (List (List Int))) (k1 : ((TR.sl (TR.sl TR.int))).vrep S v1 x1) (res : (List (List Int))) (hm : pk_VotesOf_m x0 x1 = some res) : Calls Try.prog 29 #[.int .i64 x0, v1] w (Post w S (fun (o : Value) => o) (fun (o : Value) => [own 22 (TR.sl TR.int) o res])) := by
  refine calls_enter 26 Try.func29 Try.ntmps29 rfl S false [(0, .int .i64 x0), (1, v1)] [imm (TR.sl (TR.sl TR.int)) v1 x1] rfl ⟨rfl, ⟨rfl, trivial⟩⟩ hS ⟨k1, trivial⟩ ?_
  unfold pk_VotesOf_m at hm
  refine GL.seq ?_
  refine GL.region ?_
  refine RL.asg rfl rfl rfl ?_
  refine RL.finG ?_
  refine GL.seq ?_
  refine GL.region ?_
  refine RL.asg rfl rfl rfl ?_
  refine RL.finG ?_
  refine GL.seq ?_
  refine GL.seq ?_
  refine GL.region ?_
  refine RL.mv rfl rfl rfl ?_
  refine RL.mv rfl rfl rfl ?_
  refine RL.lenS 0 Try.underlying28 rfl rfl rfl rfl SlOf.imm ?_
  refine RL.minI rfl rfl rfl rfl ?_
  obtain ⟨y6, e7, hm⟩ := bind_some hm
  replace e7 := chk_some e7
  refine RL.slc (t := (TR.sl TR.int)) (i := 0) (j := (if (30 : Int) < ((x1).length : Int) then (30 : Int) else ((x1).length : Int)).toNat) (sz := 1) 0 Try.underlying28 Try_ln22 rfl rfl rfl rfl (Or.inl ⟨rfl, rfl⟩) (Or.inr ⟨_, _, rfl, by rw [Int.toNat_of_nonneg (by omega)]; rfl⟩) rfl (by omega) (by omega) ?_
  intro v8
  refine RL.lenS 1 Try.underlying28 rfl rfl rfl rfl SlOf.imm ?_
  refine RL.mv rfl rfl rfl ?_
  refine RL.finG ?_
  refine GL.weak (fun a w st => st.nilOwn 22 (TR.sl TR.int)) ?_
  refine GL.open_ 1 rfl (fun S h => len_imm S h) (fun n31 => ?_)
  obtain ⟨y32, K33, h34, h35, h36, h37, h38⟩ := bindR_K hm
  refine GL.join (ι := (List (List Int)) × Value) (fun (p : (List (List Int)) × Value) => [(5, p.2)]) (fun (p : (List (List Int)) × Value) => [own 22 (TR.sl TR.int) p.2 p.1]) (fun (p : (List (List Int)) × Value) => K33 (.nx p.1)) ?_ ?_
  · refine GL.block ?_
    refine GL.loop (ι := Nat × (List (List Int)) × (List (List Int)) × Value) (fun (p : Nat × (List (List Int)) × (List (List Int)) × Value) => [(0, .int .i64 x0), (5, p.2.2.2), (12, v8), (13, .int .i64 ((((List.take ((if (30 : Int) < ((x1).length : Int) then (30 : Int) else ((x1).length : Int)).toNat) x1).drop 0)).length : Int)), (14, .int .i64 (p.1 : Int))]) (fun (p : Nat × (List (List Int)) × (List (List Int)) × Value) => [own 22 (TR.sl TR.int) p.2.2.2 p.2.2.1, imm (TR.sl (TR.sl TR.int)) v8 ((List.take ((if (30 : Int) < ((x1).length : Int) then (30 : Int) else ((x1).length : Int)).toNat) x1).drop 0)]) (fun (p : Nat × (List (List Int)) × (List (List Int)) × Value) => p.1 + p.2.1.length = (((List.take ((if (30 : Int) < ((x1).length : Int) then (30 : Int) else ((x1).length : Int)).toNat) x1).drop 0)).length ∧ List.drop p.1 ((List.take ((if (30 : Int) < ((x1).length : Int) then (30 : Int) else ((x1).length : Int)).toNat) x1).drop 0) = p.2.1 ∧ rangeL (pk_VotesOf_b1 x0) p.2.1 p.1 p.2.2.1 = some y32) (fun (p : Nat × (List (List Int)) × (List (List Int)) × Value) => p.2.1.length) (0, ((List.take ((if (30 : Int) < ((x1).length : Int) then (30 : Int) else ((x1).length : Int)).toNat) x1).drop 0), [], Value.slice none 0 0) ⟨by simp, by simp, h34⟩ (fun a w st => St.cut [2, 1] ⟨rfl, rfl, rfl, rfl, rfl, trivial⟩ (by decide) rfl st) ?_
    rintro ⟨i39, r40, l9, v10⟩ ⟨h45, h46, h44⟩
    try dsimp only at h45 h46 h44
    refine GL.weak (env' := [(0, .int .i64 x0), (5, v10), (12, v8), (13, .int .i64 ((((List.take ((if (30 : Int) < ((x1).length : Int) then (30 : Int) else ((x1).length : Int)).toNat) x1).drop 0)).length : Int)), (14, .int .i64 (i39 : Int))]) (L' := [own 22 (TR.sl TR.int) v10 l9, imm (TR.sl (TR.sl TR.int)) v8 ((List.take ((if (30 : Int) < ((x1).length : Int) then (30 : Int) else ((x1).length : Int)).toNat) x1).drop 0)]) (fun _ _ st => st) ?_
    refine GL.seq ?_
    refine GL.region ?_
    refine RL.binI (v := .bool (decide ((i39 : Int) < ((((List.take ((if (30 : Int) < ((x1).length : Int) then (30 : Int) else ((x1).length : Int)).toNat) x1).drop 0)).length : Int)))) rfl rfl rfl rfl rfl ?_
    refine RL.finG ?_
    refine GL.seq ?_
    refine GL.cond rfl (fun b47 => ?_) (fun b47 => ?_)
    · have h48 : i39 < (((List.take ((if (30 : Int) < ((x1).length : Int) then (30 : Int) else ((x1).length : Int)).toNat) x1).drop 0)).length := by have := of_decide_eq_true b47; omega
      obtain ⟨y49, r51, hr, e50, h52⟩ := drop_cons h46 rfl h48
      subst hr
      obtain ⟨z41, h42, h43⟩ := rangeL_some h44
      unfold pk_VotesOf_b1 at h42
      try dsimp only at h42
      refine GL.skip ?_
      refine GL.seq ?_
      refine GL.block ?_
      refine GL.seq ?_
      refine GL.region ?_
      refine RL.idxS (sz := 1) 1 Try.underlying28 Try_ln22 rfl rfl rfl rfl rfl SlOf.imm (by omega) (by omega) ?_
      refine RL.ldS (i := i39) (r := (TR.sl TR.int)) (e' := y49) 1 Try_ln22 rfl rfl rfl rfl SlOf.imm e50 Part.self ?_
      intro v54
      refine RL.asg rfl rfl rfl ?_
      refine RL.finG ?_
      refine GL.region ?_
      refine RL.mv rfl rfl rfl ?_
      refine RL.mv rfl rfl rfl ?_
      refine RL.mv rfl rfl rfl ?_
      obtain ⟨y62, e63, h42⟩ := bind_some h42
      refine RL.call (vs := [.int .i64 x0, v54]) Try_fit17 rfl rfl rfl rfl rfl (fun S f w hS hW hi => pk_OrderOf_c S w hS x0 _ _ (hi 2 _ rfl) _ e63) ?_
      intro v64
      refine RL.reL (L' := [own 22 (TR.sl TR.int) v10 l9, imm (TR.sl (TR.sl TR.int)) v8 ((List.take ((if (30 : Int) < ((x1).length : Int) then (30 : Int) else ((x1).length : Int)).toNat) x1).drop 0), imm (TR.sl TR.int) v54 y49, own 3 TR.int v64 y62]) rfl ?_
      refine RL.weak (fun a w st => st.freeze 3 rfl) ?_
      refine RL.bS (t := (TR.sl TR.int)) (vs := [v64]) ([y62] : (List (List Int))) Try.underlying28 Try_lo22 rfl rfl rfl rfl ⟨(VR.item 3 rfl), trivial⟩ rfl (by decide) ?_
      intro v65
      refine RL.reL (L' := [own 22 (TR.sl TR.int) v10 l9, imm (TR.sl (TR.sl TR.int)) v8 ((List.take ((if (30 : Int) < ((x1).length : Int) then (30 : Int) else ((x1).length : Int)).toNat) x1).drop 0), imm (TR.sl TR.int) v54 y49, imm (TR.sl TR.int) v64 y62, own 22 (TR.sl TR.int) v65 ([y62] : (List (List Int)))]) rfl ?_
      obtain ⟨y66, e67, h42⟩ := bind_some h42
      replace e67 := chk_some e67
      refine RL.app 0 4 Try.underlying28 Try_lo22 rfl rfl rfl rfl rfl rfl rfl SlOf.own e67 ?_
      intro v68
      refine RL.asg rfl rfl rfl ?_
      refine RL.finG ?_
      refine GL.nilB ?_
      refine GL.region ?_
      refine RL.binI (v := .int .i64 ((i39 + 1 : Nat) : Int)) rfl rfl rfl rfl (binI_succ i39 (by omega)) ?_
      refine RL.mv rfl rfl rfl ?_
      refine RL.fin ?_
      cases h42
      exact fun a w st => lop_intro (i39 + 1, r51, (l9 ++ ([y62] : (List (List Int)))), v68) ⟨by show i39 + 1 + r51.length = (((List.take ((if (30 : Int) < ((x1).length : Int) then (30 : Int) else ((x1).length : Int)).toNat) x1).drop 0)).length; simp only [List.length_cons] at h45; omega, h52, h43⟩ (by simp) (St.cut [0, 1] ⟨rfl, rfl, rfl, rfl, rfl, trivial⟩ (by decide) rfl st)
    · have h48 : ¬ i39 < (((List.take ((if (30 : Int) < ((x1).length : Int) then (30 : Int) else ((x1).length : Int)).toNat) x1).drop 0)).length := by have := of_decide_eq_false b47; omega
      obtain rfl : r40 = [] := by rw [← h46]; exact List.drop_of_length_le (by omega)
      replace h44 : some (Fl.nx _) = some y32 := h44
      cases h44
      exact GL.exit (fun a w st => mid_intro (l9, v10) h35 (St.cut [0] ⟨rfl, trivial⟩ (by decide) rfl st))
  · rintro ⟨l9, v10⟩ h69
    have h70 := h36 _ h69
    try dsimp only at h70
    refine GL.weak (env' := [(5, v10)]) (L' := [own 22 (TR.sl TR.int) v10 l9]) (fun _ _ st => st) ?_
    refine GL.seq ?_
    refine GL.region ?_
    refine RL.mv rfl rfl rfl ?_
    refine RL.asg rfl rfl rfl ?_
    refine RL.finG ?_
    have h70 := Option.some.inj h70
    subst h70
    exact GL.ret (Gx.ret (v := v10) (res1 rfl rfl) (fun a w st => (st.pick [0] (by decide) rfl).toPost v10))

set_option maxHeartbeats 4000000 in
theorem pk_MiddleTop_c (S : Hp) (w : World) (hS : S.sub w) (x0 : Int) (v1 : Value) (x1 : (List (List Int))) (k1 : ((TR.sl (TR.sl TR.int))).vrep S v1 x1) (res : Bool) (hm : pk_MiddleTop_m x0 x1 = some res) : Calls Try.prog 7 #[.int .i64 x0, v1] w (PostV w (.bool res)) := by
  refine calls_enter 73 Try.func7 Try.ntmps7 rfl S false [(0, .int .i64 x0), (1, v1)] [imm (TR.sl (TR.sl TR.int)) v1 x1] rfl ⟨rfl, ⟨rfl, trivial⟩⟩ hS ⟨k1, trivial⟩ ?_
  unfold pk_MiddleTop_m at hm
  refine GL.seq ?_
  refine GL.region ?_
  refine RL.asg rfl rfl rfl ?_
  refine RL.finG ?_
  refine GL.seq ?_
  refine GL.seq ?_
  obtain ⟨y14, K15, h16, h17, h18, h19, h20⟩ := bindR_K hm
  refine GL.join (ι := Bool) (fun (p : Bool) => [(0, .int .i64 x0), (1, v1), (20, .bool p)]) (fun (p : Bool) => [imm (TR.sl (TR.sl TR.int)) v1 x1]) (fun (p : Bool) => K15 (.nx p)) ?_ ?_
  · skip
    refine GL.region ?_
    obtain ⟨y21, e22, h16⟩ := bind_some h16
    refine RL.callV (v := .bool y21) (vs := []) Try_fit28 rfl (Or.inl rfl) rfl rfl rfl rfl (fun U w hU hW hL => pk_middles_c U w hU  _ e22) ?_
    refine RL.notB rfl rfl rfl ?_
    refine RL.mv rfl rfl rfl ?_
    refine RL.split (t := 17) rfl (fun b23 => ?_) (fun b23 => ?_)
    · replace h16 := ite_t b23 h16
      refine RL.skip rfl rfl ?_
      refine RL.skip rfl rfl ?_
      refine RL.pickT rfl rfl rfl rfl ?_
      refine RL.fin ?_
      cases h16
      exact fun a w st => mid_intro true h17 (St.cut [0] ⟨rfl, rfl, rfl, trivial⟩ (by decide) rfl st)
    · replace h16 := ite_f b23 h16
      obtain ⟨y24, e25, h16⟩ := bind_some h16
      refine RL.callV (v := .bool y24) (vs := []) Try_fit37 rfl (Or.inl rfl) rfl rfl rfl rfl (fun U w hU hW hL => pk_duels_c U w hU  _ e25) ?_
      refine RL.notB rfl rfl rfl ?_
      refine RL.pickF rfl rfl rfl rfl ?_
      refine RL.fin ?_
      cases h16
      exact fun a w st => mid_intro (!y24) h17 (St.cut [0] ⟨rfl, rfl, rfl, trivial⟩ (by decide) rfl st)
  · rintro x13 h26
    have h27 := h18 _ h26
    try dsimp only at h27
    refine GL.weak (env' := [(0, .int .i64 x0), (1, v1), (20, .bool x13)]) (L' := [imm (TR.sl (TR.sl TR.int)) v1 x1]) (fun _ _ st => st) ?_
    refine GL.cond rfl (fun b28 => ?_) (fun b28 => ?_)
    · replace h27 := ite_t b28 h27
      refine GL.seq ?_
      refine GL.region ?_
      refine RL.asg rfl rfl rfl ?_
      refine RL.finG ?_
      have h27 := Option.some.inj h27
      subst h27
      exact GL.ret (Gx.ret (v := .bool false) (res1 rfl rfl) (fun a w st => st.toPostV))
    · replace h27 := ite_f b28 h27
      refine GL.skip ?_
      refine GL.seq ?_
      refine GL.region ?_
      refine RL.mv rfl rfl rfl ?_
      obtain ⟨y31, e32, h27⟩ := bind_some h27
      refine RL.callC (v := .int .i64 y31) (vs := [.int .i64 x0, .int .i64 (6 : Int)]) Try_fit16 rfl rfl rfl rfl (fun U w hU hW hL => pk_Within_c U w hU x0 (6 : Int) _ e32) ?_
      refine RL.binI (v := .int .i64 (wadd (1 : Int) y31)) rfl rfl rfl rfl rfl ?_
      refine RL.asg rfl rfl rfl ?_
      refine RL.finG ?_
      refine GL.seq ?_
      refine GL.region ?_
      refine RL.mv rfl rfl rfl ?_
      refine RL.mv rfl rfl rfl ?_
      obtain ⟨y36, e37, h27⟩ := bind_some h27
      refine RL.call (vs := [.int .i64 (wadd (1 : Int) y31), v1]) Try_fit29 rfl rfl rfl rfl rfl (fun S f w hS hW hi => pk_VotesOf_c S w hS (wadd (1 : Int) y31) _ _ (hi 0 _ rfl) _ e37) ?_
      intro v38
      refine RL.asg rfl rfl rfl ?_
      refine RL.finG ?_
      refine GL.seq ?_
      refine GL.region ?_
      refine RL.mv rfl rfl rfl ?_
      refine RL.mv rfl rfl rfl ?_
      refine RL.weak (fun a w st => st.freeze 1 rfl) ?_
      obtain ⟨y42, e43, h27⟩ := bind_some h27
      refine RL.call (vs := [.int .i64 (wadd (1 : Int) y31), v38]) Try_fit30 rfl rfl rfl rfl rfl (fun S f w hS hW hi => middle_Best_c S w hS (wadd (1 : Int) y31) _ _ (hi 1 _ rfl) _ e43) ?_
      intro v44
      refine RL.reL (L' := [imm (TR.sl (TR.sl TR.int)) v1 x1, imm (TR.sl (TR.sl TR.int)) v38 y36, imm (TR.sl TR.int) v44 y42.1]) rfl ?_
      refine RL.mv rfl rfl rfl ?_
      refine RL.ext rfl rfl rfl rfl ?_
      refine RL.ext rfl rfl rfl rfl ?_
      refine RL.ext rfl rfl rfl rfl ?_
      refine RL.asg rfl rfl rfl ?_
      refine RL.asg rfl rfl rfl ?_
      refine RL.asg rfl rfl rfl ?_
      refine RL.finG ?_
      refine GL.seq ?_
      refine GL.region ?_
      refine RL.mv rfl rfl rfl ?_
      refine RL.mv rfl rfl rfl ?_
      obtain ⟨y48, e49, h27⟩ := bind_some h27
      refine RL.call (vs := [.int .i64 (wadd (1 : Int) y31), v38]) Try_fit26 rfl rfl rfl rfl rfl (fun S f w hS hW hi => tally_Duels_c S w hS (wadd (1 : Int) y31) _ _ (hi 1 _ rfl) _ e49) ?_
      intro v50
      refine RL.mv rfl rfl rfl ?_
      refine RL.ext rfl rfl rfl rfl ?_
      refine RL.ext rfl rfl rfl rfl ?_
      refine RL.asg rfl rfl rfl ?_
      refine RL.asg rfl rfl rfl ?_
      refine RL.finG ?_
      refine GL.seq ?_
      refine GL.region ?_
      refine RL.mv rfl rfl rfl ?_
      obtain ⟨y54, e55, h27⟩ := bind_some h27
      refine RL.call (vs := [v50]) Try_fit38 rfl rfl rfl rfl rfl (fun S f w hS hW hi => duel_Top_c S w hS _ _ (hi 3 _ rfl) _ e55) ?_
      intro v56
      refine RL.reL (L' := [imm (TR.sl (TR.sl TR.int)) v1 x1, imm (TR.sl (TR.sl TR.int)) v38 y36, imm (TR.sl TR.int) v44 y42.1, imm (TR.sl (TR.sl TR.int)) v50 y48.1, own 3 TR.int v56 y54.1]) rfl ?_
      refine RL.mv rfl rfl rfl ?_
      refine RL.ext rfl rfl rfl rfl ?_
      refine RL.ext rfl rfl rfl rfl ?_
      refine RL.asg rfl rfl rfl ?_
      refine RL.asg rfl rfl rfl ?_
      refine RL.finG ?_
      refine GL.seq ?_
      refine GL.seq ?_
      obtain ⟨y66, K67, h68, h69, h70, h71, h72⟩ := bindR_K h27
      refine GL.join (ι := Bool) (fun (p : Bool) => [(6, v44), (11, v56), (56, .bool p)]) (fun (p : Bool) => [imm (TR.sl TR.int) v44 y42.1, own 3 TR.int v56 y54.1]) (fun (p : Bool) => K67 (.nx p)) ?_ ?_
      · skip
        refine GL.region ?_
        refine RL.mv rfl rfl rfl ?_
        refine RL.mv rfl rfl rfl ?_
        refine RL.mv rfl rfl rfl ?_
        refine RL.bS (t := TR.int) (vs := [.int .i64 y42.2.2, .int .i64 y48.2, .int .i64 y54.2]) ([y42.2.2, y48.2, y54.2] : (List Int)) Try.underlying69 Try_lo29 rfl rfl rfl rfl ⟨VR.int, ⟨VR.int, ⟨VR.int, trivial⟩⟩⟩ rfl (by decide) ?_
        intro v73
        obtain ⟨y74, e75, h68⟩ := bind_some h68
        refine RL.callV (v := .bool y74) (vs := [v73]) Try_fit22 rfl (Or.inl rfl) rfl rfl rfl rfl (fun U w hU hW hL => pk_good_c U w hU _ _ (hL 5 _ _ rfl Seen.own) _ e75) ?_
        refine RL.notB rfl rfl rfl ?_
        refine RL.mv rfl rfl rfl ?_
        refine RL.split (t := 51) rfl (fun b76 => ?_) (fun b76 => ?_)
        · replace h68 := ite_t b76 h68
          refine RL.skip rfl rfl ?_
          refine RL.skip rfl rfl ?_
          refine RL.skip rfl rfl ?_
          refine RL.skip rfl rfl ?_
          refine RL.pickT rfl rfl rfl rfl ?_
          refine RL.fin ?_
          cases h68
          exact fun a w st => mid_intro true h69 (St.cut [2, 4] ⟨rfl, rfl, rfl, trivial⟩ (by decide) rfl st)
        · replace h68 := ite_f b76 h68
          refine RL.mv rfl rfl rfl ?_
          refine RL.lenS 2 Try.underlying22 rfl rfl rfl rfl SlOf.imm ?_
          refine RL.mv rfl rfl rfl ?_
          refine RL.binI (v := .bool (((y42.1).length : Int) != (wadd (1 : Int) y31))) rfl rfl rfl rfl rfl ?_
          refine RL.pickF rfl rfl rfl rfl ?_
          refine RL.fin ?_
          cases h68
          exact fun a w st => mid_intro (((y42.1).length : Int) != (wadd (1 : Int) y31)) h69 (St.cut [2, 4] ⟨rfl, rfl, rfl, trivial⟩ (by decide) rfl st)
      · rintro x65 h77
        have h78 := h70 _ h77
        try dsimp only at h78
        refine GL.weak (env' := [(6, v44), (11, v56), (56, .bool x65)]) (L' := [imm (TR.sl TR.int) v44 y42.1, own 3 TR.int v56 y54.1]) (fun _ _ st => st) ?_
        refine GL.cond rfl (fun b79 => ?_) (fun b79 => ?_)
        · replace h78 := ite_t b79 h78
          refine GL.seq ?_
          refine GL.region ?_
          refine RL.asg rfl rfl rfl ?_
          refine RL.finG ?_
          have h78 := Option.some.inj h78
          subst h78
          exact GL.ret (Gx.ret (v := .bool false) (res1 rfl rfl) (fun a w st => st.toPostV))
        · replace h78 := ite_f b79 h78
          refine GL.skip ?_
          refine GL.seq ?_
          refine GL.seq ?_
          refine GL.region ?_
          refine RL.mv rfl rfl rfl ?_
          refine RL.lenS 0 Try.underlying22 rfl rfl rfl rfl SlOf.imm ?_
          refine RL.mv rfl rfl rfl ?_
          refine RL.finG ?_
          refine GL.open_ 0 rfl (fun S h => len_imm S h) (fun n89 => ?_)
          obtain ⟨y90, K91, h92, h93, h94, h95, h96⟩ := bindR_K h78
          refine GL.join (ι := Unit) (fun (p : Unit) => []) (fun (p : Unit) => []) (fun (p : Unit) => K91 (.nx ())) ?_ ?_
          · refine GL.block ?_
            refine GL.loop (ι := Nat × (List Int)) (fun (p : Nat × (List Int)) => [(11, v56), (57, v44), (58, .int .i64 ((y42.1).length : Int)), (59, .int .i64 (p.1 : Int))]) (fun (p : Nat × (List Int)) => [own 3 TR.int v56 y54.1, imm (TR.sl TR.int) v44 y42.1]) (fun (p : Nat × (List Int)) => p.1 + p.2.length = (y42.1).length ∧ List.drop p.1 y42.1 = p.2 ∧ rangeL (pk_MiddleTop_b1 y54) p.2 p.1 () = some y90) (fun (p : Nat × (List Int)) => p.2.length) (0, y42.1) ⟨by simp, by simp, h92⟩ (fun a w st => St.cut [1, 0] ⟨rfl, rfl, rfl, rfl, trivial⟩ (by decide) rfl st) ?_
            rintro ⟨i97, r98⟩ ⟨h103, h104, h102⟩
            try dsimp only at h103 h104 h102
            refine GL.weak (env' := [(11, v56), (57, v44), (58, .int .i64 ((y42.1).length : Int)), (59, .int .i64 (i97 : Int))]) (L' := [own 3 TR.int v56 y54.1, imm (TR.sl TR.int) v44 y42.1]) (fun _ _ st => st) ?_
            refine GL.seq ?_
            refine GL.region ?_
            refine RL.binI (v := .bool (decide ((i97 : Int) < ((y42.1).length : Int)))) rfl rfl rfl rfl rfl ?_
            refine RL.finG ?_
            refine GL.seq ?_
            refine GL.cond rfl (fun b105 => ?_) (fun b105 => ?_)
            · have h106 : i97 < (y42.1).length := by have := of_decide_eq_true b105; omega
              obtain ⟨y107, r109, hr, e108, h110⟩ := drop_cons h104 rfl h106
              subst hr
              obtain ⟨z99, h100, h101⟩ := rangeL_some h102
              unfold pk_MiddleTop_b1 at h100
              try dsimp only at h100
              refine GL.skip ?_
              refine GL.seq ?_
              refine GL.block ?_
              refine GL.seq ?_
              refine GL.region ?_
              refine RL.mv rfl rfl rfl ?_
              refine RL.idxS (sz := 1) 1 Try.underlying22 Try_ln3 rfl rfl rfl rfl rfl SlOf.imm (by omega) (by omega) ?_
              refine RL.ldSx (i := i97) (e' := y107) 1 Ex.ik Try_ln3 rfl rfl rfl rfl SlOf.imm e108 Part.self ?_
              refine RL.asg rfl rfl rfl ?_
              refine RL.asg rfl rfl rfl ?_
              refine RL.finG ?_
              refine GL.seq ?_
              refine GL.region ?_
              refine RL.mv rfl rfl rfl ?_
              refine RL.mv rfl rfl rfl ?_
              obtain ⟨y113, e114, h100⟩ := bind_some h100
              refine RL.callC (v := .bool y113) (vs := [v56, .int .i64 y107]) Try_fit39 rfl rfl rfl rfl (fun U w hU hW hL => slices_Contains_int_int_c U w hU _ _ (hL 0 _ _ rfl Seen.own) y107 _ e114) ?_
              refine RL.mv rfl rfl rfl ?_
              refine RL.mv rfl rfl rfl ?_
              refine RL.lenS 0 Try.underlying22 rfl rfl rfl rfl SlOf.own ?_
              refine RL.binI (v := .bool (decide ((i97 : Int) < ((y54.1).length : Int)))) rfl rfl rfl rfl rfl ?_
              refine RL.neB Try.underlying4 rfl rfl rfl rfl ?_
              refine RL.finG ?_
              refine GL.cond rfl (fun b115 => ?_) (fun b115 => ?_)
              · replace h100 := ite_t b115 h100
                refine GL.seq ?_
                refine GL.region ?_
                refine RL.asg rfl rfl rfl ?_
                refine RL.finG ?_
                cases h100
                replace h101 : some (Fl.rt _) = some y90 := h101
                cases h101
                have hh := h95 _ h93
                subst hh
                exact GL.ret (Gx.ret (v := .bool false) (res1 rfl rfl) (fun a w st => st.toPostV))
              · replace h100 := ite_f b115 h100
                refine GL.skip ?_
                refine GL.nilB ?_
                refine GL.region ?_
                refine RL.binI (v := .int .i64 ((i97 + 1 : Nat) : Int)) rfl rfl rfl rfl (binI_succ i97 (by omega)) ?_
                refine RL.mv rfl rfl rfl ?_
                refine RL.fin ?_
                cases h100
                exact fun a w st => lop_intro (i97 + 1, r109) ⟨by show i97 + 1 + r109.length = (y42.1).length; simp only [List.length_cons] at h103; omega, h110, h101⟩ (by simp) (St.cut [0, 1] ⟨rfl, rfl, rfl, rfl, trivial⟩ (by decide) rfl st)
            · have h106 : ¬ i97 < (y42.1).length := by have := of_decide_eq_false b105; omega
              obtain rfl : r98 = [] := by rw [← h104]; exact List.drop_of_length_le (by omega)
              replace h102 : some (Fl.nx _) = some y90 := h102
              cases h102
              exact GL.exit (fun a w st => mid_intro () h93 (St.cut [] trivial (by decide) rfl st))
          · rintro ⟨⟩ h116
            have h117 := h94 _ h116
            try dsimp only at h117
            refine GL.weak (env' := []) (L' := []) (fun _ _ st => st) ?_
            refine GL.seq ?_
            refine GL.region ?_
            refine RL.asg rfl rfl rfl ?_
            refine RL.finG ?_
            have h117 := Option.some.inj h117
            subst h117
            exact GL.ret (Gx.ret (v := .bool true) (res1 rfl rfl) (fun a w st => st.toPostV))
end Go.Wk
