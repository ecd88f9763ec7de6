/- Each function comes to what its model says; printed by a program of this repository. -/
import Derived.Test.YtilgigahabjbaaaProg
import Derived.Test.YtilgigahabjbaaaWOrderRaiseModels
namespace Go.Wk
open Go.Fw Go.Mo Go.Proofs Go.RowKit
set_option linter.unusedVariables false
set_option maxRecDepth 100000
theorem loopNx {ρ σ β γ : Type} {body : σ → Option (Fl ρ β σ)} {n : Nat} {s : σ} {y : Fl ρ γ β} (h : stepM body n (.nx s) = some y) : loopM body n s = some y := h
theorem Try_info3 : (Try.prog.info? 3).map (fun i => (i.zero, i.size, i.bytes)) = some (some (.int .i64 0), 1, 8) := by kernel_rfl
theorem Try_ln3 : Ln Try.prog 3 1 false := Ln.of Try_info3 Try.underlying3 rfl
theorem Try_lo3 : LnO Try.prog 3 1 [.int .i64 0] := LnO.of Try_info3 rfl rfl (by decide) (by decide)
theorem Try_info4 : (Try.prog.info? 4).map (fun i => (i.zero, i.size, i.bytes)) = some (some (.bool false), 1, 1) := by kernel_rfl
theorem Try_ln4 : Ln Try.prog 4 1 false := Ln.of Try_info4 Try.underlying4 rfl
theorem Try_lo4 : LnO Try.prog 4 1 [.bool false] := LnO.of Try_info4 rfl rfl (by decide) (by decide)
theorem Try_info26 : (Try.prog.info? 26).map (fun i => (i.zero, i.size, i.bytes)) = some (some (.int .i64 0), 1, 8) := by kernel_rfl
theorem Try_ln26 : Ln Try.prog 26 1 false := Ln.of Try_info26 Try.underlying26 rfl
theorem Try_lo26 : LnO Try.prog 26 1 [.int .i64 0] := LnO.of Try_info26 rfl rfl (by decide) (by decide)
theorem Try_info58 : (Try.prog.info? 58).map (fun i => (i.zero, i.size, i.bytes)) = some (some (.agg #[.bool false, .bool false, .bool false, .bool false, .bool false, .bool false]), 6, 6) := by kernel_rfl
theorem Try_ln58 : Ln Try.prog 58 6 true := Ln.of Try_info58 Try.underlying58 rfl
theorem Try_lo58 : LnO Try.prog 58 6 [.bool false, .bool false, .bool false, .bool false, .bool false, .bool false] := LnO.of Try_info58 rfl rfl (by decide) (by decide)
theorem Try_fit13 : Fit Try.prog 13 := Fit.of Try.func13 (by kernel_rfl) rfl
theorem Try_fit14 : Fit Try.prog 14 := Fit.of Try.func14 (by kernel_rfl) rfl
theorem Try_fit15 : Fit Try.prog 15 := Fit.of Try.func15 (by kernel_rfl) rfl
theorem Try_fit16 : Fit Try.prog 16 := Fit.of Try.func16 (by kernel_rfl) rfl
theorem Try_fit17 : Fit Try.prog 17 := Fit.of Try.func17 (by kernel_rfl) rfl
theorem Try_fit18 : Fit Try.prog 18 := Fit.of Try.func18 (by kernel_rfl) rfl
theorem Try_fit23 : Fit Try.prog 23 := Fit.of Try.func23 (by kernel_rfl) rfl
theorem Try_fit24 : Fit Try.prog 24 := Fit.of Try.func24 (by kernel_rfl) rfl
theorem Try_fit25 : Fit Try.prog 25 := Fit.of Try.func25 (by kernel_rfl) rfl
theorem Try_fit26 : Fit Try.prog 26 := Fit.of Try.func26 (by kernel_rfl) rfl
theorem Try_fit27 : Fit Try.prog 27 := Fit.of Try.func27 (by kernel_rfl) rfl
theorem Try_fit29 : Fit Try.prog 29 := Fit.of Try.func29 (by kernel_rfl) rfl
theorem Try_fit31 : Fit Try.prog 31 := Fit.of Try.func31 (by kernel_rfl) rfl
theorem Try_fit32 : Fit Try.prog 32 := Fit.of Try.func32 (by kernel_rfl) rfl
theorem Try_fit33 : Fit Try.prog 33 := Fit.of Try.func33 (by kernel_rfl) rfl
theorem Try_fit34 : Fit Try.prog 34 := Fit.of Try.func34 (by kernel_rfl) rfl
theorem Try_fit35 : Fit Try.prog 35 := Fit.of Try.func35 (by kernel_rfl) rfl
theorem Try_fit40 : Fit Try.prog 40 := Fit.of Try.func40 (by kernel_rfl) rfl

set_option maxHeartbeats 4000000 in
theorem order_Check_c (S : Hp) (w : World) (hS : S.sub w) (x0 : Int) (v1 : Value) (x1 : (List Int)) (k1 : ((TR.sl TR.int)).vrep S v1 x1) (res : Int) (hm : order_Check_m x0 x1 = some res) : Calls Try.prog 29 #[.int .i64 x0, v1] w (PostV w (.int .i64 res)) := by
  refine calls_enter 39 Try.func29 Try.ntmps29 rfl S false [(0, .int .i64 x0), (1, v1)] [imm (TR.sl TR.int) v1 x1] rfl ⟨rfl, ⟨rfl, trivial⟩⟩ hS ⟨k1, trivial⟩ ?_
  unfold order_Check_m at hm
  refine GL.seq ?_
  refine GL.region ?_
  refine RL.asg rfl rfl rfl ?_
  refine RL.finG ?_
  refine GL.seq ?_
  refine GL.seq ?_
  obtain ⟨y6, K7, h8, h9, h10, h11, h12⟩ := bindR_K hm
  refine GL.join (ι := Bool) (fun (p : Bool) => [(0, .int .i64 x0), (1, v1), (13, .bool p)]) (fun (p : Bool) => [imm (TR.sl TR.int) v1 x1]) (fun (p : Bool) => K7 (.nx p)) ?_ ?_
  · skip
    refine GL.region ?_
    refine RL.mv rfl rfl rfl ?_
    refine RL.binI (v := .bool (decide (x0 < (1 : Int)))) rfl rfl rfl rfl rfl ?_
    refine RL.mv rfl rfl rfl ?_
    refine RL.split (t := 10) rfl (fun b13 => ?_) (fun b13 => ?_)
    · replace h8 := ite_t b13 h8
      refine RL.skip rfl rfl ?_
      refine RL.skip rfl rfl ?_
      refine RL.pickT rfl rfl rfl rfl ?_
      refine RL.fin ?_
      cases h8
      exact fun a w st => mid_intro true h9 (St.cut [0] ⟨rfl, rfl, rfl, trivial⟩ (by decide) rfl st)
    · replace h8 := ite_f b13 h8
      refine RL.mv rfl rfl rfl ?_
      refine RL.binI (v := .bool (decide (x0 > (6 : Int)))) rfl rfl rfl rfl rfl ?_
      refine RL.pickF rfl rfl rfl rfl ?_
      refine RL.fin ?_
      cases h8
      exact fun a w st => mid_intro (decide (x0 > (6 : Int))) h9 (St.cut [0] ⟨rfl, rfl, rfl, trivial⟩ (by decide) rfl st)
  · rintro x5 h14
    have h15 := h10 _ h14
    try dsimp only at h15
    refine GL.weak (env' := [(0, .int .i64 x0), (1, v1), (13, .bool x5)]) (L' := [imm (TR.sl TR.int) v1 x1]) (fun _ _ st => st) ?_
    refine GL.cond rfl (fun b16 => ?_) (fun b16 => ?_)
    · replace h15 := ite_t b16 h15
      refine GL.seq ?_
      refine GL.region ?_
      refine RL.asg rfl rfl rfl ?_
      refine RL.finG ?_
      have h15 := Option.some.inj h15
      subst h15
      exact GL.ret (Gx.ret (v := .int .i64 (1 : Int)) (res1 rfl rfl) (fun a w st => st.toPostV))
    · replace h15 := ite_f b16 h15
      refine GL.skip ?_
      refine GL.seq ?_
      refine GL.region ?_
      refine RL.alloc (t := (TR.arr 6 TR.bool)) (z := (List.replicate 6 false)) Try_lo58 (fun S => ⟨rfl, ⟨_, _, rfl, rfl, ⟨_, _, rfl, rfl, ⟨_, _, rfl, rfl, ⟨_, _, rfl, rfl, ⟨_, _, rfl, rfl, ⟨_, _, rfl, rfl, rfl⟩⟩⟩⟩⟩⟩⟩) rfl rfl rfl ?_
      intro v18
      refine RL.finG ?_
      refine GL.seq ?_
      refine GL.seq ?_
      refine GL.region ?_
      refine RL.mv rfl rfl rfl ?_
      refine RL.lenS 0 Try.underlying22 rfl rfl rfl rfl SlOf.imm ?_
      refine RL.mv rfl rfl rfl ?_
      refine RL.finG ?_
      refine GL.open_ 0 rfl (fun S h => len_imm S h) (fun n82 => ?_)
      obtain ⟨y83, K84, h85, h86, h87, h88, h89⟩ := bindR_K h15
      refine GL.join (ι := (List Bool)) (fun (p : (List Bool)) => [(0, .int .i64 x0), (1, v1)]) (fun (p : (List Bool)) => [imm (TR.sl TR.int) v1 x1]) (fun (p : (List Bool)) => K84 (.nx p)) ?_ ?_
      · refine GL.block ?_
        refine GL.loop (ι := Nat × (List Int) × (List Bool)) (fun (p : Nat × (List Int) × (List Bool)) => [(0, .int .i64 x0), (1, v1), (5, v18), (14, v1), (15, .int .i64 ((x1).length : Int)), (16, .int .i64 (p.1 : Int))]) (fun (p : Nat × (List Int) × (List Bool)) => [imm (TR.sl TR.int) v1 x1, obox 58 (TR.arr 6 TR.bool) v18 p.2.2]) (fun (p : Nat × (List Int) × (List Bool)) => p.1 + p.2.1.length = (x1).length ∧ List.drop p.1 x1 = p.2.1 ∧ rangeL (order_Check_b1 x0) p.2.1 p.1 p.2.2 = some y83) (fun (p : Nat × (List Int) × (List Bool)) => p.2.1.length) (0, x1, (List.replicate 6 false)) ⟨by simp, by simp, h85⟩ (fun a w st => St.cut [0, 1] ⟨rfl, rfl, rfl, rfl, rfl, rfl, trivial⟩ (by decide) rfl st) ?_
        rintro ⟨i90, r91, l50⟩ ⟨h96, h97, h95⟩
        try dsimp only at h96 h97 h95
        refine GL.weak (env' := [(0, .int .i64 x0), (1, v1), (5, v18), (14, v1), (15, .int .i64 ((x1).length : Int)), (16, .int .i64 (i90 : Int))]) (L' := [imm (TR.sl TR.int) v1 x1, obox 58 (TR.arr 6 TR.bool) v18 l50]) (fun _ _ st => st) ?_
        refine GL.seq ?_
        refine GL.region ?_
        refine RL.binI (v := .bool (decide ((i90 : Int) < ((x1).length : Int)))) rfl rfl rfl rfl rfl ?_
        refine RL.finG ?_
        refine GL.seq ?_
        refine GL.cond rfl (fun b98 => ?_) (fun b98 => ?_)
        · have h99 : i90 < (x1).length := by have := of_decide_eq_true b98; omega
          obtain ⟨y100, r102, hr, e101, h103⟩ := drop_cons h97 rfl h99
          subst hr
          obtain ⟨z92, h93, h94⟩ := rangeL_some h95
          unfold order_Check_b1 at h93
          try dsimp only at h93
          refine GL.skip ?_
          refine GL.seq ?_
          refine GL.block ?_
          refine GL.seq ?_
          refine GL.region ?_
          refine RL.idxS (sz := 1) 0 Try.underlying22 Try_ln3 rfl rfl rfl rfl rfl SlOf.imm (by omega) (by omega) ?_
          refine RL.ldSx (i := i90) (e' := y100) 0 Ex.ik Try_ln3 rfl rfl rfl rfl SlOf.imm e101 Part.self ?_
          refine RL.asg rfl rfl rfl ?_
          refine RL.finG ?_
          refine GL.seq ?_
          refine GL.seq ?_
          obtain ⟨y113, K114, h115, h116, h117, h118, h119⟩ := bindF_K h93
          refine GL.join (ι := Bool) (fun (p : Bool) => [(0, .int .i64 x0), (1, v1), (5, v18), (7, .int .i64 y100), (14, v1), (15, .int .i64 ((x1).length : Int)), (16, .int .i64 (i90 : Int)), (31, .bool p)]) (fun (p : Bool) => [imm (TR.sl TR.int) v1 x1, obox 58 (TR.arr 6 TR.bool) v18 l50]) (fun (p : Bool) => K114 (.nx p)) ?_ ?_
          · skip
            refine GL.region ?_
            refine RL.mv rfl rfl rfl ?_
            refine RL.binI (v := .bool (decide (y100 < (0 : Int)))) rfl rfl rfl rfl rfl ?_
            refine RL.mv rfl rfl rfl ?_
            refine RL.split (t := 22) rfl (fun b120 => ?_) (fun b120 => ?_)
            · replace h115 := ite_t b120 h115
              refine RL.skip rfl rfl ?_
              refine RL.skip rfl rfl ?_
              refine RL.skip rfl rfl ?_
              refine RL.pickT rfl rfl rfl rfl ?_
              refine RL.mv rfl rfl rfl ?_
              refine RL.skip rfl rfl ?_
              refine RL.skip rfl rfl ?_
              refine RL.skip rfl rfl ?_
              refine RL.pickT rfl rfl rfl rfl ?_
              refine RL.fin ?_
              cases h115
              exact fun a w st => mid_intro true h116 (St.cut [0, 1] ⟨rfl, rfl, rfl, rfl, rfl, rfl, rfl, rfl, trivial⟩ (by decide) rfl st)
            · replace h115 := ite_f b120 h115
              refine RL.mv rfl rfl rfl ?_
              refine RL.mv rfl rfl rfl ?_
              refine RL.binI (v := .bool (decide (y100 ≥ x0))) rfl rfl rfl rfl rfl ?_
              refine RL.pickF rfl rfl rfl rfl ?_
              refine RL.mv rfl rfl rfl ?_
              refine RL.split (t := 27) rfl (fun b121 => ?_) (fun b121 => ?_)
              · replace h115 := ite_t b121 h115
                refine RL.skip rfl rfl ?_
                refine RL.skip rfl rfl ?_
                refine RL.skip rfl rfl ?_
                refine RL.pickT rfl rfl rfl rfl ?_
                refine RL.fin ?_
                cases h115
                exact fun a w st => mid_intro true h116 (St.cut [0, 1] ⟨rfl, rfl, rfl, rfl, rfl, rfl, rfl, rfl, trivial⟩ (by decide) rfl st)
              · replace h115 := ite_f b121 h115
                refine RL.mv rfl rfl rfl ?_
                obtain ⟨y122, e123, h115⟩ := bind_some h115
                refine RL.idxA0 (sz := 1) (t' := TR.bool) 1 Try.underlying58 Try_ln4 rfl rfl rfl PtOf.obox rfl rfl Part.self (idx_some e123).1 (idx_some e123).2.1 ?_
                refine RL.ldPx (off := ((y100).toNat * 1)) (e' := y122) 1 Ex.bool Try_ln4 rfl rfl (Or.inl rfl) rfl PtOf.obox (Part.arr (idx_some e123).2.2 Part.self) ?_
                refine RL.pickF rfl rfl rfl rfl ?_
                refine RL.fin ?_
                cases h115
                exact fun a w st => mid_intro y122 h116 (St.cut [0, 1] ⟨rfl, rfl, rfl, rfl, rfl, rfl, rfl, rfl, trivial⟩ (by decide) rfl st)
          · rintro x112 h124
            have h125 := h117 _ h124
            try dsimp only at h125
            refine GL.weak (env' := [(0, .int .i64 x0), (1, v1), (5, v18), (7, .int .i64 y100), (14, v1), (15, .int .i64 ((x1).length : Int)), (16, .int .i64 (i90 : Int)), (31, .bool x112)]) (L' := [imm (TR.sl TR.int) v1 x1, obox 58 (TR.arr 6 TR.bool) v18 l50]) (fun _ _ st => st) ?_
            refine GL.cond rfl (fun b126 => ?_) (fun b126 => ?_)
            · replace h125 := ite_t b126 h125
              refine GL.seq ?_
              refine GL.region ?_
              refine RL.asg rfl rfl rfl ?_
              refine RL.finG ?_
              cases h125
              replace h94 : some (Fl.rt _) = some y83 := h94
              cases h94
              have hh := h88 _ h86
              subst hh
              exact GL.ret (Gx.ret (v := .int .i64 (3 : Int)) (res1 rfl rfl) (fun a w st => st.toPostV))
            · replace h125 := ite_f b126 h125
              refine GL.skip ?_
              refine GL.region ?_
              refine RL.mv rfl rfl rfl ?_
              obtain ⟨y129, e130, h125⟩ := bind_some h125
              refine RL.idxA0 (sz := 1) (t' := TR.bool) 1 Try.underlying58 Try_ln4 rfl rfl rfl PtOf.obox rfl rfl Part.self (idx_some e130).1 (idx_some e130).2.1 ?_
              refine RL.stP (off := ((y100).toNat * 1)) (e' := true) (d1 := (List.set l50 ((y100).toNat) true)) (r := TR.bool) 1 Try_ln4 rfl rfl (Or.inl rfl) rfl VR.bool rfl (Upd.arr (idx_some e130).2.2 Upd.self) ?_
              refine RL.finG ?_
              refine GL.nilB ?_
              refine GL.region ?_
              refine RL.binI (v := .int .i64 ((i90 + 1 : Nat) : Int)) rfl rfl rfl rfl (binI_succ i90 (by omega)) ?_
              refine RL.mv rfl rfl rfl ?_
              refine RL.fin ?_
              cases h125
              exact fun a w st => lop_intro (i90 + 1, r102, (List.set l50 ((y100).toNat) true)) ⟨by show i90 + 1 + r102.length = (x1).length; simp only [List.length_cons] at h96; omega, h103, h94⟩ (by simp) (St.cut [0, 1] ⟨rfl, rfl, rfl, rfl, rfl, rfl, trivial⟩ (by decide) rfl st)
        · have h99 : ¬ i90 < (x1).length := by have := of_decide_eq_false b98; omega
          obtain rfl : r91 = [] := by rw [← h97]; exact List.drop_of_length_le (by omega)
          replace h95 : some (Fl.nx _) = some y83 := h95
          cases h95
          exact GL.exit (fun a w st => mid_intro l50 h86 (St.cut [0] ⟨rfl, rfl, trivial⟩ (by decide) rfl st))
      · rintro l50 h131
        have h132 := h87 _ h131
        try dsimp only at h132
        refine GL.weak (env' := [(0, .int .i64 x0), (1, v1)]) (L' := [imm (TR.sl TR.int) v1 x1]) (fun _ _ st => st) ?_
        refine GL.seq ?_
        refine GL.seq ?_
        refine GL.region ?_
        refine RL.mv rfl rfl rfl ?_
        refine RL.lenS 0 Try.underlying22 rfl rfl rfl rfl SlOf.imm ?_
        refine RL.mv rfl rfl rfl ?_
        refine RL.binI (v := .bool (((x1).length : Int) != x0)) rfl rfl rfl rfl rfl ?_
        refine RL.finG ?_
        refine GL.cond rfl (fun b133 => ?_) (fun b133 => ?_)
        · replace h132 := ite_t b133 h132
          refine GL.seq ?_
          refine GL.region ?_
          refine RL.asg rfl rfl rfl ?_
          refine RL.finG ?_
          have h132 := Option.some.inj h132
          subst h132
          exact GL.ret (Gx.ret (v := .int .i64 (3 : Int)) (res1 rfl rfl) (fun a w st => st.toPostV))
        · replace h132 := ite_f b133 h132
          refine GL.skip ?_
          refine GL.seq ?_
          refine GL.region ?_
          refine RL.asg rfl rfl rfl ?_
          refine RL.finG ?_
          have h132 := Option.some.inj h132
          subst h132
          exact GL.ret (Gx.ret (v := .int .i64 (0 : Int)) (res1 rfl rfl) (fun a w st => st.toPostV))

set_option maxHeartbeats 4000000 in
theorem slices_Index_int_int_c (S : Hp) (w : World) (hS : S.sub w) (v0 : Value) (x0 : (List Int)) (k0 : ((TR.sl TR.int)).vrep S v0 x0) (x1 : Int) (res : Int) (hm : slices_Index_int_int_m x0 x1 = some res) : Calls Try.prog 33 #[v0, .int .i64 x1] w (PostC w (.int .i64 res)) := by
  refine calls_enter 19 Try.func33 Try.ntmps33 rfl S true [(0, v0), (1, .int .i64 x1)] [imm (TR.sl TR.int) v0 x0] rfl ⟨rfl, ⟨rfl, trivial⟩⟩ hS ⟨k0, trivial⟩ ?_
  unfold slices_Index_int_int_m at hm
  refine GL.seq ?_
  refine GL.region ?_
  refine RL.asg rfl rfl rfl ?_
  refine RL.finG ?_
  refine GL.seq ?_
  refine GL.seq ?_
  refine GL.region ?_
  refine RL.mv rfl rfl rfl ?_
  refine RL.lenS 0 Try.underlying22 rfl rfl rfl rfl SlOf.imm ?_
  refine RL.mv rfl rfl rfl ?_
  refine RL.finG ?_
  refine GL.open_ 0 rfl (fun S h => len_imm S h) (fun n8 => ?_)
  obtain ⟨y9, K10, h11, h12, h13, h14, h15⟩ := bindR_K hm
  refine GL.join (ι := Unit) (fun (p : Unit) => []) (fun (p : Unit) => []) (fun (p : Unit) => K10 (.nx ())) ?_ ?_
  · refine GL.block ?_
    refine GL.loop (ι := Nat × (List Int)) (fun (p : Nat × (List Int)) => [(0, v0), (1, .int .i64 x1), (7, .int .i64 ((x0).length : Int)), (8, .int .i64 (p.1 : Int))]) (fun (p : Nat × (List Int)) => [imm (TR.sl TR.int) v0 x0]) (fun (p : Nat × (List Int)) => p.1 + p.2.length = (x0).length ∧ List.drop p.1 x0 = p.2 ∧ rangeL (slices_Index_int_int_b1 x1) p.2 p.1 () = some y9) (fun (p : Nat × (List Int)) => p.2.length) (0, x0) ⟨by simp, by simp, h11⟩ (fun a w st => St.cut [0] ⟨rfl, rfl, rfl, rfl, trivial⟩ (by decide) rfl st) ?_
    rintro ⟨i17, r18⟩ ⟨h23, h24, h22⟩
    try dsimp only at h23 h24 h22
    refine GL.weak (env' := [(0, v0), (1, .int .i64 x1), (7, .int .i64 ((x0).length : Int)), (8, .int .i64 (i17 : Int))]) (L' := [imm (TR.sl TR.int) v0 x0]) (fun _ _ st => st) ?_
    refine GL.seq ?_
    refine GL.region ?_
    refine RL.binI (v := .bool (decide ((i17 : Int) < ((x0).length : Int)))) rfl rfl rfl rfl rfl ?_
    refine RL.finG ?_
    refine GL.seq ?_
    refine GL.cond rfl (fun b25 => ?_) (fun b25 => ?_)
    · have h26 : i17 < (x0).length := by have := of_decide_eq_true b25; omega
      obtain ⟨y27, r29, hr, e28, h30⟩ := drop_cons h24 rfl h26
      subst hr
      obtain ⟨z19, h20, h21⟩ := rangeL_some h22
      unfold slices_Index_int_int_b1 at h20
      try dsimp only at h20
      refine GL.skip ?_
      refine GL.seq ?_
      refine GL.block ?_
      refine GL.seq ?_
      refine GL.region ?_
      refine RL.mv rfl rfl rfl ?_
      refine RL.asg rfl rfl rfl ?_
      refine RL.finG ?_
      refine GL.seq ?_
      refine GL.region ?_
      refine RL.mv rfl rfl rfl ?_
      refine RL.mv rfl rfl rfl ?_
      refine RL.mv rfl rfl rfl ?_
      refine RL.idxS (sz := 1) 0 Try.underlying22 Try_ln3 rfl rfl rfl rfl rfl SlOf.imm (by omega) (by omega) ?_
      refine RL.ldSx (i := i17) (e' := y27) 0 Ex.ik Try_ln3 rfl rfl rfl rfl SlOf.imm e28 Part.self ?_
      refine RL.binI (v := .bool (x1 == y27)) rfl rfl rfl rfl rfl ?_
      refine RL.finG ?_
      refine GL.cond rfl (fun b31 => ?_) (fun b31 => ?_)
      · replace h20 := ite_t b31 h20
        refine GL.seq ?_
        refine GL.region ?_
        refine RL.mv rfl rfl rfl ?_
        refine RL.asg rfl rfl rfl ?_
        refine RL.finG ?_
        cases h20
        replace h21 : some (Fl.rt _) = some y9 := h21
        cases h21
        have hh := h14 _ h12
        subst hh
        exact GL.ret (Gx.ret (v := .int .i64 (i17 : Int)) (res1 rfl rfl) (fun a w st => st.toPostC rfl))
      · replace h20 := ite_f b31 h20
        refine GL.skip ?_
        refine GL.nilB ?_
        refine GL.region ?_
        refine RL.binI (v := .int .i64 ((i17 + 1 : Nat) : Int)) rfl rfl rfl rfl (binI_succ i17 (by omega)) ?_
        refine RL.mv rfl rfl rfl ?_
        refine RL.fin ?_
        cases h20
        exact fun a w st => lop_intro (i17 + 1, r29) ⟨by show i17 + 1 + r29.length = (x0).length; simp only [List.length_cons] at h23; omega, h30, h21⟩ (by simp) (St.cut [0] ⟨rfl, rfl, rfl, rfl, trivial⟩ (by decide) rfl st)
    · have h26 : ¬ i17 < (x0).length := by have := of_decide_eq_false b25; omega
      obtain rfl : r18 = [] := by rw [← h24]; exact List.drop_of_length_le (by omega)
      replace h22 : some (Fl.nx _) = some y9 := h22
      cases h22
      exact GL.exit (fun a w st => mid_intro () h12 (St.cut [] trivial (by decide) rfl st))
  · rintro ⟨⟩ h32
    have h33 := h13 _ h32
    try dsimp only at h33
    refine GL.weak (env' := []) (L' := []) (fun _ _ st => st) ?_
    refine GL.seq ?_
    refine GL.region ?_
    refine RL.asg rfl rfl rfl ?_
    refine RL.finG ?_
    have h33 := Option.some.inj h33
    subst h33
    exact GL.ret (Gx.ret (v := .int .i64 (-1 : Int)) (res1 rfl rfl) (fun a w st => st.toPostC rfl))

set_option maxHeartbeats 4000000 in
theorem order_Place_c (S : Hp) (w : World) (hS : S.sub w) (v0 : Value) (x0 : (List Int)) (k0 : ((TR.sl TR.int)).vrep S v0 x0) (x1 : Int) (res : Int × Int) (hm : order_Place_m x0 x1 = some res) : Calls Try.prog 26 #[v0, .int .i64 x1] w (PostV w (.tuple #[.int .i64 res.1, .int .i64 res.2])) := by
  refine calls_enter 21 Try.func26 Try.ntmps26 rfl S false [(0, v0), (1, .int .i64 x1)] [imm (TR.sl TR.int) v0 x0] rfl ⟨rfl, ⟨rfl, trivial⟩⟩ hS ⟨k0, trivial⟩ ?_
  unfold order_Place_m at hm
  refine GL.seq ?_
  refine GL.region ?_
  refine RL.asg rfl rfl rfl ?_
  refine RL.asg rfl rfl rfl ?_
  refine RL.finG ?_
  refine GL.seq ?_
  refine GL.seq ?_
  refine GL.region ?_
  refine RL.mv rfl rfl rfl ?_
  refine RL.lenS 0 Try.underlying22 rfl rfl rfl rfl SlOf.imm ?_
  refine RL.mv rfl rfl rfl ?_
  obtain ⟨y5, e6, hm⟩ := bind_some hm
  refine RL.callV (v := .int .i64 y5) (vs := [.int .i64 ((x0).length : Int), v0]) Try_fit29 rfl (Or.inl rfl) rfl rfl rfl rfl (fun U w hU hW hL => order_Check_c U w hU ((x0).length : Int) _ _ (hL 0 _ _ rfl Seen.imm) _ e6) ?_
  refine RL.asg rfl rfl rfl ?_
  refine RL.finG ?_
  refine GL.seq ?_
  refine GL.region ?_
  refine RL.mv rfl rfl rfl ?_
  refine RL.binI (v := .bool (y5 != (0 : Int))) rfl rfl rfl rfl rfl ?_
  refine RL.finG ?_
  refine GL.cond rfl (fun b7 => ?_) (fun b7 => ?_)
  · replace hm := ite_t b7 hm
    refine GL.seq ?_
    refine GL.region ?_
    refine RL.mv rfl rfl rfl ?_
    refine RL.asg rfl rfl rfl ?_
    refine RL.asg rfl rfl rfl ?_
    refine RL.finG ?_
    have hm := Option.some.inj hm
    subst hm
    exact GL.ret (Gx.ret (v := .tuple #[.int .i64 (0 : Int), .int .i64 y5]) (res2 rfl rfl rfl) (fun a w st => st.toPostV))
  · replace hm := ite_f b7 hm
    refine GL.skip ?_
    refine GL.seq ?_
    refine GL.seq ?_
    refine GL.region ?_
    refine RL.mv rfl rfl rfl ?_
    refine RL.mv rfl rfl rfl ?_
    obtain ⟨y10, e11, hm⟩ := bind_some hm
    refine RL.callC (v := .int .i64 y10) (vs := [v0, .int .i64 x1]) Try_fit33 rfl rfl rfl rfl (fun U w hU hW hL => slices_Index_int_int_c U w hU _ _ (hL 0 _ _ rfl Seen.imm) x1 _ e11) ?_
    refine RL.asg rfl rfl rfl ?_
    refine RL.finG ?_
    refine GL.seq ?_
    refine GL.region ?_
    refine RL.mv rfl rfl rfl ?_
    refine RL.binI (v := .bool (decide (y10 ≥ (0 : Int)))) rfl rfl rfl rfl rfl ?_
    refine RL.finG ?_
    refine GL.cond rfl (fun b12 => ?_) (fun b12 => ?_)
    · replace hm := ite_t b12 hm
      refine GL.seq ?_
      refine GL.region ?_
      refine RL.mv rfl rfl rfl ?_
      refine RL.asg rfl rfl rfl ?_
      refine RL.asg rfl rfl rfl ?_
      refine RL.finG ?_
      have hm := Option.some.inj hm
      subst hm
      exact GL.ret (Gx.ret (v := .tuple #[.int .i64 y10, .int .i64 (0 : Int)]) (res2 rfl rfl rfl) (fun a w st => st.toPostV))
    · replace hm := ite_f b12 hm
      refine GL.skip ?_
      refine GL.seq ?_
      refine GL.region ?_
      refine RL.asg rfl rfl rfl ?_
      refine RL.asg rfl rfl rfl ?_
      refine RL.finG ?_
      have hm := Option.some.inj hm
      subst hm
      exact GL.ret (Gx.ret (v := .tuple #[.int .i64 (0 : Int), .int .i64 (4 : Int)]) (res2 rfl rfl rfl) (fun a w st => st.toPostV))

set_option maxHeartbeats 4000000 in
theorem slices_Clone_int_int_c (S : Hp) (w : World) (hS : S.sub w) (v0 : Value) (x0 : List Int) (k0 : (TR.sl TR.int).vrep S v0 x0) (res : List Int) (hm : slices_Clone_int_int_m x0 = some res) : Calls Try.prog 24 #[v0] w (Post w S (fun (o : Value) => o) (fun (o : Value) => [own 3 TR.int o res])) := by
  refine calls_enter 8 Try.func24 Try.ntmps24 rfl S false [(0, v0)] [imm (TR.sl TR.int) v0 x0] rfl ⟨rfl, trivial⟩ hS ⟨k0, trivial⟩ ?_
  unfold slices_Clone_int_int_m at hm
  obtain ⟨_, hc, hm⟩ := bind_some hm
  replace hc := chk_some hc
  have hm := Option.some.inj hm
  subst hm
  refine GL.seq (GL.region (RL.asg rfl rfl rfl (RL.finG (GL.seq (GL.seq (GL.region ?_))))))
  refine RL.mv rfl rfl rfl ?_
  refine RL.eqNil 0 Try.underlying22 rfl rfl rfl rfl rfl SlOf.imm (fun b hb => ?_)
  refine RL.finG (GL.cond rfl (fun h => ?_) (fun h => ?_))
  · have := hb h
    subst this
    refine GL.seq (GL.region (RL.asg rfl rfl rfl (RL.finG ?_)))
    refine GL.weak (fun a w st => st.nilOwn 3 TR.int) ?_
    exact GL.ret (Gx.ret (v := Value.slice none 0 0) (res1 rfl rfl) (fun a w st => (st.pick [1] (by decide) rfl).toPost (Value.slice none 0 0)))
  · refine GL.skip (GL.seq (GL.region ?_))
    refine RL.bS (t := TR.int) (vs := []) ([] : List Int) Try.underlying22 Try_lo3 rfl rfl rfl rfl trivial rfl (by decide) ?_
    intro v1
    refine RL.mv rfl rfl rfl ?_
    refine RL.app 1 0 Try.underlying22 Try_lo3 rfl rfl rfl rfl rfl rfl rfl SlOf.imm (by simpa using hc) ?_
    intro v2
    refine RL.asg rfl rfl rfl (RL.finG ?_)
    exact GL.ret (Gx.ret (v := v2) (res1 rfl rfl) (fun a w st => (st.pick [1] (by decide) rfl).toPost v2))

set_option maxHeartbeats 4000000 in
theorem order_Raise_c (S : Hp) (w : World) (hS : S.sub w) (v0 : Value) (x0 : (List Int)) (k0 : ((TR.sl TR.int)).vrep S v0 x0) (x1 : Int) (res : (List Int) × Int) (hm : order_Raise_m x0 x1 = some res) : Calls Try.prog 23 #[v0, .int .i64 x1] w (Post w S (fun (o : Value) => .tuple #[o, .int .i64 res.2]) (fun (o : Value) => [own 3 TR.int o res.1])) := by
  refine calls_enter 39 Try.func23 Try.ntmps23 rfl S false [(0, v0), (1, .int .i64 x1)] [imm (TR.sl TR.int) v0 x0] rfl ⟨rfl, ⟨rfl, trivial⟩⟩ hS ⟨k0, trivial⟩ ?_
  unfold order_Raise_m at hm
  refine GL.seq ?_
  refine GL.region ?_
  refine RL.asg rfl rfl rfl ?_
  refine RL.asg rfl rfl rfl ?_
  refine RL.finG ?_
  refine GL.seq ?_
  refine GL.region ?_
  refine RL.mv rfl rfl rfl ?_
  refine RL.mv rfl rfl rfl ?_
  obtain ⟨y5, e6, hm⟩ := bind_some hm
  refine RL.callV (v := .tuple #[.int .i64 y5.1, .int .i64 y5.2]) (vs := [v0, .int .i64 x1]) Try_fit26 rfl (Or.inl rfl) rfl rfl rfl rfl (fun U w hU hW hL => order_Place_c U w hU _ _ (hL 0 _ _ rfl Seen.imm) x1 _ e6) ?_
  refine RL.mv rfl rfl rfl ?_
  refine RL.ext rfl rfl rfl rfl ?_
  refine RL.ext rfl rfl rfl rfl ?_
  refine RL.asg rfl rfl rfl ?_
  refine RL.asg rfl rfl rfl ?_
  refine RL.finG ?_
  refine GL.seq ?_
  refine GL.seq ?_
  refine GL.region ?_
  refine RL.mv rfl rfl rfl ?_
  refine RL.binI (v := .bool (y5.2 != (0 : Int))) rfl rfl rfl rfl rfl ?_
  refine RL.finG ?_
  refine GL.cond rfl (fun b7 => ?_) (fun b7 => ?_)
  · replace hm := ite_t b7 hm
    refine GL.seq ?_
    refine GL.region ?_
    refine RL.mv rfl rfl rfl ?_
    refine RL.asg rfl rfl rfl ?_
    refine RL.asg rfl rfl rfl ?_
    refine RL.finG ?_
    refine GL.weak (fun a w st => st.nilOwn 3 TR.int) ?_
    have hm := Option.some.inj hm
    subst hm
    exact GL.ret (Gx.ret (v := .tuple #[Value.slice none 0 0, .int .i64 y5.2]) (res2 rfl rfl rfl) (fun a w st => (st.pick [1] (by decide) rfl).toPost (Value.slice none 0 0)))
  · replace hm := ite_f b7 hm
    refine GL.skip ?_
    refine GL.seq ?_
    refine GL.seq ?_
    refine GL.region ?_
    refine RL.mv rfl rfl rfl ?_
    refine RL.binI (v := .bool (y5.1 == (0 : Int))) rfl rfl rfl rfl rfl ?_
    refine RL.finG ?_
    refine GL.cond rfl (fun b8 => ?_) (fun b8 => ?_)
    · replace hm := ite_t b8 hm
      refine GL.seq ?_
      refine GL.region ?_
      refine RL.asg rfl rfl rfl ?_
      refine RL.asg rfl rfl rfl ?_
      refine RL.finG ?_
      refine GL.weak (fun a w st => st.nilOwn 3 TR.int) ?_
      have hm := Option.some.inj hm
      subst hm
      exact GL.ret (Gx.ret (v := .tuple #[Value.slice none 0 0, .int .i64 (6 : Int)]) (res2 rfl rfl rfl) (fun a w st => (st.pick [1] (by decide) rfl).toPost (Value.slice none 0 0)))
    · replace hm := ite_f b8 hm
      refine GL.skip ?_
      refine GL.seq ?_
      refine GL.region ?_
      refine RL.mv rfl rfl rfl ?_
      obtain ⟨y12, e13, hm⟩ := bind_some hm
      refine RL.call (vs := [v0]) Try_fit24 rfl rfl rfl rfl rfl (fun S f w hS hW hi => slices_Clone_int_int_c S w hS _ _ (hi 0 _ rfl) _ e13) ?_
      intro v14
      refine RL.asg rfl rfl rfl ?_
      refine RL.finG ?_
      refine GL.seq ?_
      refine GL.regionA rfl rfl ?_
      refine RA.mv 0 rfl (by kernel_rfl) rfl rfl rfl ?_
      refine RA.mv 1 rfl (by kernel_rfl) rfl rfl rfl ?_
      refine RA.binI (v := .int .i64 (wsub y5.1 (1 : Int))) 2 rfl (by kernel_rfl) rfl rfl rfl rfl rfl ?_
      refine RA.mv 3 rfl (by kernel_rfl) rfl rfl rfl ?_
      refine RA.mv 4 rfl (by kernel_rfl) rfl rfl rfl ?_
      refine RA.mv 5 rfl (by kernel_rfl) rfl rfl rfl ?_
      refine RA.mv 6 rfl (by kernel_rfl) rfl rfl rfl ?_
      obtain ⟨y23, e24, hm⟩ := bind_some hm
      refine RA.idxS (sz := 1) 1 Try.underlying22 Try_ln3 7 rfl (by kernel_rfl) rfl rfl rfl rfl rfl SlOf.own (idx_some e24).1 (idx_some e24).2.1 ?_
      refine RA.mv 9 rfl (by kernel_rfl) rfl rfl rfl ?_
      refine RA.mv 10 rfl (by kernel_rfl) rfl rfl rfl ?_
      refine RA.binI (v := .int .i64 (wsub y5.1 (1 : Int))) 11 rfl (by kernel_rfl) rfl rfl rfl rfl rfl ?_
      obtain ⟨y25, e26, hm⟩ := bind_some hm
      refine RA.idxS (sz := 1) 1 Try.underlying22 Try_ln3 12 rfl (by kernel_rfl) rfl rfl rfl rfl rfl SlOf.own (idx_some e26).1 (idx_some e26).2.1 ?_
      refine RA.still (le := #[true, true, true, true, true, true, true, true, true, true, true, true, true, true, true, false, false, false]) (f := 3) [8, 13, 14] 15 rfl (by kernel_rfl) ?_
      simp only [pickOps, List.getElem?_toArray, List.getElem?_cons_succ, List.getElem?_cons_zero]
      refine RL.ldSx (i := (y5.1).toNat) (e' := y23) 1 Ex.ik Try_ln3 rfl rfl rfl rfl SlOf.own (idx_some e24).2.2 Part.self ?_
      refine RL.ldSx (i := (wsub y5.1 (1 : Int)).toNat) (e' := y25) 1 Ex.ik Try_ln3 rfl rfl rfl rfl SlOf.own (idx_some e26).2.2 Part.self ?_
      obtain ⟨y27, e28, hm⟩ := bind_some hm
      refine RL.idxS (sz := 1) 1 Try.underlying22 Try_ln3 rfl rfl rfl rfl rfl SlOf.own (idx_some e28).1 (idx_some e28).2.1 ?_
      refine RL.finH ?_
      refine RL.fin ?_
      refine RA.next ?_
      refine RA.seq 15 rfl (by kernel_rfl) ?_
      refine RL.stS (i := (wsub y5.1 (1 : Int)).toNat) (e' := y23) (e1 := y23) (r := TR.int) 1 Try_ln3 rfl rfl rfl rfl VR.int rfl (idx_some e28).2.2 Upd.self ?_
      refine RL.fin ?_
      refine RA.next ?_
      obtain ⟨y29, e30, hm⟩ := bind_some hm
      refine RA.idxS (sz := 1) 1 Try.underlying22 Try_ln3 16 rfl (by kernel_rfl) rfl rfl rfl rfl rfl SlOf.own (idx_some e30).1 (idx_some e30).2.1 ?_
      refine RA.seq 17 rfl (by kernel_rfl) ?_
      refine RL.stS (i := (y5.1).toNat) (e' := y25) (e1 := y25) (r := TR.int) 1 Try_ln3 rfl rfl rfl rfl VR.int rfl (idx_some e30).2.2 Upd.self ?_
      refine RL.fin ?_
      refine RA.next ?_
      refine RA.doneG (by kernel_rfl) ?_
      refine GL.weak (env' := [(8, v14)]) (L' := [own 3 TR.int v14 (List.set (List.set y12 ((wsub y5.1 (1 : Int)).toNat) y23) ((y5.1).toNat) y25)]) (fun a w st => St.cut [1] ⟨rfl, trivial⟩ (by decide) rfl st) ?_
      refine GL.seq ?_
      refine GL.region ?_
      refine RL.mv rfl rfl rfl ?_
      refine RL.asg rfl rfl rfl ?_
      refine RL.asg rfl rfl rfl ?_
      refine RL.finG ?_
      have hm := Option.some.inj hm
      subst hm
      exact GL.ret (Gx.ret (v := .tuple #[v14, .int .i64 (0 : Int)]) (res2 rfl rfl rfl) (fun a w st => (st.pick [0] (by decide) rfl).toPost v14))

set_option maxHeartbeats 4000000 in
theorem slices_Equal_int_int_c (S : Hp) (w : World) (hS : S.sub w) (v0 : Value) (x0 : (List Int)) (k0 : ((TR.sl TR.int)).vrep S v0 x0) (v1 : Value) (x1 : (List Int)) (k1 : ((TR.sl TR.int)).vrep S v1 x1) (res : Bool) (hm : slices_Equal_int_int_m x0 x1 = some res) : Calls Try.prog 18 #[v0, v1] w (PostV w (.bool res)) := by
  refine calls_enter 26 Try.func18 Try.ntmps18 rfl S false [(0, v0), (1, v1)] [imm (TR.sl TR.int) v0 x0, imm (TR.sl TR.int) v1 x1] rfl ⟨rfl, ⟨rfl, trivial⟩⟩ hS ⟨k0, ⟨k1, trivial⟩⟩ ?_
  unfold slices_Equal_int_int_m at hm
  refine GL.seq ?_
  refine GL.region ?_
  refine RL.asg rfl rfl rfl ?_
  refine RL.finG ?_
  refine GL.seq ?_
  refine GL.seq ?_
  refine GL.region ?_
  refine RL.mv rfl rfl rfl ?_
  refine RL.lenS 0 Try.underlying22 rfl rfl rfl rfl SlOf.imm ?_
  refine RL.mv rfl rfl rfl ?_
  refine RL.lenS 1 Try.underlying22 rfl rfl rfl rfl SlOf.imm ?_
  refine RL.binI (v := .bool (((x0).length : Int) != ((x1).length : Int))) rfl rfl rfl rfl rfl ?_
  refine RL.finG ?_
  refine GL.cond rfl (fun b3 => ?_) (fun b3 => ?_)
  · replace hm := ite_t b3 hm
    refine GL.seq ?_
    refine GL.region ?_
    refine RL.asg rfl rfl rfl ?_
    refine RL.finG ?_
    have hm := Option.some.inj hm
    subst hm
    exact GL.ret (Gx.ret (v := .bool false) (res1 rfl rfl) (fun a w st => st.toPostV))
  · replace hm := ite_f b3 hm
    refine GL.skip ?_
    refine GL.seq ?_
    refine GL.seq ?_
    refine GL.region ?_
    refine RL.mv rfl rfl rfl ?_
    refine RL.lenS 0 Try.underlying22 rfl rfl rfl rfl SlOf.imm ?_
    refine RL.mv rfl rfl rfl ?_
    refine RL.finG ?_
    refine GL.open_ 0 rfl (fun S h => len_imm S h) (fun n13 => ?_)
    obtain ⟨y14, K15, h16, h17, h18, h19, h20⟩ := bindR_K hm
    refine GL.join (ι := Unit) (fun (p : Unit) => []) (fun (p : Unit) => []) (fun (p : Unit) => K15 (.nx ())) ?_ ?_
    · refine GL.block ?_
      refine GL.loop (ι := Nat × (List Int)) (fun (p : Nat × (List Int)) => [(0, v0), (1, v1), (12, .int .i64 ((x0).length : Int)), (13, .int .i64 (p.1 : Int))]) (fun (p : Nat × (List Int)) => [imm (TR.sl TR.int) v0 x0, imm (TR.sl TR.int) v1 x1]) (fun (p : Nat × (List Int)) => p.1 + p.2.length = (x0).length ∧ List.drop p.1 x0 = p.2 ∧ rangeL (slices_Equal_int_int_b1 x1) p.2 p.1 () = some y14) (fun (p : Nat × (List Int)) => p.2.length) (0, x0) ⟨by simp, by simp, h16⟩ (fun a w st => St.cut [0, 1] ⟨rfl, rfl, rfl, rfl, trivial⟩ (by decide) rfl st) ?_
      rintro ⟨i21, r22⟩ ⟨h27, h28, h26⟩
      try dsimp only at h27 h28 h26
      refine GL.weak (env' := [(0, v0), (1, v1), (12, .int .i64 ((x0).length : Int)), (13, .int .i64 (i21 : Int))]) (L' := [imm (TR.sl TR.int) v0 x0, imm (TR.sl TR.int) v1 x1]) (fun _ _ st => st) ?_
      refine GL.seq ?_
      refine GL.region ?_
      refine RL.binI (v := .bool (decide ((i21 : Int) < ((x0).length : Int)))) rfl rfl rfl rfl rfl ?_
      refine RL.finG ?_
      refine GL.seq ?_
      refine GL.cond rfl (fun b29 => ?_) (fun b29 => ?_)
      · have h30 : i21 < (x0).length := by have := of_decide_eq_true b29; omega
        obtain ⟨y31, r33, hr, e32, h34⟩ := drop_cons h28 rfl h30
        subst hr
        obtain ⟨z23, h24, h25⟩ := rangeL_some h26
        unfold slices_Equal_int_int_b1 at h24
        try dsimp only at h24
        refine GL.skip ?_
        refine GL.seq ?_
        refine GL.block ?_
        refine GL.seq ?_
        refine GL.region ?_
        refine RL.mv rfl rfl rfl ?_
        refine RL.asg rfl rfl rfl ?_
        refine RL.finG ?_
        refine GL.seq ?_
        refine GL.regionQ rfl rfl (by kernel_rfl) ?_
        refine RL.mv rfl rfl rfl ?_
        refine RL.mv rfl rfl rfl ?_
        refine RL.idxS (sz := 1) 0 Try.underlying22 Try_ln3 rfl rfl rfl rfl rfl SlOf.imm (by omega) (by omega) ?_
        refine RL.ldSx (i := i21) (e' := y31) 0 Ex.ik Try_ln3 rfl rfl rfl rfl SlOf.imm e32 Part.self ?_
        refine RL.mv rfl rfl rfl ?_
        refine RL.mv rfl rfl rfl ?_
        obtain ⟨y37, e38, h24⟩ := bind_some h24
        refine RL.idxS (sz := 1) 1 Try.underlying22 Try_ln3 rfl rfl rfl rfl rfl SlOf.imm (idx_some e38).1 (idx_some e38).2.1 ?_
        refine RL.ldSx (i := i21) (e' := y37) 1 Ex.ik Try_ln3 rfl rfl rfl rfl SlOf.imm (idx_some e38).2.2 Part.self ?_
        refine RL.binI (v := .bool (y31 != y37)) rfl rfl rfl rfl rfl ?_
        refine RL.finQG ?_
        refine GL.cond rfl (fun b39 => ?_) (fun b39 => ?_)
        · replace h24 := ite_t b39 h24
          refine GL.seq ?_
          refine GL.region ?_
          refine RL.asg rfl rfl rfl ?_
          refine RL.finG ?_
          cases h24
          replace h25 : some (Fl.rt _) = some y14 := h25
          cases h25
          have hh := h19 _ h17
          subst hh
          exact GL.ret (Gx.ret (v := .bool false) (res1 rfl rfl) (fun a w st => st.toPostV))
        · replace h24 := ite_f b39 h24
          refine GL.skip ?_
          refine GL.nilB ?_
          refine GL.region ?_
          refine RL.binI (v := .int .i64 ((i21 + 1 : Nat) : Int)) rfl rfl rfl rfl (binI_succ i21 (by omega)) ?_
          refine RL.mv rfl rfl rfl ?_
          refine RL.fin ?_
          cases h24
          exact fun a w st => lop_intro (i21 + 1, r33) ⟨by show i21 + 1 + r33.length = (x0).length; simp only [List.length_cons] at h27; omega, h34, h25⟩ (by simp) (St.cut [0, 1] ⟨rfl, rfl, rfl, rfl, trivial⟩ (by decide) rfl st)
      · have h30 : ¬ i21 < (x0).length := by have := of_decide_eq_false b29; omega
        obtain rfl : r22 = [] := by rw [← h28]; exact List.drop_of_length_le (by omega)
        replace h26 : some (Fl.nx _) = some y14 := h26
        cases h26
        exact GL.exit (fun a w st => mid_intro () h17 (St.cut [] trivial (by decide) rfl st))
    · rintro ⟨⟩ h40
      have h41 := h18 _ h40
      try dsimp only at h41
      refine GL.weak (env' := []) (L' := []) (fun _ _ st => st) ?_
      refine GL.seq ?_
      refine GL.region ?_
      refine RL.asg rfl rfl rfl ?_
      refine RL.finG ?_
      have h41 := Option.some.inj h41
      subst h41
      exact GL.ret (Gx.ret (v := .bool true) (res1 rfl rfl) (fun a w st => st.toPostV))

set_option maxHeartbeats 4000000 in
theorem order_Far_c (S : Hp) (w : World) (hS : S.sub w) (v0 : Value) (x0 : (List Int)) (k0 : ((TR.sl TR.int)).vrep S v0 x0) (v1 : Value) (x1 : (List Int)) (k1 : ((TR.sl TR.int)).vrep S v1 x1) (res : Int × Int) (hm : order_Far_m x0 x1 = some res) : Calls Try.prog 16 #[v0, v1] w (PostV w (.tuple #[.int .i64 res.1, .int .i64 res.2])) := by
  refine calls_enter 55 Try.func16 Try.ntmps16 rfl S false [(0, v0), (1, v1)] [imm (TR.sl TR.int) v0 x0, imm (TR.sl TR.int) v1 x1] rfl ⟨rfl, ⟨rfl, trivial⟩⟩ hS ⟨k0, ⟨k1, trivial⟩⟩ ?_
  unfold order_Far_m at hm
  refine GL.seq ?_
  refine GL.region ?_
  refine RL.asg rfl rfl rfl ?_
  refine RL.asg rfl rfl rfl ?_
  refine RL.finG ?_
  refine GL.seq ?_
  refine GL.seq ?_
  refine GL.region ?_
  refine RL.mv rfl rfl rfl ?_
  refine RL.lenS 0 Try.underlying22 rfl rfl rfl rfl SlOf.imm ?_
  refine RL.mv rfl rfl rfl ?_
  obtain ⟨y5, e6, hm⟩ := bind_some hm
  refine RL.callV (v := .int .i64 y5) (vs := [.int .i64 ((x0).length : Int), v0]) Try_fit29 rfl (Or.inl rfl) rfl rfl rfl rfl (fun U w hU hW hL => order_Check_c U w hU ((x0).length : Int) _ _ (hL 0 _ _ rfl Seen.imm) _ e6) ?_
  refine RL.asg rfl rfl rfl ?_
  refine RL.finG ?_
  refine GL.seq ?_
  refine GL.region ?_
  refine RL.mv rfl rfl rfl ?_
  refine RL.binI (v := .bool (y5 != (0 : Int))) rfl rfl rfl rfl rfl ?_
  refine RL.finG ?_
  refine GL.cond rfl (fun b7 => ?_) (fun b7 => ?_)
  · replace hm := ite_t b7 hm
    refine GL.seq ?_
    refine GL.region ?_
    refine RL.mv rfl rfl rfl ?_
    refine RL.asg rfl rfl rfl ?_
    refine RL.asg rfl rfl rfl ?_
    refine RL.finG ?_
    have hm := Option.some.inj hm
    subst hm
    exact GL.ret (Gx.ret (v := .tuple #[.int .i64 (0 : Int), .int .i64 y5]) (res2 rfl rfl rfl) (fun a w st => st.toPostV))
  · replace hm := ite_f b7 hm
    refine GL.skip ?_
    refine GL.seq ?_
    refine GL.seq ?_
    refine GL.region ?_
    refine RL.mv rfl rfl rfl ?_
    refine RL.lenS 0 Try.underlying22 rfl rfl rfl rfl SlOf.imm ?_
    refine RL.mv rfl rfl rfl ?_
    obtain ⟨y10, e11, hm⟩ := bind_some hm
    refine RL.callV (v := .int .i64 y10) (vs := [.int .i64 ((x0).length : Int), v1]) Try_fit29 rfl (Or.inl rfl) rfl rfl rfl rfl (fun U w hU hW hL => order_Check_c U w hU ((x0).length : Int) _ _ (hL 1 _ _ rfl Seen.imm) _ e11) ?_
    refine RL.asg rfl rfl rfl ?_
    refine RL.finG ?_
    refine GL.seq ?_
    refine GL.region ?_
    refine RL.mv rfl rfl rfl ?_
    refine RL.binI (v := .bool (y10 != (0 : Int))) rfl rfl rfl rfl rfl ?_
    refine RL.finG ?_
    refine GL.cond rfl (fun b12 => ?_) (fun b12 => ?_)
    · replace hm := ite_t b12 hm
      refine GL.seq ?_
      refine GL.region ?_
      refine RL.mv rfl rfl rfl ?_
      refine RL.asg rfl rfl rfl ?_
      refine RL.asg rfl rfl rfl ?_
      refine RL.finG ?_
      have hm := Option.some.inj hm
      subst hm
      exact GL.ret (Gx.ret (v := .tuple #[.int .i64 (0 : Int), .int .i64 y10]) (res2 rfl rfl rfl) (fun a w st => st.toPostV))
    · replace hm := ite_f b12 hm
      refine GL.skip ?_
      refine GL.seq ?_
      refine GL.region ?_
      refine RL.asg rfl rfl rfl ?_
      refine RL.finG ?_
      refine GL.seq ?_
      refine GL.seq ?_
      refine GL.region ?_
      refine RL.mv rfl rfl rfl ?_
      refine RL.lenS 0 Try.underlying22 rfl rfl rfl rfl SlOf.imm ?_
      refine RL.mv rfl rfl rfl ?_
      refine RL.finG ?_
      refine GL.open_ 0 rfl (fun S h => len_imm S h) (fun n71 => ?_)
      obtain ⟨y72, K73, h74, h75, h76, h77, h78⟩ := bindR_K hm
      refine GL.join (ι := Int) (fun (p : Int) => [(8, .int .i64 p)]) (fun (p : Int) => []) (fun (p : Int) => K73 (.nx p)) ?_ ?_
      · refine GL.block ?_
        refine GL.loop (ι := Nat × (List Int) × Int) (fun (p : Nat × (List Int) × Int) => [(0, v0), (1, v1), (8, .int .i64 p.2.2), (27, v0), (28, .int .i64 ((x0).length : Int)), (29, .int .i64 (p.1 : Int))]) (fun (p : Nat × (List Int) × Int) => [imm (TR.sl TR.int) v0 x0, imm (TR.sl TR.int) v1 x1]) (fun (p : Nat × (List Int) × Int) => p.1 + p.2.1.length = (x0).length ∧ List.drop p.1 x0 = p.2.1 ∧ rangeL (order_Far_b1 x0 x1) p.2.1 p.1 p.2.2 = some y72) (fun (p : Nat × (List Int) × Int) => p.2.1.length) (0, x0, (0 : Int)) ⟨by simp, by simp, h74⟩ (fun a w st => St.cut [0, 1] ⟨rfl, rfl, rfl, rfl, rfl, rfl, trivial⟩ (by decide) rfl st) ?_
        rintro ⟨i79, r80, x13⟩ ⟨h85, h86, h84⟩
        try dsimp only at h85 h86 h84
        refine GL.weak (env' := [(0, v0), (1, v1), (8, .int .i64 x13), (27, v0), (28, .int .i64 ((x0).length : Int)), (29, .int .i64 (i79 : Int))]) (L' := [imm (TR.sl TR.int) v0 x0, imm (TR.sl TR.int) v1 x1]) (fun _ _ st => st) ?_
        refine GL.seq ?_
        refine GL.region ?_
        refine RL.binI (v := .bool (decide ((i79 : Int) < ((x0).length : Int)))) rfl rfl rfl rfl rfl ?_
        refine RL.finG ?_
        refine GL.seq ?_
        refine GL.cond rfl (fun b87 => ?_) (fun b87 => ?_)
        · have h88 : i79 < (x0).length := by have := of_decide_eq_true b87; omega
          obtain ⟨y89, r91, hr, e90, h92⟩ := drop_cons h86 rfl h88
          subst hr
          obtain ⟨z81, h82, h83⟩ := rangeL_some h84
          unfold order_Far_b1 at h82
          try dsimp only at h82
          refine GL.skip ?_
          refine GL.seq ?_
          refine GL.block ?_
          refine GL.seq ?_
          refine GL.region ?_
          refine RL.mv rfl rfl rfl ?_
          refine RL.idxS (sz := 1) 0 Try.underlying22 Try_ln3 rfl rfl rfl rfl rfl SlOf.imm (by omega) (by omega) ?_
          refine RL.ldSx (i := i79) (e' := y89) 0 Ex.ik Try_ln3 rfl rfl rfl rfl SlOf.imm e90 Part.self ?_
          refine RL.asg rfl rfl rfl ?_
          refine RL.asg rfl rfl rfl ?_
          refine RL.finG ?_
          refine GL.seq ?_
          refine GL.region ?_
          refine RL.mv rfl rfl rfl ?_
          refine RL.mv rfl rfl rfl ?_
          refine RL.binI (v := .int .i64 (wadd (i79 : Int) (1 : Int))) rfl rfl rfl rfl rfl ?_
          obtain ⟨y96, e97, h82⟩ := bind_some h82
          replace e97 := chk_some e97
          refine RL.slc (t := TR.int) (i := (wadd (i79 : Int) (1 : Int)).toNat) (j := (x0).length) (sz := 1) 0 Try.underlying22 Try_ln3 rfl rfl rfl rfl (Or.inr ⟨_, _, rfl, by rw [Int.toNat_of_nonneg (by omega)]; rfl⟩) (Or.inl ⟨rfl, rfl⟩) rfl (by omega) (by omega) ?_
          intro v98
          refine RL.lenS 2 Try.underlying22 rfl rfl rfl rfl SlOf.imm ?_
          refine RL.mv rfl rfl rfl ?_
          refine RL.finG ?_
          refine GL.open_ 2 rfl (fun S h => len_imm S h) (fun n113 => ?_)
          obtain ⟨y114, K115, h116, h117, h118, h119, h120⟩ := bindF_K h82
          refine GL.join (ι := Int) (fun (p : Int) => [(0, v0), (1, v1), (8, .int .i64 p), (27, v0), (28, .int .i64 ((x0).length : Int)), (29, .int .i64 (i79 : Int))]) (fun (p : Int) => [imm (TR.sl TR.int) v0 x0, imm (TR.sl TR.int) v1 x1]) (fun (p : Int) => K115 (.nx p)) ?_ ?_
          · refine GL.block ?_
            refine GL.loop (ι := Nat × (List Int) × Int) (fun (p : Nat × (List Int) × Int) => [(0, v0), (1, v1), (8, .int .i64 p.2.2), (10, .int .i64 y89), (27, v0), (28, .int .i64 ((x0).length : Int)), (29, .int .i64 (i79 : Int)), (37, v98), (38, .int .i64 ((((List.take ((x0).length) x0).drop ((wadd (i79 : Int) (1 : Int)).toNat))).length : Int)), (39, .int .i64 (p.1 : Int))]) (fun (p : Nat × (List Int) × Int) => [imm (TR.sl TR.int) v0 x0, imm (TR.sl TR.int) v1 x1, imm (TR.sl TR.int) v98 ((List.take ((x0).length) x0).drop ((wadd (i79 : Int) (1 : Int)).toNat))]) (fun (p : Nat × (List Int) × Int) => p.1 + p.2.1.length = (((List.take ((x0).length) x0).drop ((wadd (i79 : Int) (1 : Int)).toNat))).length ∧ List.drop p.1 ((List.take ((x0).length) x0).drop ((wadd (i79 : Int) (1 : Int)).toNat)) = p.2.1 ∧ rangeL (order_Far_b2 x1 y89) p.2.1 p.1 p.2.2 = some y114) (fun (p : Nat × (List Int) × Int) => p.2.1.length) (0, ((List.take ((x0).length) x0).drop ((wadd (i79 : Int) (1 : Int)).toNat)), x13) ⟨by simp, by simp, h116⟩ (fun a w st => St.cut [0, 1, 2] ⟨rfl, rfl, rfl, rfl, rfl, rfl, rfl, rfl, rfl, rfl, trivial⟩ (by decide) rfl st) ?_
            rintro ⟨i121, r122, x99⟩ ⟨h127, h128, h126⟩
            try dsimp only at h127 h128 h126
            refine GL.weak (env' := [(0, v0), (1, v1), (8, .int .i64 x99), (10, .int .i64 y89), (27, v0), (28, .int .i64 ((x0).length : Int)), (29, .int .i64 (i79 : Int)), (37, v98), (38, .int .i64 ((((List.take ((x0).length) x0).drop ((wadd (i79 : Int) (1 : Int)).toNat))).length : Int)), (39, .int .i64 (i121 : Int))]) (L' := [imm (TR.sl TR.int) v0 x0, imm (TR.sl TR.int) v1 x1, imm (TR.sl TR.int) v98 ((List.take ((x0).length) x0).drop ((wadd (i79 : Int) (1 : Int)).toNat))]) (fun _ _ st => st) ?_
            refine GL.seq ?_
            refine GL.region ?_
            refine RL.binI (v := .bool (decide ((i121 : Int) < ((((List.take ((x0).length) x0).drop ((wadd (i79 : Int) (1 : Int)).toNat))).length : Int)))) rfl rfl rfl rfl rfl ?_
            refine RL.finG ?_
            refine GL.seq ?_
            refine GL.cond rfl (fun b129 => ?_) (fun b129 => ?_)
            · have h130 : i121 < (((List.take ((x0).length) x0).drop ((wadd (i79 : Int) (1 : Int)).toNat))).length := by have := of_decide_eq_true b129; omega
              obtain ⟨y131, r133, hr, e132, h134⟩ := drop_cons h128 rfl h130
              subst hr
              obtain ⟨z123, h124, h125⟩ := rangeL_some h126
              unfold order_Far_b2 at h124
              try dsimp only at h124
              refine GL.skip ?_
              refine GL.seq ?_
              refine GL.block ?_
              refine GL.seq ?_
              refine GL.region ?_
              refine RL.idxS (sz := 1) 2 Try.underlying22 Try_ln3 rfl rfl rfl rfl rfl SlOf.imm (by omega) (by omega) ?_
              refine RL.ldSx (i := i121) (e' := y131) 2 Ex.ik Try_ln3 rfl rfl rfl rfl SlOf.imm e132 Part.self ?_
              refine RL.asg rfl rfl rfl ?_
              refine RL.finG ?_
              refine GL.seq ?_
              refine GL.region ?_
              refine RL.mv rfl rfl rfl ?_
              refine RL.mv rfl rfl rfl ?_
              obtain ⟨y139, e140, h124⟩ := bind_some h124
              refine RL.callC (v := .int .i64 y139) (vs := [v1, .int .i64 y89]) Try_fit33 rfl rfl rfl rfl (fun U w hU hW hL => slices_Index_int_int_c U w hU _ _ (hL 1 _ _ rfl Seen.imm) y89 _ e140) ?_
              refine RL.mv rfl rfl rfl ?_
              refine RL.mv rfl rfl rfl ?_
              obtain ⟨y141, e142, h124⟩ := bind_some h124
              refine RL.callC (v := .int .i64 y141) (vs := [v1, .int .i64 y131]) Try_fit33 rfl rfl rfl rfl (fun U w hU hW hL => slices_Index_int_int_c U w hU _ _ (hL 1 _ _ rfl Seen.imm) y131 _ e142) ?_
              refine RL.binI (v := .bool (decide (y139 > y141))) rfl rfl rfl rfl rfl ?_
              refine RL.finG ?_
              refine GL.cond rfl (fun b143 => ?_) (fun b143 => ?_)
              · replace h124 := ite_t b143 h124
                refine GL.region ?_
                refine RL.mv rfl rfl rfl ?_
                refine RL.binI (v := .int .i64 (wadd x99 (1 : Int))) rfl rfl rfl rfl rfl ?_
                refine RL.asg rfl rfl rfl ?_
                refine RL.finG ?_
                refine GL.nilB ?_
                refine GL.region ?_
                refine RL.binI (v := .int .i64 ((i121 + 1 : Nat) : Int)) rfl rfl rfl rfl (binI_succ i121 (by omega)) ?_
                refine RL.mv rfl rfl rfl ?_
                refine RL.fin ?_
                cases h124
                exact fun a w st => lop_intro (i121 + 1, r133, wadd x99 (1 : Int)) ⟨by show i121 + 1 + r133.length = (((List.take ((x0).length) x0).drop ((wadd (i79 : Int) (1 : Int)).toNat))).length; simp only [List.length_cons] at h127; omega, h134, h125⟩ (by simp) (St.cut [0, 1, 2] ⟨rfl, rfl, rfl, rfl, rfl, rfl, rfl, rfl, rfl, rfl, trivial⟩ (by decide) rfl st)
              · replace h124 := ite_f b143 h124
                refine GL.skip ?_
                refine GL.nilB ?_
                refine GL.region ?_
                refine RL.binI (v := .int .i64 ((i121 + 1 : Nat) : Int)) rfl rfl rfl rfl (binI_succ i121 (by omega)) ?_
                refine RL.mv rfl rfl rfl ?_
                refine RL.fin ?_
                cases h124
                exact fun a w st => lop_intro (i121 + 1, r133, x99) ⟨by show i121 + 1 + r133.length = (((List.take ((x0).length) x0).drop ((wadd (i79 : Int) (1 : Int)).toNat))).length; simp only [List.length_cons] at h127; omega, h134, h125⟩ (by simp) (St.cut [0, 1, 2] ⟨rfl, rfl, rfl, rfl, rfl, rfl, rfl, rfl, rfl, rfl, trivial⟩ (by decide) rfl st)
            · have h130 : ¬ i121 < (((List.take ((x0).length) x0).drop ((wadd (i79 : Int) (1 : Int)).toNat))).length := by have := of_decide_eq_false b129; omega
              obtain rfl : r122 = [] := by rw [← h128]; exact List.drop_of_length_le (by omega)
              replace h126 : some (Fl.nx _) = some y114 := h126
              cases h126
              exact GL.exit (fun a w st => mid_intro x99 h117 (St.cut [0, 1] ⟨rfl, rfl, rfl, rfl, rfl, rfl, trivial⟩ (by decide) rfl st))
          · rintro x99 h144
            have h145 := h118 _ h144
            try dsimp only at h145
            refine GL.weak (env' := [(0, v0), (1, v1), (8, .int .i64 x99), (27, v0), (28, .int .i64 ((x0).length : Int)), (29, .int .i64 (i79 : Int))]) (L' := [imm (TR.sl TR.int) v0 x0, imm (TR.sl TR.int) v1 x1]) (fun _ _ st => st) ?_
            refine GL.nilB ?_
            refine GL.region ?_
            refine RL.binI (v := .int .i64 ((i79 + 1 : Nat) : Int)) rfl rfl rfl rfl (binI_succ i79 (by omega)) ?_
            refine RL.mv rfl rfl rfl ?_
            refine RL.fin ?_
            cases h145
            exact fun a w st => lop_intro (i79 + 1, r91, x99) ⟨by show i79 + 1 + r91.length = (x0).length; simp only [List.length_cons] at h85; omega, h92, h83⟩ (by simp) (St.cut [0, 1] ⟨rfl, rfl, rfl, rfl, rfl, rfl, trivial⟩ (by decide) rfl st)
        · have h88 : ¬ i79 < (x0).length := by have := of_decide_eq_false b87; omega
          obtain rfl : r80 = [] := by rw [← h86]; exact List.drop_of_length_le (by omega)
          replace h84 : some (Fl.nx _) = some y72 := h84
          cases h84
          exact GL.exit (fun a w st => mid_intro x13 h75 (St.cut [] ⟨rfl, trivial⟩ (by decide) rfl st))
      · rintro x13 h146
        have h147 := h76 _ h146
        try dsimp only at h147
        refine GL.weak (env' := [(8, .int .i64 x13)]) (L' := []) (fun _ _ st => st) ?_
        refine GL.seq ?_
        refine GL.region ?_
        refine RL.mv rfl rfl rfl ?_
        refine RL.asg rfl rfl rfl ?_
        refine RL.asg rfl rfl rfl ?_
        refine RL.finG ?_
        have h147 := Option.some.inj h147
        subst h147
        exact GL.ret (Gx.ret (v := .tuple #[.int .i64 x13, .int .i64 (0 : Int)]) (res2 rfl rfl rfl) (fun a w st => st.toPostV))

set_option maxHeartbeats 4000000 in
theorem pk_orders_c (S : Hp) (w : World) (hS : S.sub w)  (res : Bool) (hm : pk_orders_m = some res) : Calls Try.prog 13 #[] w (PostV w (.bool res)) := by
  refine calls_enter 15 Try.func13 Try.ntmps13 rfl S false [] [] rfl trivial hS trivial ?_
  unfold pk_orders_m at hm
  refine GL.seq ?_
  refine GL.region ?_
  refine RL.asg rfl rfl rfl ?_
  refine RL.finG ?_
  refine GL.seq ?_
  refine GL.region ?_
  refine RL.bS (t := TR.int) (vs := [.int .i64 (0 : Int), .int .i64 (1 : Int), .int .i64 (2 : Int)]) ([(0 : Int), (1 : Int), (2 : Int)] : (List Int)) Try.underlying22 Try_lo3 rfl rfl rfl rfl ⟨VR.int, ⟨VR.int, ⟨VR.int, trivial⟩⟩⟩ rfl (by decide) ?_
  intro v5
  refine RL.bS (t := TR.int) (vs := [.int .i64 (2 : Int), .int .i64 (0 : Int), .int .i64 (1 : Int)]) ([(2 : Int), (0 : Int), (1 : Int)] : (List Int)) Try.underlying22 Try_lo3 rfl rfl rfl rfl ⟨VR.int, ⟨VR.int, ⟨VR.int, trivial⟩⟩⟩ rfl (by decide) ?_
  intro v6
  refine RL.reL (L' := [own 3 TR.int v5 ([(0 : Int), (1 : Int), (2 : Int)] : (List Int)), own 3 TR.int v6 ([(2 : Int), (0 : Int), (1 : Int)] : (List Int))]) rfl ?_
  obtain ⟨y7, e8, hm⟩ := bind_some hm
  refine RL.callV (v := .tuple #[.int .i64 y7.1, .int .i64 y7.2]) (vs := [v5, v6]) Try_fit16 rfl (Or.inl rfl) rfl rfl rfl rfl (fun U w hU hW hL => order_Far_c U w hU _ _ (hL 0 _ _ rfl Seen.own) _ _ (hL 1 _ _ rfl Seen.own) _ e8) ?_
  refine RL.mv rfl rfl rfl ?_
  refine RL.ext rfl rfl rfl rfl ?_
  refine RL.ext rfl rfl rfl rfl ?_
  refine RL.asg rfl rfl rfl ?_
  refine RL.asg rfl rfl rfl ?_
  refine RL.finG ?_
  refine GL.seq ?_
  obtain ⟨y12, K13, h14, h15, h16, h17, h18⟩ := bindR_K hm
  refine GL.join (ι := Bool) (fun (p : Bool) => [(0, .bool p)]) (fun (p : Bool) => []) (fun (p : Bool) => K13 (.nx p)) ?_ ?_
  · skip
    refine GL.region ?_
    refine RL.mv rfl rfl rfl ?_
    refine RL.binI (v := .bool (y7.2 == (0 : Int))) rfl rfl rfl rfl rfl ?_
    refine RL.mv rfl rfl rfl ?_
    refine RL.split (t := 11) rfl (fun b19 => ?_) (fun b19 => ?_)
    · replace h14 := ite_t b19 h14
      refine RL.mv rfl rfl rfl ?_
      refine RL.binI (v := .bool (y7.1 == (2 : Int))) rfl rfl rfl rfl rfl ?_
      refine RL.pickT rfl rfl rfl rfl ?_
      refine RL.asg rfl rfl rfl ?_
      refine RL.fin ?_
      cases h14
      exact fun a w st => mid_intro (y7.1 == (2 : Int)) h15 (St.cut [] ⟨rfl, trivial⟩ (by decide) rfl st)
    · replace h14 := ite_f b19 h14
      refine RL.skip rfl rfl ?_
      refine RL.skip rfl rfl ?_
      refine RL.pickF rfl rfl rfl rfl ?_
      refine RL.asg rfl rfl rfl ?_
      refine RL.fin ?_
      cases h14
      exact fun a w st => mid_intro false h15 (St.cut [] ⟨rfl, trivial⟩ (by decide) rfl st)
  · rintro x11 h20
    have h21 := h16 _ h20
    try dsimp only at h21
    refine GL.weak (env' := [(0, .bool x11)]) (L' := []) (fun _ _ st => st) ?_
    have h21 := Option.some.inj h21
    subst h21
    exact GL.ret (Gx.ret (v := .bool x11) (res1 rfl rfl) (fun a w st => st.toPostV))

set_option maxHeartbeats 4000000 in
theorem ref_Rest_c (S : Hp) (w : World) (hS : S.sub w) (x0 : Int) (x1 : Int) (res : Int) (hm : ref_Rest_m x0 x1 = some res) : Calls Try.prog 31 #[.int .i64 x0, .int .i64 x1] w (PostC w (.int .i64 res)) := by
  refine calls_enter 14 Try.func31 Try.ntmps31 rfl S true [(0, .int .i64 x0), (1, .int .i64 x1)] [] rfl ⟨rfl, ⟨rfl, trivial⟩⟩ hS trivial ?_
  unfold ref_Rest_m at hm
  refine GL.seq ?_
  refine GL.region ?_
  refine RL.asg rfl rfl rfl ?_
  refine RL.finG ?_
  refine GL.seq ?_
  refine GL.region ?_
  refine RL.mv rfl rfl rfl ?_
  refine RL.mv rfl rfl rfl ?_
  obtain ⟨y5, e6, hm⟩ := bind_some hm
  replace e6 := chk_some e6
  refine RL.rem rfl rfl rfl rfl e6 ?_
  refine RL.asg rfl rfl rfl ?_
  refine RL.finG ?_
  refine GL.seq ?_
  refine GL.seq ?_
  refine GL.region ?_
  refine RL.mv rfl rfl rfl ?_
  refine RL.binI (v := .bool (decide ((Int.tmod x0 x1) < (0 : Int)))) rfl rfl rfl rfl rfl ?_
  refine RL.finG ?_
  obtain ⟨y9, K10, h11, h12, h13, h14, h15⟩ := bindR_K hm
  refine GL.join (ι := Int) (fun (p : Int) => [(0, .int .i64 p)]) (fun (p : Int) => []) (fun (p : Int) => K10 (.nx p)) ?_ ?_
  · skip
    refine GL.cond rfl (fun b16 => ?_) (fun b16 => ?_)
    · replace h11 := ite_t b16 h11
      refine GL.region ?_
      refine RL.mv rfl rfl rfl ?_
      refine RL.mv rfl rfl rfl ?_
      refine RL.binI (v := .int .i64 (wadd (Int.tmod x0 x1) x1)) rfl rfl rfl rfl rfl ?_
      refine RL.asg rfl rfl rfl ?_
      refine RL.finG ?_
      cases h11
      exact fun a w st => mid_intro (wadd (Int.tmod x0 x1) x1) h12 (St.cut [] ⟨rfl, trivial⟩ (by decide) rfl st)
    · replace h11 := ite_f b16 h11
      refine GL.skip ?_
      cases h11
      exact fun a w st => mid_intro (Int.tmod x0 x1) h12 (St.cut [] ⟨rfl, trivial⟩ (by decide) rfl st)
  · rintro x8 h17
    have h18 := h13 _ h17
    try dsimp only at h18
    refine GL.weak (env' := [(0, .int .i64 x8)]) (L' := []) (fun _ _ st => st) ?_
    refine GL.seq ?_
    refine GL.region ?_
    refine RL.mv rfl rfl rfl ?_
    refine RL.asg rfl rfl rfl ?_
    refine RL.finG ?_
    have h18 := Option.some.inj h18
    subst h18
    exact GL.ret (Gx.ret (v := .int .i64 x8) (res1 rfl rfl) (fun a w st => st.toPostC rfl))

set_option maxHeartbeats 4000000 in
theorem pk_Within_c (S : Hp) (w : World) (hS : S.sub w) (x0 : Int) (x1 : Int) (res : Int) (hm : pk_Within_m x0 x1 = some res) : Calls Try.prog 14 #[.int .i64 x0, .int .i64 x1] w (PostC w (.int .i64 res)) := by
  refine calls_enter 8 Try.func14 Try.ntmps14 rfl S true [(0, .int .i64 x0), (1, .int .i64 x1)] [] rfl ⟨rfl, ⟨rfl, trivial⟩⟩ hS trivial ?_
  unfold pk_Within_m at hm
  refine GL.seq ?_
  refine GL.region ?_
  refine RL.asg rfl rfl rfl ?_
  refine RL.finG ?_
  refine GL.seq ?_
  refine GL.region ?_
  refine RL.mv rfl rfl rfl ?_
  refine RL.mv rfl rfl rfl ?_
  obtain ⟨y5, e6, hm⟩ := bind_some hm
  refine RL.callC (v := .int .i64 y5) (vs := [.int .i64 x0, .int .i64 x1]) Try_fit31 rfl rfl rfl rfl (fun U w hU hW hL => ref_Rest_c U w hU x0 x1 _ e6) ?_
  refine RL.asg rfl rfl rfl ?_
  refine RL.finG ?_
  have hm := Option.some.inj hm
  subst hm
  exact GL.ret (Gx.ret (v := .int .i64 y5) (res1 rfl rfl) (fun a w st => st.toPostC rfl))

set_option maxHeartbeats 4000000 in
theorem ref_Sides_c (S : Hp) (w : World) (hS : S.sub w) (x0 : Int) (res : (List Int)) (hm : ref_Sides_m x0 = some res) : Calls Try.prog 32 #[.int .i64 x0] w (Post w S (fun (o : Value) => o) (fun (o : Value) => [own 3 TR.int o res])) := by
  refine calls_enter 15 Try.func32 Try.ntmps32 rfl S false [(0, .int .i64 x0)] [] rfl ⟨rfl, trivial⟩ hS trivial ?_
  unfold ref_Sides_m at hm
  refine GL.seq ?_
  refine GL.region ?_
  refine RL.asg rfl rfl rfl ?_
  refine RL.finG ?_
  refine GL.seq ?_
  refine GL.region ?_
  refine RL.asg rfl rfl rfl ?_
  refine RL.finG ?_
  refine GL.seq ?_
  refine GL.seq ?_
  refine GL.region ?_
  refine RL.mv rfl rfl rfl ?_
  refine RL.mv rfl rfl rfl ?_
  refine RL.finG ?_
  refine GL.weak (fun a w st => st.nilOwn 3 TR.int) ?_
  obtain ⟨y13, e14, hm⟩ := bind_some hm
  replace e14 := chk_some e14
  obtain ⟨y15, K16, h17, h18, h19, h20, h21⟩ := bindR_K hm
  refine GL.join (ι := (List Int) × Value) (fun (p : (List Int) × Value) => [(3, p.2)]) (fun (p : (List Int) × Value) => [own 3 TR.int p.2 p.1]) (fun (p : (List Int) × Value) => K16 (.nx p.1)) ?_ ?_
  · refine GL.block ?_
    refine GL.loop (ι := Nat × Nat × (List Int) × Value) (fun (p : Nat × Nat × (List Int) × Value) => [(3, p.2.2.2), (5, .int .i64 x0), (6, .int .i64 (p.1 : Int))]) (fun (p : Nat × Nat × (List Int) × Value) => [own 3 TR.int p.2.2.2 p.2.2.1]) (fun (p : Nat × Nat × (List Int) × Value) => p.1 + p.2.1 = (x0).toNat ∧ rangeN ref_Sides_b1 p.2.1 p.1 p.2.2.1 = some y15) (fun (p : Nat × Nat × (List Int) × Value) => p.2.1) (0, (x0).toNat, [], Value.slice none 0 0) ⟨by simp, h17⟩ (fun a w st => St.cut [0] ⟨rfl, rfl, rfl, trivial⟩ (by decide) rfl st) ?_
    rintro ⟨i22, r23, l2, v3⟩ ⟨h28, h27⟩
    try dsimp only at h28 h27
    refine GL.weak (env' := [(3, v3), (5, .int .i64 x0), (6, .int .i64 (i22 : Int))]) (L' := [own 3 TR.int v3 l2]) (fun _ _ st => st) ?_
    refine GL.seq ?_
    refine GL.region ?_
    refine RL.binI (v := .bool (decide ((i22 : Int) < x0))) rfl rfl rfl rfl rfl ?_
    refine RL.finG ?_
    refine GL.seq ?_
    refine GL.cond rfl (fun b30 => ?_) (fun b30 => ?_)
    · have h31 : i22 < (x0).toNat := by have := of_decide_eq_true b30; omega
      obtain ⟨r32, hr⟩ : ∃ m, r23 = m + 1 := ⟨r23 - 1, by omega⟩
      subst hr
      obtain ⟨z24, h25, h26⟩ := rangeN_some h27
      unfold ref_Sides_b1 at h25
      try dsimp only at h25
      refine GL.skip ?_
      refine GL.seq ?_
      refine GL.block ?_
      refine GL.seq ?_
      refine GL.region ?_
      refine RL.mv rfl rfl rfl ?_
      refine RL.asg rfl rfl rfl ?_
      refine RL.finG ?_
      refine GL.region ?_
      refine RL.mv rfl rfl rfl ?_
      refine RL.mv rfl rfl rfl ?_
      refine RL.bS (t := TR.int) (vs := [.int .i64 (i22 : Int)]) ([(i22 : Int)] : (List Int)) Try.underlying22 Try_lo3 rfl rfl rfl rfl ⟨VR.int, trivial⟩ rfl (by decide) ?_
      intro v37
      obtain ⟨y38, e39, h25⟩ := bind_some h25
      replace e39 := chk_some e39
      refine RL.app 0 1 Try.underlying22 Try_lo3 rfl rfl rfl rfl rfl rfl rfl SlOf.own e39 ?_
      intro v40
      refine RL.reL (L' := [own 3 TR.int v40 (l2 ++ ([(i22 : Int)] : (List Int))), own 3 TR.int v37 ([(i22 : Int)] : (List Int))]) rfl ?_
      refine RL.asg rfl rfl rfl ?_
      refine RL.finG ?_
      refine GL.nilB ?_
      refine GL.region ?_
      refine RL.binI (v := .int .i64 ((i22 + 1 : Nat) : Int)) rfl rfl rfl rfl (binI_succ i22 (by omega)) ?_
      refine RL.mv rfl rfl rfl ?_
      refine RL.fin ?_
      cases h25
      exact fun a w st => lop_intro (i22 + 1, r32, (l2 ++ ([(i22 : Int)] : (List Int))), v40) ⟨by show i22 + 1 + r32 = (x0).toNat; omega, h26⟩ (by simp) (St.cut [0] ⟨rfl, rfl, rfl, trivial⟩ (by decide) rfl st)
    · have h31 : ¬ i22 < (x0).toNat := by have := of_decide_eq_false b30; omega
      obtain rfl : r23 = 0 := by omega
      replace h27 : some (Fl.nx _) = some y15 := h27
      cases h27
      exact GL.exit (fun a w st => mid_intro (l2, v3) h18 (St.cut [0] ⟨rfl, trivial⟩ (by decide) rfl st))
  · rintro ⟨l2, v3⟩ h41
    have h42 := h19 _ h41
    try dsimp only at h42
    refine GL.weak (env' := [(3, v3)]) (L' := [own 3 TR.int v3 l2]) (fun _ _ st => st) ?_
    refine GL.seq ?_
    refine GL.region ?_
    refine RL.mv rfl rfl rfl ?_
    refine RL.asg rfl rfl rfl ?_
    refine RL.finG ?_
    have h42 := Option.some.inj h42
    subst h42
    exact GL.ret (Gx.ret (v := v3) (res1 rfl rfl) (fun a w st => (st.pick [0] (by decide) rfl).toPost v3))

set_option maxHeartbeats 4000000 in
theorem slices_Delete_int_int_c (B : World) (S X : Hp) (f : Nat → Hp) (w : World) (v0 : Value) (x0 : List Int) (hO : HeapOk B.heap.size S f [own 3 TR.int v0 x0, keep X].length w) (hB : Below B.heap.size B w) (hI : Its [own 3 TR.int v0 x0, keep X] S f) (x1 x2 : Int) (res : List Int) (hm : slices_Delete_int_int_m x0 x1 x2 = some res) : Calls Try.prog 27 #[v0, .int .i64 x1, .int .i64 x2] w (PostM B S (fun (o : Value) => o) (fun (o : Value) => [own 3 TR.int o res, keep X])) := by
  refine calls_enterM 33 Try.func27 Try.ntmps27 rfl B S f [(0, v0), (1, .int .i64 x1), (2, .int .i64 x2)] [own 3 TR.int v0 x0, keep X] [] rfl ⟨rfl, rfl, rfl, trivial⟩ hB hO hI trivial ?_
  unfold slices_Delete_int_int_m at hm
  obtain ⟨_, hc, hm⟩ := bind_some hm
  replace hc := chk_some hc
  have hm := Option.some.inj hm
  subst hm
  obtain ⟨i, rfl⟩ : ∃ i : Nat, x1 = (i : Int) := ⟨x1.toNat, by omega⟩
  obtain ⟨j, rfl⟩ : ∃ j : Nat, x2 = (j : Int) := ⟨x2.toNat, by omega⟩
  simp only [Int.toNat_natCast]
  refine GL.capO 0 rfl (fun hcap hmax hrl hcr => ?_)
  repeat refine GL.seq ?_
  refine GL.region ?_
  refine RL.asg rfl rfl rfl ?_
  refine RL.finG ?_
  repeat refine GL.seq ?_
  refine GL.region ?_
  refine RL.mv rfl rfl rfl ?_
  refine RL.mv rfl rfl rfl ?_
  refine RL.mv rfl rfl rfl ?_
  refine RL.mv rfl rfl rfl ?_
  refine RL.lenS 0 Try.underlying22 rfl rfl rfl rfl SlOf.own ?_
  refine RL.cut3 (i := i) (j := j) (m := x0.length) 0 Try.underlying22 Try_ln3 rfl rfl rfl rfl rfl rfl rfl (by omega) (by omega) (by omega) ?_
  intro u
  refine RL.finG ?_
  repeat refine GL.seq ?_
  refine GL.region ?_
  refine RL.mv rfl rfl rfl ?_
  refine RL.mv rfl rfl rfl ?_
  refine RL.binI (v := .bool ((i : Int) == (j : Int))) rfl rfl rfl rfl rfl ?_
  refine RL.finG ?_
  repeat refine GL.seq ?_
  refine GL.cond rfl (fun h => ?_) (fun h => ?_)
  · have hij : i = j := by have := of_decide_eq_true (p := (i : Int) = (j : Int)) (by simpa using h); omega
    subst hij
    repeat refine GL.seq ?_
    refine GL.region ?_
    refine RL.mv rfl rfl rfl ?_
    refine RL.asg rfl rfl rfl ?_
    refine RL.finG ?_
    have hx : x0.take i ++ x0.drop i = x0 := List.take_append_drop _ _
    rw [hx]
    exact GL.ret (Gx.ret (v := v0) (res1 rfl rfl) (fun a w st => (st.pick [0, 1] (by decide) rfl).toPostM (LR := fun (o : Value) => [own 3 TR.int o x0, keep X]) v0))
  · have hij : i ≠ j := fun e => by subst e; simp at h
    have hll : (x0.take i ++ x0.drop j).length = i + (x0.length - j) := by rw [List.length_append, List.length_take, List.length_drop]; omega
    refine GL.skip ?_
    repeat refine GL.seq ?_
    refine GL.region ?_
    refine RL.mv rfl rfl rfl ?_
    refine RL.lenS 0 Try.underlying22 rfl rfl rfl rfl SlOf.own ?_
    refine RL.asg rfl rfl rfl ?_
    refine RL.finG ?_
    repeat refine GL.seq ?_
    refine GL.regionH 6 rfl rfl (by kernel_rfl) ?_
    simp only [List.take_succ_cons, List.take_zero, List.drop_succ_cons, List.drop_zero]
    refine RL.mv rfl rfl rfl ?_
    refine RL.mv rfl rfl rfl ?_
    refine RL.cutO (i := 0) (j := i) 0 Try.underlying22 Try_ln3 rfl rfl rfl (Or.inl ⟨rfl, rfl⟩) (Or.inr ⟨_, _, rfl, rfl⟩) rfl (by omega) (by show i ≤ capv v0; omega) ?_
    refine RL.mv rfl rfl rfl ?_
    refine RL.mv rfl rfl rfl ?_
    refine RL.cutO (i := j) (j := x0.length) 0 Try.underlying22 Try_ln3 rfl rfl rfl (Or.inr ⟨_, _, rfl, rfl⟩) (Or.inl ⟨rfl, rfl⟩) rfl (by omega) hcap ?_
    refine RL.finH ?_
    refine RL.del (i := i) (j := j) 0 Try.underlying22 Try_lo3 rfl rfl rfl rfl rfl rfl (by omega) (by omega) ?_
    refine RL.asg rfl rfl rfl ?_
    refine RL.finG ?_
    repeat refine GL.seq ?_
    refine GL.region ?_
    refine RL.mv rfl rfl rfl ?_
    refine RL.mv rfl rfl rfl ?_
    refine RL.lenS 0 Try.underlying22 rfl rfl rfl rfl SlOf.own ?_
    refine RL.mv rfl rfl rfl ?_
    refine RL.cutO (i := (x0.take i ++ x0.drop j).length) (j := x0.length) 0 Try.underlying22 Try_ln3 rfl rfl rfl (Or.inr ⟨_, _, rfl, rfl⟩) (Or.inr ⟨_, _, rfl, rfl⟩) rfl (by omega) (by rw [hcr]; exact hcap) ?_
    refine RL.clr (j := x0.length) 0 Try.underlying22 Try_lo3 (by decide) rfl rfl rfl rfl (by omega) (by rw [hcr]; exact hcap) ?_
    refine RL.finG ?_
    repeat refine GL.seq ?_
    refine GL.region ?_
    refine RL.mv rfl rfl rfl ?_
    refine RL.asg rfl rfl rfl ?_
    refine RL.finG ?_
    exact GL.ret (Gx.ret (v := relen v0 (i + (x0.length - j))) (res1 rfl rfl) (fun a w st => (st.pick [0, 1] (by decide) rfl).toPostM (LR := fun (o : Value) => [own 3 TR.int o (x0.take i ++ x0.drop j), keep X]) (relen v0 (i + (x0.length - j)))))

set_option maxHeartbeats 4000000 in
theorem pk_OrderOf_c (S : Hp) (w : World) (hS : S.sub w) (x0 : Int) (v1 : Value) (x1 : (List Int)) (k1 : ((TR.sl TR.int)).vrep S v1 x1) (res : (List Int)) (hm : pk_OrderOf_m x0 x1 = some res) : Calls Try.prog 15 #[.int .i64 x0, v1] w (Post w S (fun (o : Value) => o) (fun (o : Value) => [own 3 TR.int o res])) := by
  refine calls_enter 40 Try.func15 Try.ntmps15 rfl S false [(0, .int .i64 x0), (1, v1)] [imm (TR.sl TR.int) v1 x1] rfl ⟨rfl, ⟨rfl, trivial⟩⟩ hS ⟨k1, trivial⟩ ?_
  unfold pk_OrderOf_m at hm
  refine GL.seq ?_
  refine GL.region ?_
  refine RL.asg rfl rfl rfl ?_
  refine RL.finG ?_
  refine GL.seq ?_
  refine GL.region ?_
  refine RL.mv rfl rfl rfl ?_
  obtain ⟨y6, e7, hm⟩ := bind_some hm
  refine RL.call (vs := [.int .i64 x0]) Try_fit32 rfl rfl rfl rfl rfl (fun S f w hS hW hi => ref_Sides_c S w hS x0 _ e7) ?_
  intro v8
  refine RL.asg rfl rfl rfl ?_
  refine RL.finG ?_
  refine GL.seq ?_
  refine GL.region ?_
  refine RL.asg rfl rfl rfl ?_
  refine RL.finG ?_
  refine GL.seq ?_
  refine GL.seq ?_
  refine GL.region ?_
  refine RL.mv rfl rfl rfl ?_
  refine RL.mv rfl rfl rfl ?_
  refine RL.finG ?_
  refine GL.weak (fun a w st => st.nilOwn 3 TR.int) ?_
  obtain ⟨y60, e61, hm⟩ := bind_some hm
  replace e61 := chk_some e61
  obtain ⟨y62, K63, h64, h65, h66, h67, h68⟩ := bindR_K hm
  refine GL.join (ι := (List Int) × (List Int) × Value) (fun (p : (List Int) × (List Int) × Value) => [(6, p.2.2)]) (fun (p : (List Int) × (List Int) × Value) => [own 3 TR.int p.2.2 p.2.1]) (fun (p : (List Int) × (List Int) × Value) => K63 (.nx (p.1, p.2.1))) ?_ ?_
  · refine GL.block ?_
    refine GL.loop (ι := Nat × Nat × (List Int) × (List Int) × Value × Value) (fun (p : Nat × Nat × (List Int) × (List Int) × Value × Value) => [(1, v1), (5, p.2.2.2.2.1), (6, p.2.2.2.2.2), (11, .int .i64 x0), (12, .int .i64 (p.1 : Int))]) (fun (p : Nat × Nat × (List Int) × (List Int) × Value × Value) => [imm (TR.sl TR.int) v1 x1, own 3 TR.int p.2.2.2.2.1 p.2.2.1, own 3 TR.int p.2.2.2.2.2 p.2.2.2.1]) (fun (p : Nat × Nat × (List Int) × (List Int) × Value × Value) => p.1 + p.2.1 = (x0).toNat ∧ rangeN (pk_OrderOf_b1 x1) p.2.1 p.1 (p.2.2.1, p.2.2.2.1) = some y62) (fun (p : Nat × Nat × (List Int) × (List Int) × Value × Value) => p.2.1) (0, (x0).toNat, y6, [], v8, Value.slice none 0 0) ⟨by simp, h64⟩ (fun a w st => St.cut [0, 1, 2] ⟨rfl, rfl, rfl, rfl, rfl, trivial⟩ (by decide) rfl st) ?_
    rintro ⟨i69, r70, l9, l11, v10, v12⟩ ⟨h75, h74⟩
    try dsimp only at h75 h74
    refine GL.weak (env' := [(1, v1), (5, v10), (6, v12), (11, .int .i64 x0), (12, .int .i64 (i69 : Int))]) (L' := [imm (TR.sl TR.int) v1 x1, own 3 TR.int v10 l9, own 3 TR.int v12 l11]) (fun _ _ st => st) ?_
    refine GL.seq ?_
    refine GL.region ?_
    refine RL.binI (v := .bool (decide ((i69 : Int) < x0))) rfl rfl rfl rfl rfl ?_
    refine RL.finG ?_
    refine GL.seq ?_
    refine GL.cond rfl (fun b77 => ?_) (fun b77 => ?_)
    · have h78 : i69 < (x0).toNat := by have := of_decide_eq_true b77; omega
      obtain ⟨r79, hr⟩ : ∃ m, r70 = m + 1 := ⟨r70 - 1, by omega⟩
      subst hr
      obtain ⟨z71, h72, h73⟩ := rangeN_some h74
      unfold pk_OrderOf_b1 at h72
      try dsimp only at h72
      refine GL.skip ?_
      refine GL.seq ?_
      refine GL.block ?_
      refine GL.seq ?_
      refine GL.region ?_
      refine RL.mv rfl rfl rfl ?_
      refine RL.asg rfl rfl rfl ?_
      refine RL.finG ?_
      refine GL.seq ?_
      refine GL.region ?_
      refine RL.asg rfl rfl rfl ?_
      refine RL.finG ?_
      refine GL.seq ?_
      refine GL.seq ?_
      refine GL.region ?_
      refine RL.mv rfl rfl rfl ?_
      refine RL.mv rfl rfl rfl ?_
      refine RL.lenS 0 Try.underlying22 rfl rfl rfl rfl SlOf.imm ?_
      refine RL.binI (v := .bool (decide ((i69 : Int) < ((x1).length : Int)))) rfl rfl rfl rfl rfl ?_
      refine RL.finG ?_
      obtain ⟨y90, K91, h92, h93, h94, h95, h96⟩ := bindF_K h72
      refine GL.join (ι := Int) (fun (p : Int) => [(1, v1), (5, v10), (6, v12), (8, .int .i64 p), (11, .int .i64 x0), (12, .int .i64 (i69 : Int))]) (fun (p : Int) => [imm (TR.sl TR.int) v1 x1, own 3 TR.int v10 l9, own 3 TR.int v12 l11]) (fun (p : Int) => K91 (.nx p)) ?_ ?_
      · skip
        refine GL.cond rfl (fun b97 => ?_) (fun b97 => ?_)
        · replace h92 := ite_t b97 h92
          refine GL.region ?_
          refine RL.mv rfl rfl rfl ?_
          refine RL.mv rfl rfl rfl ?_
          obtain ⟨y102, e103, h92⟩ := bind_some h92
          refine RL.idxS (sz := 1) 0 Try.underlying22 Try_ln3 rfl rfl rfl rfl rfl SlOf.imm (idx_some e103).1 (idx_some e103).2.1 ?_
          refine RL.ldSx (i := i69) (e' := y102) 0 Ex.ik Try_ln3 rfl rfl rfl rfl SlOf.imm (idx_some e103).2.2 Part.self ?_
          refine RL.mv rfl rfl rfl ?_
          refine RL.lenS 1 Try.underlying22 rfl rfl rfl rfl SlOf.own ?_
          obtain ⟨y104, e105, h92⟩ := bind_some h92
          refine RL.callC (v := .int .i64 y104) (vs := [.int .i64 y102, .int .i64 ((l9).length : Int)]) Try_fit14 rfl rfl rfl rfl (fun U w hU hW hL => pk_Within_c U w hU y102 ((l9).length : Int) _ e105) ?_
          refine RL.asg rfl rfl rfl ?_
          refine RL.finG ?_
          cases h92
          exact fun a w st => mid_intro y104 h93 (St.cut [0, 1, 2] ⟨rfl, rfl, rfl, rfl, rfl, rfl, trivial⟩ (by decide) rfl st)
        · replace h92 := ite_f b97 h92
          refine GL.skip ?_
          cases h92
          exact fun a w st => mid_intro (0 : Int) h93 (St.cut [0, 1, 2] ⟨rfl, rfl, rfl, rfl, rfl, rfl, trivial⟩ (by decide) rfl st)
      · rintro x89 h106
        have h107 := h94 _ h106
        try dsimp only at h107
        refine GL.weak (env' := [(1, v1), (5, v10), (6, v12), (8, .int .i64 x89), (11, .int .i64 x0), (12, .int .i64 (i69 : Int))]) (L' := [imm (TR.sl TR.int) v1 x1, own 3 TR.int v10 l9, own 3 TR.int v12 l11]) (fun _ _ st => st) ?_
        refine GL.seq ?_
        refine GL.region ?_
        refine RL.mv rfl rfl rfl ?_
        refine RL.mv rfl rfl rfl ?_
        refine RL.mv rfl rfl rfl ?_
        obtain ⟨y114, e115, h107⟩ := bind_some h107
        refine RL.idxS (sz := 1) 1 Try.underlying22 Try_ln3 rfl rfl rfl rfl rfl SlOf.own (idx_some e115).1 (idx_some e115).2.1 ?_
        refine RL.ldSx (i := (x89).toNat) (e' := y114) 1 Ex.ik Try_ln3 rfl rfl rfl rfl SlOf.own (idx_some e115).2.2 Part.self ?_
        refine RL.bS (t := TR.int) (vs := [.int .i64 y114]) ([y114] : (List Int)) Try.underlying22 Try_lo3 rfl rfl rfl rfl ⟨VR.int, trivial⟩ rfl (by decide) ?_
        intro v116
        obtain ⟨y117, e118, h107⟩ := bind_some h107
        replace e118 := chk_some e118
        refine RL.app 2 3 Try.underlying22 Try_lo3 rfl rfl rfl rfl rfl rfl rfl SlOf.own e118 ?_
        intro v119
        refine RL.reL (L' := [imm (TR.sl TR.int) v1 x1, own 3 TR.int v10 l9, own 3 TR.int v119 (l11 ++ ([y114] : (List Int))), own 3 TR.int v116 ([y114] : (List Int))]) rfl ?_
        refine RL.asg rfl rfl rfl ?_
        refine RL.finG ?_
        refine GL.region ?_
        refine RL.mv rfl rfl rfl ?_
        refine RL.mv rfl rfl rfl ?_
        refine RL.mv rfl rfl rfl ?_
        refine RL.binI (v := .int .i64 (wadd x89 (1 : Int))) rfl rfl rfl rfl rfl ?_
        obtain ⟨y123, e124, h107⟩ := bind_some h107
        refine RL.callK (vs := [v10, .int .i64 x89, .int .i64 (wadd x89 (1 : Int))]) (V := fun (o : Value) => o) (LR := fun (o : Value) => [own 3 TR.int o y123]) (Ls := [own 3 TR.int v10 l9]) [1] (by decide) Try_fit27 rfl rfl rfl rfl rfl rfl (fun S f X w hO hB hW hI hL => slices_Delete_int_int_c _ S X f w _ _ hO hB hI x89 (wadd x89 (1 : Int)) _ e124) ?_
        intro v125
        refine RL.reL (L' := [imm (TR.sl TR.int) v1 x1, gone, own 3 TR.int v119 (l11 ++ ([y114] : (List Int))), own 3 TR.int v116 ([y114] : (List Int)), own 3 TR.int v125 y123]) rfl ?_
        refine RL.asg rfl rfl rfl ?_
        refine RL.finG ?_
        refine GL.nilB ?_
        refine GL.region ?_
        refine RL.binI (v := .int .i64 ((i69 + 1 : Nat) : Int)) rfl rfl rfl rfl (binI_succ i69 (by omega)) ?_
        refine RL.mv rfl rfl rfl ?_
        refine RL.fin ?_
        cases h107
        exact fun a w st => lop_intro (i69 + 1, r79, y123, (l11 ++ ([y114] : (List Int))), v125, v119) ⟨by show i69 + 1 + r79 = (x0).toNat; omega, h73⟩ (by simp) (St.cut [0, 4, 2] ⟨rfl, rfl, rfl, rfl, rfl, trivial⟩ (by decide) rfl st)
    · have h78 : ¬ i69 < (x0).toNat := by have := of_decide_eq_false b77; omega
      obtain rfl : r70 = 0 := by omega
      replace h74 : some (Fl.nx _) = some y62 := h74
      cases h74
      exact GL.exit (fun a w st => mid_intro (l9, l11, v12) h65 (St.cut [2] ⟨rfl, trivial⟩ (by decide) rfl st))
  · rintro ⟨l9, l11, v12⟩ h126
    have h127 := h66 _ h126
    try dsimp only at h127
    refine GL.weak (env' := [(6, v12)]) (L' := [own 3 TR.int v12 l11]) (fun _ _ st => st) ?_
    refine GL.seq ?_
    refine GL.region ?_
    refine RL.mv rfl rfl rfl ?_
    refine RL.asg rfl rfl rfl ?_
    refine RL.finG ?_
    have h127 := Option.some.inj h127
    subst h127
    exact GL.ret (Gx.ret (v := v12) (res1 rfl rfl) (fun a w st => (st.pick [0] (by decide) rfl).toPost v12))

set_option maxHeartbeats 4000000 in
theorem slices_Reverse_int_int_c (B : World) (S X : Hp) (f : Nat → Hp) (w : World) (v0 : Value) (x0 : (List Int)) (hO : HeapOk B.heap.size S f [own 3 TR.int v0 x0, keep X].length w) (hB : Below B.heap.size B w) (hI : Its [own 3 TR.int v0 x0, keep X] S f)  (res : (List Int)) (hm : slices_Reverse_int_int_m x0 = some res) : Calls Try.prog 25 #[v0] w (PostM B S (fun (o : Unit) => .tuple #[]) (fun (o : Unit) => [own 3 TR.int v0 res, keep X])) := by
  refine calls_enterM 28 Try.func25 Try.ntmps25 rfl B S f [(0, v0)] [own 3 TR.int v0 x0, keep X] [] rfl ⟨rfl, trivial⟩ hB hO hI trivial ?_
  unfold slices_Reverse_int_int_m at hm
  refine GL.seq ?_
  refine GL.region ?_
  refine RL.mv rfl rfl rfl ?_
  refine RL.lenS 0 Try.underlying22 rfl rfl rfl rfl SlOf.own ?_
  refine RL.binI (v := .int .i64 (wsub ((x0).length : Int) (1 : Int))) rfl rfl rfl rfl rfl ?_
  refine RL.asg rfl rfl rfl ?_
  refine RL.asg rfl rfl rfl ?_
  refine RL.finG ?_
  obtain ⟨y41, K42, h43, h44, h45, h46, h47⟩ := bindR_K hm
  refine GL.join (ι := (List Int) × Int × Int) (fun (p : (List Int) × Int × Int) => []) (fun (p : (List Int) × Int × Int) => [own 3 TR.int v0 p.1, keep X]) (fun (p : (List Int) × Int × Int) => K42 (.nx (p.1, p.2.1, p.2.2))) ?_ ?_
  · refine GL.block ?_
    refine GL.loop (ι := Nat × (List Int) × Int × Int) (fun (p : Nat × (List Int) × Int × Int) => [(0, v0), (2, .int .i64 p.2.2.1), (3, .int .i64 p.2.2.2)]) (fun (p : Nat × (List Int) × Int × Int) => [own 3 TR.int v0 p.2.1, keep X]) (fun (p : Nat × (List Int) × Int × Int) => loopM slices_Reverse_int_int_b1 p.1 (p.2.1, p.2.2.1, p.2.2.2) = some y41) (fun (p : Nat × (List Int) × Int × Int) => p.1) (1048576, x0, (0 : Int), wsub ((x0).length : Int) (1 : Int)) h43 (fun a w st => St.cut [0, 1] ⟨rfl, rfl, rfl, trivial⟩ (by decide) rfl st) ?_
    rintro ⟨r49, l21, x22, x23⟩ h53
    try dsimp only at h53
    refine GL.weak (env' := [(0, v0), (2, .int .i64 x22), (3, .int .i64 x23)]) (L' := [own 3 TR.int v0 l21, keep X]) (fun _ _ st => st) ?_
    obtain ⟨r56, z50, hr, h51, h52⟩ := loopM_some h53
    subst hr
    unfold slices_Reverse_int_int_b1 at h51
    try dsimp only at h51
    refine GL.seq ?_
    refine GL.seq ?_
    refine GL.region ?_
    refine RL.mv rfl rfl rfl ?_
    refine RL.mv rfl rfl rfl ?_
    refine RL.binI (v := .bool (decide (x22 < x23))) rfl rfl rfl rfl rfl ?_
    refine RL.finG ?_
    refine GL.cond rfl (fun b57 => ?_) (fun b57 => ?_)
    · replace h51 := ite_t b57 h51
      refine GL.skip ?_
      refine GL.seq ?_
      refine GL.block ?_
      refine GL.regionA rfl rfl ?_
      refine RA.mv 0 rfl (by kernel_rfl) rfl rfl rfl ?_
      refine RA.mv 1 rfl (by kernel_rfl) rfl rfl rfl ?_
      refine RA.mv 2 rfl (by kernel_rfl) rfl rfl rfl ?_
      refine RA.mv 3 rfl (by kernel_rfl) rfl rfl rfl ?_
      refine RA.mv 4 rfl (by kernel_rfl) rfl rfl rfl ?_
      refine RA.mv 5 rfl (by kernel_rfl) rfl rfl rfl ?_
      obtain ⟨y66, e67, h51⟩ := bind_some h51
      refine RA.idxS (sz := 1) 0 Try.underlying22 Try_ln3 6 rfl (by kernel_rfl) rfl rfl rfl rfl rfl SlOf.own (idx_some e67).1 (idx_some e67).2.1 ?_
      refine RA.mv 8 rfl (by kernel_rfl) rfl rfl rfl ?_
      refine RA.mv 9 rfl (by kernel_rfl) rfl rfl rfl ?_
      obtain ⟨y68, e69, h51⟩ := bind_some h51
      refine RA.idxS (sz := 1) 0 Try.underlying22 Try_ln3 10 rfl (by kernel_rfl) rfl rfl rfl rfl rfl SlOf.own (idx_some e69).1 (idx_some e69).2.1 ?_
      refine RA.still (le := #[true, true, true, true, true, true, true, true, true, true, true, true, true, false, false, false]) (f := 3) [7, 11, 12] 13 rfl (by kernel_rfl) ?_
      simp only [pickOps, List.getElem?_toArray, List.getElem?_cons_succ, List.getElem?_cons_zero]
      refine RL.ldSx (i := (x23).toNat) (e' := y66) 0 Ex.ik Try_ln3 rfl rfl rfl rfl SlOf.own (idx_some e67).2.2 Part.self ?_
      refine RL.ldSx (i := (x22).toNat) (e' := y68) 0 Ex.ik Try_ln3 rfl rfl rfl rfl SlOf.own (idx_some e69).2.2 Part.self ?_
      obtain ⟨y70, e71, h51⟩ := bind_some h51
      refine RL.idxS (sz := 1) 0 Try.underlying22 Try_ln3 rfl rfl rfl rfl rfl SlOf.own (idx_some e71).1 (idx_some e71).2.1 ?_
      refine RL.finH ?_
      refine RL.fin ?_
      refine RA.next ?_
      refine RA.seq 13 rfl (by kernel_rfl) ?_
      refine RL.stS (i := (x22).toNat) (e' := y66) (e1 := y66) (r := TR.int) 0 Try_ln3 rfl rfl rfl rfl VR.int rfl (idx_some e71).2.2 Upd.self ?_
      refine RL.fin ?_
      refine RA.next ?_
      obtain ⟨y72, e73, h51⟩ := bind_some h51
      refine RA.idxS (sz := 1) 0 Try.underlying22 Try_ln3 14 rfl (by kernel_rfl) rfl rfl rfl rfl rfl SlOf.own (idx_some e73).1 (idx_some e73).2.1 ?_
      refine RA.seq 15 rfl (by kernel_rfl) ?_
      refine RL.stS (i := (x23).toNat) (e' := y68) (e1 := y68) (r := TR.int) 0 Try_ln3 rfl rfl rfl rfl VR.int rfl (idx_some e73).2.2 Upd.self ?_
      refine RL.fin ?_
      refine RA.next ?_
      refine RA.doneG (by kernel_rfl) ?_
      refine GL.weak (env' := [(0, v0), (2, .int .i64 x22), (3, .int .i64 x23)]) (L' := [own 3 TR.int v0 (List.set (List.set l21 ((x22).toNat) y66) ((x23).toNat) y68), keep X]) (fun a w st => St.cut [0, 1] ⟨rfl, rfl, rfl, trivial⟩ (by decide) rfl st) ?_
      refine GL.nilB ?_
      refine GL.region ?_
      refine RL.mv rfl rfl rfl ?_
      refine RL.binI (v := .int .i64 (wadd x22 (1 : Int))) rfl rfl rfl rfl rfl ?_
      refine RL.mv rfl rfl rfl ?_
      refine RL.binI (v := .int .i64 (wsub x23 (1 : Int))) rfl rfl rfl rfl rfl ?_
      refine RL.asg rfl rfl rfl ?_
      refine RL.asg rfl rfl rfl ?_
      refine RL.finG ?_
      cases h51
      exact fun a w st => lop_intro (r56, (List.set (List.set l21 ((x22).toNat) y66) ((x23).toNat) y68), wadd x22 (1 : Int), wsub x23 (1 : Int)) (by exact h52) (by simp) (St.cut [0, 1] ⟨rfl, rfl, rfl, trivial⟩ (by decide) rfl st)
    · replace h51 := ite_f b57 h51
      cases h51
      replace h52 : some (Fl.nx _) = some y41 := h52
      cases h52
      exact GL.exit (fun a w st => mid_intro (l21, x22, x23) h44 (St.cut [0, 1] trivial (by decide) rfl st))
  · rintro ⟨l21, x22, x23⟩ h74
    have h75 := h45 _ h74
    try dsimp only at h75
    refine GL.weak (env' := []) (L' := [own 3 TR.int v0 l21, keep X]) (fun _ _ st => st) ?_
    have h75 := Option.some.inj h75
    subst h75
    exact GL.nil (Gx.retN (v := .tuple #[]) (res0 rfl) (fun a w st => (st.pick [0, 1] (by decide) rfl).toPostM (V := fun (o : Unit) => .tuple #[]) (LR := fun (o : Unit) => [own 3 TR.int v0 l21, keep X]) ()))

set_option maxHeartbeats 4000000 in
theorem slices_IndexFunc_api_Errno_api_Errno_c (S : Hp) (w : World) (hS : S.sub w) (v0 : Value) (x0 : (List Int)) (k0 : ((TR.sl TR.int)).vrep S v0 x0) (f1 : FuncId) (c1 : Array Value) (t1 : Fit Try.prog f1) (g1 : Int → Option Bool) (k1 : ∀ (U : Hp) (w' : World), Hp.le S U → U.sub w' → ∀ (a0 : Int) (rr : Bool), g1 a0 = some rr → Calls Try.prog f1 (#[.int .i64 a0] ++ c1) w' (PostV w' (.bool rr))) (res : Int) (hm : slices_IndexFunc_api_Errno_api_Errno_m x0 g1 = some res) : Calls Try.prog 40 #[v0, .func (.func f1) #[] c1] w (PostV w (.int .i64 res)) := by
  refine calls_enter 19 Try.func40 Try.ntmps40 rfl S false [(0, v0), (1, .func (.func f1) #[] c1)] [imm (TR.sl TR.int) v0 x0] rfl ⟨rfl, ⟨rfl, trivial⟩⟩ hS ⟨k0, trivial⟩ ?_
  unfold slices_IndexFunc_api_Errno_api_Errno_m at hm
  refine GL.seq ?_
  refine GL.region ?_
  refine RL.asg rfl rfl rfl ?_
  refine RL.finG ?_
  refine GL.seq ?_
  refine GL.seq ?_
  refine GL.region ?_
  refine RL.mv rfl rfl rfl ?_
  refine RL.lenS 0 Try.underlying54 rfl rfl rfl rfl SlOf.imm ?_
  refine RL.mv rfl rfl rfl ?_
  refine RL.finG ?_
  refine GL.open_ 0 rfl (fun S h => len_imm S h) (fun n12 => ?_)
  obtain ⟨y13, K14, h15, h16, h17, h18, h19⟩ := bindR_K hm
  refine GL.join (ι := Unit) (fun (p : Unit) => []) (fun (p : Unit) => []) (fun (p : Unit) => K14 (.nx ())) ?_ ?_
  · refine GL.block ?_
    refine GL.loop (ι := Nat × (List Int)) (fun (p : Nat × (List Int)) => [(0, v0), (1, .func (.func f1) #[] c1), (7, .int .i64 ((x0).length : Int)), (8, .int .i64 (p.1 : Int))]) (fun (p : Nat × (List Int)) => [imm (TR.sl TR.int) v0 x0]) (fun (p : Nat × (List Int)) => p.1 + p.2.length = (x0).length ∧ List.drop p.1 x0 = p.2 ∧ rangeL (slices_IndexFunc_api_Errno_api_Errno_b1 g1) p.2 p.1 () = some y13) (fun (p : Nat × (List Int)) => p.2.length) (0, x0) ⟨by simp, by simp, h15⟩ (fun a w st => St.cut [0] ⟨rfl, rfl, rfl, rfl, trivial⟩ (by decide) rfl st) ?_
    rintro ⟨i20, r21⟩ ⟨h26, h27, h25⟩
    try dsimp only at h26 h27 h25
    refine GL.weak (env' := [(0, v0), (1, .func (.func f1) #[] c1), (7, .int .i64 ((x0).length : Int)), (8, .int .i64 (i20 : Int))]) (L' := [imm (TR.sl TR.int) v0 x0]) (fun _ _ st => st) ?_
    refine GL.seq ?_
    refine GL.region ?_
    refine RL.binI (v := .bool (decide ((i20 : Int) < ((x0).length : Int)))) rfl rfl rfl rfl rfl ?_
    refine RL.finG ?_
    refine GL.seq ?_
    refine GL.cond rfl (fun b28 => ?_) (fun b28 => ?_)
    · have h29 : i20 < (x0).length := by have := of_decide_eq_true b28; omega
      obtain ⟨y30, r32, hr, e31, h33⟩ := drop_cons h27 rfl h29
      subst hr
      obtain ⟨z22, h23, h24⟩ := rangeL_some h25
      unfold slices_IndexFunc_api_Errno_api_Errno_b1 at h23
      try dsimp only at h23
      refine GL.skip ?_
      refine GL.seq ?_
      refine GL.block ?_
      refine GL.seq ?_
      refine GL.region ?_
      refine RL.mv rfl rfl rfl ?_
      refine RL.asg rfl rfl rfl ?_
      refine RL.finG ?_
      refine GL.seq ?_
      refine GL.region ?_
      refine RL.mv rfl rfl rfl ?_
      refine RL.mv rfl rfl rfl ?_
      refine RL.mv rfl rfl rfl ?_
      refine RL.idxS (sz := 1) 0 Try.underlying54 Try_ln26 rfl rfl rfl rfl rfl SlOf.imm (by omega) (by omega) ?_
      refine RL.ldSx (i := i20) (e' := y30) 0 Ex.ik Try_ln26 rfl rfl rfl rfl SlOf.imm e31 Part.self ?_
      obtain ⟨y36, e37, h23⟩ := bind_some h23
      refine RL.callV (v := .bool y36) (vs := [.int .i64 y30]) t1 rfl (Or.inl rfl) rfl rfl rfl rfl (fun U w hU hW hL => k1 U w hW hU y30 _ e37) ?_
      refine RL.finG ?_
      refine GL.cond rfl (fun b38 => ?_) (fun b38 => ?_)
      · replace h23 := ite_t b38 h23
        refine GL.seq ?_
        refine GL.region ?_
        refine RL.mv rfl rfl rfl ?_
        refine RL.asg rfl rfl rfl ?_
        refine RL.finG ?_
        cases h23
        replace h24 : some (Fl.rt _) = some y13 := h24
        cases h24
        have hh := h18 _ h16
        subst hh
        exact GL.ret (Gx.ret (v := .int .i64 (i20 : Int)) (res1 rfl rfl) (fun a w st => st.toPostV))
      · replace h23 := ite_f b38 h23
        refine GL.skip ?_
        refine GL.nilB ?_
        refine GL.region ?_
        refine RL.binI (v := .int .i64 ((i20 + 1 : Nat) : Int)) rfl rfl rfl rfl (binI_succ i20 (by omega)) ?_
        refine RL.mv rfl rfl rfl ?_
        refine RL.fin ?_
        cases h23
        exact fun a w st => lop_intro (i20 + 1, r32) ⟨by show i20 + 1 + r32.length = (x0).length; simp only [List.length_cons] at h26; omega, h33, h24⟩ (by simp) (St.cut [0] ⟨rfl, rfl, rfl, rfl, trivial⟩ (by decide) rfl st)
    · have h29 : ¬ i20 < (x0).length := by have := of_decide_eq_false b28; omega
      obtain rfl : r21 = [] := by rw [← h27]; exact List.drop_of_length_le (by omega)
      replace h25 : some (Fl.nx _) = some y13 := h25
      cases h25
      exact GL.exit (fun a w st => mid_intro () h16 (St.cut [] trivial (by decide) rfl st))
  · rintro ⟨⟩ h39
    have h40 := h17 _ h39
    try dsimp only at h40
    refine GL.weak (env' := []) (L' := []) (fun _ _ st => st) ?_
    refine GL.seq ?_
    refine GL.region ?_
    refine RL.asg rfl rfl rfl ?_
    refine RL.finG ?_
    have h40 := Option.some.inj h40
    subst h40
    exact GL.ret (Gx.ret (v := .int .i64 (-1 : Int)) (res1 rfl rfl) (fun a w st => st.toPostV))

set_option maxHeartbeats 4000000 in
theorem slices_ContainsFunc_api_Errno_api_Errno_c (S : Hp) (w : World) (hS : S.sub w) (v0 : Value) (x0 : (List Int)) (k0 : ((TR.sl TR.int)).vrep S v0 x0) (f1 : FuncId) (c1 : Array Value) (t1 : Fit Try.prog f1) (g1 : Int → Option Bool) (k1 : ∀ (U : Hp) (w' : World), Hp.le S U → U.sub w' → ∀ (a0 : Int) (rr : Bool), g1 a0 = some rr → Calls Try.prog f1 (#[.int .i64 a0] ++ c1) w' (PostV w' (.bool rr))) (res : Bool) (hm : slices_ContainsFunc_api_Errno_api_Errno_m x0 g1 = some res) : Calls Try.prog 34 #[v0, .func (.func f1) #[] c1] w (PostV w (.bool res)) := by
  refine calls_enter 9 Try.func34 Try.ntmps34 rfl S false [(0, v0), (1, .func (.func f1) #[] c1)] [imm (TR.sl TR.int) v0 x0] rfl ⟨rfl, ⟨rfl, trivial⟩⟩ hS ⟨k0, trivial⟩ ?_
  unfold slices_ContainsFunc_api_Errno_api_Errno_m at hm
  refine GL.seq ?_
  refine GL.region ?_
  refine RL.asg rfl rfl rfl ?_
  refine RL.finG ?_
  refine GL.seq ?_
  refine GL.region ?_
  refine RL.mv rfl rfl rfl ?_
  refine RL.mv rfl rfl rfl ?_
  obtain ⟨y5, e6, hm⟩ := bind_some hm
  refine RL.callV (v := .int .i64 y5) (vs := [v0, .func (.func f1) #[] c1]) Try_fit40 rfl (Or.inl rfl) rfl rfl rfl rfl (fun U w hU hW hL => slices_IndexFunc_api_Errno_api_Errno_c U w hU _ _ (hL 0 _ _ rfl Seen.imm) f1 c1 t1 g1 (fun U' w' hle => k1 U' w' (Hp.le_trans hW hle)) _ e6) ?_
  refine RL.binI (v := .bool (decide (y5 ≥ (0 : Int)))) rfl rfl rfl rfl rfl ?_
  refine RL.asg rfl rfl rfl ?_
  refine RL.finG ?_
  have hm := Option.some.inj hm
  subst hm
  exact GL.ret (Gx.ret (v := .bool (decide (y5 ≥ (0 : Int)))) (res1 rfl rfl) (fun a w st => st.toPostV))

set_option maxHeartbeats 4000000 in
theorem pk_good_1_c (S : Hp) (w : World) (hS : S.sub w) (x0 : Int) (res : Bool) (hm : pk_good_1_m x0 = some res) : Calls Try.prog 35 #[.int .i64 x0] w (PostC w (.bool res)) := by
  refine calls_enter 5 Try.func35 Try.ntmps35 rfl S true [(0, .int .i64 x0)] [] rfl ⟨rfl, trivial⟩ hS trivial ?_
  unfold pk_good_1_m at hm
  refine GL.seq ?_
  refine GL.region ?_
  refine RL.asg rfl rfl rfl ?_
  refine RL.finG ?_
  refine GL.seq ?_
  refine GL.region ?_
  refine RL.mv rfl rfl rfl ?_
  refine RL.binI (v := .bool (x0 != (0 : Int))) rfl rfl rfl rfl rfl ?_
  refine RL.asg rfl rfl rfl ?_
  refine RL.finG ?_
  have hm := Option.some.inj hm
  subst hm
  exact GL.ret (Gx.ret (v := .bool (x0 != (0 : Int))) (res1 rfl rfl) (fun a w st => st.toPostC rfl))

set_option maxHeartbeats 4000000 in
theorem pk_good_c (S : Hp) (w : World) (hS : S.sub w) (v0 : Value) (x0 : (List Int)) (k0 : ((TR.sl TR.int)).vrep S v0 x0) (res : Bool) (hm : pk_good_m x0 = some res) : Calls Try.prog 17 #[v0] w (PostV w (.bool res)) := by
  refine calls_enter 6 Try.func17 Try.ntmps17 rfl S false [(0, v0)] [imm (TR.sl TR.int) v0 x0] rfl ⟨rfl, trivial⟩ hS ⟨k0, trivial⟩ ?_
  unfold pk_good_m at hm
  refine GL.seq ?_
  refine GL.region ?_
  refine RL.asg rfl rfl rfl ?_
  refine RL.finG ?_
  refine GL.seq ?_
  refine GL.region ?_
  refine RL.mv rfl rfl rfl ?_
  obtain ⟨y4, e5, hm⟩ := bind_some hm
  refine RL.callV (v := .bool y4) (vs := [v0, .func (.func 35) #[] #[]]) Try_fit34 rfl (Or.inl rfl) rfl rfl rfl rfl (fun U w hU hW hL => slices_ContainsFunc_api_Errno_api_Errno_c U w hU _ _ (hL 0 _ _ rfl Seen.imm) 35 #[] Try_fit35 (fun a0 => pk_good_1_m a0) (fun U' w' hle hU' a0 rr hr => (pk_good_1_c U' w' hU' a0 rr hr).mono (fun _ _ z => z.toV)) _ e5) ?_
  refine RL.notB rfl rfl rfl ?_
  refine RL.asg rfl rfl rfl ?_
  refine RL.finG ?_
  have hm := Option.some.inj hm
  subst hm
  exact GL.ret (Gx.ret (v := .bool (!y4)) (res1 rfl rfl) (fun a w st => st.toPostV))

set_option maxHeartbeats 4000000 in
theorem pk_OrderRaise_c (S : Hp) (w : World) (hS : S.sub w) (x0 : Int) (v1 : Value) (x1 : (List Int)) (k1 : ((TR.sl TR.int)).vrep S v1 x1) (x2 : Int) (res : Bool) (hm : pk_OrderRaise_m x0 x1 x2 = some res) : Calls Try.prog 10 #[.int .i64 x0, v1, .int .i64 x2] w (PostV w (.bool res)) := by
  refine calls_enter 137 Try.func10 Try.ntmps10 rfl S false [(0, .int .i64 x0), (1, v1), (2, .int .i64 x2)] [imm (TR.sl TR.int) v1 x1] rfl ⟨rfl, ⟨rfl, ⟨rfl, trivial⟩⟩⟩ hS ⟨k1, trivial⟩ ?_
  unfold pk_OrderRaise_m at hm
  refine GL.seq ?_
  refine GL.region ?_
  refine RL.asg rfl rfl rfl ?_
  refine RL.finG ?_
  refine GL.seq ?_
  refine GL.seq ?_
  refine GL.region ?_
  refine RL.bS (t := TR.int) (vs := [.int .i64 (0 : Int), .int .i64 (1 : Int), .int .i64 (2 : Int)]) ([(0 : Int), (1 : Int), (2 : Int)] : (List Int)) Try.underlying22 Try_lo3 rfl rfl rfl rfl ⟨VR.int, ⟨VR.int, ⟨VR.int, trivial⟩⟩⟩ rfl (by decide) ?_
  intro v8
  obtain ⟨y9, e10, hm⟩ := bind_some hm
  refine RL.callU (vs := [v8, .int .i64 (2 : Int)]) (LR := fun (o : Value) => [own 3 TR.int o y9.1]) (fun o => ⟨Loc.own TR.flatT_ik, trivial⟩) Try_fit23 rfl rfl rfl rfl rfl (fun U w hU hW hL => order_Raise_c U w hU _ _ (hL 1 _ _ rfl Seen.own) (2 : Int) _ e10) ?_
  intro v11
  refine RL.mv rfl rfl rfl ?_
  refine RL.ext rfl rfl rfl rfl ?_
  refine RL.ext rfl rfl rfl rfl ?_
  refine RL.asg rfl rfl rfl ?_
  refine RL.asg rfl rfl rfl ?_
  refine RL.finG ?_
  refine GL.seq ?_
  obtain ⟨y27, K28, h29, h30, h31, h32, h33⟩ := bindR_K hm
  refine GL.join (ι := Bool) (fun (p : Bool) => [(0, .int .i64 x0), (1, v1), (2, .int .i64 x2), (39, .bool p)]) (fun (p : Bool) => [imm (TR.sl TR.int) v1 x1]) (fun (p : Bool) => K28 (.nx p)) ?_ ?_
  · skip
    refine GL.region ?_
    refine RL.mv rfl rfl rfl ?_
    refine RL.binI (v := .bool (y9.2 != (0 : Int))) rfl rfl rfl rfl rfl ?_
    refine RL.mv rfl rfl rfl ?_
    refine RL.split (t := 30) rfl (fun b34 => ?_) (fun b34 => ?_)
    · replace h29 := ite_t b34 h29
      refine RL.skip rfl rfl ?_
      refine RL.skip rfl rfl ?_
      refine RL.skip rfl rfl ?_
      refine RL.skip rfl rfl ?_
      refine RL.pickT rfl rfl rfl rfl ?_
      refine RL.mv rfl rfl rfl ?_
      refine RL.skip rfl rfl ?_
      refine RL.skip rfl rfl ?_
      refine RL.pickT rfl rfl rfl rfl ?_
      refine RL.fin ?_
      cases h29
      exact fun a w st => mid_intro true h30 (St.cut [0] ⟨rfl, rfl, rfl, rfl, trivial⟩ (by decide) rfl st)
    · replace h29 := ite_f b34 h29
      refine RL.mv rfl rfl rfl ?_
      refine RL.bS (t := TR.int) (vs := [.int .i64 (0 : Int), .int .i64 (2 : Int), .int .i64 (1 : Int)]) ([(0 : Int), (2 : Int), (1 : Int)] : (List Int)) Try.underlying22 Try_lo3 rfl rfl rfl rfl ⟨VR.int, ⟨VR.int, ⟨VR.int, trivial⟩⟩⟩ rfl (by decide) ?_
      intro v35
      refine RL.reL (L' := [imm (TR.sl TR.int) v1 x1, own 3 TR.int v8 ([(0 : Int), (1 : Int), (2 : Int)] : (List Int)), own 3 TR.int v11 y9.1, own 3 TR.int v35 ([(0 : Int), (2 : Int), (1 : Int)] : (List Int))]) rfl ?_
      obtain ⟨y36, e37, h29⟩ := bind_some h29
      refine RL.callV (v := .bool y36) (vs := [v11, v35]) Try_fit18 rfl (Or.inl rfl) rfl rfl rfl rfl (fun U w hU hW hL => slices_Equal_int_int_c U w hU _ _ (hL 2 _ _ rfl Seen.own) _ _ (hL 3 _ _ rfl Seen.own) _ e37) ?_
      refine RL.notB rfl rfl rfl ?_
      refine RL.pickF rfl rfl rfl rfl ?_
      refine RL.mv rfl rfl rfl ?_
      refine RL.split (t := 36) rfl (fun b38 => ?_) (fun b38 => ?_)
      · replace h29 := ite_t b38 h29
        refine RL.skip rfl rfl ?_
        refine RL.skip rfl rfl ?_
        refine RL.pickT rfl rfl rfl rfl ?_
        refine RL.fin ?_
        cases h29
        exact fun a w st => mid_intro true h30 (St.cut [0] ⟨rfl, rfl, rfl, rfl, trivial⟩ (by decide) rfl st)
      · replace h29 := ite_f b38 h29
        obtain ⟨y39, e40, h29⟩ := bind_some h29
        refine RL.callV (v := .bool y39) (vs := []) Try_fit13 rfl (Or.inl rfl) rfl rfl rfl rfl (fun U w hU hW hL => pk_orders_c U w hU  _ e40) ?_
        refine RL.notB rfl rfl rfl ?_
        refine RL.pickF rfl rfl rfl rfl ?_
        refine RL.fin ?_
        cases h29
        exact fun a w st => mid_intro (!y39) h30 (St.cut [0] ⟨rfl, rfl, rfl, rfl, trivial⟩ (by decide) rfl st)
  · rintro x26 h41
    have h42 := h31 _ h41
    try dsimp only at h42
    refine GL.weak (env' := [(0, .int .i64 x0), (1, v1), (2, .int .i64 x2), (39, .bool x26)]) (L' := [imm (TR.sl TR.int) v1 x1]) (fun _ _ st => st) ?_
    refine GL.cond rfl (fun b43 => ?_) (fun b43 => ?_)
    · replace h42 := ite_t b43 h42
      refine GL.seq ?_
      refine GL.region ?_
      refine RL.asg rfl rfl rfl ?_
      refine RL.finG ?_
      have h42 := Option.some.inj h42
      subst h42
      exact GL.ret (Gx.ret (v := .bool false) (res1 rfl rfl) (fun a w st => st.toPostV))
    · replace h42 := ite_f b43 h42
      refine GL.skip ?_
      refine GL.seq ?_
      refine GL.region ?_
      refine RL.mv rfl rfl rfl ?_
      obtain ⟨y46, e47, h42⟩ := bind_some h42
      refine RL.callC (v := .int .i64 y46) (vs := [.int .i64 x0, .int .i64 (6 : Int)]) Try_fit14 rfl rfl rfl rfl (fun U w hU hW hL => pk_Within_c U w hU x0 (6 : Int) _ e47) ?_
      refine RL.binI (v := .int .i64 (wadd (1 : Int) y46)) rfl rfl rfl rfl rfl ?_
      refine RL.asg rfl rfl rfl ?_
      refine RL.finG ?_
      refine GL.seq ?_
      refine GL.region ?_
      refine RL.mv rfl rfl rfl ?_
      refine RL.mv rfl rfl rfl ?_
      obtain ⟨y51, e52, h42⟩ := bind_some h42
      refine RL.call (vs := [.int .i64 (wadd (1 : Int) y46), v1]) Try_fit15 rfl rfl rfl rfl rfl (fun S f w hS hW hi => pk_OrderOf_c S w hS (wadd (1 : Int) y46) _ _ (hi 0 _ rfl) _ e52) ?_
      intro v53
      refine RL.asg rfl rfl rfl ?_
      refine RL.finG ?_
      refine GL.seq ?_
      refine GL.region ?_
      refine RL.mv rfl rfl rfl ?_
      obtain ⟨y57, e58, h42⟩ := bind_some h42
      refine RL.callU (vs := [v53]) (LR := fun (o : Value) => [own 3 TR.int o y57]) (fun o => ⟨Loc.own TR.flatT_ik, trivial⟩) Try_fit24 rfl rfl rfl rfl rfl (fun U w hU hW hL => slices_Clone_int_int_c U w hU _ _ (hL 1 _ _ rfl Seen.own) _ e58) ?_
      intro v59
      refine RL.asg rfl rfl rfl ?_
      refine RL.finG ?_
      refine GL.seq ?_
      refine GL.region ?_
      refine RL.mv rfl rfl rfl ?_
      obtain ⟨y62, e63, h42⟩ := bind_some h42
      refine RL.callK (vs := [v59]) (V := fun (o : Unit) => .tuple #[]) (LR := fun (o : Unit) => [own 3 TR.int v59 y62]) (Ls := [own 3 TR.int v59 y57]) [2] (by decide) Try_fit25 rfl rfl rfl rfl rfl rfl (fun S f X w hO hB hW hI hL => slices_Reverse_int_int_c _ S X f w _ _ hO hB hI  _ e63) ?_
      intro _
      refine RL.reL (L' := [imm (TR.sl TR.int) v1 x1, own 3 TR.int v53 y51, gone, own 3 TR.int v59 y62]) rfl ?_
      refine RL.finG ?_
      refine GL.seq ?_
      refine GL.region ?_
      refine RL.mv rfl rfl rfl ?_
      refine RL.mv rfl rfl rfl ?_
      obtain ⟨y66, e67, h42⟩ := bind_some h42
      refine RL.callC (v := .int .i64 y66) (vs := [.int .i64 x2, .int .i64 (wadd (1 : Int) y46)]) Try_fit14 rfl rfl rfl rfl (fun U w hU hW hL => pk_Within_c U w hU x2 (wadd (1 : Int) y46) _ e67) ?_
      refine RL.asg rfl rfl rfl ?_
      refine RL.finG ?_
      refine GL.seq ?_
      refine GL.region ?_
      refine RL.mv rfl rfl rfl ?_
      refine RL.mv rfl rfl rfl ?_
      obtain ⟨y71, e72, h42⟩ := bind_some h42
      refine RL.callU (vs := [v53, .int .i64 y66]) (LR := fun (o : Value) => [own 3 TR.int o y71.1]) (fun o => ⟨Loc.own TR.flatT_ik, trivial⟩) Try_fit23 rfl rfl rfl rfl rfl (fun U w hU hW hL => order_Raise_c U w hU _ _ (hL 1 _ _ rfl Seen.own) y66 _ e72) ?_
      intro v73
      refine RL.mv rfl rfl rfl ?_
      refine RL.ext rfl rfl rfl rfl ?_
      refine RL.ext rfl rfl rfl rfl ?_
      refine RL.asg rfl rfl rfl ?_
      refine RL.asg rfl rfl rfl ?_
      refine RL.finG ?_
      refine GL.seq ?_
      refine GL.region ?_
      refine RL.mv rfl rfl rfl ?_
      refine RL.mv rfl rfl rfl ?_
      obtain ⟨y76, e77, h42⟩ := bind_some h42
      refine RL.callV (v := .tuple #[.int .i64 y76.1, .int .i64 y76.2]) (vs := [v53, .int .i64 y66]) Try_fit26 rfl (Or.inl rfl) rfl rfl rfl rfl (fun U w hU hW hL => order_Place_c U w hU _ _ (hL 1 _ _ rfl Seen.own) y66 _ e77) ?_
      refine RL.mv rfl rfl rfl ?_
      refine RL.ext rfl rfl rfl rfl ?_
      refine RL.ext rfl rfl rfl rfl ?_
      refine RL.asg rfl rfl rfl ?_
      refine RL.asg rfl rfl rfl ?_
      refine RL.finG ?_
      refine GL.seq ?_
      refine GL.region ?_
      refine RL.mv rfl rfl rfl ?_
      refine RL.mv rfl rfl rfl ?_
      obtain ⟨y80, e81, h42⟩ := bind_some h42
      refine RL.callV (v := .tuple #[.int .i64 y80.1, .int .i64 y80.2]) (vs := [v53, v59]) Try_fit16 rfl (Or.inl rfl) rfl rfl rfl rfl (fun U w hU hW hL => order_Far_c U w hU _ _ (hL 1 _ _ rfl Seen.own) _ _ (hL 3 _ _ rfl Seen.own) _ e81) ?_
      refine RL.mv rfl rfl rfl ?_
      refine RL.ext rfl rfl rfl rfl ?_
      refine RL.ext rfl rfl rfl rfl ?_
      refine RL.asg rfl rfl rfl ?_
      refine RL.asg rfl rfl rfl ?_
      refine RL.finG ?_
      refine GL.seq ?_
      refine GL.seq ?_
      obtain ⟨y95, K96, h97, h98, h99, h100, h101⟩ := bindR_K h42
      refine GL.join (ι := Bool) (fun (p : Bool) => [(2, .int .i64 y66), (9, v53), (10, v59), (11, v73), (12, .int .i64 y71.2), (13, .int .i64 y76.1), (15, .int .i64 y80.1), (84, .bool p)]) (fun (p : Bool) => [own 3 TR.int v53 y51, own 3 TR.int v59 y62, own 3 TR.int v73 y71.1]) (fun (p : Bool) => K96 (.nx p)) ?_ ?_
      · skip
        refine GL.region ?_
        refine RL.mv rfl rfl rfl ?_
        refine RL.mv rfl rfl rfl ?_
        refine RL.bS (t := TR.int) (vs := [.int .i64 y76.2, .int .i64 y80.2]) ([y76.2, y80.2] : (List Int)) Try.underlying54 Try_lo26 rfl rfl rfl rfl ⟨VR.int, ⟨VR.int, trivial⟩⟩ rfl (by decide) ?_
        intro v102
        obtain ⟨y103, e104, h97⟩ := bind_some h97
        refine RL.callV (v := .bool y103) (vs := [v102]) Try_fit17 rfl (Or.inl rfl) rfl rfl rfl rfl (fun U w hU hW hL => pk_good_c U w hU _ _ (hL 5 _ _ rfl Seen.own) _ e104) ?_
        refine RL.notB rfl rfl rfl ?_
        refine RL.mv rfl rfl rfl ?_
        refine RL.split (t := 76) rfl (fun b105 => ?_) (fun b105 => ?_)
        · replace h97 := ite_t b105 h97
          refine RL.skip rfl rfl ?_
          refine RL.skip rfl rfl ?_
          refine RL.skip rfl rfl ?_
          refine RL.skip rfl rfl ?_
          refine RL.skip rfl rfl ?_
          refine RL.skip rfl rfl ?_
          refine RL.skip rfl rfl ?_
          refine RL.pickT rfl rfl rfl rfl ?_
          refine RL.fin ?_
          cases h97
          exact fun a w st => mid_intro true h98 (St.cut [1, 3, 4] ⟨rfl, rfl, rfl, rfl, rfl, rfl, rfl, rfl, trivial⟩ (by decide) rfl st)
        · replace h97 := ite_f b105 h97
          refine RL.mv rfl rfl rfl ?_
          refine RL.mv rfl rfl rfl ?_
          refine RL.mv rfl rfl rfl ?_
          refine RL.binI (v := .int .i64 (wsub (wadd (1 : Int) y46) (1 : Int))) rfl rfl rfl rfl rfl ?_
          refine RL.binI (v := .int .i64 (wmul (wadd (1 : Int) y46) (wsub (wadd (1 : Int) y46) (1 : Int)))) rfl rfl rfl rfl rfl ?_
          obtain ⟨y106, e107, h97⟩ := bind_some h97
          replace e107 := chk_some e107
          refine RL.quo rfl rfl rfl rfl e107 ?_
          refine RL.binI (v := .bool (y80.1 != (IntKind.wrap .i64 (Int.tdiv (wmul (wadd (1 : Int) y46) (wsub (wadd (1 : Int) y46) (1 : Int))) (2 : Int))))) rfl rfl rfl rfl rfl ?_
          refine RL.pickF rfl rfl rfl rfl ?_
          refine RL.fin ?_
          cases h97
          exact fun a w st => mid_intro (y80.1 != (IntKind.wrap .i64 (Int.tdiv (wmul (wadd (1 : Int) y46) (wsub (wadd (1 : Int) y46) (1 : Int))) (2 : Int)))) h98 (St.cut [1, 3, 4] ⟨rfl, rfl, rfl, rfl, rfl, rfl, rfl, rfl, trivial⟩ (by decide) rfl st)
      · rintro x94 h108
        have h109 := h99 _ h108
        try dsimp only at h109
        refine GL.weak (env' := [(2, .int .i64 y66), (9, v53), (10, v59), (11, v73), (12, .int .i64 y71.2), (13, .int .i64 y76.1), (15, .int .i64 y80.1), (84, .bool x94)]) (L' := [own 3 TR.int v53 y51, own 3 TR.int v59 y62, own 3 TR.int v73 y71.1]) (fun _ _ st => st) ?_
        refine GL.cond rfl (fun b110 => ?_) (fun b110 => ?_)
        · replace h109 := ite_t b110 h109
          refine GL.seq ?_
          refine GL.region ?_
          refine RL.asg rfl rfl rfl ?_
          refine RL.finG ?_
          have h109 := Option.some.inj h109
          subst h109
          exact GL.ret (Gx.ret (v := .bool false) (res1 rfl rfl) (fun a w st => st.toPostV))
        · replace h109 := ite_f b110 h109
          refine GL.skip ?_
          refine GL.seq ?_
          refine GL.seq ?_
          refine GL.region ?_
          refine RL.mv rfl rfl rfl ?_
          refine RL.binI (v := .bool (y71.2 != (0 : Int))) rfl rfl rfl rfl rfl ?_
          refine RL.finG ?_
          refine GL.cond rfl (fun b111 => ?_) (fun b111 => ?_)
          · replace h109 := ite_t b111 h109
            refine GL.seq ?_
            obtain ⟨y117, K118, h119, h120, h121, h122, h123⟩ := bindR_K h109
            refine GL.join (ι := Bool) (fun (p : Bool) => [(6, .bool p)]) (fun (p : Bool) => []) (fun (p : Bool) => K118 (.nx p)) ?_ ?_
            · skip
              refine GL.region ?_
              refine RL.mv rfl rfl rfl ?_
              refine RL.binI (v := .bool (y71.2 == (6 : Int))) rfl rfl rfl rfl rfl ?_
              refine RL.mv rfl rfl rfl ?_
              refine RL.split (t := 89) rfl (fun b124 => ?_) (fun b124 => ?_)
              · replace h119 := ite_t b124 h119
                refine RL.mv rfl rfl rfl ?_
                refine RL.binI (v := .bool (y76.1 == (0 : Int))) rfl rfl rfl rfl rfl ?_
                refine RL.pickT rfl rfl rfl rfl ?_
                refine RL.mv rfl rfl rfl ?_
                refine RL.split (t := 93) rfl (fun b125 => ?_) (fun b125 => ?_)
                · replace h119 := ite_t b125 h119
                  refine RL.mv rfl rfl rfl ?_
                  refine RL.lenS 2 Try.underlying22 rfl rfl rfl rfl SlOf.own ?_
                  refine RL.binI (v := .bool (((y71.1).length : Int) == (0 : Int))) rfl rfl rfl rfl rfl ?_
                  refine RL.pickT rfl rfl rfl rfl ?_
                  refine RL.asg rfl rfl rfl ?_
                  refine RL.fin ?_
                  cases h119
                  exact fun a w st => mid_intro (((y71.1).length : Int) == (0 : Int)) h120 (St.cut [] ⟨rfl, trivial⟩ (by decide) rfl st)
                · replace h119 := ite_f b125 h119
                  refine RL.skip rfl rfl ?_
                  refine RL.skip rfl rfl ?_
                  refine RL.skip rfl rfl ?_
                  refine RL.pickF rfl rfl rfl rfl ?_
                  refine RL.asg rfl rfl rfl ?_
                  refine RL.fin ?_
                  cases h119
                  exact fun a w st => mid_intro false h120 (St.cut [] ⟨rfl, trivial⟩ (by decide) rfl st)
              · replace h119 := ite_f b124 h119
                refine RL.skip rfl rfl ?_
                refine RL.skip rfl rfl ?_
                refine RL.pickF rfl rfl rfl rfl ?_
                refine RL.mv rfl rfl rfl ?_
                refine RL.skip rfl rfl ?_
                refine RL.skip rfl rfl ?_
                refine RL.skip rfl rfl ?_
                refine RL.pickF rfl rfl rfl rfl ?_
                refine RL.asg rfl rfl rfl ?_
                refine RL.fin ?_
                cases h119
                exact fun a w st => mid_intro false h120 (St.cut [] ⟨rfl, trivial⟩ (by decide) rfl st)
            · rintro x116 h126
              have h127 := h121 _ h126
              try dsimp only at h127
              refine GL.weak (env' := [(6, .bool x116)]) (L' := []) (fun _ _ st => st) ?_
              have h127 := Option.some.inj h127
              subst h127
              exact GL.ret (Gx.ret (v := .bool x116) (res1 rfl rfl) (fun a w st => st.toPostV))
          · replace h109 := ite_f b111 h109
            refine GL.skip ?_
            refine GL.seq ?_
            refine GL.region ?_
            refine RL.mv rfl rfl rfl ?_
            refine RL.mv rfl rfl rfl ?_
            obtain ⟨y130, e131, h109⟩ := bind_some h109
            refine RL.callV (v := .tuple #[.int .i64 y130.1, .int .i64 y130.2]) (vs := [v73, .int .i64 y66]) Try_fit26 rfl (Or.inl rfl) rfl rfl rfl rfl (fun U w hU hW hL => order_Place_c U w hU _ _ (hL 2 _ _ rfl Seen.own) y66 _ e131) ?_
            refine RL.mv rfl rfl rfl ?_
            refine RL.ext rfl rfl rfl rfl ?_
            refine RL.ext rfl rfl rfl rfl ?_
            refine RL.asg rfl rfl rfl ?_
            refine RL.asg rfl rfl rfl ?_
            refine RL.finG ?_
            refine GL.seq ?_
            refine GL.region ?_
            refine RL.mv rfl rfl rfl ?_
            refine RL.mv rfl rfl rfl ?_
            obtain ⟨y134, e135, h109⟩ := bind_some h109
            refine RL.callV (v := .tuple #[.int .i64 y134.1, .int .i64 y134.2]) (vs := [v53, v73]) Try_fit16 rfl (Or.inl rfl) rfl rfl rfl rfl (fun U w hU hW hL => order_Far_c U w hU _ _ (hL 0 _ _ rfl Seen.own) _ _ (hL 2 _ _ rfl Seen.own) _ e135) ?_
            refine RL.mv rfl rfl rfl ?_
            refine RL.ext rfl rfl rfl rfl ?_
            refine RL.ext rfl rfl rfl rfl ?_
            refine RL.asg rfl rfl rfl ?_
            refine RL.asg rfl rfl rfl ?_
            refine RL.finG ?_
            refine GL.seq ?_
            refine GL.region ?_
            refine RL.mv rfl rfl rfl ?_
            refine RL.mv rfl rfl rfl ?_
            obtain ⟨y138, e139, h109⟩ := bind_some h109
            refine RL.callV (v := .tuple #[.int .i64 y138.1, .int .i64 y138.2]) (vs := [v73, v59]) Try_fit16 rfl (Or.inl rfl) rfl rfl rfl rfl (fun U w hU hW hL => order_Far_c U w hU _ _ (hL 2 _ _ rfl Seen.own) _ _ (hL 1 _ _ rfl Seen.own) _ e139) ?_
            refine RL.mv rfl rfl rfl ?_
            refine RL.ext rfl rfl rfl rfl ?_
            refine RL.ext rfl rfl rfl rfl ?_
            refine RL.asg rfl rfl rfl ?_
            refine RL.asg rfl rfl rfl ?_
            refine RL.finG ?_
            refine GL.seq ?_
            obtain ⟨y153, K154, h155, h156, h157, h158, h159⟩ := bindR_K h109
            refine GL.join (ι := Bool) (fun (p : Bool) => [(6, .bool p)]) (fun (p : Bool) => []) (fun (p : Bool) => K154 (.nx p)) ?_ ?_
            · skip
              refine GL.region ?_
              refine RL.mv rfl rfl rfl ?_
              refine RL.mv rfl rfl rfl ?_
              refine RL.mv rfl rfl rfl ?_
              refine RL.bS (t := TR.int) (vs := [.int .i64 y130.2, .int .i64 y134.2, .int .i64 y138.2]) ([y130.2, y134.2, y138.2] : (List Int)) Try.underlying54 Try_lo26 rfl rfl rfl rfl ⟨VR.int, ⟨VR.int, ⟨VR.int, trivial⟩⟩⟩ rfl (by decide) ?_
              intro v160
              obtain ⟨y161, e162, h155⟩ := bind_some h155
              refine RL.callV (v := .bool y161) (vs := [v160]) Try_fit17 rfl (Or.inl rfl) rfl rfl rfl rfl (fun U w hU hW hL => pk_good_c U w hU _ _ (hL 3 _ _ rfl Seen.own) _ e162) ?_
              refine RL.mv rfl rfl rfl ?_
              refine RL.split (t := 121) rfl (fun b163 => ?_) (fun b163 => ?_)
              · replace h155 := ite_t b163 h155
                refine RL.mv rfl rfl rfl ?_
                refine RL.mv rfl rfl rfl ?_
                refine RL.binI (v := .int .i64 (wsub y76.1 (1 : Int))) rfl rfl rfl rfl rfl ?_
                refine RL.binI (v := .bool (y130.1 == (wsub y76.1 (1 : Int)))) rfl rfl rfl rfl rfl ?_
                refine RL.pickT rfl rfl rfl rfl ?_
                refine RL.mv rfl rfl rfl ?_
                refine RL.split (t := 127) rfl (fun b164 => ?_) (fun b164 => ?_)
                · replace h155 := ite_t b164 h155
                  refine RL.mv rfl rfl rfl ?_
                  refine RL.binI (v := .bool (y134.1 == (1 : Int))) rfl rfl rfl rfl rfl ?_
                  refine RL.pickT rfl rfl rfl rfl ?_
                  refine RL.mv rfl rfl rfl ?_
                  refine RL.split (t := 131) rfl (fun b165 => ?_) (fun b165 => ?_)
                  · replace h155 := ite_t b165 h155
                    refine RL.mv rfl rfl rfl ?_
                    refine RL.mv rfl rfl rfl ?_
                    refine RL.binI (v := .int .i64 (wsub y80.1 (1 : Int))) rfl rfl rfl rfl rfl ?_
                    refine RL.binI (v := .bool (y138.1 == (wsub y80.1 (1 : Int)))) rfl rfl rfl rfl rfl ?_
                    refine RL.pickT rfl rfl rfl rfl ?_
                    refine RL.asg rfl rfl rfl ?_
                    refine RL.fin ?_
                    cases h155
                    exact fun a w st => mid_intro (y138.1 == (wsub y80.1 (1 : Int))) h156 (St.cut [] ⟨rfl, trivial⟩ (by decide) rfl st)
                  · replace h155 := ite_f b165 h155
                    refine RL.skip rfl rfl ?_
                    refine RL.skip rfl rfl ?_
                    refine RL.skip rfl rfl ?_
                    refine RL.skip rfl rfl ?_
                    refine RL.pickF rfl rfl rfl rfl ?_
                    refine RL.asg rfl rfl rfl ?_
                    refine RL.fin ?_
                    cases h155
                    exact fun a w st => mid_intro false h156 (St.cut [] ⟨rfl, trivial⟩ (by decide) rfl st)
                · replace h155 := ite_f b164 h155
                  refine RL.skip rfl rfl ?_
                  refine RL.skip rfl rfl ?_
                  refine RL.pickF rfl rfl rfl rfl ?_
                  refine RL.mv rfl rfl rfl ?_
                  refine RL.skip rfl rfl ?_
                  refine RL.skip rfl rfl ?_
                  refine RL.skip rfl rfl ?_
                  refine RL.skip rfl rfl ?_
                  refine RL.pickF rfl rfl rfl rfl ?_
                  refine RL.asg rfl rfl rfl ?_
                  refine RL.fin ?_
                  cases h155
                  exact fun a w st => mid_intro false h156 (St.cut [] ⟨rfl, trivial⟩ (by decide) rfl st)
              · replace h155 := ite_f b163 h155
                refine RL.skip rfl rfl ?_
                refine RL.skip rfl rfl ?_
                refine RL.skip rfl rfl ?_
                refine RL.skip rfl rfl ?_
                refine RL.pickF rfl rfl rfl rfl ?_
                refine RL.mv rfl rfl rfl ?_
                refine RL.skip rfl rfl ?_
                refine RL.skip rfl rfl ?_
                refine RL.pickF rfl rfl rfl rfl ?_
                refine RL.mv rfl rfl rfl ?_
                refine RL.skip rfl rfl ?_
                refine RL.skip rfl rfl ?_
                refine RL.skip rfl rfl ?_
                refine RL.skip rfl rfl ?_
                refine RL.pickF rfl rfl rfl rfl ?_
                refine RL.asg rfl rfl rfl ?_
                refine RL.fin ?_
                cases h155
                exact fun a w st => mid_intro false h156 (St.cut [] ⟨rfl, trivial⟩ (by decide) rfl st)
            · rintro x152 h166
              have h167 := h157 _ h166
              try dsimp only at h167
              refine GL.weak (env' := [(6, .bool x152)]) (L' := []) (fun _ _ st => st) ?_
              have h167 := Option.some.inj h167
              subst h167
              exact GL.ret (Gx.ret (v := .bool x152) (res1 rfl rfl) (fun a w st => st.toPostV))
end Go.Wk
