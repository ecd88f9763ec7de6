/- Each function comes to what its model says; printed by a program of this repository. -/
import Derived.Test.YtilgigahabjbaaaProg
import Derived.Test.YtilgigahabjbaaaWSeatsMoreModels
namespace Go.Wk
open Go.Fw Go.Mo Go.Proofs Go.RowKit
set_option linter.unusedVariables false
set_option maxRecDepth 100000
theorem Try_info3 : (Try.prog.info? 3).map (fun i => (i.zero, i.size, i.bytes)) = some (some (.int .i64 0), 1, 8) := by kernel_rfl
theorem Try_ln3 : Ln Try.prog 3 1 false := Ln.of Try_info3 Try.underlying3 rfl
theorem Try_lo3 : LnO Try.prog 3 1 [.int .i64 0] := LnO.of Try_info3 rfl rfl (by decide) (by decide)
theorem Try_info26 : (Try.prog.info? 26).map (fun i => (i.zero, i.size, i.bytes)) = some (some (.int .i64 0), 1, 8) := by kernel_rfl
theorem Try_ln26 : Ln Try.prog 26 1 false := Ln.of Try_info26 Try.underlying26 rfl
theorem Try_lo26 : LnO Try.prog 26 1 [.int .i64 0] := LnO.of Try_info26 rfl rfl (by decide) (by decide)
theorem Try_fit14 : Fit Try.prog 14 := Fit.of Try.func14 (by kernel_rfl) rfl
theorem Try_fit17 : Fit Try.prog 17 := Fit.of Try.func17 (by kernel_rfl) rfl
theorem Try_fit18 : Fit Try.prog 18 := Fit.of Try.func18 (by kernel_rfl) rfl
theorem Try_fit19 : Fit Try.prog 19 := Fit.of Try.func19 (by kernel_rfl) rfl
theorem Try_fit20 : Fit Try.prog 20 := Fit.of Try.func20 (by kernel_rfl) rfl
theorem Try_fit21 : Fit Try.prog 21 := Fit.of Try.func21 (by kernel_rfl) rfl
theorem Try_fit31 : Fit Try.prog 31 := Fit.of Try.func31 (by kernel_rfl) rfl
theorem Try_fit34 : Fit Try.prog 34 := Fit.of Try.func34 (by kernel_rfl) rfl
theorem Try_fit35 : Fit Try.prog 35 := Fit.of Try.func35 (by kernel_rfl) rfl
theorem Try_fit36 : Fit Try.prog 36 := Fit.of Try.func36 (by kernel_rfl) rfl
theorem Try_fit37 : Fit Try.prog 37 := Fit.of Try.func37 (by kernel_rfl) rfl
theorem Try_fit40 : Fit Try.prog 40 := Fit.of Try.func40 (by kernel_rfl) rfl

set_option maxHeartbeats 4000000 in
theorem seats_Check_c (S : Hp) (w : World) (hS : S.sub w) (v0 : Value) (x0 : (List Int)) (k0 : ((TR.sl TR.int)).vrep S v0 x0) (x1 : Int) (res : Int) (hm : seats_Check_m x0 x1 = some res) : Calls Try.prog 36 #[v0, .int .i64 x1] w (PostC w (.int .i64 res)) := by
  refine calls_enter 40 Try.func36 Try.ntmps36 rfl S true [(0, v0), (1, .int .i64 x1)] [imm (TR.sl TR.int) v0 x0] rfl ⟨rfl, ⟨rfl, trivial⟩⟩ hS ⟨k0, trivial⟩ ?_
  unfold seats_Check_m at hm
  refine GL.seq ?_
  refine GL.region ?_
  refine RL.asg rfl rfl rfl ?_
  refine RL.finG ?_
  refine GL.seq ?_
  refine GL.seq ?_
  obtain ⟨y6, K7, h8, h9, h10, h11, h12⟩ := bindR_K hm
  refine GL.join (ι := Bool) (fun (p : Bool) => [(0, v0), (1, .int .i64 x1), (15, .bool p)]) (fun (p : Bool) => [imm (TR.sl TR.int) v0 x0]) (fun (p : Bool) => K7 (.nx p)) ?_ ?_
  · skip
    refine GL.region ?_
    refine RL.mv rfl rfl rfl ?_
    refine RL.lenS 0 Try.underlying22 rfl rfl rfl rfl SlOf.imm ?_
    refine RL.binI (v := .bool (decide (((x0).length : Int) < (1 : Int)))) rfl rfl rfl rfl rfl ?_
    refine RL.mv rfl rfl rfl ?_
    refine RL.split (t := 11) rfl (fun b13 => ?_) (fun b13 => ?_)
    · replace h8 := ite_t b13 h8
      refine RL.skip rfl rfl ?_
      refine RL.skip rfl rfl ?_
      refine RL.skip rfl rfl ?_
      refine RL.pickT rfl rfl rfl rfl ?_
      refine RL.fin ?_
      cases h8
      exact fun a w st => mid_intro true h9 (St.cut [0] ⟨rfl, rfl, rfl, trivial⟩ (by decide) rfl st)
    · replace h8 := ite_f b13 h8
      refine RL.mv rfl rfl rfl ?_
      refine RL.lenS 0 Try.underlying22 rfl rfl rfl rfl SlOf.imm ?_
      refine RL.binI (v := .bool (decide (((x0).length : Int) > (8 : Int)))) rfl rfl rfl rfl rfl ?_
      refine RL.pickF rfl rfl rfl rfl ?_
      refine RL.fin ?_
      cases h8
      exact fun a w st => mid_intro (decide (((x0).length : Int) > (8 : Int))) h9 (St.cut [0] ⟨rfl, rfl, rfl, trivial⟩ (by decide) rfl st)
  · rintro x5 h14
    have h15 := h10 _ h14
    try dsimp only at h15
    refine GL.weak (env' := [(0, v0), (1, .int .i64 x1), (15, .bool x5)]) (L' := [imm (TR.sl TR.int) v0 x0]) (fun _ _ st => st) ?_
    refine GL.cond rfl (fun b16 => ?_) (fun b16 => ?_)
    · replace h15 := ite_t b16 h15
      refine GL.seq ?_
      refine GL.region ?_
      refine RL.asg rfl rfl rfl ?_
      refine RL.finG ?_
      have h15 := Option.some.inj h15
      subst h15
      exact GL.ret (Gx.ret (v := .int .i64 (2 : Int)) (res1 rfl rfl) (fun a w st => st.toPostC rfl))
    · replace h15 := ite_f b16 h15
      refine GL.skip ?_
      refine GL.seq ?_
      refine GL.region ?_
      refine RL.asg rfl rfl rfl ?_
      refine RL.finG ?_
      refine GL.seq ?_
      refine GL.seq ?_
      refine GL.region ?_
      refine RL.mv rfl rfl rfl ?_
      refine RL.lenS 0 Try.underlying22 rfl rfl rfl rfl SlOf.imm ?_
      refine RL.mv rfl rfl rfl ?_
      refine RL.finG ?_
      refine GL.open_ 0 rfl (fun S h => len_imm S h) (fun n36 => ?_)
      obtain ⟨y37, K38, h39, h40, h41, h42, h43⟩ := bindR_K h15
      refine GL.join (ι := Int) (fun (p : Int) => [(1, .int .i64 x1), (5, .int .i64 p)]) (fun (p : Int) => []) (fun (p : Int) => K38 (.nx p)) ?_ ?_
      · refine GL.block ?_
        refine GL.loop (ι := Nat × (List Int) × Int) (fun (p : Nat × (List Int) × Int) => [(1, .int .i64 x1), (5, .int .i64 p.2.2), (16, v0), (17, .int .i64 ((x0).length : Int)), (18, .int .i64 (p.1 : Int))]) (fun (p : Nat × (List Int) × Int) => [imm (TR.sl TR.int) v0 x0]) (fun (p : Nat × (List Int) × Int) => p.1 + p.2.1.length = (x0).length ∧ List.drop p.1 x0 = p.2.1 ∧ rangeL seats_Check_b1 p.2.1 p.1 p.2.2 = some y37) (fun (p : Nat × (List Int) × Int) => p.2.1.length) (0, x0, (0 : Int)) ⟨by simp, by simp, h39⟩ (fun a w st => St.cut [0] ⟨rfl, rfl, rfl, rfl, rfl, trivial⟩ (by decide) rfl st) ?_
        rintro ⟨i44, r45, x17⟩ ⟨h50, h51, h49⟩
        try dsimp only at h50 h51 h49
        refine GL.weak (env' := [(1, .int .i64 x1), (5, .int .i64 x17), (16, v0), (17, .int .i64 ((x0).length : Int)), (18, .int .i64 (i44 : Int))]) (L' := [imm (TR.sl TR.int) v0 x0]) (fun _ _ st => st) ?_
        refine GL.seq ?_
        refine GL.region ?_
        refine RL.binI (v := .bool (decide ((i44 : Int) < ((x0).length : Int)))) rfl rfl rfl rfl rfl ?_
        refine RL.finG ?_
        refine GL.seq ?_
        refine GL.cond rfl (fun b52 => ?_) (fun b52 => ?_)
        · have h53 : i44 < (x0).length := by have := of_decide_eq_true b52; omega
          obtain ⟨y54, r56, hr, e55, h57⟩ := drop_cons h51 rfl h53
          subst hr
          obtain ⟨z46, h47, h48⟩ := rangeL_some h49
          unfold seats_Check_b1 at h47
          try dsimp only at h47
          refine GL.skip ?_
          refine GL.seq ?_
          refine GL.block ?_
          refine GL.seq ?_
          refine GL.region ?_
          refine RL.idxS (sz := 1) 0 Try.underlying22 Try_ln3 rfl rfl rfl rfl rfl SlOf.imm (by omega) (by omega) ?_
          refine RL.ldSx (i := i44) (e' := y54) 0 Ex.ik Try_ln3 rfl rfl rfl rfl SlOf.imm e55 Part.self ?_
          refine RL.asg rfl rfl rfl ?_
          refine RL.finG ?_
          refine GL.seq ?_
          refine GL.seq ?_
          obtain ⟨y61, K62, h63, h64, h65, h66, h67⟩ := bindF_K h47
          refine GL.join (ι := Bool) (fun (p : Bool) => [(1, .int .i64 x1), (5, .int .i64 x17), (7, .int .i64 y54), (16, v0), (17, .int .i64 ((x0).length : Int)), (18, .int .i64 (i44 : Int)), (27, .bool p)]) (fun (p : Bool) => [imm (TR.sl TR.int) v0 x0]) (fun (p : Bool) => K62 (.nx p)) ?_ ?_
          · skip
            refine GL.region ?_
            refine RL.mv rfl rfl rfl ?_
            refine RL.binI (v := .bool (decide (y54 < (0 : Int)))) rfl rfl rfl rfl rfl ?_
            refine RL.mv rfl rfl rfl ?_
            refine RL.split (t := 24) rfl (fun b68 => ?_) (fun b68 => ?_)
            · replace h63 := ite_t b68 h63
              refine RL.skip rfl rfl ?_
              refine RL.skip rfl rfl ?_
              refine RL.pickT rfl rfl rfl rfl ?_
              refine RL.fin ?_
              cases h63
              exact fun a w st => mid_intro true h64 (St.cut [0] ⟨rfl, rfl, rfl, rfl, rfl, rfl, rfl, trivial⟩ (by decide) rfl st)
            · replace h63 := ite_f b68 h63
              refine RL.mv rfl rfl rfl ?_
              refine RL.binI (v := .bool (decide (y54 > (1000000 : Int)))) rfl rfl rfl rfl rfl ?_
              refine RL.pickF rfl rfl rfl rfl ?_
              refine RL.fin ?_
              cases h63
              exact fun a w st => mid_intro (decide (y54 > (1000000 : Int))) h64 (St.cut [0] ⟨rfl, rfl, rfl, rfl, rfl, rfl, rfl, trivial⟩ (by decide) rfl st)
          · rintro x60 h69
            have h70 := h65 _ h69
            try dsimp only at h70
            refine GL.weak (env' := [(1, .int .i64 x1), (5, .int .i64 x17), (7, .int .i64 y54), (16, v0), (17, .int .i64 ((x0).length : Int)), (18, .int .i64 (i44 : Int)), (27, .bool x60)]) (L' := [imm (TR.sl TR.int) v0 x0]) (fun _ _ st => st) ?_
            refine GL.cond rfl (fun b71 => ?_) (fun b71 => ?_)
            · replace h70 := ite_t b71 h70
              refine GL.seq ?_
              refine GL.region ?_
              refine RL.asg rfl rfl rfl ?_
              refine RL.finG ?_
              cases h70
              replace h48 : some (Fl.rt _) = some y37 := h48
              cases h48
              have hh := h42 _ h40
              subst hh
              exact GL.ret (Gx.ret (v := .int .i64 (1 : Int)) (res1 rfl rfl) (fun a w st => st.toPostC rfl))
            · replace h70 := ite_f b71 h70
              refine GL.skip ?_
              refine GL.region ?_
              refine RL.mv rfl rfl rfl ?_
              refine RL.mv rfl rfl rfl ?_
              refine RL.binI (v := .int .i64 (wadd x17 y54)) rfl rfl rfl rfl rfl ?_
              refine RL.asg rfl rfl rfl ?_
              refine RL.finG ?_
              refine GL.nilB ?_
              refine GL.region ?_
              refine RL.binI (v := .int .i64 ((i44 + 1 : Nat) : Int)) rfl rfl rfl rfl (binI_succ i44 (by omega)) ?_
              refine RL.mv rfl rfl rfl ?_
              refine RL.fin ?_
              cases h70
              exact fun a w st => lop_intro (i44 + 1, r56, wadd x17 y54) ⟨by show i44 + 1 + r56.length = (x0).length; simp only [List.length_cons] at h50; omega, h57, h48⟩ (by simp) (St.cut [0] ⟨rfl, rfl, rfl, rfl, rfl, trivial⟩ (by decide) rfl st)
        · have h53 : ¬ i44 < (x0).length := by have := of_decide_eq_false b52; omega
          obtain rfl : r45 = [] := by rw [← h51]; exact List.drop_of_length_le (by omega)
          replace h49 : some (Fl.nx _) = some y37 := h49
          cases h49
          exact GL.exit (fun a w st => mid_intro x17 h40 (St.cut [] ⟨rfl, rfl, trivial⟩ (by decide) rfl st))
      · rintro x17 h72
        have h73 := h41 _ h72
        try dsimp only at h73
        refine GL.weak (env' := [(1, .int .i64 x1), (5, .int .i64 x17)]) (L' := []) (fun _ _ st => st) ?_
        refine GL.seq ?_
        refine GL.seq ?_
        refine GL.region ?_
        refine RL.mv rfl rfl rfl ?_
        refine RL.binI (v := .bool (x17 == (0 : Int))) rfl rfl rfl rfl rfl ?_
        refine RL.finG ?_
        refine GL.cond rfl (fun b74 => ?_) (fun b74 => ?_)
        · replace h73 := ite_t b74 h73
          refine GL.seq ?_
          refine GL.region ?_
          refine RL.asg rfl rfl rfl ?_
          refine RL.finG ?_
          have h73 := Option.some.inj h73
          subst h73
          exact GL.ret (Gx.ret (v := .int .i64 (4 : Int)) (res1 rfl rfl) (fun a w st => st.toPostC rfl))
        · replace h73 := ite_f b74 h73
          refine GL.skip ?_
          refine GL.seq ?_
          refine GL.seq ?_
          obtain ⟨y78, K79, h80, h81, h82, h83, h84⟩ := bindR_K h73
          refine GL.join (ι := Bool) (fun (p : Bool) => [(39, .bool p)]) (fun (p : Bool) => []) (fun (p : Bool) => K79 (.nx p)) ?_ ?_
          · skip
            refine GL.region ?_
            refine RL.mv rfl rfl rfl ?_
            refine RL.binI (v := .bool (decide (x1 < (0 : Int)))) rfl rfl rfl rfl rfl ?_
            refine RL.mv rfl rfl rfl ?_
            refine RL.split (t := 36) rfl (fun b85 => ?_) (fun b85 => ?_)
            · replace h80 := ite_t b85 h80
              refine RL.skip rfl rfl ?_
              refine RL.skip rfl rfl ?_
              refine RL.pickT rfl rfl rfl rfl ?_
              refine RL.fin ?_
              cases h80
              exact fun a w st => mid_intro true h81 (St.cut [] ⟨rfl, trivial⟩ (by decide) rfl st)
            · replace h80 := ite_f b85 h80
              refine RL.mv rfl rfl rfl ?_
              refine RL.binI (v := .bool (decide (x1 > (100 : Int)))) rfl rfl rfl rfl rfl ?_
              refine RL.pickF rfl rfl rfl rfl ?_
              refine RL.fin ?_
              cases h80
              exact fun a w st => mid_intro (decide (x1 > (100 : Int))) h81 (St.cut [] ⟨rfl, trivial⟩ (by decide) rfl st)
          · rintro x77 h86
            have h87 := h82 _ h86
            try dsimp only at h87
            refine GL.weak (env' := [(39, .bool x77)]) (L' := []) (fun _ _ st => st) ?_
            refine GL.cond rfl (fun b88 => ?_) (fun b88 => ?_)
            · replace h87 := ite_t b88 h87
              refine GL.seq ?_
              refine GL.region ?_
              refine RL.asg rfl rfl rfl ?_
              refine RL.finG ?_
              have h87 := Option.some.inj h87
              subst h87
              exact GL.ret (Gx.ret (v := .int .i64 (1 : Int)) (res1 rfl rfl) (fun a w st => st.toPostC rfl))
            · replace h87 := ite_f b88 h87
              refine GL.skip ?_
              refine GL.seq ?_
              refine GL.region ?_
              refine RL.asg rfl rfl rfl ?_
              refine RL.finG ?_
              have h87 := Option.some.inj h87
              subst h87
              exact GL.ret (Gx.ret (v := .int .i64 (0 : Int)) (res1 rfl rfl) (fun a w st => st.toPostC rfl))

set_option maxHeartbeats 4000000 in
theorem seats_divided_c (S : Hp) (w : World) (hS : S.sub w) (v0 : Value) (x0 : (List Int)) (k0 : ((TR.sl TR.int)).vrep S v0 x0) (x1 : Int) (x2 : Int) (res : (List Int)) (hm : seats_divided_m x0 x1 x2 = some res) : Calls Try.prog 37 #[v0, .int .i64 x1, .int .i64 x2] w (Post w S (fun (o : Value) => o) (fun (o : Value) => [own 3 TR.int o res])) := by
  refine calls_enter 56 Try.func37 Try.ntmps37 rfl S false [(0, v0), (1, .int .i64 x1), (2, .int .i64 x2)] [imm (TR.sl TR.int) v0 x0] rfl ⟨rfl, ⟨rfl, ⟨rfl, trivial⟩⟩⟩ hS ⟨k0, trivial⟩ ?_
  unfold seats_divided_m at hm
  refine GL.seq ?_
  refine GL.region ?_
  refine RL.asg rfl rfl rfl ?_
  refine RL.finG ?_
  refine GL.seq ?_
  refine GL.region ?_
  refine RL.mv rfl rfl rfl ?_
  refine RL.lenS 0 Try.underlying22 rfl rfl rfl rfl SlOf.imm ?_
  obtain ⟨y7, e8, hm⟩ := bind_some hm
  replace e8 := chk_some e8
  refine RL.mkS (t := TR.int) (z := (0 : Int)) Try.underlying22 Try_lo3 (fun S => rfl) rfl rfl rfl rfl e8.1 e8.2 ?_
  intro v9
  refine RL.asg rfl rfl rfl ?_
  refine RL.finG ?_
  refine GL.seq ?_
  refine GL.seq ?_
  refine GL.region ?_
  refine RL.mv rfl rfl rfl ?_
  refine RL.mv rfl rfl rfl ?_
  refine RL.finG ?_
  obtain ⟨y139, e140, hm⟩ := bind_some hm
  replace e140 := chk_some e140
  obtain ⟨y141, K142, h143, h144, h145, h146, h147⟩ := bindR_K hm
  refine GL.join (ι := (List Int) × Value) (fun (p : (List Int) × Value) => [(7, p.2)]) (fun (p : (List Int) × Value) => [own 3 TR.int p.2 p.1]) (fun (p : (List Int) × Value) => K142 (.nx p.1)) ?_ ?_
  · refine GL.block ?_
    refine GL.loop (ι := Nat × Nat × (List Int) × Value) (fun (p : Nat × Nat × (List Int) × Value) => [(0, v0), (2, .int .i64 x2), (7, p.2.2.2), (14, .int .i64 x1), (15, .int .i64 (p.1 : Int))]) (fun (p : Nat × Nat × (List Int) × Value) => [imm (TR.sl TR.int) v0 x0, own 3 TR.int p.2.2.2 p.2.2.1]) (fun (p : Nat × Nat × (List Int) × Value) => p.1 + p.2.1 = (x1).toNat ∧ rangeN (seats_divided_b1 x0 x2) p.2.1 p.1 p.2.2.1 = some y141) (fun (p : Nat × Nat × (List Int) × Value) => p.2.1) (0, (x1).toNat, (List.replicate (((x0).length : Int)).toNat (0 : Int)), v9) ⟨by simp, h143⟩ (fun a w st => St.cut [0, 1] ⟨rfl, rfl, rfl, rfl, rfl, trivial⟩ (by decide) rfl st) ?_
    rintro ⟨i148, r149, l73, v74⟩ ⟨h154, h153⟩
    try dsimp only at h154 h153
    refine GL.weak (env' := [(0, v0), (2, .int .i64 x2), (7, v74), (14, .int .i64 x1), (15, .int .i64 (i148 : Int))]) (L' := [imm (TR.sl TR.int) v0 x0, own 3 TR.int v74 l73]) (fun _ _ st => st) ?_
    refine GL.seq ?_
    refine GL.region ?_
    refine RL.binI (v := .bool (decide ((i148 : Int) < x1))) rfl rfl rfl rfl rfl ?_
    refine RL.finG ?_
    refine GL.seq ?_
    refine GL.cond rfl (fun b156 => ?_) (fun b156 => ?_)
    · have h157 : i148 < (x1).toNat := by have := of_decide_eq_true b156; omega
      obtain ⟨r158, hr⟩ : ∃ m, r149 = m + 1 := ⟨r149 - 1, by omega⟩
      subst hr
      obtain ⟨z150, h151, h152⟩ := rangeN_some h153
      unfold seats_divided_b1 at h151
      try dsimp only at h151
      refine GL.skip ?_
      refine GL.seq ?_
      refine GL.block ?_
      refine GL.seq ?_
      refine GL.region ?_
      refine RL.asg rfl rfl rfl ?_
      refine RL.finG ?_
      refine GL.seq ?_
      refine GL.seq ?_
      refine GL.region ?_
      refine RL.mv rfl rfl rfl ?_
      refine RL.lenS 0 Try.underlying22 rfl rfl rfl rfl SlOf.imm ?_
      refine RL.mv rfl rfl rfl ?_
      refine RL.finG ?_
      refine GL.open_ 0 rfl (fun S h => len_imm S h) (fun n177 => ?_)
      obtain ⟨y178, K179, h180, h181, h182, h183, h184⟩ := bindF_K h151
      refine GL.join (ι := Int) (fun (p : Int) => [(0, v0), (2, .int .i64 x2), (7, v74), (8, .int .i64 p), (14, .int .i64 x1), (15, .int .i64 (i148 : Int))]) (fun (p : Int) => [imm (TR.sl TR.int) v0 x0, own 3 TR.int v74 l73]) (fun (p : Int) => K179 (.nx p)) ?_ ?_
      · refine GL.block ?_
        refine GL.loop (ι := Nat × (List Int) × Int) (fun (p : Nat × (List Int) × Int) => [(0, v0), (2, .int .i64 x2), (7, v74), (8, .int .i64 p.2.2), (14, .int .i64 x1), (15, .int .i64 (i148 : Int)), (17, v0), (18, .int .i64 ((x0).length : Int)), (19, .int .i64 (p.1 : Int))]) (fun (p : Nat × (List Int) × Int) => [imm (TR.sl TR.int) v0 x0, own 3 TR.int v74 l73]) (fun (p : Nat × (List Int) × Int) => p.1 + p.2.1.length = (x0).length ∧ List.drop p.1 x0 = p.2.1 ∧ rangeL (seats_divided_b2 l73 x0 x2) p.2.1 p.1 p.2.2 = some y178) (fun (p : Nat × (List Int) × Int) => p.2.1.length) (0, x0, (0 : Int)) ⟨by simp, by simp, h180⟩ (fun a w st => St.cut [0, 1] ⟨rfl, rfl, rfl, rfl, rfl, rfl, rfl, rfl, rfl, trivial⟩ (by decide) rfl st) ?_
        rintro ⟨i185, r186, x159⟩ ⟨h191, h192, h190⟩
        try dsimp only at h191 h192 h190
        refine GL.weak (env' := [(0, v0), (2, .int .i64 x2), (7, v74), (8, .int .i64 x159), (14, .int .i64 x1), (15, .int .i64 (i148 : Int)), (17, v0), (18, .int .i64 ((x0).length : Int)), (19, .int .i64 (i185 : Int))]) (L' := [imm (TR.sl TR.int) v0 x0, own 3 TR.int v74 l73]) (fun _ _ st => st) ?_
        refine GL.seq ?_
        refine GL.region ?_
        refine RL.binI (v := .bool (decide ((i185 : Int) < ((x0).length : Int)))) rfl rfl rfl rfl rfl ?_
        refine RL.finG ?_
        refine GL.seq ?_
        refine GL.cond rfl (fun b193 => ?_) (fun b193 => ?_)
        · have h194 : i185 < (x0).length := by have := of_decide_eq_true b193; omega
          obtain ⟨y195, r197, hr, e196, h198⟩ := drop_cons h192 rfl h194
          subst hr
          obtain ⟨z187, h188, h189⟩ := rangeL_some h190
          unfold seats_divided_b2 at h188
          try dsimp only at h188
          refine GL.skip ?_
          refine GL.seq ?_
          refine GL.block ?_
          refine GL.seq ?_
          refine GL.region ?_
          refine RL.mv rfl rfl rfl ?_
          refine RL.idxS (sz := 1) 0 Try.underlying22 Try_ln3 rfl rfl rfl rfl rfl SlOf.imm (by omega) (by omega) ?_
          refine RL.ldSx (i := i185) (e' := y195) 0 Ex.ik Try_ln3 rfl rfl rfl rfl SlOf.imm e196 Part.self ?_
          refine RL.asg rfl rfl rfl ?_
          refine RL.asg rfl rfl rfl ?_
          refine RL.finG ?_
          refine GL.seq ?_
          refine GL.regionQ rfl rfl (by kernel_rfl) ?_
          refine RL.mv rfl rfl rfl ?_
          refine RL.mv rfl rfl rfl ?_
          refine RL.mv rfl rfl rfl ?_
          refine RL.mv rfl rfl rfl ?_
          obtain ⟨y205, e206, h188⟩ := bind_some h188
          refine RL.idxS (sz := 1) 1 Try.underlying22 Try_ln3 rfl rfl rfl rfl rfl SlOf.own (idx_some e206).1 (idx_some e206).2.1 ?_
          refine RL.ldSx (i := (x159).toNat) (e' := y205) 1 Ex.ik Try_ln3 rfl rfl rfl rfl SlOf.own (idx_some e206).2.2 Part.self ?_
          refine RL.binI (v := .int .i64 (wmul x2 y205)) rfl rfl rfl rfl rfl ?_
          refine RL.binI (v := .int .i64 (wadd (wmul x2 y205) (1 : Int))) rfl rfl rfl rfl rfl ?_
          refine RL.binI (v := .int .i64 (wmul y195 (wadd (wmul x2 y205) (1 : Int)))) rfl rfl rfl rfl rfl ?_
          refine RL.mv rfl rfl rfl ?_
          refine RL.mv rfl rfl rfl ?_
          obtain ⟨y207, e208, h188⟩ := bind_some h188
          refine RL.idxS (sz := 1) 0 Try.underlying22 Try_ln3 rfl rfl rfl rfl rfl SlOf.imm (idx_some e208).1 (idx_some e208).2.1 ?_
          refine RL.ldSx (i := (x159).toNat) (e' := y207) 0 Ex.ik Try_ln3 rfl rfl rfl rfl SlOf.imm (idx_some e208).2.2 Part.self ?_
          refine RL.mv rfl rfl rfl ?_
          refine RL.mv rfl rfl rfl ?_
          refine RL.mv rfl rfl rfl ?_
          obtain ⟨y209, e210, h188⟩ := bind_some h188
          refine RL.idxS (sz := 1) 1 Try.underlying22 Try_ln3 rfl rfl rfl rfl rfl SlOf.own (idx_some e210).1 (idx_some e210).2.1 ?_
          refine RL.ldSx (i := i185) (e' := y209) 1 Ex.ik Try_ln3 rfl rfl rfl rfl SlOf.own (idx_some e210).2.2 Part.self ?_
          refine RL.binI (v := .int .i64 (wmul x2 y209)) rfl rfl rfl rfl rfl ?_
          refine RL.binI (v := .int .i64 (wadd (wmul x2 y209) (1 : Int))) rfl rfl rfl rfl rfl ?_
          refine RL.binI (v := .int .i64 (wmul y207 (wadd (wmul x2 y209) (1 : Int)))) rfl rfl rfl rfl rfl ?_
          refine RL.binI (v := .bool (decide ((wmul y195 (wadd (wmul x2 y205) (1 : Int))) > (wmul y207 (wadd (wmul x2 y209) (1 : Int)))))) rfl rfl rfl rfl rfl ?_
          refine RL.finQG ?_
          refine GL.weak (env' := [(0, v0), (2, .int .i64 x2), (7, v74), (8, .int .i64 x159), (9, .int .i64 (i185 : Int)), (14, .int .i64 x1), (15, .int .i64 (i148 : Int)), (17, v0), (18, .int .i64 ((x0).length : Int)), (19, .int .i64 (i185 : Int)), (45, .bool (decide ((wmul y195 (wadd (wmul x2 y205) (1 : Int))) > (wmul y207 (wadd (wmul x2 y209) (1 : Int))))))]) (L' := [imm (TR.sl TR.int) v0 x0, own 3 TR.int v74 l73]) (fun a w st => St.cut [0, 1] ⟨rfl, rfl, rfl, rfl, rfl, rfl, rfl, rfl, rfl, rfl, rfl, trivial⟩ (by decide) rfl st) ?_
          refine GL.cond rfl (fun b211 => ?_) (fun b211 => ?_)
          · replace h188 := ite_t b211 h188
            refine GL.region ?_
            refine RL.mv rfl rfl rfl ?_
            refine RL.asg rfl rfl rfl ?_
            refine RL.finG ?_
            refine GL.nilB ?_
            refine GL.region ?_
            refine RL.binI (v := .int .i64 ((i185 + 1 : Nat) : Int)) rfl rfl rfl rfl (binI_succ i185 (by omega)) ?_
            refine RL.mv rfl rfl rfl ?_
            refine RL.fin ?_
            cases h188
            exact fun a w st => lop_intro (i185 + 1, r197, (i185 : Int)) ⟨by show i185 + 1 + r197.length = (x0).length; simp only [List.length_cons] at h191; omega, h198, h189⟩ (by simp) (St.cut [0, 1] ⟨rfl, rfl, rfl, rfl, rfl, rfl, rfl, rfl, rfl, trivial⟩ (by decide) rfl st)
          · replace h188 := ite_f b211 h188
            refine GL.skip ?_
            refine GL.nilB ?_
            refine GL.region ?_
            refine RL.binI (v := .int .i64 ((i185 + 1 : Nat) : Int)) rfl rfl rfl rfl (binI_succ i185 (by omega)) ?_
            refine RL.mv rfl rfl rfl ?_
            refine RL.fin ?_
            cases h188
            exact fun a w st => lop_intro (i185 + 1, r197, x159) ⟨by show i185 + 1 + r197.length = (x0).length; simp only [List.length_cons] at h191; omega, h198, h189⟩ (by simp) (St.cut [0, 1] ⟨rfl, rfl, rfl, rfl, rfl, rfl, rfl, rfl, rfl, trivial⟩ (by decide) rfl st)
        · have h194 : ¬ i185 < (x0).length := by have := of_decide_eq_false b193; omega
          obtain rfl : r186 = [] := by rw [← h192]; exact List.drop_of_length_le (by omega)
          replace h190 : some (Fl.nx _) = some y178 := h190
          cases h190
          exact GL.exit (fun a w st => mid_intro x159 h181 (St.cut [0, 1] ⟨rfl, rfl, rfl, rfl, rfl, rfl, trivial⟩ (by decide) rfl st))
      · rintro x159 h212
        have h213 := h182 _ h212
        try dsimp only at h213
        refine GL.weak (env' := [(0, v0), (2, .int .i64 x2), (7, v74), (8, .int .i64 x159), (14, .int .i64 x1), (15, .int .i64 (i148 : Int))]) (L' := [imm (TR.sl TR.int) v0 x0, own 3 TR.int v74 l73]) (fun _ _ st => st) ?_
        refine GL.region ?_
        refine RL.mv rfl rfl rfl ?_
        refine RL.mv rfl rfl rfl ?_
        obtain ⟨y218, e219, h213⟩ := bind_some h213
        refine RL.idxS (sz := 1) 1 Try.underlying22 Try_ln3 rfl rfl rfl rfl rfl SlOf.own (idx_some e219).1 (idx_some e219).2.1 ?_
        refine RL.ldSx (i := (x159).toNat) (e' := y218) 1 Ex.ik Try_ln3 rfl rfl rfl rfl SlOf.own (idx_some e219).2.2 Part.self ?_
        refine RL.binI (v := .int .i64 (wadd y218 (1 : Int))) rfl rfl rfl rfl rfl ?_
        obtain ⟨y220, e221, h213⟩ := bind_some h213
        refine RL.idxS (sz := 1) 1 Try.underlying22 Try_ln3 rfl rfl rfl rfl rfl SlOf.own (idx_some e221).1 (idx_some e221).2.1 ?_
        refine RL.stS (i := (x159).toNat) (e' := wadd y218 (1 : Int)) (e1 := wadd y218 (1 : Int)) (r := TR.int) 1 Try_ln3 rfl rfl rfl rfl VR.int rfl (idx_some e221).2.2 Upd.self ?_
        refine RL.finG ?_
        refine GL.nilB ?_
        refine GL.region ?_
        refine RL.binI (v := .int .i64 ((i148 + 1 : Nat) : Int)) rfl rfl rfl rfl (binI_succ i148 (by omega)) ?_
        refine RL.mv rfl rfl rfl ?_
        refine RL.fin ?_
        cases h213
        exact fun a w st => lop_intro (i148 + 1, r158, (List.set l73 ((x159).toNat) (wadd y218 (1 : Int))), v74) ⟨by show i148 + 1 + r158 = (x1).toNat; omega, h152⟩ (by simp) (St.cut [0, 1] ⟨rfl, rfl, rfl, rfl, rfl, trivial⟩ (by decide) rfl st)
    · have h157 : ¬ i148 < (x1).toNat := by have := of_decide_eq_false b156; omega
      obtain rfl : r149 = 0 := by omega
      replace h153 : some (Fl.nx _) = some y141 := h153
      cases h153
      exact GL.exit (fun a w st => mid_intro (l73, v74) h144 (St.cut [1] ⟨rfl, trivial⟩ (by decide) rfl st))
  · rintro ⟨l73, v74⟩ h222
    have h223 := h145 _ h222
    try dsimp only at h223
    refine GL.weak (env' := [(7, v74)]) (L' := [own 3 TR.int v74 l73]) (fun _ _ st => st) ?_
    refine GL.seq ?_
    refine GL.region ?_
    refine RL.mv rfl rfl rfl ?_
    refine RL.asg rfl rfl rfl ?_
    refine RL.finG ?_
    have h223 := Option.some.inj h223
    subst h223
    exact GL.ret (Gx.ret (v := v74) (res1 rfl rfl) (fun a w st => (st.pick [0] (by decide) rfl).toPost v74))

set_option maxHeartbeats 4000000 in
theorem seats_Share_c (S : Hp) (w : World) (hS : S.sub w) (x0 : Int) (v1 : Value) (x1 : (List Int)) (k1 : ((TR.sl TR.int)).vrep S v1 x1) (x2 : Int) (res : (List Int) × Int) (hm : seats_Share_m x0 x1 x2 = some res) : Calls Try.prog 21 #[.int .i64 x0, v1, .int .i64 x2] w (Post w S (fun (o : Value) => .tuple #[o, .int .i64 res.2]) (fun (o : Value) => [own 3 TR.int o res.1])) := by
  refine calls_enter 119 Try.func21 Try.ntmps21 rfl S false [(0, .int .i64 x0), (1, v1), (2, .int .i64 x2)] [imm (TR.sl TR.int) v1 x1] rfl ⟨rfl, ⟨rfl, ⟨rfl, trivial⟩⟩⟩ hS ⟨k1, trivial⟩ ?_
  unfold seats_Share_m at hm
  refine GL.seq ?_
  refine GL.region ?_
  refine RL.asg rfl rfl rfl ?_
  refine RL.asg rfl rfl rfl ?_
  refine RL.finG ?_
  refine GL.seq ?_
  refine GL.seq ?_
  obtain ⟨y7, K8, h9, h10, h11, h12, h13⟩ := bindR_K hm
  refine GL.join (ι := Bool) (fun (p : Bool) => [(0, .int .i64 x0), (1, v1), (2, .int .i64 x2), (24, .bool p)]) (fun (p : Bool) => [imm (TR.sl TR.int) v1 x1]) (fun (p : Bool) => K8 (.nx p)) ?_ ?_
  · skip
    refine GL.region ?_
    refine RL.mv rfl rfl rfl ?_
    refine RL.binI (v := .bool (decide (x0 < (1 : Int)))) rfl rfl rfl rfl rfl ?_
    refine RL.mv rfl rfl rfl ?_
    refine RL.split (t := 21) rfl (fun b14 => ?_) (fun b14 => ?_)
    · replace h9 := ite_t b14 h9
      refine RL.skip rfl rfl ?_
      refine RL.skip rfl rfl ?_
      refine RL.pickT rfl rfl rfl rfl ?_
      refine RL.fin ?_
      cases h9
      exact fun a w st => mid_intro true h10 (St.cut [0] ⟨rfl, rfl, rfl, rfl, trivial⟩ (by decide) rfl st)
    · replace h9 := ite_f b14 h9
      refine RL.mv rfl rfl rfl ?_
      refine RL.binI (v := .bool (decide (x0 > (3 : Int)))) rfl rfl rfl rfl rfl ?_
      refine RL.pickF rfl rfl rfl rfl ?_
      refine RL.fin ?_
      cases h9
      exact fun a w st => mid_intro (decide (x0 > (3 : Int))) h10 (St.cut [0] ⟨rfl, rfl, rfl, rfl, trivial⟩ (by decide) rfl st)
  · rintro x6 h15
    have h16 := h11 _ h15
    try dsimp only at h16
    refine GL.weak (env' := [(0, .int .i64 x0), (1, v1), (2, .int .i64 x2), (24, .bool x6)]) (L' := [imm (TR.sl TR.int) v1 x1]) (fun _ _ st => st) ?_
    refine GL.cond rfl (fun b17 => ?_) (fun b17 => ?_)
    · replace h16 := ite_t b17 h16
      refine GL.seq ?_
      refine GL.region ?_
      refine RL.asg rfl rfl rfl ?_
      refine RL.asg rfl rfl rfl ?_
      refine RL.finG ?_
      refine GL.weak (fun a w st => st.nilOwn 3 TR.int) ?_
      have h16 := Option.some.inj h16
      subst h16
      exact GL.ret (Gx.ret (v := .tuple #[Value.slice none 0 0, .int .i64 (1 : Int)]) (res2 rfl rfl rfl) (fun a w st => (st.pick [1] (by decide) rfl).toPost (Value.slice none 0 0)))
    · replace h16 := ite_f b17 h16
      refine GL.skip ?_
      refine GL.seq ?_
      refine GL.seq ?_
      refine GL.region ?_
      refine RL.mv rfl rfl rfl ?_
      refine RL.mv rfl rfl rfl ?_
      obtain ⟨y20, e21, h16⟩ := bind_some h16
      refine RL.callC (v := .int .i64 y20) (vs := [v1, .int .i64 x2]) Try_fit36 rfl rfl rfl rfl (fun U w hU hW hL => seats_Check_c U w hU _ _ (hL 0 _ _ rfl Seen.imm) x2 _ e21) ?_
      refine RL.asg rfl rfl rfl ?_
      refine RL.finG ?_
      refine GL.seq ?_
      refine GL.region ?_
      refine RL.mv rfl rfl rfl ?_
      refine RL.binI (v := .bool (y20 != (0 : Int))) rfl rfl rfl rfl rfl ?_
      refine RL.finG ?_
      refine GL.cond rfl (fun b22 => ?_) (fun b22 => ?_)
      · replace h16 := ite_t b22 h16
        refine GL.seq ?_
        refine GL.region ?_
        refine RL.mv rfl rfl rfl ?_
        refine RL.asg rfl rfl rfl ?_
        refine RL.asg rfl rfl rfl ?_
        refine RL.finG ?_
        refine GL.weak (fun a w st => st.nilOwn 3 TR.int) ?_
        have h16 := Option.some.inj h16
        subst h16
        exact GL.ret (Gx.ret (v := .tuple #[Value.slice none 0 0, .int .i64 y20]) (res2 rfl rfl rfl) (fun a w st => (st.pick [1] (by decide) rfl).toPost (Value.slice none 0 0)))
      · replace h16 := ite_f b22 h16
        refine GL.skip ?_
        refine GL.seq ?_
        refine GL.seq ?_
        refine GL.region ?_
        refine RL.mv rfl rfl rfl ?_
        refine RL.finG ?_
        refine GL.block ?_
        refine GL.seq ?_
        refine GL.region ?_
        refine RL.binI (v := .bool (x0 == (1 : Int))) rfl rfl rfl rfl rfl ?_
        refine RL.asg rfl rfl rfl ?_
        refine RL.finG ?_
        refine GL.cond rfl (fun b23 => ?_) (fun b23 => ?_)
        · replace h16 := ite_t b23 h16
          refine GL.seq ?_
          refine GL.region ?_
          refine RL.mv rfl rfl rfl ?_
          refine RL.mv rfl rfl rfl ?_
          obtain ⟨y27, e28, h16⟩ := bind_some h16
          refine RL.call (vs := [v1, .int .i64 x2, .int .i64 (1 : Int)]) Try_fit37 rfl rfl rfl rfl rfl (fun S f w hS hW hi => seats_divided_c S w hS _ _ (hi 0 _ rfl) x2 (1 : Int) _ e28) ?_
          intro v29
          refine RL.asg rfl rfl rfl ?_
          refine RL.asg rfl rfl rfl ?_
          refine RL.finG ?_
          have h16 := Option.some.inj h16
          subst h16
          exact GL.ret (Gx.ret (v := .tuple #[v29, .int .i64 (0 : Int)]) (res2 rfl rfl rfl) (fun a w st => (st.pick [1] (by decide) rfl).toPost v29))
        · replace h16 := ite_f b23 h16
          refine GL.seq ?_
          refine GL.region ?_
          refine RL.binI (v := .bool (x0 == (2 : Int))) rfl rfl rfl rfl rfl ?_
          refine RL.asg rfl rfl rfl ?_
          refine RL.finG ?_
          refine GL.cond rfl (fun b30 => ?_) (fun b30 => ?_)
          · replace h16 := ite_t b30 h16
            refine GL.seq ?_
            refine GL.region ?_
            refine RL.mv rfl rfl rfl ?_
            refine RL.mv rfl rfl rfl ?_
            obtain ⟨y34, e35, h16⟩ := bind_some h16
            refine RL.call (vs := [v1, .int .i64 x2, .int .i64 (2 : Int)]) Try_fit37 rfl rfl rfl rfl rfl (fun S f w hS hW hi => seats_divided_c S w hS _ _ (hi 0 _ rfl) x2 (2 : Int) _ e35) ?_
            intro v36
            refine RL.asg rfl rfl rfl ?_
            refine RL.asg rfl rfl rfl ?_
            refine RL.finG ?_
            have h16 := Option.some.inj h16
            subst h16
            exact GL.ret (Gx.ret (v := .tuple #[v36, .int .i64 (0 : Int)]) (res2 rfl rfl rfl) (fun a w st => (st.pick [1] (by decide) rfl).toPost v36))
          · replace h16 := ite_f b30 h16
            refine GL.skip ?_
            refine GL.nilB ?_
            refine GL.seq ?_
            refine GL.region ?_
            refine RL.asg rfl rfl rfl ?_
            refine RL.finG ?_
            refine GL.seq ?_
            refine GL.seq ?_
            refine GL.region ?_
            refine RL.mv rfl rfl rfl ?_
            refine RL.lenS 0 Try.underlying22 rfl rfl rfl rfl SlOf.imm ?_
            refine RL.mv rfl rfl rfl ?_
            refine RL.finG ?_
            refine GL.open_ 0 rfl (fun S h => len_imm S h) (fun n42 => ?_)
            obtain ⟨y43, K44, h45, h46, h47, h48, h49⟩ := bindR_K h16
            refine GL.join (ι := Int) (fun (p : Int) => [(1, v1), (2, .int .i64 x2), (9, .int .i64 p)]) (fun (p : Int) => [imm (TR.sl TR.int) v1 x1]) (fun (p : Int) => K44 (.nx p)) ?_ ?_
            · refine GL.block ?_
              refine GL.loop (ι := Nat × (List Int) × Int) (fun (p : Nat × (List Int) × Int) => [(1, v1), (2, .int .i64 x2), (9, .int .i64 p.2.2), (42, v1), (43, .int .i64 ((x1).length : Int)), (44, .int .i64 (p.1 : Int))]) (fun (p : Nat × (List Int) × Int) => [imm (TR.sl TR.int) v1 x1]) (fun (p : Nat × (List Int) × Int) => p.1 + p.2.1.length = (x1).length ∧ List.drop p.1 x1 = p.2.1 ∧ rangeL seats_Share_b1 p.2.1 p.1 p.2.2 = some y43) (fun (p : Nat × (List Int) × Int) => p.2.1.length) (0, x1, (0 : Int)) ⟨by simp, by simp, h45⟩ (fun a w st => St.cut [0] ⟨rfl, rfl, rfl, rfl, rfl, rfl, trivial⟩ (by decide) rfl st) ?_
              rintro ⟨i50, r51, x37⟩ ⟨h56, h57, h55⟩
              try dsimp only at h56 h57 h55
              refine GL.weak (env' := [(1, v1), (2, .int .i64 x2), (9, .int .i64 x37), (42, v1), (43, .int .i64 ((x1).length : Int)), (44, .int .i64 (i50 : Int))]) (L' := [imm (TR.sl TR.int) v1 x1]) (fun _ _ st => st) ?_
              refine GL.seq ?_
              refine GL.region ?_
              refine RL.binI (v := .bool (decide ((i50 : Int) < ((x1).length : Int)))) rfl rfl rfl rfl rfl ?_
              refine RL.finG ?_
              refine GL.seq ?_
              refine GL.cond rfl (fun b58 => ?_) (fun b58 => ?_)
              · have h59 : i50 < (x1).length := by have := of_decide_eq_true b58; omega
                obtain ⟨y60, r62, hr, e61, h63⟩ := drop_cons h57 rfl h59
                subst hr
                obtain ⟨z52, h53, h54⟩ := rangeL_some h55
                unfold seats_Share_b1 at h53
                try dsimp only at h53
                refine GL.skip ?_
                refine GL.seq ?_
                refine GL.block ?_
                refine GL.seq ?_
                refine GL.region ?_
                refine RL.idxS (sz := 1) 0 Try.underlying22 Try_ln3 rfl rfl rfl rfl rfl SlOf.imm (by omega) (by omega) ?_
                refine RL.ldSx (i := i50) (e' := y60) 0 Ex.ik Try_ln3 rfl rfl rfl rfl SlOf.imm e61 Part.self ?_
                refine RL.asg rfl rfl rfl ?_
                refine RL.finG ?_
                refine GL.region ?_
                refine RL.mv rfl rfl rfl ?_
                refine RL.mv rfl rfl rfl ?_
                refine RL.binI (v := .int .i64 (wadd x37 y60)) rfl rfl rfl rfl rfl ?_
                refine RL.asg rfl rfl rfl ?_
                refine RL.finG ?_
                refine GL.nilB ?_
                refine GL.region ?_
                refine RL.binI (v := .int .i64 ((i50 + 1 : Nat) : Int)) rfl rfl rfl rfl (binI_succ i50 (by omega)) ?_
                refine RL.mv rfl rfl rfl ?_
                refine RL.fin ?_
                cases h53
                exact fun a w st => lop_intro (i50 + 1, r62, wadd x37 y60) ⟨by show i50 + 1 + r62.length = (x1).length; simp only [List.length_cons] at h56; omega, h63, h54⟩ (by simp) (St.cut [0] ⟨rfl, rfl, rfl, rfl, rfl, rfl, trivial⟩ (by decide) rfl st)
              · have h59 : ¬ i50 < (x1).length := by have := of_decide_eq_false b58; omega
                obtain rfl : r51 = [] := by rw [← h57]; exact List.drop_of_length_le (by omega)
                replace h55 : some (Fl.nx _) = some y43 := h55
                cases h55
                exact GL.exit (fun a w st => mid_intro x37 h46 (St.cut [0] ⟨rfl, rfl, rfl, trivial⟩ (by decide) rfl st))
            · rintro x37 h64
              have h65 := h47 _ h64
              try dsimp only at h65
              refine GL.weak (env' := [(1, v1), (2, .int .i64 x2), (9, .int .i64 x37)]) (L' := [imm (TR.sl TR.int) v1 x1]) (fun _ _ st => st) ?_
              refine GL.seq ?_
              refine GL.region ?_
              refine RL.mv rfl rfl rfl ?_
              refine RL.lenS 0 Try.underlying22 rfl rfl rfl rfl SlOf.imm ?_
              obtain ⟨y69, e70, h65⟩ := bind_some h65
              replace e70 := chk_some e70
              refine RL.mkS (t := TR.int) (z := (0 : Int)) Try.underlying22 Try_lo3 (fun S => rfl) rfl rfl rfl rfl e70.1 e70.2 ?_
              intro v71
              refine RL.asg rfl rfl rfl ?_
              refine RL.finG ?_
              refine GL.seq ?_
              refine GL.region ?_
              refine RL.mv rfl rfl rfl ?_
              refine RL.lenS 0 Try.underlying22 rfl rfl rfl rfl SlOf.imm ?_
              obtain ⟨y75, e76, h65⟩ := bind_some h65
              replace e76 := chk_some e76
              refine RL.mkS (t := TR.int) (z := (0 : Int)) Try.underlying22 Try_lo3 (fun S => rfl) rfl rfl rfl rfl e76.1 e76.2 ?_
              intro v77
              refine RL.reL (L' := [imm (TR.sl TR.int) v1 x1, own 3 TR.int v71 (List.replicate (((x1).length : Int)).toNat (0 : Int)), own 3 TR.int v77 (List.replicate (((x1).length : Int)).toNat (0 : Int))]) rfl ?_
              refine RL.asg rfl rfl rfl ?_
              refine RL.finG ?_
              refine GL.seq ?_
              refine GL.region ?_
              refine RL.mv rfl rfl rfl ?_
              refine RL.asg rfl rfl rfl ?_
              refine RL.finG ?_
              refine GL.seq ?_
              refine GL.seq ?_
              refine GL.region ?_
              refine RL.mv rfl rfl rfl ?_
              refine RL.lenS 0 Try.underlying22 rfl rfl rfl rfl SlOf.imm ?_
              refine RL.mv rfl rfl rfl ?_
              refine RL.finG ?_
              refine GL.open_ 0 rfl (fun S h => len_imm S h) (fun n132 => ?_)
              obtain ⟨y133, K134, h135, h136, h137, h138, h139⟩ := bindR_K h65
              refine GL.join (ι := (List Int) × (List Int) × Int × Value × Value) (fun (p : (List Int) × (List Int) × Int × Value × Value) => [(12, p.2.2.2.1), (13, p.2.2.2.2), (14, .int .i64 p.2.2.1)]) (fun (p : (List Int) × (List Int) × Int × Value × Value) => [own 3 TR.int p.2.2.2.1 p.1, own 3 TR.int p.2.2.2.2 p.2.1]) (fun (p : (List Int) × (List Int) × Int × Value × Value) => K134 (.nx (p.1, p.2.1, p.2.2.1))) ?_ ?_
              · refine GL.block ?_
                refine GL.loop (ι := Nat × (List Int) × (List Int) × (List Int) × Int × Value × Value) (fun (p : Nat × (List Int) × (List Int) × (List Int) × Int × Value × Value) => [(2, .int .i64 x2), (9, .int .i64 x37), (12, p.2.2.2.2.2.1), (13, p.2.2.2.2.2.2), (14, .int .i64 p.2.2.2.2.1), (59, v1), (60, .int .i64 ((x1).length : Int)), (61, .int .i64 (p.1 : Int))]) (fun (p : Nat × (List Int) × (List Int) × (List Int) × Int × Value × Value) => [own 3 TR.int p.2.2.2.2.2.1 p.2.2.1, own 3 TR.int p.2.2.2.2.2.2 p.2.2.2.1, imm (TR.sl TR.int) v1 x1]) (fun (p : Nat × (List Int) × (List Int) × (List Int) × Int × Value × Value) => p.1 + p.2.1.length = (x1).length ∧ List.drop p.1 x1 = p.2.1 ∧ rangeL (seats_Share_b2 x37 x2) p.2.1 p.1 (p.2.2.1, p.2.2.2.1, p.2.2.2.2.1) = some y133) (fun (p : Nat × (List Int) × (List Int) × (List Int) × Int × Value × Value) => p.2.1.length) (0, x1, (List.replicate (((x1).length : Int)).toNat (0 : Int)), (List.replicate (((x1).length : Int)).toNat (0 : Int)), x2, v71, v77) ⟨by simp, by simp, h135⟩ (fun a w st => St.cut [1, 2, 0] ⟨rfl, rfl, rfl, rfl, rfl, rfl, rfl, rfl, trivial⟩ (by decide) rfl st) ?_
                rintro ⟨i140, r141, l103, l105, x107, v104, v106⟩ ⟨h146, h147, h145⟩
                try dsimp only at h146 h147 h145
                refine GL.weak (env' := [(2, .int .i64 x2), (9, .int .i64 x37), (12, v104), (13, v106), (14, .int .i64 x107), (59, v1), (60, .int .i64 ((x1).length : Int)), (61, .int .i64 (i140 : Int))]) (L' := [own 3 TR.int v104 l103, own 3 TR.int v106 l105, imm (TR.sl TR.int) v1 x1]) (fun _ _ st => st) ?_
                refine GL.seq ?_
                refine GL.region ?_
                refine RL.binI (v := .bool (decide ((i140 : Int) < ((x1).length : Int)))) rfl rfl rfl rfl rfl ?_
                refine RL.finG ?_
                refine GL.seq ?_
                refine GL.cond rfl (fun b148 => ?_) (fun b148 => ?_)
                · have h149 : i140 < (x1).length := by have := of_decide_eq_true b148; omega
                  obtain ⟨y150, r152, hr, e151, h153⟩ := drop_cons h147 rfl h149
                  subst hr
                  obtain ⟨z142, h143, h144⟩ := rangeL_some h145
                  unfold seats_Share_b2 at h143
                  try dsimp only at h143
                  refine GL.skip ?_
                  refine GL.seq ?_
                  refine GL.block ?_
                  refine GL.seq ?_
                  refine GL.region ?_
                  refine RL.mv rfl rfl rfl ?_
                  refine RL.idxS (sz := 1) 2 Try.underlying22 Try_ln3 rfl rfl rfl rfl rfl SlOf.imm (by omega) (by omega) ?_
                  refine RL.ldSx (i := i140) (e' := y150) 2 Ex.ik Try_ln3 rfl rfl rfl rfl SlOf.imm e151 Part.self ?_
                  refine RL.asg rfl rfl rfl ?_
                  refine RL.asg rfl rfl rfl ?_
                  refine RL.finG ?_
                  refine GL.seq ?_
                  refine GL.regionA rfl rfl ?_
                  refine RA.mv 0 rfl (by kernel_rfl) rfl rfl rfl ?_
                  refine RA.mv 1 rfl (by kernel_rfl) rfl rfl rfl ?_
                  refine RA.mv 2 rfl (by kernel_rfl) rfl rfl rfl ?_
                  refine RA.mv 3 rfl (by kernel_rfl) rfl rfl rfl ?_
                  refine RA.mv 4 rfl (by kernel_rfl) rfl rfl rfl ?_
                  refine RA.mv 5 rfl (by kernel_rfl) rfl rfl rfl ?_
                  refine RA.binI (v := .int .i64 (wmul y150 x2)) 6 rfl (by kernel_rfl) rfl rfl rfl rfl rfl ?_
                  refine RA.mv 7 rfl (by kernel_rfl) rfl rfl rfl ?_
                  obtain ⟨y162, e163, h143⟩ := bind_some h143
                  replace e163 := chk_some e163
                  refine RA.quo 8 rfl (by kernel_rfl) rfl rfl rfl rfl e163 ?_
                  refine RA.mv 9 rfl (by kernel_rfl) rfl rfl rfl ?_
                  refine RA.mv 10 rfl (by kernel_rfl) rfl rfl rfl ?_
                  refine RA.binI (v := .int .i64 (wmul y150 x2)) 11 rfl (by kernel_rfl) rfl rfl rfl rfl rfl ?_
                  refine RA.mv 12 rfl (by kernel_rfl) rfl rfl rfl ?_
                  obtain ⟨y164, e165, h143⟩ := bind_some h143
                  replace e165 := chk_some e165
                  refine RA.rem 13 rfl (by kernel_rfl) rfl rfl rfl rfl e165 ?_
                  obtain ⟨y166, e167, h143⟩ := bind_some h143
                  refine RA.idxS (sz := 1) 0 Try.underlying22 Try_ln3 14 rfl (by kernel_rfl) rfl rfl rfl rfl rfl SlOf.own (idx_some e167).1 (idx_some e167).2.1 ?_
                  refine RA.seq 15 rfl (by kernel_rfl) ?_
                  refine RL.stS (i := i140) (e' := IntKind.wrap .i64 (Int.tdiv (wmul y150 x2) x37)) (e1 := IntKind.wrap .i64 (Int.tdiv (wmul y150 x2) x37)) (r := TR.int) 0 Try_ln3 rfl rfl rfl rfl VR.int rfl (idx_some e167).2.2 Upd.self ?_
                  refine RL.fin ?_
                  refine RA.next ?_
                  obtain ⟨y168, e169, h143⟩ := bind_some h143
                  refine RA.idxS (sz := 1) 1 Try.underlying22 Try_ln3 16 rfl (by kernel_rfl) rfl rfl rfl rfl rfl SlOf.own (idx_some e169).1 (idx_some e169).2.1 ?_
                  refine RA.seq 17 rfl (by kernel_rfl) ?_
                  refine RL.stS (i := i140) (e' := Int.tmod (wmul y150 x2) x37) (e1 := Int.tmod (wmul y150 x2) x37) (r := TR.int) 1 Try_ln3 rfl rfl rfl rfl VR.int rfl (idx_some e169).2.2 Upd.self ?_
                  refine RL.fin ?_
                  refine RA.next ?_
                  refine RA.doneG (by kernel_rfl) ?_
                  refine GL.weak (env' := [(2, .int .i64 x2), (9, .int .i64 x37), (12, v104), (13, v106), (14, .int .i64 x107), (15, .int .i64 (i140 : Int)), (59, v1), (60, .int .i64 ((x1).length : Int)), (61, .int .i64 (i140 : Int))]) (L' := [own 3 TR.int v104 (List.set l103 i140 (IntKind.wrap .i64 (Int.tdiv (wmul y150 x2) x37))), own 3 TR.int v106 (List.set l105 i140 (Int.tmod (wmul y150 x2) x37)), imm (TR.sl TR.int) v1 x1]) (fun a w st => St.cut [0, 1, 2] ⟨rfl, rfl, rfl, rfl, rfl, rfl, rfl, rfl, rfl, trivial⟩ (by decide) rfl st) ?_
                  refine GL.region ?_
                  refine RL.mv rfl rfl rfl ?_
                  refine RL.mv rfl rfl rfl ?_
                  refine RL.mv rfl rfl rfl ?_
                  obtain ⟨y172, e173, h143⟩ := bind_some h143
                  refine RL.idxS (sz := 1) 0 Try.underlying22 Try_ln3 rfl rfl rfl rfl rfl SlOf.own (idx_some e173).1 (idx_some e173).2.1 ?_
                  refine RL.ldSx (i := i140) (e' := y172) 0 Ex.ik Try_ln3 rfl rfl rfl rfl SlOf.own (idx_some e173).2.2 Part.self ?_
                  refine RL.binI (v := .int .i64 (wsub x107 y172)) rfl rfl rfl rfl rfl ?_
                  refine RL.asg rfl rfl rfl ?_
                  refine RL.finG ?_
                  refine GL.nilB ?_
                  refine GL.region ?_
                  refine RL.binI (v := .int .i64 ((i140 + 1 : Nat) : Int)) rfl rfl rfl rfl (binI_succ i140 (by omega)) ?_
                  refine RL.mv rfl rfl rfl ?_
                  refine RL.fin ?_
                  cases h143
                  exact fun a w st => lop_intro (i140 + 1, r152, (List.set l103 i140 (IntKind.wrap .i64 (Int.tdiv (wmul y150 x2) x37))), (List.set l105 i140 (Int.tmod (wmul y150 x2) x37)), wsub x107 y172, v104, v106) ⟨by show i140 + 1 + r152.length = (x1).length; simp only [List.length_cons] at h146; omega, h153, h144⟩ (by simp) (St.cut [0, 1, 2] ⟨rfl, rfl, rfl, rfl, rfl, rfl, rfl, rfl, trivial⟩ (by decide) rfl st)
                · have h149 : ¬ i140 < (x1).length := by have := of_decide_eq_false b148; omega
                  obtain rfl : r141 = [] := by rw [← h147]; exact List.drop_of_length_le (by omega)
                  replace h145 : some (Fl.nx _) = some y133 := h145
                  cases h145
                  exact GL.exit (fun a w st => mid_intro (l103, l105, x107, v104, v106) h136 (St.cut [0, 1] ⟨rfl, rfl, rfl, trivial⟩ (by decide) rfl st))
              · rintro ⟨l103, l105, x107, v104, v106⟩ h174
                have h175 := h137 _ h174
                try dsimp only at h175
                refine GL.weak (env' := [(12, v104), (13, v106), (14, .int .i64 x107)]) (L' := [own 3 TR.int v104 l103, own 3 TR.int v106 l105]) (fun _ _ st => st) ?_
                refine GL.seq ?_
                refine GL.seq ?_
                refine GL.region ?_
                refine RL.mv rfl rfl rfl ?_
                refine RL.mv rfl rfl rfl ?_
                refine RL.finG ?_
                obtain ⟨y285, e286, h175⟩ := bind_some h175
                replace e286 := chk_some e286
                obtain ⟨y287, K288, h289, h290, h291, h292, h293⟩ := bindR_K h175
                refine GL.join (ι := (List Int) × (List Int) × Value) (fun (p : (List Int) × (List Int) × Value) => [(12, p.2.2)]) (fun (p : (List Int) × (List Int) × Value) => [own 3 TR.int p.2.2 p.1]) (fun (p : (List Int) × (List Int) × Value) => K288 (.nx (p.1, p.2.1))) ?_ ?_
                · refine GL.block ?_
                  refine GL.loop (ι := Nat × Nat × (List Int) × (List Int) × Value × Value) (fun (p : Nat × Nat × (List Int) × (List Int) × Value × Value) => [(12, p.2.2.2.2.1), (13, p.2.2.2.2.2), (89, .int .i64 x107), (90, .int .i64 (p.1 : Int))]) (fun (p : Nat × Nat × (List Int) × (List Int) × Value × Value) => [own 3 TR.int p.2.2.2.2.1 p.2.2.1, own 3 TR.int p.2.2.2.2.2 p.2.2.2.1]) (fun (p : Nat × Nat × (List Int) × (List Int) × Value × Value) => p.1 + p.2.1 = (x107).toNat ∧ rangeN seats_Share_b3 p.2.1 p.1 (p.2.2.1, p.2.2.2.1) = some y287) (fun (p : Nat × Nat × (List Int) × (List Int) × Value × Value) => p.2.1) (0, (x107).toNat, l103, l105, v104, v106) ⟨by simp, h289⟩ (fun a w st => St.cut [0, 1] ⟨rfl, rfl, rfl, rfl, trivial⟩ (by decide) rfl st) ?_
                  rintro ⟨i294, r295, l228, l230, v229, v231⟩ ⟨h300, h299⟩
                  try dsimp only at h300 h299
                  refine GL.weak (env' := [(12, v229), (13, v231), (89, .int .i64 x107), (90, .int .i64 (i294 : Int))]) (L' := [own 3 TR.int v229 l228, own 3 TR.int v231 l230]) (fun _ _ st => st) ?_
                  refine GL.seq ?_
                  refine GL.region ?_
                  refine RL.binI (v := .bool (decide ((i294 : Int) < x107))) rfl rfl rfl rfl rfl ?_
                  refine RL.finG ?_
                  refine GL.seq ?_
                  refine GL.cond rfl (fun b302 => ?_) (fun b302 => ?_)
                  · have h303 : i294 < (x107).toNat := by have := of_decide_eq_true b302; omega
                    obtain ⟨r304, hr⟩ : ∃ m, r295 = m + 1 := ⟨r295 - 1, by omega⟩
                    subst hr
                    obtain ⟨z296, h297, h298⟩ := rangeN_some h299
                    unfold seats_Share_b3 at h297
                    try dsimp only at h297
                    refine GL.skip ?_
                    refine GL.seq ?_
                    refine GL.block ?_
                    refine GL.seq ?_
                    refine GL.region ?_
                    refine RL.asg rfl rfl rfl ?_
                    refine RL.finG ?_
                    refine GL.seq ?_
                    refine GL.seq ?_
                    refine GL.region ?_
                    refine RL.mv rfl rfl rfl ?_
                    refine RL.lenS 1 Try.underlying22 rfl rfl rfl rfl SlOf.own ?_
                    refine RL.mv rfl rfl rfl ?_
                    refine RL.finG ?_
                    refine GL.lenOwn 1 rfl (fun n315 => ?_)
                    obtain ⟨y316, K317, h318, h319, h320, h321, h322⟩ := bindF_K h297
                    refine GL.join (ι := Int) (fun (p : Int) => [(12, v229), (13, v231), (17, .int .i64 p), (89, .int .i64 x107), (90, .int .i64 (i294 : Int))]) (fun (p : Int) => [own 3 TR.int v229 l228, own 3 TR.int v231 l230]) (fun (p : Int) => K317 (.nx p)) ?_ ?_
                    · refine GL.block ?_
                      refine GL.loop (ι := Nat × Nat × Int) (fun (p : Nat × Nat × Int) => [(12, v229), (13, v231), (17, .int .i64 p.2.2), (89, .int .i64 x107), (90, .int .i64 (i294 : Int)), (93, .int .i64 ((l230).length : Int)), (94, .int .i64 (p.1 : Int))]) (fun (p : Nat × Nat × Int) => [own 3 TR.int v229 l228, own 3 TR.int v231 l230]) (fun (p : Nat × Nat × Int) => p.1 + p.2.1 = (l230).length ∧ rangeN (seats_Share_b4 l230) p.2.1 p.1 p.2.2 = some y316) (fun (p : Nat × Nat × Int) => p.2.1) (0, (l230).length, (0 : Int)) ⟨by simp, h318⟩ (fun a w st => St.cut [0, 1] ⟨rfl, rfl, rfl, rfl, rfl, rfl, rfl, trivial⟩ (by decide) rfl st) ?_
                      rintro ⟨i323, r324, x305⟩ ⟨h329, h328⟩
                      try dsimp only at h329 h328
                      refine GL.weak (env' := [(12, v229), (13, v231), (17, .int .i64 x305), (89, .int .i64 x107), (90, .int .i64 (i294 : Int)), (93, .int .i64 ((l230).length : Int)), (94, .int .i64 (i323 : Int))]) (L' := [own 3 TR.int v229 l228, own 3 TR.int v231 l230]) (fun _ _ st => st) ?_
                      refine GL.seq ?_
                      refine GL.region ?_
                      refine RL.binI (v := .bool (decide ((i323 : Int) < ((l230).length : Int)))) rfl rfl rfl rfl rfl ?_
                      refine RL.finG ?_
                      refine GL.seq ?_
                      refine GL.cond rfl (fun b331 => ?_) (fun b331 => ?_)
                      · have h332 : i323 < (l230).length := by have := of_decide_eq_true b331; omega
                        obtain ⟨r333, hr⟩ : ∃ m, r324 = m + 1 := ⟨r324 - 1, by omega⟩
                        subst hr
                        obtain ⟨z325, h326, h327⟩ := rangeN_some h328
                        unfold seats_Share_b4 at h326
                        try dsimp only at h326
                        refine GL.skip ?_
                        refine GL.seq ?_
                        refine GL.block ?_
                        refine GL.seq ?_
                        refine GL.region ?_
                        refine RL.mv rfl rfl rfl ?_
                        refine RL.asg rfl rfl rfl ?_
                        refine RL.finG ?_
                        refine GL.seq ?_
                        refine GL.regionQ rfl rfl (by kernel_rfl) ?_
                        refine RL.mv rfl rfl rfl ?_
                        refine RL.mv rfl rfl rfl ?_
                        obtain ⟨y338, e339, h326⟩ := bind_some h326
                        refine RL.idxS (sz := 1) 1 Try.underlying22 Try_ln3 rfl rfl rfl rfl rfl SlOf.own (idx_some e339).1 (idx_some e339).2.1 ?_
                        refine RL.ldSx (i := i323) (e' := y338) 1 Ex.ik Try_ln3 rfl rfl rfl rfl SlOf.own (idx_some e339).2.2 Part.self ?_
                        refine RL.mv rfl rfl rfl ?_
                        refine RL.mv rfl rfl rfl ?_
                        obtain ⟨y340, e341, h326⟩ := bind_some h326
                        refine RL.idxS (sz := 1) 1 Try.underlying22 Try_ln3 rfl rfl rfl rfl rfl SlOf.own (idx_some e341).1 (idx_some e341).2.1 ?_
                        refine RL.ldSx (i := (x305).toNat) (e' := y340) 1 Ex.ik Try_ln3 rfl rfl rfl rfl SlOf.own (idx_some e341).2.2 Part.self ?_
                        refine RL.binI (v := .bool (decide (y338 > y340))) rfl rfl rfl rfl rfl ?_
                        refine RL.finQG ?_
                        refine GL.cond rfl (fun b342 => ?_) (fun b342 => ?_)
                        · replace h326 := ite_t b342 h326
                          refine GL.region ?_
                          refine RL.mv rfl rfl rfl ?_
                          refine RL.asg rfl rfl rfl ?_
                          refine RL.finG ?_
                          refine GL.nilB ?_
                          refine GL.region ?_
                          refine RL.binI (v := .int .i64 ((i323 + 1 : Nat) : Int)) rfl rfl rfl rfl (binI_succ i323 (by omega)) ?_
                          refine RL.mv rfl rfl rfl ?_
                          refine RL.fin ?_
                          cases h326
                          exact fun a w st => lop_intro (i323 + 1, r333, (i323 : Int)) ⟨by show i323 + 1 + r333 = (l230).length; omega, h327⟩ (by simp) (St.cut [0, 1] ⟨rfl, rfl, rfl, rfl, rfl, rfl, rfl, trivial⟩ (by decide) rfl st)
                        · replace h326 := ite_f b342 h326
                          refine GL.skip ?_
                          refine GL.nilB ?_
                          refine GL.region ?_
                          refine RL.binI (v := .int .i64 ((i323 + 1 : Nat) : Int)) rfl rfl rfl rfl (binI_succ i323 (by omega)) ?_
                          refine RL.mv rfl rfl rfl ?_
                          refine RL.fin ?_
                          cases h326
                          exact fun a w st => lop_intro (i323 + 1, r333, x305) ⟨by show i323 + 1 + r333 = (l230).length; omega, h327⟩ (by simp) (St.cut [0, 1] ⟨rfl, rfl, rfl, rfl, rfl, rfl, rfl, trivial⟩ (by decide) rfl st)
                      · have h332 : ¬ i323 < (l230).length := by have := of_decide_eq_false b331; omega
                        obtain rfl : r324 = 0 := by omega
                        replace h328 : some (Fl.nx _) = some y316 := h328
                        cases h328
                        exact GL.exit (fun a w st => mid_intro x305 h319 (St.cut [0, 1] ⟨rfl, rfl, rfl, rfl, rfl, trivial⟩ (by decide) rfl st))
                    · rintro x305 h343
                      have h344 := h320 _ h343
                      try dsimp only at h344
                      refine GL.weak (env' := [(12, v229), (13, v231), (17, .int .i64 x305), (89, .int .i64 x107), (90, .int .i64 (i294 : Int))]) (L' := [own 3 TR.int v229 l228, own 3 TR.int v231 l230]) (fun _ _ st => st) ?_
                      refine GL.seq ?_
                      refine GL.region ?_
                      refine RL.mv rfl rfl rfl ?_
                      refine RL.mv rfl rfl rfl ?_
                      obtain ⟨y349, e350, h344⟩ := bind_some h344
                      refine RL.idxS (sz := 1) 0 Try.underlying22 Try_ln3 rfl rfl rfl rfl rfl SlOf.own (idx_some e350).1 (idx_some e350).2.1 ?_
                      refine RL.ldSx (i := (x305).toNat) (e' := y349) 0 Ex.ik Try_ln3 rfl rfl rfl rfl SlOf.own (idx_some e350).2.2 Part.self ?_
                      refine RL.binI (v := .int .i64 (wadd y349 (1 : Int))) rfl rfl rfl rfl rfl ?_
                      obtain ⟨y351, e352, h344⟩ := bind_some h344
                      refine RL.idxS (sz := 1) 0 Try.underlying22 Try_ln3 rfl rfl rfl rfl rfl SlOf.own (idx_some e352).1 (idx_some e352).2.1 ?_
                      refine RL.stS (i := (x305).toNat) (e' := wadd y349 (1 : Int)) (e1 := wadd y349 (1 : Int)) (r := TR.int) 0 Try_ln3 rfl rfl rfl rfl VR.int rfl (idx_some e352).2.2 Upd.self ?_
                      refine RL.finG ?_
                      refine GL.region ?_
                      refine RL.mv rfl rfl rfl ?_
                      refine RL.mv rfl rfl rfl ?_
                      obtain ⟨y355, e356, h344⟩ := bind_some h344
                      refine RL.idxS (sz := 1) 1 Try.underlying22 Try_ln3 rfl rfl rfl rfl rfl SlOf.own (idx_some e356).1 (idx_some e356).2.1 ?_
                      refine RL.stS (i := (x305).toNat) (e' := (-1 : Int)) (e1 := (-1 : Int)) (r := TR.int) 1 Try_ln3 rfl rfl rfl rfl VR.int rfl (idx_some e356).2.2 Upd.self ?_
                      refine RL.reL (L' := [own 3 TR.int v229 (List.set l228 ((x305).toNat) (wadd y349 (1 : Int))), own 3 TR.int v231 (List.set l230 ((x305).toNat) (-1 : Int))]) rfl ?_
                      refine RL.finG ?_
                      refine GL.nilB ?_
                      refine GL.region ?_
                      refine RL.binI (v := .int .i64 ((i294 + 1 : Nat) : Int)) rfl rfl rfl rfl (binI_succ i294 (by omega)) ?_
                      refine RL.mv rfl rfl rfl ?_
                      refine RL.fin ?_
                      cases h344
                      exact fun a w st => lop_intro (i294 + 1, r304, (List.set l228 ((x305).toNat) (wadd y349 (1 : Int))), (List.set l230 ((x305).toNat) (-1 : Int)), v229, v231) ⟨by show i294 + 1 + r304 = (x107).toNat; omega, h298⟩ (by simp) (St.cut [0, 1] ⟨rfl, rfl, rfl, rfl, trivial⟩ (by decide) rfl st)
                  · have h303 : ¬ i294 < (x107).toNat := by have := of_decide_eq_false b302; omega
                    obtain rfl : r295 = 0 := by omega
                    replace h299 : some (Fl.nx _) = some y287 := h299
                    cases h299
                    exact GL.exit (fun a w st => mid_intro (l228, l230, v229) h290 (St.cut [0] ⟨rfl, trivial⟩ (by decide) rfl st))
                · rintro ⟨l228, l230, v229⟩ h357
                  have h358 := h291 _ h357
                  try dsimp only at h358
                  refine GL.weak (env' := [(12, v229)]) (L' := [own 3 TR.int v229 l228]) (fun _ _ st => st) ?_
                  refine GL.seq ?_
                  refine GL.region ?_
                  refine RL.mv rfl rfl rfl ?_
                  refine RL.asg rfl rfl rfl ?_
                  refine RL.asg rfl rfl rfl ?_
                  refine RL.finG ?_
                  have h358 := Option.some.inj h358
                  subst h358
                  exact GL.ret (Gx.ret (v := .tuple #[v229, .int .i64 (0 : Int)]) (res2 rfl rfl rfl) (fun a w st => (st.pick [0] (by decide) rfl).toPost v229))

set_option maxHeartbeats 4000000 in
theorem slices_IndexFunc_api_Errno_api_Errno_c (S : Hp) (w : World) (hS : S.sub w) (v0 : Value) (x0 : (List Int)) (k0 : ((TR.sl TR.int)).vrep S v0 x0) (f1 : FuncId) (c1 : Array Value) (t1 : Fit Try.prog f1) (g1 : Int → Option Bool) (k1 : ∀ (U : Hp) (w' : World), Hp.le S U → U.sub w' → ∀ (a0 : Int) (rr : Bool), g1 a0 = some rr → Calls Try.prog f1 (#[.int .i64 a0] ++ c1) w' (PostV w' (.bool rr))) (res : Int) (hm : slices_IndexFunc_api_Errno_api_Errno_m x0 g1 = some res) : Calls Try.prog 40 #[v0, .func (.func f1) #[] c1] w (PostV w (.int .i64 res)) := by
  refine calls_enter 19 Try.func40 Try.ntmps40 rfl S false [(0, v0), (1, .func (.func f1) #[] c1)] [imm (TR.sl TR.int) v0 x0] rfl ⟨rfl, ⟨rfl, trivial⟩⟩ hS ⟨k0, trivial⟩ ?_
  unfold slices_IndexFunc_api_Errno_api_Errno_m at hm
  refine GL.seq ?_
  refine GL.region ?_
  refine RL.asg rfl rfl rfl ?_
  refine RL.finG ?_
  refine GL.seq ?_
  refine GL.seq ?_
  refine GL.region ?_
  refine RL.mv rfl rfl rfl ?_
  refine RL.lenS 0 Try.underlying54 rfl rfl rfl rfl SlOf.imm ?_
  refine RL.mv rfl rfl rfl ?_
  refine RL.finG ?_
  refine GL.open_ 0 rfl (fun S h => len_imm S h) (fun n12 => ?_)
  obtain ⟨y13, K14, h15, h16, h17, h18, h19⟩ := bindR_K hm
  refine GL.join (ι := Unit) (fun (p : Unit) => []) (fun (p : Unit) => []) (fun (p : Unit) => K14 (.nx ())) ?_ ?_
  · refine GL.block ?_
    refine GL.loop (ι := Nat × (List Int)) (fun (p : Nat × (List Int)) => [(0, v0), (1, .func (.func f1) #[] c1), (7, .int .i64 ((x0).length : Int)), (8, .int .i64 (p.1 : Int))]) (fun (p : Nat × (List Int)) => [imm (TR.sl TR.int) v0 x0]) (fun (p : Nat × (List Int)) => p.1 + p.2.length = (x0).length ∧ List.drop p.1 x0 = p.2 ∧ rangeL (slices_IndexFunc_api_Errno_api_Errno_b1 g1) p.2 p.1 () = some y13) (fun (p : Nat × (List Int)) => p.2.length) (0, x0) ⟨by simp, by simp, h15⟩ (fun a w st => St.cut [0] ⟨rfl, rfl, rfl, rfl, trivial⟩ (by decide) rfl st) ?_
    rintro ⟨i20, r21⟩ ⟨h26, h27, h25⟩
    try dsimp only at h26 h27 h25
    refine GL.weak (env' := [(0, v0), (1, .func (.func f1) #[] c1), (7, .int .i64 ((x0).length : Int)), (8, .int .i64 (i20 : Int))]) (L' := [imm (TR.sl TR.int) v0 x0]) (fun _ _ st => st) ?_
    refine GL.seq ?_
    refine GL.region ?_
    refine RL.binI (v := .bool (decide ((i20 : Int) < ((x0).length : Int)))) rfl rfl rfl rfl rfl ?_
    refine RL.finG ?_
    refine GL.seq ?_
    refine GL.cond rfl (fun b28 => ?_) (fun b28 => ?_)
    · have h29 : i20 < (x0).length := by have := of_decide_eq_true b28; omega
      obtain ⟨y30, r32, hr, e31, h33⟩ := drop_cons h27 rfl h29
      subst hr
      obtain ⟨z22, h23, h24⟩ := rangeL_some h25
      unfold slices_IndexFunc_api_Errno_api_Errno_b1 at h23
      try dsimp only at h23
      refine GL.skip ?_
      refine GL.seq ?_
      refine GL.block ?_
      refine GL.seq ?_
      refine GL.region ?_
      refine RL.mv rfl rfl rfl ?_
      refine RL.asg rfl rfl rfl ?_
      refine RL.finG ?_
      refine GL.seq ?_
      refine GL.region ?_
      refine RL.mv rfl rfl rfl ?_
      refine RL.mv rfl rfl rfl ?_
      refine RL.mv rfl rfl rfl ?_
      refine RL.idxS (sz := 1) 0 Try.underlying54 Try_ln26 rfl rfl rfl rfl rfl SlOf.imm (by omega) (by omega) ?_
      refine RL.ldSx (i := i20) (e' := y30) 0 Ex.ik Try_ln26 rfl rfl rfl rfl SlOf.imm e31 Part.self ?_
      obtain ⟨y36, e37, h23⟩ := bind_some h23
      refine RL.callV (v := .bool y36) (vs := [.int .i64 y30]) t1 rfl (Or.inl rfl) rfl rfl rfl rfl (fun U w hU hW hL => k1 U w hW hU y30 _ e37) ?_
      refine RL.finG ?_
      refine GL.cond rfl (fun b38 => ?_) (fun b38 => ?_)
      · replace h23 := ite_t b38 h23
        refine GL.seq ?_
        refine GL.region ?_
        refine RL.mv rfl rfl rfl ?_
        refine RL.asg rfl rfl rfl ?_
        refine RL.finG ?_
        cases h23
        replace h24 : some (Fl.rt _) = some y13 := h24
        cases h24
        have hh := h18 _ h16
        subst hh
        exact GL.ret (Gx.ret (v := .int .i64 (i20 : Int)) (res1 rfl rfl) (fun a w st => st.toPostV))
      · replace h23 := ite_f b38 h23
        refine GL.skip ?_
        refine GL.nilB ?_
        refine GL.region ?_
        refine RL.binI (v := .int .i64 ((i20 + 1 : Nat) : Int)) rfl rfl rfl rfl (binI_succ i20 (by omega)) ?_
        refine RL.mv rfl rfl rfl ?_
        refine RL.fin ?_
        cases h23
        exact fun a w st => lop_intro (i20 + 1, r32) ⟨by show i20 + 1 + r32.length = (x0).length; simp only [List.length_cons] at h26; omega, h33, h24⟩ (by simp) (St.cut [0] ⟨rfl, rfl, rfl, rfl, trivial⟩ (by decide) rfl st)
    · have h29 : ¬ i20 < (x0).length := by have := of_decide_eq_false b28; omega
      obtain rfl : r21 = [] := by rw [← h27]; exact List.drop_of_length_le (by omega)
      replace h25 : some (Fl.nx _) = some y13 := h25
      cases h25
      exact GL.exit (fun a w st => mid_intro () h16 (St.cut [] trivial (by decide) rfl st))
  · rintro ⟨⟩ h39
    have h40 := h17 _ h39
    try dsimp only at h40
    refine GL.weak (env' := []) (L' := []) (fun _ _ st => st) ?_
    refine GL.seq ?_
    refine GL.region ?_
    refine RL.asg rfl rfl rfl ?_
    refine RL.finG ?_
    have h40 := Option.some.inj h40
    subst h40
    exact GL.ret (Gx.ret (v := .int .i64 (-1 : Int)) (res1 rfl rfl) (fun a w st => st.toPostV))

set_option maxHeartbeats 4000000 in
theorem slices_ContainsFunc_api_Errno_api_Errno_c (S : Hp) (w : World) (hS : S.sub w) (v0 : Value) (x0 : (List Int)) (k0 : ((TR.sl TR.int)).vrep S v0 x0) (f1 : FuncId) (c1 : Array Value) (t1 : Fit Try.prog f1) (g1 : Int → Option Bool) (k1 : ∀ (U : Hp) (w' : World), Hp.le S U → U.sub w' → ∀ (a0 : Int) (rr : Bool), g1 a0 = some rr → Calls Try.prog f1 (#[.int .i64 a0] ++ c1) w' (PostV w' (.bool rr))) (res : Bool) (hm : slices_ContainsFunc_api_Errno_api_Errno_m x0 g1 = some res) : Calls Try.prog 34 #[v0, .func (.func f1) #[] c1] w (PostV w (.bool res)) := by
  refine calls_enter 9 Try.func34 Try.ntmps34 rfl S false [(0, v0), (1, .func (.func f1) #[] c1)] [imm (TR.sl TR.int) v0 x0] rfl ⟨rfl, ⟨rfl, trivial⟩⟩ hS ⟨k0, trivial⟩ ?_
  unfold slices_ContainsFunc_api_Errno_api_Errno_m at hm
  refine GL.seq ?_
  refine GL.region ?_
  refine RL.asg rfl rfl rfl ?_
  refine RL.finG ?_
  refine GL.seq ?_
  refine GL.region ?_
  refine RL.mv rfl rfl rfl ?_
  refine RL.mv rfl rfl rfl ?_
  obtain ⟨y5, e6, hm⟩ := bind_some hm
  refine RL.callV (v := .int .i64 y5) (vs := [v0, .func (.func f1) #[] c1]) Try_fit40 rfl (Or.inl rfl) rfl rfl rfl rfl (fun U w hU hW hL => slices_IndexFunc_api_Errno_api_Errno_c U w hU _ _ (hL 0 _ _ rfl Seen.imm) f1 c1 t1 g1 (fun U' w' hle => k1 U' w' (Hp.le_trans hW hle)) _ e6) ?_
  refine RL.binI (v := .bool (decide (y5 ≥ (0 : Int)))) rfl rfl rfl rfl rfl ?_
  refine RL.asg rfl rfl rfl ?_
  refine RL.finG ?_
  have hm := Option.some.inj hm
  subst hm
  exact GL.ret (Gx.ret (v := .bool (decide (y5 ≥ (0 : Int)))) (res1 rfl rfl) (fun a w st => st.toPostV))

set_option maxHeartbeats 4000000 in
theorem pk_good_1_c (S : Hp) (w : World) (hS : S.sub w) (x0 : Int) (res : Bool) (hm : pk_good_1_m x0 = some res) : Calls Try.prog 35 #[.int .i64 x0] w (PostC w (.bool res)) := by
  refine calls_enter 5 Try.func35 Try.ntmps35 rfl S true [(0, .int .i64 x0)] [] rfl ⟨rfl, trivial⟩ hS trivial ?_
  unfold pk_good_1_m at hm
  refine GL.seq ?_
  refine GL.region ?_
  refine RL.asg rfl rfl rfl ?_
  refine RL.finG ?_
  refine GL.seq ?_
  refine GL.region ?_
  refine RL.mv rfl rfl rfl ?_
  refine RL.binI (v := .bool (x0 != (0 : Int))) rfl rfl rfl rfl rfl ?_
  refine RL.asg rfl rfl rfl ?_
  refine RL.finG ?_
  have hm := Option.some.inj hm
  subst hm
  exact GL.ret (Gx.ret (v := .bool (x0 != (0 : Int))) (res1 rfl rfl) (fun a w st => st.toPostC rfl))

set_option maxHeartbeats 4000000 in
theorem pk_good_c (S : Hp) (w : World) (hS : S.sub w) (v0 : Value) (x0 : (List Int)) (k0 : ((TR.sl TR.int)).vrep S v0 x0) (res : Bool) (hm : pk_good_m x0 = some res) : Calls Try.prog 17 #[v0] w (PostV w (.bool res)) := by
  refine calls_enter 6 Try.func17 Try.ntmps17 rfl S false [(0, v0)] [imm (TR.sl TR.int) v0 x0] rfl ⟨rfl, trivial⟩ hS ⟨k0, trivial⟩ ?_
  unfold pk_good_m at hm
  refine GL.seq ?_
  refine GL.region ?_
  refine RL.asg rfl rfl rfl ?_
  refine RL.finG ?_
  refine GL.seq ?_
  refine GL.region ?_
  refine RL.mv rfl rfl rfl ?_
  obtain ⟨y4, e5, hm⟩ := bind_some hm
  refine RL.callV (v := .bool y4) (vs := [v0, .func (.func 35) #[] #[]]) Try_fit34 rfl (Or.inl rfl) rfl rfl rfl rfl (fun U w hU hW hL => slices_ContainsFunc_api_Errno_api_Errno_c U w hU _ _ (hL 0 _ _ rfl Seen.imm) 35 #[] Try_fit35 (fun a0 => pk_good_1_m a0) (fun U' w' hle hU' a0 rr hr => (pk_good_1_c U' w' hU' a0 rr hr).mono (fun _ _ z => z.toV)) _ e5) ?_
  refine RL.notB rfl rfl rfl ?_
  refine RL.asg rfl rfl rfl ?_
  refine RL.finG ?_
  have hm := Option.some.inj hm
  subst hm
  exact GL.ret (Gx.ret (v := .bool (!y4)) (res1 rfl rfl) (fun a w st => st.toPostV))

set_option maxHeartbeats 4000000 in
theorem slices_Equal_int_int_c (S : Hp) (w : World) (hS : S.sub w) (v0 : Value) (x0 : (List Int)) (k0 : ((TR.sl TR.int)).vrep S v0 x0) (v1 : Value) (x1 : (List Int)) (k1 : ((TR.sl TR.int)).vrep S v1 x1) (res : Bool) (hm : slices_Equal_int_int_m x0 x1 = some res) : Calls Try.prog 18 #[v0, v1] w (PostV w (.bool res)) := by
  refine calls_enter 26 Try.func18 Try.ntmps18 rfl S false [(0, v0), (1, v1)] [imm (TR.sl TR.int) v0 x0, imm (TR.sl TR.int) v1 x1] rfl ⟨rfl, ⟨rfl, trivial⟩⟩ hS ⟨k0, ⟨k1, trivial⟩⟩ ?_
  unfold slices_Equal_int_int_m at hm
  refine GL.seq ?_
  refine GL.region ?_
  refine RL.asg rfl rfl rfl ?_
  refine RL.finG ?_
  refine GL.seq ?_
  refine GL.seq ?_
  refine GL.region ?_
  refine RL.mv rfl rfl rfl ?_
  refine RL.lenS 0 Try.underlying22 rfl rfl rfl rfl SlOf.imm ?_
  refine RL.mv rfl rfl rfl ?_
  refine RL.lenS 1 Try.underlying22 rfl rfl rfl rfl SlOf.imm ?_
  refine RL.binI (v := .bool (((x0).length : Int) != ((x1).length : Int))) rfl rfl rfl rfl rfl ?_
  refine RL.finG ?_
  refine GL.cond rfl (fun b3 => ?_) (fun b3 => ?_)
  · replace hm := ite_t b3 hm
    refine GL.seq ?_
    refine GL.region ?_
    refine RL.asg rfl rfl rfl ?_
    refine RL.finG ?_
    have hm := Option.some.inj hm
    subst hm
    exact GL.ret (Gx.ret (v := .bool false) (res1 rfl rfl) (fun a w st => st.toPostV))
  · replace hm := ite_f b3 hm
    refine GL.skip ?_
    refine GL.seq ?_
    refine GL.seq ?_
    refine GL.region ?_
    refine RL.mv rfl rfl rfl ?_
    refine RL.lenS 0 Try.underlying22 rfl rfl rfl rfl SlOf.imm ?_
    refine RL.mv rfl rfl rfl ?_
    refine RL.finG ?_
    refine GL.open_ 0 rfl (fun S h => len_imm S h) (fun n13 => ?_)
    obtain ⟨y14, K15, h16, h17, h18, h19, h20⟩ := bindR_K hm
    refine GL.join (ι := Unit) (fun (p : Unit) => []) (fun (p : Unit) => []) (fun (p : Unit) => K15 (.nx ())) ?_ ?_
    · refine GL.block ?_
      refine GL.loop (ι := Nat × (List Int)) (fun (p : Nat × (List Int)) => [(0, v0), (1, v1), (12, .int .i64 ((x0).length : Int)), (13, .int .i64 (p.1 : Int))]) (fun (p : Nat × (List Int)) => [imm (TR.sl TR.int) v0 x0, imm (TR.sl TR.int) v1 x1]) (fun (p : Nat × (List Int)) => p.1 + p.2.length = (x0).length ∧ List.drop p.1 x0 = p.2 ∧ rangeL (slices_Equal_int_int_b1 x1) p.2 p.1 () = some y14) (fun (p : Nat × (List Int)) => p.2.length) (0, x0) ⟨by simp, by simp, h16⟩ (fun a w st => St.cut [0, 1] ⟨rfl, rfl, rfl, rfl, trivial⟩ (by decide) rfl st) ?_
      rintro ⟨i21, r22⟩ ⟨h27, h28, h26⟩
      try dsimp only at h27 h28 h26
      refine GL.weak (env' := [(0, v0), (1, v1), (12, .int .i64 ((x0).length : Int)), (13, .int .i64 (i21 : Int))]) (L' := [imm (TR.sl TR.int) v0 x0, imm (TR.sl TR.int) v1 x1]) (fun _ _ st => st) ?_
      refine GL.seq ?_
      refine GL.region ?_
      refine RL.binI (v := .bool (decide ((i21 : Int) < ((x0).length : Int)))) rfl rfl rfl rfl rfl ?_
      refine RL.finG ?_
      refine GL.seq ?_
      refine GL.cond rfl (fun b29 => ?_) (fun b29 => ?_)
      · have h30 : i21 < (x0).length := by have := of_decide_eq_true b29; omega
        obtain ⟨y31, r33, hr, e32, h34⟩ := drop_cons h28 rfl h30
        subst hr
        obtain ⟨z23, h24, h25⟩ := rangeL_some h26
        unfold slices_Equal_int_int_b1 at h24
        try dsimp only at h24
        refine GL.skip ?_
        refine GL.seq ?_
        refine GL.block ?_
        refine GL.seq ?_
        refine GL.region ?_
        refine RL.mv rfl rfl rfl ?_
        refine RL.asg rfl rfl rfl ?_
        refine RL.finG ?_
        refine GL.seq ?_
        refine GL.regionQ rfl rfl (by kernel_rfl) ?_
        refine RL.mv rfl rfl rfl ?_
        refine RL.mv rfl rfl rfl ?_
        refine RL.idxS (sz := 1) 0 Try.underlying22 Try_ln3 rfl rfl rfl rfl rfl SlOf.imm (by omega) (by omega) ?_
        refine RL.ldSx (i := i21) (e' := y31) 0 Ex.ik Try_ln3 rfl rfl rfl rfl SlOf.imm e32 Part.self ?_
        refine RL.mv rfl rfl rfl ?_
        refine RL.mv rfl rfl rfl ?_
        obtain ⟨y37, e38, h24⟩ := bind_some h24
        refine RL.idxS (sz := 1) 1 Try.underlying22 Try_ln3 rfl rfl rfl rfl rfl SlOf.imm (idx_some e38).1 (idx_some e38).2.1 ?_
        refine RL.ldSx (i := i21) (e' := y37) 1 Ex.ik Try_ln3 rfl rfl rfl rfl SlOf.imm (idx_some e38).2.2 Part.self ?_
        refine RL.binI (v := .bool (y31 != y37)) rfl rfl rfl rfl rfl ?_
        refine RL.finQG ?_
        refine GL.cond rfl (fun b39 => ?_) (fun b39 => ?_)
        · replace h24 := ite_t b39 h24
          refine GL.seq ?_
          refine GL.region ?_
          refine RL.asg rfl rfl rfl ?_
          refine RL.finG ?_
          cases h24
          replace h25 : some (Fl.rt _) = some y14 := h25
          cases h25
          have hh := h19 _ h17
          subst hh
          exact GL.ret (Gx.ret (v := .bool false) (res1 rfl rfl) (fun a w st => st.toPostV))
        · replace h24 := ite_f b39 h24
          refine GL.skip ?_
          refine GL.nilB ?_
          refine GL.region ?_
          refine RL.binI (v := .int .i64 ((i21 + 1 : Nat) : Int)) rfl rfl rfl rfl (binI_succ i21 (by omega)) ?_
          refine RL.mv rfl rfl rfl ?_
          refine RL.fin ?_
          cases h24
          exact fun a w st => lop_intro (i21 + 1, r33) ⟨by show i21 + 1 + r33.length = (x0).length; simp only [List.length_cons] at h27; omega, h34, h25⟩ (by simp) (St.cut [0, 1] ⟨rfl, rfl, rfl, rfl, trivial⟩ (by decide) rfl st)
      · have h30 : ¬ i21 < (x0).length := by have := of_decide_eq_false b29; omega
        obtain rfl : r22 = [] := by rw [← h28]; exact List.drop_of_length_le (by omega)
        replace h26 : some (Fl.nx _) = some y14 := h26
        cases h26
        exact GL.exit (fun a w st => mid_intro () h17 (St.cut [] trivial (by decide) rfl st))
    · rintro ⟨⟩ h40
      have h41 := h18 _ h40
      try dsimp only at h41
      refine GL.weak (env' := []) (L' := []) (fun _ _ st => st) ?_
      refine GL.seq ?_
      refine GL.region ?_
      refine RL.asg rfl rfl rfl ?_
      refine RL.finG ?_
      have h41 := Option.some.inj h41
      subst h41
      exact GL.ret (Gx.ret (v := .bool true) (res1 rfl rfl) (fun a w st => st.toPostV))

set_option maxHeartbeats 4000000 in
theorem pk_shares_c (S : Hp) (w : World) (hS : S.sub w)  (res : Bool) (hm : pk_shares_m = some res) : Calls Try.prog 19 #[] w (PostV w (.bool res)) := by
  refine calls_enter 29 Try.func19 Try.ntmps19 rfl S false [] [] rfl trivial hS trivial ?_
  unfold pk_shares_m at hm
  refine GL.seq ?_
  refine GL.region ?_
  refine RL.asg rfl rfl rfl ?_
  refine RL.finG ?_
  refine GL.seq ?_
  refine GL.region ?_
  refine RL.bS (t := TR.int) (vs := [.int .i64 (60 : Int), .int .i64 (30 : Int), .int .i64 (10 : Int)]) ([(60 : Int), (30 : Int), (10 : Int)] : (List Int)) Try.underlying22 Try_lo3 rfl rfl rfl rfl ⟨VR.int, ⟨VR.int, ⟨VR.int, trivial⟩⟩⟩ rfl (by decide) ?_
  intro v5
  refine RL.weak (fun a w st => st.freeze 0 rfl) ?_
  obtain ⟨y6, e7, hm⟩ := bind_some hm
  refine RL.call (vs := [.int .i64 (1 : Int), v5, .int .i64 (5 : Int)]) Try_fit21 rfl rfl rfl rfl rfl (fun S f w hS hW hi => seats_Share_c S w hS (1 : Int) _ _ (hi 0 _ rfl) (5 : Int) _ e7) ?_
  intro v8
  refine RL.reL (L' := [imm (TR.sl TR.int) v5 ([(60 : Int), (30 : Int), (10 : Int)] : (List Int)), own 3 TR.int v8 y6.1]) rfl ?_
  refine RL.mv rfl rfl rfl ?_
  refine RL.ext rfl rfl rfl rfl ?_
  refine RL.ext rfl rfl rfl rfl ?_
  refine RL.asg rfl rfl rfl ?_
  refine RL.asg rfl rfl rfl ?_
  refine RL.finG ?_
  refine GL.seq ?_
  refine GL.region ?_
  refine RL.bS (t := TR.int) (vs := [.int .i64 (60 : Int), .int .i64 (30 : Int), .int .i64 (10 : Int)]) ([(60 : Int), (30 : Int), (10 : Int)] : (List Int)) Try.underlying22 Try_lo3 rfl rfl rfl rfl ⟨VR.int, ⟨VR.int, ⟨VR.int, trivial⟩⟩⟩ rfl (by decide) ?_
  intro v13
  refine RL.weak (fun a w st => st.freeze 2 rfl) ?_
  obtain ⟨y14, e15, hm⟩ := bind_some hm
  refine RL.call (vs := [.int .i64 (3 : Int), v13, .int .i64 (5 : Int)]) Try_fit21 rfl rfl rfl rfl rfl (fun S f w hS hW hi => seats_Share_c S w hS (3 : Int) _ _ (hi 2 _ rfl) (5 : Int) _ e15) ?_
  intro v16
  refine RL.reL (L' := [imm (TR.sl TR.int) v5 ([(60 : Int), (30 : Int), (10 : Int)] : (List Int)), own 3 TR.int v8 y6.1, imm (TR.sl TR.int) v13 ([(60 : Int), (30 : Int), (10 : Int)] : (List Int)), own 3 TR.int v16 y14.1]) rfl ?_
  refine RL.mv rfl rfl rfl ?_
  refine RL.ext rfl rfl rfl rfl ?_
  refine RL.ext rfl rfl rfl rfl ?_
  refine RL.asg rfl rfl rfl ?_
  refine RL.asg rfl rfl rfl ?_
  refine RL.finG ?_
  refine GL.seq ?_
  obtain ⟨y40, K41, h42, h43, h44, h45, h46⟩ := bindR_K hm
  refine GL.join (ι := Bool) (fun (p : Bool) => [(0, .bool p)]) (fun (p : Bool) => []) (fun (p : Bool) => K41 (.nx p)) ?_ ?_
  · skip
    refine GL.region ?_
    refine RL.mv rfl rfl rfl ?_
    refine RL.mv rfl rfl rfl ?_
    refine RL.bS (t := TR.int) (vs := [.int .i64 y6.2, .int .i64 y14.2]) ([y6.2, y14.2] : (List Int)) Try.underlying54 Try_lo26 rfl rfl rfl rfl ⟨VR.int, ⟨VR.int, trivial⟩⟩ rfl (by decide) ?_
    intro v47
    obtain ⟨y48, e49, h42⟩ := bind_some h42
    refine RL.callV (v := .bool y48) (vs := [v47]) Try_fit17 rfl (Or.inl rfl) rfl rfl rfl rfl (fun U w hU hW hL => pk_good_c U w hU _ _ (hL 4 _ _ rfl Seen.own) _ e49) ?_
    refine RL.mv rfl rfl rfl ?_
    refine RL.split (t := 19) rfl (fun b50 => ?_) (fun b50 => ?_)
    · replace h42 := ite_t b50 h42
      refine RL.mv rfl rfl rfl ?_
      refine RL.bS (t := TR.int) (vs := [.int .i64 (4 : Int), .int .i64 (1 : Int), .int .i64 (0 : Int)]) ([(4 : Int), (1 : Int), (0 : Int)] : (List Int)) Try.underlying22 Try_lo3 rfl rfl rfl rfl ⟨VR.int, ⟨VR.int, ⟨VR.int, trivial⟩⟩⟩ rfl (by decide) ?_
      intro v51
      refine RL.reL (L' := [imm (TR.sl TR.int) v5 ([(60 : Int), (30 : Int), (10 : Int)] : (List Int)), own 3 TR.int v8 y6.1, imm (TR.sl TR.int) v13 ([(60 : Int), (30 : Int), (10 : Int)] : (List Int)), own 3 TR.int v16 y14.1, own 26 TR.int v47 ([y6.2, y14.2] : (List Int)), own 3 TR.int v51 ([(4 : Int), (1 : Int), (0 : Int)] : (List Int))]) rfl ?_
      obtain ⟨y52, e53, h42⟩ := bind_some h42
      refine RL.callV (v := .bool y52) (vs := [v8, v51]) Try_fit18 rfl (Or.inl rfl) rfl rfl rfl rfl (fun U w hU hW hL => slices_Equal_int_int_c U w hU _ _ (hL 1 _ _ rfl Seen.own) _ _ (hL 5 _ _ rfl Seen.own) _ e53) ?_
      refine RL.pickT rfl rfl rfl rfl ?_
      refine RL.mv rfl rfl rfl ?_
      refine RL.split (t := 24) rfl (fun b54 => ?_) (fun b54 => ?_)
      · replace h42 := ite_t b54 h42
        refine RL.mv rfl rfl rfl ?_
        refine RL.bS (t := TR.int) (vs := [.int .i64 (3 : Int), .int .i64 (2 : Int), .int .i64 (0 : Int)]) ([(3 : Int), (2 : Int), (0 : Int)] : (List Int)) Try.underlying22 Try_lo3 rfl rfl rfl rfl ⟨VR.int, ⟨VR.int, ⟨VR.int, trivial⟩⟩⟩ rfl (by decide) ?_
        intro v55
        obtain ⟨y56, e57, h42⟩ := bind_some h42
        refine RL.callV (v := .bool y56) (vs := [v16, v55]) Try_fit18 rfl (Or.inl rfl) rfl rfl rfl rfl (fun U w hU hW hL => slices_Equal_int_int_c U w hU _ _ (hL 3 _ _ rfl Seen.own) _ _ (hL 6 _ _ rfl Seen.own) _ e57) ?_
        refine RL.pickT rfl rfl rfl rfl ?_
        refine RL.asg rfl rfl rfl ?_
        refine RL.fin ?_
        cases h42
        exact fun a w st => mid_intro y56 h43 (St.cut [] ⟨rfl, trivial⟩ (by decide) rfl st)
      · replace h42 := ite_f b54 h42
        refine RL.skip rfl rfl ?_
        refine RL.skip rfl rfl ?_
        refine RL.skip rfl rfl ?_
        refine RL.pickF rfl rfl rfl rfl ?_
        refine RL.asg rfl rfl rfl ?_
        refine RL.fin ?_
        cases h42
        exact fun a w st => mid_intro false h43 (St.cut [] ⟨rfl, trivial⟩ (by decide) rfl st)
    · replace h42 := ite_f b50 h42
      refine RL.skip rfl rfl ?_
      refine RL.skip rfl rfl ?_
      refine RL.skip rfl rfl ?_
      refine RL.pickF rfl rfl rfl rfl ?_
      refine RL.mv rfl rfl rfl ?_
      refine RL.skip rfl rfl ?_
      refine RL.skip rfl rfl ?_
      refine RL.skip rfl rfl ?_
      refine RL.pickF rfl rfl rfl rfl ?_
      refine RL.asg rfl rfl rfl ?_
      refine RL.fin ?_
      cases h42
      exact fun a w st => mid_intro false h43 (St.cut [] ⟨rfl, trivial⟩ (by decide) rfl st)
  · rintro x39 h58
    have h59 := h44 _ h58
    try dsimp only at h59
    refine GL.weak (env' := [(0, .bool x39)]) (L' := []) (fun _ _ st => st) ?_
    have h59 := Option.some.inj h59
    subst h59
    exact GL.ret (Gx.ret (v := .bool x39) (res1 rfl rfl) (fun a w st => st.toPostV))

set_option maxHeartbeats 4000000 in
theorem ref_Rest_c (S : Hp) (w : World) (hS : S.sub w) (x0 : Int) (x1 : Int) (res : Int) (hm : ref_Rest_m x0 x1 = some res) : Calls Try.prog 31 #[.int .i64 x0, .int .i64 x1] w (PostC w (.int .i64 res)) := by
  refine calls_enter 14 Try.func31 Try.ntmps31 rfl S true [(0, .int .i64 x0), (1, .int .i64 x1)] [] rfl ⟨rfl, ⟨rfl, trivial⟩⟩ hS trivial ?_
  unfold ref_Rest_m at hm
  refine GL.seq ?_
  refine GL.region ?_
  refine RL.asg rfl rfl rfl ?_
  refine RL.finG ?_
  refine GL.seq ?_
  refine GL.region ?_
  refine RL.mv rfl rfl rfl ?_
  refine RL.mv rfl rfl rfl ?_
  obtain ⟨y5, e6, hm⟩ := bind_some hm
  replace e6 := chk_some e6
  refine RL.rem rfl rfl rfl rfl e6 ?_
  refine RL.asg rfl rfl rfl ?_
  refine RL.finG ?_
  refine GL.seq ?_
  refine GL.seq ?_
  refine GL.region ?_
  refine RL.mv rfl rfl rfl ?_
  refine RL.binI (v := .bool (decide ((Int.tmod x0 x1) < (0 : Int)))) rfl rfl rfl rfl rfl ?_
  refine RL.finG ?_
  obtain ⟨y9, K10, h11, h12, h13, h14, h15⟩ := bindR_K hm
  refine GL.join (ι := Int) (fun (p : Int) => [(0, .int .i64 p)]) (fun (p : Int) => []) (fun (p : Int) => K10 (.nx p)) ?_ ?_
  · skip
    refine GL.cond rfl (fun b16 => ?_) (fun b16 => ?_)
    · replace h11 := ite_t b16 h11
      refine GL.region ?_
      refine RL.mv rfl rfl rfl ?_
      refine RL.mv rfl rfl rfl ?_
      refine RL.binI (v := .int .i64 (wadd (Int.tmod x0 x1) x1)) rfl rfl rfl rfl rfl ?_
      refine RL.asg rfl rfl rfl ?_
      refine RL.finG ?_
      cases h11
      exact fun a w st => mid_intro (wadd (Int.tmod x0 x1) x1) h12 (St.cut [] ⟨rfl, trivial⟩ (by decide) rfl st)
    · replace h11 := ite_f b16 h11
      refine GL.skip ?_
      cases h11
      exact fun a w st => mid_intro (Int.tmod x0 x1) h12 (St.cut [] ⟨rfl, trivial⟩ (by decide) rfl st)
  · rintro x8 h17
    have h18 := h13 _ h17
    try dsimp only at h18
    refine GL.weak (env' := [(0, .int .i64 x8)]) (L' := []) (fun _ _ st => st) ?_
    refine GL.seq ?_
    refine GL.region ?_
    refine RL.mv rfl rfl rfl ?_
    refine RL.asg rfl rfl rfl ?_
    refine RL.finG ?_
    have h18 := Option.some.inj h18
    subst h18
    exact GL.ret (Gx.ret (v := .int .i64 x8) (res1 rfl rfl) (fun a w st => st.toPostC rfl))

set_option maxHeartbeats 4000000 in
theorem pk_Within_c (S : Hp) (w : World) (hS : S.sub w) (x0 : Int) (x1 : Int) (res : Int) (hm : pk_Within_m x0 x1 = some res) : Calls Try.prog 14 #[.int .i64 x0, .int .i64 x1] w (PostC w (.int .i64 res)) := by
  refine calls_enter 8 Try.func14 Try.ntmps14 rfl S true [(0, .int .i64 x0), (1, .int .i64 x1)] [] rfl ⟨rfl, ⟨rfl, trivial⟩⟩ hS trivial ?_
  unfold pk_Within_m at hm
  refine GL.seq ?_
  refine GL.region ?_
  refine RL.asg rfl rfl rfl ?_
  refine RL.finG ?_
  refine GL.seq ?_
  refine GL.region ?_
  refine RL.mv rfl rfl rfl ?_
  refine RL.mv rfl rfl rfl ?_
  obtain ⟨y5, e6, hm⟩ := bind_some hm
  refine RL.callC (v := .int .i64 y5) (vs := [.int .i64 x0, .int .i64 x1]) Try_fit31 rfl rfl rfl rfl (fun U w hU hW hL => ref_Rest_c U w hU x0 x1 _ e6) ?_
  refine RL.asg rfl rfl rfl ?_
  refine RL.finG ?_
  have hm := Option.some.inj hm
  subst hm
  exact GL.ret (Gx.ret (v := .int .i64 y5) (res1 rfl rfl) (fun a w st => st.toPostC rfl))

set_option maxHeartbeats 4000000 in
theorem pk_PeopleOf_c (S : Hp) (w : World) (hS : S.sub w) (v0 : Value) (x0 : (List Int)) (k0 : ((TR.sl TR.int)).vrep S v0 x0) (res : (List Int)) (hm : pk_PeopleOf_m x0 = some res) : Calls Try.prog 20 #[v0] w (Post w S (fun (o : Value) => o) (fun (o : Value) => [own 3 TR.int o res])) := by
  refine calls_enter 24 Try.func20 Try.ntmps20 rfl S false [(0, v0)] [imm (TR.sl TR.int) v0 x0] rfl ⟨rfl, trivial⟩ hS ⟨k0, trivial⟩ ?_
  unfold pk_PeopleOf_m at hm
  refine GL.seq ?_
  refine GL.region ?_
  refine RL.asg rfl rfl rfl ?_
  refine RL.finG ?_
  refine GL.seq ?_
  refine GL.region ?_
  refine RL.bS (t := TR.int) (vs := [.int .i64 (1 : Int)]) ([(1 : Int)] : (List Int)) Try.underlying22 Try_lo3 rfl rfl rfl rfl ⟨VR.int, trivial⟩ rfl (by decide) ?_
  intro v3
  refine RL.asg rfl rfl rfl ?_
  refine RL.finG ?_
  refine GL.seq ?_
  refine GL.seq ?_
  refine GL.region ?_
  refine RL.mv rfl rfl rfl ?_
  refine RL.mv rfl rfl rfl ?_
  refine RL.lenS 0 Try.underlying22 rfl rfl rfl rfl SlOf.imm ?_
  refine RL.minI rfl rfl rfl rfl ?_
  obtain ⟨y7, e8, hm⟩ := bind_some hm
  replace e8 := chk_some e8
  refine RL.slc (t := TR.int) (i := 0) (j := (if (7 : Int) < ((x0).length : Int) then (7 : Int) else ((x0).length : Int)).toNat) (sz := 1) 0 Try.underlying22 Try_ln3 rfl rfl rfl rfl (Or.inl ⟨rfl, rfl⟩) (Or.inr ⟨_, _, rfl, by rw [Int.toNat_of_nonneg (by omega)]; rfl⟩) rfl (by omega) (by omega) ?_
  intro v9
  refine RL.reL (L' := [imm (TR.sl TR.int) v0 x0, own 3 TR.int v3 ([(1 : Int)] : (List Int)), imm (TR.sl TR.int) v9 ((List.take ((if (7 : Int) < ((x0).length : Int) then (7 : Int) else ((x0).length : Int)).toNat) x0).drop 0)]) rfl ?_
  refine RL.lenS 2 Try.underlying22 rfl rfl rfl rfl SlOf.imm ?_
  refine RL.mv rfl rfl rfl ?_
  refine RL.finG ?_
  refine GL.open_ 2 rfl (fun S h => len_imm S h) (fun n28 => ?_)
  obtain ⟨y29, K30, h31, h32, h33, h34, h35⟩ := bindR_K hm
  refine GL.join (ι := (List Int) × Value) (fun (p : (List Int) × Value) => [(3, p.2)]) (fun (p : (List Int) × Value) => [own 3 TR.int p.2 p.1]) (fun (p : (List Int) × Value) => K30 (.nx p.1)) ?_ ?_
  · refine GL.block ?_
    refine GL.loop (ι := Nat × (List Int) × (List Int) × Value) (fun (p : Nat × (List Int) × (List Int) × Value) => [(3, p.2.2.2), (11, v9), (12, .int .i64 ((((List.take ((if (7 : Int) < ((x0).length : Int) then (7 : Int) else ((x0).length : Int)).toNat) x0).drop 0)).length : Int)), (13, .int .i64 (p.1 : Int))]) (fun (p : Nat × (List Int) × (List Int) × Value) => [own 3 TR.int p.2.2.2 p.2.2.1, imm (TR.sl TR.int) v9 ((List.take ((if (7 : Int) < ((x0).length : Int) then (7 : Int) else ((x0).length : Int)).toNat) x0).drop 0)]) (fun (p : Nat × (List Int) × (List Int) × Value) => p.1 + p.2.1.length = (((List.take ((if (7 : Int) < ((x0).length : Int) then (7 : Int) else ((x0).length : Int)).toNat) x0).drop 0)).length ∧ List.drop p.1 ((List.take ((if (7 : Int) < ((x0).length : Int) then (7 : Int) else ((x0).length : Int)).toNat) x0).drop 0) = p.2.1 ∧ rangeL pk_PeopleOf_b1 p.2.1 p.1 p.2.2.1 = some y29) (fun (p : Nat × (List Int) × (List Int) × Value) => p.2.1.length) (0, ((List.take ((if (7 : Int) < ((x0).length : Int) then (7 : Int) else ((x0).length : Int)).toNat) x0).drop 0), ([(1 : Int)] : (List Int)), v3) ⟨by simp, by simp, h31⟩ (fun a w st => St.cut [1, 2] ⟨rfl, rfl, rfl, rfl, trivial⟩ (by decide) rfl st) ?_
    rintro ⟨i36, r37, l10, v11⟩ ⟨h42, h43, h41⟩
    try dsimp only at h42 h43 h41
    refine GL.weak (env' := [(3, v11), (11, v9), (12, .int .i64 ((((List.take ((if (7 : Int) < ((x0).length : Int) then (7 : Int) else ((x0).length : Int)).toNat) x0).drop 0)).length : Int)), (13, .int .i64 (i36 : Int))]) (L' := [own 3 TR.int v11 l10, imm (TR.sl TR.int) v9 ((List.take ((if (7 : Int) < ((x0).length : Int) then (7 : Int) else ((x0).length : Int)).toNat) x0).drop 0)]) (fun _ _ st => st) ?_
    refine GL.seq ?_
    refine GL.region ?_
    refine RL.binI (v := .bool (decide ((i36 : Int) < ((((List.take ((if (7 : Int) < ((x0).length : Int) then (7 : Int) else ((x0).length : Int)).toNat) x0).drop 0)).length : Int)))) rfl rfl rfl rfl rfl ?_
    refine RL.finG ?_
    refine GL.seq ?_
    refine GL.cond rfl (fun b44 => ?_) (fun b44 => ?_)
    · have h45 : i36 < (((List.take ((if (7 : Int) < ((x0).length : Int) then (7 : Int) else ((x0).length : Int)).toNat) x0).drop 0)).length := by have := of_decide_eq_true b44; omega
      obtain ⟨y46, r48, hr, e47, h49⟩ := drop_cons h43 rfl h45
      subst hr
      obtain ⟨z38, h39, h40⟩ := rangeL_some h41
      unfold pk_PeopleOf_b1 at h39
      try dsimp only at h39
      refine GL.skip ?_
      refine GL.seq ?_
      refine GL.block ?_
      refine GL.seq ?_
      refine GL.region ?_
      refine RL.idxS (sz := 1) 1 Try.underlying22 Try_ln3 rfl rfl rfl rfl rfl SlOf.imm (by omega) (by omega) ?_
      refine RL.ldSx (i := i36) (e' := y46) 1 Ex.ik Try_ln3 rfl rfl rfl rfl SlOf.imm e47 Part.self ?_
      refine RL.asg rfl rfl rfl ?_
      refine RL.finG ?_
      refine GL.region ?_
      refine RL.mv rfl rfl rfl ?_
      refine RL.mv rfl rfl rfl ?_
      obtain ⟨y56, e57, h39⟩ := bind_some h39
      refine RL.callC (v := .int .i64 y56) (vs := [.int .i64 y46, .int .i64 (1000 : Int)]) Try_fit14 rfl rfl rfl rfl (fun U w hU hW hL => pk_Within_c U w hU y46 (1000 : Int) _ e57) ?_
      refine RL.bS (t := TR.int) (vs := [.int .i64 y56]) ([y56] : (List Int)) Try.underlying22 Try_lo3 rfl rfl rfl rfl ⟨VR.int, trivial⟩ rfl (by decide) ?_
      intro v58
      obtain ⟨y59, e60, h39⟩ := bind_some h39
      replace e60 := chk_some e60
      refine RL.app 0 2 Try.underlying22 Try_lo3 rfl rfl rfl rfl rfl rfl rfl SlOf.own e60 ?_
      intro v61
      refine RL.reL (L' := [own 3 TR.int v61 (l10 ++ ([y56] : (List Int))), imm (TR.sl TR.int) v9 ((List.take ((if (7 : Int) < ((x0).length : Int) then (7 : Int) else ((x0).length : Int)).toNat) x0).drop 0), own 3 TR.int v58 ([y56] : (List Int))]) rfl ?_
      refine RL.asg rfl rfl rfl ?_
      refine RL.finG ?_
      refine GL.nilB ?_
      refine GL.region ?_
      refine RL.binI (v := .int .i64 ((i36 + 1 : Nat) : Int)) rfl rfl rfl rfl (binI_succ i36 (by omega)) ?_
      refine RL.mv rfl rfl rfl ?_
      refine RL.fin ?_
      cases h39
      exact fun a w st => lop_intro (i36 + 1, r48, (l10 ++ ([y56] : (List Int))), v61) ⟨by show i36 + 1 + r48.length = (((List.take ((if (7 : Int) < ((x0).length : Int) then (7 : Int) else ((x0).length : Int)).toNat) x0).drop 0)).length; simp only [List.length_cons] at h42; omega, h49, h40⟩ (by simp) (St.cut [0, 1] ⟨rfl, rfl, rfl, rfl, trivial⟩ (by decide) rfl st)
    · have h45 : ¬ i36 < (((List.take ((if (7 : Int) < ((x0).length : Int) then (7 : Int) else ((x0).length : Int)).toNat) x0).drop 0)).length := by have := of_decide_eq_false b44; omega
      obtain rfl : r37 = [] := by rw [← h43]; exact List.drop_of_length_le (by omega)
      replace h41 : some (Fl.nx _) = some y29 := h41
      cases h41
      exact GL.exit (fun a w st => mid_intro (l10, v11) h32 (St.cut [0] ⟨rfl, trivial⟩ (by decide) rfl st))
  · rintro ⟨l10, v11⟩ h62
    have h63 := h33 _ h62
    try dsimp only at h63
    refine GL.weak (env' := [(3, v11)]) (L' := [own 3 TR.int v11 l10]) (fun _ _ st => st) ?_
    refine GL.seq ?_
    refine GL.region ?_
    refine RL.mv rfl rfl rfl ?_
    refine RL.asg rfl rfl rfl ?_
    refine RL.finG ?_
    have h63 := Option.some.inj h63
    subst h63
    exact GL.ret (Gx.ret (v := v11) (res1 rfl rfl) (fun a w st => (st.pick [0] (by decide) rfl).toPost v11))

set_option maxHeartbeats 4000000 in
theorem pk_SeatsMore_c (S : Hp) (w : World) (hS : S.sub w) (x0 : Int) (v1 : Value) (x1 : (List Int)) (k1 : ((TR.sl TR.int)).vrep S v1 x1) (x2 : Int) (x3 : Int) (res : Bool) (hm : pk_SeatsMore_m x0 x1 x2 x3 = some res) : Calls Try.prog 7 #[.int .i64 x0, v1, .int .i64 x2, .int .i64 x3] w (PostV w (.bool res)) := by
  refine calls_enter 106 Try.func7 Try.ntmps7 rfl S false [(0, .int .i64 x0), (1, v1), (2, .int .i64 x2), (3, .int .i64 x3)] [imm (TR.sl TR.int) v1 x1] rfl ⟨rfl, ⟨rfl, ⟨rfl, ⟨rfl, trivial⟩⟩⟩⟩ hS ⟨k1, trivial⟩ ?_
  unfold pk_SeatsMore_m at hm
  refine GL.seq ?_
  refine GL.region ?_
  refine RL.asg rfl rfl rfl ?_
  refine RL.finG ?_
  refine GL.seq ?_
  refine GL.seq ?_
  refine GL.region ?_
  obtain ⟨y7, e8, hm⟩ := bind_some hm
  refine RL.callV (v := .bool y7) (vs := []) Try_fit19 rfl (Or.inl rfl) rfl rfl rfl rfl (fun U w hU hW hL => pk_shares_c U w hU  _ e8) ?_
  refine RL.notB rfl rfl rfl ?_
  refine RL.finG ?_
  refine GL.cond rfl (fun b9 => ?_) (fun b9 => ?_)
  · replace hm := ite_t b9 hm
    refine GL.seq ?_
    refine GL.region ?_
    refine RL.asg rfl rfl rfl ?_
    refine RL.finG ?_
    have hm := Option.some.inj hm
    subst hm
    exact GL.ret (Gx.ret (v := .bool false) (res1 rfl rfl) (fun a w st => st.toPostV))
  · replace hm := ite_f b9 hm
    refine GL.skip ?_
    refine GL.seq ?_
    refine GL.region ?_
    refine RL.mv rfl rfl rfl ?_
    obtain ⟨y14, e15, hm⟩ := bind_some hm
    refine RL.callC (v := .int .i64 y14) (vs := [.int .i64 x0, .int .i64 (3 : Int)]) Try_fit14 rfl rfl rfl rfl (fun U w hU hW hL => pk_Within_c U w hU x0 (3 : Int) _ e15) ?_
    refine RL.binI (v := .int .i64 (wadd (1 : Int) y14)) rfl rfl rfl rfl rfl ?_
    refine RL.mv rfl rfl rfl ?_
    obtain ⟨y16, e17, hm⟩ := bind_some hm
    refine RL.callC (v := .int .i64 y16) (vs := [.int .i64 x2, .int .i64 (101 : Int)]) Try_fit14 rfl rfl rfl rfl (fun U w hU hW hL => pk_Within_c U w hU x2 (101 : Int) _ e17) ?_
    refine RL.asg rfl rfl rfl ?_
    refine RL.asg rfl rfl rfl ?_
    refine RL.finG ?_
    refine GL.seq ?_
    refine GL.region ?_
    refine RL.mv rfl rfl rfl ?_
    obtain ⟨y21, e22, hm⟩ := bind_some hm
    refine RL.call (vs := [v1]) Try_fit20 rfl rfl rfl rfl rfl (fun S f w hS hW hi => pk_PeopleOf_c S w hS _ _ (hi 0 _ rfl) _ e22) ?_
    intro v23
    refine RL.asg rfl rfl rfl ?_
    refine RL.finG ?_
    refine GL.seq ?_
    refine GL.region ?_
    refine RL.mv rfl rfl rfl ?_
    refine RL.mv rfl rfl rfl ?_
    refine RL.mv rfl rfl rfl ?_
    refine RL.weak (fun a w st => st.freeze 1 rfl) ?_
    obtain ⟨y27, e28, hm⟩ := bind_some hm
    refine RL.call (vs := [.int .i64 (wadd (1 : Int) y14), v23, .int .i64 y16]) Try_fit21 rfl rfl rfl rfl rfl (fun S f w hS hW hi => seats_Share_c S w hS (wadd (1 : Int) y14) _ _ (hi 1 _ rfl) y16 _ e28) ?_
    intro v29
    refine RL.reL (L' := [imm (TR.sl TR.int) v1 x1, imm (TR.sl TR.int) v23 y21, own 3 TR.int v29 y27.1]) rfl ?_
    refine RL.mv rfl rfl rfl ?_
    refine RL.ext rfl rfl rfl rfl ?_
    refine RL.ext rfl rfl rfl rfl ?_
    refine RL.asg rfl rfl rfl ?_
    refine RL.asg rfl rfl rfl ?_
    refine RL.finG ?_
    refine GL.seq ?_
    refine GL.region ?_
    refine RL.asg rfl rfl rfl ?_
    refine RL.finG ?_
    refine GL.seq ?_
    refine GL.seq ?_
    refine GL.region ?_
    refine RL.mv rfl rfl rfl ?_
    refine RL.lenS 1 Try.underlying22 rfl rfl rfl rfl SlOf.imm ?_
    refine RL.mv rfl rfl rfl ?_
    refine RL.finG ?_
    refine GL.weak (fun a w st => st.nilOwn 3 TR.int) ?_
    refine GL.open_ 1 rfl (fun S h => len_imm S h) (fun n48 => ?_)
    obtain ⟨y49, K50, h51, h52, h53, h54, h55⟩ := bindR_K hm
    refine GL.join (ι := (List Int) × Value) (fun (p : (List Int) × Value) => [(0, .int .i64 (wadd (1 : Int) y14)), (2, .int .i64 y16), (9, v23), (10, v29), (11, .int .i64 y27.2), (12, p.2)]) (fun (p : (List Int) × Value) => [imm (TR.sl TR.int) v23 y21, own 3 TR.int v29 y27.1, own 3 TR.int p.2 p.1]) (fun (p : (List Int) × Value) => K50 (.nx p.1)) ?_ ?_
    · refine GL.block ?_
      refine GL.loop (ι := Nat × (List Int) × (List Int) × Value) (fun (p : Nat × (List Int) × (List Int) × Value) => [(0, .int .i64 (wadd (1 : Int) y14)), (2, .int .i64 y16), (3, .int .i64 x3), (9, v23), (10, v29), (11, .int .i64 y27.2), (12, p.2.2.2), (36, v23), (37, .int .i64 ((y21).length : Int)), (38, .int .i64 (p.1 : Int))]) (fun (p : Nat × (List Int) × (List Int) × Value) => [imm (TR.sl TR.int) v23 y21, own 3 TR.int v29 y27.1, own 3 TR.int p.2.2.2 p.2.2.1]) (fun (p : Nat × (List Int) × (List Int) × Value) => p.1 + p.2.1.length = (y21).length ∧ List.drop p.1 y21 = p.2.1 ∧ rangeL (pk_SeatsMore_b1 x3) p.2.1 p.1 p.2.2.1 = some y49) (fun (p : Nat × (List Int) × (List Int) × Value) => p.2.1.length) (0, y21, [], Value.slice none 0 0) ⟨by simp, by simp, h51⟩ (fun a w st => St.cut [1, 2, 3] ⟨rfl, rfl, rfl, rfl, rfl, rfl, rfl, rfl, rfl, rfl, trivial⟩ (by decide) rfl st) ?_
      rintro ⟨i56, r57, l30, v31⟩ ⟨h62, h63, h61⟩
      try dsimp only at h62 h63 h61
      refine GL.weak (env' := [(0, .int .i64 (wadd (1 : Int) y14)), (2, .int .i64 y16), (3, .int .i64 x3), (9, v23), (10, v29), (11, .int .i64 y27.2), (12, v31), (36, v23), (37, .int .i64 ((y21).length : Int)), (38, .int .i64 (i56 : Int))]) (L' := [imm (TR.sl TR.int) v23 y21, own 3 TR.int v29 y27.1, own 3 TR.int v31 l30]) (fun _ _ st => st) ?_
      refine GL.seq ?_
      refine GL.region ?_
      refine RL.binI (v := .bool (decide ((i56 : Int) < ((y21).length : Int)))) rfl rfl rfl rfl rfl ?_
      refine RL.finG ?_
      refine GL.seq ?_
      refine GL.cond rfl (fun b64 => ?_) (fun b64 => ?_)
      · have h65 : i56 < (y21).length := by have := of_decide_eq_true b64; omega
        obtain ⟨y66, r68, hr, e67, h69⟩ := drop_cons h63 rfl h65
        subst hr
        obtain ⟨z58, h59, h60⟩ := rangeL_some h61
        unfold pk_SeatsMore_b1 at h59
        try dsimp only at h59
        refine GL.skip ?_
        refine GL.seq ?_
        refine GL.block ?_
        refine GL.seq ?_
        refine GL.region ?_
        refine RL.idxS (sz := 1) 0 Try.underlying22 Try_ln3 rfl rfl rfl rfl rfl SlOf.imm (by omega) (by omega) ?_
        refine RL.ldSx (i := i56) (e' := y66) 0 Ex.ik Try_ln3 rfl rfl rfl rfl SlOf.imm e67 Part.self ?_
        refine RL.asg rfl rfl rfl ?_
        refine RL.finG ?_
        refine GL.region ?_
        refine RL.mv rfl rfl rfl ?_
        refine RL.mv rfl rfl rfl ?_
        refine RL.mv rfl rfl rfl ?_
        obtain ⟨y76, e77, h59⟩ := bind_some h59
        refine RL.callC (v := .int .i64 y76) (vs := [.int .i64 x3, .int .i64 (900 : Int)]) Try_fit14 rfl rfl rfl rfl (fun U w hU hW hL => pk_Within_c U w hU x3 (900 : Int) _ e77) ?_
        refine RL.binI (v := .int .i64 (wadd (1 : Int) y76)) rfl rfl rfl rfl rfl ?_
        refine RL.binI (v := .int .i64 (wmul y66 (wadd (1 : Int) y76))) rfl rfl rfl rfl rfl ?_
        refine RL.bS (t := TR.int) (vs := [.int .i64 (wmul y66 (wadd (1 : Int) y76))]) ([wmul y66 (wadd (1 : Int) y76)] : (List Int)) Try.underlying22 Try_lo3 rfl rfl rfl rfl ⟨VR.int, trivial⟩ rfl (by decide) ?_
        intro v78
        obtain ⟨y79, e80, h59⟩ := bind_some h59
        replace e80 := chk_some e80
        refine RL.app 2 3 Try.underlying22 Try_lo3 rfl rfl rfl rfl rfl rfl rfl SlOf.own e80 ?_
        intro v81
        refine RL.reL (L' := [imm (TR.sl TR.int) v23 y21, own 3 TR.int v29 y27.1, own 3 TR.int v81 (l30 ++ ([wmul y66 (wadd (1 : Int) y76)] : (List Int))), own 3 TR.int v78 ([wmul y66 (wadd (1 : Int) y76)] : (List Int))]) rfl ?_
        refine RL.asg rfl rfl rfl ?_
        refine RL.finG ?_
        refine GL.nilB ?_
        refine GL.region ?_
        refine RL.binI (v := .int .i64 ((i56 + 1 : Nat) : Int)) rfl rfl rfl rfl (binI_succ i56 (by omega)) ?_
        refine RL.mv rfl rfl rfl ?_
        refine RL.fin ?_
        cases h59
        exact fun a w st => lop_intro (i56 + 1, r68, (l30 ++ ([wmul y66 (wadd (1 : Int) y76)] : (List Int))), v81) ⟨by show i56 + 1 + r68.length = (y21).length; simp only [List.length_cons] at h62; omega, h69, h60⟩ (by simp) (St.cut [0, 1, 2] ⟨rfl, rfl, rfl, rfl, rfl, rfl, rfl, rfl, rfl, rfl, trivial⟩ (by decide) rfl st)
      · have h65 : ¬ i56 < (y21).length := by have := of_decide_eq_false b64; omega
        obtain rfl : r57 = [] := by rw [← h63]; exact List.drop_of_length_le (by omega)
        replace h61 : some (Fl.nx _) = some y49 := h61
        cases h61
        exact GL.exit (fun a w st => mid_intro (l30, v31) h52 (St.cut [0, 1, 2] ⟨rfl, rfl, rfl, rfl, rfl, rfl, trivial⟩ (by decide) rfl st))
    · rintro ⟨l30, v31⟩ h82
      have h83 := h53 _ h82
      try dsimp only at h83
      refine GL.weak (env' := [(0, .int .i64 (wadd (1 : Int) y14)), (2, .int .i64 y16), (9, v23), (10, v29), (11, .int .i64 y27.2), (12, v31)]) (L' := [imm (TR.sl TR.int) v23 y21, own 3 TR.int v29 y27.1, own 3 TR.int v31 l30]) (fun _ _ st => st) ?_
      refine GL.seq ?_
      refine GL.region ?_
      refine RL.mv rfl rfl rfl ?_
      refine RL.mv rfl rfl rfl ?_
      refine RL.mv rfl rfl rfl ?_
      refine RL.weak (fun a w st => st.freeze 2 rfl) ?_
      obtain ⟨y87, e88, h83⟩ := bind_some h83
      refine RL.call (vs := [.int .i64 (wadd (1 : Int) y14), v31, .int .i64 y16]) Try_fit21 rfl rfl rfl rfl rfl (fun S f w hS hW hi => seats_Share_c S w hS (wadd (1 : Int) y14) _ _ (hi 2 _ rfl) y16 _ e88) ?_
      intro v89
      refine RL.reL (L' := [imm (TR.sl TR.int) v23 y21, own 3 TR.int v29 y27.1, imm (TR.sl TR.int) v31 l30, own 3 TR.int v89 y87.1]) rfl ?_
      refine RL.mv rfl rfl rfl ?_
      refine RL.ext rfl rfl rfl rfl ?_
      refine RL.ext rfl rfl rfl rfl ?_
      refine RL.asg rfl rfl rfl ?_
      refine RL.asg rfl rfl rfl ?_
      refine RL.finG ?_
      refine GL.seq ?_
      refine GL.seq ?_
      obtain ⟨y105, K106, h107, h108, h109, h110, h111⟩ := bindR_K h83
      refine GL.join (ι := Bool) (fun (p : Bool) => [(9, v23), (10, v29), (75, .bool p)]) (fun (p : Bool) => [imm (TR.sl TR.int) v23 y21, own 3 TR.int v29 y27.1]) (fun (p : Bool) => K106 (.nx p)) ?_ ?_
      · skip
        refine GL.region ?_
        refine RL.mv rfl rfl rfl ?_
        refine RL.mv rfl rfl rfl ?_
        refine RL.bS (t := TR.int) (vs := [.int .i64 y27.2, .int .i64 y87.2]) ([y27.2, y87.2] : (List Int)) Try.underlying54 Try_lo26 rfl rfl rfl rfl ⟨VR.int, ⟨VR.int, trivial⟩⟩ rfl (by decide) ?_
        intro v112
        obtain ⟨y113, e114, h107⟩ := bind_some h107
        refine RL.callV (v := .bool y113) (vs := [v112]) Try_fit17 rfl (Or.inl rfl) rfl rfl rfl rfl (fun U w hU hW hL => pk_good_c U w hU _ _ (hL 4 _ _ rfl Seen.own) _ e114) ?_
        refine RL.notB rfl rfl rfl ?_
        refine RL.mv rfl rfl rfl ?_
        refine RL.split (t := 63) rfl (fun b115 => ?_) (fun b115 => ?_)
        · replace h107 := ite_t b115 h107
          refine RL.skip rfl rfl ?_
          refine RL.skip rfl rfl ?_
          refine RL.skip rfl rfl ?_
          refine RL.skip rfl rfl ?_
          refine RL.pickT rfl rfl rfl rfl ?_
          refine RL.mv rfl rfl rfl ?_
          refine RL.skip rfl rfl ?_
          refine RL.skip rfl rfl ?_
          refine RL.skip rfl rfl ?_
          refine RL.skip rfl rfl ?_
          refine RL.skip rfl rfl ?_
          refine RL.pickT rfl rfl rfl rfl ?_
          refine RL.fin ?_
          cases h107
          exact fun a w st => mid_intro true h108 (St.cut [0, 1] ⟨rfl, rfl, rfl, trivial⟩ (by decide) rfl st)
        · replace h107 := ite_f b115 h107
          refine RL.mv rfl rfl rfl ?_
          refine RL.mv rfl rfl rfl ?_
          obtain ⟨y116, e117, h107⟩ := bind_some h107
          refine RL.callV (v := .bool y116) (vs := [v29, v89]) Try_fit18 rfl (Or.inl rfl) rfl rfl rfl rfl (fun U w hU hW hL => slices_Equal_int_int_c U w hU _ _ (hL 1 _ _ rfl Seen.own) _ _ (hL 3 _ _ rfl Seen.own) _ e117) ?_
          refine RL.notB rfl rfl rfl ?_
          refine RL.pickF rfl rfl rfl rfl ?_
          refine RL.mv rfl rfl rfl ?_
          refine RL.split (t := 69) rfl (fun b118 => ?_) (fun b118 => ?_)
          · replace h107 := ite_t b118 h107
            refine RL.skip rfl rfl ?_
            refine RL.skip rfl rfl ?_
            refine RL.skip rfl rfl ?_
            refine RL.skip rfl rfl ?_
            refine RL.skip rfl rfl ?_
            refine RL.pickT rfl rfl rfl rfl ?_
            refine RL.fin ?_
            cases h107
            exact fun a w st => mid_intro true h108 (St.cut [0, 1] ⟨rfl, rfl, rfl, trivial⟩ (by decide) rfl st)
          · replace h107 := ite_f b118 h107
            refine RL.mv rfl rfl rfl ?_
            refine RL.lenS 1 Try.underlying22 rfl rfl rfl rfl SlOf.own ?_
            refine RL.mv rfl rfl rfl ?_
            refine RL.lenS 0 Try.underlying22 rfl rfl rfl rfl SlOf.imm ?_
            refine RL.binI (v := .bool (((y27.1).length : Int) != ((y21).length : Int))) rfl rfl rfl rfl rfl ?_
            refine RL.pickF rfl rfl rfl rfl ?_
            refine RL.fin ?_
            cases h107
            exact fun a w st => mid_intro (((y27.1).length : Int) != ((y21).length : Int)) h108 (St.cut [0, 1] ⟨rfl, rfl, rfl, trivial⟩ (by decide) rfl st)
      · rintro x104 h119
        have h120 := h109 _ h119
        try dsimp only at h120
        refine GL.weak (env' := [(9, v23), (10, v29), (75, .bool x104)]) (L' := [imm (TR.sl TR.int) v23 y21, own 3 TR.int v29 y27.1]) (fun _ _ st => st) ?_
        refine GL.cond rfl (fun b121 => ?_) (fun b121 => ?_)
        · replace h120 := ite_t b121 h120
          refine GL.seq ?_
          refine GL.region ?_
          refine RL.asg rfl rfl rfl ?_
          refine RL.finG ?_
          have h120 := Option.some.inj h120
          subst h120
          exact GL.ret (Gx.ret (v := .bool false) (res1 rfl rfl) (fun a w st => st.toPostV))
        · replace h120 := ite_f b121 h120
          refine GL.skip ?_
          refine GL.seq ?_
          refine GL.seq ?_
          refine GL.region ?_
          refine RL.mv rfl rfl rfl ?_
          refine RL.lenS 0 Try.underlying22 rfl rfl rfl rfl SlOf.imm ?_
          refine RL.mv rfl rfl rfl ?_
          refine RL.finG ?_
          refine GL.open_ 0 rfl (fun S h => len_imm S h) (fun n213 => ?_)
          obtain ⟨y214, K215, h216, h217, h218, h219, h220⟩ := bindR_K h120
          refine GL.join (ι := Unit) (fun (p : Unit) => []) (fun (p : Unit) => []) (fun (p : Unit) => K215 (.nx ())) ?_ ?_
          · refine GL.block ?_
            refine GL.loop (ι := Nat × (List Int)) (fun (p : Nat × (List Int)) => [(9, v23), (10, v29), (76, v23), (77, .int .i64 ((y21).length : Int)), (78, .int .i64 (p.1 : Int))]) (fun (p : Nat × (List Int)) => [imm (TR.sl TR.int) v23 y21, own 3 TR.int v29 y27.1]) (fun (p : Nat × (List Int)) => p.1 + p.2.length = (y21).length ∧ List.drop p.1 y21 = p.2 ∧ rangeL (pk_SeatsMore_b2 y21 y27) p.2 p.1 () = some y214) (fun (p : Nat × (List Int)) => p.2.length) (0, y21) ⟨by simp, by simp, h216⟩ (fun a w st => St.cut [0, 1] ⟨rfl, rfl, rfl, rfl, rfl, trivial⟩ (by decide) rfl st) ?_
            rintro ⟨i221, r222⟩ ⟨h227, h228, h226⟩
            try dsimp only at h227 h228 h226
            refine GL.weak (env' := [(9, v23), (10, v29), (76, v23), (77, .int .i64 ((y21).length : Int)), (78, .int .i64 (i221 : Int))]) (L' := [imm (TR.sl TR.int) v23 y21, own 3 TR.int v29 y27.1]) (fun _ _ st => st) ?_
            refine GL.seq ?_
            refine GL.region ?_
            refine RL.binI (v := .bool (decide ((i221 : Int) < ((y21).length : Int)))) rfl rfl rfl rfl rfl ?_
            refine RL.finG ?_
            refine GL.seq ?_
            refine GL.cond rfl (fun b229 => ?_) (fun b229 => ?_)
            · have h230 : i221 < (y21).length := by have := of_decide_eq_true b229; omega
              obtain ⟨y231, r233, hr, e232, h234⟩ := drop_cons h228 rfl h230
              subst hr
              obtain ⟨z223, h224, h225⟩ := rangeL_some h226
              unfold pk_SeatsMore_b2 at h224
              try dsimp only at h224
              refine GL.skip ?_
              refine GL.seq ?_
              refine GL.block ?_
              refine GL.seq ?_
              refine GL.region ?_
              refine RL.mv rfl rfl rfl ?_
              refine RL.idxS (sz := 1) 0 Try.underlying22 Try_ln3 rfl rfl rfl rfl rfl SlOf.imm (by omega) (by omega) ?_
              refine RL.ldSx (i := i221) (e' := y231) 0 Ex.ik Try_ln3 rfl rfl rfl rfl SlOf.imm e232 Part.self ?_
              refine RL.asg rfl rfl rfl ?_
              refine RL.asg rfl rfl rfl ?_
              refine RL.finG ?_
              refine GL.seq ?_
              refine GL.region ?_
              refine RL.mv rfl rfl rfl ?_
              refine RL.mv rfl rfl rfl ?_
              refine RL.finG ?_
              obtain ⟨y268, e269, h224⟩ := bind_some h224
              replace e269 := chk_some e269
              obtain ⟨y270, K271, h272, h273, h274, h275, h276⟩ := bindF_K h224
              refine GL.join (ι := Unit) (fun (p : Unit) => [(9, v23), (10, v29), (76, v23), (77, .int .i64 ((y21).length : Int)), (78, .int .i64 (i221 : Int))]) (fun (p : Unit) => [imm (TR.sl TR.int) v23 y21, own 3 TR.int v29 y27.1]) (fun (p : Unit) => K271 (.nx ())) ?_ ?_
              · refine GL.block ?_
                refine GL.loop (ι := Nat × Nat) (fun (p : Nat × Nat) => [(9, v23), (10, v29), (17, .int .i64 (i221 : Int)), (18, .int .i64 y231), (76, v23), (77, .int .i64 ((y21).length : Int)), (78, .int .i64 (i221 : Int)), (83, .int .i64 (i221 : Int)), (84, .int .i64 (p.1 : Int))]) (fun (p : Nat × Nat) => [imm (TR.sl TR.int) v23 y21, own 3 TR.int v29 y27.1]) (fun (p : Nat × Nat) => p.1 + p.2 = ((i221 : Int)).toNat ∧ rangeN (pk_SeatsMore_b3 y21 y231 y27 i221) p.2 p.1 () = some y270) (fun (p : Nat × Nat) => p.2) (0, ((i221 : Int)).toNat) ⟨by simp, h272⟩ (fun a w st => St.cut [0, 1] ⟨rfl, rfl, rfl, rfl, rfl, rfl, rfl, rfl, rfl, trivial⟩ (by decide) rfl st) ?_
                rintro ⟨i277, r278⟩ ⟨h283, h282⟩
                try dsimp only at h283 h282
                refine GL.weak (env' := [(9, v23), (10, v29), (17, .int .i64 (i221 : Int)), (18, .int .i64 y231), (76, v23), (77, .int .i64 ((y21).length : Int)), (78, .int .i64 (i221 : Int)), (83, .int .i64 (i221 : Int)), (84, .int .i64 (i277 : Int))]) (L' := [imm (TR.sl TR.int) v23 y21, own 3 TR.int v29 y27.1]) (fun _ _ st => st) ?_
                refine GL.seq ?_
                refine GL.region ?_
                refine RL.binI (v := .bool (decide ((i277 : Int) < (i221 : Int)))) rfl rfl rfl rfl rfl ?_
                refine RL.finG ?_
                refine GL.seq ?_
                refine GL.cond rfl (fun b285 => ?_) (fun b285 => ?_)
                · have h286 : i277 < ((i221 : Int)).toNat := by have := of_decide_eq_true b285; omega
                  obtain ⟨r287, hr⟩ : ∃ m, r278 = m + 1 := ⟨r278 - 1, by omega⟩
                  subst hr
                  obtain ⟨z279, h280, h281⟩ := rangeN_some h282
                  unfold pk_SeatsMore_b3 at h280
                  try dsimp only at h280
                  refine GL.skip ?_
                  refine GL.seq ?_
                  refine GL.block ?_
                  refine GL.seq ?_
                  refine GL.region ?_
                  refine RL.mv rfl rfl rfl ?_
                  refine RL.asg rfl rfl rfl ?_
                  refine RL.finG ?_
                  refine GL.seq ?_
                  obtain ⟨y303, K304, h305, h306, h307, h308, h309⟩ := bindF_K h280
                  refine GL.join (ι := Bool) (fun (p : Bool) => [(9, v23), (10, v29), (17, .int .i64 (i221 : Int)), (18, .int .i64 y231), (76, v23), (77, .int .i64 ((y21).length : Int)), (78, .int .i64 (i221 : Int)), (83, .int .i64 (i221 : Int)), (84, .int .i64 (i277 : Int)), (103, .bool p)]) (fun (p : Bool) => [imm (TR.sl TR.int) v23 y21, own 3 TR.int v29 y27.1]) (fun (p : Bool) => K304 (.nx p)) ?_ ?_
                  · skip
                    refine GL.regionQ rfl rfl (by kernel_rfl) ?_
                    refine RL.mv rfl rfl rfl ?_
                    refine RL.mv rfl rfl rfl ?_
                    obtain ⟨y310, e311, h305⟩ := bind_some h305
                    refine RL.idxS (sz := 1) 0 Try.underlying22 Try_ln3 rfl rfl rfl rfl rfl SlOf.imm (idx_some e311).1 (idx_some e311).2.1 ?_
                    refine RL.ldSx (i := i277) (e' := y310) 0 Ex.ik Try_ln3 rfl rfl rfl rfl SlOf.imm (idx_some e311).2.2 Part.self ?_
                    refine RL.mv rfl rfl rfl ?_
                    refine RL.binI (v := .bool (decide (y310 ≥ y231))) rfl rfl rfl rfl rfl ?_
                    refine RL.mv rfl rfl rfl ?_
                    refine RL.split (t := 93) rfl (fun b312 => ?_) (fun b312 => ?_)
                    · replace h305 := ite_t b312 h305
                      refine RL.mv rfl rfl rfl ?_
                      refine RL.mv rfl rfl rfl ?_
                      obtain ⟨y313, e314, h305⟩ := bind_some h305
                      refine RL.idxS (sz := 1) 1 Try.underlying22 Try_ln3 rfl rfl rfl rfl rfl SlOf.own (idx_some e314).1 (idx_some e314).2.1 ?_
                      refine RL.ldSx (i := i277) (e' := y313) 1 Ex.ik Try_ln3 rfl rfl rfl rfl SlOf.own (idx_some e314).2.2 Part.self ?_
                      refine RL.mv rfl rfl rfl ?_
                      refine RL.mv rfl rfl rfl ?_
                      obtain ⟨y315, e316, h305⟩ := bind_some h305
                      refine RL.idxS (sz := 1) 1 Try.underlying22 Try_ln3 rfl rfl rfl rfl rfl SlOf.own (idx_some e316).1 (idx_some e316).2.1 ?_
                      refine RL.ldSx (i := i221) (e' := y315) 1 Ex.ik Try_ln3 rfl rfl rfl rfl SlOf.own (idx_some e316).2.2 Part.self ?_
                      refine RL.binI (v := .bool (decide (y313 < y315))) rfl rfl rfl rfl rfl ?_
                      refine RL.pickT rfl rfl rfl rfl ?_
                      refine RL.finQ ?_
                      cases h305
                      exact fun a w st => mid_intro (decide (y313 < y315)) h306 (St.cut [0, 1] ⟨rfl, rfl, rfl, rfl, rfl, rfl, rfl, rfl, rfl, rfl, trivial⟩ (by decide) rfl st)
                    · replace h305 := ite_f b312 h305
                      refine RL.skip rfl rfl ?_
                      refine RL.skip rfl rfl ?_
                      refine RL.skip rfl rfl ?_
                      refine RL.skip rfl rfl ?_
                      refine RL.skip rfl rfl ?_
                      refine RL.skip rfl rfl ?_
                      refine RL.skip rfl rfl ?_
                      refine RL.skip rfl rfl ?_
                      refine RL.skip rfl rfl ?_
                      refine RL.pickF rfl rfl rfl rfl ?_
                      refine RL.finQ ?_
                      cases h305
                      exact fun a w st => mid_intro false h306 (St.cut [0, 1] ⟨rfl, rfl, rfl, rfl, rfl, rfl, rfl, rfl, rfl, rfl, trivial⟩ (by decide) rfl st)
                  · rintro x302 h317
                    have h318 := h307 _ h317
                    try dsimp only at h318
                    refine GL.weak (env' := [(9, v23), (10, v29), (17, .int .i64 (i221 : Int)), (18, .int .i64 y231), (76, v23), (77, .int .i64 ((y21).length : Int)), (78, .int .i64 (i221 : Int)), (83, .int .i64 (i221 : Int)), (84, .int .i64 (i277 : Int)), (103, .bool x302)]) (L' := [imm (TR.sl TR.int) v23 y21, own 3 TR.int v29 y27.1]) (fun _ _ st => st) ?_
                    refine GL.cond rfl (fun b319 => ?_) (fun b319 => ?_)
                    · replace h318 := ite_t b319 h318
                      refine GL.seq ?_
                      refine GL.region ?_
                      refine RL.asg rfl rfl rfl ?_
                      refine RL.finG ?_
                      cases h318
                      replace h281 : some (Fl.rt _) = some y270 := h281
                      cases h281
                      have hh := h275 _ h273
                      subst hh
                      replace h225 : some (Fl.rt _) = some y214 := h225
                      cases h225
                      have hh := h219 _ h217
                      subst hh
                      exact GL.ret (Gx.ret (v := .bool false) (res1 rfl rfl) (fun a w st => st.toPostV))
                    · replace h318 := ite_f b319 h318
                      refine GL.skip ?_
                      refine GL.nilB ?_
                      refine GL.region ?_
                      refine RL.binI (v := .int .i64 ((i277 + 1 : Nat) : Int)) rfl rfl rfl rfl (binI_succ i277 (by omega)) ?_
                      refine RL.mv rfl rfl rfl ?_
                      refine RL.fin ?_
                      cases h318
                      exact fun a w st => lop_intro (i277 + 1, r287) ⟨by show i277 + 1 + r287 = ((i221 : Int)).toNat; omega, h281⟩ (by simp) (St.cut [0, 1] ⟨rfl, rfl, rfl, rfl, rfl, rfl, rfl, rfl, rfl, trivial⟩ (by decide) rfl st)
                · have h286 : ¬ i277 < ((i221 : Int)).toNat := by have := of_decide_eq_false b285; omega
                  obtain rfl : r278 = 0 := by omega
                  replace h282 : some (Fl.nx _) = some y270 := h282
                  cases h282
                  exact GL.exit (fun a w st => mid_intro () h273 (St.cut [0, 1] ⟨rfl, rfl, rfl, rfl, rfl, trivial⟩ (by decide) rfl st))
              · rintro ⟨⟩ h320
                have h321 := h274 _ h320
                try dsimp only at h321
                refine GL.weak (env' := [(9, v23), (10, v29), (76, v23), (77, .int .i64 ((y21).length : Int)), (78, .int .i64 (i221 : Int))]) (L' := [imm (TR.sl TR.int) v23 y21, own 3 TR.int v29 y27.1]) (fun _ _ st => st) ?_
                refine GL.nilB ?_
                refine GL.region ?_
                refine RL.binI (v := .int .i64 ((i221 + 1 : Nat) : Int)) rfl rfl rfl rfl (binI_succ i221 (by omega)) ?_
                refine RL.mv rfl rfl rfl ?_
                refine RL.fin ?_
                cases h321
                exact fun a w st => lop_intro (i221 + 1, r233) ⟨by show i221 + 1 + r233.length = (y21).length; simp only [List.length_cons] at h227; omega, h234, h225⟩ (by simp) (St.cut [0, 1] ⟨rfl, rfl, rfl, rfl, rfl, trivial⟩ (by decide) rfl st)
            · have h230 : ¬ i221 < (y21).length := by have := of_decide_eq_false b229; omega
              obtain rfl : r222 = [] := by rw [← h228]; exact List.drop_of_length_le (by omega)
              replace h226 : some (Fl.nx _) = some y214 := h226
              cases h226
              exact GL.exit (fun a w st => mid_intro () h217 (St.cut [] trivial (by decide) rfl st))
          · rintro ⟨⟩ h322
            have h323 := h218 _ h322
            try dsimp only at h323
            refine GL.weak (env' := []) (L' := []) (fun _ _ st => st) ?_
            refine GL.seq ?_
            refine GL.region ?_
            refine RL.asg rfl rfl rfl ?_
            refine RL.finG ?_
            have h323 := Option.some.inj h323
            subst h323
            exact GL.ret (Gx.ret (v := .bool true) (res1 rfl rfl) (fun a w st => st.toPostV))
end Go.Wk
