/- Each function comes to what its model says; printed by a program of this repository. -/
import Derived.Test.YtlglnacpabmjnaaProg
import Derived.Test.YtlglnacpabmjnaaWPowerTurnsModels
namespace Go.Wk
open Go.Fw Go.Mo Go.Proofs Go.RowKit
set_option linter.unusedVariables false
set_option maxRecDepth 100000
theorem Try_info3 : (Try.prog.info? 3).map (fun i => (i.zero, i.size, i.bytes)) = some (some (.int .i64 0), 1, 8) := by kernel_rfl
theorem Try_ln3 : Ln Try.prog 3 1 false := Ln.of Try_info3 Try.underlying3 rfl
theorem Try_lo3 : LnO Try.prog 3 1 [.int .i64 0] := LnO.of Try_info3 rfl rfl (by decide) (by decide)
theorem Try_info26 : (Try.prog.info? 26).map (fun i => (i.zero, i.size, i.bytes)) = some (some (.int .i64 0), 1, 8) := by kernel_rfl
theorem Try_ln26 : Ln Try.prog 26 1 false := Ln.of Try_info26 Try.underlying26 rfl
theorem Try_lo26 : LnO Try.prog 26 1 [.int .i64 0] := LnO.of Try_info26 rfl rfl (by decide) (by decide)
theorem Try_fit15 : Fit Try.prog 15 := Fit.of Try.func15 (by kernel_rfl) rfl
theorem Try_fit18 : Fit Try.prog 18 := Fit.of Try.func18 (by kernel_rfl) rfl
theorem Try_fit19 : Fit Try.prog 19 := Fit.of Try.func19 (by kernel_rfl) rfl
theorem Try_fit20 : Fit Try.prog 20 := Fit.of Try.func20 (by kernel_rfl) rfl
theorem Try_fit22 : Fit Try.prog 22 := Fit.of Try.func22 (by kernel_rfl) rfl
theorem Try_fit23 : Fit Try.prog 23 := Fit.of Try.func23 (by kernel_rfl) rfl
theorem Try_fit24 : Fit Try.prog 24 := Fit.of Try.func24 (by kernel_rfl) rfl
theorem Try_fit25 : Fit Try.prog 25 := Fit.of Try.func25 (by kernel_rfl) rfl
theorem Try_fit33 : Fit Try.prog 33 := Fit.of Try.func33 (by kernel_rfl) rfl
theorem Try_fit37 : Fit Try.prog 37 := Fit.of Try.func37 (by kernel_rfl) rfl
theorem Try_fit38 : Fit Try.prog 38 := Fit.of Try.func38 (by kernel_rfl) rfl
theorem Try_fit41 : Fit Try.prog 41 := Fit.of Try.func41 (by kernel_rfl) rfl
theorem Try_fit42 : Fit Try.prog 42 := Fit.of Try.func42 (by kernel_rfl) rfl
theorem Try_fit43 : Fit Try.prog 43 := Fit.of Try.func43 (by kernel_rfl) rfl
theorem Try_fit45 : Fit Try.prog 45 := Fit.of Try.func45 (by kernel_rfl) rfl

set_option maxHeartbeats 4000000 in
theorem power_Check_c (S : Hp) (w : World) (hS : S.sub w) (v0 : Value) (x0 : (List Int)) (k0 : ((TR.sl TR.int)).vrep S v0 x0) (x1 : Int) (res : Int) (hm : power_Check_m x0 x1 = some res) : Calls Try.prog 41 #[v0, .int .i64 x1] w (PostC w (.int .i64 res)) := by
  refine calls_enter 39 Try.func41 Try.ntmps41 rfl S true [(0, v0), (1, .int .i64 x1)] [imm (TR.sl TR.int) v0 x0] rfl ⟨rfl, ⟨rfl, trivial⟩⟩ hS ⟨k0, trivial⟩ ?_
  unfold power_Check_m at hm
  refine GL.seq ?_
  refine GL.region ?_
  refine RL.asg rfl rfl rfl ?_
  refine RL.finG ?_
  refine GL.seq ?_
  refine GL.seq ?_
  obtain ⟨y6, K7, h8, h9, h10, h11, h12⟩ := bindR_K hm
  refine GL.join (ι := Bool) (fun (p : Bool) => [(0, v0), (1, .int .i64 x1), (15, .bool p)]) (fun (p : Bool) => [imm (TR.sl TR.int) v0 x0]) (fun (p : Bool) => K7 (.nx p)) ?_ ?_
  · skip
    refine GL.region ?_
    refine RL.mv rfl rfl rfl ?_
    refine RL.lenS 0 Try.underlying22 rfl rfl rfl rfl SlOf.imm ?_
    refine RL.binI (v := .bool (decide (((x0).length : Int) < (1 : Int)))) rfl rfl rfl rfl rfl ?_
    refine RL.mv rfl rfl rfl ?_
    refine RL.split (t := 11) rfl (fun b13 => ?_) (fun b13 => ?_)
    · replace h8 := ite_t b13 h8
      refine RL.skip rfl rfl ?_
      refine RL.skip rfl rfl ?_
      refine RL.skip rfl rfl ?_
      refine RL.pickT rfl rfl rfl rfl ?_
      refine RL.fin ?_
      cases h8
      exact fun a w st => mid_intro true h9 (St.cut [0] ⟨rfl, rfl, rfl, trivial⟩ (by decide) rfl st)
    · replace h8 := ite_f b13 h8
      refine RL.mv rfl rfl rfl ?_
      refine RL.lenS 0 Try.underlying22 rfl rfl rfl rfl SlOf.imm ?_
      refine RL.binI (v := .bool (decide (((x0).length : Int) > (6 : Int)))) rfl rfl rfl rfl rfl ?_
      refine RL.pickF rfl rfl rfl rfl ?_
      refine RL.fin ?_
      cases h8
      exact fun a w st => mid_intro (decide (((x0).length : Int) > (6 : Int))) h9 (St.cut [0] ⟨rfl, rfl, rfl, trivial⟩ (by decide) rfl st)
  · rintro x5 h14
    have h15 := h10 _ h14
    try dsimp only at h15
    refine GL.weak (env' := [(0, v0), (1, .int .i64 x1), (15, .bool x5)]) (L' := [imm (TR.sl TR.int) v0 x0]) (fun _ _ st => st) ?_
    refine GL.cond rfl (fun b16 => ?_) (fun b16 => ?_)
    · replace h15 := ite_t b16 h15
      refine GL.seq ?_
      refine GL.region ?_
      refine RL.asg rfl rfl rfl ?_
      refine RL.finG ?_
      have h15 := Option.some.inj h15
      subst h15
      exact GL.ret (Gx.ret (v := .int .i64 (2 : Int)) (res1 rfl rfl) (fun a w st => st.toPostC rfl))
    · replace h15 := ite_f b16 h15
      refine GL.skip ?_
      refine GL.seq ?_
      refine GL.region ?_
      refine RL.asg rfl rfl rfl ?_
      refine RL.finG ?_
      refine GL.seq ?_
      refine GL.seq ?_
      refine GL.region ?_
      refine RL.mv rfl rfl rfl ?_
      refine RL.lenS 0 Try.underlying22 rfl rfl rfl rfl SlOf.imm ?_
      refine RL.mv rfl rfl rfl ?_
      refine RL.finG ?_
      refine GL.open_ 0 rfl (fun S h => len_imm S h) (fun n36 => ?_)
      obtain ⟨y37, K38, h39, h40, h41, h42, h43⟩ := bindR_K h15
      refine GL.join (ι := Int) (fun (p : Int) => [(1, .int .i64 x1), (5, .int .i64 p)]) (fun (p : Int) => []) (fun (p : Int) => K38 (.nx p)) ?_ ?_
      · refine GL.block ?_
        refine GL.loop (ι := Nat × (List Int) × Int) (fun (p : Nat × (List Int) × Int) => [(1, .int .i64 x1), (5, .int .i64 p.2.2), (16, v0), (17, .int .i64 ((x0).length : Int)), (18, .int .i64 (p.1 : Int))]) (fun (p : Nat × (List Int) × Int) => [imm (TR.sl TR.int) v0 x0]) (fun (p : Nat × (List Int) × Int) => p.1 + p.2.1.length = (x0).length ∧ List.drop p.1 x0 = p.2.1 ∧ rangeL power_Check_b1 p.2.1 p.1 p.2.2 = some y37) (fun (p : Nat × (List Int) × Int) => p.2.1.length) (0, x0, (0 : Int)) ⟨by simp, by simp, h39⟩ (fun a w st => St.cut [0] ⟨rfl, rfl, rfl, rfl, rfl, trivial⟩ (by decide) rfl st) ?_
        rintro ⟨i44, r45, x17⟩ ⟨h50, h51, h49⟩
        try dsimp only at h50 h51 h49
        refine GL.weak (env' := [(1, .int .i64 x1), (5, .int .i64 x17), (16, v0), (17, .int .i64 ((x0).length : Int)), (18, .int .i64 (i44 : Int))]) (L' := [imm (TR.sl TR.int) v0 x0]) (fun _ _ st => st) ?_
        refine GL.seq ?_
        refine GL.region ?_
        refine RL.binI (v := .bool (decide ((i44 : Int) < ((x0).length : Int)))) rfl rfl rfl rfl rfl ?_
        refine RL.finG ?_
        refine GL.seq ?_
        refine GL.cond rfl (fun b52 => ?_) (fun b52 => ?_)
        · have h53 : i44 < (x0).length := by have := of_decide_eq_true b52; omega
          obtain ⟨y54, r56, hr, e55, h57⟩ := drop_cons h51 rfl h53
          subst hr
          obtain ⟨z46, h47, h48⟩ := rangeL_some h49
          unfold power_Check_b1 at h47
          try dsimp only at h47
          refine GL.skip ?_
          refine GL.seq ?_
          refine GL.block ?_
          refine GL.seq ?_
          refine GL.region ?_
          refine RL.idxS (sz := 1) 0 Try.underlying22 Try_ln3 rfl rfl rfl rfl rfl SlOf.imm (by omega) (by omega) ?_
          refine RL.ldSx (i := i44) (e' := y54) 0 Ex.ik Try_ln3 rfl rfl rfl rfl SlOf.imm e55 Part.self ?_
          refine RL.asg rfl rfl rfl ?_
          refine RL.finG ?_
          refine GL.seq ?_
          refine GL.seq ?_
          obtain ⟨y61, K62, h63, h64, h65, h66, h67⟩ := bindF_K h47
          refine GL.join (ι := Bool) (fun (p : Bool) => [(1, .int .i64 x1), (5, .int .i64 x17), (7, .int .i64 y54), (16, v0), (17, .int .i64 ((x0).length : Int)), (18, .int .i64 (i44 : Int)), (27, .bool p)]) (fun (p : Bool) => [imm (TR.sl TR.int) v0 x0]) (fun (p : Bool) => K62 (.nx p)) ?_ ?_
          · skip
            refine GL.region ?_
            refine RL.mv rfl rfl rfl ?_
            refine RL.binI (v := .bool (decide (y54 < (0 : Int)))) rfl rfl rfl rfl rfl ?_
            refine RL.mv rfl rfl rfl ?_
            refine RL.split (t := 24) rfl (fun b68 => ?_) (fun b68 => ?_)
            · replace h63 := ite_t b68 h63
              refine RL.skip rfl rfl ?_
              refine RL.skip rfl rfl ?_
              refine RL.pickT rfl rfl rfl rfl ?_
              refine RL.fin ?_
              cases h63
              exact fun a w st => mid_intro true h64 (St.cut [0] ⟨rfl, rfl, rfl, rfl, rfl, rfl, rfl, trivial⟩ (by decide) rfl st)
            · replace h63 := ite_f b68 h63
              refine RL.mv rfl rfl rfl ?_
              refine RL.binI (v := .bool (decide (y54 > (1000 : Int)))) rfl rfl rfl rfl rfl ?_
              refine RL.pickF rfl rfl rfl rfl ?_
              refine RL.fin ?_
              cases h63
              exact fun a w st => mid_intro (decide (y54 > (1000 : Int))) h64 (St.cut [0] ⟨rfl, rfl, rfl, rfl, rfl, rfl, rfl, trivial⟩ (by decide) rfl st)
          · rintro x60 h69
            have h70 := h65 _ h69
            try dsimp only at h70
            refine GL.weak (env' := [(1, .int .i64 x1), (5, .int .i64 x17), (7, .int .i64 y54), (16, v0), (17, .int .i64 ((x0).length : Int)), (18, .int .i64 (i44 : Int)), (27, .bool x60)]) (L' := [imm (TR.sl TR.int) v0 x0]) (fun _ _ st => st) ?_
            refine GL.cond rfl (fun b71 => ?_) (fun b71 => ?_)
            · replace h70 := ite_t b71 h70
              refine GL.seq ?_
              refine GL.region ?_
              refine RL.asg rfl rfl rfl ?_
              refine RL.finG ?_
              cases h70
              replace h48 : some (Fl.rt _) = some y37 := h48
              cases h48
              have hh := h42 _ h40
              subst hh
              exact GL.ret (Gx.ret (v := .int .i64 (1 : Int)) (res1 rfl rfl) (fun a w st => st.toPostC rfl))
            · replace h70 := ite_f b71 h70
              refine GL.skip ?_
              refine GL.region ?_
              refine RL.mv rfl rfl rfl ?_
              refine RL.mv rfl rfl rfl ?_
              refine RL.binI (v := .int .i64 (wadd x17 y54)) rfl rfl rfl rfl rfl ?_
              refine RL.asg rfl rfl rfl ?_
              refine RL.finG ?_
              refine GL.nilB ?_
              refine GL.region ?_
              refine RL.binI (v := .int .i64 ((i44 + 1 : Nat) : Int)) rfl rfl rfl rfl (binI_succ i44 (by omega)) ?_
              refine RL.mv rfl rfl rfl ?_
              refine RL.fin ?_
              cases h70
              exact fun a w st => lop_intro (i44 + 1, r56, wadd x17 y54) ⟨by show i44 + 1 + r56.length = (x0).length; simp only [List.length_cons] at h50; omega, h57, h48⟩ (by simp) (St.cut [0] ⟨rfl, rfl, rfl, rfl, rfl, trivial⟩ (by decide) rfl st)
        · have h53 : ¬ i44 < (x0).length := by have := of_decide_eq_false b52; omega
          obtain rfl : r45 = [] := by rw [← h51]; exact List.drop_of_length_le (by omega)
          replace h49 : some (Fl.nx _) = some y37 := h49
          cases h49
          exact GL.exit (fun a w st => mid_intro x17 h40 (St.cut [] ⟨rfl, rfl, trivial⟩ (by decide) rfl st))
      · rintro x17 h72
        have h73 := h41 _ h72
        try dsimp only at h73
        refine GL.weak (env' := [(1, .int .i64 x1), (5, .int .i64 x17)]) (L' := []) (fun _ _ st => st) ?_
        refine GL.seq ?_
        refine GL.seq ?_
        obtain ⟨y77, K78, h79, h80, h81, h82, h83⟩ := bindR_K h73
        refine GL.join (ι := Bool) (fun (p : Bool) => [(38, .bool p)]) (fun (p : Bool) => []) (fun (p : Bool) => K78 (.nx p)) ?_ ?_
        · skip
          refine GL.region ?_
          refine RL.mv rfl rfl rfl ?_
          refine RL.binI (v := .bool (decide (x1 < (1 : Int)))) rfl rfl rfl rfl rfl ?_
          refine RL.mv rfl rfl rfl ?_
          refine RL.split (t := 34) rfl (fun b84 => ?_) (fun b84 => ?_)
          · replace h79 := ite_t b84 h79
            refine RL.skip rfl rfl ?_
            refine RL.skip rfl rfl ?_
            refine RL.skip rfl rfl ?_
            refine RL.pickT rfl rfl rfl rfl ?_
            refine RL.fin ?_
            cases h79
            exact fun a w st => mid_intro true h80 (St.cut [] ⟨rfl, trivial⟩ (by decide) rfl st)
          · replace h79 := ite_f b84 h79
            refine RL.mv rfl rfl rfl ?_
            refine RL.mv rfl rfl rfl ?_
            refine RL.binI (v := .bool (decide (x1 > x17))) rfl rfl rfl rfl rfl ?_
            refine RL.pickF rfl rfl rfl rfl ?_
            refine RL.fin ?_
            cases h79
            exact fun a w st => mid_intro (decide (x1 > x17)) h80 (St.cut [] ⟨rfl, trivial⟩ (by decide) rfl st)
        · rintro x76 h85
          have h86 := h81 _ h85
          try dsimp only at h86
          refine GL.weak (env' := [(38, .bool x76)]) (L' := []) (fun _ _ st => st) ?_
          refine GL.cond rfl (fun b87 => ?_) (fun b87 => ?_)
          · replace h86 := ite_t b87 h86
            refine GL.seq ?_
            refine GL.region ?_
            refine RL.asg rfl rfl rfl ?_
            refine RL.finG ?_
            have h86 := Option.some.inj h86
            subst h86
            exact GL.ret (Gx.ret (v := .int .i64 (3 : Int)) (res1 rfl rfl) (fun a w st => st.toPostC rfl))
          · replace h86 := ite_f b87 h86
            refine GL.skip ?_
            refine GL.seq ?_
            refine GL.region ?_
            refine RL.asg rfl rfl rfl ?_
            refine RL.finG ?_
            have h86 := Option.some.inj h86
            subst h86
            exact GL.ret (Gx.ret (v := .int .i64 (0 : Int)) (res1 rfl rfl) (fun a w st => st.toPostC rfl))

set_option maxHeartbeats 4000000 in
theorem power_wins_c (S : Hp) (w : World) (hS : S.sub w) (v0 : Value) (x0 : (List Int)) (k0 : ((TR.sl TR.int)).vrep S v0 x0) (x1 : Int) (x2 : Int) (res : Bool) (hm : power_wins_m x0 x1 x2 = some res) : Calls Try.prog 42 #[v0, .int .i64 x1, .int .i64 x2] w (PostC w (.bool res)) := by
  refine calls_enter 29 Try.func42 Try.ntmps42 rfl S true [(0, v0), (1, .int .i64 x1), (2, .int .i64 x2)] [imm (TR.sl TR.int) v0 x0] rfl ⟨rfl, ⟨rfl, ⟨rfl, trivial⟩⟩⟩ hS ⟨k0, trivial⟩ ?_
  unfold power_wins_m at hm
  refine GL.seq ?_
  refine GL.region ?_
  refine RL.asg rfl rfl rfl ?_
  refine RL.finG ?_
  refine GL.seq ?_
  refine GL.region ?_
  refine RL.asg rfl rfl rfl ?_
  refine RL.finG ?_
  refine GL.seq ?_
  refine GL.seq ?_
  refine GL.region ?_
  refine RL.mv rfl rfl rfl ?_
  refine RL.lenS 0 Try.underlying22 rfl rfl rfl rfl SlOf.imm ?_
  refine RL.mv rfl rfl rfl ?_
  refine RL.finG ?_
  refine GL.open_ 0 rfl (fun S h => len_imm S h) (fun n14 => ?_)
  obtain ⟨y15, K16, h17, h18, h19, h20, h21⟩ := bindR_K hm
  refine GL.join (ι := Int) (fun (p : Int) => [(1, .int .i64 x1), (7, .int .i64 p)]) (fun (p : Int) => []) (fun (p : Int) => K16 (.nx p)) ?_ ?_
  · refine GL.block ?_
    refine GL.loop (ι := Nat × (List Int) × Int) (fun (p : Nat × (List Int) × Int) => [(1, .int .i64 x1), (2, .int .i64 x2), (7, .int .i64 p.2.2), (10, v0), (11, .int .i64 ((x0).length : Int)), (12, .int .i64 (p.1 : Int))]) (fun (p : Nat × (List Int) × Int) => [imm (TR.sl TR.int) v0 x0]) (fun (p : Nat × (List Int) × Int) => p.1 + p.2.1.length = (x0).length ∧ List.drop p.1 x0 = p.2.1 ∧ rangeL (power_wins_b1 x2) p.2.1 p.1 p.2.2 = some y15) (fun (p : Nat × (List Int) × Int) => p.2.1.length) (0, x0, (0 : Int)) ⟨by simp, by simp, h17⟩ (fun a w st => St.cut [0] ⟨rfl, rfl, rfl, rfl, rfl, rfl, trivial⟩ (by decide) rfl st) ?_
    rintro ⟨i22, r23, x4⟩ ⟨h28, h29, h27⟩
    try dsimp only at h28 h29 h27
    refine GL.weak (env' := [(1, .int .i64 x1), (2, .int .i64 x2), (7, .int .i64 x4), (10, v0), (11, .int .i64 ((x0).length : Int)), (12, .int .i64 (i22 : Int))]) (L' := [imm (TR.sl TR.int) v0 x0]) (fun _ _ st => st) ?_
    refine GL.seq ?_
    refine GL.region ?_
    refine RL.binI (v := .bool (decide ((i22 : Int) < ((x0).length : Int)))) rfl rfl rfl rfl rfl ?_
    refine RL.finG ?_
    refine GL.seq ?_
    refine GL.cond rfl (fun b30 => ?_) (fun b30 => ?_)
    · have h31 : i22 < (x0).length := by have := of_decide_eq_true b30; omega
      obtain ⟨y32, r34, hr, e33, h35⟩ := drop_cons h29 rfl h31
      subst hr
      obtain ⟨z24, h25, h26⟩ := rangeL_some h27
      unfold power_wins_b1 at h25
      try dsimp only at h25
      refine GL.skip ?_
      refine GL.seq ?_
      refine GL.block ?_
      refine GL.seq ?_
      refine GL.region ?_
      refine RL.mv rfl rfl rfl ?_
      refine RL.idxS (sz := 1) 0 Try.underlying22 Try_ln3 rfl rfl rfl rfl rfl SlOf.imm (by omega) (by omega) ?_
      refine RL.ldSx (i := i22) (e' := y32) 0 Ex.ik Try_ln3 rfl rfl rfl rfl SlOf.imm e33 Part.self ?_
      refine RL.asg rfl rfl rfl ?_
      refine RL.asg rfl rfl rfl ?_
      refine RL.finG ?_
      refine GL.seq ?_
      refine GL.region ?_
      refine RL.mv rfl rfl rfl ?_
      refine RL.mv rfl rfl rfl ?_
      obtain ⟨y38, e39, h25⟩ := bind_some h25
      replace e39 := chk_some e39
      refine RL.sh (by simp) rfl rfl rfl rfl e39 ?_
      refine RL.binI (v := .int .i64 (bits .and .i64 (Int.fdiv x2 (2 ^ (min (i22 : Int).toNat (IntKind.bits .i64)))) (1 : Int))) rfl rfl rfl rfl rfl ?_
      refine RL.binI (v := .bool ((bits .and .i64 (Int.fdiv x2 (2 ^ (min (i22 : Int).toNat (IntKind.bits .i64)))) (1 : Int)) == (1 : Int))) rfl rfl rfl rfl rfl ?_
      refine RL.finG ?_
      refine GL.cond rfl (fun b40 => ?_) (fun b40 => ?_)
      · replace h25 := ite_t b40 h25
        refine GL.region ?_
        refine RL.mv rfl rfl rfl ?_
        refine RL.mv rfl rfl rfl ?_
        refine RL.binI (v := .int .i64 (wadd x4 y32)) rfl rfl rfl rfl rfl ?_
        refine RL.asg rfl rfl rfl ?_
        refine RL.finG ?_
        refine GL.nilB ?_
        refine GL.region ?_
        refine RL.binI (v := .int .i64 ((i22 + 1 : Nat) : Int)) rfl rfl rfl rfl (binI_succ i22 (by omega)) ?_
        refine RL.mv rfl rfl rfl ?_
        refine RL.fin ?_
        cases h25
        exact fun a w st => lop_intro (i22 + 1, r34, wadd x4 y32) ⟨by show i22 + 1 + r34.length = (x0).length; simp only [List.length_cons] at h28; omega, h35, h26⟩ (by simp) (St.cut [0] ⟨rfl, rfl, rfl, rfl, rfl, rfl, trivial⟩ (by decide) rfl st)
      · replace h25 := ite_f b40 h25
        refine GL.skip ?_
        refine GL.nilB ?_
        refine GL.region ?_
        refine RL.binI (v := .int .i64 ((i22 + 1 : Nat) : Int)) rfl rfl rfl rfl (binI_succ i22 (by omega)) ?_
        refine RL.mv rfl rfl rfl ?_
        refine RL.fin ?_
        cases h25
        exact fun a w st => lop_intro (i22 + 1, r34, x4) ⟨by show i22 + 1 + r34.length = (x0).length; simp only [List.length_cons] at h28; omega, h35, h26⟩ (by simp) (St.cut [0] ⟨rfl, rfl, rfl, rfl, rfl, rfl, trivial⟩ (by decide) rfl st)
    · have h31 : ¬ i22 < (x0).length := by have := of_decide_eq_false b30; omega
      obtain rfl : r23 = [] := by rw [← h29]; exact List.drop_of_length_le (by omega)
      replace h27 : some (Fl.nx _) = some y15 := h27
      cases h27
      exact GL.exit (fun a w st => mid_intro x4 h18 (St.cut [] ⟨rfl, rfl, trivial⟩ (by decide) rfl st))
  · rintro x4 h41
    have h42 := h19 _ h41
    try dsimp only at h42
    refine GL.weak (env' := [(1, .int .i64 x1), (7, .int .i64 x4)]) (L' := []) (fun _ _ st => st) ?_
    refine GL.seq ?_
    refine GL.region ?_
    refine RL.mv rfl rfl rfl ?_
    refine RL.mv rfl rfl rfl ?_
    refine RL.binI (v := .bool (decide (x4 ≥ x1))) rfl rfl rfl rfl rfl ?_
    refine RL.asg rfl rfl rfl ?_
    refine RL.finG ?_
    have h42 := Option.some.inj h42
    subst h42
    exact GL.ret (Gx.ret (v := .bool (decide (x4 ≥ x1))) (res1 rfl rfl) (fun a w st => st.toPostC rfl))

set_option maxHeartbeats 4000000 in
theorem power_Swings_c (S : Hp) (w : World) (hS : S.sub w) (v0 : Value) (x0 : (List Int)) (k0 : ((TR.sl TR.int)).vrep S v0 x0) (x1 : Int) (res : (List Int) × Int) (hm : power_Swings_m x0 x1 = some res) : Calls Try.prog 25 #[v0, .int .i64 x1] w (Post w S (fun (o : Value) => .tuple #[o, .int .i64 res.2]) (fun (o : Value) => [own 3 TR.int o res.1])) := by
  refine calls_enter 60 Try.func25 Try.ntmps25 rfl S false [(0, v0), (1, .int .i64 x1)] [imm (TR.sl TR.int) v0 x0] rfl ⟨rfl, ⟨rfl, trivial⟩⟩ hS ⟨k0, trivial⟩ ?_
  unfold power_Swings_m at hm
  refine GL.seq ?_
  refine GL.region ?_
  refine RL.asg rfl rfl rfl ?_
  refine RL.asg rfl rfl rfl ?_
  refine RL.finG ?_
  refine GL.seq ?_
  refine GL.seq ?_
  refine GL.region ?_
  refine RL.mv rfl rfl rfl ?_
  refine RL.mv rfl rfl rfl ?_
  obtain ⟨y5, e6, hm⟩ := bind_some hm
  refine RL.callC (v := .int .i64 y5) (vs := [v0, .int .i64 x1]) Try_fit41 rfl rfl rfl rfl (fun U w hU hW hL => power_Check_c U w hU _ _ (hL 0 _ _ rfl Seen.imm) x1 _ e6) ?_
  refine RL.asg rfl rfl rfl ?_
  refine RL.finG ?_
  refine GL.seq ?_
  refine GL.region ?_
  refine RL.mv rfl rfl rfl ?_
  refine RL.binI (v := .bool (y5 != (0 : Int))) rfl rfl rfl rfl rfl ?_
  refine RL.finG ?_
  refine GL.cond rfl (fun b7 => ?_) (fun b7 => ?_)
  · replace hm := ite_t b7 hm
    refine GL.seq ?_
    refine GL.region ?_
    refine RL.mv rfl rfl rfl ?_
    refine RL.asg rfl rfl rfl ?_
    refine RL.asg rfl rfl rfl ?_
    refine RL.finG ?_
    refine GL.weak (fun a w st => st.nilOwn 3 TR.int) ?_
    have hm := Option.some.inj hm
    subst hm
    exact GL.ret (Gx.ret (v := .tuple #[Value.slice none 0 0, .int .i64 y5]) (res2 rfl rfl rfl) (fun a w st => (st.pick [1] (by decide) rfl).toPost (Value.slice none 0 0)))
  · replace hm := ite_f b7 hm
    refine GL.skip ?_
    refine GL.seq ?_
    refine GL.region ?_
    refine RL.mv rfl rfl rfl ?_
    refine RL.lenS 0 Try.underlying22 rfl rfl rfl rfl SlOf.imm ?_
    obtain ⟨y11, e12, hm⟩ := bind_some hm
    replace e12 := chk_some e12
    refine RL.mkS (t := TR.int) (z := (0 : Int)) Try.underlying22 Try_lo3 (fun S => rfl) rfl rfl rfl rfl e12.1 e12.2 ?_
    intro v13
    refine RL.asg rfl rfl rfl ?_
    refine RL.finG ?_
    refine GL.seq ?_
    refine GL.seq ?_
    refine GL.region ?_
    refine RL.mv rfl rfl rfl ?_
    refine RL.lenS 0 Try.underlying22 rfl rfl rfl rfl SlOf.imm ?_
    obtain ⟨y16, e17, hm⟩ := bind_some hm
    replace e17 := chk_some e17
    refine RL.sh (by simp) rfl rfl rfl rfl e17 ?_
    refine RL.mv rfl rfl rfl ?_
    refine RL.finG ?_
    obtain ⟨y367, e368, hm⟩ := bind_some hm
    replace e368 := chk_some e368
    obtain ⟨y369, K370, h371, h372, h373, h374, h375⟩ := bindR_K hm
    refine GL.join (ι := (List Int) × Value) (fun (p : (List Int) × Value) => [(7, p.2)]) (fun (p : (List Int) × Value) => [own 3 TR.int p.2 p.1]) (fun (p : (List Int) × Value) => K370 (.nx p.1)) ?_ ?_
    · refine GL.block ?_
      refine GL.loop (ι := Nat × Nat × (List Int) × Value) (fun (p : Nat × Nat × (List Int) × Value) => [(0, v0), (1, .int .i64 x1), (7, p.2.2.2), (21, .int .i64 (IntKind.wrap .i64 ((1 : Int) * 2 ^ (min ((x0).length : Int).toNat (IntKind.bits .i64))))), (22, .int .i64 (p.1 : Int))]) (fun (p : Nat × Nat × (List Int) × Value) => [imm (TR.sl TR.int) v0 x0, own 3 TR.int p.2.2.2 p.2.2.1]) (fun (p : Nat × Nat × (List Int) × Value) => p.1 + p.2.1 = (IntKind.wrap .i64 ((1 : Int) * 2 ^ (min ((x0).length : Int).toNat (IntKind.bits .i64)))).toNat ∧ rangeN (power_Swings_b1 x0 x1) p.2.1 p.1 p.2.2.1 = some y369) (fun (p : Nat × Nat × (List Int) × Value) => p.2.1) (0, (IntKind.wrap .i64 ((1 : Int) * 2 ^ (min ((x0).length : Int).toNat (IntKind.bits .i64)))).toNat, (List.replicate (((x0).length : Int)).toNat (0 : Int)), v13) ⟨by simp, h371⟩ (fun a w st => St.cut [0, 1] ⟨rfl, rfl, rfl, rfl, rfl, trivial⟩ (by decide) rfl st) ?_
      rintro ⟨i376, r377, l191, v192⟩ ⟨h382, h381⟩
      try dsimp only at h382 h381
      refine GL.weak (env' := [(0, v0), (1, .int .i64 x1), (7, v192), (21, .int .i64 (IntKind.wrap .i64 ((1 : Int) * 2 ^ (min ((x0).length : Int).toNat (IntKind.bits .i64))))), (22, .int .i64 (i376 : Int))]) (L' := [imm (TR.sl TR.int) v0 x0, own 3 TR.int v192 l191]) (fun _ _ st => st) ?_
      refine GL.seq ?_
      refine GL.region ?_
      refine RL.binI (v := .bool (decide ((i376 : Int) < IntKind.wrap .i64 ((1 : Int) * 2 ^ (min ((x0).length : Int).toNat (IntKind.bits .i64)))))) rfl rfl rfl rfl rfl ?_
      refine RL.finG ?_
      refine GL.seq ?_
      refine GL.cond rfl (fun b384 => ?_) (fun b384 => ?_)
      · have h385 : i376 < (IntKind.wrap .i64 ((1 : Int) * 2 ^ (min ((x0).length : Int).toNat (IntKind.bits .i64)))).toNat := by have := of_decide_eq_true b384; omega
        obtain ⟨r386, hr⟩ : ∃ m, r377 = m + 1 := ⟨r377 - 1, by omega⟩
        subst hr
        obtain ⟨z378, h379, h380⟩ := rangeN_some h381
        unfold power_Swings_b1 at h379
        try dsimp only at h379
        refine GL.skip ?_
        refine GL.seq ?_
        refine GL.block ?_
        refine GL.seq ?_
        refine GL.region ?_
        refine RL.mv rfl rfl rfl ?_
        refine RL.asg rfl rfl rfl ?_
        refine RL.finG ?_
        refine GL.seq ?_
        refine GL.region ?_
        refine RL.mv rfl rfl rfl ?_
        refine RL.lenS 0 Try.underlying22 rfl rfl rfl rfl SlOf.imm ?_
        refine RL.mv rfl rfl rfl ?_
        refine RL.finG ?_
        refine GL.open_ 0 rfl (fun S h => len_imm S h) (fun n487 => ?_)
        obtain ⟨y488, K489, h490, h491, h492, h493, h494⟩ := bindF_K h379
        refine GL.join (ι := (List Int) × Value) (fun (p : (List Int) × Value) => [(0, v0), (1, .int .i64 x1), (7, p.2), (21, .int .i64 (IntKind.wrap .i64 ((1 : Int) * 2 ^ (min ((x0).length : Int).toNat (IntKind.bits .i64))))), (22, .int .i64 (i376 : Int))]) (fun (p : (List Int) × Value) => [imm (TR.sl TR.int) v0 x0, own 3 TR.int p.2 p.1]) (fun (p : (List Int) × Value) => K489 (.nx p.1)) ?_ ?_
        · refine GL.block ?_
          refine GL.loop (ι := Nat × (List Int) × (List Int) × Value) (fun (p : Nat × (List Int) × (List Int) × Value) => [(0, v0), (1, .int .i64 x1), (7, p.2.2.2), (8, .int .i64 (i376 : Int)), (21, .int .i64 (IntKind.wrap .i64 ((1 : Int) * 2 ^ (min ((x0).length : Int).toNat (IntKind.bits .i64))))), (22, .int .i64 (i376 : Int)), (26, .int .i64 ((x0).length : Int)), (27, .int .i64 (p.1 : Int))]) (fun (p : Nat × (List Int) × (List Int) × Value) => [imm (TR.sl TR.int) v0 x0, own 3 TR.int p.2.2.2 p.2.2.1]) (fun (p : Nat × (List Int) × (List Int) × Value) => p.1 + p.2.1.length = (x0).length ∧ List.drop p.1 x0 = p.2.1 ∧ rangeL (power_Swings_b2 i376 x0 x1) p.2.1 p.1 p.2.2.1 = some y488) (fun (p : Nat × (List Int) × (List Int) × Value) => p.2.1.length) (0, x0, l191, v192) ⟨by simp, by simp, h490⟩ (fun a w st => St.cut [0, 1] ⟨rfl, rfl, rfl, rfl, rfl, rfl, rfl, rfl, trivial⟩ (by decide) rfl st) ?_
          rintro ⟨i495, r496, l436, v437⟩ ⟨h501, h502, h500⟩
          try dsimp only at h501 h502 h500
          refine GL.weak (env' := [(0, v0), (1, .int .i64 x1), (7, v437), (8, .int .i64 (i376 : Int)), (21, .int .i64 (IntKind.wrap .i64 ((1 : Int) * 2 ^ (min ((x0).length : Int).toNat (IntKind.bits .i64))))), (22, .int .i64 (i376 : Int)), (26, .int .i64 ((x0).length : Int)), (27, .int .i64 (i495 : Int))]) (L' := [imm (TR.sl TR.int) v0 x0, own 3 TR.int v437 l436]) (fun _ _ st => st) ?_
          refine GL.seq ?_
          refine GL.region ?_
          refine RL.binI (v := .bool (decide ((i495 : Int) < ((x0).length : Int)))) rfl rfl rfl rfl rfl ?_
          refine RL.finG ?_
          refine GL.seq ?_
          refine GL.cond rfl (fun b503 => ?_) (fun b503 => ?_)
          · have h504 : i495 < (x0).length := by have := of_decide_eq_true b503; omega
            obtain ⟨y505, r507, hr, e506, h508⟩ := drop_cons h502 rfl h504
            subst hr
            obtain ⟨z497, h498, h499⟩ := rangeL_some h500
            unfold power_Swings_b2 at h498
            try dsimp only at h498
            refine GL.skip ?_
            refine GL.seq ?_
            refine GL.block ?_
            refine GL.seq ?_
            refine GL.region ?_
            refine RL.mv rfl rfl rfl ?_
            refine RL.asg rfl rfl rfl ?_
            refine RL.finG ?_
            refine GL.seq ?_
            obtain ⟨y530, K531, h532, h533, h534, h535, h536⟩ := bindF_K h498
            refine GL.join (ι := Bool) (fun (p : Bool) => [(0, v0), (1, .int .i64 x1), (7, v437), (8, .int .i64 (i376 : Int)), (9, .int .i64 (i495 : Int)), (21, .int .i64 (IntKind.wrap .i64 ((1 : Int) * 2 ^ (min ((x0).length : Int).toNat (IntKind.bits .i64))))), (22, .int .i64 (i376 : Int)), (26, .int .i64 ((x0).length : Int)), (27, .int .i64 (i495 : Int)), (50, .bool p)]) (fun (p : Bool) => [imm (TR.sl TR.int) v0 x0, own 3 TR.int v437 l436]) (fun (p : Bool) => K531 (.nx p)) ?_ ?_
            · skip
              refine GL.region ?_
              refine RL.mv rfl rfl rfl ?_
              refine RL.mv rfl rfl rfl ?_
              obtain ⟨y537, e538, h532⟩ := bind_some h532
              replace e538 := chk_some e538
              refine RL.sh (by simp) rfl rfl rfl rfl e538 ?_
              refine RL.binI (v := .int .i64 (bits .and .i64 (Int.fdiv (i376 : Int) (2 ^ (min (i495 : Int).toNat (IntKind.bits .i64)))) (1 : Int))) rfl rfl rfl rfl rfl ?_
              refine RL.binI (v := .bool ((bits .and .i64 (Int.fdiv (i376 : Int) (2 ^ (min (i495 : Int).toNat (IntKind.bits .i64)))) (1 : Int)) == (1 : Int))) rfl rfl rfl rfl rfl ?_
              refine RL.mv rfl rfl rfl ?_
              refine RL.split (t := 35) rfl (fun b539 => ?_) (fun b539 => ?_)
              · replace h532 := ite_t b539 h532
                refine RL.mv rfl rfl rfl ?_
                refine RL.mv rfl rfl rfl ?_
                refine RL.mv rfl rfl rfl ?_
                obtain ⟨y540, e541, h532⟩ := bind_some h532
                refine RL.callC (v := .bool y540) (vs := [v0, .int .i64 x1, .int .i64 (i376 : Int)]) Try_fit42 rfl rfl rfl rfl (fun U w hU hW hL => power_wins_c U w hU _ _ (hL 0 _ _ rfl Seen.imm) x1 (i376 : Int) _ e541) ?_
                refine RL.pickT rfl rfl rfl rfl ?_
                refine RL.mv rfl rfl rfl ?_
                refine RL.split (t := 41) rfl (fun b542 => ?_) (fun b542 => ?_)
                · replace h532 := ite_t b542 h532
                  refine RL.mv rfl rfl rfl ?_
                  refine RL.mv rfl rfl rfl ?_
                  refine RL.mv rfl rfl rfl ?_
                  refine RL.mv rfl rfl rfl ?_
                  obtain ⟨y543, e544, h532⟩ := bind_some h532
                  replace e544 := chk_some e544
                  refine RL.sh (by simp) rfl rfl rfl rfl e544 ?_
                  refine RL.binI (v := .int .i64 (bits .andNot .i64 (i376 : Int) (IntKind.wrap .i64 ((1 : Int) * 2 ^ (min (i495 : Int).toNat (IntKind.bits .i64)))))) rfl rfl rfl rfl rfl ?_
                  obtain ⟨y545, e546, h532⟩ := bind_some h532
                  refine RL.callC (v := .bool y545) (vs := [v0, .int .i64 x1, .int .i64 (bits .andNot .i64 (i376 : Int) (IntKind.wrap .i64 ((1 : Int) * 2 ^ (min (i495 : Int).toNat (IntKind.bits .i64)))))]) Try_fit42 rfl rfl rfl rfl (fun U w hU hW hL => power_wins_c U w hU _ _ (hL 0 _ _ rfl Seen.imm) x1 (bits .andNot .i64 (i376 : Int) (IntKind.wrap .i64 ((1 : Int) * 2 ^ (min (i495 : Int).toNat (IntKind.bits .i64))))) _ e546) ?_
                  refine RL.notB rfl rfl rfl ?_
                  refine RL.pickT rfl rfl rfl rfl ?_
                  refine RL.fin ?_
                  cases h532
                  exact fun a w st => mid_intro (!y545) h533 (St.cut [0, 1] ⟨rfl, rfl, rfl, rfl, rfl, rfl, rfl, rfl, rfl, rfl, trivial⟩ (by decide) rfl st)
                · replace h532 := ite_f b542 h532
                  refine RL.skip rfl rfl ?_
                  refine RL.skip rfl rfl ?_
                  refine RL.skip rfl rfl ?_
                  refine RL.skip rfl rfl ?_
                  refine RL.skip rfl rfl ?_
                  refine RL.skip rfl rfl ?_
                  refine RL.skip rfl rfl ?_
                  refine RL.skip rfl rfl ?_
                  refine RL.pickF rfl rfl rfl rfl ?_
                  refine RL.fin ?_
                  cases h532
                  exact fun a w st => mid_intro false h533 (St.cut [0, 1] ⟨rfl, rfl, rfl, rfl, rfl, rfl, rfl, rfl, rfl, rfl, trivial⟩ (by decide) rfl st)
              · replace h532 := ite_f b539 h532
                refine RL.skip rfl rfl ?_
                refine RL.skip rfl rfl ?_
                refine RL.skip rfl rfl ?_
                refine RL.skip rfl rfl ?_
                refine RL.pickF rfl rfl rfl rfl ?_
                refine RL.mv rfl rfl rfl ?_
                refine RL.skip rfl rfl ?_
                refine RL.skip rfl rfl ?_
                refine RL.skip rfl rfl ?_
                refine RL.skip rfl rfl ?_
                refine RL.skip rfl rfl ?_
                refine RL.skip rfl rfl ?_
                refine RL.skip rfl rfl ?_
                refine RL.skip rfl rfl ?_
                refine RL.pickF rfl rfl rfl rfl ?_
                refine RL.fin ?_
                cases h532
                exact fun a w st => mid_intro false h533 (St.cut [0, 1] ⟨rfl, rfl, rfl, rfl, rfl, rfl, rfl, rfl, rfl, rfl, trivial⟩ (by decide) rfl st)
            · rintro x529 h547
              have h548 := h534 _ h547
              try dsimp only at h548
              refine GL.weak (env' := [(0, v0), (1, .int .i64 x1), (7, v437), (8, .int .i64 (i376 : Int)), (9, .int .i64 (i495 : Int)), (21, .int .i64 (IntKind.wrap .i64 ((1 : Int) * 2 ^ (min ((x0).length : Int).toNat (IntKind.bits .i64))))), (22, .int .i64 (i376 : Int)), (26, .int .i64 ((x0).length : Int)), (27, .int .i64 (i495 : Int)), (50, .bool x529)]) (L' := [imm (TR.sl TR.int) v0 x0, own 3 TR.int v437 l436]) (fun _ _ st => st) ?_
              refine GL.cond rfl (fun b549 => ?_) (fun b549 => ?_)
              · replace h548 := ite_t b549 h548
                refine GL.region ?_
                refine RL.mv rfl rfl rfl ?_
                refine RL.mv rfl rfl rfl ?_
                obtain ⟨y554, e555, h548⟩ := bind_some h548
                refine RL.idxS (sz := 1) 1 Try.underlying22 Try_ln3 rfl rfl rfl rfl rfl SlOf.own (idx_some e555).1 (idx_some e555).2.1 ?_
                refine RL.ldSx (i := i495) (e' := y554) 1 Ex.ik Try_ln3 rfl rfl rfl rfl SlOf.own (idx_some e555).2.2 Part.self ?_
                refine RL.binI (v := .int .i64 (wadd y554 (1 : Int))) rfl rfl rfl rfl rfl ?_
                obtain ⟨y556, e557, h548⟩ := bind_some h548
                refine RL.idxS (sz := 1) 1 Try.underlying22 Try_ln3 rfl rfl rfl rfl rfl SlOf.own (idx_some e557).1 (idx_some e557).2.1 ?_
                refine RL.stS (i := i495) (e' := wadd y554 (1 : Int)) (e1 := wadd y554 (1 : Int)) (r := TR.int) 1 Try_ln3 rfl rfl rfl rfl VR.int rfl (idx_some e557).2.2 Upd.self ?_
                refine RL.finG ?_
                refine GL.nilB ?_
                refine GL.region ?_
                refine RL.binI (v := .int .i64 ((i495 + 1 : Nat) : Int)) rfl rfl rfl rfl (binI_succ i495 (by omega)) ?_
                refine RL.mv rfl rfl rfl ?_
                refine RL.fin ?_
                cases h548
                exact fun a w st => lop_intro (i495 + 1, r507, (List.set l436 i495 (wadd y554 (1 : Int))), v437) ⟨by show i495 + 1 + r507.length = (x0).length; simp only [List.length_cons] at h501; omega, h508, h499⟩ (by simp) (St.cut [0, 1] ⟨rfl, rfl, rfl, rfl, rfl, rfl, rfl, rfl, trivial⟩ (by decide) rfl st)
              · replace h548 := ite_f b549 h548
                refine GL.skip ?_
                refine GL.nilB ?_
                refine GL.region ?_
                refine RL.binI (v := .int .i64 ((i495 + 1 : Nat) : Int)) rfl rfl rfl rfl (binI_succ i495 (by omega)) ?_
                refine RL.mv rfl rfl rfl ?_
                refine RL.fin ?_
                cases h548
                exact fun a w st => lop_intro (i495 + 1, r507, l436, v437) ⟨by show i495 + 1 + r507.length = (x0).length; simp only [List.length_cons] at h501; omega, h508, h499⟩ (by simp) (St.cut [0, 1] ⟨rfl, rfl, rfl, rfl, rfl, rfl, rfl, rfl, trivial⟩ (by decide) rfl st)
          · have h504 : ¬ i495 < (x0).length := by have := of_decide_eq_false b503; omega
            obtain rfl : r496 = [] := by rw [← h502]; exact List.drop_of_length_le (by omega)
            replace h500 : some (Fl.nx _) = some y488 := h500
            cases h500
            exact GL.exit (fun a w st => mid_intro (l436, v437) h491 (St.cut [0, 1] ⟨rfl, rfl, rfl, rfl, rfl, trivial⟩ (by decide) rfl st))
        · rintro ⟨l436, v437⟩ h558
          have h559 := h492 _ h558
          try dsimp only at h559
          refine GL.weak (env' := [(0, v0), (1, .int .i64 x1), (7, v437), (21, .int .i64 (IntKind.wrap .i64 ((1 : Int) * 2 ^ (min ((x0).length : Int).toNat (IntKind.bits .i64))))), (22, .int .i64 (i376 : Int))]) (L' := [imm (TR.sl TR.int) v0 x0, own 3 TR.int v437 l436]) (fun _ _ st => st) ?_
          refine GL.nilB ?_
          refine GL.region ?_
          refine RL.binI (v := .int .i64 ((i376 + 1 : Nat) : Int)) rfl rfl rfl rfl (binI_succ i376 (by omega)) ?_
          refine RL.mv rfl rfl rfl ?_
          refine RL.fin ?_
          cases h559
          exact fun a w st => lop_intro (i376 + 1, r386, l436, v437) ⟨by show i376 + 1 + r386 = (IntKind.wrap .i64 ((1 : Int) * 2 ^ (min ((x0).length : Int).toNat (IntKind.bits .i64)))).toNat; omega, h380⟩ (by simp) (St.cut [0, 1] ⟨rfl, rfl, rfl, rfl, rfl, trivial⟩ (by decide) rfl st)
      · have h385 : ¬ i376 < (IntKind.wrap .i64 ((1 : Int) * 2 ^ (min ((x0).length : Int).toNat (IntKind.bits .i64)))).toNat := by have := of_decide_eq_false b384; omega
        obtain rfl : r377 = 0 := by omega
        replace h381 : some (Fl.nx _) = some y369 := h381
        cases h381
        exact GL.exit (fun a w st => mid_intro (l191, v192) h372 (St.cut [1] ⟨rfl, trivial⟩ (by decide) rfl st))
    · rintro ⟨l191, v192⟩ h560
      have h561 := h373 _ h560
      try dsimp only at h561
      refine GL.weak (env' := [(7, v192)]) (L' := [own 3 TR.int v192 l191]) (fun _ _ st => st) ?_
      refine GL.seq ?_
      refine GL.region ?_
      refine RL.mv rfl rfl rfl ?_
      refine RL.asg rfl rfl rfl ?_
      refine RL.asg rfl rfl rfl ?_
      refine RL.finG ?_
      have h561 := Option.some.inj h561
      subst h561
      exact GL.ret (Gx.ret (v := .tuple #[v192, .int .i64 (0 : Int)]) (res2 rfl rfl rfl) (fun a w st => (st.pick [0] (by decide) rfl).toPost v192))

set_option maxHeartbeats 4000000 in
theorem power_factorial_c (S : Hp) (w : World) (hS : S.sub w) (x0 : Int) (res : Int) (hm : power_factorial_m x0 = some res) : Calls Try.prog 43 #[.int .i64 x0] w (PostC w (.int .i64 res)) := by
  refine calls_enter 14 Try.func43 Try.ntmps43 rfl S true [(0, .int .i64 x0)] [] rfl ⟨rfl, trivial⟩ hS trivial ?_
  unfold power_factorial_m at hm
  refine GL.seq ?_
  refine GL.region ?_
  refine RL.asg rfl rfl rfl ?_
  refine RL.finG ?_
  refine GL.seq ?_
  refine GL.region ?_
  refine RL.asg rfl rfl rfl ?_
  refine RL.finG ?_
  refine GL.seq ?_
  refine GL.seq ?_
  refine GL.region ?_
  refine RL.asg rfl rfl rfl ?_
  refine RL.finG ?_
  obtain ⟨y5, K6, h7, h8, h9, h10, h11⟩ := bindR_K hm
  refine GL.join (ι := Int × Int) (fun (p : Int × Int) => [(3, .int .i64 p.1)]) (fun (p : Int × Int) => []) (fun (p : Int × Int) => K6 (.nx (p.1, p.2))) ?_ ?_
  · refine GL.block ?_
    refine GL.loop (ι := Nat × Int × Int) (fun (p : Nat × Int × Int) => [(0, .int .i64 x0), (3, .int .i64 p.2.1), (4, .int .i64 p.2.2)]) (fun (p : Nat × Int × Int) => []) (fun (p : Nat × Int × Int) => loopM (power_factorial_b1 x0) p.1 (p.2.1, p.2.2) = some y5) (fun (p : Nat × Int × Int) => p.1) (1048576, (1 : Int), (2 : Int)) h7 (fun a w st => St.cut [] ⟨rfl, rfl, rfl, trivial⟩ (by decide) rfl st) ?_
    rintro ⟨r13, x2, x3⟩ h17
    try dsimp only at h17
    refine GL.weak (env' := [(0, .int .i64 x0), (3, .int .i64 x2), (4, .int .i64 x3)]) (L' := []) (fun _ _ st => st) ?_
    obtain ⟨r20, z14, hr, h15, h16⟩ := loopM_some h17
    subst hr
    unfold power_factorial_b1 at h15
    try dsimp only at h15
    refine GL.seq ?_
    refine GL.seq ?_
    refine GL.region ?_
    refine RL.mv rfl rfl rfl ?_
    refine RL.mv rfl rfl rfl ?_
    refine RL.binI (v := .bool (decide (x3 ≤ x0))) rfl rfl rfl rfl rfl ?_
    refine RL.finG ?_
    refine GL.cond rfl (fun b21 => ?_) (fun b21 => ?_)
    · replace h15 := ite_t b21 h15
      refine GL.skip ?_
      refine GL.seq ?_
      refine GL.block ?_
      refine GL.region ?_
      refine RL.mv rfl rfl rfl ?_
      refine RL.mv rfl rfl rfl ?_
      refine RL.binI (v := .int .i64 (wmul x2 x3)) rfl rfl rfl rfl rfl ?_
      refine RL.asg rfl rfl rfl ?_
      refine RL.finG ?_
      refine GL.nilB ?_
      refine GL.region ?_
      refine RL.mv rfl rfl rfl ?_
      refine RL.binI (v := .int .i64 (wadd x3 (1 : Int))) rfl rfl rfl rfl rfl ?_
      refine RL.asg rfl rfl rfl ?_
      refine RL.finG ?_
      cases h15
      exact fun a w st => lop_intro (r20, wmul x2 x3, wadd x3 (1 : Int)) h16 (by simp) (St.cut [] ⟨rfl, rfl, rfl, trivial⟩ (by decide) rfl st)
    · replace h15 := ite_f b21 h15
      cases h15
      replace h16 : some (Fl.nx _) = some y5 := h16
      cases h16
      exact GL.exit (fun a w st => mid_intro (x2, x3) h8 (St.cut [] ⟨rfl, trivial⟩ (by decide) rfl st))
  · rintro ⟨x2, x3⟩ h22
    have h23 := h9 _ h22
    try dsimp only at h23
    refine GL.weak (env' := [(3, .int .i64 x2)]) (L' := []) (fun _ _ st => st) ?_
    refine GL.seq ?_
    refine GL.region ?_
    refine RL.mv rfl rfl rfl ?_
    refine RL.asg rfl rfl rfl ?_
    refine RL.finG ?_
    have h23 := Option.some.inj h23
    subst h23
    exact GL.ret (Gx.ret (v := .int .i64 x2) (res1 rfl rfl) (fun a w st => st.toPostC rfl))

set_option maxHeartbeats 4000000 in
theorem power_Turns_c (S : Hp) (w : World) (hS : S.sub w) (v0 : Value) (x0 : (List Int)) (k0 : ((TR.sl TR.int)).vrep S v0 x0) (x1 : Int) (res : (List Int) × Int) (hm : power_Turns_m x0 x1 = some res) : Calls Try.prog 24 #[v0, .int .i64 x1] w (Post w S (fun (o : Value) => .tuple #[o, .int .i64 res.2]) (fun (o : Value) => [own 3 TR.int o res.1])) := by
  refine calls_enter 83 Try.func24 Try.ntmps24 rfl S false [(0, v0), (1, .int .i64 x1)] [imm (TR.sl TR.int) v0 x0] rfl ⟨rfl, ⟨rfl, trivial⟩⟩ hS ⟨k0, trivial⟩ ?_
  unfold power_Turns_m at hm
  refine GL.seq ?_
  refine GL.region ?_
  refine RL.asg rfl rfl rfl ?_
  refine RL.asg rfl rfl rfl ?_
  refine RL.finG ?_
  refine GL.seq ?_
  refine GL.seq ?_
  refine GL.region ?_
  refine RL.mv rfl rfl rfl ?_
  refine RL.mv rfl rfl rfl ?_
  obtain ⟨y5, e6, hm⟩ := bind_some hm
  refine RL.callC (v := .int .i64 y5) (vs := [v0, .int .i64 x1]) Try_fit41 rfl rfl rfl rfl (fun U w hU hW hL => power_Check_c U w hU _ _ (hL 0 _ _ rfl Seen.imm) x1 _ e6) ?_
  refine RL.asg rfl rfl rfl ?_
  refine RL.finG ?_
  refine GL.seq ?_
  refine GL.region ?_
  refine RL.mv rfl rfl rfl ?_
  refine RL.binI (v := .bool (y5 != (0 : Int))) rfl rfl rfl rfl rfl ?_
  refine RL.finG ?_
  refine GL.cond rfl (fun b7 => ?_) (fun b7 => ?_)
  · replace hm := ite_t b7 hm
    refine GL.seq ?_
    refine GL.region ?_
    refine RL.mv rfl rfl rfl ?_
    refine RL.asg rfl rfl rfl ?_
    refine RL.asg rfl rfl rfl ?_
    refine RL.finG ?_
    refine GL.weak (fun a w st => st.nilOwn 3 TR.int) ?_
    have hm := Option.some.inj hm
    subst hm
    exact GL.ret (Gx.ret (v := .tuple #[Value.slice none 0 0, .int .i64 y5]) (res2 rfl rfl rfl) (fun a w st => (st.pick [1] (by decide) rfl).toPost (Value.slice none 0 0)))
  · replace hm := ite_f b7 hm
    refine GL.skip ?_
    refine GL.seq ?_
    refine GL.region ?_
    refine RL.mv rfl rfl rfl ?_
    refine RL.lenS 0 Try.underlying22 rfl rfl rfl rfl SlOf.imm ?_
    obtain ⟨y11, e12, hm⟩ := bind_some hm
    replace e12 := chk_some e12
    refine RL.mkS (t := TR.int) (z := (0 : Int)) Try.underlying22 Try_lo3 (fun S => rfl) rfl rfl rfl rfl e12.1 e12.2 ?_
    intro v13
    refine RL.asg rfl rfl rfl ?_
    refine RL.finG ?_
    refine GL.seq ?_
    refine GL.seq ?_
    refine GL.region ?_
    refine RL.mv rfl rfl rfl ?_
    refine RL.lenS 0 Try.underlying22 rfl rfl rfl rfl SlOf.imm ?_
    obtain ⟨y16, e17, hm⟩ := bind_some hm
    replace e17 := chk_some e17
    refine RL.sh (by simp) rfl rfl rfl rfl e17 ?_
    refine RL.mv rfl rfl rfl ?_
    refine RL.finG ?_
    obtain ⟨y481, e482, hm⟩ := bind_some hm
    replace e482 := chk_some e482
    obtain ⟨y483, K484, h485, h486, h487, h488, h489⟩ := bindR_K hm
    refine GL.join (ι := (List Int) × Value) (fun (p : (List Int) × Value) => [(7, p.2)]) (fun (p : (List Int) × Value) => [own 3 TR.int p.2 p.1]) (fun (p : (List Int) × Value) => K484 (.nx p.1)) ?_ ?_
    · refine GL.block ?_
      refine GL.loop (ι := Nat × Nat × (List Int) × Value) (fun (p : Nat × Nat × (List Int) × Value) => [(0, v0), (1, .int .i64 x1), (7, p.2.2.2), (23, .int .i64 (IntKind.wrap .i64 ((1 : Int) * 2 ^ (min ((x0).length : Int).toNat (IntKind.bits .i64))))), (24, .int .i64 (p.1 : Int))]) (fun (p : Nat × Nat × (List Int) × Value) => [imm (TR.sl TR.int) v0 x0, own 3 TR.int p.2.2.2 p.2.2.1]) (fun (p : Nat × Nat × (List Int) × Value) => p.1 + p.2.1 = (IntKind.wrap .i64 ((1 : Int) * 2 ^ (min ((x0).length : Int).toNat (IntKind.bits .i64)))).toNat ∧ rangeN (power_Turns_b1 x0 x1) p.2.1 p.1 p.2.2.1 = some y483) (fun (p : Nat × Nat × (List Int) × Value) => p.2.1) (0, (IntKind.wrap .i64 ((1 : Int) * 2 ^ (min ((x0).length : Int).toNat (IntKind.bits .i64)))).toNat, (List.replicate (((x0).length : Int)).toNat (0 : Int)), v13) ⟨by simp, h485⟩ (fun a w st => St.cut [0, 1] ⟨rfl, rfl, rfl, rfl, rfl, trivial⟩ (by decide) rfl st) ?_
      rintro ⟨i490, r491, l248, v249⟩ ⟨h496, h495⟩
      try dsimp only at h496 h495
      refine GL.weak (env' := [(0, v0), (1, .int .i64 x1), (7, v249), (23, .int .i64 (IntKind.wrap .i64 ((1 : Int) * 2 ^ (min ((x0).length : Int).toNat (IntKind.bits .i64))))), (24, .int .i64 (i490 : Int))]) (L' := [imm (TR.sl TR.int) v0 x0, own 3 TR.int v249 l248]) (fun _ _ st => st) ?_
      refine GL.seq ?_
      refine GL.region ?_
      refine RL.binI (v := .bool (decide ((i490 : Int) < IntKind.wrap .i64 ((1 : Int) * 2 ^ (min ((x0).length : Int).toNat (IntKind.bits .i64)))))) rfl rfl rfl rfl rfl ?_
      refine RL.finG ?_
      refine GL.seq ?_
      refine GL.cond rfl (fun b498 => ?_) (fun b498 => ?_)
      · have h499 : i490 < (IntKind.wrap .i64 ((1 : Int) * 2 ^ (min ((x0).length : Int).toNat (IntKind.bits .i64)))).toNat := by have := of_decide_eq_true b498; omega
        obtain ⟨r500, hr⟩ : ∃ m, r491 = m + 1 := ⟨r491 - 1, by omega⟩
        subst hr
        obtain ⟨z492, h493, h494⟩ := rangeN_some h495
        unfold power_Turns_b1 at h493
        try dsimp only at h493
        refine GL.skip ?_
        refine GL.seq ?_
        refine GL.block ?_
        refine GL.seq ?_
        refine GL.region ?_
        refine RL.mv rfl rfl rfl ?_
        refine RL.asg rfl rfl rfl ?_
        refine RL.finG ?_
        refine GL.seq ?_
        refine GL.region ?_
        refine RL.asg rfl rfl rfl ?_
        refine RL.finG ?_
        refine GL.seq ?_
        refine GL.seq ?_
        refine GL.region ?_
        refine RL.mv rfl rfl rfl ?_
        refine RL.lenS 0 Try.underlying22 rfl rfl rfl rfl SlOf.imm ?_
        refine RL.mv rfl rfl rfl ?_
        refine RL.finG ?_
        refine GL.open_ 0 rfl (fun S h => len_imm S h) (fun n506 => ?_)
        obtain ⟨y507, K508, h509, h510, h511, h512, h513⟩ := bindF_K h493
        refine GL.join (ι := Int) (fun (p : Int) => [(0, v0), (1, .int .i64 x1), (7, v249), (8, .int .i64 (i490 : Int)), (9, .int .i64 p), (23, .int .i64 (IntKind.wrap .i64 ((1 : Int) * 2 ^ (min ((x0).length : Int).toNat (IntKind.bits .i64))))), (24, .int .i64 (i490 : Int))]) (fun (p : Int) => [imm (TR.sl TR.int) v0 x0, own 3 TR.int v249 l248]) (fun (p : Int) => K508 (.nx p)) ?_ ?_
        · refine GL.block ?_
          refine GL.loop (ι := Nat × (List Int) × Int) (fun (p : Nat × (List Int) × Int) => [(0, v0), (1, .int .i64 x1), (7, v249), (8, .int .i64 (i490 : Int)), (9, .int .i64 p.2.2), (23, .int .i64 (IntKind.wrap .i64 ((1 : Int) * 2 ^ (min ((x0).length : Int).toNat (IntKind.bits .i64))))), (24, .int .i64 (i490 : Int)), (28, .int .i64 ((x0).length : Int)), (29, .int .i64 (p.1 : Int))]) (fun (p : Nat × (List Int) × Int) => [imm (TR.sl TR.int) v0 x0, own 3 TR.int v249 l248]) (fun (p : Nat × (List Int) × Int) => p.1 + p.2.1.length = (x0).length ∧ List.drop p.1 x0 = p.2.1 ∧ rangeL (power_Turns_b2 i490) p.2.1 p.1 p.2.2 = some y507) (fun (p : Nat × (List Int) × Int) => p.2.1.length) (0, x0, (0 : Int)) ⟨by simp, by simp, h509⟩ (fun a w st => St.cut [0, 1] ⟨rfl, rfl, rfl, rfl, rfl, rfl, rfl, rfl, rfl, trivial⟩ (by decide) rfl st) ?_
          rintro ⟨i514, r515, x501⟩ ⟨h520, h521, h519⟩
          try dsimp only at h520 h521 h519
          refine GL.weak (env' := [(0, v0), (1, .int .i64 x1), (7, v249), (8, .int .i64 (i490 : Int)), (9, .int .i64 x501), (23, .int .i64 (IntKind.wrap .i64 ((1 : Int) * 2 ^ (min ((x0).length : Int).toNat (IntKind.bits .i64))))), (24, .int .i64 (i490 : Int)), (28, .int .i64 ((x0).length : Int)), (29, .int .i64 (i514 : Int))]) (L' := [imm (TR.sl TR.int) v0 x0, own 3 TR.int v249 l248]) (fun _ _ st => st) ?_
          refine GL.seq ?_
          refine GL.region ?_
          refine RL.binI (v := .bool (decide ((i514 : Int) < ((x0).length : Int)))) rfl rfl rfl rfl rfl ?_
          refine RL.finG ?_
          refine GL.seq ?_
          refine GL.cond rfl (fun b522 => ?_) (fun b522 => ?_)
          · have h523 : i514 < (x0).length := by have := of_decide_eq_true b522; omega
            obtain ⟨y524, r526, hr, e525, h527⟩ := drop_cons h521 rfl h523
            subst hr
            obtain ⟨z516, h517, h518⟩ := rangeL_some h519
            unfold power_Turns_b2 at h517
            try dsimp only at h517
            refine GL.skip ?_
            refine GL.seq ?_
            refine GL.block ?_
            refine GL.seq ?_
            refine GL.region ?_
            refine RL.mv rfl rfl rfl ?_
            refine RL.asg rfl rfl rfl ?_
            refine RL.finG ?_
            refine GL.region ?_
            refine RL.mv rfl rfl rfl ?_
            refine RL.mv rfl rfl rfl ?_
            refine RL.mv rfl rfl rfl ?_
            obtain ⟨y530, e531, h517⟩ := bind_some h517
            replace e531 := chk_some e531
            refine RL.sh (by simp) rfl rfl rfl rfl e531 ?_
            refine RL.binI (v := .int .i64 (bits .and .i64 (Int.fdiv (i490 : Int) (2 ^ (min (i514 : Int).toNat (IntKind.bits .i64)))) (1 : Int))) rfl rfl rfl rfl rfl ?_
            refine RL.binI (v := .int .i64 (wadd x501 (bits .and .i64 (Int.fdiv (i490 : Int) (2 ^ (min (i514 : Int).toNat (IntKind.bits .i64)))) (1 : Int)))) rfl rfl rfl rfl rfl ?_
            refine RL.asg rfl rfl rfl ?_
            refine RL.finG ?_
            refine GL.nilB ?_
            refine GL.region ?_
            refine RL.binI (v := .int .i64 ((i514 + 1 : Nat) : Int)) rfl rfl rfl rfl (binI_succ i514 (by omega)) ?_
            refine RL.mv rfl rfl rfl ?_
            refine RL.fin ?_
            cases h517
            exact fun a w st => lop_intro (i514 + 1, r526, wadd x501 (bits .and .i64 (Int.fdiv (i490 : Int) (2 ^ (min (i514 : Int).toNat (IntKind.bits .i64)))) (1 : Int))) ⟨by show i514 + 1 + r526.length = (x0).length; simp only [List.length_cons] at h520; omega, h527, h518⟩ (by simp) (St.cut [0, 1] ⟨rfl, rfl, rfl, rfl, rfl, rfl, rfl, rfl, rfl, trivial⟩ (by decide) rfl st)
          · have h523 : ¬ i514 < (x0).length := by have := of_decide_eq_false b522; omega
            obtain rfl : r515 = [] := by rw [← h521]; exact List.drop_of_length_le (by omega)
            replace h519 : some (Fl.nx _) = some y507 := h519
            cases h519
            exact GL.exit (fun a w st => mid_intro x501 h510 (St.cut [0, 1] ⟨rfl, rfl, rfl, rfl, rfl, rfl, rfl, trivial⟩ (by decide) rfl st))
        · rintro x501 h532
          have h533 := h511 _ h532
          try dsimp only at h533
          refine GL.weak (env' := [(0, v0), (1, .int .i64 x1), (7, v249), (8, .int .i64 (i490 : Int)), (9, .int .i64 x501), (23, .int .i64 (IntKind.wrap .i64 ((1 : Int) * 2 ^ (min ((x0).length : Int).toNat (IntKind.bits .i64))))), (24, .int .i64 (i490 : Int))]) (L' := [imm (TR.sl TR.int) v0 x0, own 3 TR.int v249 l248]) (fun _ _ st => st) ?_
          refine GL.seq ?_
          refine GL.region ?_
          refine RL.mv rfl rfl rfl ?_
          refine RL.lenS 0 Try.underlying22 rfl rfl rfl rfl SlOf.imm ?_
          refine RL.mv rfl rfl rfl ?_
          refine RL.finG ?_
          refine GL.open_ 0 rfl (fun S h => len_imm S h) (fun n650 => ?_)
          obtain ⟨y651, K652, h653, h654, h655, h656, h657⟩ := bindF_K h533
          refine GL.join (ι := (List Int) × Value) (fun (p : (List Int) × Value) => [(0, v0), (1, .int .i64 x1), (7, p.2), (23, .int .i64 (IntKind.wrap .i64 ((1 : Int) * 2 ^ (min ((x0).length : Int).toNat (IntKind.bits .i64))))), (24, .int .i64 (i490 : Int))]) (fun (p : (List Int) × Value) => [imm (TR.sl TR.int) v0 x0, own 3 TR.int p.2 p.1]) (fun (p : (List Int) × Value) => K652 (.nx p.1)) ?_ ?_
          · refine GL.block ?_
            refine GL.loop (ι := Nat × (List Int) × (List Int) × Value) (fun (p : Nat × (List Int) × (List Int) × Value) => [(0, v0), (1, .int .i64 x1), (7, p.2.2.2), (8, .int .i64 (i490 : Int)), (9, .int .i64 x501), (23, .int .i64 (IntKind.wrap .i64 ((1 : Int) * 2 ^ (min ((x0).length : Int).toNat (IntKind.bits .i64))))), (24, .int .i64 (i490 : Int)), (40, .int .i64 ((x0).length : Int)), (41, .int .i64 (p.1 : Int))]) (fun (p : Nat × (List Int) × (List Int) × Value) => [imm (TR.sl TR.int) v0 x0, own 3 TR.int p.2.2.2 p.2.2.1]) (fun (p : Nat × (List Int) × (List Int) × Value) => p.1 + p.2.1.length = (x0).length ∧ List.drop p.1 x0 = p.2.1 ∧ rangeL (power_Turns_b3 i490 x0 x1 x501) p.2.1 p.1 p.2.2.1 = some y651) (fun (p : Nat × (List Int) × (List Int) × Value) => p.2.1.length) (0, x0, l248, v249) ⟨by simp, by simp, h653⟩ (fun a w st => St.cut [0, 1] ⟨rfl, rfl, rfl, rfl, rfl, rfl, rfl, rfl, rfl, trivial⟩ (by decide) rfl st) ?_
            rintro ⟨i658, r659, l591, v592⟩ ⟨h664, h665, h663⟩
            try dsimp only at h664 h665 h663
            refine GL.weak (env' := [(0, v0), (1, .int .i64 x1), (7, v592), (8, .int .i64 (i490 : Int)), (9, .int .i64 x501), (23, .int .i64 (IntKind.wrap .i64 ((1 : Int) * 2 ^ (min ((x0).length : Int).toNat (IntKind.bits .i64))))), (24, .int .i64 (i490 : Int)), (40, .int .i64 ((x0).length : Int)), (41, .int .i64 (i658 : Int))]) (L' := [imm (TR.sl TR.int) v0 x0, own 3 TR.int v592 l591]) (fun _ _ st => st) ?_
            refine GL.seq ?_
            refine GL.region ?_
            refine RL.binI (v := .bool (decide ((i658 : Int) < ((x0).length : Int)))) rfl rfl rfl rfl rfl ?_
            refine RL.finG ?_
            refine GL.seq ?_
            refine GL.cond rfl (fun b666 => ?_) (fun b666 => ?_)
            · have h667 : i658 < (x0).length := by have := of_decide_eq_true b666; omega
              obtain ⟨y668, r670, hr, e669, h671⟩ := drop_cons h665 rfl h667
              subst hr
              obtain ⟨z660, h661, h662⟩ := rangeL_some h663
              unfold power_Turns_b3 at h661
              try dsimp only at h661
              refine GL.skip ?_
              refine GL.seq ?_
              refine GL.block ?_
              refine GL.seq ?_
              refine GL.region ?_
              refine RL.mv rfl rfl rfl ?_
              refine RL.asg rfl rfl rfl ?_
              refine RL.finG ?_
              refine GL.seq ?_
              obtain ⟨y693, K694, h695, h696, h697, h698, h699⟩ := bindF_K h661
              refine GL.join (ι := Bool) (fun (p : Bool) => [(0, v0), (1, .int .i64 x1), (7, v592), (8, .int .i64 (i490 : Int)), (9, .int .i64 x501), (11, .int .i64 (i658 : Int)), (23, .int .i64 (IntKind.wrap .i64 ((1 : Int) * 2 ^ (min ((x0).length : Int).toNat (IntKind.bits .i64))))), (24, .int .i64 (i490 : Int)), (40, .int .i64 ((x0).length : Int)), (41, .int .i64 (i658 : Int)), (64, .bool p)]) (fun (p : Bool) => [imm (TR.sl TR.int) v0 x0, own 3 TR.int v592 l591]) (fun (p : Bool) => K694 (.nx p)) ?_ ?_
              · skip
                refine GL.region ?_
                refine RL.mv rfl rfl rfl ?_
                refine RL.mv rfl rfl rfl ?_
                obtain ⟨y700, e701, h695⟩ := bind_some h695
                replace e701 := chk_some e701
                refine RL.sh (by simp) rfl rfl rfl rfl e701 ?_
                refine RL.binI (v := .int .i64 (bits .and .i64 (Int.fdiv (i490 : Int) (2 ^ (min (i658 : Int).toNat (IntKind.bits .i64)))) (1 : Int))) rfl rfl rfl rfl rfl ?_
                refine RL.binI (v := .bool ((bits .and .i64 (Int.fdiv (i490 : Int) (2 ^ (min (i658 : Int).toNat (IntKind.bits .i64)))) (1 : Int)) == (1 : Int))) rfl rfl rfl rfl rfl ?_
                refine RL.mv rfl rfl rfl ?_
                refine RL.split (t := 49) rfl (fun b702 => ?_) (fun b702 => ?_)
                · replace h695 := ite_t b702 h695
                  refine RL.mv rfl rfl rfl ?_
                  refine RL.mv rfl rfl rfl ?_
                  refine RL.mv rfl rfl rfl ?_
                  obtain ⟨y703, e704, h695⟩ := bind_some h695
                  refine RL.callC (v := .bool y703) (vs := [v0, .int .i64 x1, .int .i64 (i490 : Int)]) Try_fit42 rfl rfl rfl rfl (fun U w hU hW hL => power_wins_c U w hU _ _ (hL 0 _ _ rfl Seen.imm) x1 (i490 : Int) _ e704) ?_
                  refine RL.pickT rfl rfl rfl rfl ?_
                  refine RL.mv rfl rfl rfl ?_
                  refine RL.split (t := 55) rfl (fun b705 => ?_) (fun b705 => ?_)
                  · replace h695 := ite_t b705 h695
                    refine RL.mv rfl rfl rfl ?_
                    refine RL.mv rfl rfl rfl ?_
                    refine RL.mv rfl rfl rfl ?_
                    refine RL.mv rfl rfl rfl ?_
                    obtain ⟨y706, e707, h695⟩ := bind_some h695
                    replace e707 := chk_some e707
                    refine RL.sh (by simp) rfl rfl rfl rfl e707 ?_
                    refine RL.binI (v := .int .i64 (bits .andNot .i64 (i490 : Int) (IntKind.wrap .i64 ((1 : Int) * 2 ^ (min (i658 : Int).toNat (IntKind.bits .i64)))))) rfl rfl rfl rfl rfl ?_
                    obtain ⟨y708, e709, h695⟩ := bind_some h695
                    refine RL.callC (v := .bool y708) (vs := [v0, .int .i64 x1, .int .i64 (bits .andNot .i64 (i490 : Int) (IntKind.wrap .i64 ((1 : Int) * 2 ^ (min (i658 : Int).toNat (IntKind.bits .i64)))))]) Try_fit42 rfl rfl rfl rfl (fun U w hU hW hL => power_wins_c U w hU _ _ (hL 0 _ _ rfl Seen.imm) x1 (bits .andNot .i64 (i490 : Int) (IntKind.wrap .i64 ((1 : Int) * 2 ^ (min (i658 : Int).toNat (IntKind.bits .i64))))) _ e709) ?_
                    refine RL.notB rfl rfl rfl ?_
                    refine RL.pickT rfl rfl rfl rfl ?_
                    refine RL.fin ?_
                    cases h695
                    exact fun a w st => mid_intro (!y708) h696 (St.cut [0, 1] ⟨rfl, rfl, rfl, rfl, rfl, rfl, rfl, rfl, rfl, rfl, rfl, trivial⟩ (by decide) rfl st)
                  · replace h695 := ite_f b705 h695
                    refine RL.skip rfl rfl ?_
                    refine RL.skip rfl rfl ?_
                    refine RL.skip rfl rfl ?_
                    refine RL.skip rfl rfl ?_
                    refine RL.skip rfl rfl ?_
                    refine RL.skip rfl rfl ?_
                    refine RL.skip rfl rfl ?_
                    refine RL.skip rfl rfl ?_
                    refine RL.pickF rfl rfl rfl rfl ?_
                    refine RL.fin ?_
                    cases h695
                    exact fun a w st => mid_intro false h696 (St.cut [0, 1] ⟨rfl, rfl, rfl, rfl, rfl, rfl, rfl, rfl, rfl, rfl, rfl, trivial⟩ (by decide) rfl st)
                · replace h695 := ite_f b702 h695
                  refine RL.skip rfl rfl ?_
                  refine RL.skip rfl rfl ?_
                  refine RL.skip rfl rfl ?_
                  refine RL.skip rfl rfl ?_
                  refine RL.pickF rfl rfl rfl rfl ?_
                  refine RL.mv rfl rfl rfl ?_
                  refine RL.skip rfl rfl ?_
                  refine RL.skip rfl rfl ?_
                  refine RL.skip rfl rfl ?_
                  refine RL.skip rfl rfl ?_
                  refine RL.skip rfl rfl ?_
                  refine RL.skip rfl rfl ?_
                  refine RL.skip rfl rfl ?_
                  refine RL.skip rfl rfl ?_
                  refine RL.pickF rfl rfl rfl rfl ?_
                  refine RL.fin ?_
                  cases h695
                  exact fun a w st => mid_intro false h696 (St.cut [0, 1] ⟨rfl, rfl, rfl, rfl, rfl, rfl, rfl, rfl, rfl, rfl, rfl, trivial⟩ (by decide) rfl st)
              · rintro x692 h710
                have h711 := h697 _ h710
                try dsimp only at h711
                refine GL.weak (env' := [(0, v0), (1, .int .i64 x1), (7, v592), (8, .int .i64 (i490 : Int)), (9, .int .i64 x501), (11, .int .i64 (i658 : Int)), (23, .int .i64 (IntKind.wrap .i64 ((1 : Int) * 2 ^ (min ((x0).length : Int).toNat (IntKind.bits .i64))))), (24, .int .i64 (i490 : Int)), (40, .int .i64 ((x0).length : Int)), (41, .int .i64 (i658 : Int)), (64, .bool x692)]) (L' := [imm (TR.sl TR.int) v0 x0, own 3 TR.int v592 l591]) (fun _ _ st => st) ?_
                refine GL.cond rfl (fun b712 => ?_) (fun b712 => ?_)
                · replace h711 := ite_t b712 h711
                  refine GL.regionH 15 rfl rfl (by kernel_rfl) ?_
                  simp only [List.take_succ_cons, List.take_zero, List.drop_succ_cons, List.drop_zero]
                  refine RL.mv rfl rfl rfl ?_
                  refine RL.mv rfl rfl rfl ?_
                  obtain ⟨y721, e722, h711⟩ := bind_some h711
                  refine RL.idxS (sz := 1) 1 Try.underlying22 Try_ln3 rfl rfl rfl rfl rfl SlOf.own (idx_some e722).1 (idx_some e722).2.1 ?_
                  refine RL.ldSx (i := i658) (e' := y721) 1 Ex.ik Try_ln3 rfl rfl rfl rfl SlOf.own (idx_some e722).2.2 Part.self ?_
                  refine RL.mv rfl rfl rfl ?_
                  refine RL.binI (v := .int .i64 (wsub x501 (1 : Int))) rfl rfl rfl rfl rfl ?_
                  obtain ⟨y723, e724, h711⟩ := bind_some h711
                  refine RL.callC (v := .int .i64 y723) (vs := [.int .i64 (wsub x501 (1 : Int))]) Try_fit43 rfl rfl rfl rfl (fun U w hU hW hL => power_factorial_c U w hU (wsub x501 (1 : Int)) _ e724) ?_
                  refine RL.mv rfl rfl rfl ?_
                  refine RL.lenS 0 Try.underlying22 rfl rfl rfl rfl SlOf.imm ?_
                  refine RL.mv rfl rfl rfl ?_
                  refine RL.binI (v := .int .i64 (wsub ((x0).length : Int) x501)) rfl rfl rfl rfl rfl ?_
                  obtain ⟨y725, e726, h711⟩ := bind_some h711
                  refine RL.callC (v := .int .i64 y725) (vs := [.int .i64 (wsub ((x0).length : Int) x501)]) Try_fit43 rfl rfl rfl rfl (fun U w hU hW hL => power_factorial_c U w hU (wsub ((x0).length : Int) x501) _ e726) ?_
                  refine RL.binI (v := .int .i64 (wmul y723 y725)) rfl rfl rfl rfl rfl ?_
                  refine RL.binI (v := .int .i64 (wadd y721 (wmul y723 y725))) rfl rfl rfl rfl rfl ?_
                  obtain ⟨y727, e728, h711⟩ := bind_some h711
                  refine RL.idxS (sz := 1) 1 Try.underlying22 Try_ln3 rfl rfl rfl rfl rfl SlOf.own (idx_some e728).1 (idx_some e728).2.1 ?_
                  refine RL.finH ?_
                  refine RL.stS (i := i658) (e' := wadd y721 (wmul y723 y725)) (e1 := wadd y721 (wmul y723 y725)) (r := TR.int) 1 Try_ln3 rfl rfl rfl rfl VR.int rfl (idx_some e728).2.2 Upd.self ?_
                  refine RL.finG ?_
                  refine GL.nilB ?_
                  refine GL.region ?_
                  refine RL.binI (v := .int .i64 ((i658 + 1 : Nat) : Int)) rfl rfl rfl rfl (binI_succ i658 (by omega)) ?_
                  refine RL.mv rfl rfl rfl ?_
                  refine RL.fin ?_
                  cases h711
                  exact fun a w st => lop_intro (i658 + 1, r670, (List.set l591 i658 (wadd y721 (wmul y723 y725))), v592) ⟨by show i658 + 1 + r670.length = (x0).length; simp only [List.length_cons] at h664; omega, h671, h662⟩ (by simp) (St.cut [0, 1] ⟨rfl, rfl, rfl, rfl, rfl, rfl, rfl, rfl, rfl, trivial⟩ (by decide) rfl st)
                · replace h711 := ite_f b712 h711
                  refine GL.skip ?_
                  refine GL.nilB ?_
                  refine GL.region ?_
                  refine RL.binI (v := .int .i64 ((i658 + 1 : Nat) : Int)) rfl rfl rfl rfl (binI_succ i658 (by omega)) ?_
                  refine RL.mv rfl rfl rfl ?_
                  refine RL.fin ?_
                  cases h711
                  exact fun a w st => lop_intro (i658 + 1, r670, l591, v592) ⟨by show i658 + 1 + r670.length = (x0).length; simp only [List.length_cons] at h664; omega, h671, h662⟩ (by simp) (St.cut [0, 1] ⟨rfl, rfl, rfl, rfl, rfl, rfl, rfl, rfl, rfl, trivial⟩ (by decide) rfl st)
            · have h667 : ¬ i658 < (x0).length := by have := of_decide_eq_false b666; omega
              obtain rfl : r659 = [] := by rw [← h665]; exact List.drop_of_length_le (by omega)
              replace h663 : some (Fl.nx _) = some y651 := h663
              cases h663
              exact GL.exit (fun a w st => mid_intro (l591, v592) h654 (St.cut [0, 1] ⟨rfl, rfl, rfl, rfl, rfl, trivial⟩ (by decide) rfl st))
          · rintro ⟨l591, v592⟩ h729
            have h730 := h655 _ h729
            try dsimp only at h730
            refine GL.weak (env' := [(0, v0), (1, .int .i64 x1), (7, v592), (23, .int .i64 (IntKind.wrap .i64 ((1 : Int) * 2 ^ (min ((x0).length : Int).toNat (IntKind.bits .i64))))), (24, .int .i64 (i490 : Int))]) (L' := [imm (TR.sl TR.int) v0 x0, own 3 TR.int v592 l591]) (fun _ _ st => st) ?_
            refine GL.nilB ?_
            refine GL.region ?_
            refine RL.binI (v := .int .i64 ((i490 + 1 : Nat) : Int)) rfl rfl rfl rfl (binI_succ i490 (by omega)) ?_
            refine RL.mv rfl rfl rfl ?_
            refine RL.fin ?_
            cases h730
            exact fun a w st => lop_intro (i490 + 1, r500, l591, v592) ⟨by show i490 + 1 + r500 = (IntKind.wrap .i64 ((1 : Int) * 2 ^ (min ((x0).length : Int).toNat (IntKind.bits .i64)))).toNat; omega, h494⟩ (by simp) (St.cut [0, 1] ⟨rfl, rfl, rfl, rfl, rfl, trivial⟩ (by decide) rfl st)
      · have h499 : ¬ i490 < (IntKind.wrap .i64 ((1 : Int) * 2 ^ (min ((x0).length : Int).toNat (IntKind.bits .i64)))).toNat := by have := of_decide_eq_false b498; omega
        obtain rfl : r491 = 0 := by omega
        replace h495 : some (Fl.nx _) = some y483 := h495
        cases h495
        exact GL.exit (fun a w st => mid_intro (l248, v249) h486 (St.cut [1] ⟨rfl, trivial⟩ (by decide) rfl st))
    · rintro ⟨l248, v249⟩ h731
      have h732 := h487 _ h731
      try dsimp only at h732
      refine GL.weak (env' := [(7, v249)]) (L' := [own 3 TR.int v249 l248]) (fun _ _ st => st) ?_
      refine GL.seq ?_
      refine GL.region ?_
      refine RL.mv rfl rfl rfl ?_
      refine RL.asg rfl rfl rfl ?_
      refine RL.asg rfl rfl rfl ?_
      refine RL.finG ?_
      have h732 := Option.some.inj h732
      subst h732
      exact GL.ret (Gx.ret (v := .tuple #[v249, .int .i64 (0 : Int)]) (res2 rfl rfl rfl) (fun a w st => (st.pick [0] (by decide) rfl).toPost v249))

set_option maxHeartbeats 4000000 in
theorem slices_IndexFunc_api_Errno_api_Errno_c (S : Hp) (w : World) (hS : S.sub w) (v0 : Value) (x0 : (List Int)) (k0 : ((TR.sl TR.int)).vrep S v0 x0) (f1 : FuncId) (c1 : Array Value) (t1 : Fit Try.prog f1) (g1 : Int → Option Bool) (k1 : ∀ (U : Hp) (w' : World), Hp.le S U → U.sub w' → ∀ (a0 : Int) (rr : Bool), g1 a0 = some rr → Calls Try.prog f1 (#[.int .i64 a0] ++ c1) w' (PostV w' (.bool rr))) (res : Int) (hm : slices_IndexFunc_api_Errno_api_Errno_m x0 g1 = some res) : Calls Try.prog 45 #[v0, .func (.func f1) #[] c1] w (PostV w (.int .i64 res)) := by
  refine calls_enter 19 Try.func45 Try.ntmps45 rfl S false [(0, v0), (1, .func (.func f1) #[] c1)] [imm (TR.sl TR.int) v0 x0] rfl ⟨rfl, ⟨rfl, trivial⟩⟩ hS ⟨k0, trivial⟩ ?_
  unfold slices_IndexFunc_api_Errno_api_Errno_m at hm
  refine GL.seq ?_
  refine GL.region ?_
  refine RL.asg rfl rfl rfl ?_
  refine RL.finG ?_
  refine GL.seq ?_
  refine GL.seq ?_
  refine GL.region ?_
  refine RL.mv rfl rfl rfl ?_
  refine RL.lenS 0 Try.underlying53 rfl rfl rfl rfl SlOf.imm ?_
  refine RL.mv rfl rfl rfl ?_
  refine RL.finG ?_
  refine GL.open_ 0 rfl (fun S h => len_imm S h) (fun n12 => ?_)
  obtain ⟨y13, K14, h15, h16, h17, h18, h19⟩ := bindR_K hm
  refine GL.join (ι := Unit) (fun (p : Unit) => []) (fun (p : Unit) => []) (fun (p : Unit) => K14 (.nx ())) ?_ ?_
  · refine GL.block ?_
    refine GL.loop (ι := Nat × (List Int)) (fun (p : Nat × (List Int)) => [(0, v0), (1, .func (.func f1) #[] c1), (7, .int .i64 ((x0).length : Int)), (8, .int .i64 (p.1 : Int))]) (fun (p : Nat × (List Int)) => [imm (TR.sl TR.int) v0 x0]) (fun (p : Nat × (List Int)) => p.1 + p.2.length = (x0).length ∧ List.drop p.1 x0 = p.2 ∧ rangeL (slices_IndexFunc_api_Errno_api_Errno_b1 g1) p.2 p.1 () = some y13) (fun (p : Nat × (List Int)) => p.2.length) (0, x0) ⟨by simp, by simp, h15⟩ (fun a w st => St.cut [0] ⟨rfl, rfl, rfl, rfl, trivial⟩ (by decide) rfl st) ?_
    rintro ⟨i20, r21⟩ ⟨h26, h27, h25⟩
    try dsimp only at h26 h27 h25
    refine GL.weak (env' := [(0, v0), (1, .func (.func f1) #[] c1), (7, .int .i64 ((x0).length : Int)), (8, .int .i64 (i20 : Int))]) (L' := [imm (TR.sl TR.int) v0 x0]) (fun _ _ st => st) ?_
    refine GL.seq ?_
    refine GL.region ?_
    refine RL.binI (v := .bool (decide ((i20 : Int) < ((x0).length : Int)))) rfl rfl rfl rfl rfl ?_
    refine RL.finG ?_
    refine GL.seq ?_
    refine GL.cond rfl (fun b28 => ?_) (fun b28 => ?_)
    · have h29 : i20 < (x0).length := by have := of_decide_eq_true b28; omega
      obtain ⟨y30, r32, hr, e31, h33⟩ := drop_cons h27 rfl h29
      subst hr
      obtain ⟨z22, h23, h24⟩ := rangeL_some h25
      unfold slices_IndexFunc_api_Errno_api_Errno_b1 at h23
      try dsimp only at h23
      refine GL.skip ?_
      refine GL.seq ?_
      refine GL.block ?_
      refine GL.seq ?_
      refine GL.region ?_
      refine RL.mv rfl rfl rfl ?_
      refine RL.asg rfl rfl rfl ?_
      refine RL.finG ?_
      refine GL.seq ?_
      refine GL.region ?_
      refine RL.mv rfl rfl rfl ?_
      refine RL.mv rfl rfl rfl ?_
      refine RL.mv rfl rfl rfl ?_
      refine RL.idxS (sz := 1) 0 Try.underlying53 Try_ln26 rfl rfl rfl rfl rfl SlOf.imm (by omega) (by omega) ?_
      refine RL.ldSx (i := i20) (e' := y30) 0 Ex.ik Try_ln26 rfl rfl rfl rfl SlOf.imm e31 Part.self ?_
      obtain ⟨y36, e37, h23⟩ := bind_some h23
      refine RL.callV (v := .bool y36) (vs := [.int .i64 y30]) t1 rfl (Or.inl rfl) rfl rfl rfl rfl (fun U w hU hW hL => k1 U w hW hU y30 _ e37) ?_
      refine RL.finG ?_
      refine GL.cond rfl (fun b38 => ?_) (fun b38 => ?_)
      · replace h23 := ite_t b38 h23
        refine GL.seq ?_
        refine GL.region ?_
        refine RL.mv rfl rfl rfl ?_
        refine RL.asg rfl rfl rfl ?_
        refine RL.finG ?_
        cases h23
        replace h24 : some (Fl.rt _) = some y13 := h24
        cases h24
        have hh := h18 _ h16
        subst hh
        exact GL.ret (Gx.ret (v := .int .i64 (i20 : Int)) (res1 rfl rfl) (fun a w st => st.toPostV))
      · replace h23 := ite_f b38 h23
        refine GL.skip ?_
        refine GL.nilB ?_
        refine GL.region ?_
        refine RL.binI (v := .int .i64 ((i20 + 1 : Nat) : Int)) rfl rfl rfl rfl (binI_succ i20 (by omega)) ?_
        refine RL.mv rfl rfl rfl ?_
        refine RL.fin ?_
        cases h23
        exact fun a w st => lop_intro (i20 + 1, r32) ⟨by show i20 + 1 + r32.length = (x0).length; simp only [List.length_cons] at h26; omega, h33, h24⟩ (by simp) (St.cut [0] ⟨rfl, rfl, rfl, rfl, trivial⟩ (by decide) rfl st)
    · have h29 : ¬ i20 < (x0).length := by have := of_decide_eq_false b28; omega
      obtain rfl : r21 = [] := by rw [← h27]; exact List.drop_of_length_le (by omega)
      replace h25 : some (Fl.nx _) = some y13 := h25
      cases h25
      exact GL.exit (fun a w st => mid_intro () h16 (St.cut [] trivial (by decide) rfl st))
  · rintro ⟨⟩ h39
    have h40 := h17 _ h39
    try dsimp only at h40
    refine GL.weak (env' := []) (L' := []) (fun _ _ st => st) ?_
    refine GL.seq ?_
    refine GL.region ?_
    refine RL.asg rfl rfl rfl ?_
    refine RL.finG ?_
    have h40 := Option.some.inj h40
    subst h40
    exact GL.ret (Gx.ret (v := .int .i64 (-1 : Int)) (res1 rfl rfl) (fun a w st => st.toPostV))

set_option maxHeartbeats 4000000 in
theorem slices_ContainsFunc_api_Errno_api_Errno_c (S : Hp) (w : World) (hS : S.sub w) (v0 : Value) (x0 : (List Int)) (k0 : ((TR.sl TR.int)).vrep S v0 x0) (f1 : FuncId) (c1 : Array Value) (t1 : Fit Try.prog f1) (g1 : Int → Option Bool) (k1 : ∀ (U : Hp) (w' : World), Hp.le S U → U.sub w' → ∀ (a0 : Int) (rr : Bool), g1 a0 = some rr → Calls Try.prog f1 (#[.int .i64 a0] ++ c1) w' (PostV w' (.bool rr))) (res : Bool) (hm : slices_ContainsFunc_api_Errno_api_Errno_m x0 g1 = some res) : Calls Try.prog 37 #[v0, .func (.func f1) #[] c1] w (PostV w (.bool res)) := by
  refine calls_enter 9 Try.func37 Try.ntmps37 rfl S false [(0, v0), (1, .func (.func f1) #[] c1)] [imm (TR.sl TR.int) v0 x0] rfl ⟨rfl, ⟨rfl, trivial⟩⟩ hS ⟨k0, trivial⟩ ?_
  unfold slices_ContainsFunc_api_Errno_api_Errno_m at hm
  refine GL.seq ?_
  refine GL.region ?_
  refine RL.asg rfl rfl rfl ?_
  refine RL.finG ?_
  refine GL.seq ?_
  refine GL.region ?_
  refine RL.mv rfl rfl rfl ?_
  refine RL.mv rfl rfl rfl ?_
  obtain ⟨y5, e6, hm⟩ := bind_some hm
  refine RL.callV (v := .int .i64 y5) (vs := [v0, .func (.func f1) #[] c1]) Try_fit45 rfl (Or.inl rfl) rfl rfl rfl rfl (fun U w hU hW hL => slices_IndexFunc_api_Errno_api_Errno_c U w hU _ _ (hL 0 _ _ rfl Seen.imm) f1 c1 t1 g1 (fun U' w' hle => k1 U' w' (Hp.le_trans hW hle)) _ e6) ?_
  refine RL.binI (v := .bool (decide (y5 ≥ (0 : Int)))) rfl rfl rfl rfl rfl ?_
  refine RL.asg rfl rfl rfl ?_
  refine RL.finG ?_
  have hm := Option.some.inj hm
  subst hm
  exact GL.ret (Gx.ret (v := .bool (decide (y5 ≥ (0 : Int)))) (res1 rfl rfl) (fun a w st => st.toPostV))

set_option maxHeartbeats 4000000 in
theorem pk_good_1_c (S : Hp) (w : World) (hS : S.sub w) (x0 : Int) (res : Bool) (hm : pk_good_1_m x0 = some res) : Calls Try.prog 38 #[.int .i64 x0] w (PostC w (.bool res)) := by
  refine calls_enter 5 Try.func38 Try.ntmps38 rfl S true [(0, .int .i64 x0)] [] rfl ⟨rfl, trivial⟩ hS trivial ?_
  unfold pk_good_1_m at hm
  refine GL.seq ?_
  refine GL.region ?_
  refine RL.asg rfl rfl rfl ?_
  refine RL.finG ?_
  refine GL.seq ?_
  refine GL.region ?_
  refine RL.mv rfl rfl rfl ?_
  refine RL.binI (v := .bool (x0 != (0 : Int))) rfl rfl rfl rfl rfl ?_
  refine RL.asg rfl rfl rfl ?_
  refine RL.finG ?_
  have hm := Option.some.inj hm
  subst hm
  exact GL.ret (Gx.ret (v := .bool (x0 != (0 : Int))) (res1 rfl rfl) (fun a w st => st.toPostC rfl))

set_option maxHeartbeats 4000000 in
theorem pk_good_c (S : Hp) (w : World) (hS : S.sub w) (v0 : Value) (x0 : (List Int)) (k0 : ((TR.sl TR.int)).vrep S v0 x0) (res : Bool) (hm : pk_good_m x0 = some res) : Calls Try.prog 18 #[v0] w (PostV w (.bool res)) := by
  refine calls_enter 6 Try.func18 Try.ntmps18 rfl S false [(0, v0)] [imm (TR.sl TR.int) v0 x0] rfl ⟨rfl, trivial⟩ hS ⟨k0, trivial⟩ ?_
  unfold pk_good_m at hm
  refine GL.seq ?_
  refine GL.region ?_
  refine RL.asg rfl rfl rfl ?_
  refine RL.finG ?_
  refine GL.seq ?_
  refine GL.region ?_
  refine RL.mv rfl rfl rfl ?_
  obtain ⟨y4, e5, hm⟩ := bind_some hm
  refine RL.callV (v := .bool y4) (vs := [v0, .func (.func 38) #[] #[]]) Try_fit37 rfl (Or.inl rfl) rfl rfl rfl rfl (fun U w hU hW hL => slices_ContainsFunc_api_Errno_api_Errno_c U w hU _ _ (hL 0 _ _ rfl Seen.imm) 38 #[] Try_fit38 (fun a0 => pk_good_1_m a0) (fun U' w' hle hU' a0 rr hr => (pk_good_1_c U' w' hU' a0 rr hr).mono (fun _ _ z => z.toV)) _ e5) ?_
  refine RL.notB rfl rfl rfl ?_
  refine RL.asg rfl rfl rfl ?_
  refine RL.finG ?_
  have hm := Option.some.inj hm
  subst hm
  exact GL.ret (Gx.ret (v := .bool (!y4)) (res1 rfl rfl) (fun a w st => st.toPostV))

set_option maxHeartbeats 4000000 in
theorem slices_Equal_int_int_c (S : Hp) (w : World) (hS : S.sub w) (v0 : Value) (x0 : (List Int)) (k0 : ((TR.sl TR.int)).vrep S v0 x0) (v1 : Value) (x1 : (List Int)) (k1 : ((TR.sl TR.int)).vrep S v1 x1) (res : Bool) (hm : slices_Equal_int_int_m x0 x1 = some res) : Calls Try.prog 20 #[v0, v1] w (PostV w (.bool res)) := by
  refine calls_enter 26 Try.func20 Try.ntmps20 rfl S false [(0, v0), (1, v1)] [imm (TR.sl TR.int) v0 x0, imm (TR.sl TR.int) v1 x1] rfl ⟨rfl, ⟨rfl, trivial⟩⟩ hS ⟨k0, ⟨k1, trivial⟩⟩ ?_
  unfold slices_Equal_int_int_m at hm
  refine GL.seq ?_
  refine GL.region ?_
  refine RL.asg rfl rfl rfl ?_
  refine RL.finG ?_
  refine GL.seq ?_
  refine GL.seq ?_
  refine GL.region ?_
  refine RL.mv rfl rfl rfl ?_
  refine RL.lenS 0 Try.underlying22 rfl rfl rfl rfl SlOf.imm ?_
  refine RL.mv rfl rfl rfl ?_
  refine RL.lenS 1 Try.underlying22 rfl rfl rfl rfl SlOf.imm ?_
  refine RL.binI (v := .bool (((x0).length : Int) != ((x1).length : Int))) rfl rfl rfl rfl rfl ?_
  refine RL.finG ?_
  refine GL.cond rfl (fun b3 => ?_) (fun b3 => ?_)
  · replace hm := ite_t b3 hm
    refine GL.seq ?_
    refine GL.region ?_
    refine RL.asg rfl rfl rfl ?_
    refine RL.finG ?_
    have hm := Option.some.inj hm
    subst hm
    exact GL.ret (Gx.ret (v := .bool false) (res1 rfl rfl) (fun a w st => st.toPostV))
  · replace hm := ite_f b3 hm
    refine GL.skip ?_
    refine GL.seq ?_
    refine GL.seq ?_
    refine GL.region ?_
    refine RL.mv rfl rfl rfl ?_
    refine RL.lenS 0 Try.underlying22 rfl rfl rfl rfl SlOf.imm ?_
    refine RL.mv rfl rfl rfl ?_
    refine RL.finG ?_
    refine GL.open_ 0 rfl (fun S h => len_imm S h) (fun n13 => ?_)
    obtain ⟨y14, K15, h16, h17, h18, h19, h20⟩ := bindR_K hm
    refine GL.join (ι := Unit) (fun (p : Unit) => []) (fun (p : Unit) => []) (fun (p : Unit) => K15 (.nx ())) ?_ ?_
    · refine GL.block ?_
      refine GL.loop (ι := Nat × (List Int)) (fun (p : Nat × (List Int)) => [(0, v0), (1, v1), (12, .int .i64 ((x0).length : Int)), (13, .int .i64 (p.1 : Int))]) (fun (p : Nat × (List Int)) => [imm (TR.sl TR.int) v0 x0, imm (TR.sl TR.int) v1 x1]) (fun (p : Nat × (List Int)) => p.1 + p.2.length = (x0).length ∧ List.drop p.1 x0 = p.2 ∧ rangeL (slices_Equal_int_int_b1 x1) p.2 p.1 () = some y14) (fun (p : Nat × (List Int)) => p.2.length) (0, x0) ⟨by simp, by simp, h16⟩ (fun a w st => St.cut [0, 1] ⟨rfl, rfl, rfl, rfl, trivial⟩ (by decide) rfl st) ?_
      rintro ⟨i21, r22⟩ ⟨h27, h28, h26⟩
      try dsimp only at h27 h28 h26
      refine GL.weak (env' := [(0, v0), (1, v1), (12, .int .i64 ((x0).length : Int)), (13, .int .i64 (i21 : Int))]) (L' := [imm (TR.sl TR.int) v0 x0, imm (TR.sl TR.int) v1 x1]) (fun _ _ st => st) ?_
      refine GL.seq ?_
      refine GL.region ?_
      refine RL.binI (v := .bool (decide ((i21 : Int) < ((x0).length : Int)))) rfl rfl rfl rfl rfl ?_
      refine RL.finG ?_
      refine GL.seq ?_
      refine GL.cond rfl (fun b29 => ?_) (fun b29 => ?_)
      · have h30 : i21 < (x0).length := by have := of_decide_eq_true b29; omega
        obtain ⟨y31, r33, hr, e32, h34⟩ := drop_cons h28 rfl h30
        subst hr
        obtain ⟨z23, h24, h25⟩ := rangeL_some h26
        unfold slices_Equal_int_int_b1 at h24
        try dsimp only at h24
        refine GL.skip ?_
        refine GL.seq ?_
        refine GL.block ?_
        refine GL.seq ?_
        refine GL.region ?_
        refine RL.mv rfl rfl rfl ?_
        refine RL.asg rfl rfl rfl ?_
        refine RL.finG ?_
        refine GL.seq ?_
        refine GL.regionQ rfl rfl (by kernel_rfl) ?_
        refine RL.mv rfl rfl rfl ?_
        refine RL.mv rfl rfl rfl ?_
        refine RL.idxS (sz := 1) 0 Try.underlying22 Try_ln3 rfl rfl rfl rfl rfl SlOf.imm (by omega) (by omega) ?_
        refine RL.ldSx (i := i21) (e' := y31) 0 Ex.ik Try_ln3 rfl rfl rfl rfl SlOf.imm e32 Part.self ?_
        refine RL.mv rfl rfl rfl ?_
        refine RL.mv rfl rfl rfl ?_
        obtain ⟨y37, e38, h24⟩ := bind_some h24
        refine RL.idxS (sz := 1) 1 Try.underlying22 Try_ln3 rfl rfl rfl rfl rfl SlOf.imm (idx_some e38).1 (idx_some e38).2.1 ?_
        refine RL.ldSx (i := i21) (e' := y37) 1 Ex.ik Try_ln3 rfl rfl rfl rfl SlOf.imm (idx_some e38).2.2 Part.self ?_
        refine RL.binI (v := .bool (y31 != y37)) rfl rfl rfl rfl rfl ?_
        refine RL.finQG ?_
        refine GL.cond rfl (fun b39 => ?_) (fun b39 => ?_)
        · replace h24 := ite_t b39 h24
          refine GL.seq ?_
          refine GL.region ?_
          refine RL.asg rfl rfl rfl ?_
          refine RL.finG ?_
          cases h24
          replace h25 : some (Fl.rt _) = some y14 := h25
          cases h25
          have hh := h19 _ h17
          subst hh
          exact GL.ret (Gx.ret (v := .bool false) (res1 rfl rfl) (fun a w st => st.toPostV))
        · replace h24 := ite_f b39 h24
          refine GL.skip ?_
          refine GL.nilB ?_
          refine GL.region ?_
          refine RL.binI (v := .int .i64 ((i21 + 1 : Nat) : Int)) rfl rfl rfl rfl (binI_succ i21 (by omega)) ?_
          refine RL.mv rfl rfl rfl ?_
          refine RL.fin ?_
          cases h24
          exact fun a w st => lop_intro (i21 + 1, r33) ⟨by show i21 + 1 + r33.length = (x0).length; simp only [List.length_cons] at h27; omega, h34, h25⟩ (by simp) (St.cut [0, 1] ⟨rfl, rfl, rfl, rfl, trivial⟩ (by decide) rfl st)
      · have h30 : ¬ i21 < (x0).length := by have := of_decide_eq_false b29; omega
        obtain rfl : r22 = [] := by rw [← h28]; exact List.drop_of_length_le (by omega)
        replace h26 : some (Fl.nx _) = some y14 := h26
        cases h26
        exact GL.exit (fun a w st => mid_intro () h17 (St.cut [] trivial (by decide) rfl st))
    · rintro ⟨⟩ h40
      have h41 := h18 _ h40
      try dsimp only at h41
      refine GL.weak (env' := []) (L' := []) (fun _ _ st => st) ?_
      refine GL.seq ?_
      refine GL.region ?_
      refine RL.asg rfl rfl rfl ?_
      refine RL.finG ?_
      have h41 := Option.some.inj h41
      subst h41
      exact GL.ret (Gx.ret (v := .bool true) (res1 rfl rfl) (fun a w st => st.toPostV))

set_option maxHeartbeats 4000000 in
theorem pk_powers_c (S : Hp) (w : World) (hS : S.sub w)  (res : Bool) (hm : pk_powers_m = some res) : Calls Try.prog 22 #[] w (PostV w (.bool res)) := by
  refine calls_enter 29 Try.func22 Try.ntmps22 rfl S false [] [] rfl trivial hS trivial ?_
  unfold pk_powers_m at hm
  refine GL.seq ?_
  refine GL.region ?_
  refine RL.asg rfl rfl rfl ?_
  refine RL.finG ?_
  refine GL.seq ?_
  refine GL.region ?_
  refine RL.bS (t := TR.int) (vs := [.int .i64 (2 : Int), .int .i64 (1 : Int), .int .i64 (1 : Int)]) ([(2 : Int), (1 : Int), (1 : Int)] : (List Int)) Try.underlying22 Try_lo3 rfl rfl rfl rfl ⟨VR.int, ⟨VR.int, ⟨VR.int, trivial⟩⟩⟩ rfl (by decide) ?_
  intro v5
  refine RL.weak (fun a w st => st.freeze 0 rfl) ?_
  obtain ⟨y6, e7, hm⟩ := bind_some hm
  refine RL.call (vs := [v5, .int .i64 (3 : Int)]) Try_fit25 rfl rfl rfl rfl rfl (fun S f w hS hW hi => power_Swings_c S w hS _ _ (hi 0 _ rfl) (3 : Int) _ e7) ?_
  intro v8
  refine RL.reL (L' := [imm (TR.sl TR.int) v5 ([(2 : Int), (1 : Int), (1 : Int)] : (List Int)), own 3 TR.int v8 y6.1]) rfl ?_
  refine RL.mv rfl rfl rfl ?_
  refine RL.ext rfl rfl rfl rfl ?_
  refine RL.ext rfl rfl rfl rfl ?_
  refine RL.asg rfl rfl rfl ?_
  refine RL.asg rfl rfl rfl ?_
  refine RL.finG ?_
  refine GL.seq ?_
  refine GL.region ?_
  refine RL.bS (t := TR.int) (vs := [.int .i64 (2 : Int), .int .i64 (1 : Int), .int .i64 (1 : Int)]) ([(2 : Int), (1 : Int), (1 : Int)] : (List Int)) Try.underlying22 Try_lo3 rfl rfl rfl rfl ⟨VR.int, ⟨VR.int, ⟨VR.int, trivial⟩⟩⟩ rfl (by decide) ?_
  intro v13
  refine RL.weak (fun a w st => st.freeze 2 rfl) ?_
  obtain ⟨y14, e15, hm⟩ := bind_some hm
  refine RL.call (vs := [v13, .int .i64 (3 : Int)]) Try_fit24 rfl rfl rfl rfl rfl (fun S f w hS hW hi => power_Turns_c S w hS _ _ (hi 2 _ rfl) (3 : Int) _ e15) ?_
  intro v16
  refine RL.reL (L' := [imm (TR.sl TR.int) v5 ([(2 : Int), (1 : Int), (1 : Int)] : (List Int)), own 3 TR.int v8 y6.1, imm (TR.sl TR.int) v13 ([(2 : Int), (1 : Int), (1 : Int)] : (List Int)), own 3 TR.int v16 y14.1]) rfl ?_
  refine RL.mv rfl rfl rfl ?_
  refine RL.ext rfl rfl rfl rfl ?_
  refine RL.ext rfl rfl rfl rfl ?_
  refine RL.asg rfl rfl rfl ?_
  refine RL.asg rfl rfl rfl ?_
  refine RL.finG ?_
  refine GL.seq ?_
  obtain ⟨y40, K41, h42, h43, h44, h45, h46⟩ := bindR_K hm
  refine GL.join (ι := Bool) (fun (p : Bool) => [(0, .bool p)]) (fun (p : Bool) => []) (fun (p : Bool) => K41 (.nx p)) ?_ ?_
  · skip
    refine GL.region ?_
    refine RL.mv rfl rfl rfl ?_
    refine RL.mv rfl rfl rfl ?_
    refine RL.bS (t := TR.int) (vs := [.int .i64 y6.2, .int .i64 y14.2]) ([y6.2, y14.2] : (List Int)) Try.underlying53 Try_lo26 rfl rfl rfl rfl ⟨VR.int, ⟨VR.int, trivial⟩⟩ rfl (by decide) ?_
    intro v47
    obtain ⟨y48, e49, h42⟩ := bind_some h42
    refine RL.callV (v := .bool y48) (vs := [v47]) Try_fit18 rfl (Or.inl rfl) rfl rfl rfl rfl (fun U w hU hW hL => pk_good_c U w hU _ _ (hL 4 _ _ rfl Seen.own) _ e49) ?_
    refine RL.mv rfl rfl rfl ?_
    refine RL.split (t := 19) rfl (fun b50 => ?_) (fun b50 => ?_)
    · replace h42 := ite_t b50 h42
      refine RL.mv rfl rfl rfl ?_
      refine RL.bS (t := TR.int) (vs := [.int .i64 (3 : Int), .int .i64 (1 : Int), .int .i64 (1 : Int)]) ([(3 : Int), (1 : Int), (1 : Int)] : (List Int)) Try.underlying22 Try_lo3 rfl rfl rfl rfl ⟨VR.int, ⟨VR.int, ⟨VR.int, trivial⟩⟩⟩ rfl (by decide) ?_
      intro v51
      refine RL.reL (L' := [imm (TR.sl TR.int) v5 ([(2 : Int), (1 : Int), (1 : Int)] : (List Int)), own 3 TR.int v8 y6.1, imm (TR.sl TR.int) v13 ([(2 : Int), (1 : Int), (1 : Int)] : (List Int)), own 3 TR.int v16 y14.1, own 26 TR.int v47 ([y6.2, y14.2] : (List Int)), own 3 TR.int v51 ([(3 : Int), (1 : Int), (1 : Int)] : (List Int))]) rfl ?_
      obtain ⟨y52, e53, h42⟩ := bind_some h42
      refine RL.callV (v := .bool y52) (vs := [v8, v51]) Try_fit20 rfl (Or.inl rfl) rfl rfl rfl rfl (fun U w hU hW hL => slices_Equal_int_int_c U w hU _ _ (hL 1 _ _ rfl Seen.own) _ _ (hL 5 _ _ rfl Seen.own) _ e53) ?_
      refine RL.pickT rfl rfl rfl rfl ?_
      refine RL.mv rfl rfl rfl ?_
      refine RL.split (t := 24) rfl (fun b54 => ?_) (fun b54 => ?_)
      · replace h42 := ite_t b54 h42
        refine RL.mv rfl rfl rfl ?_
        refine RL.bS (t := TR.int) (vs := [.int .i64 (4 : Int), .int .i64 (1 : Int), .int .i64 (1 : Int)]) ([(4 : Int), (1 : Int), (1 : Int)] : (List Int)) Try.underlying22 Try_lo3 rfl rfl rfl rfl ⟨VR.int, ⟨VR.int, ⟨VR.int, trivial⟩⟩⟩ rfl (by decide) ?_
        intro v55
        obtain ⟨y56, e57, h42⟩ := bind_some h42
        refine RL.callV (v := .bool y56) (vs := [v16, v55]) Try_fit20 rfl (Or.inl rfl) rfl rfl rfl rfl (fun U w hU hW hL => slices_Equal_int_int_c U w hU _ _ (hL 3 _ _ rfl Seen.own) _ _ (hL 6 _ _ rfl Seen.own) _ e57) ?_
        refine RL.pickT rfl rfl rfl rfl ?_
        refine RL.asg rfl rfl rfl ?_
        refine RL.fin ?_
        cases h42
        exact fun a w st => mid_intro y56 h43 (St.cut [] ⟨rfl, trivial⟩ (by decide) rfl st)
      · replace h42 := ite_f b54 h42
        refine RL.skip rfl rfl ?_
        refine RL.skip rfl rfl ?_
        refine RL.skip rfl rfl ?_
        refine RL.pickF rfl rfl rfl rfl ?_
        refine RL.asg rfl rfl rfl ?_
        refine RL.fin ?_
        cases h42
        exact fun a w st => mid_intro false h43 (St.cut [] ⟨rfl, trivial⟩ (by decide) rfl st)
    · replace h42 := ite_f b50 h42
      refine RL.skip rfl rfl ?_
      refine RL.skip rfl rfl ?_
      refine RL.skip rfl rfl ?_
      refine RL.pickF rfl rfl rfl rfl ?_
      refine RL.mv rfl rfl rfl ?_
      refine RL.skip rfl rfl ?_
      refine RL.skip rfl rfl ?_
      refine RL.skip rfl rfl ?_
      refine RL.pickF rfl rfl rfl rfl ?_
      refine RL.asg rfl rfl rfl ?_
      refine RL.fin ?_
      cases h42
      exact fun a w st => mid_intro false h43 (St.cut [] ⟨rfl, trivial⟩ (by decide) rfl st)
  · rintro x39 h58
    have h59 := h44 _ h58
    try dsimp only at h59
    refine GL.weak (env' := [(0, .bool x39)]) (L' := []) (fun _ _ st => st) ?_
    have h59 := Option.some.inj h59
    subst h59
    exact GL.ret (Gx.ret (v := .bool x39) (res1 rfl rfl) (fun a w st => st.toPostV))

set_option maxHeartbeats 4000000 in
theorem ref_Rest_c (S : Hp) (w : World) (hS : S.sub w) (x0 : Int) (x1 : Int) (res : Int) (hm : ref_Rest_m x0 x1 = some res) : Calls Try.prog 33 #[.int .i64 x0, .int .i64 x1] w (PostC w (.int .i64 res)) := by
  refine calls_enter 14 Try.func33 Try.ntmps33 rfl S true [(0, .int .i64 x0), (1, .int .i64 x1)] [] rfl ⟨rfl, ⟨rfl, trivial⟩⟩ hS trivial ?_
  unfold ref_Rest_m at hm
  refine GL.seq ?_
  refine GL.region ?_
  refine RL.asg rfl rfl rfl ?_
  refine RL.finG ?_
  refine GL.seq ?_
  refine GL.region ?_
  refine RL.mv rfl rfl rfl ?_
  refine RL.mv rfl rfl rfl ?_
  obtain ⟨y5, e6, hm⟩ := bind_some hm
  replace e6 := chk_some e6
  refine RL.rem rfl rfl rfl rfl e6 ?_
  refine RL.asg rfl rfl rfl ?_
  refine RL.finG ?_
  refine GL.seq ?_
  refine GL.seq ?_
  refine GL.region ?_
  refine RL.mv rfl rfl rfl ?_
  refine RL.binI (v := .bool (decide ((Int.tmod x0 x1) < (0 : Int)))) rfl rfl rfl rfl rfl ?_
  refine RL.finG ?_
  obtain ⟨y9, K10, h11, h12, h13, h14, h15⟩ := bindR_K hm
  refine GL.join (ι := Int) (fun (p : Int) => [(0, .int .i64 p)]) (fun (p : Int) => []) (fun (p : Int) => K10 (.nx p)) ?_ ?_
  · skip
    refine GL.cond rfl (fun b16 => ?_) (fun b16 => ?_)
    · replace h11 := ite_t b16 h11
      refine GL.region ?_
      refine RL.mv rfl rfl rfl ?_
      refine RL.mv rfl rfl rfl ?_
      refine RL.binI (v := .int .i64 (wadd (Int.tmod x0 x1) x1)) rfl rfl rfl rfl rfl ?_
      refine RL.asg rfl rfl rfl ?_
      refine RL.finG ?_
      cases h11
      exact fun a w st => mid_intro (wadd (Int.tmod x0 x1) x1) h12 (St.cut [] ⟨rfl, trivial⟩ (by decide) rfl st)
    · replace h11 := ite_f b16 h11
      refine GL.skip ?_
      cases h11
      exact fun a w st => mid_intro (Int.tmod x0 x1) h12 (St.cut [] ⟨rfl, trivial⟩ (by decide) rfl st)
  · rintro x8 h17
    have h18 := h13 _ h17
    try dsimp only at h18
    refine GL.weak (env' := [(0, .int .i64 x8)]) (L' := []) (fun _ _ st => st) ?_
    refine GL.seq ?_
    refine GL.region ?_
    refine RL.mv rfl rfl rfl ?_
    refine RL.asg rfl rfl rfl ?_
    refine RL.finG ?_
    have h18 := Option.some.inj h18
    subst h18
    exact GL.ret (Gx.ret (v := .int .i64 x8) (res1 rfl rfl) (fun a w st => st.toPostC rfl))

set_option maxHeartbeats 4000000 in
theorem pk_Within_c (S : Hp) (w : World) (hS : S.sub w) (x0 : Int) (x1 : Int) (res : Int) (hm : pk_Within_m x0 x1 = some res) : Calls Try.prog 15 #[.int .i64 x0, .int .i64 x1] w (PostC w (.int .i64 res)) := by
  refine calls_enter 8 Try.func15 Try.ntmps15 rfl S true [(0, .int .i64 x0), (1, .int .i64 x1)] [] rfl ⟨rfl, ⟨rfl, trivial⟩⟩ hS trivial ?_
  unfold pk_Within_m at hm
  refine GL.seq ?_
  refine GL.region ?_
  refine RL.asg rfl rfl rfl ?_
  refine RL.finG ?_
  refine GL.seq ?_
  refine GL.region ?_
  refine RL.mv rfl rfl rfl ?_
  refine RL.mv rfl rfl rfl ?_
  obtain ⟨y5, e6, hm⟩ := bind_some hm
  refine RL.callC (v := .int .i64 y5) (vs := [.int .i64 x0, .int .i64 x1]) Try_fit33 rfl rfl rfl rfl (fun U w hU hW hL => ref_Rest_c U w hU x0 x1 _ e6) ?_
  refine RL.asg rfl rfl rfl ?_
  refine RL.finG ?_
  have hm := Option.some.inj hm
  subst hm
  exact GL.ret (Gx.ret (v := .int .i64 y5) (res1 rfl rfl) (fun a w st => st.toPostC rfl))

set_option maxHeartbeats 4000000 in
theorem pk_sum_c (S : Hp) (w : World) (hS : S.sub w) (v0 : Value) (x0 : (List Int)) (k0 : ((TR.sl TR.int)).vrep S v0 x0) (res : Int) (hm : pk_sum_m x0 = some res) : Calls Try.prog 19 #[v0] w (PostC w (.int .i64 res)) := by
  refine calls_enter 17 Try.func19 Try.ntmps19 rfl S true [(0, v0)] [imm (TR.sl TR.int) v0 x0] rfl ⟨rfl, trivial⟩ hS ⟨k0, trivial⟩ ?_
  unfold pk_sum_m at hm
  refine GL.seq ?_
  refine GL.region ?_
  refine RL.asg rfl rfl rfl ?_
  refine RL.finG ?_
  refine GL.seq ?_
  refine GL.region ?_
  refine RL.asg rfl rfl rfl ?_
  refine RL.finG ?_
  refine GL.seq ?_
  refine GL.seq ?_
  refine GL.region ?_
  refine RL.mv rfl rfl rfl ?_
  refine RL.lenS 0 Try.underlying22 rfl rfl rfl rfl SlOf.imm ?_
  refine RL.mv rfl rfl rfl ?_
  refine RL.finG ?_
  refine GL.open_ 0 rfl (fun S h => len_imm S h) (fun n7 => ?_)
  obtain ⟨y8, K9, h10, h11, h12, h13, h14⟩ := bindR_K hm
  refine GL.join (ι := Int) (fun (p : Int) => [(3, .int .i64 p)]) (fun (p : Int) => []) (fun (p : Int) => K9 (.nx p)) ?_ ?_
  · refine GL.block ?_
    refine GL.loop (ι := Nat × (List Int) × Int) (fun (p : Nat × (List Int) × Int) => [(3, .int .i64 p.2.2), (6, v0), (7, .int .i64 ((x0).length : Int)), (8, .int .i64 (p.1 : Int))]) (fun (p : Nat × (List Int) × Int) => [imm (TR.sl TR.int) v0 x0]) (fun (p : Nat × (List Int) × Int) => p.1 + p.2.1.length = (x0).length ∧ List.drop p.1 x0 = p.2.1 ∧ rangeL pk_sum_b1 p.2.1 p.1 p.2.2 = some y8) (fun (p : Nat × (List Int) × Int) => p.2.1.length) (0, x0, (0 : Int)) ⟨by simp, by simp, h10⟩ (fun a w st => St.cut [0] ⟨rfl, rfl, rfl, rfl, trivial⟩ (by decide) rfl st) ?_
    rintro ⟨i15, r16, x2⟩ ⟨h21, h22, h20⟩
    try dsimp only at h21 h22 h20
    refine GL.weak (env' := [(3, .int .i64 x2), (6, v0), (7, .int .i64 ((x0).length : Int)), (8, .int .i64 (i15 : Int))]) (L' := [imm (TR.sl TR.int) v0 x0]) (fun _ _ st => st) ?_
    refine GL.seq ?_
    refine GL.region ?_
    refine RL.binI (v := .bool (decide ((i15 : Int) < ((x0).length : Int)))) rfl rfl rfl rfl rfl ?_
    refine RL.finG ?_
    refine GL.seq ?_
    refine GL.cond rfl (fun b23 => ?_) (fun b23 => ?_)
    · have h24 : i15 < (x0).length := by have := of_decide_eq_true b23; omega
      obtain ⟨y25, r27, hr, e26, h28⟩ := drop_cons h22 rfl h24
      subst hr
      obtain ⟨z17, h18, h19⟩ := rangeL_some h20
      unfold pk_sum_b1 at h18
      try dsimp only at h18
      refine GL.skip ?_
      refine GL.seq ?_
      refine GL.block ?_
      refine GL.seq ?_
      refine GL.region ?_
      refine RL.idxS (sz := 1) 0 Try.underlying22 Try_ln3 rfl rfl rfl rfl rfl SlOf.imm (by omega) (by omega) ?_
      refine RL.ldSx (i := i15) (e' := y25) 0 Ex.ik Try_ln3 rfl rfl rfl rfl SlOf.imm e26 Part.self ?_
      refine RL.asg rfl rfl rfl ?_
      refine RL.finG ?_
      refine GL.region ?_
      refine RL.mv rfl rfl rfl ?_
      refine RL.mv rfl rfl rfl ?_
      refine RL.binI (v := .int .i64 (wadd x2 y25)) rfl rfl rfl rfl rfl ?_
      refine RL.asg rfl rfl rfl ?_
      refine RL.finG ?_
      refine GL.nilB ?_
      refine GL.region ?_
      refine RL.binI (v := .int .i64 ((i15 + 1 : Nat) : Int)) rfl rfl rfl rfl (binI_succ i15 (by omega)) ?_
      refine RL.mv rfl rfl rfl ?_
      refine RL.fin ?_
      cases h18
      exact fun a w st => lop_intro (i15 + 1, r27, wadd x2 y25) ⟨by show i15 + 1 + r27.length = (x0).length; simp only [List.length_cons] at h21; omega, h28, h19⟩ (by simp) (St.cut [0] ⟨rfl, rfl, rfl, rfl, trivial⟩ (by decide) rfl st)
    · have h24 : ¬ i15 < (x0).length := by have := of_decide_eq_false b23; omega
      obtain rfl : r16 = [] := by rw [← h22]; exact List.drop_of_length_le (by omega)
      replace h20 : some (Fl.nx _) = some y8 := h20
      cases h20
      exact GL.exit (fun a w st => mid_intro x2 h11 (St.cut [] ⟨rfl, trivial⟩ (by decide) rfl st))
  · rintro x2 h29
    have h30 := h12 _ h29
    try dsimp only at h30
    refine GL.weak (env' := [(3, .int .i64 x2)]) (L' := []) (fun _ _ st => st) ?_
    refine GL.seq ?_
    refine GL.region ?_
    refine RL.mv rfl rfl rfl ?_
    refine RL.asg rfl rfl rfl ?_
    refine RL.finG ?_
    have h30 := Option.some.inj h30
    subst h30
    exact GL.ret (Gx.ret (v := .int .i64 x2) (res1 rfl rfl) (fun a w st => st.toPostC rfl))

set_option maxHeartbeats 4000000 in
theorem pk_WeightsOf_c (S : Hp) (w : World) (hS : S.sub w) (v0 : Value) (x0 : (List Int)) (k0 : ((TR.sl TR.int)).vrep S v0 x0) (x1 : Int) (res : (List Int) × Int) (hm : pk_WeightsOf_m x0 x1 = some res) : Calls Try.prog 23 #[v0, .int .i64 x1] w (Post w S (fun (o : Value) => .tuple #[o, .int .i64 res.2]) (fun (o : Value) => [own 3 TR.int o res.1])) := by
  refine calls_enter 32 Try.func23 Try.ntmps23 rfl S false [(0, v0), (1, .int .i64 x1)] [imm (TR.sl TR.int) v0 x0] rfl ⟨rfl, ⟨rfl, trivial⟩⟩ hS ⟨k0, trivial⟩ ?_
  unfold pk_WeightsOf_m at hm
  refine GL.seq ?_
  refine GL.region ?_
  refine RL.asg rfl rfl rfl ?_
  refine RL.asg rfl rfl rfl ?_
  refine RL.finG ?_
  refine GL.seq ?_
  refine GL.region ?_
  refine RL.bS (t := TR.int) (vs := [.int .i64 (1 : Int)]) ([(1 : Int)] : (List Int)) Try.underlying22 Try_lo3 rfl rfl rfl rfl ⟨VR.int, trivial⟩ rfl (by decide) ?_
  intro v4
  refine RL.asg rfl rfl rfl ?_
  refine RL.finG ?_
  refine GL.seq ?_
  refine GL.seq ?_
  refine GL.region ?_
  refine RL.mv rfl rfl rfl ?_
  refine RL.mv rfl rfl rfl ?_
  refine RL.lenS 0 Try.underlying22 rfl rfl rfl rfl SlOf.imm ?_
  refine RL.minI rfl rfl rfl rfl ?_
  obtain ⟨y8, e9, hm⟩ := bind_some hm
  replace e9 := chk_some e9
  refine RL.slc (t := TR.int) (i := 0) (j := (if (5 : Int) < ((x0).length : Int) then (5 : Int) else ((x0).length : Int)).toNat) (sz := 1) 0 Try.underlying22 Try_ln3 rfl rfl rfl rfl (Or.inl ⟨rfl, rfl⟩) (Or.inr ⟨_, _, rfl, by rw [Int.toNat_of_nonneg (by omega)]; rfl⟩) rfl (by omega) (by omega) ?_
  intro v10
  refine RL.reL (L' := [imm (TR.sl TR.int) v0 x0, own 3 TR.int v4 ([(1 : Int)] : (List Int)), imm (TR.sl TR.int) v10 ((List.take ((if (5 : Int) < ((x0).length : Int) then (5 : Int) else ((x0).length : Int)).toNat) x0).drop 0)]) rfl ?_
  refine RL.lenS 2 Try.underlying22 rfl rfl rfl rfl SlOf.imm ?_
  refine RL.mv rfl rfl rfl ?_
  refine RL.finG ?_
  refine GL.open_ 2 rfl (fun S h => len_imm S h) (fun n29 => ?_)
  obtain ⟨y30, K31, h32, h33, h34, h35, h36⟩ := bindR_K hm
  refine GL.join (ι := (List Int) × Value) (fun (p : (List Int) × Value) => [(1, .int .i64 x1), (6, p.2)]) (fun (p : (List Int) × Value) => [own 3 TR.int p.2 p.1]) (fun (p : (List Int) × Value) => K31 (.nx p.1)) ?_ ?_
  · refine GL.block ?_
    refine GL.loop (ι := Nat × (List Int) × (List Int) × Value) (fun (p : Nat × (List Int) × (List Int) × Value) => [(1, .int .i64 x1), (6, p.2.2.2), (14, v10), (15, .int .i64 ((((List.take ((if (5 : Int) < ((x0).length : Int) then (5 : Int) else ((x0).length : Int)).toNat) x0).drop 0)).length : Int)), (16, .int .i64 (p.1 : Int))]) (fun (p : Nat × (List Int) × (List Int) × Value) => [own 3 TR.int p.2.2.2 p.2.2.1, imm (TR.sl TR.int) v10 ((List.take ((if (5 : Int) < ((x0).length : Int) then (5 : Int) else ((x0).length : Int)).toNat) x0).drop 0)]) (fun (p : Nat × (List Int) × (List Int) × Value) => p.1 + p.2.1.length = (((List.take ((if (5 : Int) < ((x0).length : Int) then (5 : Int) else ((x0).length : Int)).toNat) x0).drop 0)).length ∧ List.drop p.1 ((List.take ((if (5 : Int) < ((x0).length : Int) then (5 : Int) else ((x0).length : Int)).toNat) x0).drop 0) = p.2.1 ∧ rangeL pk_WeightsOf_b1 p.2.1 p.1 p.2.2.1 = some y30) (fun (p : Nat × (List Int) × (List Int) × Value) => p.2.1.length) (0, ((List.take ((if (5 : Int) < ((x0).length : Int) then (5 : Int) else ((x0).length : Int)).toNat) x0).drop 0), ([(1 : Int)] : (List Int)), v4) ⟨by simp, by simp, h32⟩ (fun a w st => St.cut [1, 2] ⟨rfl, rfl, rfl, rfl, rfl, trivial⟩ (by decide) rfl st) ?_
    rintro ⟨i37, r38, l11, v12⟩ ⟨h43, h44, h42⟩
    try dsimp only at h43 h44 h42
    refine GL.weak (env' := [(1, .int .i64 x1), (6, v12), (14, v10), (15, .int .i64 ((((List.take ((if (5 : Int) < ((x0).length : Int) then (5 : Int) else ((x0).length : Int)).toNat) x0).drop 0)).length : Int)), (16, .int .i64 (i37 : Int))]) (L' := [own 3 TR.int v12 l11, imm (TR.sl TR.int) v10 ((List.take ((if (5 : Int) < ((x0).length : Int) then (5 : Int) else ((x0).length : Int)).toNat) x0).drop 0)]) (fun _ _ st => st) ?_
    refine GL.seq ?_
    refine GL.region ?_
    refine RL.binI (v := .bool (decide ((i37 : Int) < ((((List.take ((if (5 : Int) < ((x0).length : Int) then (5 : Int) else ((x0).length : Int)).toNat) x0).drop 0)).length : Int)))) rfl rfl rfl rfl rfl ?_
    refine RL.finG ?_
    refine GL.seq ?_
    refine GL.cond rfl (fun b45 => ?_) (fun b45 => ?_)
    · have h46 : i37 < (((List.take ((if (5 : Int) < ((x0).length : Int) then (5 : Int) else ((x0).length : Int)).toNat) x0).drop 0)).length := by have := of_decide_eq_true b45; omega
      obtain ⟨y47, r49, hr, e48, h50⟩ := drop_cons h44 rfl h46
      subst hr
      obtain ⟨z39, h40, h41⟩ := rangeL_some h42
      unfold pk_WeightsOf_b1 at h40
      try dsimp only at h40
      refine GL.skip ?_
      refine GL.seq ?_
      refine GL.block ?_
      refine GL.seq ?_
      refine GL.region ?_
      refine RL.idxS (sz := 1) 1 Try.underlying22 Try_ln3 rfl rfl rfl rfl rfl SlOf.imm (by omega) (by omega) ?_
      refine RL.ldSx (i := i37) (e' := y47) 1 Ex.ik Try_ln3 rfl rfl rfl rfl SlOf.imm e48 Part.self ?_
      refine RL.asg rfl rfl rfl ?_
      refine RL.finG ?_
      refine GL.region ?_
      refine RL.mv rfl rfl rfl ?_
      refine RL.mv rfl rfl rfl ?_
      obtain ⟨y57, e58, h40⟩ := bind_some h40
      refine RL.callC (v := .int .i64 y57) (vs := [.int .i64 y47, .int .i64 (20 : Int)]) Try_fit15 rfl rfl rfl rfl (fun U w hU hW hL => pk_Within_c U w hU y47 (20 : Int) _ e58) ?_
      refine RL.bS (t := TR.int) (vs := [.int .i64 y57]) ([y57] : (List Int)) Try.underlying22 Try_lo3 rfl rfl rfl rfl ⟨VR.int, trivial⟩ rfl (by decide) ?_
      intro v59
      obtain ⟨y60, e61, h40⟩ := bind_some h40
      replace e61 := chk_some e61
      refine RL.app 0 2 Try.underlying22 Try_lo3 rfl rfl rfl rfl rfl rfl rfl SlOf.own e61 ?_
      intro v62
      refine RL.reL (L' := [own 3 TR.int v62 (l11 ++ ([y57] : (List Int))), imm (TR.sl TR.int) v10 ((List.take ((if (5 : Int) < ((x0).length : Int) then (5 : Int) else ((x0).length : Int)).toNat) x0).drop 0), own 3 TR.int v59 ([y57] : (List Int))]) rfl ?_
      refine RL.asg rfl rfl rfl ?_
      refine RL.finG ?_
      refine GL.nilB ?_
      refine GL.region ?_
      refine RL.binI (v := .int .i64 ((i37 + 1 : Nat) : Int)) rfl rfl rfl rfl (binI_succ i37 (by omega)) ?_
      refine RL.mv rfl rfl rfl ?_
      refine RL.fin ?_
      cases h40
      exact fun a w st => lop_intro (i37 + 1, r49, (l11 ++ ([y57] : (List Int))), v62) ⟨by show i37 + 1 + r49.length = (((List.take ((if (5 : Int) < ((x0).length : Int) then (5 : Int) else ((x0).length : Int)).toNat) x0).drop 0)).length; simp only [List.length_cons] at h43; omega, h50, h41⟩ (by simp) (St.cut [0, 1] ⟨rfl, rfl, rfl, rfl, rfl, trivial⟩ (by decide) rfl st)
    · have h46 : ¬ i37 < (((List.take ((if (5 : Int) < ((x0).length : Int) then (5 : Int) else ((x0).length : Int)).toNat) x0).drop 0)).length := by have := of_decide_eq_false b45; omega
      obtain rfl : r38 = [] := by rw [← h44]; exact List.drop_of_length_le (by omega)
      replace h42 : some (Fl.nx _) = some y30 := h42
      cases h42
      exact GL.exit (fun a w st => mid_intro (l11, v12) h33 (St.cut [0] ⟨rfl, rfl, trivial⟩ (by decide) rfl st))
  · rintro ⟨l11, v12⟩ h63
    have h64 := h34 _ h63
    try dsimp only at h64
    refine GL.weak (env' := [(1, .int .i64 x1), (6, v12)]) (L' := [own 3 TR.int v12 l11]) (fun _ _ st => st) ?_
    refine GL.seq ?_
    refine GL.region ?_
    refine RL.mv rfl rfl rfl ?_
    refine RL.mv rfl rfl rfl ?_
    refine RL.mv rfl rfl rfl ?_
    obtain ⟨y69, e70, h64⟩ := bind_some h64
    refine RL.callC (v := .int .i64 y69) (vs := [v12]) Try_fit19 rfl rfl rfl rfl (fun U w hU hW hL => pk_sum_c U w hU _ _ (hL 0 _ _ rfl Seen.own) _ e70) ?_
    obtain ⟨y71, e72, h64⟩ := bind_some h64
    refine RL.callC (v := .int .i64 y71) (vs := [.int .i64 x1, .int .i64 y69]) Try_fit15 rfl rfl rfl rfl (fun U w hU hW hL => pk_Within_c U w hU x1 y69 _ e72) ?_
    refine RL.binI (v := .int .i64 (wadd (1 : Int) y71)) rfl rfl rfl rfl rfl ?_
    refine RL.asg rfl rfl rfl ?_
    refine RL.asg rfl rfl rfl ?_
    refine RL.finG ?_
    have h64 := Option.some.inj h64
    subst h64
    exact GL.ret (Gx.ret (v := .tuple #[v12, .int .i64 (wadd (1 : Int) y71)]) (res2 rfl rfl rfl) (fun a w st => (st.pick [0] (by decide) rfl).toPost v12))

set_option maxHeartbeats 4000000 in
theorem pk_PowerTurns_c (S : Hp) (w : World) (hS : S.sub w) (v0 : Value) (x0 : (List Int)) (k0 : ((TR.sl TR.int)).vrep S v0 x0) (x1 : Int) (res : Bool) (hm : pk_PowerTurns_m x0 x1 = some res) : Calls Try.prog 6 #[v0, .int .i64 x1] w (PostV w (.bool res)) := by
  refine calls_enter 100 Try.func6 Try.ntmps6 rfl S false [(0, v0), (1, .int .i64 x1)] [imm (TR.sl TR.int) v0 x0] rfl ⟨rfl, ⟨rfl, trivial⟩⟩ hS ⟨k0, trivial⟩ ?_
  unfold pk_PowerTurns_m at hm
  refine GL.seq ?_
  refine GL.region ?_
  refine RL.asg rfl rfl rfl ?_
  refine RL.finG ?_
  refine GL.seq ?_
  refine GL.seq ?_
  refine GL.region ?_
  obtain ⟨y5, e6, hm⟩ := bind_some hm
  refine RL.callV (v := .bool y5) (vs := []) Try_fit22 rfl (Or.inl rfl) rfl rfl rfl rfl (fun U w hU hW hL => pk_powers_c U w hU  _ e6) ?_
  refine RL.notB rfl rfl rfl ?_
  refine RL.finG ?_
  refine GL.cond rfl (fun b7 => ?_) (fun b7 => ?_)
  · replace hm := ite_t b7 hm
    refine GL.seq ?_
    refine GL.region ?_
    refine RL.asg rfl rfl rfl ?_
    refine RL.finG ?_
    have hm := Option.some.inj hm
    subst hm
    exact GL.ret (Gx.ret (v := .bool false) (res1 rfl rfl) (fun a w st => st.toPostV))
  · replace hm := ite_f b7 hm
    refine GL.skip ?_
    refine GL.seq ?_
    refine GL.region ?_
    refine RL.mv rfl rfl rfl ?_
    refine RL.mv rfl rfl rfl ?_
    obtain ⟨y11, e12, hm⟩ := bind_some hm
    refine RL.call (vs := [v0, .int .i64 x1]) Try_fit23 rfl rfl rfl rfl rfl (fun S f w hS hW hi => pk_WeightsOf_c S w hS _ _ (hi 0 _ rfl) x1 _ e12) ?_
    intro v13
    refine RL.mv rfl rfl rfl ?_
    refine RL.ext rfl rfl rfl rfl ?_
    refine RL.ext rfl rfl rfl rfl ?_
    refine RL.asg rfl rfl rfl ?_
    refine RL.asg rfl rfl rfl ?_
    refine RL.finG ?_
    refine GL.seq ?_
    refine GL.region ?_
    refine RL.mv rfl rfl rfl ?_
    refine RL.mv rfl rfl rfl ?_
    refine RL.weak (fun a w st => st.freeze 1 rfl) ?_
    obtain ⟨y17, e18, hm⟩ := bind_some hm
    refine RL.call (vs := [v13, .int .i64 y11.2]) Try_fit24 rfl rfl rfl rfl rfl (fun S f w hS hW hi => power_Turns_c S w hS _ _ (hi 1 _ rfl) y11.2 _ e18) ?_
    intro v19
    refine RL.reL (L' := [imm (TR.sl TR.int) v0 x0, imm (TR.sl TR.int) v13 y11.1, own 3 TR.int v19 y17.1]) rfl ?_
    refine RL.mv rfl rfl rfl ?_
    refine RL.ext rfl rfl rfl rfl ?_
    refine RL.ext rfl rfl rfl rfl ?_
    refine RL.asg rfl rfl rfl ?_
    refine RL.asg rfl rfl rfl ?_
    refine RL.finG ?_
    refine GL.seq ?_
    refine GL.seq ?_
    obtain ⟨y23, K24, h25, h26, h27, h28, h29⟩ := bindR_K hm
    refine GL.join (ι := Bool) (fun (p : Bool) => [(5, v13), (7, v19), (35, .bool p)]) (fun (p : Bool) => [imm (TR.sl TR.int) v13 y11.1, own 3 TR.int v19 y17.1]) (fun (p : Bool) => K24 (.nx p)) ?_ ?_
    · skip
      refine GL.region ?_
      refine RL.mv rfl rfl rfl ?_
      refine RL.binI (v := .bool (y17.2 != (0 : Int))) rfl rfl rfl rfl rfl ?_
      refine RL.mv rfl rfl rfl ?_
      refine RL.split (t := 29) rfl (fun b30 => ?_) (fun b30 => ?_)
      · replace h25 := ite_t b30 h25
        refine RL.skip rfl rfl ?_
        refine RL.skip rfl rfl ?_
        refine RL.skip rfl rfl ?_
        refine RL.skip rfl rfl ?_
        refine RL.skip rfl rfl ?_
        refine RL.pickT rfl rfl rfl rfl ?_
        refine RL.fin ?_
        cases h25
        exact fun a w st => mid_intro true h26 (St.cut [1, 2] ⟨rfl, rfl, rfl, trivial⟩ (by decide) rfl st)
      · replace h25 := ite_f b30 h25
        refine RL.mv rfl rfl rfl ?_
        refine RL.lenS 2 Try.underlying22 rfl rfl rfl rfl SlOf.own ?_
        refine RL.mv rfl rfl rfl ?_
        refine RL.lenS 1 Try.underlying22 rfl rfl rfl rfl SlOf.imm ?_
        refine RL.binI (v := .bool (((y17.1).length : Int) != ((y11.1).length : Int))) rfl rfl rfl rfl rfl ?_
        refine RL.pickF rfl rfl rfl rfl ?_
        refine RL.fin ?_
        cases h25
        exact fun a w st => mid_intro (((y17.1).length : Int) != ((y11.1).length : Int)) h26 (St.cut [1, 2] ⟨rfl, rfl, rfl, trivial⟩ (by decide) rfl st)
    · rintro x22 h31
      have h32 := h27 _ h31
      try dsimp only at h32
      refine GL.weak (env' := [(5, v13), (7, v19), (35, .bool x22)]) (L' := [imm (TR.sl TR.int) v13 y11.1, own 3 TR.int v19 y17.1]) (fun _ _ st => st) ?_
      refine GL.cond rfl (fun b33 => ?_) (fun b33 => ?_)
      · replace h32 := ite_t b33 h32
        refine GL.seq ?_
        refine GL.region ?_
        refine RL.asg rfl rfl rfl ?_
        refine RL.finG ?_
        have h32 := Option.some.inj h32
        subst h32
        exact GL.ret (Gx.ret (v := .bool false) (res1 rfl rfl) (fun a w st => st.toPostV))
      · replace h32 := ite_f b33 h32
        refine GL.skip ?_
        refine GL.seq ?_
        refine GL.region ?_
        refine RL.asg rfl rfl rfl ?_
        refine RL.finG ?_
        refine GL.seq ?_
        refine GL.seq ?_
        refine GL.region ?_
        refine RL.asg rfl rfl rfl ?_
        refine RL.finG ?_
        obtain ⟨y37, K38, h39, h40, h41, h42, h43⟩ := bindR_K h32
        refine GL.join (ι := Int × Int) (fun (p : Int × Int) => [(5, v13), (7, v19), (9, .int .i64 p.1)]) (fun (p : Int × Int) => [imm (TR.sl TR.int) v13 y11.1, own 3 TR.int v19 y17.1]) (fun (p : Int × Int) => K38 (.nx (p.1, p.2))) ?_ ?_
        · refine GL.block ?_
          refine GL.loop (ι := Nat × Int × Int) (fun (p : Nat × Int × Int) => [(5, v13), (7, v19), (9, .int .i64 p.2.1), (10, .int .i64 p.2.2)]) (fun (p : Nat × Int × Int) => [imm (TR.sl TR.int) v13 y11.1, own 3 TR.int v19 y17.1]) (fun (p : Nat × Int × Int) => loopM (pk_PowerTurns_b1 y11) p.1 (p.2.1, p.2.2) = some y37) (fun (p : Nat × Int × Int) => p.1) (1048576, (1 : Int), (2 : Int)) h39 (fun a w st => St.cut [0, 1] ⟨rfl, rfl, rfl, rfl, trivial⟩ (by decide) rfl st) ?_
          rintro ⟨r45, x34, x35⟩ h49
          try dsimp only at h49
          refine GL.weak (env' := [(5, v13), (7, v19), (9, .int .i64 x34), (10, .int .i64 x35)]) (L' := [imm (TR.sl TR.int) v13 y11.1, own 3 TR.int v19 y17.1]) (fun _ _ st => st) ?_
          obtain ⟨r52, z46, hr, h47, h48⟩ := loopM_some h49
          subst hr
          unfold pk_PowerTurns_b1 at h47
          try dsimp only at h47
          refine GL.seq ?_
          refine GL.seq ?_
          refine GL.region ?_
          refine RL.mv rfl rfl rfl ?_
          refine RL.mv rfl rfl rfl ?_
          refine RL.lenS 0 Try.underlying22 rfl rfl rfl rfl SlOf.imm ?_
          refine RL.binI (v := .bool (decide (x35 ≤ ((y11.1).length : Int)))) rfl rfl rfl rfl rfl ?_
          refine RL.finG ?_
          refine GL.cond rfl (fun b53 => ?_) (fun b53 => ?_)
          · replace h47 := ite_t b53 h47
            refine GL.skip ?_
            refine GL.seq ?_
            refine GL.block ?_
            refine GL.region ?_
            refine RL.mv rfl rfl rfl ?_
            refine RL.mv rfl rfl rfl ?_
            refine RL.binI (v := .int .i64 (wmul x34 x35)) rfl rfl rfl rfl rfl ?_
            refine RL.asg rfl rfl rfl ?_
            refine RL.finG ?_
            refine GL.nilB ?_
            refine GL.region ?_
            refine RL.mv rfl rfl rfl ?_
            refine RL.binI (v := .int .i64 (wadd x35 (1 : Int))) rfl rfl rfl rfl rfl ?_
            refine RL.asg rfl rfl rfl ?_
            refine RL.finG ?_
            cases h47
            exact fun a w st => lop_intro (r52, wmul x34 x35, wadd x35 (1 : Int)) h48 (by simp) (St.cut [0, 1] ⟨rfl, rfl, rfl, rfl, trivial⟩ (by decide) rfl st)
          · replace h47 := ite_f b53 h47
            cases h47
            replace h48 : some (Fl.nx _) = some y37 := h48
            cases h48
            exact GL.exit (fun a w st => mid_intro (x34, x35) h40 (St.cut [0, 1] ⟨rfl, rfl, rfl, trivial⟩ (by decide) rfl st))
        · rintro ⟨x34, x35⟩ h54
          have h55 := h41 _ h54
          try dsimp only at h55
          refine GL.weak (env' := [(5, v13), (7, v19), (9, .int .i64 x34)]) (L' := [imm (TR.sl TR.int) v13 y11.1, own 3 TR.int v19 y17.1]) (fun _ _ st => st) ?_
          refine GL.seq ?_
          refine GL.seq ?_
          refine GL.region ?_
          refine RL.mv rfl rfl rfl ?_
          refine RL.lenS 0 Try.underlying22 rfl rfl rfl rfl SlOf.imm ?_
          refine RL.mv rfl rfl rfl ?_
          refine RL.finG ?_
          refine GL.open_ 0 rfl (fun S h => len_imm S h) (fun n191 => ?_)
          obtain ⟨y192, K193, h194, h195, h196, h197, h198⟩ := bindR_K h55
          refine GL.join (ι := Unit) (fun (p : Unit) => [(7, v19), (9, .int .i64 x34)]) (fun (p : Unit) => [own 3 TR.int v19 y17.1]) (fun (p : Unit) => K193 (.nx ())) ?_ ?_
          · refine GL.block ?_
            refine GL.loop (ι := Nat × (List Int)) (fun (p : Nat × (List Int)) => [(5, v13), (7, v19), (9, .int .i64 x34), (46, .int .i64 ((y11.1).length : Int)), (47, .int .i64 (p.1 : Int))]) (fun (p : Nat × (List Int)) => [imm (TR.sl TR.int) v13 y11.1, own 3 TR.int v19 y17.1]) (fun (p : Nat × (List Int)) => p.1 + p.2.length = (y11.1).length ∧ List.drop p.1 y11.1 = p.2 ∧ rangeL (pk_PowerTurns_b2 y17 y11) p.2 p.1 () = some y192) (fun (p : Nat × (List Int)) => p.2.length) (0, y11.1) ⟨by simp, by simp, h194⟩ (fun a w st => St.cut [0, 1] ⟨rfl, rfl, rfl, rfl, rfl, trivial⟩ (by decide) rfl st) ?_
            rintro ⟨i199, r200⟩ ⟨h205, h206, h204⟩
            try dsimp only at h205 h206 h204
            refine GL.weak (env' := [(5, v13), (7, v19), (9, .int .i64 x34), (46, .int .i64 ((y11.1).length : Int)), (47, .int .i64 (i199 : Int))]) (L' := [imm (TR.sl TR.int) v13 y11.1, own 3 TR.int v19 y17.1]) (fun _ _ st => st) ?_
            refine GL.seq ?_
            refine GL.region ?_
            refine RL.binI (v := .bool (decide ((i199 : Int) < ((y11.1).length : Int)))) rfl rfl rfl rfl rfl ?_
            refine RL.finG ?_
            refine GL.seq ?_
            refine GL.cond rfl (fun b207 => ?_) (fun b207 => ?_)
            · have h208 : i199 < (y11.1).length := by have := of_decide_eq_true b207; omega
              obtain ⟨y209, r211, hr, e210, h212⟩ := drop_cons h206 rfl h208
              subst hr
              obtain ⟨z201, h202, h203⟩ := rangeL_some h204
              unfold pk_PowerTurns_b2 at h202
              try dsimp only at h202
              refine GL.skip ?_
              refine GL.seq ?_
              refine GL.block ?_
              refine GL.seq ?_
              refine GL.region ?_
              refine RL.mv rfl rfl rfl ?_
              refine RL.asg rfl rfl rfl ?_
              refine RL.finG ?_
              refine GL.seq ?_
              refine GL.seq ?_
              obtain ⟨y230, K231, h232, h233, h234, h235, h236⟩ := bindF_K h202
              refine GL.join (ι := Bool) (fun (p : Bool) => [(5, v13), (7, v19), (9, .int .i64 x34), (11, .int .i64 (i199 : Int)), (46, .int .i64 ((y11.1).length : Int)), (47, .int .i64 (i199 : Int)), (68, .bool p)]) (fun (p : Bool) => [imm (TR.sl TR.int) v13 y11.1, own 3 TR.int v19 y17.1]) (fun (p : Bool) => K231 (.nx p)) ?_ ?_
              · skip
                refine GL.region ?_
                refine RL.mv rfl rfl rfl ?_
                refine RL.mv rfl rfl rfl ?_
                refine RL.idxS (sz := 1) 0 Try.underlying22 Try_ln3 rfl rfl rfl rfl rfl SlOf.imm (by omega) (by omega) ?_
                refine RL.ldSx (i := i199) (e' := y209) 0 Ex.ik Try_ln3 rfl rfl rfl rfl SlOf.imm e210 Part.self ?_
                refine RL.binI (v := .bool (y209 == (0 : Int))) rfl rfl rfl rfl rfl ?_
                refine RL.mv rfl rfl rfl ?_
                refine RL.split (t := 55) rfl (fun b237 => ?_) (fun b237 => ?_)
                · replace h232 := ite_t b237 h232
                  refine RL.mv rfl rfl rfl ?_
                  refine RL.mv rfl rfl rfl ?_
                  obtain ⟨y238, e239, h232⟩ := bind_some h232
                  refine RL.idxS (sz := 1) 1 Try.underlying22 Try_ln3 rfl rfl rfl rfl rfl SlOf.own (idx_some e239).1 (idx_some e239).2.1 ?_
                  refine RL.ldSx (i := i199) (e' := y238) 1 Ex.ik Try_ln3 rfl rfl rfl rfl SlOf.own (idx_some e239).2.2 Part.self ?_
                  refine RL.binI (v := .bool (y238 != (0 : Int))) rfl rfl rfl rfl rfl ?_
                  refine RL.pickT rfl rfl rfl rfl ?_
                  refine RL.mv rfl rfl rfl ?_
                  refine RL.split (t := 62) rfl (fun b240 => ?_) (fun b240 => ?_)
                  · replace h232 := ite_t b240 h232
                    refine RL.skip rfl rfl ?_
                    refine RL.skip rfl rfl ?_
                    refine RL.skip rfl rfl ?_
                    refine RL.skip rfl rfl ?_
                    refine RL.skip rfl rfl ?_
                    refine RL.pickT rfl rfl rfl rfl ?_
                    refine RL.fin ?_
                    cases h232
                    exact fun a w st => mid_intro true h233 (St.cut [0, 1] ⟨rfl, rfl, rfl, rfl, rfl, rfl, rfl, trivial⟩ (by decide) rfl st)
                  · replace h232 := ite_f b240 h232
                    refine RL.mv rfl rfl rfl ?_
                    refine RL.mv rfl rfl rfl ?_
                    obtain ⟨y241, e242, h232⟩ := bind_some h232
                    refine RL.idxS (sz := 1) 1 Try.underlying22 Try_ln3 rfl rfl rfl rfl rfl SlOf.own (idx_some e242).1 (idx_some e242).2.1 ?_
                    refine RL.ldSx (i := i199) (e' := y241) 1 Ex.ik Try_ln3 rfl rfl rfl rfl SlOf.own (idx_some e242).2.2 Part.self ?_
                    refine RL.binI (v := .bool (decide (y241 < (0 : Int)))) rfl rfl rfl rfl rfl ?_
                    refine RL.pickF rfl rfl rfl rfl ?_
                    refine RL.fin ?_
                    cases h232
                    exact fun a w st => mid_intro (decide (y241 < (0 : Int))) h233 (St.cut [0, 1] ⟨rfl, rfl, rfl, rfl, rfl, rfl, rfl, trivial⟩ (by decide) rfl st)
                · replace h232 := ite_f b237 h232
                  refine RL.skip rfl rfl ?_
                  refine RL.skip rfl rfl ?_
                  refine RL.skip rfl rfl ?_
                  refine RL.skip rfl rfl ?_
                  refine RL.skip rfl rfl ?_
                  refine RL.pickF rfl rfl rfl rfl ?_
                  refine RL.mv rfl rfl rfl ?_
                  refine RL.mv rfl rfl rfl ?_
                  refine RL.mv rfl rfl rfl ?_
                  obtain ⟨y243, e244, h232⟩ := bind_some h232
                  refine RL.idxS (sz := 1) 1 Try.underlying22 Try_ln3 rfl rfl rfl rfl rfl SlOf.own (idx_some e244).1 (idx_some e244).2.1 ?_
                  refine RL.ldSx (i := i199) (e' := y243) 1 Ex.ik Try_ln3 rfl rfl rfl rfl SlOf.own (idx_some e244).2.2 Part.self ?_
                  refine RL.binI (v := .bool (decide (y243 < (0 : Int)))) rfl rfl rfl rfl rfl ?_
                  refine RL.pickF rfl rfl rfl rfl ?_
                  refine RL.fin ?_
                  cases h232
                  exact fun a w st => mid_intro (decide (y243 < (0 : Int))) h233 (St.cut [0, 1] ⟨rfl, rfl, rfl, rfl, rfl, rfl, rfl, trivial⟩ (by decide) rfl st)
              · rintro x229 h245
                have h246 := h234 _ h245
                try dsimp only at h246
                refine GL.weak (env' := [(5, v13), (7, v19), (9, .int .i64 x34), (11, .int .i64 (i199 : Int)), (46, .int .i64 ((y11.1).length : Int)), (47, .int .i64 (i199 : Int)), (68, .bool x229)]) (L' := [imm (TR.sl TR.int) v13 y11.1, own 3 TR.int v19 y17.1]) (fun _ _ st => st) ?_
                refine GL.cond rfl (fun b247 => ?_) (fun b247 => ?_)
                · replace h246 := ite_t b247 h246
                  refine GL.seq ?_
                  refine GL.region ?_
                  refine RL.asg rfl rfl rfl ?_
                  refine RL.finG ?_
                  cases h246
                  replace h203 : some (Fl.rt _) = some y192 := h203
                  cases h203
                  have hh := h197 _ h195
                  subst hh
                  exact GL.ret (Gx.ret (v := .bool false) (res1 rfl rfl) (fun a w st => st.toPostV))
                · replace h246 := ite_f b247 h246
                  refine GL.skip ?_
                  refine GL.seq ?_
                  refine GL.region ?_
                  refine RL.mv rfl rfl rfl ?_
                  refine RL.lenS 0 Try.underlying22 rfl rfl rfl rfl SlOf.imm ?_
                  refine RL.mv rfl rfl rfl ?_
                  refine RL.finG ?_
                  refine GL.open_ 0 rfl (fun S h => len_imm S h) (fun n280 => ?_)
                  obtain ⟨y281, K282, h283, h284, h285, h286, h287⟩ := bindF_K h246
                  refine GL.join (ι := Unit) (fun (p : Unit) => [(5, v13), (7, v19), (9, .int .i64 x34), (46, .int .i64 ((y11.1).length : Int)), (47, .int .i64 (i199 : Int))]) (fun (p : Unit) => [imm (TR.sl TR.int) v13 y11.1, own 3 TR.int v19 y17.1]) (fun (p : Unit) => K282 (.nx ())) ?_ ?_
                  · refine GL.block ?_
                    refine GL.loop (ι := Nat × (List Int)) (fun (p : Nat × (List Int)) => [(5, v13), (7, v19), (9, .int .i64 x34), (11, .int .i64 (i199 : Int)), (46, .int .i64 ((y11.1).length : Int)), (47, .int .i64 (i199 : Int)), (70, .int .i64 ((y11.1).length : Int)), (71, .int .i64 (p.1 : Int))]) (fun (p : Nat × (List Int)) => [imm (TR.sl TR.int) v13 y11.1, own 3 TR.int v19 y17.1]) (fun (p : Nat × (List Int)) => p.1 + p.2.length = (y11.1).length ∧ List.drop p.1 y11.1 = p.2 ∧ rangeL (pk_PowerTurns_b3 y209 y17 i199) p.2 p.1 () = some y281) (fun (p : Nat × (List Int)) => p.2.length) (0, y11.1) ⟨by simp, by simp, h283⟩ (fun a w st => St.cut [0, 1] ⟨rfl, rfl, rfl, rfl, rfl, rfl, rfl, rfl, trivial⟩ (by decide) rfl st) ?_
                    rintro ⟨i288, r289⟩ ⟨h294, h295, h293⟩
                    try dsimp only at h294 h295 h293
                    refine GL.weak (env' := [(5, v13), (7, v19), (9, .int .i64 x34), (11, .int .i64 (i199 : Int)), (46, .int .i64 ((y11.1).length : Int)), (47, .int .i64 (i199 : Int)), (70, .int .i64 ((y11.1).length : Int)), (71, .int .i64 (i288 : Int))]) (L' := [imm (TR.sl TR.int) v13 y11.1, own 3 TR.int v19 y17.1]) (fun _ _ st => st) ?_
                    refine GL.seq ?_
                    refine GL.region ?_
                    refine RL.binI (v := .bool (decide ((i288 : Int) < ((y11.1).length : Int)))) rfl rfl rfl rfl rfl ?_
                    refine RL.finG ?_
                    refine GL.seq ?_
                    refine GL.cond rfl (fun b296 => ?_) (fun b296 => ?_)
                    · have h297 : i288 < (y11.1).length := by have := of_decide_eq_true b296; omega
                      obtain ⟨y298, r300, hr, e299, h301⟩ := drop_cons h295 rfl h297
                      subst hr
                      obtain ⟨z290, h291, h292⟩ := rangeL_some h293
                      unfold pk_PowerTurns_b3 at h291
                      try dsimp only at h291
                      refine GL.skip ?_
                      refine GL.seq ?_
                      refine GL.block ?_
                      refine GL.seq ?_
                      refine GL.region ?_
                      refine RL.mv rfl rfl rfl ?_
                      refine RL.asg rfl rfl rfl ?_
                      refine RL.finG ?_
                      refine GL.seq ?_
                      obtain ⟨y313, K314, h315, h316, h317, h318, h319⟩ := bindF_K h291
                      refine GL.join (ι := Bool) (fun (p : Bool) => [(5, v13), (7, v19), (9, .int .i64 x34), (11, .int .i64 (i199 : Int)), (46, .int .i64 ((y11.1).length : Int)), (47, .int .i64 (i199 : Int)), (70, .int .i64 ((y11.1).length : Int)), (71, .int .i64 (i288 : Int)), (93, .bool p)]) (fun (p : Bool) => [imm (TR.sl TR.int) v13 y11.1, own 3 TR.int v19 y17.1]) (fun (p : Bool) => K314 (.nx p)) ?_ ?_
                      · skip
                        refine GL.regionQ rfl rfl (by kernel_rfl) ?_
                        refine RL.mv rfl rfl rfl ?_
                        refine RL.mv rfl rfl rfl ?_
                        refine RL.idxS (sz := 1) 0 Try.underlying22 Try_ln3 rfl rfl rfl rfl rfl SlOf.imm (by omega) (by omega) ?_
                        refine RL.ldSx (i := i199) (e' := y209) 0 Ex.ik Try_ln3 rfl rfl rfl rfl SlOf.imm e210 Part.self ?_
                        refine RL.mv rfl rfl rfl ?_
                        refine RL.mv rfl rfl rfl ?_
                        refine RL.idxS (sz := 1) 0 Try.underlying22 Try_ln3 rfl rfl rfl rfl rfl SlOf.imm (by omega) (by omega) ?_
                        refine RL.ldSx (i := i288) (e' := y298) 0 Ex.ik Try_ln3 rfl rfl rfl rfl SlOf.imm e299 Part.self ?_
                        refine RL.binI (v := .bool (decide (y209 ≥ y298))) rfl rfl rfl rfl rfl ?_
                        refine RL.mv rfl rfl rfl ?_
                        refine RL.split (t := 83) rfl (fun b320 => ?_) (fun b320 => ?_)
                        · replace h315 := ite_t b320 h315
                          refine RL.mv rfl rfl rfl ?_
                          refine RL.mv rfl rfl rfl ?_
                          obtain ⟨y321, e322, h315⟩ := bind_some h315
                          refine RL.idxS (sz := 1) 1 Try.underlying22 Try_ln3 rfl rfl rfl rfl rfl SlOf.own (idx_some e322).1 (idx_some e322).2.1 ?_
                          refine RL.ldSx (i := i199) (e' := y321) 1 Ex.ik Try_ln3 rfl rfl rfl rfl SlOf.own (idx_some e322).2.2 Part.self ?_
                          refine RL.mv rfl rfl rfl ?_
                          refine RL.mv rfl rfl rfl ?_
                          obtain ⟨y323, e324, h315⟩ := bind_some h315
                          refine RL.idxS (sz := 1) 1 Try.underlying22 Try_ln3 rfl rfl rfl rfl rfl SlOf.own (idx_some e324).1 (idx_some e324).2.1 ?_
                          refine RL.ldSx (i := i288) (e' := y323) 1 Ex.ik Try_ln3 rfl rfl rfl rfl SlOf.own (idx_some e324).2.2 Part.self ?_
                          refine RL.binI (v := .bool (decide (y321 < y323))) rfl rfl rfl rfl rfl ?_
                          refine RL.pickT rfl rfl rfl rfl ?_
                          refine RL.finQ ?_
                          cases h315
                          exact fun a w st => mid_intro (decide (y321 < y323)) h316 (St.cut [0, 1] ⟨rfl, rfl, rfl, rfl, rfl, rfl, rfl, rfl, rfl, trivial⟩ (by decide) rfl st)
                        · replace h315 := ite_f b320 h315
                          refine RL.skip rfl rfl ?_
                          refine RL.skip rfl rfl ?_
                          refine RL.skip rfl rfl ?_
                          refine RL.skip rfl rfl ?_
                          refine RL.skip rfl rfl ?_
                          refine RL.skip rfl rfl ?_
                          refine RL.skip rfl rfl ?_
                          refine RL.skip rfl rfl ?_
                          refine RL.skip rfl rfl ?_
                          refine RL.pickF rfl rfl rfl rfl ?_
                          refine RL.finQ ?_
                          cases h315
                          exact fun a w st => mid_intro false h316 (St.cut [0, 1] ⟨rfl, rfl, rfl, rfl, rfl, rfl, rfl, rfl, rfl, trivial⟩ (by decide) rfl st)
                      · rintro x312 h325
                        have h326 := h317 _ h325
                        try dsimp only at h326
                        refine GL.weak (env' := [(5, v13), (7, v19), (9, .int .i64 x34), (11, .int .i64 (i199 : Int)), (46, .int .i64 ((y11.1).length : Int)), (47, .int .i64 (i199 : Int)), (70, .int .i64 ((y11.1).length : Int)), (71, .int .i64 (i288 : Int)), (93, .bool x312)]) (L' := [imm (TR.sl TR.int) v13 y11.1, own 3 TR.int v19 y17.1]) (fun _ _ st => st) ?_
                        refine GL.cond rfl (fun b327 => ?_) (fun b327 => ?_)
                        · replace h326 := ite_t b327 h326
                          refine GL.seq ?_
                          refine GL.region ?_
                          refine RL.asg rfl rfl rfl ?_
                          refine RL.finG ?_
                          cases h326
                          replace h292 : some (Fl.rt _) = some y281 := h292
                          cases h292
                          have hh := h286 _ h284
                          subst hh
                          replace h203 : some (Fl.rt _) = some y192 := h203
                          cases h203
                          have hh := h197 _ h195
                          subst hh
                          exact GL.ret (Gx.ret (v := .bool false) (res1 rfl rfl) (fun a w st => st.toPostV))
                        · replace h326 := ite_f b327 h326
                          refine GL.skip ?_
                          refine GL.nilB ?_
                          refine GL.region ?_
                          refine RL.binI (v := .int .i64 ((i288 + 1 : Nat) : Int)) rfl rfl rfl rfl (binI_succ i288 (by omega)) ?_
                          refine RL.mv rfl rfl rfl ?_
                          refine RL.fin ?_
                          cases h326
                          exact fun a w st => lop_intro (i288 + 1, r300) ⟨by show i288 + 1 + r300.length = (y11.1).length; simp only [List.length_cons] at h294; omega, h301, h292⟩ (by simp) (St.cut [0, 1] ⟨rfl, rfl, rfl, rfl, rfl, rfl, rfl, rfl, trivial⟩ (by decide) rfl st)
                    · have h297 : ¬ i288 < (y11.1).length := by have := of_decide_eq_false b296; omega
                      obtain rfl : r289 = [] := by rw [← h295]; exact List.drop_of_length_le (by omega)
                      replace h293 : some (Fl.nx _) = some y281 := h293
                      cases h293
                      exact GL.exit (fun a w st => mid_intro () h284 (St.cut [0, 1] ⟨rfl, rfl, rfl, rfl, rfl, trivial⟩ (by decide) rfl st))
                  · rintro ⟨⟩ h328
                    have h329 := h285 _ h328
                    try dsimp only at h329
                    refine GL.weak (env' := [(5, v13), (7, v19), (9, .int .i64 x34), (46, .int .i64 ((y11.1).length : Int)), (47, .int .i64 (i199 : Int))]) (L' := [imm (TR.sl TR.int) v13 y11.1, own 3 TR.int v19 y17.1]) (fun _ _ st => st) ?_
                    refine GL.nilB ?_
                    refine GL.region ?_
                    refine RL.binI (v := .int .i64 ((i199 + 1 : Nat) : Int)) rfl rfl rfl rfl (binI_succ i199 (by omega)) ?_
                    refine RL.mv rfl rfl rfl ?_
                    refine RL.fin ?_
                    cases h329
                    exact fun a w st => lop_intro (i199 + 1, r211) ⟨by show i199 + 1 + r211.length = (y11.1).length; simp only [List.length_cons] at h205; omega, h212, h203⟩ (by simp) (St.cut [0, 1] ⟨rfl, rfl, rfl, rfl, rfl, trivial⟩ (by decide) rfl st)
            · have h208 : ¬ i199 < (y11.1).length := by have := of_decide_eq_false b207; omega
              obtain rfl : r200 = [] := by rw [← h206]; exact List.drop_of_length_le (by omega)
              replace h204 : some (Fl.nx _) = some y192 := h204
              cases h204
              exact GL.exit (fun a w st => mid_intro () h195 (St.cut [1] ⟨rfl, rfl, trivial⟩ (by decide) rfl st))
          · rintro ⟨⟩ h330
            have h331 := h196 _ h330
            try dsimp only at h331
            refine GL.weak (env' := [(7, v19), (9, .int .i64 x34)]) (L' := [own 3 TR.int v19 y17.1]) (fun _ _ st => st) ?_
            refine GL.seq ?_
            refine GL.region ?_
            refine RL.mv rfl rfl rfl ?_
            obtain ⟨y334, e335, h331⟩ := bind_some h331
            refine RL.callC (v := .int .i64 y334) (vs := [v19]) Try_fit19 rfl rfl rfl rfl (fun U w hU hW hL => pk_sum_c U w hU _ _ (hL 0 _ _ rfl Seen.own) _ e335) ?_
            refine RL.mv rfl rfl rfl ?_
            refine RL.binI (v := .bool (y334 == x34)) rfl rfl rfl rfl rfl ?_
            refine RL.asg rfl rfl rfl ?_
            refine RL.finG ?_
            have h331 := Option.some.inj h331
            subst h331
            exact GL.ret (Gx.ret (v := .bool (y334 == x34)) (res1 rfl rfl) (fun a w st => st.toPostV))
end Go.Wk
