/- Each function comes to what its model says; printed by a program of this repository. -/
import Derived.Test.YtlglnacpabmjnaaProg
import Derived.Test.YtlglnacpabmjnaaWPowerScaledModels
namespace Go.Wk
open Go.Fw Go.Mo Go.Proofs Go.RowKit
set_option linter.all false
set_option maxRecDepth 100000
theorem loopNx {ρ σ β γ : Type} {body : σ → Option (Fl ρ β σ)} {n : Nat} {s : σ} {y : Fl ρ γ β} (h : stepM body n (.nx s) = some y) : loopM body n s = some y := h
theorem Try_info3 : (Try.prog.info? 3).map (fun i => (i.zero, i.size, i.bytes)) = some (some (.int .i64 0), 1, 8) := by kernel_rfl
theorem Try_ln3 : Ln Try.prog 3 1 false := Ln.of Try_info3 Try.underlying3 rfl
theorem Try_lo3 : LnO Try.prog 3 1 [.int .i64 0] := LnO.of Try_info3 rfl rfl (by decide) (by decide)
theorem Try_info26 : (Try.prog.info? 26).map (fun i => (i.zero, i.size, i.bytes)) = some (some (.int .i64 0), 1, 8) := by kernel_rfl
theorem Try_ln26 : Ln Try.prog 26 1 false := Ln.of Try_info26 Try.underlying26 rfl
theorem Try_lo26 : LnO Try.prog 26 1 [.int .i64 0] := LnO.of Try_info26 rfl rfl (by decide) (by decide)
theorem Try_fit15 : Fit Try.prog 15 := Fit.of Try.func15 (by kernel_rfl) rfl
theorem Try_fit18 : Fit Try.prog 18 := Fit.of Try.func18 (by kernel_rfl) rfl
theorem Try_fit19 : Fit Try.prog 19 := Fit.of Try.func19 (by kernel_rfl) rfl
theorem Try_fit20 : Fit Try.prog 20 := Fit.of Try.func20 (by kernel_rfl) rfl
theorem Try_fit22 : Fit Try.prog 22 := Fit.of Try.func22 (by kernel_rfl) rfl
theorem Try_fit23 : Fit Try.prog 23 := Fit.of Try.func23 (by kernel_rfl) rfl
theorem Try_fit24 : Fit Try.prog 24 := Fit.of Try.func24 (by kernel_rfl) rfl
theorem Try_fit25 : Fit Try.prog 25 := Fit.of Try.func25 (by kernel_rfl) rfl
theorem Try_fit28 : Fit Try.prog 28 := Fit.of Try.func28 (by kernel_rfl) rfl
theorem Try_fit29 : Fit Try.prog 29 := Fit.of Try.func29 (by kernel_rfl) rfl
theorem Try_fit33 : Fit Try.prog 33 := Fit.of Try.func33 (by kernel_rfl) rfl
theorem Try_fit37 : Fit Try.prog 37 := Fit.of Try.func37 (by kernel_rfl) rfl
theorem Try_fit38 : Fit Try.prog 38 := Fit.of Try.func38 (by kernel_rfl) rfl
theorem Try_fit41 : Fit Try.prog 41 := Fit.of Try.func41 (by kernel_rfl) rfl
theorem Try_fit42 : Fit Try.prog 42 := Fit.of Try.func42 (by kernel_rfl) rfl
theorem Try_fit43 : Fit Try.prog 43 := Fit.of Try.func43 (by kernel_rfl) rfl
theorem Try_fit45 : Fit Try.prog 45 := Fit.of Try.func45 (by kernel_rfl) rfl

set_option maxHeartbeats 4000000 in
theorem power_Check_c (S : Hp) (w : World) (hS : S.sub w) (v0 : Value) (x0 : (List Int)) (k0 : ((TR.sl TR.int)).vrep S v0 x0) (x1 : Int) (res : Int) (hm : power_Check_m x0 x1 = some res) : Calls Try.prog 41 #[v0, .int .i64 x1] w (PostC w (.int .i64 res)) := by
  refine calls_enter 39 Try.func41 Try.ntmps41 rfl S true [(0, v0), (1, .int .i64 x1)] [imm (TR.sl TR.int) v0 x0] rfl ⟨rfl, ⟨rfl, trivial⟩⟩ hS ⟨k0, trivial⟩ ?_
  unfold power_Check_m at hm
  refine GL.seq ?_
  refine GL.region ?_
  refine RL.asg rfl rfl rfl ?_
  refine RL.finG ?_
  refine GL.seq ?_
  refine GL.seq ?_
  obtain ⟨y6, K7, h8, h9, h10, h11, h12⟩ := bindR_K hm
  refine GL.join (ι := Bool) (fun (p : Bool) => [(0, v0), (1, .int .i64 x1), (15, .bool p)]) (fun (p : Bool) => [imm (TR.sl TR.int) v0 x0]) (fun (p : Bool) => K7 (.nx p)) ?_ ?_
  · skip
    refine GL.region ?_
    refine RL.mv rfl rfl rfl ?_
    refine RL.lenS 0 Try.underlying22 rfl rfl rfl rfl SlOf.imm ?_
    refine RL.binI (v := .bool (decide (((x0).length : Int) < (1 : Int)))) rfl rfl rfl rfl rfl ?_
    refine RL.mv rfl rfl rfl ?_
    refine RL.split (t := 11) rfl (fun b13 => ?_) (fun b13 => ?_)
    · replace h8 := ite_t b13 h8
      refine RL.skip rfl rfl ?_
      refine RL.skip rfl rfl ?_
      refine RL.skip rfl rfl ?_
      refine RL.pickT rfl rfl rfl rfl ?_
      refine RL.fin ?_
      cases h8
      exact fun a w st => mid_intro true h9 (St.cut [0] ⟨rfl, rfl, rfl, trivial⟩ (by decide) rfl st)
    · replace h8 := ite_f b13 h8
      refine RL.mv rfl rfl rfl ?_
      refine RL.lenS 0 Try.underlying22 rfl rfl rfl rfl SlOf.imm ?_
      refine RL.binI (v := .bool (decide (((x0).length : Int) > (6 : Int)))) rfl rfl rfl rfl rfl ?_
      refine RL.pickF rfl rfl rfl rfl ?_
      refine RL.fin ?_
      cases h8
      exact fun a w st => mid_intro (decide (((x0).length : Int) > (6 : Int))) h9 (St.cut [0] ⟨rfl, rfl, rfl, trivial⟩ (by decide) rfl st)
  · rintro x5 h14
    have h15 := h10 _ h14
    try dsimp only at h15
    refine GL.weak (env' := [(0, v0), (1, .int .i64 x1), (15, .bool x5)]) (L' := [imm (TR.sl TR.int) v0 x0]) (fun _ _ st => st) ?_
    refine GL.cond rfl (fun b16 => ?_) (fun b16 => ?_)
    · replace h15 := ite_t b16 h15
      refine GL.seq ?_
      refine GL.region ?_
      refine RL.asg rfl rfl rfl ?_
      refine RL.finG ?_
      have h15 := Option.some.inj h15
      subst h15
      exact GL.ret (Gx.ret (v := .int .i64 (2 : Int)) (res1 rfl rfl) (fun a w st => st.toPostC rfl))
    · replace h15 := ite_f b16 h15
      refine GL.skip ?_
      refine GL.seq ?_
      refine GL.region ?_
      refine RL.asg rfl rfl rfl ?_
      refine RL.finG ?_
      refine GL.seq ?_
      refine GL.seq ?_
      refine GL.region ?_
      refine RL.mv rfl rfl rfl ?_
      refine RL.lenS 0 Try.underlying22 rfl rfl rfl rfl SlOf.imm ?_
      refine RL.mv rfl rfl rfl ?_
      refine RL.finG ?_
      refine GL.open_ 0 rfl (fun S h => len_imm S h) (fun n36 => ?_)
      obtain ⟨y37, K38, h39, h40, h41, h42, h43⟩ := bindR_K h15
      refine GL.join (ι := Int) (fun (p : Int) => [(1, .int .i64 x1), (5, .int .i64 p)]) (fun (p : Int) => []) (fun (p : Int) => K38 (.nx p)) ?_ ?_
      · refine GL.block ?_
        refine GL.loop (ι := Nat × (List Int) × Int) (fun (p : Nat × (List Int) × Int) => [(1, .int .i64 x1), (5, .int .i64 p.2.2), (16, v0), (17, .int .i64 ((x0).length : Int)), (18, .int .i64 (p.1 : Int))]) (fun (p : Nat × (List Int) × Int) => [imm (TR.sl TR.int) v0 x0]) (fun (p : Nat × (List Int) × Int) => p.1 + p.2.1.length = (x0).length ∧ List.drop p.1 x0 = p.2.1 ∧ rangeL power_Check_b1 p.2.1 p.1 p.2.2 = some y37) (fun (p : Nat × (List Int) × Int) => p.2.1.length) (0, x0, (0 : Int)) ⟨by simp, by simp, h39⟩ (fun a w st => St.cut [0] ⟨rfl, rfl, rfl, rfl, rfl, trivial⟩ (by decide) rfl st) ?_
        rintro ⟨i44, r45, x17⟩ ⟨h50, h51, h49⟩
        try dsimp only at h50 h51 h49
        refine GL.weak (env' := [(1, .int .i64 x1), (5, .int .i64 x17), (16, v0), (17, .int .i64 ((x0).length : Int)), (18, .int .i64 (i44 : Int))]) (L' := [imm (TR.sl TR.int) v0 x0]) (fun _ _ st => st) ?_
        refine GL.seq ?_
        refine GL.region ?_
        refine RL.binI (v := .bool (decide ((i44 : Int) < ((x0).length : Int)))) rfl rfl rfl rfl rfl ?_
        refine RL.finG ?_
        refine GL.seq ?_
        refine GL.cond rfl (fun b52 => ?_) (fun b52 => ?_)
        · have h53 : i44 < (x0).length := by have := of_decide_eq_true b52; omega
          obtain ⟨y54, r56, hr, e55, h57⟩ := drop_cons h51 rfl h53
          subst hr
          obtain ⟨z46, h47, h48⟩ := rangeL_some h49
          unfold power_Check_b1 at h47
          try dsimp only at h47
          refine GL.skip ?_
          refine GL.seq ?_
          refine GL.block ?_
          refine GL.seq ?_
          refine GL.region ?_
          refine RL.idxS (sz := 1) 0 Try.underlying22 Try_ln3 rfl rfl rfl rfl rfl SlOf.imm (by omega) (by omega) ?_
          refine RL.ldSx (i := i44) (e' := y54) 0 Ex.ik Try_ln3 rfl rfl rfl rfl SlOf.imm e55 Part.self ?_
          refine RL.asg rfl rfl rfl ?_
          refine RL.finG ?_
          refine GL.seq ?_
          refine GL.seq ?_
          obtain ⟨y61, K62, h63, h64, h65, h66, h67⟩ := bindF_K h47
          refine GL.join (ι := Bool) (fun (p : Bool) => [(1, .int .i64 x1), (5, .int .i64 x17), (7, .int .i64 y54), (16, v0), (17, .int .i64 ((x0).length : Int)), (18, .int .i64 (i44 : Int)), (27, .bool p)]) (fun (p : Bool) => [imm (TR.sl TR.int) v0 x0]) (fun (p : Bool) => K62 (.nx p)) ?_ ?_
          · skip
            refine GL.region ?_
            refine RL.mv rfl rfl rfl ?_
            refine RL.binI (v := .bool (decide (y54 < (0 : Int)))) rfl rfl rfl rfl rfl ?_
            refine RL.mv rfl rfl rfl ?_
            refine RL.split (t := 24) rfl (fun b68 => ?_) (fun b68 => ?_)
            · replace h63 := ite_t b68 h63
              refine RL.skip rfl rfl ?_
              refine RL.skip rfl rfl ?_
              refine RL.pickT rfl rfl rfl rfl ?_
              refine RL.fin ?_
              cases h63
              exact fun a w st => mid_intro true h64 (St.cut [0] ⟨rfl, rfl, rfl, rfl, rfl, rfl, rfl, trivial⟩ (by decide) rfl st)
            · replace h63 := ite_f b68 h63
              refine RL.mv rfl rfl rfl ?_
              refine RL.binI (v := .bool (decide (y54 > (1000 : Int)))) rfl rfl rfl rfl rfl ?_
              refine RL.pickF rfl rfl rfl rfl ?_
              refine RL.fin ?_
              cases h63
              exact fun a w st => mid_intro (decide (y54 > (1000 : Int))) h64 (St.cut [0] ⟨rfl, rfl, rfl, rfl, rfl, rfl, rfl, trivial⟩ (by decide) rfl st)
          · rintro x60 h69
            have h70 := h65 _ h69
            try dsimp only at h70
            refine GL.weak (env' := [(1, .int .i64 x1), (5, .int .i64 x17), (7, .int .i64 y54), (16, v0), (17, .int .i64 ((x0).length : Int)), (18, .int .i64 (i44 : Int)), (27, .bool x60)]) (L' := [imm (TR.sl TR.int) v0 x0]) (fun _ _ st => st) ?_
            refine GL.cond rfl (fun b71 => ?_) (fun b71 => ?_)
            · replace h70 := ite_t b71 h70
              refine GL.seq ?_
              refine GL.region ?_
              refine RL.asg rfl rfl rfl ?_
              refine RL.finG ?_
              cases h70
              replace h48 : some (Fl.rt _) = some y37 := h48
              cases h48
              have hh := h42 _ h40
              subst hh
              exact GL.ret (Gx.ret (v := .int .i64 (1 : Int)) (res1 rfl rfl) (fun a w st => st.toPostC rfl))
            · replace h70 := ite_f b71 h70
              refine GL.skip ?_
              refine GL.region ?_
              refine RL.mv rfl rfl rfl ?_
              refine RL.mv rfl rfl rfl ?_
              refine RL.binI (v := .int .i64 (wadd x17 y54)) rfl rfl rfl rfl rfl ?_
              refine RL.asg rfl rfl rfl ?_
              refine RL.finG ?_
              refine GL.nilB ?_
              refine GL.region ?_
              refine RL.binI (v := .int .i64 ((i44 + 1 : Nat) : Int)) rfl rfl rfl rfl (binI_succ i44 (by omega)) ?_
              refine RL.mv rfl rfl rfl ?_
              refine RL.fin ?_
              cases h70
              exact fun a w st => lop_intro (i44 + 1, r56, wadd x17 y54) ⟨by show i44 + 1 + r56.length = (x0).length; simp only [List.length_cons] at h50; omega, h57, h48⟩ (by simp) (St.cut [0] ⟨rfl, rfl, rfl, rfl, rfl, trivial⟩ (by decide) rfl st)
        · have h53 : ¬ i44 < (x0).length := by have := of_decide_eq_false b52; omega
          obtain rfl : r45 = [] := by rw [← h51]; exact List.drop_of_length_le (by omega)
          replace h49 : some (Fl.nx _) = some y37 := h49
          cases h49
          exact GL.exit (fun a w st => mid_intro x17 h40 (St.cut [] ⟨rfl, rfl, trivial⟩ (by decide) rfl st))
      · rintro x17 h72
        have h73 := h41 _ h72
        try dsimp only at h73
        refine GL.weak (env' := [(1, .int .i64 x1), (5, .int .i64 x17)]) (L' := []) (fun _ _ st => st) ?_
        refine GL.seq ?_
        refine GL.seq ?_
        obtain ⟨y77, K78, h79, h80, h81, h82, h83⟩ := bindR_K h73
        refine GL.join (ι := Bool) (fun (p : Bool) => [(38, .bool p)]) (fun (p : Bool) => []) (fun (p : Bool) => K78 (.nx p)) ?_ ?_
        · skip
          refine GL.region ?_
          refine RL.mv rfl rfl rfl ?_
          refine RL.binI (v := .bool (decide (x1 < (1 : Int)))) rfl rfl rfl rfl rfl ?_
          refine RL.mv rfl rfl rfl ?_
          refine RL.split (t := 34) rfl (fun b84 => ?_) (fun b84 => ?_)
          · replace h79 := ite_t b84 h79
            refine RL.skip rfl rfl ?_
            refine RL.skip rfl rfl ?_
            refine RL.skip rfl rfl ?_
            refine RL.pickT rfl rfl rfl rfl ?_
            refine RL.fin ?_
            cases h79
            exact fun a w st => mid_intro true h80 (St.cut [] ⟨rfl, trivial⟩ (by decide) rfl st)
          · replace h79 := ite_f b84 h79
            refine RL.mv rfl rfl rfl ?_
            refine RL.mv rfl rfl rfl ?_
            refine RL.binI (v := .bool (decide (x1 > x17))) rfl rfl rfl rfl rfl ?_
            refine RL.pickF rfl rfl rfl rfl ?_
            refine RL.fin ?_
            cases h79
            exact fun a w st => mid_intro (decide (x1 > x17)) h80 (St.cut [] ⟨rfl, trivial⟩ (by decide) rfl st)
        · rintro x76 h85
          have h86 := h81 _ h85
          try dsimp only at h86
          refine GL.weak (env' := [(38, .bool x76)]) (L' := []) (fun _ _ st => st) ?_
          refine GL.cond rfl (fun b87 => ?_) (fun b87 => ?_)
          · replace h86 := ite_t b87 h86
            refine GL.seq ?_
            refine GL.region ?_
            refine RL.asg rfl rfl rfl ?_
            refine RL.finG ?_
            have h86 := Option.some.inj h86
            subst h86
            exact GL.ret (Gx.ret (v := .int .i64 (3 : Int)) (res1 rfl rfl) (fun a w st => st.toPostC rfl))
          · replace h86 := ite_f b87 h86
            refine GL.skip ?_
            refine GL.seq ?_
            refine GL.region ?_
            refine RL.asg rfl rfl rfl ?_
            refine RL.finG ?_
            have h86 := Option.some.inj h86
            subst h86
            exact GL.ret (Gx.ret (v := .int .i64 (0 : Int)) (res1 rfl rfl) (fun a w st => st.toPostC rfl))

set_option maxHeartbeats 4000000 in
theorem power_wins_c (S : Hp) (w : World) (hS : S.sub w) (v0 : Value) (x0 : (List Int)) (k0 : ((TR.sl TR.int)).vrep S v0 x0) (x1 : Int) (x2 : Int) (res : Bool) (hm : power_wins_m x0 x1 x2 = some res) : Calls Try.prog 42 #[v0, .int .i64 x1, .int .i64 x2] w (PostC w (.bool res)) := by
  refine calls_enter 29 Try.func42 Try.ntmps42 rfl S true [(0, v0), (1, .int .i64 x1), (2, .int .i64 x2)] [imm (TR.sl TR.int) v0 x0] rfl ⟨rfl, ⟨rfl, ⟨rfl, trivial⟩⟩⟩ hS ⟨k0, trivial⟩ ?_
  unfold power_wins_m at hm
  refine GL.seq ?_
  refine GL.region ?_
  refine RL.asg rfl rfl rfl ?_
  refine RL.finG ?_
  refine GL.seq ?_
  refine GL.region ?_
  refine RL.asg rfl rfl rfl ?_
  refine RL.finG ?_
  refine GL.seq ?_
  refine GL.seq ?_
  refine GL.region ?_
  refine RL.mv rfl rfl rfl ?_
  refine RL.lenS 0 Try.underlying22 rfl rfl rfl rfl SlOf.imm ?_
  refine RL.mv rfl rfl rfl ?_
  refine RL.finG ?_
  refine GL.open_ 0 rfl (fun S h => len_imm S h) (fun n14 => ?_)
  obtain ⟨y15, K16, h17, h18, h19, h20, h21⟩ := bindR_K hm
  refine GL.join (ι := Int) (fun (p : Int) => [(1, .int .i64 x1), (7, .int .i64 p)]) (fun (p : Int) => []) (fun (p : Int) => K16 (.nx p)) ?_ ?_
  · refine GL.block ?_
    refine GL.loop (ι := Nat × (List Int) × Int) (fun (p : Nat × (List Int) × Int) => [(1, .int .i64 x1), (2, .int .i64 x2), (7, .int .i64 p.2.2), (10, v0), (11, .int .i64 ((x0).length : Int)), (12, .int .i64 (p.1 : Int))]) (fun (p : Nat × (List Int) × Int) => [imm (TR.sl TR.int) v0 x0]) (fun (p : Nat × (List Int) × Int) => p.1 + p.2.1.length = (x0).length ∧ List.drop p.1 x0 = p.2.1 ∧ rangeL (power_wins_b1 x2) p.2.1 p.1 p.2.2 = some y15) (fun (p : Nat × (List Int) × Int) => p.2.1.length) (0, x0, (0 : Int)) ⟨by simp, by simp, h17⟩ (fun a w st => St.cut [0] ⟨rfl, rfl, rfl, rfl, rfl, rfl, trivial⟩ (by decide) rfl st) ?_
    rintro ⟨i22, r23, x4⟩ ⟨h28, h29, h27⟩
    try dsimp only at h28 h29 h27
    refine GL.weak (env' := [(1, .int .i64 x1), (2, .int .i64 x2), (7, .int .i64 x4), (10, v0), (11, .int .i64 ((x0).length : Int)), (12, .int .i64 (i22 : Int))]) (L' := [imm (TR.sl TR.int) v0 x0]) (fun _ _ st => st) ?_
    refine GL.seq ?_
    refine GL.region ?_
    refine RL.binI (v := .bool (decide ((i22 : Int) < ((x0).length : Int)))) rfl rfl rfl rfl rfl ?_
    refine RL.finG ?_
    refine GL.seq ?_
    refine GL.cond rfl (fun b30 => ?_) (fun b30 => ?_)
    · have h31 : i22 < (x0).length := by have := of_decide_eq_true b30; omega
      obtain ⟨y32, r34, hr, e33, h35⟩ := drop_cons h29 rfl h31
      subst hr
      obtain ⟨z24, h25, h26⟩ := rangeL_some h27
      unfold power_wins_b1 at h25
      try dsimp only at h25
      refine GL.skip ?_
      refine GL.seq ?_
      refine GL.block ?_
      refine GL.seq ?_
      refine GL.region ?_
      refine RL.mv rfl rfl rfl ?_
      refine RL.idxS (sz := 1) 0 Try.underlying22 Try_ln3 rfl rfl rfl rfl rfl SlOf.imm (by omega) (by omega) ?_
      refine RL.ldSx (i := i22) (e' := y32) 0 Ex.ik Try_ln3 rfl rfl rfl rfl SlOf.imm e33 Part.self ?_
      refine RL.asg rfl rfl rfl ?_
      refine RL.asg rfl rfl rfl ?_
      refine RL.finG ?_
      refine GL.seq ?_
      refine GL.region ?_
      refine RL.mv rfl rfl rfl ?_
      refine RL.mv rfl rfl rfl ?_
      obtain ⟨y38, e39, h25⟩ := bind_some h25
      replace e39 := chk_some e39
      refine RL.sh (by simp) rfl rfl rfl rfl e39 ?_
      refine RL.binI (v := .int .i64 (bits .and .i64 (Int.fdiv x2 (2 ^ (min (i22 : Int).toNat (IntKind.bits .i64)))) (1 : Int))) rfl rfl rfl rfl rfl ?_
      refine RL.binI (v := .bool ((bits .and .i64 (Int.fdiv x2 (2 ^ (min (i22 : Int).toNat (IntKind.bits .i64)))) (1 : Int)) == (1 : Int))) rfl rfl rfl rfl rfl ?_
      refine RL.finG ?_
      refine GL.cond rfl (fun b40 => ?_) (fun b40 => ?_)
      · replace h25 := ite_t b40 h25
        refine GL.region ?_
        refine RL.mv rfl rfl rfl ?_
        refine RL.mv rfl rfl rfl ?_
        refine RL.binI (v := .int .i64 (wadd x4 y32)) rfl rfl rfl rfl rfl ?_
        refine RL.asg rfl rfl rfl ?_
        refine RL.finG ?_
        refine GL.nilB ?_
        refine GL.region ?_
        refine RL.binI (v := .int .i64 ((i22 + 1 : Nat) : Int)) rfl rfl rfl rfl (binI_succ i22 (by omega)) ?_
        refine RL.mv rfl rfl rfl ?_
        refine RL.fin ?_
        cases h25
        exact fun a w st => lop_intro (i22 + 1, r34, wadd x4 y32) ⟨by show i22 + 1 + r34.length = (x0).length; simp only [List.length_cons] at h28; omega, h35, h26⟩ (by simp) (St.cut [0] ⟨rfl, rfl, rfl, rfl, rfl, rfl, trivial⟩ (by decide) rfl st)
      · replace h25 := ite_f b40 h25
        refine GL.skip ?_
        refine GL.nilB ?_
        refine GL.region ?_
        refine RL.binI (v := .int .i64 ((i22 + 1 : Nat) : Int)) rfl rfl rfl rfl (binI_succ i22 (by omega)) ?_
        refine RL.mv rfl rfl rfl ?_
        refine RL.fin ?_
        cases h25
        exact fun a w st => lop_intro (i22 + 1, r34, x4) ⟨by show i22 + 1 + r34.length = (x0).length; simp only [List.length_cons] at h28; omega, h35, h26⟩ (by simp) (St.cut [0] ⟨rfl, rfl, rfl, rfl, rfl, rfl, trivial⟩ (by decide) rfl st)
    · have h31 : ¬ i22 < (x0).length := by have := of_decide_eq_false b30; omega
      obtain rfl : r23 = [] := by rw [← h29]; exact List.drop_of_length_le (by omega)
      replace h27 : some (Fl.nx _) = some y15 := h27
      cases h27
      exact GL.exit (fun a w st => mid_intro x4 h18 (St.cut [] ⟨rfl, rfl, trivial⟩ (by decide) rfl st))
  · rintro x4 h41
    have h42 := h19 _ h41
    try dsimp only at h42
    refine GL.weak (env' := [(1, .int .i64 x1), (7, .int .i64 x4)]) (L' := []) (fun _ _ st => st) ?_
    refine GL.seq ?_
    refine GL.region ?_
    refine RL.mv rfl rfl rfl ?_
    refine RL.mv rfl rfl rfl ?_
    refine RL.binI (v := .bool (decide (x4 ≥ x1))) rfl rfl rfl rfl rfl ?_
    refine RL.asg rfl rfl rfl ?_
    refine RL.finG ?_
    have h42 := Option.some.inj h42
    subst h42
    exact GL.ret (Gx.ret (v := .bool (decide (x4 ≥ x1))) (res1 rfl rfl) (fun a w st => st.toPostC rfl))

set_option maxHeartbeats 4000000 in
theorem power_Swings_c (S : Hp) (w : World) (hS : S.sub w) (v0 : Value) (x0 : (List Int)) (k0 : ((TR.sl TR.int)).vrep S v0 x0) (x1 : Int) (res : (List Int) × Int) (hm : power_Swings_m x0 x1 = some res) : Calls Try.prog 25 #[v0, .int .i64 x1] w (Post w S (fun (o : Value) => .tuple #[o, .int .i64 res.2]) (fun (o : Value) => [own 3 TR.int o res.1])) := by
  refine calls_enter 60 Try.func25 Try.ntmps25 rfl S false [(0, v0), (1, .int .i64 x1)] [imm (TR.sl TR.int) v0 x0] rfl ⟨rfl, ⟨rfl, trivial⟩⟩ hS ⟨k0, trivial⟩ ?_
  unfold power_Swings_m at hm
  refine GL.seq ?_
  refine GL.region ?_
  refine RL.asg rfl rfl rfl ?_
  refine RL.asg rfl rfl rfl ?_
  refine RL.finG ?_
  refine GL.seq ?_
  refine GL.seq ?_
  refine GL.region ?_
  refine RL.mv rfl rfl rfl ?_
  refine RL.mv rfl rfl rfl ?_
  obtain ⟨y5, e6, hm⟩ := bind_some hm
  refine RL.callC (v := .int .i64 y5) (vs := [v0, .int .i64 x1]) Try_fit41 rfl rfl rfl rfl (fun U w hU hW hL => power_Check_c U w hU _ _ (hL 0 _ _ rfl Seen.imm) x1 _ e6) ?_
  refine RL.asg rfl rfl rfl ?_
  refine RL.finG ?_
  refine GL.seq ?_
  refine GL.region ?_
  refine RL.mv rfl rfl rfl ?_
  refine RL.binI (v := .bool (y5 != (0 : Int))) rfl rfl rfl rfl rfl ?_
  refine RL.finG ?_
  refine GL.cond rfl (fun b7 => ?_) (fun b7 => ?_)
  · replace hm := ite_t b7 hm
    refine GL.seq ?_
    refine GL.region ?_
    refine RL.mv rfl rfl rfl ?_
    refine RL.asg rfl rfl rfl ?_
    refine RL.asg rfl rfl rfl ?_
    refine RL.finG ?_
    refine GL.weak (fun a w st => st.nilOwn 3 TR.int) ?_
    have hm := Option.some.inj hm
    subst hm
    exact GL.ret (Gx.ret (v := .tuple #[Value.slice none 0 0, .int .i64 y5]) (res2 rfl rfl rfl) (fun a w st => (st.pick [1] (by decide) rfl).toPost (Value.slice none 0 0)))
  · replace hm := ite_f b7 hm
    refine GL.skip ?_
    refine GL.seq ?_
    refine GL.region ?_
    refine RL.mv rfl rfl rfl ?_
    refine RL.lenS 0 Try.underlying22 rfl rfl rfl rfl SlOf.imm ?_
    obtain ⟨y11, e12, hm⟩ := bind_some hm
    replace e12 := chk_some e12
    refine RL.mkS (t := TR.int) (z := (0 : Int)) Try.underlying22 Try_lo3 (fun S => rfl) rfl rfl rfl rfl e12.1 e12.2 ?_
    intro v13
    refine RL.asg rfl rfl rfl ?_
    refine RL.finG ?_
    refine GL.seq ?_
    refine GL.seq ?_
    refine GL.region ?_
    refine RL.mv rfl rfl rfl ?_
    refine RL.lenS 0 Try.underlying22 rfl rfl rfl rfl SlOf.imm ?_
    obtain ⟨y16, e17, hm⟩ := bind_some hm
    replace e17 := chk_some e17
    refine RL.sh (by simp) rfl rfl rfl rfl e17 ?_
    refine RL.mv rfl rfl rfl ?_
    refine RL.finG ?_
    obtain ⟨y364, e365, hm⟩ := bind_some hm
    replace e365 := chk_some e365
    obtain ⟨y366, K367, h368, h369, h370, h371, h372⟩ := bindR_K hm
    refine GL.join (ι := (List Int)) (fun (p : (List Int)) => [(7, v13)]) (fun (p : (List Int)) => [own 3 TR.int v13 p]) (fun (p : (List Int)) => K367 (.nx p)) ?_ ?_
    · refine GL.block ?_
      refine GL.loop (ι := Nat × Nat × (List Int)) (fun (p : Nat × Nat × (List Int)) => [(0, v0), (1, .int .i64 x1), (7, v13), (21, .int .i64 (IntKind.wrap .i64 ((1 : Int) * 2 ^ (min ((x0).length : Int).toNat (IntKind.bits .i64))))), (22, .int .i64 (p.1 : Int))]) (fun (p : Nat × Nat × (List Int)) => [imm (TR.sl TR.int) v0 x0, own 3 TR.int v13 p.2.2]) (fun (p : Nat × Nat × (List Int)) => p.1 + p.2.1 = (IntKind.wrap .i64 ((1 : Int) * 2 ^ (min ((x0).length : Int).toNat (IntKind.bits .i64)))).toNat ∧ rangeN (power_Swings_b1 x0 x1) p.2.1 p.1 p.2.2 = some y366) (fun (p : Nat × Nat × (List Int)) => p.2.1) (0, (IntKind.wrap .i64 ((1 : Int) * 2 ^ (min ((x0).length : Int).toNat (IntKind.bits .i64)))).toNat, (List.replicate (((x0).length : Int)).toNat (0 : Int))) ⟨by simp, h368⟩ (fun a w st => St.cut [0, 1] ⟨rfl, rfl, rfl, rfl, rfl, trivial⟩ (by decide) rfl st) ?_
      rintro ⟨i373, r374, l190⟩ ⟨h379, h378⟩
      try dsimp only at h379 h378
      refine GL.weak (env' := [(0, v0), (1, .int .i64 x1), (7, v13), (21, .int .i64 (IntKind.wrap .i64 ((1 : Int) * 2 ^ (min ((x0).length : Int).toNat (IntKind.bits .i64))))), (22, .int .i64 (i373 : Int))]) (L' := [imm (TR.sl TR.int) v0 x0, own 3 TR.int v13 l190]) (fun _ _ st => st) ?_
      refine GL.seq ?_
      refine GL.region ?_
      refine RL.binI (v := .bool (decide ((i373 : Int) < IntKind.wrap .i64 ((1 : Int) * 2 ^ (min ((x0).length : Int).toNat (IntKind.bits .i64)))))) rfl rfl rfl rfl rfl ?_
      refine RL.finG ?_
      refine GL.seq ?_
      refine GL.cond rfl (fun b381 => ?_) (fun b381 => ?_)
      · have h382 : i373 < (IntKind.wrap .i64 ((1 : Int) * 2 ^ (min ((x0).length : Int).toNat (IntKind.bits .i64)))).toNat := by have := of_decide_eq_true b381; omega
        obtain ⟨r383, hr⟩ : ∃ m, r374 = m + 1 := ⟨r374 - 1, by omega⟩
        subst hr
        obtain ⟨z375, h376, h377⟩ := rangeN_some h378
        unfold power_Swings_b1 at h376
        try dsimp only at h376
        refine GL.skip ?_
        refine GL.seq ?_
        refine GL.block ?_
        refine GL.seq ?_
        refine GL.region ?_
        refine RL.mv rfl rfl rfl ?_
        refine RL.asg rfl rfl rfl ?_
        refine RL.finG ?_
        refine GL.seq ?_
        refine GL.region ?_
        refine RL.mv rfl rfl rfl ?_
        refine RL.lenS 0 Try.underlying22 rfl rfl rfl rfl SlOf.imm ?_
        refine RL.mv rfl rfl rfl ?_
        refine RL.finG ?_
        refine GL.open_ 0 rfl (fun S h => len_imm S h) (fun n483 => ?_)
        obtain ⟨y484, K485, h486, h487, h488, h489, h490⟩ := bindF_K h376
        refine GL.join (ι := (List Int)) (fun (p : (List Int)) => [(0, v0), (1, .int .i64 x1), (7, v13), (21, .int .i64 (IntKind.wrap .i64 ((1 : Int) * 2 ^ (min ((x0).length : Int).toNat (IntKind.bits .i64))))), (22, .int .i64 (i373 : Int))]) (fun (p : (List Int)) => [imm (TR.sl TR.int) v0 x0, own 3 TR.int v13 p]) (fun (p : (List Int)) => K485 (.nx p)) ?_ ?_
        · refine GL.block ?_
          refine GL.loop (ι := Nat × (List Int) × (List Int)) (fun (p : Nat × (List Int) × (List Int)) => [(0, v0), (1, .int .i64 x1), (7, v13), (8, .int .i64 (i373 : Int)), (21, .int .i64 (IntKind.wrap .i64 ((1 : Int) * 2 ^ (min ((x0).length : Int).toNat (IntKind.bits .i64))))), (22, .int .i64 (i373 : Int)), (26, .int .i64 ((x0).length : Int)), (27, .int .i64 (p.1 : Int))]) (fun (p : Nat × (List Int) × (List Int)) => [imm (TR.sl TR.int) v0 x0, own 3 TR.int v13 p.2.2]) (fun (p : Nat × (List Int) × (List Int)) => p.1 + p.2.1.length = (x0).length ∧ List.drop p.1 x0 = p.2.1 ∧ rangeL (power_Swings_b2 i373 x0 x1) p.2.1 p.1 p.2.2 = some y484) (fun (p : Nat × (List Int) × (List Int)) => p.2.1.length) (0, x0, l190) ⟨by simp, by simp, h486⟩ (fun a w st => St.cut [0, 1] ⟨rfl, rfl, rfl, rfl, rfl, rfl, rfl, rfl, trivial⟩ (by decide) rfl st) ?_
          rintro ⟨i491, r492, l433⟩ ⟨h497, h498, h496⟩
          try dsimp only at h497 h498 h496
          refine GL.weak (env' := [(0, v0), (1, .int .i64 x1), (7, v13), (8, .int .i64 (i373 : Int)), (21, .int .i64 (IntKind.wrap .i64 ((1 : Int) * 2 ^ (min ((x0).length : Int).toNat (IntKind.bits .i64))))), (22, .int .i64 (i373 : Int)), (26, .int .i64 ((x0).length : Int)), (27, .int .i64 (i491 : Int))]) (L' := [imm (TR.sl TR.int) v0 x0, own 3 TR.int v13 l433]) (fun _ _ st => st) ?_
          refine GL.seq ?_
          refine GL.region ?_
          refine RL.binI (v := .bool (decide ((i491 : Int) < ((x0).length : Int)))) rfl rfl rfl rfl rfl ?_
          refine RL.finG ?_
          refine GL.seq ?_
          refine GL.cond rfl (fun b499 => ?_) (fun b499 => ?_)
          · have h500 : i491 < (x0).length := by have := of_decide_eq_true b499; omega
            obtain ⟨y501, r503, hr, e502, h504⟩ := drop_cons h498 rfl h500
            subst hr
            obtain ⟨z493, h494, h495⟩ := rangeL_some h496
            unfold power_Swings_b2 at h494
            try dsimp only at h494
            refine GL.skip ?_
            refine GL.seq ?_
            refine GL.block ?_
            refine GL.seq ?_
            refine GL.region ?_
            refine RL.mv rfl rfl rfl ?_
            refine RL.asg rfl rfl rfl ?_
            refine RL.finG ?_
            refine GL.seq ?_
            obtain ⟨y526, K527, h528, h529, h530, h531, h532⟩ := bindF_K h494
            refine GL.join (ι := Bool) (fun (p : Bool) => [(0, v0), (1, .int .i64 x1), (7, v13), (8, .int .i64 (i373 : Int)), (9, .int .i64 (i491 : Int)), (21, .int .i64 (IntKind.wrap .i64 ((1 : Int) * 2 ^ (min ((x0).length : Int).toNat (IntKind.bits .i64))))), (22, .int .i64 (i373 : Int)), (26, .int .i64 ((x0).length : Int)), (27, .int .i64 (i491 : Int)), (50, .bool p)]) (fun (p : Bool) => [imm (TR.sl TR.int) v0 x0, own 3 TR.int v13 l433]) (fun (p : Bool) => K527 (.nx p)) ?_ ?_
            · skip
              refine GL.region ?_
              refine RL.mv rfl rfl rfl ?_
              refine RL.mv rfl rfl rfl ?_
              obtain ⟨y533, e534, h528⟩ := bind_some h528
              replace e534 := chk_some e534
              refine RL.sh (by simp) rfl rfl rfl rfl e534 ?_
              refine RL.binI (v := .int .i64 (bits .and .i64 (Int.fdiv (i373 : Int) (2 ^ (min (i491 : Int).toNat (IntKind.bits .i64)))) (1 : Int))) rfl rfl rfl rfl rfl ?_
              refine RL.binI (v := .bool ((bits .and .i64 (Int.fdiv (i373 : Int) (2 ^ (min (i491 : Int).toNat (IntKind.bits .i64)))) (1 : Int)) == (1 : Int))) rfl rfl rfl rfl rfl ?_
              refine RL.mv rfl rfl rfl ?_
              refine RL.split (t := 35) rfl (fun b535 => ?_) (fun b535 => ?_)
              · replace h528 := ite_t b535 h528
                refine RL.mv rfl rfl rfl ?_
                refine RL.mv rfl rfl rfl ?_
                refine RL.mv rfl rfl rfl ?_
                obtain ⟨y536, e537, h528⟩ := bind_some h528
                refine RL.callC (v := .bool y536) (vs := [v0, .int .i64 x1, .int .i64 (i373 : Int)]) Try_fit42 rfl rfl rfl rfl (fun U w hU hW hL => power_wins_c U w hU _ _ (hL 0 _ _ rfl Seen.imm) x1 (i373 : Int) _ e537) ?_
                refine RL.pickT rfl rfl rfl rfl ?_
                refine RL.mv rfl rfl rfl ?_
                refine RL.split (t := 41) rfl (fun b538 => ?_) (fun b538 => ?_)
                · replace h528 := ite_t b538 h528
                  refine RL.mv rfl rfl rfl ?_
                  refine RL.mv rfl rfl rfl ?_
                  refine RL.mv rfl rfl rfl ?_
                  refine RL.mv rfl rfl rfl ?_
                  obtain ⟨y539, e540, h528⟩ := bind_some h528
                  replace e540 := chk_some e540
                  refine RL.sh (by simp) rfl rfl rfl rfl e540 ?_
                  refine RL.binI (v := .int .i64 (bits .andNot .i64 (i373 : Int) (IntKind.wrap .i64 ((1 : Int) * 2 ^ (min (i491 : Int).toNat (IntKind.bits .i64)))))) rfl rfl rfl rfl rfl ?_
                  obtain ⟨y541, e542, h528⟩ := bind_some h528
                  refine RL.callC (v := .bool y541) (vs := [v0, .int .i64 x1, .int .i64 (bits .andNot .i64 (i373 : Int) (IntKind.wrap .i64 ((1 : Int) * 2 ^ (min (i491 : Int).toNat (IntKind.bits .i64)))))]) Try_fit42 rfl rfl rfl rfl (fun U w hU hW hL => power_wins_c U w hU _ _ (hL 0 _ _ rfl Seen.imm) x1 (bits .andNot .i64 (i373 : Int) (IntKind.wrap .i64 ((1 : Int) * 2 ^ (min (i491 : Int).toNat (IntKind.bits .i64))))) _ e542) ?_
                  refine RL.notB rfl rfl rfl ?_
                  refine RL.pickT rfl rfl rfl rfl ?_
                  refine RL.fin ?_
                  cases h528
                  exact fun a w st => mid_intro (!y541) h529 (St.cut [0, 1] ⟨rfl, rfl, rfl, rfl, rfl, rfl, rfl, rfl, rfl, rfl, trivial⟩ (by decide) rfl st)
                · replace h528 := ite_f b538 h528
                  refine RL.skip rfl rfl ?_
                  refine RL.skip rfl rfl ?_
                  refine RL.skip rfl rfl ?_
                  refine RL.skip rfl rfl ?_
                  refine RL.skip rfl rfl ?_
                  refine RL.skip rfl rfl ?_
                  refine RL.skip rfl rfl ?_
                  refine RL.skip rfl rfl ?_
                  refine RL.pickF rfl rfl rfl rfl ?_
                  refine RL.fin ?_
                  cases h528
                  exact fun a w st => mid_intro false h529 (St.cut [0, 1] ⟨rfl, rfl, rfl, rfl, rfl, rfl, rfl, rfl, rfl, rfl, trivial⟩ (by decide) rfl st)
              · replace h528 := ite_f b535 h528
                refine RL.skip rfl rfl ?_
                refine RL.skip rfl rfl ?_
                refine RL.skip rfl rfl ?_
                refine RL.skip rfl rfl ?_
                refine RL.pickF rfl rfl rfl rfl ?_
                refine RL.mv rfl rfl rfl ?_
                refine RL.skip rfl rfl ?_
                refine RL.skip rfl rfl ?_
                refine RL.skip rfl rfl ?_
                refine RL.skip rfl rfl ?_
                refine RL.skip rfl rfl ?_
                refine RL.skip rfl rfl ?_
                refine RL.skip rfl rfl ?_
                refine RL.skip rfl rfl ?_
                refine RL.pickF rfl rfl rfl rfl ?_
                refine RL.fin ?_
                cases h528
                exact fun a w st => mid_intro false h529 (St.cut [0, 1] ⟨rfl, rfl, rfl, rfl, rfl, rfl, rfl, rfl, rfl, rfl, trivial⟩ (by decide) rfl st)
            · rintro x525 h543
              have h544 := h530 _ h543
              try dsimp only at h544
              refine GL.weak (env' := [(0, v0), (1, .int .i64 x1), (7, v13), (8, .int .i64 (i373 : Int)), (9, .int .i64 (i491 : Int)), (21, .int .i64 (IntKind.wrap .i64 ((1 : Int) * 2 ^ (min ((x0).length : Int).toNat (IntKind.bits .i64))))), (22, .int .i64 (i373 : Int)), (26, .int .i64 ((x0).length : Int)), (27, .int .i64 (i491 : Int)), (50, .bool x525)]) (L' := [imm (TR.sl TR.int) v0 x0, own 3 TR.int v13 l433]) (fun _ _ st => st) ?_
              refine GL.cond rfl (fun b545 => ?_) (fun b545 => ?_)
              · replace h544 := ite_t b545 h544
                refine GL.region ?_
                refine RL.mv rfl rfl rfl ?_
                refine RL.mv rfl rfl rfl ?_
                obtain ⟨y550, e551, h544⟩ := bind_some h544
                refine RL.idxS (sz := 1) 1 Try.underlying22 Try_ln3 rfl rfl rfl rfl rfl SlOf.own (idx_some e551).1 (idx_some e551).2.1 ?_
                refine RL.ldSx (i := i491) (e' := y550) 1 Ex.ik Try_ln3 rfl rfl rfl rfl SlOf.own (idx_some e551).2.2 Part.self ?_
                refine RL.binI (v := .int .i64 (wadd y550 (1 : Int))) rfl rfl rfl rfl rfl ?_
                obtain ⟨y552, e553, h544⟩ := bind_some h544
                refine RL.idxS (sz := 1) 1 Try.underlying22 Try_ln3 rfl rfl rfl rfl rfl SlOf.own (idx_some e553).1 (idx_some e553).2.1 ?_
                refine RL.stS (i := i491) (e' := wadd y550 (1 : Int)) (e1 := wadd y550 (1 : Int)) (r := TR.int) 1 Try_ln3 rfl rfl rfl rfl VR.int rfl (idx_some e553).2.2 Upd.self ?_
                refine RL.finG ?_
                refine GL.nilB ?_
                refine GL.region ?_
                refine RL.binI (v := .int .i64 ((i491 + 1 : Nat) : Int)) rfl rfl rfl rfl (binI_succ i491 (by omega)) ?_
                refine RL.mv rfl rfl rfl ?_
                refine RL.fin ?_
                cases h544
                exact fun a w st => lop_intro (i491 + 1, r503, (List.set l433 i491 (wadd y550 (1 : Int)))) ⟨by show i491 + 1 + r503.length = (x0).length; simp only [List.length_cons] at h497; omega, h504, h495⟩ (by simp) (St.cut [0, 1] ⟨rfl, rfl, rfl, rfl, rfl, rfl, rfl, rfl, trivial⟩ (by decide) rfl st)
              · replace h544 := ite_f b545 h544
                refine GL.skip ?_
                refine GL.nilB ?_
                refine GL.region ?_
                refine RL.binI (v := .int .i64 ((i491 + 1 : Nat) : Int)) rfl rfl rfl rfl (binI_succ i491 (by omega)) ?_
                refine RL.mv rfl rfl rfl ?_
                refine RL.fin ?_
                cases h544
                exact fun a w st => lop_intro (i491 + 1, r503, l433) ⟨by show i491 + 1 + r503.length = (x0).length; simp only [List.length_cons] at h497; omega, h504, h495⟩ (by simp) (St.cut [0, 1] ⟨rfl, rfl, rfl, rfl, rfl, rfl, rfl, rfl, trivial⟩ (by decide) rfl st)
          · have h500 : ¬ i491 < (x0).length := by have := of_decide_eq_false b499; omega
            obtain rfl : r492 = [] := by rw [← h498]; exact List.drop_of_length_le (by omega)
            replace h496 : some (Fl.nx _) = some y484 := h496
            cases h496
            exact GL.exit (fun a w st => mid_intro l433 h487 (St.cut [0, 1] ⟨rfl, rfl, rfl, rfl, rfl, trivial⟩ (by decide) rfl st))
        · rintro l433 h554
          have h555 := h488 _ h554
          try dsimp only at h555
          refine GL.weak (env' := [(0, v0), (1, .int .i64 x1), (7, v13), (21, .int .i64 (IntKind.wrap .i64 ((1 : Int) * 2 ^ (min ((x0).length : Int).toNat (IntKind.bits .i64))))), (22, .int .i64 (i373 : Int))]) (L' := [imm (TR.sl TR.int) v0 x0, own 3 TR.int v13 l433]) (fun _ _ st => st) ?_
          refine GL.nilB ?_
          refine GL.region ?_
          refine RL.binI (v := .int .i64 ((i373 + 1 : Nat) : Int)) rfl rfl rfl rfl (binI_succ i373 (by omega)) ?_
          refine RL.mv rfl rfl rfl ?_
          refine RL.fin ?_
          cases h555
          exact fun a w st => lop_intro (i373 + 1, r383, l433) ⟨by show i373 + 1 + r383 = (IntKind.wrap .i64 ((1 : Int) * 2 ^ (min ((x0).length : Int).toNat (IntKind.bits .i64)))).toNat; omega, h377⟩ (by simp) (St.cut [0, 1] ⟨rfl, rfl, rfl, rfl, rfl, trivial⟩ (by decide) rfl st)
      · have h382 : ¬ i373 < (IntKind.wrap .i64 ((1 : Int) * 2 ^ (min ((x0).length : Int).toNat (IntKind.bits .i64)))).toNat := by have := of_decide_eq_false b381; omega
        obtain rfl : r374 = 0 := by omega
        replace h378 : some (Fl.nx _) = some y366 := h378
        cases h378
        exact GL.exit (fun a w st => mid_intro l190 h369 (St.cut [1] ⟨rfl, trivial⟩ (by decide) rfl st))
    · rintro l190 h556
      have h557 := h370 _ h556
      try dsimp only at h557
      refine GL.weak (env' := [(7, v13)]) (L' := [own 3 TR.int v13 l190]) (fun _ _ st => st) ?_
      refine GL.seq ?_
      refine GL.region ?_
      refine RL.mv rfl rfl rfl ?_
      refine RL.asg rfl rfl rfl ?_
      refine RL.asg rfl rfl rfl ?_
      refine RL.finG ?_
      have h557 := Option.some.inj h557
      subst h557
      exact GL.ret (Gx.ret (v := .tuple #[v13, .int .i64 (0 : Int)]) (res2 rfl rfl rfl) (fun a w st => (st.pick [0] (by decide) rfl).toPost v13))

set_option maxHeartbeats 4000000 in
theorem power_factorial_c (S : Hp) (w : World) (hS : S.sub w) (x0 : Int) (res : Int) (hm : power_factorial_m x0 = some res) : Calls Try.prog 43 #[.int .i64 x0] w (PostC w (.int .i64 res)) := by
  refine calls_enter 14 Try.func43 Try.ntmps43 rfl S true [(0, .int .i64 x0)] [] rfl ⟨rfl, trivial⟩ hS trivial ?_
  unfold power_factorial_m at hm
  refine GL.seq ?_
  refine GL.region ?_
  refine RL.asg rfl rfl rfl ?_
  refine RL.finG ?_
  refine GL.seq ?_
  refine GL.region ?_
  refine RL.asg rfl rfl rfl ?_
  refine RL.finG ?_
  refine GL.seq ?_
  refine GL.seq ?_
  refine GL.region ?_
  refine RL.asg rfl rfl rfl ?_
  refine RL.finG ?_
  obtain ⟨y5, K6, h7, h8, h9, h10, h11⟩ := bindR_K hm
  refine GL.join (ι := Int × Int) (fun (p : Int × Int) => [(3, .int .i64 p.1)]) (fun (p : Int × Int) => []) (fun (p : Int × Int) => K6 (.nx (p.1, p.2))) ?_ ?_
  · refine GL.block ?_
    refine GL.loop (ι := Nat × Int × Int) (fun (p : Nat × Int × Int) => [(0, .int .i64 x0), (3, .int .i64 p.2.1), (4, .int .i64 p.2.2)]) (fun (p : Nat × Int × Int) => []) (fun (p : Nat × Int × Int) => loopM (power_factorial_b1 x0) p.1 (p.2.1, p.2.2) = some y5) (fun (p : Nat × Int × Int) => p.1) (1048576, (1 : Int), (2 : Int)) h7 (fun a w st => St.cut [] ⟨rfl, rfl, rfl, trivial⟩ (by decide) rfl st) ?_
    rintro ⟨r13, x2, x3⟩ h17
    try dsimp only at h17
    refine GL.weak (env' := [(0, .int .i64 x0), (3, .int .i64 x2), (4, .int .i64 x3)]) (L' := []) (fun _ _ st => st) ?_
    obtain ⟨r20, z14, hr, h15, h16⟩ := loopM_some h17
    subst hr
    unfold power_factorial_b1 at h15
    try dsimp only at h15
    refine GL.seq ?_
    refine GL.seq ?_
    refine GL.region ?_
    refine RL.mv rfl rfl rfl ?_
    refine RL.mv rfl rfl rfl ?_
    refine RL.binI (v := .bool (decide (x3 ≤ x0))) rfl rfl rfl rfl rfl ?_
    refine RL.finG ?_
    refine GL.cond rfl (fun b21 => ?_) (fun b21 => ?_)
    · replace h15 := ite_t b21 h15
      refine GL.skip ?_
      refine GL.seq ?_
      refine GL.block ?_
      refine GL.region ?_
      refine RL.mv rfl rfl rfl ?_
      refine RL.mv rfl rfl rfl ?_
      refine RL.binI (v := .int .i64 (wmul x2 x3)) rfl rfl rfl rfl rfl ?_
      refine RL.asg rfl rfl rfl ?_
      refine RL.finG ?_
      refine GL.nilB ?_
      refine GL.region ?_
      refine RL.mv rfl rfl rfl ?_
      refine RL.binI (v := .int .i64 (wadd x3 (1 : Int))) rfl rfl rfl rfl rfl ?_
      refine RL.asg rfl rfl rfl ?_
      refine RL.finG ?_
      cases h15
      exact fun a w st => lop_intro (r20, wmul x2 x3, wadd x3 (1 : Int)) (by exact h16) (by simp) (St.cut [] ⟨rfl, rfl, rfl, trivial⟩ (by decide) rfl st)
    · replace h15 := ite_f b21 h15
      cases h15
      replace h16 : some (Fl.nx _) = some y5 := h16
      cases h16
      exact GL.exit (fun a w st => mid_intro (x2, x3) h8 (St.cut [] ⟨rfl, trivial⟩ (by decide) rfl st))
  · rintro ⟨x2, x3⟩ h22
    have h23 := h9 _ h22
    try dsimp only at h23
    refine GL.weak (env' := [(3, .int .i64 x2)]) (L' := []) (fun _ _ st => st) ?_
    refine GL.seq ?_
    refine GL.region ?_
    refine RL.mv rfl rfl rfl ?_
    refine RL.asg rfl rfl rfl ?_
    refine RL.finG ?_
    have h23 := Option.some.inj h23
    subst h23
    exact GL.ret (Gx.ret (v := .int .i64 x2) (res1 rfl rfl) (fun a w st => st.toPostC rfl))

set_option maxHeartbeats 4000000 in
theorem power_Turns_c (S : Hp) (w : World) (hS : S.sub w) (v0 : Value) (x0 : (List Int)) (k0 : ((TR.sl TR.int)).vrep S v0 x0) (x1 : Int) (res : (List Int) × Int) (hm : power_Turns_m x0 x1 = some res) : Calls Try.prog 24 #[v0, .int .i64 x1] w (Post w S (fun (o : Value) => .tuple #[o, .int .i64 res.2]) (fun (o : Value) => [own 3 TR.int o res.1])) := by
  refine calls_enter 83 Try.func24 Try.ntmps24 rfl S false [(0, v0), (1, .int .i64 x1)] [imm (TR.sl TR.int) v0 x0] rfl ⟨rfl, ⟨rfl, trivial⟩⟩ hS ⟨k0, trivial⟩ ?_
  unfold power_Turns_m at hm
  refine GL.seq ?_
  refine GL.region ?_
  refine RL.asg rfl rfl rfl ?_
  refine RL.asg rfl rfl rfl ?_
  refine RL.finG ?_
  refine GL.seq ?_
  refine GL.seq ?_
  refine GL.region ?_
  refine RL.mv rfl rfl rfl ?_
  refine RL.mv rfl rfl rfl ?_
  obtain ⟨y5, e6, hm⟩ := bind_some hm
  refine RL.callC (v := .int .i64 y5) (vs := [v0, .int .i64 x1]) Try_fit41 rfl rfl rfl rfl (fun U w hU hW hL => power_Check_c U w hU _ _ (hL 0 _ _ rfl Seen.imm) x1 _ e6) ?_
  refine RL.asg rfl rfl rfl ?_
  refine RL.finG ?_
  refine GL.seq ?_
  refine GL.region ?_
  refine RL.mv rfl rfl rfl ?_
  refine RL.binI (v := .bool (y5 != (0 : Int))) rfl rfl rfl rfl rfl ?_
  refine RL.finG ?_
  refine GL.cond rfl (fun b7 => ?_) (fun b7 => ?_)
  · replace hm := ite_t b7 hm
    refine GL.seq ?_
    refine GL.region ?_
    refine RL.mv rfl rfl rfl ?_
    refine RL.asg rfl rfl rfl ?_
    refine RL.asg rfl rfl rfl ?_
    refine RL.finG ?_
    refine GL.weak (fun a w st => st.nilOwn 3 TR.int) ?_
    have hm := Option.some.inj hm
    subst hm
    exact GL.ret (Gx.ret (v := .tuple #[Value.slice none 0 0, .int .i64 y5]) (res2 rfl rfl rfl) (fun a w st => (st.pick [1] (by decide) rfl).toPost (Value.slice none 0 0)))
  · replace hm := ite_f b7 hm
    refine GL.skip ?_
    refine GL.seq ?_
    refine GL.region ?_
    refine RL.mv rfl rfl rfl ?_
    refine RL.lenS 0 Try.underlying22 rfl rfl rfl rfl SlOf.imm ?_
    obtain ⟨y11, e12, hm⟩ := bind_some hm
    replace e12 := chk_some e12
    refine RL.mkS (t := TR.int) (z := (0 : Int)) Try.underlying22 Try_lo3 (fun S => rfl) rfl rfl rfl rfl e12.1 e12.2 ?_
    intro v13
    refine RL.asg rfl rfl rfl ?_
    refine RL.finG ?_
    refine GL.seq ?_
    refine GL.seq ?_
    refine GL.region ?_
    refine RL.mv rfl rfl rfl ?_
    refine RL.lenS 0 Try.underlying22 rfl rfl rfl rfl SlOf.imm ?_
    obtain ⟨y16, e17, hm⟩ := bind_some hm
    replace e17 := chk_some e17
    refine RL.sh (by simp) rfl rfl rfl rfl e17 ?_
    refine RL.mv rfl rfl rfl ?_
    refine RL.finG ?_
    obtain ⟨y478, e479, hm⟩ := bind_some hm
    replace e479 := chk_some e479
    obtain ⟨y480, K481, h482, h483, h484, h485, h486⟩ := bindR_K hm
    refine GL.join (ι := (List Int)) (fun (p : (List Int)) => [(7, v13)]) (fun (p : (List Int)) => [own 3 TR.int v13 p]) (fun (p : (List Int)) => K481 (.nx p)) ?_ ?_
    · refine GL.block ?_
      refine GL.loop (ι := Nat × Nat × (List Int)) (fun (p : Nat × Nat × (List Int)) => [(0, v0), (1, .int .i64 x1), (7, v13), (23, .int .i64 (IntKind.wrap .i64 ((1 : Int) * 2 ^ (min ((x0).length : Int).toNat (IntKind.bits .i64))))), (24, .int .i64 (p.1 : Int))]) (fun (p : Nat × Nat × (List Int)) => [imm (TR.sl TR.int) v0 x0, own 3 TR.int v13 p.2.2]) (fun (p : Nat × Nat × (List Int)) => p.1 + p.2.1 = (IntKind.wrap .i64 ((1 : Int) * 2 ^ (min ((x0).length : Int).toNat (IntKind.bits .i64)))).toNat ∧ rangeN (power_Turns_b1 x0 x1) p.2.1 p.1 p.2.2 = some y480) (fun (p : Nat × Nat × (List Int)) => p.2.1) (0, (IntKind.wrap .i64 ((1 : Int) * 2 ^ (min ((x0).length : Int).toNat (IntKind.bits .i64)))).toNat, (List.replicate (((x0).length : Int)).toNat (0 : Int))) ⟨by simp, h482⟩ (fun a w st => St.cut [0, 1] ⟨rfl, rfl, rfl, rfl, rfl, trivial⟩ (by decide) rfl st) ?_
      rintro ⟨i487, r488, l247⟩ ⟨h493, h492⟩
      try dsimp only at h493 h492
      refine GL.weak (env' := [(0, v0), (1, .int .i64 x1), (7, v13), (23, .int .i64 (IntKind.wrap .i64 ((1 : Int) * 2 ^ (min ((x0).length : Int).toNat (IntKind.bits .i64))))), (24, .int .i64 (i487 : Int))]) (L' := [imm (TR.sl TR.int) v0 x0, own 3 TR.int v13 l247]) (fun _ _ st => st) ?_
      refine GL.seq ?_
      refine GL.region ?_
      refine RL.binI (v := .bool (decide ((i487 : Int) < IntKind.wrap .i64 ((1 : Int) * 2 ^ (min ((x0).length : Int).toNat (IntKind.bits .i64)))))) rfl rfl rfl rfl rfl ?_
      refine RL.finG ?_
      refine GL.seq ?_
      refine GL.cond rfl (fun b495 => ?_) (fun b495 => ?_)
      · have h496 : i487 < (IntKind.wrap .i64 ((1 : Int) * 2 ^ (min ((x0).length : Int).toNat (IntKind.bits .i64)))).toNat := by have := of_decide_eq_true b495; omega
        obtain ⟨r497, hr⟩ : ∃ m, r488 = m + 1 := ⟨r488 - 1, by omega⟩
        subst hr
        obtain ⟨z489, h490, h491⟩ := rangeN_some h492
        unfold power_Turns_b1 at h490
        try dsimp only at h490
        refine GL.skip ?_
        refine GL.seq ?_
        refine GL.block ?_
        refine GL.seq ?_
        refine GL.region ?_
        refine RL.mv rfl rfl rfl ?_
        refine RL.asg rfl rfl rfl ?_
        refine RL.finG ?_
        refine GL.seq ?_
        refine GL.region ?_
        refine RL.asg rfl rfl rfl ?_
        refine RL.finG ?_
        refine GL.seq ?_
        refine GL.seq ?_
        refine GL.region ?_
        refine RL.mv rfl rfl rfl ?_
        refine RL.lenS 0 Try.underlying22 rfl rfl rfl rfl SlOf.imm ?_
        refine RL.mv rfl rfl rfl ?_
        refine RL.finG ?_
        refine GL.open_ 0 rfl (fun S h => len_imm S h) (fun n503 => ?_)
        obtain ⟨y504, K505, h506, h507, h508, h509, h510⟩ := bindF_K h490
        refine GL.join (ι := Int) (fun (p : Int) => [(0, v0), (1, .int .i64 x1), (7, v13), (8, .int .i64 (i487 : Int)), (9, .int .i64 p), (23, .int .i64 (IntKind.wrap .i64 ((1 : Int) * 2 ^ (min ((x0).length : Int).toNat (IntKind.bits .i64))))), (24, .int .i64 (i487 : Int))]) (fun (p : Int) => [imm (TR.sl TR.int) v0 x0, own 3 TR.int v13 l247]) (fun (p : Int) => K505 (.nx p)) ?_ ?_
        · refine GL.block ?_
          refine GL.loop (ι := Nat × (List Int) × Int) (fun (p : Nat × (List Int) × Int) => [(0, v0), (1, .int .i64 x1), (7, v13), (8, .int .i64 (i487 : Int)), (9, .int .i64 p.2.2), (23, .int .i64 (IntKind.wrap .i64 ((1 : Int) * 2 ^ (min ((x0).length : Int).toNat (IntKind.bits .i64))))), (24, .int .i64 (i487 : Int)), (28, .int .i64 ((x0).length : Int)), (29, .int .i64 (p.1 : Int))]) (fun (p : Nat × (List Int) × Int) => [imm (TR.sl TR.int) v0 x0, own 3 TR.int v13 l247]) (fun (p : Nat × (List Int) × Int) => p.1 + p.2.1.length = (x0).length ∧ List.drop p.1 x0 = p.2.1 ∧ rangeL (power_Turns_b2 i487) p.2.1 p.1 p.2.2 = some y504) (fun (p : Nat × (List Int) × Int) => p.2.1.length) (0, x0, (0 : Int)) ⟨by simp, by simp, h506⟩ (fun a w st => St.cut [0, 1] ⟨rfl, rfl, rfl, rfl, rfl, rfl, rfl, rfl, rfl, trivial⟩ (by decide) rfl st) ?_
          rintro ⟨i511, r512, x498⟩ ⟨h517, h518, h516⟩
          try dsimp only at h517 h518 h516
          refine GL.weak (env' := [(0, v0), (1, .int .i64 x1), (7, v13), (8, .int .i64 (i487 : Int)), (9, .int .i64 x498), (23, .int .i64 (IntKind.wrap .i64 ((1 : Int) * 2 ^ (min ((x0).length : Int).toNat (IntKind.bits .i64))))), (24, .int .i64 (i487 : Int)), (28, .int .i64 ((x0).length : Int)), (29, .int .i64 (i511 : Int))]) (L' := [imm (TR.sl TR.int) v0 x0, own 3 TR.int v13 l247]) (fun _ _ st => st) ?_
          refine GL.seq ?_
          refine GL.region ?_
          refine RL.binI (v := .bool (decide ((i511 : Int) < ((x0).length : Int)))) rfl rfl rfl rfl rfl ?_
          refine RL.finG ?_
          refine GL.seq ?_
          refine GL.cond rfl (fun b519 => ?_) (fun b519 => ?_)
          · have h520 : i511 < (x0).length := by have := of_decide_eq_true b519; omega
            obtain ⟨y521, r523, hr, e522, h524⟩ := drop_cons h518 rfl h520
            subst hr
            obtain ⟨z513, h514, h515⟩ := rangeL_some h516
            unfold power_Turns_b2 at h514
            try dsimp only at h514
            refine GL.skip ?_
            refine GL.seq ?_
            refine GL.block ?_
            refine GL.seq ?_
            refine GL.region ?_
            refine RL.mv rfl rfl rfl ?_
            refine RL.asg rfl rfl rfl ?_
            refine RL.finG ?_
            refine GL.region ?_
            refine RL.mv rfl rfl rfl ?_
            refine RL.mv rfl rfl rfl ?_
            refine RL.mv rfl rfl rfl ?_
            obtain ⟨y527, e528, h514⟩ := bind_some h514
            replace e528 := chk_some e528
            refine RL.sh (by simp) rfl rfl rfl rfl e528 ?_
            refine RL.binI (v := .int .i64 (bits .and .i64 (Int.fdiv (i487 : Int) (2 ^ (min (i511 : Int).toNat (IntKind.bits .i64)))) (1 : Int))) rfl rfl rfl rfl rfl ?_
            refine RL.binI (v := .int .i64 (wadd x498 (bits .and .i64 (Int.fdiv (i487 : Int) (2 ^ (min (i511 : Int).toNat (IntKind.bits .i64)))) (1 : Int)))) rfl rfl rfl rfl rfl ?_
            refine RL.asg rfl rfl rfl ?_
            refine RL.finG ?_
            refine GL.nilB ?_
            refine GL.region ?_
            refine RL.binI (v := .int .i64 ((i511 + 1 : Nat) : Int)) rfl rfl rfl rfl (binI_succ i511 (by omega)) ?_
            refine RL.mv rfl rfl rfl ?_
            refine RL.fin ?_
            cases h514
            exact fun a w st => lop_intro (i511 + 1, r523, wadd x498 (bits .and .i64 (Int.fdiv (i487 : Int) (2 ^ (min (i511 : Int).toNat (IntKind.bits .i64)))) (1 : Int))) ⟨by show i511 + 1 + r523.length = (x0).length; simp only [List.length_cons] at h517; omega, h524, h515⟩ (by simp) (St.cut [0, 1] ⟨rfl, rfl, rfl, rfl, rfl, rfl, rfl, rfl, rfl, trivial⟩ (by decide) rfl st)
          · have h520 : ¬ i511 < (x0).length := by have := of_decide_eq_false b519; omega
            obtain rfl : r512 = [] := by rw [← h518]; exact List.drop_of_length_le (by omega)
            replace h516 : some (Fl.nx _) = some y504 := h516
            cases h516
            exact GL.exit (fun a w st => mid_intro x498 h507 (St.cut [0, 1] ⟨rfl, rfl, rfl, rfl, rfl, rfl, rfl, trivial⟩ (by decide) rfl st))
        · rintro x498 h529
          have h530 := h508 _ h529
          try dsimp only at h530
          refine GL.weak (env' := [(0, v0), (1, .int .i64 x1), (7, v13), (8, .int .i64 (i487 : Int)), (9, .int .i64 x498), (23, .int .i64 (IntKind.wrap .i64 ((1 : Int) * 2 ^ (min ((x0).length : Int).toNat (IntKind.bits .i64))))), (24, .int .i64 (i487 : Int))]) (L' := [imm (TR.sl TR.int) v0 x0, own 3 TR.int v13 l247]) (fun _ _ st => st) ?_
          refine GL.seq ?_
          refine GL.region ?_
          refine RL.mv rfl rfl rfl ?_
          refine RL.lenS 0 Try.underlying22 rfl rfl rfl rfl SlOf.imm ?_
          refine RL.mv rfl rfl rfl ?_
          refine RL.finG ?_
          refine GL.open_ 0 rfl (fun S h => len_imm S h) (fun n646 => ?_)
          obtain ⟨y647, K648, h649, h650, h651, h652, h653⟩ := bindF_K h530
          refine GL.join (ι := (List Int)) (fun (p : (List Int)) => [(0, v0), (1, .int .i64 x1), (7, v13), (23, .int .i64 (IntKind.wrap .i64 ((1 : Int) * 2 ^ (min ((x0).length : Int).toNat (IntKind.bits .i64))))), (24, .int .i64 (i487 : Int))]) (fun (p : (List Int)) => [imm (TR.sl TR.int) v0 x0, own 3 TR.int v13 p]) (fun (p : (List Int)) => K648 (.nx p)) ?_ ?_
          · refine GL.block ?_
            refine GL.loop (ι := Nat × (List Int) × (List Int)) (fun (p : Nat × (List Int) × (List Int)) => [(0, v0), (1, .int .i64 x1), (7, v13), (8, .int .i64 (i487 : Int)), (9, .int .i64 x498), (23, .int .i64 (IntKind.wrap .i64 ((1 : Int) * 2 ^ (min ((x0).length : Int).toNat (IntKind.bits .i64))))), (24, .int .i64 (i487 : Int)), (40, .int .i64 ((x0).length : Int)), (41, .int .i64 (p.1 : Int))]) (fun (p : Nat × (List Int) × (List Int)) => [imm (TR.sl TR.int) v0 x0, own 3 TR.int v13 p.2.2]) (fun (p : Nat × (List Int) × (List Int)) => p.1 + p.2.1.length = (x0).length ∧ List.drop p.1 x0 = p.2.1 ∧ rangeL (power_Turns_b3 i487 x0 x1 x498) p.2.1 p.1 p.2.2 = some y647) (fun (p : Nat × (List Int) × (List Int)) => p.2.1.length) (0, x0, l247) ⟨by simp, by simp, h649⟩ (fun a w st => St.cut [0, 1] ⟨rfl, rfl, rfl, rfl, rfl, rfl, rfl, rfl, rfl, trivial⟩ (by decide) rfl st) ?_
            rintro ⟨i654, r655, l588⟩ ⟨h660, h661, h659⟩
            try dsimp only at h660 h661 h659
            refine GL.weak (env' := [(0, v0), (1, .int .i64 x1), (7, v13), (8, .int .i64 (i487 : Int)), (9, .int .i64 x498), (23, .int .i64 (IntKind.wrap .i64 ((1 : Int) * 2 ^ (min ((x0).length : Int).toNat (IntKind.bits .i64))))), (24, .int .i64 (i487 : Int)), (40, .int .i64 ((x0).length : Int)), (41, .int .i64 (i654 : Int))]) (L' := [imm (TR.sl TR.int) v0 x0, own 3 TR.int v13 l588]) (fun _ _ st => st) ?_
            refine GL.seq ?_
            refine GL.region ?_
            refine RL.binI (v := .bool (decide ((i654 : Int) < ((x0).length : Int)))) rfl rfl rfl rfl rfl ?_
            refine RL.finG ?_
            refine GL.seq ?_
            refine GL.cond rfl (fun b662 => ?_) (fun b662 => ?_)
            · have h663 : i654 < (x0).length := by have := of_decide_eq_true b662; omega
              obtain ⟨y664, r666, hr, e665, h667⟩ := drop_cons h661 rfl h663
              subst hr
              obtain ⟨z656, h657, h658⟩ := rangeL_some h659
              unfold power_Turns_b3 at h657
              try dsimp only at h657
              refine GL.skip ?_
              refine GL.seq ?_
              refine GL.block ?_
              refine GL.seq ?_
              refine GL.region ?_
              refine RL.mv rfl rfl rfl ?_
              refine RL.asg rfl rfl rfl ?_
              refine RL.finG ?_
              refine GL.seq ?_
              obtain ⟨y689, K690, h691, h692, h693, h694, h695⟩ := bindF_K h657
              refine GL.join (ι := Bool) (fun (p : Bool) => [(0, v0), (1, .int .i64 x1), (7, v13), (8, .int .i64 (i487 : Int)), (9, .int .i64 x498), (11, .int .i64 (i654 : Int)), (23, .int .i64 (IntKind.wrap .i64 ((1 : Int) * 2 ^ (min ((x0).length : Int).toNat (IntKind.bits .i64))))), (24, .int .i64 (i487 : Int)), (40, .int .i64 ((x0).length : Int)), (41, .int .i64 (i654 : Int)), (64, .bool p)]) (fun (p : Bool) => [imm (TR.sl TR.int) v0 x0, own 3 TR.int v13 l588]) (fun (p : Bool) => K690 (.nx p)) ?_ ?_
              · skip
                refine GL.region ?_
                refine RL.mv rfl rfl rfl ?_
                refine RL.mv rfl rfl rfl ?_
                obtain ⟨y696, e697, h691⟩ := bind_some h691
                replace e697 := chk_some e697
                refine RL.sh (by simp) rfl rfl rfl rfl e697 ?_
                refine RL.binI (v := .int .i64 (bits .and .i64 (Int.fdiv (i487 : Int) (2 ^ (min (i654 : Int).toNat (IntKind.bits .i64)))) (1 : Int))) rfl rfl rfl rfl rfl ?_
                refine RL.binI (v := .bool ((bits .and .i64 (Int.fdiv (i487 : Int) (2 ^ (min (i654 : Int).toNat (IntKind.bits .i64)))) (1 : Int)) == (1 : Int))) rfl rfl rfl rfl rfl ?_
                refine RL.mv rfl rfl rfl ?_
                refine RL.split (t := 49) rfl (fun b698 => ?_) (fun b698 => ?_)
                · replace h691 := ite_t b698 h691
                  refine RL.mv rfl rfl rfl ?_
                  refine RL.mv rfl rfl rfl ?_
                  refine RL.mv rfl rfl rfl ?_
                  obtain ⟨y699, e700, h691⟩ := bind_some h691
                  refine RL.callC (v := .bool y699) (vs := [v0, .int .i64 x1, .int .i64 (i487 : Int)]) Try_fit42 rfl rfl rfl rfl (fun U w hU hW hL => power_wins_c U w hU _ _ (hL 0 _ _ rfl Seen.imm) x1 (i487 : Int) _ e700) ?_
                  refine RL.pickT rfl rfl rfl rfl ?_
                  refine RL.mv rfl rfl rfl ?_
                  refine RL.split (t := 55) rfl (fun b701 => ?_) (fun b701 => ?_)
                  · replace h691 := ite_t b701 h691
                    refine RL.mv rfl rfl rfl ?_
                    refine RL.mv rfl rfl rfl ?_
                    refine RL.mv rfl rfl rfl ?_
                    refine RL.mv rfl rfl rfl ?_
                    obtain ⟨y702, e703, h691⟩ := bind_some h691
                    replace e703 := chk_some e703
                    refine RL.sh (by simp) rfl rfl rfl rfl e703 ?_
                    refine RL.binI (v := .int .i64 (bits .andNot .i64 (i487 : Int) (IntKind.wrap .i64 ((1 : Int) * 2 ^ (min (i654 : Int).toNat (IntKind.bits .i64)))))) rfl rfl rfl rfl rfl ?_
                    obtain ⟨y704, e705, h691⟩ := bind_some h691
                    refine RL.callC (v := .bool y704) (vs := [v0, .int .i64 x1, .int .i64 (bits .andNot .i64 (i487 : Int) (IntKind.wrap .i64 ((1 : Int) * 2 ^ (min (i654 : Int).toNat (IntKind.bits .i64)))))]) Try_fit42 rfl rfl rfl rfl (fun U w hU hW hL => power_wins_c U w hU _ _ (hL 0 _ _ rfl Seen.imm) x1 (bits .andNot .i64 (i487 : Int) (IntKind.wrap .i64 ((1 : Int) * 2 ^ (min (i654 : Int).toNat (IntKind.bits .i64))))) _ e705) ?_
                    refine RL.notB rfl rfl rfl ?_
                    refine RL.pickT rfl rfl rfl rfl ?_
                    refine RL.fin ?_
                    cases h691
                    exact fun a w st => mid_intro (!y704) h692 (St.cut [0, 1] ⟨rfl, rfl, rfl, rfl, rfl, rfl, rfl, rfl, rfl, rfl, rfl, trivial⟩ (by decide) rfl st)
                  · replace h691 := ite_f b701 h691
                    refine RL.skip rfl rfl ?_
                    refine RL.skip rfl rfl ?_
                    refine RL.skip rfl rfl ?_
                    refine RL.skip rfl rfl ?_
                    refine RL.skip rfl rfl ?_
                    refine RL.skip rfl rfl ?_
                    refine RL.skip rfl rfl ?_
                    refine RL.skip rfl rfl ?_
                    refine RL.pickF rfl rfl rfl rfl ?_
                    refine RL.fin ?_
                    cases h691
                    exact fun a w st => mid_intro false h692 (St.cut [0, 1] ⟨rfl, rfl, rfl, rfl, rfl, rfl, rfl, rfl, rfl, rfl, rfl, trivial⟩ (by decide) rfl st)
                · replace h691 := ite_f b698 h691
                  refine RL.skip rfl rfl ?_
                  refine RL.skip rfl rfl ?_
                  refine RL.skip rfl rfl ?_
                  refine RL.skip rfl rfl ?_
                  refine RL.pickF rfl rfl rfl rfl ?_
                  refine RL.mv rfl rfl rfl ?_
                  refine RL.skip rfl rfl ?_
                  refine RL.skip rfl rfl ?_
                  refine RL.skip rfl rfl ?_
                  refine RL.skip rfl rfl ?_
                  refine RL.skip rfl rfl ?_
                  refine RL.skip rfl rfl ?_
                  refine RL.skip rfl rfl ?_
                  refine RL.skip rfl rfl ?_
                  refine RL.pickF rfl rfl rfl rfl ?_
                  refine RL.fin ?_
                  cases h691
                  exact fun a w st => mid_intro false h692 (St.cut [0, 1] ⟨rfl, rfl, rfl, rfl, rfl, rfl, rfl, rfl, rfl, rfl, rfl, trivial⟩ (by decide) rfl st)
              · rintro x688 h706
                have h707 := h693 _ h706
                try dsimp only at h707
                refine GL.weak (env' := [(0, v0), (1, .int .i64 x1), (7, v13), (8, .int .i64 (i487 : Int)), (9, .int .i64 x498), (11, .int .i64 (i654 : Int)), (23, .int .i64 (IntKind.wrap .i64 ((1 : Int) * 2 ^ (min ((x0).length : Int).toNat (IntKind.bits .i64))))), (24, .int .i64 (i487 : Int)), (40, .int .i64 ((x0).length : Int)), (41, .int .i64 (i654 : Int)), (64, .bool x688)]) (L' := [imm (TR.sl TR.int) v0 x0, own 3 TR.int v13 l588]) (fun _ _ st => st) ?_
                refine GL.cond rfl (fun b708 => ?_) (fun b708 => ?_)
                · replace h707 := ite_t b708 h707
                  refine GL.regionH 15 rfl rfl (by kernel_rfl) ?_
                  simp only [List.take_succ_cons, List.take_zero, List.drop_succ_cons, List.drop_zero]
                  refine RL.mv rfl rfl rfl ?_
                  refine RL.mv rfl rfl rfl ?_
                  obtain ⟨y717, e718, h707⟩ := bind_some h707
                  refine RL.idxS (sz := 1) 1 Try.underlying22 Try_ln3 rfl rfl rfl rfl rfl SlOf.own (idx_some e718).1 (idx_some e718).2.1 ?_
                  refine RL.ldSx (i := i654) (e' := y717) 1 Ex.ik Try_ln3 rfl rfl rfl rfl SlOf.own (idx_some e718).2.2 Part.self ?_
                  refine RL.mv rfl rfl rfl ?_
                  refine RL.binI (v := .int .i64 (wsub x498 (1 : Int))) rfl rfl rfl rfl rfl ?_
                  obtain ⟨y719, e720, h707⟩ := bind_some h707
                  refine RL.callC (v := .int .i64 y719) (vs := [.int .i64 (wsub x498 (1 : Int))]) Try_fit43 rfl rfl rfl rfl (fun U w hU hW hL => power_factorial_c U w hU (wsub x498 (1 : Int)) _ e720) ?_
                  refine RL.mv rfl rfl rfl ?_
                  refine RL.lenS 0 Try.underlying22 rfl rfl rfl rfl SlOf.imm ?_
                  refine RL.mv rfl rfl rfl ?_
                  refine RL.binI (v := .int .i64 (wsub ((x0).length : Int) x498)) rfl rfl rfl rfl rfl ?_
                  obtain ⟨y721, e722, h707⟩ := bind_some h707
                  refine RL.callC (v := .int .i64 y721) (vs := [.int .i64 (wsub ((x0).length : Int) x498)]) Try_fit43 rfl rfl rfl rfl (fun U w hU hW hL => power_factorial_c U w hU (wsub ((x0).length : Int) x498) _ e722) ?_
                  refine RL.binI (v := .int .i64 (wmul y719 y721)) rfl rfl rfl rfl rfl ?_
                  refine RL.binI (v := .int .i64 (wadd y717 (wmul y719 y721))) rfl rfl rfl rfl rfl ?_
                  obtain ⟨y723, e724, h707⟩ := bind_some h707
                  refine RL.idxS (sz := 1) 1 Try.underlying22 Try_ln3 rfl rfl rfl rfl rfl SlOf.own (idx_some e724).1 (idx_some e724).2.1 ?_
                  refine RL.finH ?_
                  refine RL.stS (i := i654) (e' := wadd y717 (wmul y719 y721)) (e1 := wadd y717 (wmul y719 y721)) (r := TR.int) 1 Try_ln3 rfl rfl rfl rfl VR.int rfl (idx_some e724).2.2 Upd.self ?_
                  refine RL.finG ?_
                  refine GL.nilB ?_
                  refine GL.region ?_
                  refine RL.binI (v := .int .i64 ((i654 + 1 : Nat) : Int)) rfl rfl rfl rfl (binI_succ i654 (by omega)) ?_
                  refine RL.mv rfl rfl rfl ?_
                  refine RL.fin ?_
                  cases h707
                  exact fun a w st => lop_intro (i654 + 1, r666, (List.set l588 i654 (wadd y717 (wmul y719 y721)))) ⟨by show i654 + 1 + r666.length = (x0).length; simp only [List.length_cons] at h660; omega, h667, h658⟩ (by simp) (St.cut [0, 1] ⟨rfl, rfl, rfl, rfl, rfl, rfl, rfl, rfl, rfl, trivial⟩ (by decide) rfl st)
                · replace h707 := ite_f b708 h707
                  refine GL.skip ?_
                  refine GL.nilB ?_
                  refine GL.region ?_
                  refine RL.binI (v := .int .i64 ((i654 + 1 : Nat) : Int)) rfl rfl rfl rfl (binI_succ i654 (by omega)) ?_
                  refine RL.mv rfl rfl rfl ?_
                  refine RL.fin ?_
                  cases h707
                  exact fun a w st => lop_intro (i654 + 1, r666, l588) ⟨by show i654 + 1 + r666.length = (x0).length; simp only [List.length_cons] at h660; omega, h667, h658⟩ (by simp) (St.cut [0, 1] ⟨rfl, rfl, rfl, rfl, rfl, rfl, rfl, rfl, rfl, trivial⟩ (by decide) rfl st)
            · have h663 : ¬ i654 < (x0).length := by have := of_decide_eq_false b662; omega
              obtain rfl : r655 = [] := by rw [← h661]; exact List.drop_of_length_le (by omega)
              replace h659 : some (Fl.nx _) = some y647 := h659
              cases h659
              exact GL.exit (fun a w st => mid_intro l588 h650 (St.cut [0, 1] ⟨rfl, rfl, rfl, rfl, rfl, trivial⟩ (by decide) rfl st))
          · rintro l588 h725
            have h726 := h651 _ h725
            try dsimp only at h726
            refine GL.weak (env' := [(0, v0), (1, .int .i64 x1), (7, v13), (23, .int .i64 (IntKind.wrap .i64 ((1 : Int) * 2 ^ (min ((x0).length : Int).toNat (IntKind.bits .i64))))), (24, .int .i64 (i487 : Int))]) (L' := [imm (TR.sl TR.int) v0 x0, own 3 TR.int v13 l588]) (fun _ _ st => st) ?_
            refine GL.nilB ?_
            refine GL.region ?_
            refine RL.binI (v := .int .i64 ((i487 + 1 : Nat) : Int)) rfl rfl rfl rfl (binI_succ i487 (by omega)) ?_
            refine RL.mv rfl rfl rfl ?_
            refine RL.fin ?_
            cases h726
            exact fun a w st => lop_intro (i487 + 1, r497, l588) ⟨by show i487 + 1 + r497 = (IntKind.wrap .i64 ((1 : Int) * 2 ^ (min ((x0).length : Int).toNat (IntKind.bits .i64)))).toNat; omega, h491⟩ (by simp) (St.cut [0, 1] ⟨rfl, rfl, rfl, rfl, rfl, trivial⟩ (by decide) rfl st)
      · have h496 : ¬ i487 < (IntKind.wrap .i64 ((1 : Int) * 2 ^ (min ((x0).length : Int).toNat (IntKind.bits .i64)))).toNat := by have := of_decide_eq_false b495; omega
        obtain rfl : r488 = 0 := by omega
        replace h492 : some (Fl.nx _) = some y480 := h492
        cases h492
        exact GL.exit (fun a w st => mid_intro l247 h483 (St.cut [1] ⟨rfl, trivial⟩ (by decide) rfl st))
    · rintro l247 h727
      have h728 := h484 _ h727
      try dsimp only at h728
      refine GL.weak (env' := [(7, v13)]) (L' := [own 3 TR.int v13 l247]) (fun _ _ st => st) ?_
      refine GL.seq ?_
      refine GL.region ?_
      refine RL.mv rfl rfl rfl ?_
      refine RL.asg rfl rfl rfl ?_
      refine RL.asg rfl rfl rfl ?_
      refine RL.finG ?_
      have h728 := Option.some.inj h728
      subst h728
      exact GL.ret (Gx.ret (v := .tuple #[v13, .int .i64 (0 : Int)]) (res2 rfl rfl rfl) (fun a w st => (st.pick [0] (by decide) rfl).toPost v13))

set_option maxHeartbeats 4000000 in
theorem slices_IndexFunc_api_Errno_api_Errno_c (S : Hp) (w : World) (hS : S.sub w) (v0 : Value) (x0 : (List Int)) (k0 : ((TR.sl TR.int)).vrep S v0 x0) (f1 : FuncId) (c1 : Array Value) (t1 : Fit Try.prog f1) (g1 : Int → Option Bool) (k1 : ∀ (U : Hp) (w' : World), Hp.le S U → U.sub w' → ∀ (a0 : Int) (rr : Bool), g1 a0 = some rr → Calls Try.prog f1 (#[.int .i64 a0] ++ c1) w' (PostV w' (.bool rr))) (res : Int) (hm : slices_IndexFunc_api_Errno_api_Errno_m x0 g1 = some res) : Calls Try.prog 45 #[v0, .func (.func f1) #[] c1] w (PostV w (.int .i64 res)) := by
  refine calls_enter 19 Try.func45 Try.ntmps45 rfl S false [(0, v0), (1, .func (.func f1) #[] c1)] [imm (TR.sl TR.int) v0 x0] rfl ⟨rfl, ⟨rfl, trivial⟩⟩ hS ⟨k0, trivial⟩ ?_
  unfold slices_IndexFunc_api_Errno_api_Errno_m at hm
  refine GL.seq ?_
  refine GL.region ?_
  refine RL.asg rfl rfl rfl ?_
  refine RL.finG ?_
  refine GL.seq ?_
  refine GL.seq ?_
  refine GL.region ?_
  refine RL.mv rfl rfl rfl ?_
  refine RL.lenS 0 Try.underlying53 rfl rfl rfl rfl SlOf.imm ?_
  refine RL.mv rfl rfl rfl ?_
  refine RL.finG ?_
  refine GL.open_ 0 rfl (fun S h => len_imm S h) (fun n12 => ?_)
  obtain ⟨y13, K14, h15, h16, h17, h18, h19⟩ := bindR_K hm
  refine GL.join (ι := Unit) (fun (p : Unit) => []) (fun (p : Unit) => []) (fun (p : Unit) => K14 (.nx ())) ?_ ?_
  · refine GL.block ?_
    refine GL.loop (ι := Nat × (List Int)) (fun (p : Nat × (List Int)) => [(0, v0), (1, .func (.func f1) #[] c1), (7, .int .i64 ((x0).length : Int)), (8, .int .i64 (p.1 : Int))]) (fun (p : Nat × (List Int)) => [imm (TR.sl TR.int) v0 x0]) (fun (p : Nat × (List Int)) => p.1 + p.2.length = (x0).length ∧ List.drop p.1 x0 = p.2 ∧ rangeL (slices_IndexFunc_api_Errno_api_Errno_b1 g1) p.2 p.1 () = some y13) (fun (p : Nat × (List Int)) => p.2.length) (0, x0) ⟨by simp, by simp, h15⟩ (fun a w st => St.cut [0] ⟨rfl, rfl, rfl, rfl, trivial⟩ (by decide) rfl st) ?_
    rintro ⟨i20, r21⟩ ⟨h26, h27, h25⟩
    try dsimp only at h26 h27 h25
    refine GL.weak (env' := [(0, v0), (1, .func (.func f1) #[] c1), (7, .int .i64 ((x0).length : Int)), (8, .int .i64 (i20 : Int))]) (L' := [imm (TR.sl TR.int) v0 x0]) (fun _ _ st => st) ?_
    refine GL.seq ?_
    refine GL.region ?_
    refine RL.binI (v := .bool (decide ((i20 : Int) < ((x0).length : Int)))) rfl rfl rfl rfl rfl ?_
    refine RL.finG ?_
    refine GL.seq ?_
    refine GL.cond rfl (fun b28 => ?_) (fun b28 => ?_)
    · have h29 : i20 < (x0).length := by have := of_decide_eq_true b28; omega
      obtain ⟨y30, r32, hr, e31, h33⟩ := drop_cons h27 rfl h29
      subst hr
      obtain ⟨z22, h23, h24⟩ := rangeL_some h25
      unfold slices_IndexFunc_api_Errno_api_Errno_b1 at h23
      try dsimp only at h23
      refine GL.skip ?_
      refine GL.seq ?_
      refine GL.block ?_
      refine GL.seq ?_
      refine GL.region ?_
      refine RL.mv rfl rfl rfl ?_
      refine RL.asg rfl rfl rfl ?_
      refine RL.finG ?_
      refine GL.seq ?_
      refine GL.region ?_
      refine RL.mv rfl rfl rfl ?_
      refine RL.mv rfl rfl rfl ?_
      refine RL.mv rfl rfl rfl ?_
      refine RL.idxS (sz := 1) 0 Try.underlying53 Try_ln26 rfl rfl rfl rfl rfl SlOf.imm (by omega) (by omega) ?_
      refine RL.ldSx (i := i20) (e' := y30) 0 Ex.ik Try_ln26 rfl rfl rfl rfl SlOf.imm e31 Part.self ?_
      obtain ⟨y36, e37, h23⟩ := bind_some h23
      refine RL.callV (v := .bool y36) (vs := [.int .i64 y30]) t1 rfl (Or.inl rfl) rfl rfl rfl rfl (fun U w hU hW hL => k1 U w hW hU y30 _ e37) ?_
      refine RL.finG ?_
      refine GL.cond rfl (fun b38 => ?_) (fun b38 => ?_)
      · replace h23 := ite_t b38 h23
        refine GL.seq ?_
        refine GL.region ?_
        refine RL.mv rfl rfl rfl ?_
        refine RL.asg rfl rfl rfl ?_
        refine RL.finG ?_
        cases h23
        replace h24 : some (Fl.rt _) = some y13 := h24
        cases h24
        have hh := h18 _ h16
        subst hh
        exact GL.ret (Gx.ret (v := .int .i64 (i20 : Int)) (res1 rfl rfl) (fun a w st => st.toPostV))
      · replace h23 := ite_f b38 h23
        refine GL.skip ?_
        refine GL.nilB ?_
        refine GL.region ?_
        refine RL.binI (v := .int .i64 ((i20 + 1 : Nat) : Int)) rfl rfl rfl rfl (binI_succ i20 (by omega)) ?_
        refine RL.mv rfl rfl rfl ?_
        refine RL.fin ?_
        cases h23
        exact fun a w st => lop_intro (i20 + 1, r32) ⟨by show i20 + 1 + r32.length = (x0).length; simp only [List.length_cons] at h26; omega, h33, h24⟩ (by simp) (St.cut [0] ⟨rfl, rfl, rfl, rfl, trivial⟩ (by decide) rfl st)
    · have h29 : ¬ i20 < (x0).length := by have := of_decide_eq_false b28; omega
      obtain rfl : r21 = [] := by rw [← h27]; exact List.drop_of_length_le (by omega)
      replace h25 : some (Fl.nx _) = some y13 := h25
      cases h25
      exact GL.exit (fun a w st => mid_intro () h16 (St.cut [] trivial (by decide) rfl st))
  · rintro ⟨⟩ h39
    have h40 := h17 _ h39
    try dsimp only at h40
    refine GL.weak (env' := []) (L' := []) (fun _ _ st => st) ?_
    refine GL.seq ?_
    refine GL.region ?_
    refine RL.asg rfl rfl rfl ?_
    refine RL.finG ?_
    have h40 := Option.some.inj h40
    subst h40
    exact GL.ret (Gx.ret (v := .int .i64 (-1 : Int)) (res1 rfl rfl) (fun a w st => st.toPostV))

set_option maxHeartbeats 4000000 in
theorem slices_ContainsFunc_api_Errno_api_Errno_c (S : Hp) (w : World) (hS : S.sub w) (v0 : Value) (x0 : (List Int)) (k0 : ((TR.sl TR.int)).vrep S v0 x0) (f1 : FuncId) (c1 : Array Value) (t1 : Fit Try.prog f1) (g1 : Int → Option Bool) (k1 : ∀ (U : Hp) (w' : World), Hp.le S U → U.sub w' → ∀ (a0 : Int) (rr : Bool), g1 a0 = some rr → Calls Try.prog f1 (#[.int .i64 a0] ++ c1) w' (PostV w' (.bool rr))) (res : Bool) (hm : slices_ContainsFunc_api_Errno_api_Errno_m x0 g1 = some res) : Calls Try.prog 37 #[v0, .func (.func f1) #[] c1] w (PostV w (.bool res)) := by
  refine calls_enter 9 Try.func37 Try.ntmps37 rfl S false [(0, v0), (1, .func (.func f1) #[] c1)] [imm (TR.sl TR.int) v0 x0] rfl ⟨rfl, ⟨rfl, trivial⟩⟩ hS ⟨k0, trivial⟩ ?_
  unfold slices_ContainsFunc_api_Errno_api_Errno_m at hm
  refine GL.seq ?_
  refine GL.region ?_
  refine RL.asg rfl rfl rfl ?_
  refine RL.finG ?_
  refine GL.seq ?_
  refine GL.region ?_
  refine RL.mv rfl rfl rfl ?_
  refine RL.mv rfl rfl rfl ?_
  obtain ⟨y5, e6, hm⟩ := bind_some hm
  refine RL.callV (v := .int .i64 y5) (vs := [v0, .func (.func f1) #[] c1]) Try_fit45 rfl (Or.inl rfl) rfl rfl rfl rfl (fun U w hU hW hL => slices_IndexFunc_api_Errno_api_Errno_c U w hU _ _ (hL 0 _ _ rfl Seen.imm) f1 c1 t1 g1 (fun U' w' hle => k1 U' w' (Hp.le_trans hW hle)) _ e6) ?_
  refine RL.binI (v := .bool (decide (y5 ≥ (0 : Int)))) rfl rfl rfl rfl rfl ?_
  refine RL.asg rfl rfl rfl ?_
  refine RL.finG ?_
  have hm := Option.some.inj hm
  subst hm
  exact GL.ret (Gx.ret (v := .bool (decide (y5 ≥ (0 : Int)))) (res1 rfl rfl) (fun a w st => st.toPostV))

set_option maxHeartbeats 4000000 in
theorem pk_good_1_c (S : Hp) (w : World) (hS : S.sub w) (x0 : Int) (res : Bool) (hm : pk_good_1_m x0 = some res) : Calls Try.prog 38 #[.int .i64 x0] w (PostC w (.bool res)) := by
  refine calls_enter 5 Try.func38 Try.ntmps38 rfl S true [(0, .int .i64 x0)] [] rfl ⟨rfl, trivial⟩ hS trivial ?_
  unfold pk_good_1_m at hm
  refine GL.seq ?_
  refine GL.region ?_
  refine RL.asg rfl rfl rfl ?_
  refine RL.finG ?_
  refine GL.seq ?_
  refine GL.region ?_
  refine RL.mv rfl rfl rfl ?_
  refine RL.binI (v := .bool (x0 != (0 : Int))) rfl rfl rfl rfl rfl ?_
  refine RL.asg rfl rfl rfl ?_
  refine RL.finG ?_
  have hm := Option.some.inj hm
  subst hm
  exact GL.ret (Gx.ret (v := .bool (x0 != (0 : Int))) (res1 rfl rfl) (fun a w st => st.toPostC rfl))

set_option maxHeartbeats 4000000 in
theorem pk_good_c (S : Hp) (w : World) (hS : S.sub w) (v0 : Value) (x0 : (List Int)) (k0 : ((TR.sl TR.int)).vrep S v0 x0) (res : Bool) (hm : pk_good_m x0 = some res) : Calls Try.prog 18 #[v0] w (PostV w (.bool res)) := by
  refine calls_enter 6 Try.func18 Try.ntmps18 rfl S false [(0, v0)] [imm (TR.sl TR.int) v0 x0] rfl ⟨rfl, trivial⟩ hS ⟨k0, trivial⟩ ?_
  unfold pk_good_m at hm
  refine GL.seq ?_
  refine GL.region ?_
  refine RL.asg rfl rfl rfl ?_
  refine RL.finG ?_
  refine GL.seq ?_
  refine GL.region ?_
  refine RL.mv rfl rfl rfl ?_
  obtain ⟨y4, e5, hm⟩ := bind_some hm
  refine RL.callV (v := .bool y4) (vs := [v0, .func (.func 38) #[] #[]]) Try_fit37 rfl (Or.inl rfl) rfl rfl rfl rfl (fun U w hU hW hL => slices_ContainsFunc_api_Errno_api_Errno_c U w hU _ _ (hL 0 _ _ rfl Seen.imm) 38 #[] Try_fit38 (fun a0 => pk_good_1_m a0) (fun U' w' hle hU' a0 rr hr => (pk_good_1_c U' w' hU' a0 rr hr).mono (fun _ _ z => z.toV)) _ e5) ?_
  refine RL.notB rfl rfl rfl ?_
  refine RL.asg rfl rfl rfl ?_
  refine RL.finG ?_
  have hm := Option.some.inj hm
  subst hm
  exact GL.ret (Gx.ret (v := .bool (!y4)) (res1 rfl rfl) (fun a w st => st.toPostV))

set_option maxHeartbeats 4000000 in
theorem slices_Equal_int_int_c (S : Hp) (w : World) (hS : S.sub w) (v0 : Value) (x0 : (List Int)) (k0 : ((TR.sl TR.int)).vrep S v0 x0) (v1 : Value) (x1 : (List Int)) (k1 : ((TR.sl TR.int)).vrep S v1 x1) (res : Bool) (hm : slices_Equal_int_int_m x0 x1 = some res) : Calls Try.prog 20 #[v0, v1] w (PostV w (.bool res)) := by
  refine calls_enter 26 Try.func20 Try.ntmps20 rfl S false [(0, v0), (1, v1)] [imm (TR.sl TR.int) v0 x0, imm (TR.sl TR.int) v1 x1] rfl ⟨rfl, ⟨rfl, trivial⟩⟩ hS ⟨k0, ⟨k1, trivial⟩⟩ ?_
  unfold slices_Equal_int_int_m at hm
  refine GL.seq ?_
  refine GL.region ?_
  refine RL.asg rfl rfl rfl ?_
  refine RL.finG ?_
  refine GL.seq ?_
  refine GL.seq ?_
  refine GL.region ?_
  refine RL.mv rfl rfl rfl ?_
  refine RL.lenS 0 Try.underlying22 rfl rfl rfl rfl SlOf.imm ?_
  refine RL.mv rfl rfl rfl ?_
  refine RL.lenS 1 Try.underlying22 rfl rfl rfl rfl SlOf.imm ?_
  refine RL.binI (v := .bool (((x0).length : Int) != ((x1).length : Int))) rfl rfl rfl rfl rfl ?_
  refine RL.finG ?_
  refine GL.cond rfl (fun b3 => ?_) (fun b3 => ?_)
  · replace hm := ite_t b3 hm
    refine GL.seq ?_
    refine GL.region ?_
    refine RL.asg rfl rfl rfl ?_
    refine RL.finG ?_
    have hm := Option.some.inj hm
    subst hm
    exact GL.ret (Gx.ret (v := .bool false) (res1 rfl rfl) (fun a w st => st.toPostV))
  · replace hm := ite_f b3 hm
    refine GL.skip ?_
    refine GL.seq ?_
    refine GL.seq ?_
    refine GL.region ?_
    refine RL.mv rfl rfl rfl ?_
    refine RL.lenS 0 Try.underlying22 rfl rfl rfl rfl SlOf.imm ?_
    refine RL.mv rfl rfl rfl ?_
    refine RL.finG ?_
    refine GL.open_ 0 rfl (fun S h => len_imm S h) (fun n13 => ?_)
    obtain ⟨y14, K15, h16, h17, h18, h19, h20⟩ := bindR_K hm
    refine GL.join (ι := Unit) (fun (p : Unit) => []) (fun (p : Unit) => []) (fun (p : Unit) => K15 (.nx ())) ?_ ?_
    · refine GL.block ?_
      refine GL.loop (ι := Nat × (List Int)) (fun (p : Nat × (List Int)) => [(0, v0), (1, v1), (12, .int .i64 ((x0).length : Int)), (13, .int .i64 (p.1 : Int))]) (fun (p : Nat × (List Int)) => [imm (TR.sl TR.int) v0 x0, imm (TR.sl TR.int) v1 x1]) (fun (p : Nat × (List Int)) => p.1 + p.2.length = (x0).length ∧ List.drop p.1 x0 = p.2 ∧ rangeL (slices_Equal_int_int_b1 x1) p.2 p.1 () = some y14) (fun (p : Nat × (List Int)) => p.2.length) (0, x0) ⟨by simp, by simp, h16⟩ (fun a w st => St.cut [0, 1] ⟨rfl, rfl, rfl, rfl, trivial⟩ (by decide) rfl st) ?_
      rintro ⟨i21, r22⟩ ⟨h27, h28, h26⟩
      try dsimp only at h27 h28 h26
      refine GL.weak (env' := [(0, v0), (1, v1), (12, .int .i64 ((x0).length : Int)), (13, .int .i64 (i21 : Int))]) (L' := [imm (TR.sl TR.int) v0 x0, imm (TR.sl TR.int) v1 x1]) (fun _ _ st => st) ?_
      refine GL.seq ?_
      refine GL.region ?_
      refine RL.binI (v := .bool (decide ((i21 : Int) < ((x0).length : Int)))) rfl rfl rfl rfl rfl ?_
      refine RL.finG ?_
      refine GL.seq ?_
      refine GL.cond rfl (fun b29 => ?_) (fun b29 => ?_)
      · have h30 : i21 < (x0).length := by have := of_decide_eq_true b29; omega
        obtain ⟨y31, r33, hr, e32, h34⟩ := drop_cons h28 rfl h30
        subst hr
        obtain ⟨z23, h24, h25⟩ := rangeL_some h26
        unfold slices_Equal_int_int_b1 at h24
        try dsimp only at h24
        refine GL.skip ?_
        refine GL.seq ?_
        refine GL.block ?_
        refine GL.seq ?_
        refine GL.region ?_
        refine RL.mv rfl rfl rfl ?_
        refine RL.asg rfl rfl rfl ?_
        refine RL.finG ?_
        refine GL.seq ?_
        refine GL.regionQ rfl rfl (by kernel_rfl) ?_
        refine RL.mv rfl rfl rfl ?_
        refine RL.mv rfl rfl rfl ?_
        refine RL.idxS (sz := 1) 0 Try.underlying22 Try_ln3 rfl rfl rfl rfl rfl SlOf.imm (by omega) (by omega) ?_
        refine RL.ldSx (i := i21) (e' := y31) 0 Ex.ik Try_ln3 rfl rfl rfl rfl SlOf.imm e32 Part.self ?_
        refine RL.mv rfl rfl rfl ?_
        refine RL.mv rfl rfl rfl ?_
        obtain ⟨y37, e38, h24⟩ := bind_some h24
        refine RL.idxS (sz := 1) 1 Try.underlying22 Try_ln3 rfl rfl rfl rfl rfl SlOf.imm (idx_some e38).1 (idx_some e38).2.1 ?_
        refine RL.ldSx (i := i21) (e' := y37) 1 Ex.ik Try_ln3 rfl rfl rfl rfl SlOf.imm (idx_some e38).2.2 Part.self ?_
        refine RL.binI (v := .bool (y31 != y37)) rfl rfl rfl rfl rfl ?_
        refine RL.finQG ?_
        refine GL.cond rfl (fun b39 => ?_) (fun b39 => ?_)
        · replace h24 := ite_t b39 h24
          refine GL.seq ?_
          refine GL.region ?_
          refine RL.asg rfl rfl rfl ?_
          refine RL.finG ?_
          cases h24
          replace h25 : some (Fl.rt _) = some y14 := h25
          cases h25
          have hh := h19 _ h17
          subst hh
          exact GL.ret (Gx.ret (v := .bool false) (res1 rfl rfl) (fun a w st => st.toPostV))
        · replace h24 := ite_f b39 h24
          refine GL.skip ?_
          refine GL.nilB ?_
          refine GL.region ?_
          refine RL.binI (v := .int .i64 ((i21 + 1 : Nat) : Int)) rfl rfl rfl rfl (binI_succ i21 (by omega)) ?_
          refine RL.mv rfl rfl rfl ?_
          refine RL.fin ?_
          cases h24
          exact fun a w st => lop_intro (i21 + 1, r33) ⟨by show i21 + 1 + r33.length = (x0).length; simp only [List.length_cons] at h27; omega, h34, h25⟩ (by simp) (St.cut [0, 1] ⟨rfl, rfl, rfl, rfl, trivial⟩ (by decide) rfl st)
      · have h30 : ¬ i21 < (x0).length := by have := of_decide_eq_false b29; omega
        obtain rfl : r22 = [] := by rw [← h28]; exact List.drop_of_length_le (by omega)
        replace h26 : some (Fl.nx _) = some y14 := h26
        cases h26
        exact GL.exit (fun a w st => mid_intro () h17 (St.cut [] trivial (by decide) rfl st))
    · rintro ⟨⟩ h40
      have h41 := h18 _ h40
      try dsimp only at h41
      refine GL.weak (env' := []) (L' := []) (fun _ _ st => st) ?_
      refine GL.seq ?_
      refine GL.region ?_
      refine RL.asg rfl rfl rfl ?_
      refine RL.finG ?_
      have h41 := Option.some.inj h41
      subst h41
      exact GL.ret (Gx.ret (v := .bool true) (res1 rfl rfl) (fun a w st => st.toPostV))

set_option maxHeartbeats 4000000 in
theorem pk_powers_c (S : Hp) (w : World) (hS : S.sub w)  (res : Bool) (hm : pk_powers_m = some res) : Calls Try.prog 22 #[] w (PostV w (.bool res)) := by
  refine calls_enter 29 Try.func22 Try.ntmps22 rfl S false [] [] rfl trivial hS trivial ?_
  unfold pk_powers_m at hm
  refine GL.seq ?_
  refine GL.region ?_
  refine RL.asg rfl rfl rfl ?_
  refine RL.finG ?_
  refine GL.seq ?_
  refine GL.region ?_
  refine RL.bS (t := TR.int) (vs := [.int .i64 (2 : Int), .int .i64 (1 : Int), .int .i64 (1 : Int)]) ([(2 : Int), (1 : Int), (1 : Int)] : (List Int)) Try.underlying22 Try_lo3 rfl rfl rfl rfl ⟨VR.int, ⟨VR.int, ⟨VR.int, trivial⟩⟩⟩ rfl (by decide) ?_
  intro v5
  obtain ⟨y6, e7, hm⟩ := bind_some hm
  refine RL.callU (vs := [v5, .int .i64 (3 : Int)]) (LR := fun (o : Value) => [own 3 TR.int o y6.1]) (fun o => ⟨Loc.own TR.flatT_ik, trivial⟩) Try_fit25 rfl rfl rfl rfl rfl (fun U w hU hW hL => power_Swings_c U w hU _ _ (hL 0 _ _ rfl Seen.own) (3 : Int) _ e7) ?_
  intro v8
  refine RL.mv rfl rfl rfl ?_
  refine RL.ext rfl rfl rfl rfl ?_
  refine RL.ext rfl rfl rfl rfl ?_
  refine RL.asg rfl rfl rfl ?_
  refine RL.asg rfl rfl rfl ?_
  refine RL.finG ?_
  refine GL.seq ?_
  refine GL.region ?_
  refine RL.bS (t := TR.int) (vs := [.int .i64 (2 : Int), .int .i64 (1 : Int), .int .i64 (1 : Int)]) ([(2 : Int), (1 : Int), (1 : Int)] : (List Int)) Try.underlying22 Try_lo3 rfl rfl rfl rfl ⟨VR.int, ⟨VR.int, ⟨VR.int, trivial⟩⟩⟩ rfl (by decide) ?_
  intro v13
  refine RL.reL (L' := [own 3 TR.int v5 ([(2 : Int), (1 : Int), (1 : Int)] : (List Int)), own 3 TR.int v8 y6.1, own 3 TR.int v13 ([(2 : Int), (1 : Int), (1 : Int)] : (List Int))]) rfl ?_
  obtain ⟨y14, e15, hm⟩ := bind_some hm
  refine RL.callU (vs := [v13, .int .i64 (3 : Int)]) (LR := fun (o : Value) => [own 3 TR.int o y14.1]) (fun o => ⟨Loc.own TR.flatT_ik, trivial⟩) Try_fit24 rfl rfl rfl rfl rfl (fun U w hU hW hL => power_Turns_c U w hU _ _ (hL 2 _ _ rfl Seen.own) (3 : Int) _ e15) ?_
  intro v16
  refine RL.mv rfl rfl rfl ?_
  refine RL.ext rfl rfl rfl rfl ?_
  refine RL.ext rfl rfl rfl rfl ?_
  refine RL.asg rfl rfl rfl ?_
  refine RL.asg rfl rfl rfl ?_
  refine RL.finG ?_
  refine GL.seq ?_
  obtain ⟨y40, K41, h42, h43, h44, h45, h46⟩ := bindR_K hm
  refine GL.join (ι := Bool) (fun (p : Bool) => [(0, .bool p)]) (fun (p : Bool) => []) (fun (p : Bool) => K41 (.nx p)) ?_ ?_
  · skip
    refine GL.region ?_
    refine RL.mv rfl rfl rfl ?_
    refine RL.mv rfl rfl rfl ?_
    refine RL.bS (t := TR.int) (vs := [.int .i64 y6.2, .int .i64 y14.2]) ([y6.2, y14.2] : (List Int)) Try.underlying53 Try_lo26 rfl rfl rfl rfl ⟨VR.int, ⟨VR.int, trivial⟩⟩ rfl (by decide) ?_
    intro v47
    obtain ⟨y48, e49, h42⟩ := bind_some h42
    refine RL.callV (v := .bool y48) (vs := [v47]) Try_fit18 rfl (Or.inl rfl) rfl rfl rfl rfl (fun U w hU hW hL => pk_good_c U w hU _ _ (hL 4 _ _ rfl Seen.own) _ e49) ?_
    refine RL.mv rfl rfl rfl ?_
    refine RL.split (t := 19) rfl (fun b50 => ?_) (fun b50 => ?_)
    · replace h42 := ite_t b50 h42
      refine RL.mv rfl rfl rfl ?_
      refine RL.bS (t := TR.int) (vs := [.int .i64 (3 : Int), .int .i64 (1 : Int), .int .i64 (1 : Int)]) ([(3 : Int), (1 : Int), (1 : Int)] : (List Int)) Try.underlying22 Try_lo3 rfl rfl rfl rfl ⟨VR.int, ⟨VR.int, ⟨VR.int, trivial⟩⟩⟩ rfl (by decide) ?_
      intro v51
      refine RL.reL (L' := [own 3 TR.int v5 ([(2 : Int), (1 : Int), (1 : Int)] : (List Int)), own 3 TR.int v8 y6.1, own 3 TR.int v13 ([(2 : Int), (1 : Int), (1 : Int)] : (List Int)), own 3 TR.int v16 y14.1, own 26 TR.int v47 ([y6.2, y14.2] : (List Int)), own 3 TR.int v51 ([(3 : Int), (1 : Int), (1 : Int)] : (List Int))]) rfl ?_
      obtain ⟨y52, e53, h42⟩ := bind_some h42
      refine RL.callV (v := .bool y52) (vs := [v8, v51]) Try_fit20 rfl (Or.inl rfl) rfl rfl rfl rfl (fun U w hU hW hL => slices_Equal_int_int_c U w hU _ _ (hL 1 _ _ rfl Seen.own) _ _ (hL 5 _ _ rfl Seen.own) _ e53) ?_
      refine RL.pickT rfl rfl rfl rfl ?_
      refine RL.mv rfl rfl rfl ?_
      refine RL.split (t := 24) rfl (fun b54 => ?_) (fun b54 => ?_)
      · replace h42 := ite_t b54 h42
        refine RL.mv rfl rfl rfl ?_
        refine RL.bS (t := TR.int) (vs := [.int .i64 (4 : Int), .int .i64 (1 : Int), .int .i64 (1 : Int)]) ([(4 : Int), (1 : Int), (1 : Int)] : (List Int)) Try.underlying22 Try_lo3 rfl rfl rfl rfl ⟨VR.int, ⟨VR.int, ⟨VR.int, trivial⟩⟩⟩ rfl (by decide) ?_
        intro v55
        obtain ⟨y56, e57, h42⟩ := bind_some h42
        refine RL.callV (v := .bool y56) (vs := [v16, v55]) Try_fit20 rfl (Or.inl rfl) rfl rfl rfl rfl (fun U w hU hW hL => slices_Equal_int_int_c U w hU _ _ (hL 3 _ _ rfl Seen.own) _ _ (hL 6 _ _ rfl Seen.own) _ e57) ?_
        refine RL.pickT rfl rfl rfl rfl ?_
        refine RL.asg rfl rfl rfl ?_
        refine RL.fin ?_
        cases h42
        exact fun a w st => mid_intro y56 h43 (St.cut [] ⟨rfl, trivial⟩ (by decide) rfl st)
      · replace h42 := ite_f b54 h42
        refine RL.skip rfl rfl ?_
        refine RL.skip rfl rfl ?_
        refine RL.skip rfl rfl ?_
        refine RL.pickF rfl rfl rfl rfl ?_
        refine RL.asg rfl rfl rfl ?_
        refine RL.fin ?_
        cases h42
        exact fun a w st => mid_intro false h43 (St.cut [] ⟨rfl, trivial⟩ (by decide) rfl st)
    · replace h42 := ite_f b50 h42
      refine RL.skip rfl rfl ?_
      refine RL.skip rfl rfl ?_
      refine RL.skip rfl rfl ?_
      refine RL.pickF rfl rfl rfl rfl ?_
      refine RL.mv rfl rfl rfl ?_
      refine RL.skip rfl rfl ?_
      refine RL.skip rfl rfl ?_
      refine RL.skip rfl rfl ?_
      refine RL.pickF rfl rfl rfl rfl ?_
      refine RL.asg rfl rfl rfl ?_
      refine RL.fin ?_
      cases h42
      exact fun a w st => mid_intro false h43 (St.cut [] ⟨rfl, trivial⟩ (by decide) rfl st)
  · rintro x39 h58
    have h59 := h44 _ h58
    try dsimp only at h59
    refine GL.weak (env' := [(0, .bool x39)]) (L' := []) (fun _ _ st => st) ?_
    have h59 := Option.some.inj h59
    subst h59
    exact GL.ret (Gx.ret (v := .bool x39) (res1 rfl rfl) (fun a w st => st.toPostV))

set_option maxHeartbeats 4000000 in
theorem ref_Rest_c (S : Hp) (w : World) (hS : S.sub w) (x0 : Int) (x1 : Int) (res : Int) (hm : ref_Rest_m x0 x1 = some res) : Calls Try.prog 33 #[.int .i64 x0, .int .i64 x1] w (PostC w (.int .i64 res)) := by
  refine calls_enter 14 Try.func33 Try.ntmps33 rfl S true [(0, .int .i64 x0), (1, .int .i64 x1)] [] rfl ⟨rfl, ⟨rfl, trivial⟩⟩ hS trivial ?_
  unfold ref_Rest_m at hm
  refine GL.seq ?_
  refine GL.region ?_
  refine RL.asg rfl rfl rfl ?_
  refine RL.finG ?_
  refine GL.seq ?_
  refine GL.region ?_
  refine RL.mv rfl rfl rfl ?_
  refine RL.mv rfl rfl rfl ?_
  obtain ⟨y5, e6, hm⟩ := bind_some hm
  replace e6 := chk_some e6
  refine RL.rem rfl rfl rfl rfl e6 ?_
  refine RL.asg rfl rfl rfl ?_
  refine RL.finG ?_
  refine GL.seq ?_
  refine GL.seq ?_
  refine GL.region ?_
  refine RL.mv rfl rfl rfl ?_
  refine RL.binI (v := .bool (decide ((Int.tmod x0 x1) < (0 : Int)))) rfl rfl rfl rfl rfl ?_
  refine RL.finG ?_
  obtain ⟨y9, K10, h11, h12, h13, h14, h15⟩ := bindR_K hm
  refine GL.join (ι := Int) (fun (p : Int) => [(0, .int .i64 p)]) (fun (p : Int) => []) (fun (p : Int) => K10 (.nx p)) ?_ ?_
  · skip
    refine GL.cond rfl (fun b16 => ?_) (fun b16 => ?_)
    · replace h11 := ite_t b16 h11
      refine GL.region ?_
      refine RL.mv rfl rfl rfl ?_
      refine RL.mv rfl rfl rfl ?_
      refine RL.binI (v := .int .i64 (wadd (Int.tmod x0 x1) x1)) rfl rfl rfl rfl rfl ?_
      refine RL.asg rfl rfl rfl ?_
      refine RL.finG ?_
      cases h11
      exact fun a w st => mid_intro (wadd (Int.tmod x0 x1) x1) h12 (St.cut [] ⟨rfl, trivial⟩ (by decide) rfl st)
    · replace h11 := ite_f b16 h11
      refine GL.skip ?_
      cases h11
      exact fun a w st => mid_intro (Int.tmod x0 x1) h12 (St.cut [] ⟨rfl, trivial⟩ (by decide) rfl st)
  · rintro x8 h17
    have h18 := h13 _ h17
    try dsimp only at h18
    refine GL.weak (env' := [(0, .int .i64 x8)]) (L' := []) (fun _ _ st => st) ?_
    refine GL.seq ?_
    refine GL.region ?_
    refine RL.mv rfl rfl rfl ?_
    refine RL.asg rfl rfl rfl ?_
    refine RL.finG ?_
    have h18 := Option.some.inj h18
    subst h18
    exact GL.ret (Gx.ret (v := .int .i64 x8) (res1 rfl rfl) (fun a w st => st.toPostC rfl))

set_option maxHeartbeats 4000000 in
theorem pk_Within_c (S : Hp) (w : World) (hS : S.sub w) (x0 : Int) (x1 : Int) (res : Int) (hm : pk_Within_m x0 x1 = some res) : Calls Try.prog 15 #[.int .i64 x0, .int .i64 x1] w (PostC w (.int .i64 res)) := by
  refine calls_enter 8 Try.func15 Try.ntmps15 rfl S true [(0, .int .i64 x0), (1, .int .i64 x1)] [] rfl ⟨rfl, ⟨rfl, trivial⟩⟩ hS trivial ?_
  unfold pk_Within_m at hm
  refine GL.seq ?_
  refine GL.region ?_
  refine RL.asg rfl rfl rfl ?_
  refine RL.finG ?_
  refine GL.seq ?_
  refine GL.region ?_
  refine RL.mv rfl rfl rfl ?_
  refine RL.mv rfl rfl rfl ?_
  obtain ⟨y5, e6, hm⟩ := bind_some hm
  refine RL.callC (v := .int .i64 y5) (vs := [.int .i64 x0, .int .i64 x1]) Try_fit33 rfl rfl rfl rfl (fun U w hU hW hL => ref_Rest_c U w hU x0 x1 _ e6) ?_
  refine RL.asg rfl rfl rfl ?_
  refine RL.finG ?_
  have hm := Option.some.inj hm
  subst hm
  exact GL.ret (Gx.ret (v := .int .i64 y5) (res1 rfl rfl) (fun a w st => st.toPostC rfl))

set_option maxHeartbeats 4000000 in
theorem pk_sum_c (S : Hp) (w : World) (hS : S.sub w) (v0 : Value) (x0 : (List Int)) (k0 : ((TR.sl TR.int)).vrep S v0 x0) (res : Int) (hm : pk_sum_m x0 = some res) : Calls Try.prog 19 #[v0] w (PostC w (.int .i64 res)) := by
  refine calls_enter 17 Try.func19 Try.ntmps19 rfl S true [(0, v0)] [imm (TR.sl TR.int) v0 x0] rfl ⟨rfl, trivial⟩ hS ⟨k0, trivial⟩ ?_
  unfold pk_sum_m at hm
  refine GL.seq ?_
  refine GL.region ?_
  refine RL.asg rfl rfl rfl ?_
  refine RL.finG ?_
  refine GL.seq ?_
  refine GL.region ?_
  refine RL.asg rfl rfl rfl ?_
  refine RL.finG ?_
  refine GL.seq ?_
  refine GL.seq ?_
  refine GL.region ?_
  refine RL.mv rfl rfl rfl ?_
  refine RL.lenS 0 Try.underlying22 rfl rfl rfl rfl SlOf.imm ?_
  refine RL.mv rfl rfl rfl ?_
  refine RL.finG ?_
  refine GL.open_ 0 rfl (fun S h => len_imm S h) (fun n7 => ?_)
  obtain ⟨y8, K9, h10, h11, h12, h13, h14⟩ := bindR_K hm
  refine GL.join (ι := Int) (fun (p : Int) => [(3, .int .i64 p)]) (fun (p : Int) => []) (fun (p : Int) => K9 (.nx p)) ?_ ?_
  · refine GL.block ?_
    refine GL.loop (ι := Nat × (List Int) × Int) (fun (p : Nat × (List Int) × Int) => [(3, .int .i64 p.2.2), (6, v0), (7, .int .i64 ((x0).length : Int)), (8, .int .i64 (p.1 : Int))]) (fun (p : Nat × (List Int) × Int) => [imm (TR.sl TR.int) v0 x0]) (fun (p : Nat × (List Int) × Int) => p.1 + p.2.1.length = (x0).length ∧ List.drop p.1 x0 = p.2.1 ∧ rangeL pk_sum_b1 p.2.1 p.1 p.2.2 = some y8) (fun (p : Nat × (List Int) × Int) => p.2.1.length) (0, x0, (0 : Int)) ⟨by simp, by simp, h10⟩ (fun a w st => St.cut [0] ⟨rfl, rfl, rfl, rfl, trivial⟩ (by decide) rfl st) ?_
    rintro ⟨i15, r16, x2⟩ ⟨h21, h22, h20⟩
    try dsimp only at h21 h22 h20
    refine GL.weak (env' := [(3, .int .i64 x2), (6, v0), (7, .int .i64 ((x0).length : Int)), (8, .int .i64 (i15 : Int))]) (L' := [imm (TR.sl TR.int) v0 x0]) (fun _ _ st => st) ?_
    refine GL.seq ?_
    refine GL.region ?_
    refine RL.binI (v := .bool (decide ((i15 : Int) < ((x0).length : Int)))) rfl rfl rfl rfl rfl ?_
    refine RL.finG ?_
    refine GL.seq ?_
    refine GL.cond rfl (fun b23 => ?_) (fun b23 => ?_)
    · have h24 : i15 < (x0).length := by have := of_decide_eq_true b23; omega
      obtain ⟨y25, r27, hr, e26, h28⟩ := drop_cons h22 rfl h24
      subst hr
      obtain ⟨z17, h18, h19⟩ := rangeL_some h20
      unfold pk_sum_b1 at h18
      try dsimp only at h18
      refine GL.skip ?_
      refine GL.seq ?_
      refine GL.block ?_
      refine GL.seq ?_
      refine GL.region ?_
      refine RL.idxS (sz := 1) 0 Try.underlying22 Try_ln3 rfl rfl rfl rfl rfl SlOf.imm (by omega) (by omega) ?_
      refine RL.ldSx (i := i15) (e' := y25) 0 Ex.ik Try_ln3 rfl rfl rfl rfl SlOf.imm e26 Part.self ?_
      refine RL.asg rfl rfl rfl ?_
      refine RL.finG ?_
      refine GL.region ?_
      refine RL.mv rfl rfl rfl ?_
      refine RL.mv rfl rfl rfl ?_
      refine RL.binI (v := .int .i64 (wadd x2 y25)) rfl rfl rfl rfl rfl ?_
      refine RL.asg rfl rfl rfl ?_
      refine RL.finG ?_
      refine GL.nilB ?_
      refine GL.region ?_
      refine RL.binI (v := .int .i64 ((i15 + 1 : Nat) : Int)) rfl rfl rfl rfl (binI_succ i15 (by omega)) ?_
      refine RL.mv rfl rfl rfl ?_
      refine RL.fin ?_
      cases h18
      exact fun a w st => lop_intro (i15 + 1, r27, wadd x2 y25) ⟨by show i15 + 1 + r27.length = (x0).length; simp only [List.length_cons] at h21; omega, h28, h19⟩ (by simp) (St.cut [0] ⟨rfl, rfl, rfl, rfl, trivial⟩ (by decide) rfl st)
    · have h24 : ¬ i15 < (x0).length := by have := of_decide_eq_false b23; omega
      obtain rfl : r16 = [] := by rw [← h22]; exact List.drop_of_length_le (by omega)
      replace h20 : some (Fl.nx _) = some y8 := h20
      cases h20
      exact GL.exit (fun a w st => mid_intro x2 h11 (St.cut [] ⟨rfl, trivial⟩ (by decide) rfl st))
  · rintro x2 h29
    have h30 := h12 _ h29
    try dsimp only at h30
    refine GL.weak (env' := [(3, .int .i64 x2)]) (L' := []) (fun _ _ st => st) ?_
    refine GL.seq ?_
    refine GL.region ?_
    refine RL.mv rfl rfl rfl ?_
    refine RL.asg rfl rfl rfl ?_
    refine RL.finG ?_
    have h30 := Option.some.inj h30
    subst h30
    exact GL.ret (Gx.ret (v := .int .i64 x2) (res1 rfl rfl) (fun a w st => st.toPostC rfl))

set_option maxHeartbeats 4000000 in
theorem pk_WeightsOf_c (S : Hp) (w : World) (hS : S.sub w) (v0 : Value) (x0 : (List Int)) (k0 : ((TR.sl TR.int)).vrep S v0 x0) (x1 : Int) (res : (List Int) × Int) (hm : pk_WeightsOf_m x0 x1 = some res) : Calls Try.prog 23 #[v0, .int .i64 x1] w (Post w S (fun (o : Value) => .tuple #[o, .int .i64 res.2]) (fun (o : Value) => [own 3 TR.int o res.1])) := by
  refine calls_enter 32 Try.func23 Try.ntmps23 rfl S false [(0, v0), (1, .int .i64 x1)] [imm (TR.sl TR.int) v0 x0] rfl ⟨rfl, ⟨rfl, trivial⟩⟩ hS ⟨k0, trivial⟩ ?_
  unfold pk_WeightsOf_m at hm
  refine GL.seq ?_
  refine GL.region ?_
  refine RL.asg rfl rfl rfl ?_
  refine RL.asg rfl rfl rfl ?_
  refine RL.finG ?_
  refine GL.seq ?_
  refine GL.region ?_
  refine RL.bS (t := TR.int) (vs := [.int .i64 (1 : Int)]) ([(1 : Int)] : (List Int)) Try.underlying22 Try_lo3 rfl rfl rfl rfl ⟨VR.int, trivial⟩ rfl (by decide) ?_
  intro v4
  refine RL.asg rfl rfl rfl ?_
  refine RL.finG ?_
  refine GL.seq ?_
  refine GL.seq ?_
  refine GL.region ?_
  refine RL.mv rfl rfl rfl ?_
  refine RL.mv rfl rfl rfl ?_
  refine RL.lenS 0 Try.underlying22 rfl rfl rfl rfl SlOf.imm ?_
  refine RL.minI rfl rfl rfl rfl ?_
  obtain ⟨y8, e9, hm⟩ := bind_some hm
  replace e9 := chk_some e9
  refine RL.slc (t := TR.int) (i := 0) (j := (if (5 : Int) < ((x0).length : Int) then (5 : Int) else ((x0).length : Int)).toNat) (sz := 1) 0 Try.underlying22 Try_ln3 rfl rfl rfl rfl (Or.inl ⟨rfl, rfl⟩) (Or.inr ⟨_, _, rfl, by rw [Int.toNat_of_nonneg (by omega)]; rfl⟩) rfl (by omega) (by omega) ?_
  intro v10
  refine RL.reL (L' := [imm (TR.sl TR.int) v0 x0, own 3 TR.int v4 ([(1 : Int)] : (List Int)), imm (TR.sl TR.int) v10 ((List.take ((if (5 : Int) < ((x0).length : Int) then (5 : Int) else ((x0).length : Int)).toNat) x0).drop 0)]) rfl ?_
  refine RL.lenS 2 Try.underlying22 rfl rfl rfl rfl SlOf.imm ?_
  refine RL.mv rfl rfl rfl ?_
  refine RL.finG ?_
  refine GL.open_ 2 rfl (fun S h => len_imm S h) (fun n29 => ?_)
  obtain ⟨y30, K31, h32, h33, h34, h35, h36⟩ := bindR_K hm
  refine GL.join (ι := (List Int) × Value) (fun (p : (List Int) × Value) => [(1, .int .i64 x1), (6, p.2)]) (fun (p : (List Int) × Value) => [own 3 TR.int p.2 p.1]) (fun (p : (List Int) × Value) => K31 (.nx p.1)) ?_ ?_
  · refine GL.block ?_
    refine GL.loop (ι := Nat × (List Int) × (List Int) × Value) (fun (p : Nat × (List Int) × (List Int) × Value) => [(1, .int .i64 x1), (6, p.2.2.2), (14, v10), (15, .int .i64 ((((List.take ((if (5 : Int) < ((x0).length : Int) then (5 : Int) else ((x0).length : Int)).toNat) x0).drop 0)).length : Int)), (16, .int .i64 (p.1 : Int))]) (fun (p : Nat × (List Int) × (List Int) × Value) => [own 3 TR.int p.2.2.2 p.2.2.1, imm (TR.sl TR.int) v10 ((List.take ((if (5 : Int) < ((x0).length : Int) then (5 : Int) else ((x0).length : Int)).toNat) x0).drop 0)]) (fun (p : Nat × (List Int) × (List Int) × Value) => p.1 + p.2.1.length = (((List.take ((if (5 : Int) < ((x0).length : Int) then (5 : Int) else ((x0).length : Int)).toNat) x0).drop 0)).length ∧ List.drop p.1 ((List.take ((if (5 : Int) < ((x0).length : Int) then (5 : Int) else ((x0).length : Int)).toNat) x0).drop 0) = p.2.1 ∧ rangeL pk_WeightsOf_b1 p.2.1 p.1 p.2.2.1 = some y30) (fun (p : Nat × (List Int) × (List Int) × Value) => p.2.1.length) (0, ((List.take ((if (5 : Int) < ((x0).length : Int) then (5 : Int) else ((x0).length : Int)).toNat) x0).drop 0), ([(1 : Int)] : (List Int)), v4) ⟨by simp, by simp, h32⟩ (fun a w st => St.cut [1, 2] ⟨rfl, rfl, rfl, rfl, rfl, trivial⟩ (by decide) rfl st) ?_
    rintro ⟨i37, r38, l11, v12⟩ ⟨h43, h44, h42⟩
    try dsimp only at h43 h44 h42
    refine GL.weak (env' := [(1, .int .i64 x1), (6, v12), (14, v10), (15, .int .i64 ((((List.take ((if (5 : Int) < ((x0).length : Int) then (5 : Int) else ((x0).length : Int)).toNat) x0).drop 0)).length : Int)), (16, .int .i64 (i37 : Int))]) (L' := [own 3 TR.int v12 l11, imm (TR.sl TR.int) v10 ((List.take ((if (5 : Int) < ((x0).length : Int) then (5 : Int) else ((x0).length : Int)).toNat) x0).drop 0)]) (fun _ _ st => st) ?_
    refine GL.seq ?_
    refine GL.region ?_
    refine RL.binI (v := .bool (decide ((i37 : Int) < ((((List.take ((if (5 : Int) < ((x0).length : Int) then (5 : Int) else ((x0).length : Int)).toNat) x0).drop 0)).length : Int)))) rfl rfl rfl rfl rfl ?_
    refine RL.finG ?_
    refine GL.seq ?_
    refine GL.cond rfl (fun b45 => ?_) (fun b45 => ?_)
    · have h46 : i37 < (((List.take ((if (5 : Int) < ((x0).length : Int) then (5 : Int) else ((x0).length : Int)).toNat) x0).drop 0)).length := by have := of_decide_eq_true b45; omega
      obtain ⟨y47, r49, hr, e48, h50⟩ := drop_cons h44 rfl h46
      subst hr
      obtain ⟨z39, h40, h41⟩ := rangeL_some h42
      unfold pk_WeightsOf_b1 at h40
      try dsimp only at h40
      refine GL.skip ?_
      refine GL.seq ?_
      refine GL.block ?_
      refine GL.seq ?_
      refine GL.region ?_
      refine RL.idxS (sz := 1) 1 Try.underlying22 Try_ln3 rfl rfl rfl rfl rfl SlOf.imm (by omega) (by omega) ?_
      refine RL.ldSx (i := i37) (e' := y47) 1 Ex.ik Try_ln3 rfl rfl rfl rfl SlOf.imm e48 Part.self ?_
      refine RL.asg rfl rfl rfl ?_
      refine RL.finG ?_
      refine GL.region ?_
      refine RL.mv rfl rfl rfl ?_
      refine RL.mv rfl rfl rfl ?_
      obtain ⟨y57, e58, h40⟩ := bind_some h40
      refine RL.callC (v := .int .i64 y57) (vs := [.int .i64 y47, .int .i64 (20 : Int)]) Try_fit15 rfl rfl rfl rfl (fun U w hU hW hL => pk_Within_c U w hU y47 (20 : Int) _ e58) ?_
      refine RL.bS (t := TR.int) (vs := [.int .i64 y57]) ([y57] : (List Int)) Try.underlying22 Try_lo3 rfl rfl rfl rfl ⟨VR.int, trivial⟩ rfl (by decide) ?_
      intro v59
      obtain ⟨y60, e61, h40⟩ := bind_some h40
      replace e61 := chk_some e61
      refine RL.app 0 2 Try.underlying22 Try_lo3 rfl rfl rfl rfl rfl rfl rfl SlOf.own e61 ?_
      intro v62
      refine RL.reL (L' := [own 3 TR.int v62 (l11 ++ ([y57] : (List Int))), imm (TR.sl TR.int) v10 ((List.take ((if (5 : Int) < ((x0).length : Int) then (5 : Int) else ((x0).length : Int)).toNat) x0).drop 0), own 3 TR.int v59 ([y57] : (List Int))]) rfl ?_
      refine RL.asg rfl rfl rfl ?_
      refine RL.finG ?_
      refine GL.nilB ?_
      refine GL.region ?_
      refine RL.binI (v := .int .i64 ((i37 + 1 : Nat) : Int)) rfl rfl rfl rfl (binI_succ i37 (by omega)) ?_
      refine RL.mv rfl rfl rfl ?_
      refine RL.fin ?_
      cases h40
      exact fun a w st => lop_intro (i37 + 1, r49, (l11 ++ ([y57] : (List Int))), v62) ⟨by show i37 + 1 + r49.length = (((List.take ((if (5 : Int) < ((x0).length : Int) then (5 : Int) else ((x0).length : Int)).toNat) x0).drop 0)).length; simp only [List.length_cons] at h43; omega, h50, h41⟩ (by simp) (St.cut [0, 1] ⟨rfl, rfl, rfl, rfl, rfl, trivial⟩ (by decide) rfl st)
    · have h46 : ¬ i37 < (((List.take ((if (5 : Int) < ((x0).length : Int) then (5 : Int) else ((x0).length : Int)).toNat) x0).drop 0)).length := by have := of_decide_eq_false b45; omega
      obtain rfl : r38 = [] := by rw [← h44]; exact List.drop_of_length_le (by omega)
      replace h42 : some (Fl.nx _) = some y30 := h42
      cases h42
      exact GL.exit (fun a w st => mid_intro (l11, v12) h33 (St.cut [0] ⟨rfl, rfl, trivial⟩ (by decide) rfl st))
  · rintro ⟨l11, v12⟩ h63
    have h64 := h34 _ h63
    try dsimp only at h64
    refine GL.weak (env' := [(1, .int .i64 x1), (6, v12)]) (L' := [own 3 TR.int v12 l11]) (fun _ _ st => st) ?_
    refine GL.seq ?_
    refine GL.region ?_
    refine RL.mv rfl rfl rfl ?_
    refine RL.mv rfl rfl rfl ?_
    refine RL.mv rfl rfl rfl ?_
    obtain ⟨y69, e70, h64⟩ := bind_some h64
    refine RL.callC (v := .int .i64 y69) (vs := [v12]) Try_fit19 rfl rfl rfl rfl (fun U w hU hW hL => pk_sum_c U w hU _ _ (hL 0 _ _ rfl Seen.own) _ e70) ?_
    obtain ⟨y71, e72, h64⟩ := bind_some h64
    refine RL.callC (v := .int .i64 y71) (vs := [.int .i64 x1, .int .i64 y69]) Try_fit15 rfl rfl rfl rfl (fun U w hU hW hL => pk_Within_c U w hU x1 y69 _ e72) ?_
    refine RL.binI (v := .int .i64 (wadd (1 : Int) y71)) rfl rfl rfl rfl rfl ?_
    refine RL.asg rfl rfl rfl ?_
    refine RL.asg rfl rfl rfl ?_
    refine RL.finG ?_
    have h64 := Option.some.inj h64
    subst h64
    exact GL.ret (Gx.ret (v := .tuple #[v12, .int .i64 (wadd (1 : Int) y71)]) (res2 rfl rfl rfl) (fun a w st => (st.pick [0] (by decide) rfl).toPost v12))

set_option maxHeartbeats 4000000 in
theorem power_Wins_c (S : Hp) (w : World) (hS : S.sub w) (v0 : Value) (x0 : (List Int)) (k0 : ((TR.sl TR.int)).vrep S v0 x0) (x1 : Int) (x2 : Int) (res : Bool × Int) (hm : power_Wins_m x0 x1 x2 = some res) : Calls Try.prog 28 #[v0, .int .i64 x1, .int .i64 x2] w (PostC w (.tuple #[.bool res.1, .int .i64 res.2])) := by
  refine calls_enter 28 Try.func28 Try.ntmps28 rfl S true [(0, v0), (1, .int .i64 x1), (2, .int .i64 x2)] [imm (TR.sl TR.int) v0 x0] rfl ⟨rfl, ⟨rfl, ⟨rfl, trivial⟩⟩⟩ hS ⟨k0, trivial⟩ ?_
  unfold power_Wins_m at hm
  refine GL.seq ?_
  refine GL.region ?_
  refine RL.asg rfl rfl rfl ?_
  refine RL.asg rfl rfl rfl ?_
  refine RL.finG ?_
  refine GL.seq ?_
  refine GL.seq ?_
  refine GL.region ?_
  refine RL.mv rfl rfl rfl ?_
  refine RL.mv rfl rfl rfl ?_
  obtain ⟨y6, e7, hm⟩ := bind_some hm
  refine RL.callC (v := .int .i64 y6) (vs := [v0, .int .i64 x1]) Try_fit41 rfl rfl rfl rfl (fun U w hU hW hL => power_Check_c U w hU _ _ (hL 0 _ _ rfl Seen.imm) x1 _ e7) ?_
  refine RL.asg rfl rfl rfl ?_
  refine RL.finG ?_
  refine GL.seq ?_
  refine GL.region ?_
  refine RL.mv rfl rfl rfl ?_
  refine RL.binI (v := .bool (y6 != (0 : Int))) rfl rfl rfl rfl rfl ?_
  refine RL.finG ?_
  refine GL.cond rfl (fun b8 => ?_) (fun b8 => ?_)
  · replace hm := ite_t b8 hm
    refine GL.seq ?_
    refine GL.region ?_
    refine RL.mv rfl rfl rfl ?_
    refine RL.asg rfl rfl rfl ?_
    refine RL.asg rfl rfl rfl ?_
    refine RL.finG ?_
    have hm := Option.some.inj hm
    subst hm
    exact GL.ret (Gx.ret (v := .tuple #[.bool false, .int .i64 y6]) (res2 rfl rfl rfl) (fun a w st => st.toPostC rfl))
  · replace hm := ite_f b8 hm
    refine GL.skip ?_
    refine GL.seq ?_
    refine GL.seq ?_
    obtain ⟨y16, K17, h18, h19, h20, h21, h22⟩ := bindR_K hm
    refine GL.join (ι := Bool) (fun (p : Bool) => [(0, v0), (1, .int .i64 x1), (2, .int .i64 x2), (23, .bool p)]) (fun (p : Bool) => [imm (TR.sl TR.int) v0 x0]) (fun (p : Bool) => K17 (.nx p)) ?_ ?_
    · skip
      refine GL.region ?_
      refine RL.mv rfl rfl rfl ?_
      refine RL.binI (v := .bool (decide (x2 < (0 : Int)))) rfl rfl rfl rfl rfl ?_
      refine RL.mv rfl rfl rfl ?_
      refine RL.split (t := 17) rfl (fun b23 => ?_) (fun b23 => ?_)
      · replace h18 := ite_t b23 h18
        refine RL.skip rfl rfl ?_
        refine RL.skip rfl rfl ?_
        refine RL.skip rfl rfl ?_
        refine RL.skip rfl rfl ?_
        refine RL.skip rfl rfl ?_
        refine RL.pickT rfl rfl rfl rfl ?_
        refine RL.fin ?_
        cases h18
        exact fun a w st => mid_intro true h19 (St.cut [0] ⟨rfl, rfl, rfl, rfl, trivial⟩ (by decide) rfl st)
      · replace h18 := ite_f b23 h18
        refine RL.mv rfl rfl rfl ?_
        refine RL.mv rfl rfl rfl ?_
        refine RL.lenS 0 Try.underlying22 rfl rfl rfl rfl SlOf.imm ?_
        obtain ⟨y24, e25, h18⟩ := bind_some h18
        replace e25 := chk_some e25
        refine RL.sh (by simp) rfl rfl rfl rfl e25 ?_
        refine RL.binI (v := .bool (decide (x2 ≥ (IntKind.wrap .i64 ((1 : Int) * 2 ^ (min ((x0).length : Int).toNat (IntKind.bits .i64))))))) rfl rfl rfl rfl rfl ?_
        refine RL.pickF rfl rfl rfl rfl ?_
        refine RL.fin ?_
        cases h18
        exact fun a w st => mid_intro (decide (x2 ≥ (IntKind.wrap .i64 ((1 : Int) * 2 ^ (min ((x0).length : Int).toNat (IntKind.bits .i64)))))) h19 (St.cut [0] ⟨rfl, rfl, rfl, rfl, trivial⟩ (by decide) rfl st)
    · rintro x15 h26
      have h27 := h20 _ h26
      try dsimp only at h27
      refine GL.weak (env' := [(0, v0), (1, .int .i64 x1), (2, .int .i64 x2), (23, .bool x15)]) (L' := [imm (TR.sl TR.int) v0 x0]) (fun _ _ st => st) ?_
      refine GL.cond rfl (fun b28 => ?_) (fun b28 => ?_)
      · replace h27 := ite_t b28 h27
        refine GL.seq ?_
        refine GL.region ?_
        refine RL.asg rfl rfl rfl ?_
        refine RL.asg rfl rfl rfl ?_
        refine RL.finG ?_
        have h27 := Option.some.inj h27
        subst h27
        exact GL.ret (Gx.ret (v := .tuple #[.bool false, .int .i64 (1 : Int)]) (res2 rfl rfl rfl) (fun a w st => st.toPostC rfl))
      · replace h27 := ite_f b28 h27
        refine GL.skip ?_
        refine GL.seq ?_
        refine GL.region ?_
        refine RL.mv rfl rfl rfl ?_
        refine RL.mv rfl rfl rfl ?_
        refine RL.mv rfl rfl rfl ?_
        obtain ⟨y31, e32, h27⟩ := bind_some h27
        refine RL.callC (v := .bool y31) (vs := [v0, .int .i64 x1, .int .i64 x2]) Try_fit42 rfl rfl rfl rfl (fun U w hU hW hL => power_wins_c U w hU _ _ (hL 0 _ _ rfl Seen.imm) x1 x2 _ e32) ?_
        refine RL.asg rfl rfl rfl ?_
        refine RL.asg rfl rfl rfl ?_
        refine RL.finG ?_
        have h27 := Option.some.inj h27
        subst h27
        exact GL.ret (Gx.ret (v := .tuple #[.bool y31, .int .i64 (0 : Int)]) (res2 rfl rfl rfl) (fun a w st => st.toPostC rfl))

set_option maxHeartbeats 4000000 in
theorem slices_Clone_int_int_c (S : Hp) (w : World) (hS : S.sub w) (v0 : Value) (x0 : List Int) (k0 : (TR.sl TR.int).vrep S v0 x0) (res : List Int) (hm : slices_Clone_int_int_m x0 = some res) : Calls Try.prog 29 #[v0] w (Post w S (fun (o : Value) => o) (fun (o : Value) => [own 3 TR.int o res])) := by
  refine calls_enter 8 Try.func29 Try.ntmps29 rfl S false [(0, v0)] [imm (TR.sl TR.int) v0 x0] rfl ⟨rfl, trivial⟩ hS ⟨k0, trivial⟩ ?_
  unfold slices_Clone_int_int_m at hm
  obtain ⟨_, hc, hm⟩ := bind_some hm
  replace hc := chk_some hc
  have hm := Option.some.inj hm
  subst hm
  refine GL.seq (GL.region (RL.asg rfl rfl rfl (RL.finG (GL.seq (GL.seq (GL.region ?_))))))
  refine RL.mv rfl rfl rfl ?_
  refine RL.eqNil 0 Try.underlying22 rfl rfl rfl rfl rfl SlOf.imm (fun b hb => ?_)
  refine RL.finG (GL.cond rfl (fun h => ?_) (fun h => ?_))
  · have := hb h
    subst this
    refine GL.seq (GL.region (RL.asg rfl rfl rfl (RL.finG ?_)))
    refine GL.weak (fun a w st => st.nilOwn 3 TR.int) ?_
    exact GL.ret (Gx.ret (v := Value.slice none 0 0) (res1 rfl rfl) (fun a w st => (st.pick [1] (by decide) rfl).toPost (Value.slice none 0 0)))
  · refine GL.skip (GL.seq (GL.region ?_))
    refine RL.bS (t := TR.int) (vs := []) ([] : List Int) Try.underlying22 Try_lo3 rfl rfl rfl rfl trivial rfl (by decide) ?_
    intro v1
    refine RL.mv rfl rfl rfl ?_
    refine RL.app 1 0 Try.underlying22 Try_lo3 rfl rfl rfl rfl rfl rfl rfl SlOf.imm (by simpa using hc) ?_
    intro v2
    refine RL.asg rfl rfl rfl (RL.finG ?_)
    exact GL.ret (Gx.ret (v := v2) (res1 rfl rfl) (fun a w st => (st.pick [1] (by decide) rfl).toPost v2))

set_option maxHeartbeats 4000000 in
theorem pk_PowerScaled_c (S : Hp) (w : World) (hS : S.sub w) (v0 : Value) (x0 : (List Int)) (k0 : ((TR.sl TR.int)).vrep S v0 x0) (x1 : Int) (x2 : Int) (x3 : Int) (res : Bool) (hm : pk_PowerScaled_m x0 x1 x2 x3 = some res) : Calls Try.prog 11 #[v0, .int .i64 x1, .int .i64 x2, .int .i64 x3] w (PostV w (.bool res)) := by
  refine calls_enter 125 Try.func11 Try.ntmps11 rfl S false [(0, v0), (1, .int .i64 x1), (2, .int .i64 x2), (3, .int .i64 x3)] [imm (TR.sl TR.int) v0 x0] rfl ⟨rfl, ⟨rfl, ⟨rfl, ⟨rfl, trivial⟩⟩⟩⟩ hS ⟨k0, trivial⟩ ?_
  unfold pk_PowerScaled_m at hm
  refine GL.seq ?_
  refine GL.region ?_
  refine RL.asg rfl rfl rfl ?_
  refine RL.finG ?_
  refine GL.seq ?_
  refine GL.seq ?_
  refine GL.region ?_
  obtain ⟨y7, e8, hm⟩ := bind_some hm
  refine RL.callV (v := .bool y7) (vs := []) Try_fit22 rfl (Or.inl rfl) rfl rfl rfl rfl (fun U w hU hW hL => pk_powers_c U w hU  _ e8) ?_
  refine RL.notB rfl rfl rfl ?_
  refine RL.finG ?_
  refine GL.cond rfl (fun b9 => ?_) (fun b9 => ?_)
  · replace hm := ite_t b9 hm
    refine GL.seq ?_
    refine GL.region ?_
    refine RL.asg rfl rfl rfl ?_
    refine RL.finG ?_
    have hm := Option.some.inj hm
    subst hm
    exact GL.ret (Gx.ret (v := .bool false) (res1 rfl rfl) (fun a w st => st.toPostV))
  · replace hm := ite_f b9 hm
    refine GL.skip ?_
    refine GL.seq ?_
    refine GL.region ?_
    refine RL.mv rfl rfl rfl ?_
    refine RL.mv rfl rfl rfl ?_
    obtain ⟨y13, e14, hm⟩ := bind_some hm
    refine RL.call (vs := [v0, .int .i64 x1]) Try_fit23 rfl rfl rfl rfl rfl (fun S f w hS hW hi => pk_WeightsOf_c S w hS _ _ (hi 0 _ rfl) x1 _ e14) ?_
    intro v15
    refine RL.mv rfl rfl rfl ?_
    refine RL.ext rfl rfl rfl rfl ?_
    refine RL.ext rfl rfl rfl rfl ?_
    refine RL.asg rfl rfl rfl ?_
    refine RL.asg rfl rfl rfl ?_
    refine RL.finG ?_
    refine GL.seq ?_
    refine GL.region ?_
    refine RL.mv rfl rfl rfl ?_
    obtain ⟨y18, e19, hm⟩ := bind_some hm
    refine RL.callC (v := .int .i64 y18) (vs := [.int .i64 x2, .int .i64 (40 : Int)]) Try_fit15 rfl rfl rfl rfl (fun U w hU hW hL => pk_Within_c U w hU x2 (40 : Int) _ e19) ?_
    refine RL.binI (v := .int .i64 (wadd (1 : Int) y18)) rfl rfl rfl rfl rfl ?_
    refine RL.asg rfl rfl rfl ?_
    refine RL.finG ?_
    refine GL.seq ?_
    refine GL.region ?_
    refine RL.asg rfl rfl rfl ?_
    refine RL.finG ?_
    refine GL.seq ?_
    refine GL.seq ?_
    refine GL.region ?_
    refine RL.mv rfl rfl rfl ?_
    refine RL.lenS 1 Try.underlying22 rfl rfl rfl rfl SlOf.own ?_
    refine RL.mv rfl rfl rfl ?_
    refine RL.finG ?_
    refine GL.weak (fun a w st => st.nilOwn 3 TR.int) ?_
    refine GL.lenOwn 1 rfl (fun n34 => ?_)
    obtain ⟨y35, K36, h37, h38, h39, h40, h41⟩ := bindR_K hm
    refine GL.join (ι := (List Int) × Value) (fun (p : (List Int) × Value) => [(2, .int .i64 (wadd (1 : Int) y18)), (3, .int .i64 x3), (9, v15), (10, .int .i64 y13.2), (11, p.2)]) (fun (p : (List Int) × Value) => [own 3 TR.int v15 y13.1, own 3 TR.int p.2 p.1]) (fun (p : (List Int) × Value) => K36 (.nx p.1)) ?_ ?_
    · refine GL.block ?_
      refine GL.loop (ι := Nat × Nat × (List Int) × Value) (fun (p : Nat × Nat × (List Int) × Value) => [(2, .int .i64 (wadd (1 : Int) y18)), (3, .int .i64 x3), (9, v15), (10, .int .i64 y13.2), (11, p.2.2.2), (35, v15), (36, .int .i64 ((y13.1).length : Int)), (37, .int .i64 (p.1 : Int))]) (fun (p : Nat × Nat × (List Int) × Value) => [own 3 TR.int v15 y13.1, own 3 TR.int p.2.2.2 p.2.2.1]) (fun (p : Nat × Nat × (List Int) × Value) => p.1 + p.2.1 = (y13.1).length ∧ rangeN (pk_PowerScaled_b1 y13 y18) p.2.1 p.1 p.2.2.1 = some y35) (fun (p : Nat × Nat × (List Int) × Value) => p.2.1) (0, (y13.1).length, [], Value.slice none 0 0) ⟨by simp, h37⟩ (fun a w st => St.cut [1, 2] ⟨rfl, rfl, rfl, rfl, rfl, rfl, rfl, rfl, trivial⟩ (by decide) rfl st) ?_
      rintro ⟨i42, r43, l20, v21⟩ ⟨h48, h47⟩
      try dsimp only at h48 h47
      refine GL.weak (env' := [(2, .int .i64 (wadd (1 : Int) y18)), (3, .int .i64 x3), (9, v15), (10, .int .i64 y13.2), (11, v21), (35, v15), (36, .int .i64 ((y13.1).length : Int)), (37, .int .i64 (i42 : Int))]) (L' := [own 3 TR.int v15 y13.1, own 3 TR.int v21 l20]) (fun _ _ st => st) ?_
      refine GL.seq ?_
      refine GL.region ?_
      refine RL.binI (v := .bool (decide ((i42 : Int) < ((y13.1).length : Int)))) rfl rfl rfl rfl rfl ?_
      refine RL.finG ?_
      refine GL.seq ?_
      refine GL.cond rfl (fun b50 => ?_) (fun b50 => ?_)
      · have h51 : i42 < (y13.1).length := by have := of_decide_eq_true b50; omega
        obtain ⟨r52, hr⟩ : ∃ m, r43 = m + 1 := ⟨r43 - 1, by omega⟩
        subst hr
        obtain ⟨z44, h45, h46⟩ := rangeN_some h47
        unfold pk_PowerScaled_b1 at h45
        try dsimp only at h45
        refine GL.skip ?_
        refine GL.seq ?_
        refine GL.block ?_
        refine GL.seq ?_
        refine GL.region ?_
        obtain ⟨y55, e56, h45⟩ := bind_some h45
        refine RL.idxS (sz := 1) 0 Try.underlying22 Try_ln3 rfl rfl rfl rfl rfl SlOf.own (idx_some e56).1 (idx_some e56).2.1 ?_
        refine RL.ldSx (i := i42) (e' := y55) 0 Ex.ik Try_ln3 rfl rfl rfl rfl SlOf.own (idx_some e56).2.2 Part.self ?_
        refine RL.asg rfl rfl rfl ?_
        refine RL.finG ?_
        refine GL.region ?_
        refine RL.mv rfl rfl rfl ?_
        refine RL.mv rfl rfl rfl ?_
        refine RL.mv rfl rfl rfl ?_
        refine RL.binI (v := .int .i64 (wmul y55 (wadd (1 : Int) y18))) rfl rfl rfl rfl rfl ?_
        refine RL.bS (t := TR.int) (vs := [.int .i64 (wmul y55 (wadd (1 : Int) y18))]) ([wmul y55 (wadd (1 : Int) y18)] : (List Int)) Try.underlying22 Try_lo3 rfl rfl rfl rfl ⟨VR.int, trivial⟩ rfl (by decide) ?_
        intro v61
        obtain ⟨y62, e63, h45⟩ := bind_some h45
        replace e63 := chk_some e63
        refine RL.app 1 2 Try.underlying22 Try_lo3 rfl rfl rfl rfl rfl rfl rfl SlOf.own e63 ?_
        intro v64
        refine RL.reL (L' := [own 3 TR.int v15 y13.1, own 3 TR.int v64 (l20 ++ ([wmul y55 (wadd (1 : Int) y18)] : (List Int))), own 3 TR.int v61 ([wmul y55 (wadd (1 : Int) y18)] : (List Int))]) rfl ?_
        refine RL.asg rfl rfl rfl ?_
        refine RL.finG ?_
        refine GL.nilB ?_
        refine GL.region ?_
        refine RL.binI (v := .int .i64 ((i42 + 1 : Nat) : Int)) rfl rfl rfl rfl (binI_succ i42 (by omega)) ?_
        refine RL.mv rfl rfl rfl ?_
        refine RL.fin ?_
        cases h45
        exact fun a w st => lop_intro (i42 + 1, r52, (l20 ++ ([wmul y55 (wadd (1 : Int) y18)] : (List Int))), v64) ⟨by show i42 + 1 + r52 = (y13.1).length; omega, h46⟩ (by simp) (St.cut [0, 1] ⟨rfl, rfl, rfl, rfl, rfl, rfl, rfl, rfl, trivial⟩ (by decide) rfl st)
      · have h51 : ¬ i42 < (y13.1).length := by have := of_decide_eq_false b50; omega
        obtain rfl : r43 = 0 := by omega
        replace h47 : some (Fl.nx _) = some y35 := h47
        cases h47
        exact GL.exit (fun a w st => mid_intro (l20, v21) h38 (St.cut [0, 1] ⟨rfl, rfl, rfl, rfl, rfl, trivial⟩ (by decide) rfl st))
    · rintro ⟨l20, v21⟩ h65
      have h66 := h39 _ h65
      try dsimp only at h66
      refine GL.weak (env' := [(2, .int .i64 (wadd (1 : Int) y18)), (3, .int .i64 x3), (9, v15), (10, .int .i64 y13.2), (11, v21)]) (L' := [own 3 TR.int v15 y13.1, own 3 TR.int v21 l20]) (fun _ _ st => st) ?_
      refine GL.seq ?_
      refine GL.region ?_
      refine RL.mv rfl rfl rfl ?_
      refine RL.mv rfl rfl rfl ?_
      obtain ⟨y70, e71, h66⟩ := bind_some h66
      refine RL.callU (vs := [v15, .int .i64 y13.2]) (LR := fun (o : Value) => [own 3 TR.int o y70.1]) (fun o => ⟨Loc.own TR.flatT_ik, trivial⟩) Try_fit25 rfl rfl rfl rfl rfl (fun U w hU hW hL => power_Swings_c U w hU _ _ (hL 0 _ _ rfl Seen.own) y13.2 _ e71) ?_
      intro v72
      refine RL.mv rfl rfl rfl ?_
      refine RL.ext rfl rfl rfl rfl ?_
      refine RL.ext rfl rfl rfl rfl ?_
      refine RL.asg rfl rfl rfl ?_
      refine RL.asg rfl rfl rfl ?_
      refine RL.finG ?_
      refine GL.seq ?_
      refine GL.region ?_
      refine RL.mv rfl rfl rfl ?_
      refine RL.mv rfl rfl rfl ?_
      refine RL.mv rfl rfl rfl ?_
      refine RL.binI (v := .int .i64 (wmul y13.2 (wadd (1 : Int) y18))) rfl rfl rfl rfl rfl ?_
      obtain ⟨y76, e77, h66⟩ := bind_some h66
      refine RL.callU (vs := [v21, .int .i64 (wmul y13.2 (wadd (1 : Int) y18))]) (LR := fun (o : Value) => [own 3 TR.int o y76.1]) (fun o => ⟨Loc.own TR.flatT_ik, trivial⟩) Try_fit25 rfl rfl rfl rfl rfl (fun U w hU hW hL => power_Swings_c U w hU _ _ (hL 1 _ _ rfl Seen.own) (wmul y13.2 (wadd (1 : Int) y18)) _ e77) ?_
      intro v78
      refine RL.mv rfl rfl rfl ?_
      refine RL.ext rfl rfl rfl rfl ?_
      refine RL.ext rfl rfl rfl rfl ?_
      refine RL.asg rfl rfl rfl ?_
      refine RL.asg rfl rfl rfl ?_
      refine RL.finG ?_
      refine GL.seq ?_
      refine GL.region ?_
      refine RL.mv rfl rfl rfl ?_
      refine RL.mv rfl rfl rfl ?_
      refine RL.lenS 0 Try.underlying22 rfl rfl rfl rfl SlOf.own ?_
      obtain ⟨y83, e84, h66⟩ := bind_some h66
      replace e84 := chk_some e84
      refine RL.sh (by simp) rfl rfl rfl rfl e84 ?_
      obtain ⟨y85, e86, h66⟩ := bind_some h66
      refine RL.callC (v := .int .i64 y85) (vs := [.int .i64 x3, .int .i64 (IntKind.wrap .i64 ((1 : Int) * 2 ^ (min ((y13.1).length : Int).toNat (IntKind.bits .i64))))]) Try_fit15 rfl rfl rfl rfl (fun U w hU hW hL => pk_Within_c U w hU x3 (IntKind.wrap .i64 ((1 : Int) * 2 ^ (min ((y13.1).length : Int).toNat (IntKind.bits .i64)))) _ e86) ?_
      refine RL.asg rfl rfl rfl ?_
      refine RL.finG ?_
      refine GL.seq ?_
      refine GL.region ?_
      refine RL.mv rfl rfl rfl ?_
      refine RL.mv rfl rfl rfl ?_
      refine RL.mv rfl rfl rfl ?_
      obtain ⟨y89, e90, h66⟩ := bind_some h66
      refine RL.callC (v := .tuple #[.bool y89.1, .int .i64 y89.2]) (vs := [v15, .int .i64 y13.2, .int .i64 y85]) Try_fit28 rfl rfl rfl rfl (fun U w hU hW hL => power_Wins_c U w hU _ _ (hL 0 _ _ rfl Seen.own) y13.2 y85 _ e90) ?_
      refine RL.mv rfl rfl rfl ?_
      refine RL.ext rfl rfl rfl rfl ?_
      refine RL.ext rfl rfl rfl rfl ?_
      refine RL.asg rfl rfl rfl ?_
      refine RL.asg rfl rfl rfl ?_
      refine RL.finG ?_
      refine GL.seq ?_
      refine GL.region ?_
      refine RL.mv rfl rfl rfl ?_
      refine RL.mv rfl rfl rfl ?_
      refine RL.mv rfl rfl rfl ?_
      refine RL.binI (v := .int .i64 (wmul y13.2 (wadd (1 : Int) y18))) rfl rfl rfl rfl rfl ?_
      refine RL.mv rfl rfl rfl ?_
      obtain ⟨y93, e94, h66⟩ := bind_some h66
      refine RL.callC (v := .tuple #[.bool y93.1, .int .i64 y93.2]) (vs := [v21, .int .i64 (wmul y13.2 (wadd (1 : Int) y18)), .int .i64 y85]) Try_fit28 rfl rfl rfl rfl (fun U w hU hW hL => power_Wins_c U w hU _ _ (hL 1 _ _ rfl Seen.own) (wmul y13.2 (wadd (1 : Int) y18)) y85 _ e94) ?_
      refine RL.mv rfl rfl rfl ?_
      refine RL.ext rfl rfl rfl rfl ?_
      refine RL.ext rfl rfl rfl rfl ?_
      refine RL.asg rfl rfl rfl ?_
      refine RL.asg rfl rfl rfl ?_
      refine RL.finG ?_
      refine GL.seq ?_
      refine GL.seq ?_
      obtain ⟨y110, K111, h112, h113, h114, h115, h116⟩ := bindR_K h66
      refine GL.join (ι := Bool) (fun (p : Bool) => [(3, .int .i64 y85), (9, v15), (10, .int .i64 y13.2), (18, .bool y89.1), (100, .bool p)]) (fun (p : Bool) => [own 3 TR.int v15 y13.1]) (fun (p : Bool) => K111 (.nx p)) ?_ ?_
      · skip
        refine GL.region ?_
        refine RL.mv rfl rfl rfl ?_
        refine RL.mv rfl rfl rfl ?_
        refine RL.mv rfl rfl rfl ?_
        refine RL.mv rfl rfl rfl ?_
        refine RL.bS (t := TR.int) (vs := [.int .i64 y70.2, .int .i64 y76.2, .int .i64 y89.2, .int .i64 y93.2]) ([y70.2, y76.2, y89.2, y93.2] : (List Int)) Try.underlying53 Try_lo26 rfl rfl rfl rfl ⟨VR.int, ⟨VR.int, ⟨VR.int, ⟨VR.int, trivial⟩⟩⟩⟩ rfl (by decide) ?_
        intro v117
        obtain ⟨y118, e119, h112⟩ := bind_some h112
        refine RL.callV (v := .bool y118) (vs := [v117]) Try_fit18 rfl (Or.inl rfl) rfl rfl rfl rfl (fun U w hU hW hL => pk_good_c U w hU _ _ (hL 4 _ _ rfl Seen.own) _ e119) ?_
        refine RL.notB rfl rfl rfl ?_
        refine RL.mv rfl rfl rfl ?_
        refine RL.split (t := 90) rfl (fun b120 => ?_) (fun b120 => ?_)
        · replace h112 := ite_t b120 h112
          refine RL.skip rfl rfl ?_
          refine RL.skip rfl rfl ?_
          refine RL.skip rfl rfl ?_
          refine RL.skip rfl rfl ?_
          refine RL.pickT rfl rfl rfl rfl ?_
          refine RL.mv rfl rfl rfl ?_
          refine RL.skip rfl rfl ?_
          refine RL.skip rfl rfl ?_
          refine RL.skip rfl rfl ?_
          refine RL.pickT rfl rfl rfl rfl ?_
          refine RL.fin ?_
          cases h112
          exact fun a w st => mid_intro true h113 (St.cut [0] ⟨rfl, rfl, rfl, rfl, rfl, trivial⟩ (by decide) rfl st)
        · replace h112 := ite_f b120 h112
          refine RL.mv rfl rfl rfl ?_
          refine RL.mv rfl rfl rfl ?_
          obtain ⟨y121, e122, h112⟩ := bind_some h112
          refine RL.callV (v := .bool y121) (vs := [v72, v78]) Try_fit20 rfl (Or.inl rfl) rfl rfl rfl rfl (fun U w hU hW hL => slices_Equal_int_int_c U w hU _ _ (hL 2 _ _ rfl Seen.own) _ _ (hL 3 _ _ rfl Seen.own) _ e122) ?_
          refine RL.notB rfl rfl rfl ?_
          refine RL.pickF rfl rfl rfl rfl ?_
          refine RL.mv rfl rfl rfl ?_
          refine RL.split (t := 96) rfl (fun b123 => ?_) (fun b123 => ?_)
          · replace h112 := ite_t b123 h112
            refine RL.skip rfl rfl ?_
            refine RL.skip rfl rfl ?_
            refine RL.skip rfl rfl ?_
            refine RL.pickT rfl rfl rfl rfl ?_
            refine RL.fin ?_
            cases h112
            exact fun a w st => mid_intro true h113 (St.cut [0] ⟨rfl, rfl, rfl, rfl, rfl, trivial⟩ (by decide) rfl st)
          · replace h112 := ite_f b123 h112
            refine RL.mv rfl rfl rfl ?_
            refine RL.mv rfl rfl rfl ?_
            refine RL.neB Try.underlying4 rfl rfl rfl rfl ?_
            refine RL.pickF rfl rfl rfl rfl ?_
            refine RL.fin ?_
            cases h112
            exact fun a w st => mid_intro (!(y89.1 == y93.1)) h113 (St.cut [0] ⟨rfl, rfl, rfl, rfl, rfl, trivial⟩ (by decide) rfl st)
      · rintro x109 h124
        have h125 := h114 _ h124
        try dsimp only at h125
        refine GL.weak (env' := [(3, .int .i64 y85), (9, v15), (10, .int .i64 y13.2), (18, .bool y89.1), (100, .bool x109)]) (L' := [own 3 TR.int v15 y13.1]) (fun _ _ st => st) ?_
        refine GL.cond rfl (fun b126 => ?_) (fun b126 => ?_)
        · replace h125 := ite_t b126 h125
          refine GL.seq ?_
          refine GL.region ?_
          refine RL.asg rfl rfl rfl ?_
          refine RL.finG ?_
          have h125 := Option.some.inj h125
          subst h125
          exact GL.ret (Gx.ret (v := .bool false) (res1 rfl rfl) (fun a w st => st.toPostV))
        · replace h125 := ite_f b126 h125
          refine GL.skip ?_
          refine GL.seq ?_
          refine GL.seq ?_
          refine GL.region ?_
          refine RL.mv rfl rfl rfl ?_
          refine RL.lenS 0 Try.underlying22 rfl rfl rfl rfl SlOf.own ?_
          refine RL.binI (v := .bool (((y13.1).length : Int) == (6 : Int))) rfl rfl rfl rfl rfl ?_
          refine RL.finG ?_
          refine GL.cond rfl (fun b127 => ?_) (fun b127 => ?_)
          · replace h125 := ite_t b127 h125
            refine GL.seq ?_
            refine GL.region ?_
            refine RL.asg rfl rfl rfl ?_
            refine RL.finG ?_
            have h125 := Option.some.inj h125
            subst h125
            exact GL.ret (Gx.ret (v := .bool true) (res1 rfl rfl) (fun a w st => st.toPostV))
          · replace h125 := ite_f b127 h125
            refine GL.skip ?_
            refine GL.seq ?_
            refine GL.regionA rfl rfl ?_
            refine RA.mv 0 rfl (by kernel_rfl) rfl rfl rfl ?_
            refine RA.mv 4 rfl (by kernel_rfl) rfl rfl rfl ?_
            refine RA.mv 5 rfl (by kernel_rfl) rfl rfl rfl ?_
            refine RA.mv 6 rfl (by kernel_rfl) rfl rfl rfl ?_
            refine RA.lenS 0 Try.underlying22 7 rfl (by kernel_rfl) rfl rfl rfl rfl SlOf.own ?_
            obtain ⟨y149, e150, h125⟩ := bind_some h125
            replace e150 := chk_some e150
            refine RA.sh (by simp) 8 rfl (by kernel_rfl) rfl rfl rfl rfl e150 ?_
            refine RA.binI (v := .int .i64 (bits .or .i64 y85 (IntKind.wrap .i64 ((1 : Int) * 2 ^ (min ((y13.1).length : Int).toNat (IntKind.bits .i64)))))) 9 rfl (by kernel_rfl) rfl rfl rfl rfl rfl ?_
            obtain ⟨y151, e152, h125⟩ := bind_some h125
            refine RA.meet (ι := Value × Value) (fun (p : Value × Value) => [(18, .bool y89.1), (106, p.1), (107, p.2), (109, .int .i64 y13.2), (114, .int .i64 (bits .or .i64 y85 (IntKind.wrap .i64 ((1 : Int) * 2 ^ (min ((y13.1).length : Int).toNat (IntKind.bits .i64))))))]) (fun (p : Value × Value) => [own 3 TR.int p.1 y151, own 3 TR.int p.2 ([(0 : Int)] : (List Int))]) 7 #[true, true, true, false, true, true, true, true, true, true, false, false, false, false, false, false] (fun h158 => ?_) ?_
            · skip
              refine RA.meet (ι := Value) (fun (p : Value) => [(18, .bool y89.1), (105, v15), (107, p), (109, .int .i64 y13.2), (114, .int .i64 (bits .or .i64 y85 (IntKind.wrap .i64 ((1 : Int) * 2 ^ (min ((y13.1).length : Int).toNat (IntKind.bits .i64))))))]) (fun (p : Value) => [own 3 TR.int v15 y13.1, own 3 TR.int p ([(0 : Int)] : (List Int))]) 8 #[true, false, true, false, true, true, true, true, true, true, false, false, false, false, false, false] (fun h159 => ?_) ?_
              · skip
                refine RA.meet (ι := Value) (fun (p : Value) => [(18, .bool y89.1), (106, p), (109, .int .i64 y13.2), (114, .int .i64 (bits .or .i64 y85 (IntKind.wrap .i64 ((1 : Int) * 2 ^ (min ((y13.1).length : Int).toNat (IntKind.bits .i64))))))]) (fun (p : Value) => [own 3 TR.int p y151]) 8 #[true, true, false, false, true, true, true, true, true, true, false, false, false, false, false, false] (fun h160 => ?_) ?_
                · skip
                  refine RA.many [1, 2] (by kernel_rfl) ⟨⟨_, rfl, ?_⟩, ⟨_, rfl, ?_⟩, trivial⟩
                  · skip
                    refine RL.callU (vs := [v15]) (LR := fun (o : Value) => [own 3 TR.int o y151]) (fun o => ⟨Loc.own TR.flatT_ik, trivial⟩) Try_fit29 rfl rfl rfl rfl rfl (fun U w hU hW hL => slices_Clone_int_int_c U w hU _ _ (hL 0 _ _ rfl Seen.own) _ e152) ?_
                    intro v161
                    refine RL.fin ?_
                    refine RA.next ?_
                    refine RA.relist 8 #[true, true, false, false, true, true, true, true, true, true, false, false, false, false, false, false] rfl (by kernel_rfl) ?_
                    exact fun a w st => h160 v161 a w (St.cut [1] ⟨rfl, rfl, rfl, rfl, trivial⟩ (by decide) rfl st)
                  · skip
                    refine RL.bS (t := TR.int) (vs := [.int .i64 (0 : Int)]) ([(0 : Int)] : (List Int)) Try.underlying22 Try_lo3 rfl rfl rfl rfl ⟨VR.int, trivial⟩ rfl (by decide) ?_
                    intro v162
                    refine RL.fin ?_
                    refine RA.next ?_
                    refine RA.relist 8 #[true, false, true, false, true, true, true, true, true, true, false, false, false, false, false, false] rfl (by kernel_rfl) ?_
                    exact fun a w st => h159 v162 a w (St.cut [0, 1] ⟨rfl, rfl, rfl, rfl, rfl, trivial⟩ (by decide) rfl st)
                · rintro v155
                  refine RA.weak (env' := [(18, .bool y89.1), (106, v155), (109, .int .i64 y13.2), (114, .int .i64 (bits .or .i64 y85 (IntKind.wrap .i64 ((1 : Int) * 2 ^ (min ((y13.1).length : Int).toNat (IntKind.bits .i64))))))]) (L' := [own 3 TR.int v155 y151]) (fun _ _ st => st) ?_
                  refine RA.seq 2 rfl (by kernel_rfl) ?_
                  · skip
                    refine RL.bS (t := TR.int) (vs := [.int .i64 (0 : Int)]) ([(0 : Int)] : (List Int)) Try.underlying22 Try_lo3 rfl rfl rfl rfl ⟨VR.int, trivial⟩ rfl (by decide) ?_
                    intro v163
                    refine RL.fin ?_
                    refine RA.next ?_
                    refine RA.relist 7 #[true, true, true, false, true, true, true, true, true, true, false, false, false, false, false, false] rfl (by kernel_rfl) ?_
                    exact fun a w st => h158 (v155, v163) a w (St.cut [0, 1] ⟨rfl, rfl, rfl, rfl, rfl, trivial⟩ (by decide) rfl st)
              · rintro v156
                refine RA.weak (env' := [(18, .bool y89.1), (105, v15), (107, v156), (109, .int .i64 y13.2), (114, .int .i64 (bits .or .i64 y85 (IntKind.wrap .i64 ((1 : Int) * 2 ^ (min ((y13.1).length : Int).toNat (IntKind.bits .i64))))))]) (L' := [own 3 TR.int v15 y13.1, own 3 TR.int v156 ([(0 : Int)] : (List Int))]) (fun _ _ st => st) ?_
                refine RA.seq 1 rfl (by kernel_rfl) ?_
                · skip
                  refine RL.callU (vs := [v15]) (LR := fun (o : Value) => [own 3 TR.int o y151]) (fun o => ⟨Loc.own TR.flatT_ik, trivial⟩) Try_fit29 rfl rfl rfl rfl rfl (fun U w hU hW hL => slices_Clone_int_int_c U w hU _ _ (hL 0 _ _ rfl Seen.own) _ e152) ?_
                  intro v164
                  refine RL.fin ?_
                  refine RA.next ?_
                  refine RA.relist 7 #[true, true, true, false, true, true, true, true, true, true, false, false, false, false, false, false] rfl (by kernel_rfl) ?_
                  exact fun a w st => h158 (v164, v156) a w (St.cut [2, 1] ⟨rfl, rfl, rfl, rfl, rfl, trivial⟩ (by decide) rfl st)
            · rintro ⟨v157, v156⟩
              refine RA.weak (env' := [(18, .bool y89.1), (106, v157), (107, v156), (109, .int .i64 y13.2), (114, .int .i64 (bits .or .i64 y85 (IntKind.wrap .i64 ((1 : Int) * 2 ^ (min ((y13.1).length : Int).toNat (IntKind.bits .i64))))))]) (L' := [own 3 TR.int v157 y151, own 3 TR.int v156 ([(0 : Int)] : (List Int))]) (fun _ _ st => st) ?_
              refine RA.seq 3 rfl (by kernel_rfl) ?_
              obtain ⟨y165, e166, h125⟩ := bind_some h125
              replace e166 := chk_some e166
              refine RL.app 0 1 Try.underlying22 Try_lo3 rfl rfl rfl rfl rfl rfl rfl SlOf.own e166 ?_
              intro v167
              refine RL.fin ?_
              refine RA.next ?_
              refine RA.seq 10 rfl (by kernel_rfl) ?_
              obtain ⟨y168, e169, h125⟩ := bind_some h125
              refine RL.callC (v := .tuple #[.bool y168.1, .int .i64 y168.2]) (vs := [v167, .int .i64 y13.2, .int .i64 (bits .or .i64 y85 (IntKind.wrap .i64 ((1 : Int) * 2 ^ (min ((y13.1).length : Int).toNat (IntKind.bits .i64)))))]) Try_fit28 rfl rfl rfl rfl (fun U w hU hW hL => power_Wins_c U w hU _ _ (hL 0 _ _ rfl Seen.own) y13.2 (bits .or .i64 y85 (IntKind.wrap .i64 ((1 : Int) * 2 ^ (min ((y13.1).length : Int).toNat (IntKind.bits .i64))))) _ e169) ?_
              refine RL.fin ?_
              refine RA.next ?_
              refine RA.seq 11 rfl (by kernel_rfl) ?_
              refine RL.mv rfl rfl rfl ?_
              refine RL.fin ?_
              refine RA.next ?_
              refine RA.ext 12 rfl (by kernel_rfl) rfl rfl rfl rfl ?_
              refine RA.ext 13 rfl (by kernel_rfl) rfl rfl rfl rfl ?_
              refine RA.seq 14 rfl (by kernel_rfl) ?_
              refine RL.asg rfl rfl rfl ?_
              refine RL.fin ?_
              refine RA.next ?_
              refine RA.seq 15 rfl (by kernel_rfl) ?_
              refine RL.asg rfl rfl rfl ?_
              refine RL.fin ?_
              refine RA.next ?_
              refine RA.doneG (by kernel_rfl) ?_
              refine GL.weak (env' := [(18, .bool y89.1), (22, .bool y168.1), (23, .int .i64 y168.2)]) (L' := []) (fun a w st => St.cut [] ⟨rfl, rfl, rfl, trivial⟩ (by decide) rfl st) ?_
              refine GL.seq ?_
              obtain ⟨y173, K174, h175, h176, h177, h178, h179⟩ := bindR_K h125
              refine GL.join (ι := Bool) (fun (p : Bool) => [(8, .bool p)]) (fun (p : Bool) => []) (fun (p : Bool) => K174 (.nx p)) ?_ ?_
              · skip
                refine GL.region ?_
                refine RL.mv rfl rfl rfl ?_
                refine RL.binI (v := .bool (y168.2 == (0 : Int))) rfl rfl rfl rfl rfl ?_
                refine RL.mv rfl rfl rfl ?_
                refine RL.split (t := 120) rfl (fun b180 => ?_) (fun b180 => ?_)
                · replace h175 := ite_t b180 h175
                  refine RL.mv rfl rfl rfl ?_
                  refine RL.mv rfl rfl rfl ?_
                  refine RL.eqB Try.underlying4 rfl rfl rfl rfl ?_
                  refine RL.pickT rfl rfl rfl rfl ?_
                  refine RL.asg rfl rfl rfl ?_
                  refine RL.fin ?_
                  cases h175
                  exact fun a w st => mid_intro (y168.1 == y89.1) h176 (St.cut [] ⟨rfl, trivial⟩ (by decide) rfl st)
                · replace h175 := ite_f b180 h175
                  refine RL.skip rfl rfl ?_
                  refine RL.skip rfl rfl ?_
                  refine RL.skip rfl rfl ?_
                  refine RL.pickF rfl rfl rfl rfl ?_
                  refine RL.asg rfl rfl rfl ?_
                  refine RL.fin ?_
                  cases h175
                  exact fun a w st => mid_intro false h176 (St.cut [] ⟨rfl, trivial⟩ (by decide) rfl st)
              · rintro x172 h181
                have h182 := h177 _ h181
                try dsimp only at h182
                refine GL.weak (env' := [(8, .bool x172)]) (L' := []) (fun _ _ st => st) ?_
                have h182 := Option.some.inj h182
                subst h182
                exact GL.ret (Gx.ret (v := .bool x172) (res1 rfl rfl) (fun a w st => st.toPostV))
end Go.Wk
