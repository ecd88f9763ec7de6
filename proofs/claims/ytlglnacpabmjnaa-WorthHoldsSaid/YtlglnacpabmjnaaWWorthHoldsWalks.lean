/- Each function comes to what its model says; printed by a program of this repository. -/
import Derived.Test.YtlglnacpabmjnaaProg
import Derived.Test.YtlglnacpabmjnaaWWorthHoldsModels
namespace Go.Wk
open Go.Fw Go.Mo Go.Proofs Go.RowKit
set_option linter.unusedVariables false
set_option maxRecDepth 100000
theorem Try_info3 : (Try.prog.info? 3).map (fun i => (i.zero, i.size, i.bytes)) = some (some (.int .i64 0), 1, 8) := by kernel_rfl
theorem Try_ln3 : Ln Try.prog 3 1 false := Ln.of Try_info3 Try.underlying3 rfl
theorem Try_lo3 : LnO Try.prog 3 1 [.int .i64 0] := LnO.of Try_info3 rfl rfl (by decide) (by decide)
theorem Try_info26 : (Try.prog.info? 26).map (fun i => (i.zero, i.size, i.bytes)) = some (some (.int .i64 0), 1, 8) := by kernel_rfl
theorem Try_ln26 : Ln Try.prog 26 1 false := Ln.of Try_info26 Try.underlying26 rfl
theorem Try_lo26 : LnO Try.prog 26 1 [.int .i64 0] := LnO.of Try_info26 rfl rfl (by decide) (by decide)
theorem Try_fit14 : Fit Try.prog 14 := Fit.of Try.func14 (by kernel_rfl) rfl
theorem Try_fit15 : Fit Try.prog 15 := Fit.of Try.func15 (by kernel_rfl) rfl
theorem Try_fit16 : Fit Try.prog 16 := Fit.of Try.func16 (by kernel_rfl) rfl
theorem Try_fit17 : Fit Try.prog 17 := Fit.of Try.func17 (by kernel_rfl) rfl
theorem Try_fit18 : Fit Try.prog 18 := Fit.of Try.func18 (by kernel_rfl) rfl
theorem Try_fit20 : Fit Try.prog 20 := Fit.of Try.func20 (by kernel_rfl) rfl
theorem Try_fit26 : Fit Try.prog 26 := Fit.of Try.func26 (by kernel_rfl) rfl
theorem Try_fit27 : Fit Try.prog 27 := Fit.of Try.func27 (by kernel_rfl) rfl
theorem Try_fit33 : Fit Try.prog 33 := Fit.of Try.func33 (by kernel_rfl) rfl
theorem Try_fit34 : Fit Try.prog 34 := Fit.of Try.func34 (by kernel_rfl) rfl
theorem Try_fit35 : Fit Try.prog 35 := Fit.of Try.func35 (by kernel_rfl) rfl
theorem Try_fit36 : Fit Try.prog 36 := Fit.of Try.func36 (by kernel_rfl) rfl
theorem Try_fit37 : Fit Try.prog 37 := Fit.of Try.func37 (by kernel_rfl) rfl
theorem Try_fit38 : Fit Try.prog 38 := Fit.of Try.func38 (by kernel_rfl) rfl
theorem Try_fit45 : Fit Try.prog 45 := Fit.of Try.func45 (by kernel_rfl) rfl

set_option maxHeartbeats 4000000 in
theorem worth_Check_c (S : Hp) (w : World) (hS : S.sub w) (x0 : Int) (v1 : Value) (x1 : (List Int)) (k1 : ((TR.sl TR.int)).vrep S v1 x1) (res : Int) (hm : worth_Check_m x0 x1 = some res) : Calls Try.prog 34 #[.int .i64 x0, v1] w (PostC w (.int .i64 res)) := by
  refine calls_enter 35 Try.func34 Try.ntmps34 rfl S true [(0, .int .i64 x0), (1, v1)] [imm (TR.sl TR.int) v1 x1] rfl ⟨rfl, ⟨rfl, trivial⟩⟩ hS ⟨k1, trivial⟩ ?_
  unfold worth_Check_m at hm
  refine GL.seq ?_
  refine GL.region ?_
  refine RL.asg rfl rfl rfl ?_
  refine RL.finG ?_
  refine GL.seq ?_
  refine GL.seq ?_
  obtain ⟨y6, K7, h8, h9, h10, h11, h12⟩ := bindR_K hm
  refine GL.join (ι := Bool) (fun (p : Bool) => [(0, .int .i64 x0), (1, v1), (12, .bool p)]) (fun (p : Bool) => [imm (TR.sl TR.int) v1 x1]) (fun (p : Bool) => K7 (.nx p)) ?_ ?_
  · skip
    refine GL.region ?_
    refine RL.mv rfl rfl rfl ?_
    refine RL.binI (v := .bool (decide (x0 < (1 : Int)))) rfl rfl rfl rfl rfl ?_
    refine RL.mv rfl rfl rfl ?_
    refine RL.split (t := 9) rfl (fun b13 => ?_) (fun b13 => ?_)
    · replace h8 := ite_t b13 h8
      refine RL.skip rfl rfl ?_
      refine RL.skip rfl rfl ?_
      refine RL.pickT rfl rfl rfl rfl ?_
      refine RL.fin ?_
      cases h8
      exact fun a w st => mid_intro true h9 (St.cut [0] ⟨rfl, rfl, rfl, trivial⟩ (by decide) rfl st)
    · replace h8 := ite_f b13 h8
      refine RL.mv rfl rfl rfl ?_
      refine RL.binI (v := .bool (decide (x0 > (6 : Int)))) rfl rfl rfl rfl rfl ?_
      refine RL.pickF rfl rfl rfl rfl ?_
      refine RL.fin ?_
      cases h8
      exact fun a w st => mid_intro (decide (x0 > (6 : Int))) h9 (St.cut [0] ⟨rfl, rfl, rfl, trivial⟩ (by decide) rfl st)
  · rintro x5 h14
    have h15 := h10 _ h14
    try dsimp only at h15
    refine GL.weak (env' := [(0, .int .i64 x0), (1, v1), (12, .bool x5)]) (L' := [imm (TR.sl TR.int) v1 x1]) (fun _ _ st => st) ?_
    refine GL.cond rfl (fun b16 => ?_) (fun b16 => ?_)
    · replace h15 := ite_t b16 h15
      refine GL.seq ?_
      refine GL.region ?_
      refine RL.asg rfl rfl rfl ?_
      refine RL.finG ?_
      have h15 := Option.some.inj h15
      subst h15
      exact GL.ret (Gx.ret (v := .int .i64 (1 : Int)) (res1 rfl rfl) (fun a w st => st.toPostC rfl))
    · replace h15 := ite_f b16 h15
      refine GL.skip ?_
      refine GL.seq ?_
      refine GL.seq ?_
      refine GL.region ?_
      refine RL.mv rfl rfl rfl ?_
      refine RL.lenS 0 Try.underlying22 rfl rfl rfl rfl SlOf.imm ?_
      refine RL.mv rfl rfl rfl ?_
      obtain ⟨y19, e20, h15⟩ := bind_some h15
      replace e20 := chk_some e20
      refine RL.sh (by simp) rfl rfl rfl rfl e20 ?_
      refine RL.binI (v := .bool (((x1).length : Int) != (IntKind.wrap .i64 ((1 : Int) * 2 ^ (min x0.toNat (IntKind.bits .i64)))))) rfl rfl rfl rfl rfl ?_
      refine RL.finG ?_
      refine GL.cond rfl (fun b21 => ?_) (fun b21 => ?_)
      · replace h15 := ite_t b21 h15
        refine GL.seq ?_
        refine GL.region ?_
        refine RL.asg rfl rfl rfl ?_
        refine RL.finG ?_
        have h15 := Option.some.inj h15
        subst h15
        exact GL.ret (Gx.ret (v := .int .i64 (3 : Int)) (res1 rfl rfl) (fun a w st => st.toPostC rfl))
      · replace h15 := ite_f b21 h15
        refine GL.skip ?_
        refine GL.seq ?_
        refine GL.seq ?_
        refine GL.region ?_
        refine RL.mv rfl rfl rfl ?_
        refine RL.lenS 0 Try.underlying22 rfl rfl rfl rfl SlOf.imm ?_
        refine RL.mv rfl rfl rfl ?_
        refine RL.finG ?_
        refine GL.open_ 0 rfl (fun S h => len_imm S h) (fun n40 => ?_)
        obtain ⟨y41, K42, h43, h44, h45, h46, h47⟩ := bindR_K h15
        refine GL.join (ι := Unit) (fun (p : Unit) => [(1, v1)]) (fun (p : Unit) => [imm (TR.sl TR.int) v1 x1]) (fun (p : Unit) => K42 (.nx ())) ?_ ?_
        · refine GL.block ?_
          refine GL.loop (ι := Nat × (List Int)) (fun (p : Nat × (List Int)) => [(1, v1), (18, v1), (19, .int .i64 ((x1).length : Int)), (20, .int .i64 (p.1 : Int))]) (fun (p : Nat × (List Int)) => [imm (TR.sl TR.int) v1 x1]) (fun (p : Nat × (List Int)) => p.1 + p.2.length = (x1).length ∧ List.drop p.1 x1 = p.2 ∧ rangeL worth_Check_b1 p.2 p.1 () = some y41) (fun (p : Nat × (List Int)) => p.2.length) (0, x1) ⟨by simp, by simp, h43⟩ (fun a w st => St.cut [0] ⟨rfl, rfl, rfl, rfl, trivial⟩ (by decide) rfl st) ?_
          rintro ⟨i48, r49⟩ ⟨h54, h55, h53⟩
          try dsimp only at h54 h55 h53
          refine GL.weak (env' := [(1, v1), (18, v1), (19, .int .i64 ((x1).length : Int)), (20, .int .i64 (i48 : Int))]) (L' := [imm (TR.sl TR.int) v1 x1]) (fun _ _ st => st) ?_
          refine GL.seq ?_
          refine GL.region ?_
          refine RL.binI (v := .bool (decide ((i48 : Int) < ((x1).length : Int)))) rfl rfl rfl rfl rfl ?_
          refine RL.finG ?_
          refine GL.seq ?_
          refine GL.cond rfl (fun b56 => ?_) (fun b56 => ?_)
          · have h57 : i48 < (x1).length := by have := of_decide_eq_true b56; omega
            obtain ⟨y58, r60, hr, e59, h61⟩ := drop_cons h55 rfl h57
            subst hr
            obtain ⟨z50, h51, h52⟩ := rangeL_some h53
            unfold worth_Check_b1 at h51
            try dsimp only at h51
            refine GL.skip ?_
            refine GL.seq ?_
            refine GL.block ?_
            refine GL.seq ?_
            refine GL.region ?_
            refine RL.idxS (sz := 1) 0 Try.underlying22 Try_ln3 rfl rfl rfl rfl rfl SlOf.imm (by omega) (by omega) ?_
            refine RL.ldSx (i := i48) (e' := y58) 0 Ex.ik Try_ln3 rfl rfl rfl rfl SlOf.imm e59 Part.self ?_
            refine RL.asg rfl rfl rfl ?_
            refine RL.finG ?_
            refine GL.seq ?_
            obtain ⟨y65, K66, h67, h68, h69, h70, h71⟩ := bindF_K h51
            refine GL.join (ι := Bool) (fun (p : Bool) => [(1, v1), (18, v1), (19, .int .i64 ((x1).length : Int)), (20, .int .i64 (i48 : Int)), (29, .bool p)]) (fun (p : Bool) => [imm (TR.sl TR.int) v1 x1]) (fun (p : Bool) => K66 (.nx p)) ?_ ?_
            · skip
              refine GL.region ?_
              refine RL.mv rfl rfl rfl ?_
              refine RL.binI (v := .bool (decide (y58 < (-1000000 : Int)))) rfl rfl rfl rfl rfl ?_
              refine RL.mv rfl rfl rfl ?_
              refine RL.split (t := 26) rfl (fun b72 => ?_) (fun b72 => ?_)
              · replace h67 := ite_t b72 h67
                refine RL.skip rfl rfl ?_
                refine RL.skip rfl rfl ?_
                refine RL.pickT rfl rfl rfl rfl ?_
                refine RL.fin ?_
                cases h67
                exact fun a w st => mid_intro true h68 (St.cut [0] ⟨rfl, rfl, rfl, rfl, rfl, trivial⟩ (by decide) rfl st)
              · replace h67 := ite_f b72 h67
                refine RL.mv rfl rfl rfl ?_
                refine RL.binI (v := .bool (decide (y58 > (1000000 : Int)))) rfl rfl rfl rfl rfl ?_
                refine RL.pickF rfl rfl rfl rfl ?_
                refine RL.fin ?_
                cases h67
                exact fun a w st => mid_intro (decide (y58 > (1000000 : Int))) h68 (St.cut [0] ⟨rfl, rfl, rfl, rfl, rfl, trivial⟩ (by decide) rfl st)
            · rintro x64 h73
              have h74 := h69 _ h73
              try dsimp only at h74
              refine GL.weak (env' := [(1, v1), (18, v1), (19, .int .i64 ((x1).length : Int)), (20, .int .i64 (i48 : Int)), (29, .bool x64)]) (L' := [imm (TR.sl TR.int) v1 x1]) (fun _ _ st => st) ?_
              refine GL.cond rfl (fun b75 => ?_) (fun b75 => ?_)
              · replace h74 := ite_t b75 h74
                refine GL.seq ?_
                refine GL.region ?_
                refine RL.asg rfl rfl rfl ?_
                refine RL.finG ?_
                cases h74
                replace h52 : some (Fl.rt _) = some y41 := h52
                cases h52
                have hh := h46 _ h44
                subst hh
                exact GL.ret (Gx.ret (v := .int .i64 (1 : Int)) (res1 rfl rfl) (fun a w st => st.toPostC rfl))
              · replace h74 := ite_f b75 h74
                refine GL.skip ?_
                refine GL.nilB ?_
                refine GL.region ?_
                refine RL.binI (v := .int .i64 ((i48 + 1 : Nat) : Int)) rfl rfl rfl rfl (binI_succ i48 (by omega)) ?_
                refine RL.mv rfl rfl rfl ?_
                refine RL.fin ?_
                cases h74
                exact fun a w st => lop_intro (i48 + 1, r60) ⟨by show i48 + 1 + r60.length = (x1).length; simp only [List.length_cons] at h54; omega, h61, h52⟩ (by simp) (St.cut [0] ⟨rfl, rfl, rfl, rfl, trivial⟩ (by decide) rfl st)
          · have h57 : ¬ i48 < (x1).length := by have := of_decide_eq_false b56; omega
            obtain rfl : r49 = [] := by rw [← h55]; exact List.drop_of_length_le (by omega)
            replace h53 : some (Fl.nx _) = some y41 := h53
            cases h53
            exact GL.exit (fun a w st => mid_intro () h44 (St.cut [0] ⟨rfl, trivial⟩ (by decide) rfl st))
        · rintro ⟨⟩ h76
          have h77 := h45 _ h76
          try dsimp only at h77
          refine GL.weak (env' := [(1, v1)]) (L' := [imm (TR.sl TR.int) v1 x1]) (fun _ _ st => st) ?_
          refine GL.seq ?_
          refine GL.seq ?_
          refine GL.region ?_
          refine RL.mv rfl rfl rfl ?_
          obtain ⟨y80, e81, h77⟩ := bind_some h77
          refine RL.idxS (sz := 1) 0 Try.underlying22 Try_ln3 rfl rfl rfl rfl rfl SlOf.imm (idx_some e81).1 (idx_some e81).2.1 ?_
          refine RL.ldSx (i := ((0 : Int)).toNat) (e' := y80) 0 Ex.ik Try_ln3 rfl rfl rfl rfl SlOf.imm (idx_some e81).2.2 Part.self ?_
          refine RL.binI (v := .bool (y80 != (0 : Int))) rfl rfl rfl rfl rfl ?_
          refine RL.finG ?_
          refine GL.cond rfl (fun b82 => ?_) (fun b82 => ?_)
          · replace h77 := ite_t b82 h77
            refine GL.seq ?_
            refine GL.region ?_
            refine RL.asg rfl rfl rfl ?_
            refine RL.finG ?_
            have h77 := Option.some.inj h77
            subst h77
            exact GL.ret (Gx.ret (v := .int .i64 (3 : Int)) (res1 rfl rfl) (fun a w st => st.toPostC rfl))
          · replace h77 := ite_f b82 h77
            refine GL.skip ?_
            refine GL.seq ?_
            refine GL.region ?_
            refine RL.asg rfl rfl rfl ?_
            refine RL.finG ?_
            have h77 := Option.some.inj h77
            subst h77
            exact GL.ret (Gx.ret (v := .int .i64 (0 : Int)) (res1 rfl rfl) (fun a w st => st.toPostC rfl))

set_option maxHeartbeats 4000000 in
theorem worth_size_c (S : Hp) (w : World) (hS : S.sub w) (x0 : Int) (res : Int) (hm : worth_size_m x0 = some res) : Calls Try.prog 35 #[.int .i64 x0] w (PostC w (.int .i64 res)) := by
  refine calls_enter 13 Try.func35 Try.ntmps35 rfl S true [(0, .int .i64 x0)] [] rfl ⟨rfl, trivial⟩ hS trivial ?_
  unfold worth_size_m at hm
  refine GL.seq ?_
  refine GL.region ?_
  refine RL.asg rfl rfl rfl ?_
  refine RL.finG ?_
  refine GL.seq ?_
  refine GL.region ?_
  refine RL.asg rfl rfl rfl ?_
  refine RL.finG ?_
  refine GL.seq ?_
  obtain ⟨y13, K14, h15, h16, h17, h18, h19⟩ := bindR_K hm
  refine GL.join (ι := Int × Int) (fun (p : Int × Int) => [(3, .int .i64 p.2)]) (fun (p : Int × Int) => []) (fun (p : Int × Int) => K14 (.nx (p.1, p.2))) ?_ ?_
  · refine GL.block ?_
    refine GL.loop (ι := Nat × Int × Int) (fun (p : Nat × Int × Int) => [(0, .int .i64 p.2.1), (3, .int .i64 p.2.2)]) (fun (p : Nat × Int × Int) => []) (fun (p : Nat × Int × Int) => loopM worth_size_b1 p.1 (p.2.1, p.2.2) = some y13) (fun (p : Nat × Int × Int) => p.1) (1048576, x0, (0 : Int)) h15 (fun a w st => St.cut [] ⟨rfl, rfl, trivial⟩ (by decide) rfl st) ?_
    rintro ⟨r21, x2, x3⟩ h25
    try dsimp only at h25
    refine GL.weak (env' := [(0, .int .i64 x2), (3, .int .i64 x3)]) (L' := []) (fun _ _ st => st) ?_
    obtain ⟨r28, z22, hr, h23, h24⟩ := loopM_some h25
    subst hr
    unfold worth_size_b1 at h23
    try dsimp only at h23
    refine GL.seq ?_
    refine GL.seq ?_
    refine GL.region ?_
    refine RL.mv rfl rfl rfl ?_
    refine RL.binI (v := .bool (decide (x2 > (0 : Int)))) rfl rfl rfl rfl rfl ?_
    refine RL.finG ?_
    refine GL.cond rfl (fun b29 => ?_) (fun b29 => ?_)
    · replace h23 := ite_t b29 h23
      refine GL.skip ?_
      refine GL.seq ?_
      refine GL.block ?_
      refine GL.region ?_
      refine RL.mv rfl rfl rfl ?_
      refine RL.mv rfl rfl rfl ?_
      obtain ⟨y32, e33, h23⟩ := bind_some h23
      replace e33 := chk_some e33
      refine RL.rem rfl rfl rfl rfl e33 ?_
      refine RL.binI (v := .int .i64 (wadd x3 (Int.tmod x2 (2 : Int)))) rfl rfl rfl rfl rfl ?_
      refine RL.asg rfl rfl rfl ?_
      refine RL.finG ?_
      refine GL.nilB ?_
      refine GL.region ?_
      refine RL.mv rfl rfl rfl ?_
      obtain ⟨y36, e37, h23⟩ := bind_some h23
      replace e37 := chk_some e37
      refine RL.quo rfl rfl rfl rfl e37 ?_
      refine RL.asg rfl rfl rfl ?_
      refine RL.finG ?_
      cases h23
      exact fun a w st => lop_intro (r28, IntKind.wrap .i64 (Int.tdiv x2 (2 : Int)), wadd x3 (Int.tmod x2 (2 : Int))) h24 (by simp) (St.cut [] ⟨rfl, rfl, trivial⟩ (by decide) rfl st)
    · replace h23 := ite_f b29 h23
      cases h23
      replace h24 : some (Fl.nx _) = some y13 := h24
      cases h24
      exact GL.exit (fun a w st => mid_intro (x2, x3) h16 (St.cut [] ⟨rfl, trivial⟩ (by decide) rfl st))
  · rintro ⟨x2, x3⟩ h38
    have h39 := h17 _ h38
    try dsimp only at h39
    refine GL.weak (env' := [(3, .int .i64 x3)]) (L' := []) (fun _ _ st => st) ?_
    refine GL.seq ?_
    refine GL.region ?_
    refine RL.mv rfl rfl rfl ?_
    refine RL.asg rfl rfl rfl ?_
    refine RL.finG ?_
    have h39 := Option.some.inj h39
    subst h39
    exact GL.ret (Gx.ret (v := .int .i64 x3) (res1 rfl rfl) (fun a w st => st.toPostC rfl))

set_option maxHeartbeats 4000000 in
theorem worth_factorial_c (S : Hp) (w : World) (hS : S.sub w) (x0 : Int) (res : Int) (hm : worth_factorial_m x0 = some res) : Calls Try.prog 36 #[.int .i64 x0] w (PostC w (.int .i64 res)) := by
  refine calls_enter 14 Try.func36 Try.ntmps36 rfl S true [(0, .int .i64 x0)] [] rfl ⟨rfl, trivial⟩ hS trivial ?_
  unfold worth_factorial_m at hm
  refine GL.seq ?_
  refine GL.region ?_
  refine RL.asg rfl rfl rfl ?_
  refine RL.finG ?_
  refine GL.seq ?_
  refine GL.region ?_
  refine RL.asg rfl rfl rfl ?_
  refine RL.finG ?_
  refine GL.seq ?_
  refine GL.seq ?_
  refine GL.region ?_
  refine RL.asg rfl rfl rfl ?_
  refine RL.finG ?_
  obtain ⟨y5, K6, h7, h8, h9, h10, h11⟩ := bindR_K hm
  refine GL.join (ι := Int × Int) (fun (p : Int × Int) => [(3, .int .i64 p.1)]) (fun (p : Int × Int) => []) (fun (p : Int × Int) => K6 (.nx (p.1, p.2))) ?_ ?_
  · refine GL.block ?_
    refine GL.loop (ι := Nat × Int × Int) (fun (p : Nat × Int × Int) => [(0, .int .i64 x0), (3, .int .i64 p.2.1), (4, .int .i64 p.2.2)]) (fun (p : Nat × Int × Int) => []) (fun (p : Nat × Int × Int) => loopM (worth_factorial_b1 x0) p.1 (p.2.1, p.2.2) = some y5) (fun (p : Nat × Int × Int) => p.1) (1048576, (1 : Int), (2 : Int)) h7 (fun a w st => St.cut [] ⟨rfl, rfl, rfl, trivial⟩ (by decide) rfl st) ?_
    rintro ⟨r13, x2, x3⟩ h17
    try dsimp only at h17
    refine GL.weak (env' := [(0, .int .i64 x0), (3, .int .i64 x2), (4, .int .i64 x3)]) (L' := []) (fun _ _ st => st) ?_
    obtain ⟨r20, z14, hr, h15, h16⟩ := loopM_some h17
    subst hr
    unfold worth_factorial_b1 at h15
    try dsimp only at h15
    refine GL.seq ?_
    refine GL.seq ?_
    refine GL.region ?_
    refine RL.mv rfl rfl rfl ?_
    refine RL.mv rfl rfl rfl ?_
    refine RL.binI (v := .bool (decide (x3 ≤ x0))) rfl rfl rfl rfl rfl ?_
    refine RL.finG ?_
    refine GL.cond rfl (fun b21 => ?_) (fun b21 => ?_)
    · replace h15 := ite_t b21 h15
      refine GL.skip ?_
      refine GL.seq ?_
      refine GL.block ?_
      refine GL.region ?_
      refine RL.mv rfl rfl rfl ?_
      refine RL.mv rfl rfl rfl ?_
      refine RL.binI (v := .int .i64 (wmul x2 x3)) rfl rfl rfl rfl rfl ?_
      refine RL.asg rfl rfl rfl ?_
      refine RL.finG ?_
      refine GL.nilB ?_
      refine GL.region ?_
      refine RL.mv rfl rfl rfl ?_
      refine RL.binI (v := .int .i64 (wadd x3 (1 : Int))) rfl rfl rfl rfl rfl ?_
      refine RL.asg rfl rfl rfl ?_
      refine RL.finG ?_
      cases h15
      exact fun a w st => lop_intro (r20, wmul x2 x3, wadd x3 (1 : Int)) h16 (by simp) (St.cut [] ⟨rfl, rfl, rfl, trivial⟩ (by decide) rfl st)
    · replace h15 := ite_f b21 h15
      cases h15
      replace h16 : some (Fl.nx _) = some y5 := h16
      cases h16
      exact GL.exit (fun a w st => mid_intro (x2, x3) h8 (St.cut [] ⟨rfl, trivial⟩ (by decide) rfl st))
  · rintro ⟨x2, x3⟩ h22
    have h23 := h9 _ h22
    try dsimp only at h23
    refine GL.weak (env' := [(3, .int .i64 x2)]) (L' := []) (fun _ _ st => st) ?_
    refine GL.seq ?_
    refine GL.region ?_
    refine RL.mv rfl rfl rfl ?_
    refine RL.asg rfl rfl rfl ?_
    refine RL.finG ?_
    have h23 := Option.some.inj h23
    subst h23
    exact GL.ret (Gx.ret (v := .int .i64 x2) (res1 rfl rfl) (fun a w st => st.toPostC rfl))

set_option maxHeartbeats 4000000 in
theorem worth_Share_c (S : Hp) (w : World) (hS : S.sub w) (x0 : Int) (v1 : Value) (x1 : (List Int)) (k1 : ((TR.sl TR.int)).vrep S v1 x1) (res : (List Int) × Int) (hm : worth_Share_m x0 x1 = some res) : Calls Try.prog 17 #[.int .i64 x0, v1] w (Post w S (fun (o : Value) => .tuple #[o, .int .i64 res.2]) (fun (o : Value) => [own 3 TR.int o res.1])) := by
  refine calls_enter 65 Try.func17 Try.ntmps17 rfl S false [(0, .int .i64 x0), (1, v1)] [imm (TR.sl TR.int) v1 x1] rfl ⟨rfl, ⟨rfl, trivial⟩⟩ hS ⟨k1, trivial⟩ ?_
  unfold worth_Share_m at hm
  refine GL.seq ?_
  refine GL.region ?_
  refine RL.asg rfl rfl rfl ?_
  refine RL.asg rfl rfl rfl ?_
  refine RL.finG ?_
  refine GL.seq ?_
  refine GL.seq ?_
  refine GL.region ?_
  refine RL.mv rfl rfl rfl ?_
  refine RL.mv rfl rfl rfl ?_
  obtain ⟨y5, e6, hm⟩ := bind_some hm
  refine RL.callC (v := .int .i64 y5) (vs := [.int .i64 x0, v1]) Try_fit34 rfl rfl rfl rfl (fun U w hU hW hL => worth_Check_c U w hU x0 _ _ (hL 0 _ _ rfl Seen.imm) _ e6) ?_
  refine RL.asg rfl rfl rfl ?_
  refine RL.finG ?_
  refine GL.seq ?_
  refine GL.region ?_
  refine RL.mv rfl rfl rfl ?_
  refine RL.binI (v := .bool (y5 != (0 : Int))) rfl rfl rfl rfl rfl ?_
  refine RL.finG ?_
  refine GL.cond rfl (fun b7 => ?_) (fun b7 => ?_)
  · replace hm := ite_t b7 hm
    refine GL.seq ?_
    refine GL.region ?_
    refine RL.mv rfl rfl rfl ?_
    refine RL.asg rfl rfl rfl ?_
    refine RL.asg rfl rfl rfl ?_
    refine RL.finG ?_
    refine GL.weak (fun a w st => st.nilOwn 3 TR.int) ?_
    have hm := Option.some.inj hm
    subst hm
    exact GL.ret (Gx.ret (v := .tuple #[Value.slice none 0 0, .int .i64 y5]) (res2 rfl rfl rfl) (fun a w st => (st.pick [1] (by decide) rfl).toPost (Value.slice none 0 0)))
  · replace hm := ite_f b7 hm
    refine GL.skip ?_
    refine GL.seq ?_
    refine GL.region ?_
    refine RL.mv rfl rfl rfl ?_
    obtain ⟨y11, e12, hm⟩ := bind_some hm
    replace e12 := chk_some e12
    refine RL.mkS (t := TR.int) (z := (0 : Int)) Try.underlying22 Try_lo3 (fun S => rfl) rfl rfl rfl rfl e12.1 e12.2 ?_
    intro v13
    refine RL.asg rfl rfl rfl ?_
    refine RL.finG ?_
    refine GL.seq ?_
    refine GL.seq ?_
    refine GL.region ?_
    refine RL.mv rfl rfl rfl ?_
    refine RL.lenS 0 Try.underlying22 rfl rfl rfl rfl SlOf.imm ?_
    refine RL.mv rfl rfl rfl ?_
    refine RL.finG ?_
    refine GL.open_ 0 rfl (fun S h => len_imm S h) (fun n288 => ?_)
    obtain ⟨y289, K290, h291, h292, h293, h294, h295⟩ := bindR_K hm
    refine GL.join (ι := (List Int) × Value) (fun (p : (List Int) × Value) => [(7, p.2)]) (fun (p : (List Int) × Value) => [own 3 TR.int p.2 p.1]) (fun (p : (List Int) × Value) => K290 (.nx p.1)) ?_ ?_
    · refine GL.block ?_
      refine GL.loop (ι := Nat × (List Int) × (List Int) × Value) (fun (p : Nat × (List Int) × (List Int) × Value) => [(0, .int .i64 x0), (1, v1), (7, p.2.2.2), (20, .int .i64 ((x1).length : Int)), (21, .int .i64 (p.1 : Int))]) (fun (p : Nat × (List Int) × (List Int) × Value) => [imm (TR.sl TR.int) v1 x1, own 3 TR.int p.2.2.2 p.2.2.1]) (fun (p : Nat × (List Int) × (List Int) × Value) => p.1 + p.2.1.length = (x1).length ∧ List.drop p.1 x1 = p.2.1 ∧ rangeL (worth_Share_b1 x0 x1) p.2.1 p.1 p.2.2.1 = some y289) (fun (p : Nat × (List Int) × (List Int) × Value) => p.2.1.length) (0, x1, (List.replicate (x0).toNat (0 : Int)), v13) ⟨by simp, by simp, h291⟩ (fun a w st => St.cut [0, 1] ⟨rfl, rfl, rfl, rfl, rfl, trivial⟩ (by decide) rfl st) ?_
      rintro ⟨i296, r297, l150, v151⟩ ⟨h302, h303, h301⟩
      try dsimp only at h302 h303 h301
      refine GL.weak (env' := [(0, .int .i64 x0), (1, v1), (7, v151), (20, .int .i64 ((x1).length : Int)), (21, .int .i64 (i296 : Int))]) (L' := [imm (TR.sl TR.int) v1 x1, own 3 TR.int v151 l150]) (fun _ _ st => st) ?_
      refine GL.seq ?_
      refine GL.region ?_
      refine RL.binI (v := .bool (decide ((i296 : Int) < ((x1).length : Int)))) rfl rfl rfl rfl rfl ?_
      refine RL.finG ?_
      refine GL.seq ?_
      refine GL.cond rfl (fun b304 => ?_) (fun b304 => ?_)
      · have h305 : i296 < (x1).length := by have := of_decide_eq_true b304; omega
        obtain ⟨y306, r308, hr, e307, h309⟩ := drop_cons h303 rfl h305
        subst hr
        obtain ⟨z298, h299, h300⟩ := rangeL_some h301
        unfold worth_Share_b1 at h299
        try dsimp only at h299
        refine GL.skip ?_
        refine GL.seq ?_
        refine GL.block ?_
        refine GL.seq ?_
        refine GL.region ?_
        refine RL.mv rfl rfl rfl ?_
        refine RL.asg rfl rfl rfl ?_
        refine RL.finG ?_
        refine GL.seq ?_
        refine GL.region ?_
        refine RL.mv rfl rfl rfl ?_
        refine RL.mv rfl rfl rfl ?_
        refine RL.finG ?_
        obtain ⟨y379, e380, h299⟩ := bind_some h299
        replace e380 := chk_some e380
        obtain ⟨y381, K382, h383, h384, h385, h386, h387⟩ := bindF_K h299
        refine GL.join (ι := (List Int) × Value) (fun (p : (List Int) × Value) => [(0, .int .i64 x0), (1, v1), (7, p.2), (20, .int .i64 ((x1).length : Int)), (21, .int .i64 (i296 : Int))]) (fun (p : (List Int) × Value) => [imm (TR.sl TR.int) v1 x1, own 3 TR.int p.2 p.1]) (fun (p : (List Int) × Value) => K382 (.nx p.1)) ?_ ?_
        · refine GL.block ?_
          refine GL.loop (ι := Nat × Nat × (List Int) × Value) (fun (p : Nat × Nat × (List Int) × Value) => [(0, .int .i64 x0), (1, v1), (7, p.2.2.2), (8, .int .i64 (i296 : Int)), (20, .int .i64 ((x1).length : Int)), (21, .int .i64 (i296 : Int)), (24, .int .i64 x0), (25, .int .i64 (p.1 : Int))]) (fun (p : Nat × Nat × (List Int) × Value) => [imm (TR.sl TR.int) v1 x1, own 3 TR.int p.2.2.2 p.2.2.1]) (fun (p : Nat × Nat × (List Int) × Value) => p.1 + p.2.1 = (x0).toNat ∧ rangeN (worth_Share_b2 i296 x0 x1 y306) p.2.1 p.1 p.2.2.1 = some y381) (fun (p : Nat × Nat × (List Int) × Value) => p.2.1) (0, (x0).toNat, l150, v151) ⟨by simp, h383⟩ (fun a w st => St.cut [0, 1] ⟨rfl, rfl, rfl, rfl, rfl, rfl, rfl, rfl, trivial⟩ (by decide) rfl st) ?_
          rintro ⟨i388, r389, l343, v344⟩ ⟨h394, h393⟩
          try dsimp only at h394 h393
          refine GL.weak (env' := [(0, .int .i64 x0), (1, v1), (7, v344), (8, .int .i64 (i296 : Int)), (20, .int .i64 ((x1).length : Int)), (21, .int .i64 (i296 : Int)), (24, .int .i64 x0), (25, .int .i64 (i388 : Int))]) (L' := [imm (TR.sl TR.int) v1 x1, own 3 TR.int v344 l343]) (fun _ _ st => st) ?_
          refine GL.seq ?_
          refine GL.region ?_
          refine RL.binI (v := .bool (decide ((i388 : Int) < x0))) rfl rfl rfl rfl rfl ?_
          refine RL.finG ?_
          refine GL.seq ?_
          refine GL.cond rfl (fun b396 => ?_) (fun b396 => ?_)
          · have h397 : i388 < (x0).toNat := by have := of_decide_eq_true b396; omega
            obtain ⟨r398, hr⟩ : ∃ m, r389 = m + 1 := ⟨r389 - 1, by omega⟩
            subst hr
            obtain ⟨z390, h391, h392⟩ := rangeN_some h393
            unfold worth_Share_b2 at h391
            try dsimp only at h391
            refine GL.skip ?_
            refine GL.seq ?_
            refine GL.block ?_
            refine GL.seq ?_
            refine GL.region ?_
            refine RL.mv rfl rfl rfl ?_
            refine RL.asg rfl rfl rfl ?_
            refine RL.finG ?_
            refine GL.seq ?_
            refine GL.region ?_
            refine RL.mv rfl rfl rfl ?_
            refine RL.mv rfl rfl rfl ?_
            obtain ⟨y401, e402, h391⟩ := bind_some h391
            replace e402 := chk_some e402
            refine RL.sh (by simp) rfl rfl rfl rfl e402 ?_
            refine RL.binI (v := .int .i64 (bits .and .i64 (Int.fdiv (i296 : Int) (2 ^ (min (i388 : Int).toNat (IntKind.bits .i64)))) (1 : Int))) rfl rfl rfl rfl rfl ?_
            refine RL.binI (v := .bool ((bits .and .i64 (Int.fdiv (i296 : Int) (2 ^ (min (i388 : Int).toNat (IntKind.bits .i64)))) (1 : Int)) == (0 : Int))) rfl rfl rfl rfl rfl ?_
            refine RL.finG ?_
            refine GL.cond rfl (fun b403 => ?_) (fun b403 => ?_)
            · replace h391 := ite_t b403 h391
              refine GL.seq ?_
              refine GL.region ?_
              refine RL.mv rfl rfl rfl ?_
              obtain ⟨y406, e407, h391⟩ := bind_some h391
              refine RL.callC (v := .int .i64 y406) (vs := [.int .i64 (i296 : Int)]) Try_fit35 rfl rfl rfl rfl (fun U w hU hW hL => worth_size_c U w hU (i296 : Int) _ e407) ?_
              refine RL.asg rfl rfl rfl ?_
              refine RL.finG ?_
              refine GL.regionH 27 rfl rfl (by kernel_rfl) ?_
              simp only [List.take_succ_cons, List.take_zero, List.drop_succ_cons, List.drop_zero]
              refine RL.mv rfl rfl rfl ?_
              refine RL.mv rfl rfl rfl ?_
              obtain ⟨y420, e421, h391⟩ := bind_some h391
              refine RL.idxS (sz := 1) 1 Try.underlying22 Try_ln3 rfl rfl rfl rfl rfl SlOf.own (idx_some e421).1 (idx_some e421).2.1 ?_
              refine RL.ldSx (i := i388) (e' := y420) 1 Ex.ik Try_ln3 rfl rfl rfl rfl SlOf.own (idx_some e421).2.2 Part.self ?_
              refine RL.mv rfl rfl rfl ?_
              obtain ⟨y422, e423, h391⟩ := bind_some h391
              refine RL.callC (v := .int .i64 y422) (vs := [.int .i64 y406]) Try_fit36 rfl rfl rfl rfl (fun U w hU hW hL => worth_factorial_c U w hU y406 _ e423) ?_
              refine RL.mv rfl rfl rfl ?_
              refine RL.binI (v := .int .i64 (wsub x0 (1 : Int))) rfl rfl rfl rfl rfl ?_
              refine RL.mv rfl rfl rfl ?_
              refine RL.binI (v := .int .i64 (wsub (wsub x0 (1 : Int)) y406)) rfl rfl rfl rfl rfl ?_
              obtain ⟨y424, e425, h391⟩ := bind_some h391
              refine RL.callC (v := .int .i64 y424) (vs := [.int .i64 (wsub (wsub x0 (1 : Int)) y406)]) Try_fit36 rfl rfl rfl rfl (fun U w hU hW hL => worth_factorial_c U w hU (wsub (wsub x0 (1 : Int)) y406) _ e425) ?_
              refine RL.binI (v := .int .i64 (wmul y422 y424)) rfl rfl rfl rfl rfl ?_
              refine RL.mv rfl rfl rfl ?_
              refine RL.mv rfl rfl rfl ?_
              refine RL.mv rfl rfl rfl ?_
              obtain ⟨y426, e427, h391⟩ := bind_some h391
              replace e427 := chk_some e427
              refine RL.sh (by simp) rfl rfl rfl rfl e427 ?_
              refine RL.binI (v := .int .i64 (bits .or .i64 (i296 : Int) (IntKind.wrap .i64 ((1 : Int) * 2 ^ (min (i388 : Int).toNat (IntKind.bits .i64)))))) rfl rfl rfl rfl rfl ?_
              obtain ⟨y428, e429, h391⟩ := bind_some h391
              refine RL.idxS (sz := 1) 0 Try.underlying22 Try_ln3 rfl rfl rfl rfl rfl SlOf.imm (idx_some e429).1 (idx_some e429).2.1 ?_
              refine RL.ldSx (i := (bits .or .i64 (i296 : Int) (IntKind.wrap .i64 ((1 : Int) * 2 ^ (min (i388 : Int).toNat (IntKind.bits .i64))))).toNat) (e' := y428) 0 Ex.ik Try_ln3 rfl rfl rfl rfl SlOf.imm (idx_some e429).2.2 Part.self ?_
              refine RL.mv rfl rfl rfl ?_
              refine RL.mv rfl rfl rfl ?_
              refine RL.idxS (sz := 1) 0 Try.underlying22 Try_ln3 rfl rfl rfl rfl rfl SlOf.imm (by omega) (by omega) ?_
              refine RL.ldSx (i := i296) (e' := y306) 0 Ex.ik Try_ln3 rfl rfl rfl rfl SlOf.imm e307 Part.self ?_
              refine RL.binI (v := .int .i64 (wsub y428 y306)) rfl rfl rfl rfl rfl ?_
              refine RL.binI (v := .int .i64 (wmul (wmul y422 y424) (wsub y428 y306))) rfl rfl rfl rfl rfl ?_
              refine RL.binI (v := .int .i64 (wadd y420 (wmul (wmul y422 y424) (wsub y428 y306)))) rfl rfl rfl rfl rfl ?_
              obtain ⟨y430, e431, h391⟩ := bind_some h391
              refine RL.idxS (sz := 1) 1 Try.underlying22 Try_ln3 rfl rfl rfl rfl rfl SlOf.own (idx_some e431).1 (idx_some e431).2.1 ?_
              refine RL.finH ?_
              refine RL.stS (i := i388) (e' := wadd y420 (wmul (wmul y422 y424) (wsub y428 y306))) (e1 := wadd y420 (wmul (wmul y422 y424) (wsub y428 y306))) (r := TR.int) 1 Try_ln3 rfl rfl rfl rfl VR.int rfl (idx_some e431).2.2 Upd.self ?_
              refine RL.finG ?_
              refine GL.weak (env' := [(0, .int .i64 x0), (1, v1), (7, v344), (8, .int .i64 (i296 : Int)), (20, .int .i64 ((x1).length : Int)), (21, .int .i64 (i296 : Int)), (24, .int .i64 x0), (25, .int .i64 (i388 : Int))]) (L' := [imm (TR.sl TR.int) v1 x1, own 3 TR.int v344 (List.set l343 i388 (wadd y420 (wmul (wmul y422 y424) (wsub y428 y306))))]) (fun a w st => St.cut [0, 1] ⟨rfl, rfl, rfl, rfl, rfl, rfl, rfl, rfl, trivial⟩ (by decide) rfl st) ?_
              refine GL.nilB ?_
              refine GL.region ?_
              refine RL.binI (v := .int .i64 ((i388 + 1 : Nat) : Int)) rfl rfl rfl rfl (binI_succ i388 (by omega)) ?_
              refine RL.mv rfl rfl rfl ?_
              refine RL.fin ?_
              cases h391
              exact fun a w st => lop_intro (i388 + 1, r398, (List.set l343 i388 (wadd y420 (wmul (wmul y422 y424) (wsub y428 y306)))), v344) ⟨by show i388 + 1 + r398 = (x0).toNat; omega, h392⟩ (by simp) (St.cut [0, 1] ⟨rfl, rfl, rfl, rfl, rfl, rfl, rfl, rfl, trivial⟩ (by decide) rfl st)
            · replace h391 := ite_f b403 h391
              refine GL.skip ?_
              refine GL.nilB ?_
              refine GL.region ?_
              refine RL.binI (v := .int .i64 ((i388 + 1 : Nat) : Int)) rfl rfl rfl rfl (binI_succ i388 (by omega)) ?_
              refine RL.mv rfl rfl rfl ?_
              refine RL.fin ?_
              cases h391
              exact fun a w st => lop_intro (i388 + 1, r398, l343, v344) ⟨by show i388 + 1 + r398 = (x0).toNat; omega, h392⟩ (by simp) (St.cut [0, 1] ⟨rfl, rfl, rfl, rfl, rfl, rfl, rfl, rfl, trivial⟩ (by decide) rfl st)
          · have h397 : ¬ i388 < (x0).toNat := by have := of_decide_eq_false b396; omega
            obtain rfl : r389 = 0 := by omega
            replace h393 : some (Fl.nx _) = some y381 := h393
            cases h393
            exact GL.exit (fun a w st => mid_intro (l343, v344) h384 (St.cut [0, 1] ⟨rfl, rfl, rfl, rfl, rfl, trivial⟩ (by decide) rfl st))
        · rintro ⟨l343, v344⟩ h432
          have h433 := h385 _ h432
          try dsimp only at h433
          refine GL.weak (env' := [(0, .int .i64 x0), (1, v1), (7, v344), (20, .int .i64 ((x1).length : Int)), (21, .int .i64 (i296 : Int))]) (L' := [imm (TR.sl TR.int) v1 x1, own 3 TR.int v344 l343]) (fun _ _ st => st) ?_
          refine GL.nilB ?_
          refine GL.region ?_
          refine RL.binI (v := .int .i64 ((i296 + 1 : Nat) : Int)) rfl rfl rfl rfl (binI_succ i296 (by omega)) ?_
          refine RL.mv rfl rfl rfl ?_
          refine RL.fin ?_
          cases h433
          exact fun a w st => lop_intro (i296 + 1, r308, l343, v344) ⟨by show i296 + 1 + r308.length = (x1).length; simp only [List.length_cons] at h302; omega, h309, h300⟩ (by simp) (St.cut [0, 1] ⟨rfl, rfl, rfl, rfl, rfl, trivial⟩ (by decide) rfl st)
      · have h305 : ¬ i296 < (x1).length := by have := of_decide_eq_false b304; omega
        obtain rfl : r297 = [] := by rw [← h303]; exact List.drop_of_length_le (by omega)
        replace h301 : some (Fl.nx _) = some y289 := h301
        cases h301
        exact GL.exit (fun a w st => mid_intro (l150, v151) h292 (St.cut [1] ⟨rfl, trivial⟩ (by decide) rfl st))
    · rintro ⟨l150, v151⟩ h434
      have h435 := h293 _ h434
      try dsimp only at h435
      refine GL.weak (env' := [(7, v151)]) (L' := [own 3 TR.int v151 l150]) (fun _ _ st => st) ?_
      refine GL.seq ?_
      refine GL.region ?_
      refine RL.mv rfl rfl rfl ?_
      refine RL.asg rfl rfl rfl ?_
      refine RL.asg rfl rfl rfl ?_
      refine RL.finG ?_
      have h435 := Option.some.inj h435
      subst h435
      exact GL.ret (Gx.ret (v := .tuple #[v151, .int .i64 (0 : Int)]) (res2 rfl rfl rfl) (fun a w st => (st.pick [0] (by decide) rfl).toPost v151))

set_option maxHeartbeats 4000000 in
theorem slices_Equal_int_int_c (S : Hp) (w : World) (hS : S.sub w) (v0 : Value) (x0 : (List Int)) (k0 : ((TR.sl TR.int)).vrep S v0 x0) (v1 : Value) (x1 : (List Int)) (k1 : ((TR.sl TR.int)).vrep S v1 x1) (res : Bool) (hm : slices_Equal_int_int_m x0 x1 = some res) : Calls Try.prog 20 #[v0, v1] w (PostV w (.bool res)) := by
  refine calls_enter 26 Try.func20 Try.ntmps20 rfl S false [(0, v0), (1, v1)] [imm (TR.sl TR.int) v0 x0, imm (TR.sl TR.int) v1 x1] rfl ⟨rfl, ⟨rfl, trivial⟩⟩ hS ⟨k0, ⟨k1, trivial⟩⟩ ?_
  unfold slices_Equal_int_int_m at hm
  refine GL.seq ?_
  refine GL.region ?_
  refine RL.asg rfl rfl rfl ?_
  refine RL.finG ?_
  refine GL.seq ?_
  refine GL.seq ?_
  refine GL.region ?_
  refine RL.mv rfl rfl rfl ?_
  refine RL.lenS 0 Try.underlying22 rfl rfl rfl rfl SlOf.imm ?_
  refine RL.mv rfl rfl rfl ?_
  refine RL.lenS 1 Try.underlying22 rfl rfl rfl rfl SlOf.imm ?_
  refine RL.binI (v := .bool (((x0).length : Int) != ((x1).length : Int))) rfl rfl rfl rfl rfl ?_
  refine RL.finG ?_
  refine GL.cond rfl (fun b3 => ?_) (fun b3 => ?_)
  · replace hm := ite_t b3 hm
    refine GL.seq ?_
    refine GL.region ?_
    refine RL.asg rfl rfl rfl ?_
    refine RL.finG ?_
    have hm := Option.some.inj hm
    subst hm
    exact GL.ret (Gx.ret (v := .bool false) (res1 rfl rfl) (fun a w st => st.toPostV))
  · replace hm := ite_f b3 hm
    refine GL.skip ?_
    refine GL.seq ?_
    refine GL.seq ?_
    refine GL.region ?_
    refine RL.mv rfl rfl rfl ?_
    refine RL.lenS 0 Try.underlying22 rfl rfl rfl rfl SlOf.imm ?_
    refine RL.mv rfl rfl rfl ?_
    refine RL.finG ?_
    refine GL.open_ 0 rfl (fun S h => len_imm S h) (fun n13 => ?_)
    obtain ⟨y14, K15, h16, h17, h18, h19, h20⟩ := bindR_K hm
    refine GL.join (ι := Unit) (fun (p : Unit) => []) (fun (p : Unit) => []) (fun (p : Unit) => K15 (.nx ())) ?_ ?_
    · refine GL.block ?_
      refine GL.loop (ι := Nat × (List Int)) (fun (p : Nat × (List Int)) => [(0, v0), (1, v1), (12, .int .i64 ((x0).length : Int)), (13, .int .i64 (p.1 : Int))]) (fun (p : Nat × (List Int)) => [imm (TR.sl TR.int) v0 x0, imm (TR.sl TR.int) v1 x1]) (fun (p : Nat × (List Int)) => p.1 + p.2.length = (x0).length ∧ List.drop p.1 x0 = p.2 ∧ rangeL (slices_Equal_int_int_b1 x1) p.2 p.1 () = some y14) (fun (p : Nat × (List Int)) => p.2.length) (0, x0) ⟨by simp, by simp, h16⟩ (fun a w st => St.cut [0, 1] ⟨rfl, rfl, rfl, rfl, trivial⟩ (by decide) rfl st) ?_
      rintro ⟨i21, r22⟩ ⟨h27, h28, h26⟩
      try dsimp only at h27 h28 h26
      refine GL.weak (env' := [(0, v0), (1, v1), (12, .int .i64 ((x0).length : Int)), (13, .int .i64 (i21 : Int))]) (L' := [imm (TR.sl TR.int) v0 x0, imm (TR.sl TR.int) v1 x1]) (fun _ _ st => st) ?_
      refine GL.seq ?_
      refine GL.region ?_
      refine RL.binI (v := .bool (decide ((i21 : Int) < ((x0).length : Int)))) rfl rfl rfl rfl rfl ?_
      refine RL.finG ?_
      refine GL.seq ?_
      refine GL.cond rfl (fun b29 => ?_) (fun b29 => ?_)
      · have h30 : i21 < (x0).length := by have := of_decide_eq_true b29; omega
        obtain ⟨y31, r33, hr, e32, h34⟩ := drop_cons h28 rfl h30
        subst hr
        obtain ⟨z23, h24, h25⟩ := rangeL_some h26
        unfold slices_Equal_int_int_b1 at h24
        try dsimp only at h24
        refine GL.skip ?_
        refine GL.seq ?_
        refine GL.block ?_
        refine GL.seq ?_
        refine GL.region ?_
        refine RL.mv rfl rfl rfl ?_
        refine RL.asg rfl rfl rfl ?_
        refine RL.finG ?_
        refine GL.seq ?_
        refine GL.regionQ rfl rfl (by kernel_rfl) ?_
        refine RL.mv rfl rfl rfl ?_
        refine RL.mv rfl rfl rfl ?_
        refine RL.idxS (sz := 1) 0 Try.underlying22 Try_ln3 rfl rfl rfl rfl rfl SlOf.imm (by omega) (by omega) ?_
        refine RL.ldSx (i := i21) (e' := y31) 0 Ex.ik Try_ln3 rfl rfl rfl rfl SlOf.imm e32 Part.self ?_
        refine RL.mv rfl rfl rfl ?_
        refine RL.mv rfl rfl rfl ?_
        obtain ⟨y37, e38, h24⟩ := bind_some h24
        refine RL.idxS (sz := 1) 1 Try.underlying22 Try_ln3 rfl rfl rfl rfl rfl SlOf.imm (idx_some e38).1 (idx_some e38).2.1 ?_
        refine RL.ldSx (i := i21) (e' := y37) 1 Ex.ik Try_ln3 rfl rfl rfl rfl SlOf.imm (idx_some e38).2.2 Part.self ?_
        refine RL.binI (v := .bool (y31 != y37)) rfl rfl rfl rfl rfl ?_
        refine RL.finQG ?_
        refine GL.cond rfl (fun b39 => ?_) (fun b39 => ?_)
        · replace h24 := ite_t b39 h24
          refine GL.seq ?_
          refine GL.region ?_
          refine RL.asg rfl rfl rfl ?_
          refine RL.finG ?_
          cases h24
          replace h25 : some (Fl.rt _) = some y14 := h25
          cases h25
          have hh := h19 _ h17
          subst hh
          exact GL.ret (Gx.ret (v := .bool false) (res1 rfl rfl) (fun a w st => st.toPostV))
        · replace h24 := ite_f b39 h24
          refine GL.skip ?_
          refine GL.nilB ?_
          refine GL.region ?_
          refine RL.binI (v := .int .i64 ((i21 + 1 : Nat) : Int)) rfl rfl rfl rfl (binI_succ i21 (by omega)) ?_
          refine RL.mv rfl rfl rfl ?_
          refine RL.fin ?_
          cases h24
          exact fun a w st => lop_intro (i21 + 1, r33) ⟨by show i21 + 1 + r33.length = (x0).length; simp only [List.length_cons] at h27; omega, h34, h25⟩ (by simp) (St.cut [0, 1] ⟨rfl, rfl, rfl, rfl, trivial⟩ (by decide) rfl st)
      · have h30 : ¬ i21 < (x0).length := by have := of_decide_eq_false b29; omega
        obtain rfl : r22 = [] := by rw [← h28]; exact List.drop_of_length_le (by omega)
        replace h26 : some (Fl.nx _) = some y14 := h26
        cases h26
        exact GL.exit (fun a w st => mid_intro () h17 (St.cut [] trivial (by decide) rfl st))
    · rintro ⟨⟩ h40
      have h41 := h18 _ h40
      try dsimp only at h41
      refine GL.weak (env' := []) (L' := []) (fun _ _ st => st) ?_
      refine GL.seq ?_
      refine GL.region ?_
      refine RL.asg rfl rfl rfl ?_
      refine RL.finG ?_
      have h41 := Option.some.inj h41
      subst h41
      exact GL.ret (Gx.ret (v := .bool true) (res1 rfl rfl) (fun a w st => st.toPostV))

set_option maxHeartbeats 4000000 in
theorem pk_worths_c (S : Hp) (w : World) (hS : S.sub w)  (res : Bool) (hm : pk_worths_m = some res) : Calls Try.prog 14 #[] w (PostV w (.bool res)) := by
  refine calls_enter 15 Try.func14 Try.ntmps14 rfl S false [] [] rfl trivial hS trivial ?_
  unfold pk_worths_m at hm
  refine GL.seq ?_
  refine GL.region ?_
  refine RL.asg rfl rfl rfl ?_
  refine RL.finG ?_
  refine GL.seq ?_
  refine GL.region ?_
  refine RL.bS (t := TR.int) (vs := [.int .i64 (0 : Int), .int .i64 (0 : Int), .int .i64 (2 : Int), .int .i64 (6 : Int)]) ([(0 : Int), (0 : Int), (2 : Int), (6 : Int)] : (List Int)) Try.underlying22 Try_lo3 rfl rfl rfl rfl ⟨VR.int, ⟨VR.int, ⟨VR.int, ⟨VR.int, trivial⟩⟩⟩⟩ rfl (by decide) ?_
  intro v5
  refine RL.weak (fun a w st => st.freeze 0 rfl) ?_
  obtain ⟨y6, e7, hm⟩ := bind_some hm
  refine RL.call (vs := [.int .i64 (2 : Int), v5]) Try_fit17 rfl rfl rfl rfl rfl (fun S f w hS hW hi => worth_Share_c S w hS (2 : Int) _ _ (hi 0 _ rfl) _ e7) ?_
  intro v8
  refine RL.reL (L' := [imm (TR.sl TR.int) v5 ([(0 : Int), (0 : Int), (2 : Int), (6 : Int)] : (List Int)), own 3 TR.int v8 y6.1]) rfl ?_
  refine RL.mv rfl rfl rfl ?_
  refine RL.ext rfl rfl rfl rfl ?_
  refine RL.ext rfl rfl rfl rfl ?_
  refine RL.asg rfl rfl rfl ?_
  refine RL.asg rfl rfl rfl ?_
  refine RL.finG ?_
  refine GL.seq ?_
  obtain ⟨y18, K19, h20, h21, h22, h23, h24⟩ := bindR_K hm
  refine GL.join (ι := Bool) (fun (p : Bool) => [(0, .bool p)]) (fun (p : Bool) => []) (fun (p : Bool) => K19 (.nx p)) ?_ ?_
  · skip
    refine GL.region ?_
    refine RL.mv rfl rfl rfl ?_
    refine RL.binI (v := .bool (y6.2 == (0 : Int))) rfl rfl rfl rfl rfl ?_
    refine RL.mv rfl rfl rfl ?_
    refine RL.split (t := 10) rfl (fun b25 => ?_) (fun b25 => ?_)
    · replace h20 := ite_t b25 h20
      refine RL.mv rfl rfl rfl ?_
      refine RL.bS (t := TR.int) (vs := [.int .i64 (4 : Int), .int .i64 (8 : Int)]) ([(4 : Int), (8 : Int)] : (List Int)) Try.underlying22 Try_lo3 rfl rfl rfl rfl ⟨VR.int, ⟨VR.int, trivial⟩⟩ rfl (by decide) ?_
      intro v26
      obtain ⟨y27, e28, h20⟩ := bind_some h20
      refine RL.callV (v := .bool y27) (vs := [v8, v26]) Try_fit20 rfl (Or.inl rfl) rfl rfl rfl rfl (fun U w hU hW hL => slices_Equal_int_int_c U w hU _ _ (hL 1 _ _ rfl Seen.own) _ _ (hL 2 _ _ rfl Seen.own) _ e28) ?_
      refine RL.pickT rfl rfl rfl rfl ?_
      refine RL.asg rfl rfl rfl ?_
      refine RL.fin ?_
      cases h20
      exact fun a w st => mid_intro y27 h21 (St.cut [] ⟨rfl, trivial⟩ (by decide) rfl st)
    · replace h20 := ite_f b25 h20
      refine RL.skip rfl rfl ?_
      refine RL.skip rfl rfl ?_
      refine RL.skip rfl rfl ?_
      refine RL.pickF rfl rfl rfl rfl ?_
      refine RL.asg rfl rfl rfl ?_
      refine RL.fin ?_
      cases h20
      exact fun a w st => mid_intro false h21 (St.cut [] ⟨rfl, trivial⟩ (by decide) rfl st)
  · rintro x17 h29
    have h30 := h22 _ h29
    try dsimp only at h30
    refine GL.weak (env' := [(0, .bool x17)]) (L' := []) (fun _ _ st => st) ?_
    have h30 := Option.some.inj h30
    subst h30
    exact GL.ret (Gx.ret (v := .bool x17) (res1 rfl rfl) (fun a w st => st.toPostV))

set_option maxHeartbeats 4000000 in
theorem ref_Rest_c (S : Hp) (w : World) (hS : S.sub w) (x0 : Int) (x1 : Int) (res : Int) (hm : ref_Rest_m x0 x1 = some res) : Calls Try.prog 33 #[.int .i64 x0, .int .i64 x1] w (PostC w (.int .i64 res)) := by
  refine calls_enter 14 Try.func33 Try.ntmps33 rfl S true [(0, .int .i64 x0), (1, .int .i64 x1)] [] rfl ⟨rfl, ⟨rfl, trivial⟩⟩ hS trivial ?_
  unfold ref_Rest_m at hm
  refine GL.seq ?_
  refine GL.region ?_
  refine RL.asg rfl rfl rfl ?_
  refine RL.finG ?_
  refine GL.seq ?_
  refine GL.region ?_
  refine RL.mv rfl rfl rfl ?_
  refine RL.mv rfl rfl rfl ?_
  obtain ⟨y5, e6, hm⟩ := bind_some hm
  replace e6 := chk_some e6
  refine RL.rem rfl rfl rfl rfl e6 ?_
  refine RL.asg rfl rfl rfl ?_
  refine RL.finG ?_
  refine GL.seq ?_
  refine GL.seq ?_
  refine GL.region ?_
  refine RL.mv rfl rfl rfl ?_
  refine RL.binI (v := .bool (decide ((Int.tmod x0 x1) < (0 : Int)))) rfl rfl rfl rfl rfl ?_
  refine RL.finG ?_
  obtain ⟨y9, K10, h11, h12, h13, h14, h15⟩ := bindR_K hm
  refine GL.join (ι := Int) (fun (p : Int) => [(0, .int .i64 p)]) (fun (p : Int) => []) (fun (p : Int) => K10 (.nx p)) ?_ ?_
  · skip
    refine GL.cond rfl (fun b16 => ?_) (fun b16 => ?_)
    · replace h11 := ite_t b16 h11
      refine GL.region ?_
      refine RL.mv rfl rfl rfl ?_
      refine RL.mv rfl rfl rfl ?_
      refine RL.binI (v := .int .i64 (wadd (Int.tmod x0 x1) x1)) rfl rfl rfl rfl rfl ?_
      refine RL.asg rfl rfl rfl ?_
      refine RL.finG ?_
      cases h11
      exact fun a w st => mid_intro (wadd (Int.tmod x0 x1) x1) h12 (St.cut [] ⟨rfl, trivial⟩ (by decide) rfl st)
    · replace h11 := ite_f b16 h11
      refine GL.skip ?_
      cases h11
      exact fun a w st => mid_intro (Int.tmod x0 x1) h12 (St.cut [] ⟨rfl, trivial⟩ (by decide) rfl st)
  · rintro x8 h17
    have h18 := h13 _ h17
    try dsimp only at h18
    refine GL.weak (env' := [(0, .int .i64 x8)]) (L' := []) (fun _ _ st => st) ?_
    refine GL.seq ?_
    refine GL.region ?_
    refine RL.mv rfl rfl rfl ?_
    refine RL.asg rfl rfl rfl ?_
    refine RL.finG ?_
    have h18 := Option.some.inj h18
    subst h18
    exact GL.ret (Gx.ret (v := .int .i64 x8) (res1 rfl rfl) (fun a w st => st.toPostC rfl))

set_option maxHeartbeats 4000000 in
theorem pk_Within_c (S : Hp) (w : World) (hS : S.sub w) (x0 : Int) (x1 : Int) (res : Int) (hm : pk_Within_m x0 x1 = some res) : Calls Try.prog 15 #[.int .i64 x0, .int .i64 x1] w (PostC w (.int .i64 res)) := by
  refine calls_enter 8 Try.func15 Try.ntmps15 rfl S true [(0, .int .i64 x0), (1, .int .i64 x1)] [] rfl ⟨rfl, ⟨rfl, trivial⟩⟩ hS trivial ?_
  unfold pk_Within_m at hm
  refine GL.seq ?_
  refine GL.region ?_
  refine RL.asg rfl rfl rfl ?_
  refine RL.finG ?_
  refine GL.seq ?_
  refine GL.region ?_
  refine RL.mv rfl rfl rfl ?_
  refine RL.mv rfl rfl rfl ?_
  obtain ⟨y5, e6, hm⟩ := bind_some hm
  refine RL.callC (v := .int .i64 y5) (vs := [.int .i64 x0, .int .i64 x1]) Try_fit33 rfl rfl rfl rfl (fun U w hU hW hL => ref_Rest_c U w hU x0 x1 _ e6) ?_
  refine RL.asg rfl rfl rfl ?_
  refine RL.finG ?_
  have hm := Option.some.inj hm
  subst hm
  exact GL.ret (Gx.ret (v := .int .i64 y5) (res1 rfl rfl) (fun a w st => st.toPostC rfl))

set_option maxHeartbeats 4000000 in
theorem pk_roundOf_c (S : Hp) (w : World) (hS : S.sub w) (x0 : Int) (v1 : Value) (x1 : (List Int)) (k1 : ((TR.sl TR.int)).vrep S v1 x1) (res : (List Int)) (hm : pk_roundOf_m x0 x1 = some res) : Calls Try.prog 26 #[.int .i64 x0, v1] w (Post w S (fun (o : Value) => o) (fun (o : Value) => [own 3 TR.int o res])) := by
  refine calls_enter 48 Try.func26 Try.ntmps26 rfl S false [(0, .int .i64 x0), (1, v1)] [imm (TR.sl TR.int) v1 x1] rfl ⟨rfl, ⟨rfl, trivial⟩⟩ hS ⟨k1, trivial⟩ ?_
  unfold pk_roundOf_m at hm
  refine GL.seq ?_
  refine GL.region ?_
  refine RL.asg rfl rfl rfl ?_
  refine RL.finG ?_
  refine GL.seq ?_
  refine GL.region ?_
  refine RL.mv rfl rfl rfl ?_
  obtain ⟨y8, e9, hm⟩ := bind_some hm
  replace e9 := chk_some e9
  refine RL.sh (by simp) rfl rfl rfl rfl e9 ?_
  obtain ⟨y10, e11, hm⟩ := bind_some hm
  replace e11 := chk_some e11
  refine RL.mkS (t := TR.int) (z := (0 : Int)) Try.underlying22 Try_lo3 (fun S => rfl) rfl rfl rfl rfl e11.1 e11.2 ?_
  intro v12
  refine RL.asg rfl rfl rfl ?_
  refine RL.finG ?_
  refine GL.seq ?_
  refine GL.seq ?_
  refine GL.region ?_
  refine RL.mv rfl rfl rfl ?_
  refine RL.lenS 1 Try.underlying22 rfl rfl rfl rfl SlOf.own ?_
  refine RL.mv rfl rfl rfl ?_
  refine RL.finG ?_
  refine GL.lenOwn 1 rfl (fun n185 => ?_)
  obtain ⟨y186, K187, h188, h189, h190, h191, h192⟩ := bindR_K hm
  refine GL.join (ι := (List Int) × Value) (fun (p : (List Int) × Value) => [(5, p.2)]) (fun (p : (List Int) × Value) => [own 3 TR.int p.2 p.1]) (fun (p : (List Int) × Value) => K187 (.nx p.1)) ?_ ?_
  · refine GL.block ?_
    refine GL.loop (ι := Nat × Nat × (List Int) × Value) (fun (p : Nat × Nat × (List Int) × Value) => [(1, v1), (5, p.2.2.2), (14, .int .i64 (((List.replicate (IntKind.wrap .i64 ((1 : Int) * 2 ^ (min x0.toNat (IntKind.bits .i64)))).toNat (0 : Int))).length : Int)), (15, .int .i64 (p.1 : Int))]) (fun (p : Nat × Nat × (List Int) × Value) => [imm (TR.sl TR.int) v1 x1, own 3 TR.int p.2.2.2 p.2.2.1]) (fun (p : Nat × Nat × (List Int) × Value) => p.1 + p.2.1 = ((List.replicate (IntKind.wrap .i64 ((1 : Int) * 2 ^ (min x0.toNat (IntKind.bits .i64)))).toNat (0 : Int))).length ∧ rangeN (pk_roundOf_b1 x1) p.2.1 p.1 p.2.2.1 = some y186) (fun (p : Nat × Nat × (List Int) × Value) => p.2.1) (0, ((List.replicate (IntKind.wrap .i64 ((1 : Int) * 2 ^ (min x0.toNat (IntKind.bits .i64)))).toNat (0 : Int))).length, (List.replicate (IntKind.wrap .i64 ((1 : Int) * 2 ^ (min x0.toNat (IntKind.bits .i64)))).toNat (0 : Int)), v12) ⟨by simp, h188⟩ (fun a w st => St.cut [0, 1] ⟨rfl, rfl, rfl, rfl, trivial⟩ (by decide) rfl st) ?_
    rintro ⟨i193, r194, l98, v99⟩ ⟨h199, h198⟩
    try dsimp only at h199 h198
    refine GL.weak (env' := [(1, v1), (5, v99), (14, .int .i64 (((List.replicate (IntKind.wrap .i64 ((1 : Int) * 2 ^ (min x0.toNat (IntKind.bits .i64)))).toNat (0 : Int))).length : Int)), (15, .int .i64 (i193 : Int))]) (L' := [imm (TR.sl TR.int) v1 x1, own 3 TR.int v99 l98]) (fun _ _ st => st) ?_
    refine GL.seq ?_
    refine GL.region ?_
    refine RL.binI (v := .bool (decide ((i193 : Int) < (((List.replicate (IntKind.wrap .i64 ((1 : Int) * 2 ^ (min x0.toNat (IntKind.bits .i64)))).toNat (0 : Int))).length : Int)))) rfl rfl rfl rfl rfl ?_
    refine RL.finG ?_
    refine GL.seq ?_
    refine GL.cond rfl (fun b201 => ?_) (fun b201 => ?_)
    · have h202 : i193 < ((List.replicate (IntKind.wrap .i64 ((1 : Int) * 2 ^ (min x0.toNat (IntKind.bits .i64)))).toNat (0 : Int))).length := by have := of_decide_eq_true b201; omega
      obtain ⟨r203, hr⟩ : ∃ m, r194 = m + 1 := ⟨r194 - 1, by omega⟩
      subst hr
      obtain ⟨z195, h196, h197⟩ := rangeN_some h198
      unfold pk_roundOf_b1 at h196
      try dsimp only at h196
      refine GL.skip ?_
      refine GL.seq ?_
      refine GL.block ?_
      refine GL.seq ?_
      refine GL.region ?_
      refine RL.mv rfl rfl rfl ?_
      refine RL.asg rfl rfl rfl ?_
      refine RL.finG ?_
      refine GL.seq ?_
      refine GL.region ?_
      refine RL.mv rfl rfl rfl ?_
      refine RL.lenS 0 Try.underlying22 rfl rfl rfl rfl SlOf.imm ?_
      refine RL.mv rfl rfl rfl ?_
      refine RL.finG ?_
      refine GL.open_ 0 rfl (fun S h => len_imm S h) (fun n248 => ?_)
      obtain ⟨y249, K250, h251, h252, h253, h254, h255⟩ := bindF_K h196
      refine GL.join (ι := (List Int) × Value) (fun (p : (List Int) × Value) => [(1, v1), (5, p.2), (14, .int .i64 (((List.replicate (IntKind.wrap .i64 ((1 : Int) * 2 ^ (min x0.toNat (IntKind.bits .i64)))).toNat (0 : Int))).length : Int)), (15, .int .i64 (i193 : Int))]) (fun (p : (List Int) × Value) => [imm (TR.sl TR.int) v1 x1, own 3 TR.int p.2 p.1]) (fun (p : (List Int) × Value) => K250 (.nx p.1)) ?_ ?_
      · refine GL.block ?_
        refine GL.loop (ι := Nat × (List Int) × (List Int) × Value) (fun (p : Nat × (List Int) × (List Int) × Value) => [(1, v1), (5, p.2.2.2), (6, .int .i64 (i193 : Int)), (14, .int .i64 (((List.replicate (IntKind.wrap .i64 ((1 : Int) * 2 ^ (min x0.toNat (IntKind.bits .i64)))).toNat (0 : Int))).length : Int)), (15, .int .i64 (i193 : Int)), (18, v1), (19, .int .i64 ((x1).length : Int)), (20, .int .i64 (p.1 : Int))]) (fun (p : Nat × (List Int) × (List Int) × Value) => [imm (TR.sl TR.int) v1 x1, own 3 TR.int p.2.2.2 p.2.2.1]) (fun (p : Nat × (List Int) × (List Int) × Value) => p.1 + p.2.1.length = (x1).length ∧ List.drop p.1 x1 = p.2.1 ∧ rangeL (pk_roundOf_b2 i193) p.2.1 p.1 p.2.2.1 = some y249) (fun (p : Nat × (List Int) × (List Int) × Value) => p.2.1.length) (0, x1, l98, v99) ⟨by simp, by simp, h251⟩ (fun a w st => St.cut [0, 1] ⟨rfl, rfl, rfl, rfl, rfl, rfl, rfl, rfl, trivial⟩ (by decide) rfl st) ?_
        rintro ⟨i256, r257, l225, v226⟩ ⟨h262, h263, h261⟩
        try dsimp only at h262 h263 h261
        refine GL.weak (env' := [(1, v1), (5, v226), (6, .int .i64 (i193 : Int)), (14, .int .i64 (((List.replicate (IntKind.wrap .i64 ((1 : Int) * 2 ^ (min x0.toNat (IntKind.bits .i64)))).toNat (0 : Int))).length : Int)), (15, .int .i64 (i193 : Int)), (18, v1), (19, .int .i64 ((x1).length : Int)), (20, .int .i64 (i256 : Int))]) (L' := [imm (TR.sl TR.int) v1 x1, own 3 TR.int v226 l225]) (fun _ _ st => st) ?_
        refine GL.seq ?_
        refine GL.region ?_
        refine RL.binI (v := .bool (decide ((i256 : Int) < ((x1).length : Int)))) rfl rfl rfl rfl rfl ?_
        refine RL.finG ?_
        refine GL.seq ?_
        refine GL.cond rfl (fun b264 => ?_) (fun b264 => ?_)
        · have h265 : i256 < (x1).length := by have := of_decide_eq_true b264; omega
          obtain ⟨y266, r268, hr, e267, h269⟩ := drop_cons h263 rfl h265
          subst hr
          obtain ⟨z258, h259, h260⟩ := rangeL_some h261
          unfold pk_roundOf_b2 at h259
          try dsimp only at h259
          refine GL.skip ?_
          refine GL.seq ?_
          refine GL.block ?_
          refine GL.seq ?_
          refine GL.region ?_
          refine RL.mv rfl rfl rfl ?_
          refine RL.idxS (sz := 1) 0 Try.underlying22 Try_ln3 rfl rfl rfl rfl rfl SlOf.imm (by omega) (by omega) ?_
          refine RL.ldSx (i := i256) (e' := y266) 0 Ex.ik Try_ln3 rfl rfl rfl rfl SlOf.imm e267 Part.self ?_
          refine RL.asg rfl rfl rfl ?_
          refine RL.asg rfl rfl rfl ?_
          refine RL.finG ?_
          refine GL.seq ?_
          refine GL.region ?_
          refine RL.mv rfl rfl rfl ?_
          refine RL.mv rfl rfl rfl ?_
          refine RL.lenS 1 Try.underlying22 rfl rfl rfl rfl SlOf.own ?_
          refine RL.binI (v := .int .i64 (wsub ((l225).length : Int) (1 : Int))) rfl rfl rfl rfl rfl ?_
          obtain ⟨y272, e273, h259⟩ := bind_some h259
          refine RL.callC (v := .int .i64 y272) (vs := [.int .i64 y266, .int .i64 (wsub ((l225).length : Int) (1 : Int))]) Try_fit15 rfl rfl rfl rfl (fun U w hU hW hL => pk_Within_c U w hU y266 (wsub ((l225).length : Int) (1 : Int)) _ e273) ?_
          refine RL.binI (v := .int .i64 (wadd (1 : Int) y272)) rfl rfl rfl rfl rfl ?_
          refine RL.asg rfl rfl rfl ?_
          refine RL.finG ?_
          refine GL.seq ?_
          refine GL.region ?_
          refine RL.mv rfl rfl rfl ?_
          refine RL.mv rfl rfl rfl ?_
          refine RL.binI (v := .int .i64 (bits .and .i64 (i193 : Int) (wadd (1 : Int) y272))) rfl rfl rfl rfl rfl ?_
          refine RL.mv rfl rfl rfl ?_
          refine RL.binI (v := .bool ((bits .and .i64 (i193 : Int) (wadd (1 : Int) y272)) == (wadd (1 : Int) y272))) rfl rfl rfl rfl rfl ?_
          refine RL.finG ?_
          refine GL.cond rfl (fun b274 => ?_) (fun b274 => ?_)
          · replace h259 := ite_t b274 h259
            refine GL.region ?_
            refine RL.mv rfl rfl rfl ?_
            refine RL.mv rfl rfl rfl ?_
            obtain ⟨y281, e282, h259⟩ := bind_some h259
            refine RL.idxS (sz := 1) 1 Try.underlying22 Try_ln3 rfl rfl rfl rfl rfl SlOf.own (idx_some e282).1 (idx_some e282).2.1 ?_
            refine RL.ldSx (i := i193) (e' := y281) 1 Ex.ik Try_ln3 rfl rfl rfl rfl SlOf.own (idx_some e282).2.2 Part.self ?_
            refine RL.mv rfl rfl rfl ?_
            obtain ⟨y283, e284, h259⟩ := bind_some h259
            replace e284 := chk_some e284
            refine RL.rem rfl rfl rfl rfl e284 ?_
            refine RL.binI (v := .int .i64 (wadd (1 : Int) (Int.tmod (i256 : Int) (5 : Int)))) rfl rfl rfl rfl rfl ?_
            refine RL.binI (v := .int .i64 (wadd y281 (wadd (1 : Int) (Int.tmod (i256 : Int) (5 : Int))))) rfl rfl rfl rfl rfl ?_
            obtain ⟨y285, e286, h259⟩ := bind_some h259
            refine RL.idxS (sz := 1) 1 Try.underlying22 Try_ln3 rfl rfl rfl rfl rfl SlOf.own (idx_some e286).1 (idx_some e286).2.1 ?_
            refine RL.stS (i := i193) (e' := wadd y281 (wadd (1 : Int) (Int.tmod (i256 : Int) (5 : Int)))) (e1 := wadd y281 (wadd (1 : Int) (Int.tmod (i256 : Int) (5 : Int)))) (r := TR.int) 1 Try_ln3 rfl rfl rfl rfl VR.int rfl (idx_some e286).2.2 Upd.self ?_
            refine RL.finG ?_
            refine GL.nilB ?_
            refine GL.region ?_
            refine RL.binI (v := .int .i64 ((i256 + 1 : Nat) : Int)) rfl rfl rfl rfl (binI_succ i256 (by omega)) ?_
            refine RL.mv rfl rfl rfl ?_
            refine RL.fin ?_
            cases h259
            exact fun a w st => lop_intro (i256 + 1, r268, (List.set l225 i193 (wadd y281 (wadd (1 : Int) (Int.tmod (i256 : Int) (5 : Int))))), v226) ⟨by show i256 + 1 + r268.length = (x1).length; simp only [List.length_cons] at h262; omega, h269, h260⟩ (by simp) (St.cut [0, 1] ⟨rfl, rfl, rfl, rfl, rfl, rfl, rfl, rfl, trivial⟩ (by decide) rfl st)
          · replace h259 := ite_f b274 h259
            refine GL.skip ?_
            refine GL.nilB ?_
            refine GL.region ?_
            refine RL.binI (v := .int .i64 ((i256 + 1 : Nat) : Int)) rfl rfl rfl rfl (binI_succ i256 (by omega)) ?_
            refine RL.mv rfl rfl rfl ?_
            refine RL.fin ?_
            cases h259
            exact fun a w st => lop_intro (i256 + 1, r268, l225, v226) ⟨by show i256 + 1 + r268.length = (x1).length; simp only [List.length_cons] at h262; omega, h269, h260⟩ (by simp) (St.cut [0, 1] ⟨rfl, rfl, rfl, rfl, rfl, rfl, rfl, rfl, trivial⟩ (by decide) rfl st)
        · have h265 : ¬ i256 < (x1).length := by have := of_decide_eq_false b264; omega
          obtain rfl : r257 = [] := by rw [← h263]; exact List.drop_of_length_le (by omega)
          replace h261 : some (Fl.nx _) = some y249 := h261
          cases h261
          exact GL.exit (fun a w st => mid_intro (l225, v226) h252 (St.cut [0, 1] ⟨rfl, rfl, rfl, rfl, trivial⟩ (by decide) rfl st))
      · rintro ⟨l225, v226⟩ h287
        have h288 := h253 _ h287
        try dsimp only at h288
        refine GL.weak (env' := [(1, v1), (5, v226), (14, .int .i64 (((List.replicate (IntKind.wrap .i64 ((1 : Int) * 2 ^ (min x0.toNat (IntKind.bits .i64)))).toNat (0 : Int))).length : Int)), (15, .int .i64 (i193 : Int))]) (L' := [imm (TR.sl TR.int) v1 x1, own 3 TR.int v226 l225]) (fun _ _ st => st) ?_
        refine GL.nilB ?_
        refine GL.region ?_
        refine RL.binI (v := .int .i64 ((i193 + 1 : Nat) : Int)) rfl rfl rfl rfl (binI_succ i193 (by omega)) ?_
        refine RL.mv rfl rfl rfl ?_
        refine RL.fin ?_
        cases h288
        exact fun a w st => lop_intro (i193 + 1, r203, l225, v226) ⟨by show i193 + 1 + r203 = ((List.replicate (IntKind.wrap .i64 ((1 : Int) * 2 ^ (min x0.toNat (IntKind.bits .i64)))).toNat (0 : Int))).length; omega, h197⟩ (by simp) (St.cut [0, 1] ⟨rfl, rfl, rfl, rfl, trivial⟩ (by decide) rfl st)
    · have h202 : ¬ i193 < ((List.replicate (IntKind.wrap .i64 ((1 : Int) * 2 ^ (min x0.toNat (IntKind.bits .i64)))).toNat (0 : Int))).length := by have := of_decide_eq_false b201; omega
      obtain rfl : r194 = 0 := by omega
      replace h198 : some (Fl.nx _) = some y186 := h198
      cases h198
      exact GL.exit (fun a w st => mid_intro (l98, v99) h189 (St.cut [1] ⟨rfl, trivial⟩ (by decide) rfl st))
  · rintro ⟨l98, v99⟩ h289
    have h290 := h190 _ h289
    try dsimp only at h290
    refine GL.weak (env' := [(5, v99)]) (L' := [own 3 TR.int v99 l98]) (fun _ _ st => st) ?_
    refine GL.seq ?_
    refine GL.region ?_
    refine RL.mv rfl rfl rfl ?_
    refine RL.asg rfl rfl rfl ?_
    refine RL.finG ?_
    have h290 := Option.some.inj h290
    subst h290
    exact GL.ret (Gx.ret (v := v99) (res1 rfl rfl) (fun a w st => (st.pick [0] (by decide) rfl).toPost v99))

set_option maxHeartbeats 4000000 in
theorem worth_Holds_c (S : Hp) (w : World) (hS : S.sub w) (x0 : Int) (v1 : Value) (x1 : (List Int)) (k1 : ((TR.sl TR.int)).vrep S v1 x1) (v2 : Value) (x2 : (List Int)) (k2 : ((TR.sl TR.int)).vrep S v2 x2) (res : Bool × Int) (hm : worth_Holds_m x0 x1 x2 = some res) : Calls Try.prog 27 #[.int .i64 x0, v1, v2] w (PostC w (.tuple #[.bool res.1, .int .i64 res.2])) := by
  refine calls_enter 81 Try.func27 Try.ntmps27 rfl S true [(0, .int .i64 x0), (1, v1), (2, v2)] [imm (TR.sl TR.int) v1 x1, imm (TR.sl TR.int) v2 x2] rfl ⟨rfl, ⟨rfl, ⟨rfl, trivial⟩⟩⟩ hS ⟨k1, ⟨k2, trivial⟩⟩ ?_
  unfold worth_Holds_m at hm
  refine GL.seq ?_
  refine GL.region ?_
  refine RL.asg rfl rfl rfl ?_
  refine RL.asg rfl rfl rfl ?_
  refine RL.finG ?_
  refine GL.seq ?_
  refine GL.seq ?_
  refine GL.region ?_
  refine RL.mv rfl rfl rfl ?_
  refine RL.mv rfl rfl rfl ?_
  obtain ⟨y6, e7, hm⟩ := bind_some hm
  refine RL.callC (v := .int .i64 y6) (vs := [.int .i64 x0, v1]) Try_fit34 rfl rfl rfl rfl (fun U w hU hW hL => worth_Check_c U w hU x0 _ _ (hL 0 _ _ rfl Seen.imm) _ e7) ?_
  refine RL.asg rfl rfl rfl ?_
  refine RL.finG ?_
  refine GL.seq ?_
  refine GL.region ?_
  refine RL.mv rfl rfl rfl ?_
  refine RL.binI (v := .bool (y6 != (0 : Int))) rfl rfl rfl rfl rfl ?_
  refine RL.finG ?_
  refine GL.cond rfl (fun b8 => ?_) (fun b8 => ?_)
  · replace hm := ite_t b8 hm
    refine GL.seq ?_
    refine GL.region ?_
    refine RL.mv rfl rfl rfl ?_
    refine RL.asg rfl rfl rfl ?_
    refine RL.asg rfl rfl rfl ?_
    refine RL.finG ?_
    have hm := Option.some.inj hm
    subst hm
    exact GL.ret (Gx.ret (v := .tuple #[.bool false, .int .i64 y6]) (res2 rfl rfl rfl) (fun a w st => st.toPostC rfl))
  · replace hm := ite_f b8 hm
    refine GL.skip ?_
    refine GL.seq ?_
    refine GL.seq ?_
    refine GL.region ?_
    refine RL.mv rfl rfl rfl ?_
    refine RL.lenS 1 Try.underlying22 rfl rfl rfl rfl SlOf.imm ?_
    refine RL.mv rfl rfl rfl ?_
    refine RL.binI (v := .bool (((x2).length : Int) != x0)) rfl rfl rfl rfl rfl ?_
    refine RL.finG ?_
    refine GL.cond rfl (fun b9 => ?_) (fun b9 => ?_)
    · replace hm := ite_t b9 hm
      refine GL.seq ?_
      refine GL.region ?_
      refine RL.asg rfl rfl rfl ?_
      refine RL.asg rfl rfl rfl ?_
      refine RL.finG ?_
      have hm := Option.some.inj hm
      subst hm
      exact GL.ret (Gx.ret (v := .tuple #[.bool false, .int .i64 (3 : Int)]) (res2 rfl rfl rfl) (fun a w st => st.toPostC rfl))
    · replace hm := ite_f b9 hm
      refine GL.skip ?_
      refine GL.seq ?_
      refine GL.seq ?_
      refine GL.region ?_
      refine RL.mv rfl rfl rfl ?_
      refine RL.lenS 1 Try.underlying22 rfl rfl rfl rfl SlOf.imm ?_
      refine RL.mv rfl rfl rfl ?_
      refine RL.finG ?_
      refine GL.open_ 1 rfl (fun S h => len_imm S h) (fun n28 => ?_)
      obtain ⟨y29, K30, h31, h32, h33, h34, h35⟩ := bindR_K hm
      refine GL.join (ι := Unit) (fun (p : Unit) => [(1, v1), (2, v2)]) (fun (p : Unit) => [imm (TR.sl TR.int) v1 x1, imm (TR.sl TR.int) v2 x2]) (fun (p : Unit) => K30 (.nx ())) ?_ ?_
      · refine GL.block ?_
        refine GL.loop (ι := Nat × (List Int)) (fun (p : Nat × (List Int)) => [(1, v1), (2, v2), (25, v2), (26, .int .i64 ((x2).length : Int)), (27, .int .i64 (p.1 : Int))]) (fun (p : Nat × (List Int)) => [imm (TR.sl TR.int) v1 x1, imm (TR.sl TR.int) v2 x2]) (fun (p : Nat × (List Int)) => p.1 + p.2.length = (x2).length ∧ List.drop p.1 x2 = p.2 ∧ rangeL worth_Holds_b1 p.2 p.1 () = some y29) (fun (p : Nat × (List Int)) => p.2.length) (0, x2) ⟨by simp, by simp, h31⟩ (fun a w st => St.cut [0, 1] ⟨rfl, rfl, rfl, rfl, rfl, trivial⟩ (by decide) rfl st) ?_
        rintro ⟨i36, r37⟩ ⟨h42, h43, h41⟩
        try dsimp only at h42 h43 h41
        refine GL.weak (env' := [(1, v1), (2, v2), (25, v2), (26, .int .i64 ((x2).length : Int)), (27, .int .i64 (i36 : Int))]) (L' := [imm (TR.sl TR.int) v1 x1, imm (TR.sl TR.int) v2 x2]) (fun _ _ st => st) ?_
        refine GL.seq ?_
        refine GL.region ?_
        refine RL.binI (v := .bool (decide ((i36 : Int) < ((x2).length : Int)))) rfl rfl rfl rfl rfl ?_
        refine RL.finG ?_
        refine GL.seq ?_
        refine GL.cond rfl (fun b44 => ?_) (fun b44 => ?_)
        · have h45 : i36 < (x2).length := by have := of_decide_eq_true b44; omega
          obtain ⟨y46, r48, hr, e47, h49⟩ := drop_cons h43 rfl h45
          subst hr
          obtain ⟨z38, h39, h40⟩ := rangeL_some h41
          unfold worth_Holds_b1 at h39
          try dsimp only at h39
          refine GL.skip ?_
          refine GL.seq ?_
          refine GL.block ?_
          refine GL.seq ?_
          refine GL.region ?_
          refine RL.idxS (sz := 1) 1 Try.underlying22 Try_ln3 rfl rfl rfl rfl rfl SlOf.imm (by omega) (by omega) ?_
          refine RL.ldSx (i := i36) (e' := y46) 1 Ex.ik Try_ln3 rfl rfl rfl rfl SlOf.imm e47 Part.self ?_
          refine RL.asg rfl rfl rfl ?_
          refine RL.finG ?_
          refine GL.seq ?_
          obtain ⟨y53, K54, h55, h56, h57, h58, h59⟩ := bindF_K h39
          refine GL.join (ι := Bool) (fun (p : Bool) => [(1, v1), (2, v2), (25, v2), (26, .int .i64 ((x2).length : Int)), (27, .int .i64 (i36 : Int)), (36, .bool p)]) (fun (p : Bool) => [imm (TR.sl TR.int) v1 x1, imm (TR.sl TR.int) v2 x2]) (fun (p : Bool) => K54 (.nx p)) ?_ ?_
          · skip
            refine GL.region ?_
            refine RL.mv rfl rfl rfl ?_
            refine RL.binI (v := .bool (decide (y46 < (-1000000000 : Int)))) rfl rfl rfl rfl rfl ?_
            refine RL.mv rfl rfl rfl ?_
            refine RL.split (t := 33) rfl (fun b60 => ?_) (fun b60 => ?_)
            · replace h55 := ite_t b60 h55
              refine RL.skip rfl rfl ?_
              refine RL.skip rfl rfl ?_
              refine RL.pickT rfl rfl rfl rfl ?_
              refine RL.fin ?_
              cases h55
              exact fun a w st => mid_intro true h56 (St.cut [0, 1] ⟨rfl, rfl, rfl, rfl, rfl, rfl, trivial⟩ (by decide) rfl st)
            · replace h55 := ite_f b60 h55
              refine RL.mv rfl rfl rfl ?_
              refine RL.binI (v := .bool (decide (y46 > (1000000000 : Int)))) rfl rfl rfl rfl rfl ?_
              refine RL.pickF rfl rfl rfl rfl ?_
              refine RL.fin ?_
              cases h55
              exact fun a w st => mid_intro (decide (y46 > (1000000000 : Int))) h56 (St.cut [0, 1] ⟨rfl, rfl, rfl, rfl, rfl, rfl, trivial⟩ (by decide) rfl st)
          · rintro x52 h61
            have h62 := h57 _ h61
            try dsimp only at h62
            refine GL.weak (env' := [(1, v1), (2, v2), (25, v2), (26, .int .i64 ((x2).length : Int)), (27, .int .i64 (i36 : Int)), (36, .bool x52)]) (L' := [imm (TR.sl TR.int) v1 x1, imm (TR.sl TR.int) v2 x2]) (fun _ _ st => st) ?_
            refine GL.cond rfl (fun b63 => ?_) (fun b63 => ?_)
            · replace h62 := ite_t b63 h62
              refine GL.seq ?_
              refine GL.region ?_
              refine RL.asg rfl rfl rfl ?_
              refine RL.asg rfl rfl rfl ?_
              refine RL.finG ?_
              cases h62
              replace h40 : some (Fl.rt _) = some y29 := h40
              cases h40
              have hh := h34 _ h32
              subst hh
              exact GL.ret (Gx.ret (v := .tuple #[.bool false, .int .i64 (1 : Int)]) (res2 rfl rfl rfl) (fun a w st => st.toPostC rfl))
            · replace h62 := ite_f b63 h62
              refine GL.skip ?_
              refine GL.nilB ?_
              refine GL.region ?_
              refine RL.binI (v := .int .i64 ((i36 + 1 : Nat) : Int)) rfl rfl rfl rfl (binI_succ i36 (by omega)) ?_
              refine RL.mv rfl rfl rfl ?_
              refine RL.fin ?_
              cases h62
              exact fun a w st => lop_intro (i36 + 1, r48) ⟨by show i36 + 1 + r48.length = (x2).length; simp only [List.length_cons] at h42; omega, h49, h40⟩ (by simp) (St.cut [0, 1] ⟨rfl, rfl, rfl, rfl, rfl, trivial⟩ (by decide) rfl st)
        · have h45 : ¬ i36 < (x2).length := by have := of_decide_eq_false b44; omega
          obtain rfl : r37 = [] := by rw [← h43]; exact List.drop_of_length_le (by omega)
          replace h41 : some (Fl.nx _) = some y29 := h41
          cases h41
          exact GL.exit (fun a w st => mid_intro () h32 (St.cut [0, 1] ⟨rfl, rfl, trivial⟩ (by decide) rfl st))
      · rintro ⟨⟩ h64
        have h65 := h33 _ h64
        try dsimp only at h65
        refine GL.weak (env' := [(1, v1), (2, v2)]) (L' := [imm (TR.sl TR.int) v1 x1, imm (TR.sl TR.int) v2 x2]) (fun _ _ st => st) ?_
        refine GL.seq ?_
        refine GL.seq ?_
        refine GL.region ?_
        refine RL.mv rfl rfl rfl ?_
        refine RL.lenS 0 Try.underlying22 rfl rfl rfl rfl SlOf.imm ?_
        refine RL.mv rfl rfl rfl ?_
        refine RL.finG ?_
        refine GL.open_ 0 rfl (fun S h => len_imm S h) (fun n134 => ?_)
        obtain ⟨y135, K136, h137, h138, h139, h140, h141⟩ := bindR_K h65
        refine GL.join (ι := Unit) (fun (p : Unit) => []) (fun (p : Unit) => []) (fun (p : Unit) => K136 (.nx ())) ?_ ?_
        · refine GL.block ?_
          refine GL.loop (ι := Nat × (List Int)) (fun (p : Nat × (List Int)) => [(1, v1), (2, v2), (39, .int .i64 ((x1).length : Int)), (40, .int .i64 (p.1 : Int))]) (fun (p : Nat × (List Int)) => [imm (TR.sl TR.int) v1 x1, imm (TR.sl TR.int) v2 x2]) (fun (p : Nat × (List Int)) => p.1 + p.2.length = (x1).length ∧ List.drop p.1 x1 = p.2 ∧ rangeL (worth_Holds_b2 x2 x1) p.2 p.1 () = some y135) (fun (p : Nat × (List Int)) => p.2.length) (0, x1) ⟨by simp, by simp, h137⟩ (fun a w st => St.cut [0, 1] ⟨rfl, rfl, rfl, rfl, trivial⟩ (by decide) rfl st) ?_
          rintro ⟨i142, r143⟩ ⟨h148, h149, h147⟩
          try dsimp only at h148 h149 h147
          refine GL.weak (env' := [(1, v1), (2, v2), (39, .int .i64 ((x1).length : Int)), (40, .int .i64 (i142 : Int))]) (L' := [imm (TR.sl TR.int) v1 x1, imm (TR.sl TR.int) v2 x2]) (fun _ _ st => st) ?_
          refine GL.seq ?_
          refine GL.region ?_
          refine RL.binI (v := .bool (decide ((i142 : Int) < ((x1).length : Int)))) rfl rfl rfl rfl rfl ?_
          refine RL.finG ?_
          refine GL.seq ?_
          refine GL.cond rfl (fun b150 => ?_) (fun b150 => ?_)
          · have h151 : i142 < (x1).length := by have := of_decide_eq_true b150; omega
            obtain ⟨y152, r154, hr, e153, h155⟩ := drop_cons h149 rfl h151
            subst hr
            obtain ⟨z144, h145, h146⟩ := rangeL_some h147
            unfold worth_Holds_b2 at h145
            try dsimp only at h145
            refine GL.skip ?_
            refine GL.seq ?_
            refine GL.block ?_
            refine GL.seq ?_
            refine GL.region ?_
            refine RL.mv rfl rfl rfl ?_
            refine RL.asg rfl rfl rfl ?_
            refine RL.finG ?_
            refine GL.seq ?_
            refine GL.region ?_
            refine RL.asg rfl rfl rfl ?_
            refine RL.finG ?_
            refine GL.seq ?_
            refine GL.seq ?_
            refine GL.region ?_
            refine RL.mv rfl rfl rfl ?_
            refine RL.lenS 1 Try.underlying22 rfl rfl rfl rfl SlOf.imm ?_
            refine RL.mv rfl rfl rfl ?_
            refine RL.finG ?_
            refine GL.open_ 1 rfl (fun S h => len_imm S h) (fun n166 => ?_)
            obtain ⟨y167, K168, h169, h170, h171, h172, h173⟩ := bindF_K h145
            refine GL.join (ι := Int) (fun (p : Int) => [(1, v1), (2, v2), (11, .int .i64 (i142 : Int)), (12, .int .i64 p), (39, .int .i64 ((x1).length : Int)), (40, .int .i64 (i142 : Int))]) (fun (p : Int) => [imm (TR.sl TR.int) v1 x1, imm (TR.sl TR.int) v2 x2]) (fun (p : Int) => K168 (.nx p)) ?_ ?_
            · refine GL.block ?_
              refine GL.loop (ι := Nat × (List Int) × Int) (fun (p : Nat × (List Int) × Int) => [(1, v1), (2, v2), (11, .int .i64 (i142 : Int)), (12, .int .i64 p.2.2), (39, .int .i64 ((x1).length : Int)), (40, .int .i64 (i142 : Int)), (43, v2), (44, .int .i64 ((x2).length : Int)), (45, .int .i64 (p.1 : Int))]) (fun (p : Nat × (List Int) × Int) => [imm (TR.sl TR.int) v1 x1, imm (TR.sl TR.int) v2 x2]) (fun (p : Nat × (List Int) × Int) => p.1 + p.2.1.length = (x2).length ∧ List.drop p.1 x2 = p.2.1 ∧ rangeL (worth_Holds_b3 i142) p.2.1 p.1 p.2.2 = some y167) (fun (p : Nat × (List Int) × Int) => p.2.1.length) (0, x2, (0 : Int)) ⟨by simp, by simp, h169⟩ (fun a w st => St.cut [0, 1] ⟨rfl, rfl, rfl, rfl, rfl, rfl, rfl, rfl, rfl, trivial⟩ (by decide) rfl st) ?_
              rintro ⟨i174, r175, x156⟩ ⟨h180, h181, h179⟩
              try dsimp only at h180 h181 h179
              refine GL.weak (env' := [(1, v1), (2, v2), (11, .int .i64 (i142 : Int)), (12, .int .i64 x156), (39, .int .i64 ((x1).length : Int)), (40, .int .i64 (i142 : Int)), (43, v2), (44, .int .i64 ((x2).length : Int)), (45, .int .i64 (i174 : Int))]) (L' := [imm (TR.sl TR.int) v1 x1, imm (TR.sl TR.int) v2 x2]) (fun _ _ st => st) ?_
              refine GL.seq ?_
              refine GL.region ?_
              refine RL.binI (v := .bool (decide ((i174 : Int) < ((x2).length : Int)))) rfl rfl rfl rfl rfl ?_
              refine RL.finG ?_
              refine GL.seq ?_
              refine GL.cond rfl (fun b182 => ?_) (fun b182 => ?_)
              · have h183 : i174 < (x2).length := by have := of_decide_eq_true b182; omega
                obtain ⟨y184, r186, hr, e185, h187⟩ := drop_cons h181 rfl h183
                subst hr
                obtain ⟨z176, h177, h178⟩ := rangeL_some h179
                unfold worth_Holds_b3 at h177
                try dsimp only at h177
                refine GL.skip ?_
                refine GL.seq ?_
                refine GL.block ?_
                refine GL.seq ?_
                refine GL.region ?_
                refine RL.mv rfl rfl rfl ?_
                refine RL.idxS (sz := 1) 1 Try.underlying22 Try_ln3 rfl rfl rfl rfl rfl SlOf.imm (by omega) (by omega) ?_
                refine RL.ldSx (i := i174) (e' := y184) 1 Ex.ik Try_ln3 rfl rfl rfl rfl SlOf.imm e185 Part.self ?_
                refine RL.asg rfl rfl rfl ?_
                refine RL.asg rfl rfl rfl ?_
                refine RL.finG ?_
                refine GL.seq ?_
                refine GL.region ?_
                refine RL.mv rfl rfl rfl ?_
                refine RL.mv rfl rfl rfl ?_
                obtain ⟨y190, e191, h177⟩ := bind_some h177
                replace e191 := chk_some e191
                refine RL.sh (by simp) rfl rfl rfl rfl e191 ?_
                refine RL.binI (v := .int .i64 (bits .and .i64 (Int.fdiv (i142 : Int) (2 ^ (min (i174 : Int).toNat (IntKind.bits .i64)))) (1 : Int))) rfl rfl rfl rfl rfl ?_
                refine RL.binI (v := .bool ((bits .and .i64 (Int.fdiv (i142 : Int) (2 ^ (min (i174 : Int).toNat (IntKind.bits .i64)))) (1 : Int)) == (1 : Int))) rfl rfl rfl rfl rfl ?_
                refine RL.finG ?_
                refine GL.cond rfl (fun b192 => ?_) (fun b192 => ?_)
                · replace h177 := ite_t b192 h177
                  refine GL.region ?_
                  refine RL.mv rfl rfl rfl ?_
                  refine RL.mv rfl rfl rfl ?_
                  refine RL.binI (v := .int .i64 (wadd x156 y184)) rfl rfl rfl rfl rfl ?_
                  refine RL.asg rfl rfl rfl ?_
                  refine RL.finG ?_
                  refine GL.nilB ?_
                  refine GL.region ?_
                  refine RL.binI (v := .int .i64 ((i174 + 1 : Nat) : Int)) rfl rfl rfl rfl (binI_succ i174 (by omega)) ?_
                  refine RL.mv rfl rfl rfl ?_
                  refine RL.fin ?_
                  cases h177
                  exact fun a w st => lop_intro (i174 + 1, r186, wadd x156 y184) ⟨by show i174 + 1 + r186.length = (x2).length; simp only [List.length_cons] at h180; omega, h187, h178⟩ (by simp) (St.cut [0, 1] ⟨rfl, rfl, rfl, rfl, rfl, rfl, rfl, rfl, rfl, trivial⟩ (by decide) rfl st)
                · replace h177 := ite_f b192 h177
                  refine GL.skip ?_
                  refine GL.nilB ?_
                  refine GL.region ?_
                  refine RL.binI (v := .int .i64 ((i174 + 1 : Nat) : Int)) rfl rfl rfl rfl (binI_succ i174 (by omega)) ?_
                  refine RL.mv rfl rfl rfl ?_
                  refine RL.fin ?_
                  cases h177
                  exact fun a w st => lop_intro (i174 + 1, r186, x156) ⟨by show i174 + 1 + r186.length = (x2).length; simp only [List.length_cons] at h180; omega, h187, h178⟩ (by simp) (St.cut [0, 1] ⟨rfl, rfl, rfl, rfl, rfl, rfl, rfl, rfl, rfl, trivial⟩ (by decide) rfl st)
              · have h183 : ¬ i174 < (x2).length := by have := of_decide_eq_false b182; omega
                obtain rfl : r175 = [] := by rw [← h181]; exact List.drop_of_length_le (by omega)
                replace h179 : some (Fl.nx _) = some y167 := h179
                cases h179
                exact GL.exit (fun a w st => mid_intro x156 h170 (St.cut [0, 1] ⟨rfl, rfl, rfl, rfl, rfl, rfl, trivial⟩ (by decide) rfl st))
            · rintro x156 h193
              have h194 := h171 _ h193
              try dsimp only at h194
              refine GL.weak (env' := [(1, v1), (2, v2), (11, .int .i64 (i142 : Int)), (12, .int .i64 x156), (39, .int .i64 ((x1).length : Int)), (40, .int .i64 (i142 : Int))]) (L' := [imm (TR.sl TR.int) v1 x1, imm (TR.sl TR.int) v2 x2]) (fun _ _ st => st) ?_
              refine GL.seq ?_
              obtain ⟨y200, K201, h202, h203, h204, h205, h206⟩ := bindF_K h194
              refine GL.join (ι := Bool) (fun (p : Bool) => [(1, v1), (2, v2), (39, .int .i64 ((x1).length : Int)), (40, .int .i64 (i142 : Int)), (79, .bool p)]) (fun (p : Bool) => [imm (TR.sl TR.int) v1 x1, imm (TR.sl TR.int) v2 x2]) (fun (p : Bool) => K201 (.nx p)) ?_ ?_
              · skip
                refine GL.region ?_
                refine RL.mv rfl rfl rfl ?_
                refine RL.mv rfl rfl rfl ?_
                refine RL.mv rfl rfl rfl ?_
                refine RL.idxS (sz := 1) 0 Try.underlying22 Try_ln3 rfl rfl rfl rfl rfl SlOf.imm (by omega) (by omega) ?_
                refine RL.ldSx (i := i142) (e' := y152) 0 Ex.ik Try_ln3 rfl rfl rfl rfl SlOf.imm e153 Part.self ?_
                refine RL.binI (v := .bool (decide (x156 < y152))) rfl rfl rfl rfl rfl ?_
                refine RL.mv rfl rfl rfl ?_
                refine RL.split (t := 65) rfl (fun b207 => ?_) (fun b207 => ?_)
                · replace h202 := ite_t b207 h202
                  refine RL.skip rfl rfl ?_
                  refine RL.skip rfl rfl ?_
                  refine RL.skip rfl rfl ?_
                  refine RL.skip rfl rfl ?_
                  refine RL.skip rfl rfl ?_
                  refine RL.skip rfl rfl ?_
                  refine RL.skip rfl rfl ?_
                  refine RL.skip rfl rfl ?_
                  refine RL.skip rfl rfl ?_
                  refine RL.skip rfl rfl ?_
                  refine RL.skip rfl rfl ?_
                  refine RL.skip rfl rfl ?_
                  refine RL.skip rfl rfl ?_
                  refine RL.pickT rfl rfl rfl rfl ?_
                  refine RL.fin ?_
                  cases h202
                  exact fun a w st => mid_intro true h203 (St.cut [0, 1] ⟨rfl, rfl, rfl, rfl, rfl, trivial⟩ (by decide) rfl st)
                · replace h202 := ite_f b207 h202
                  refine RL.mv rfl rfl rfl ?_
                  refine RL.mv rfl rfl rfl ?_
                  refine RL.lenS 0 Try.underlying22 rfl rfl rfl rfl SlOf.imm ?_
                  refine RL.binI (v := .int .i64 (wsub ((x1).length : Int) (1 : Int))) rfl rfl rfl rfl rfl ?_
                  refine RL.binI (v := .bool ((i142 : Int) == (wsub ((x1).length : Int) (1 : Int)))) rfl rfl rfl rfl rfl ?_
                  refine RL.mv rfl rfl rfl ?_
                  refine RL.split (t := 71) rfl (fun b208 => ?_) (fun b208 => ?_)
                  · replace h202 := ite_t b208 h202
                    refine RL.mv rfl rfl rfl ?_
                    refine RL.mv rfl rfl rfl ?_
                    refine RL.mv rfl rfl rfl ?_
                    refine RL.idxS (sz := 1) 0 Try.underlying22 Try_ln3 rfl rfl rfl rfl rfl SlOf.imm (by omega) (by omega) ?_
                    refine RL.ldSx (i := i142) (e' := y152) 0 Ex.ik Try_ln3 rfl rfl rfl rfl SlOf.imm e153 Part.self ?_
                    refine RL.binI (v := .bool (x156 != y152)) rfl rfl rfl rfl rfl ?_
                    refine RL.pickT rfl rfl rfl rfl ?_
                    refine RL.pickF rfl rfl rfl rfl ?_
                    refine RL.fin ?_
                    cases h202
                    exact fun a w st => mid_intro (x156 != y152) h203 (St.cut [0, 1] ⟨rfl, rfl, rfl, rfl, rfl, trivial⟩ (by decide) rfl st)
                  · replace h202 := ite_f b208 h202
                    refine RL.skip rfl rfl ?_
                    refine RL.skip rfl rfl ?_
                    refine RL.skip rfl rfl ?_
                    refine RL.skip rfl rfl ?_
                    refine RL.skip rfl rfl ?_
                    refine RL.skip rfl rfl ?_
                    refine RL.pickF rfl rfl rfl rfl ?_
                    refine RL.pickF rfl rfl rfl rfl ?_
                    refine RL.fin ?_
                    cases h202
                    exact fun a w st => mid_intro false h203 (St.cut [0, 1] ⟨rfl, rfl, rfl, rfl, rfl, trivial⟩ (by decide) rfl st)
              · rintro x199 h209
                have h210 := h204 _ h209
                try dsimp only at h210
                refine GL.weak (env' := [(1, v1), (2, v2), (39, .int .i64 ((x1).length : Int)), (40, .int .i64 (i142 : Int)), (79, .bool x199)]) (L' := [imm (TR.sl TR.int) v1 x1, imm (TR.sl TR.int) v2 x2]) (fun _ _ st => st) ?_
                refine GL.cond rfl (fun b211 => ?_) (fun b211 => ?_)
                · replace h210 := ite_t b211 h210
                  refine GL.seq ?_
                  refine GL.region ?_
                  refine RL.asg rfl rfl rfl ?_
                  refine RL.asg rfl rfl rfl ?_
                  refine RL.finG ?_
                  cases h210
                  replace h146 : some (Fl.rt _) = some y135 := h146
                  cases h146
                  have hh := h140 _ h138
                  subst hh
                  exact GL.ret (Gx.ret (v := .tuple #[.bool false, .int .i64 (0 : Int)]) (res2 rfl rfl rfl) (fun a w st => st.toPostC rfl))
                · replace h210 := ite_f b211 h210
                  refine GL.skip ?_
                  refine GL.nilB ?_
                  refine GL.region ?_
                  refine RL.binI (v := .int .i64 ((i142 + 1 : Nat) : Int)) rfl rfl rfl rfl (binI_succ i142 (by omega)) ?_
                  refine RL.mv rfl rfl rfl ?_
                  refine RL.fin ?_
                  cases h210
                  exact fun a w st => lop_intro (i142 + 1, r154) ⟨by show i142 + 1 + r154.length = (x1).length; simp only [List.length_cons] at h148; omega, h155, h146⟩ (by simp) (St.cut [0, 1] ⟨rfl, rfl, rfl, rfl, trivial⟩ (by decide) rfl st)
          · have h151 : ¬ i142 < (x1).length := by have := of_decide_eq_false b150; omega
            obtain rfl : r143 = [] := by rw [← h149]; exact List.drop_of_length_le (by omega)
            replace h147 : some (Fl.nx _) = some y135 := h147
            cases h147
            exact GL.exit (fun a w st => mid_intro () h138 (St.cut [] trivial (by decide) rfl st))
        · rintro ⟨⟩ h212
          have h213 := h139 _ h212
          try dsimp only at h213
          refine GL.weak (env' := []) (L' := []) (fun _ _ st => st) ?_
          refine GL.seq ?_
          refine GL.region ?_
          refine RL.asg rfl rfl rfl ?_
          refine RL.asg rfl rfl rfl ?_
          refine RL.finG ?_
          have h213 := Option.some.inj h213
          subst h213
          exact GL.ret (Gx.ret (v := .tuple #[.bool true, .int .i64 (0 : Int)]) (res2 rfl rfl rfl) (fun a w st => st.toPostC rfl))

set_option maxHeartbeats 4000000 in
theorem pk_GameOf_c (S : Hp) (w : World) (hS : S.sub w) (x0 : Int) (v1 : Value) (x1 : (List Int)) (k1 : ((TR.sl TR.int)).vrep S v1 x1) (res : (List Int)) (hm : pk_GameOf_m x0 x1 = some res) : Calls Try.prog 16 #[.int .i64 x0, v1] w (Post w S (fun (o : Value) => o) (fun (o : Value) => [own 3 TR.int o res])) := by
  refine calls_enter 32 Try.func16 Try.ntmps16 rfl S false [(0, .int .i64 x0), (1, v1)] [imm (TR.sl TR.int) v1 x1] rfl ⟨rfl, ⟨rfl, trivial⟩⟩ hS ⟨k1, trivial⟩ ?_
  unfold pk_GameOf_m at hm
  refine GL.seq ?_
  refine GL.region ?_
  refine RL.asg rfl rfl rfl ?_
  refine RL.finG ?_
  refine GL.seq ?_
  refine GL.region ?_
  refine RL.mv rfl rfl rfl ?_
  obtain ⟨y8, e9, hm⟩ := bind_some hm
  replace e9 := chk_some e9
  refine RL.sh (by simp) rfl rfl rfl rfl e9 ?_
  obtain ⟨y10, e11, hm⟩ := bind_some hm
  replace e11 := chk_some e11
  refine RL.mkS (t := TR.int) (z := (0 : Int)) Try.underlying22 Try_lo3 (fun S => rfl) rfl rfl rfl rfl e11.1 e11.2 ?_
  intro v12
  refine RL.asg rfl rfl rfl ?_
  refine RL.finG ?_
  refine GL.seq ?_
  refine GL.seq ?_
  refine GL.region ?_
  refine RL.asg rfl rfl rfl ?_
  refine RL.finG ?_
  obtain ⟨y45, K46, h47, h48, h49, h50, h51⟩ := bindR_K hm
  refine GL.join (ι := (List Int) × Int × Value) (fun (p : (List Int) × Int × Value) => [(5, p.2.2)]) (fun (p : (List Int) × Int × Value) => [own 3 TR.int p.2.2 p.1]) (fun (p : (List Int) × Int × Value) => K46 (.nx (p.1, p.2.1))) ?_ ?_
  · refine GL.block ?_
    refine GL.loop (ι := Nat × (List Int) × Int × Value) (fun (p : Nat × (List Int) × Int × Value) => [(1, v1), (5, p.2.2.2), (6, .int .i64 p.2.2.1)]) (fun (p : Nat × (List Int) × Int × Value) => [imm (TR.sl TR.int) v1 x1, own 3 TR.int p.2.2.2 p.2.1]) (fun (p : Nat × (List Int) × Int × Value) => loopM (pk_GameOf_b1 x1) p.1 (p.2.1, p.2.2.1) = some y45) (fun (p : Nat × (List Int) × Int × Value) => p.1) (1048576, (List.replicate (IntKind.wrap .i64 ((1 : Int) * 2 ^ (min x0.toNat (IntKind.bits .i64)))).toNat (0 : Int)), (1 : Int), v12) h47 (fun a w st => St.cut [0, 1] ⟨rfl, rfl, rfl, trivial⟩ (by decide) rfl st) ?_
    rintro ⟨r53, l28, x30, v29⟩ h57
    try dsimp only at h57
    refine GL.weak (env' := [(1, v1), (5, v29), (6, .int .i64 x30)]) (L' := [imm (TR.sl TR.int) v1 x1, own 3 TR.int v29 l28]) (fun _ _ st => st) ?_
    obtain ⟨r60, z54, hr, h55, h56⟩ := loopM_some h57
    subst hr
    unfold pk_GameOf_b1 at h55
    try dsimp only at h55
    refine GL.seq ?_
    refine GL.seq ?_
    refine GL.region ?_
    refine RL.mv rfl rfl rfl ?_
    refine RL.mv rfl rfl rfl ?_
    refine RL.lenS 1 Try.underlying22 rfl rfl rfl rfl SlOf.own ?_
    refine RL.binI (v := .bool (decide (x30 < ((l28).length : Int)))) rfl rfl rfl rfl rfl ?_
    refine RL.finG ?_
    refine GL.cond rfl (fun b61 => ?_) (fun b61 => ?_)
    · replace h55 := ite_t b61 h55
      refine GL.skip ?_
      refine GL.seq ?_
      refine GL.block ?_
      refine GL.seq ?_
      refine GL.region ?_
      refine RL.mv rfl rfl rfl ?_
      refine RL.binI (v := .int .i64 (wsub x30 (1 : Int))) rfl rfl rfl rfl rfl ?_
      refine RL.mv rfl rfl rfl ?_
      refine RL.lenS 0 Try.underlying22 rfl rfl rfl rfl SlOf.imm ?_
      refine RL.binI (v := .bool (decide ((wsub x30 (1 : Int)) < ((x1).length : Int)))) rfl rfl rfl rfl rfl ?_
      refine RL.finG ?_
      refine GL.cond rfl (fun b62 => ?_) (fun b62 => ?_)
      · replace h55 := ite_t b62 h55
        refine GL.region ?_
        refine RL.mv rfl rfl rfl ?_
        refine RL.mv rfl rfl rfl ?_
        refine RL.mv rfl rfl rfl ?_
        refine RL.mv rfl rfl rfl ?_
        refine RL.binI (v := .int .i64 (wsub x30 (1 : Int))) rfl rfl rfl rfl rfl ?_
        obtain ⟨y69, e70, h55⟩ := bind_some h55
        refine RL.idxS (sz := 1) 0 Try.underlying22 Try_ln3 rfl rfl rfl rfl rfl SlOf.imm (idx_some e70).1 (idx_some e70).2.1 ?_
        refine RL.ldSx (i := (wsub x30 (1 : Int)).toNat) (e' := y69) 0 Ex.ik Try_ln3 rfl rfl rfl rfl SlOf.imm (idx_some e70).2.2 Part.self ?_
        obtain ⟨y71, e72, h55⟩ := bind_some h55
        refine RL.callC (v := .int .i64 y71) (vs := [.int .i64 y69, .int .i64 (41 : Int)]) Try_fit15 rfl rfl rfl rfl (fun U w hU hW hL => pk_Within_c U w hU y69 (41 : Int) _ e72) ?_
        refine RL.binI (v := .int .i64 (wsub y71 (10 : Int))) rfl rfl rfl rfl rfl ?_
        obtain ⟨y73, e74, h55⟩ := bind_some h55
        refine RL.idxS (sz := 1) 1 Try.underlying22 Try_ln3 rfl rfl rfl rfl rfl SlOf.own (idx_some e74).1 (idx_some e74).2.1 ?_
        refine RL.stS (i := (x30).toNat) (e' := wsub y71 (10 : Int)) (e1 := wsub y71 (10 : Int)) (r := TR.int) 1 Try_ln3 rfl rfl rfl rfl VR.int rfl (idx_some e74).2.2 Upd.self ?_
        refine RL.finG ?_
        refine GL.nilB ?_
        refine GL.region ?_
        refine RL.mv rfl rfl rfl ?_
        refine RL.binI (v := .int .i64 (wadd x30 (1 : Int))) rfl rfl rfl rfl rfl ?_
        refine RL.asg rfl rfl rfl ?_
        refine RL.finG ?_
        cases h55
        exact fun a w st => lop_intro (r60, (List.set l28 ((x30).toNat) (wsub y71 (10 : Int))), wadd x30 (1 : Int), v29) h56 (by simp) (St.cut [0, 1] ⟨rfl, rfl, rfl, trivial⟩ (by decide) rfl st)
      · replace h55 := ite_f b62 h55
        refine GL.skip ?_
        refine GL.nilB ?_
        refine GL.region ?_
        refine RL.mv rfl rfl rfl ?_
        refine RL.binI (v := .int .i64 (wadd x30 (1 : Int))) rfl rfl rfl rfl rfl ?_
        refine RL.asg rfl rfl rfl ?_
        refine RL.finG ?_
        cases h55
        exact fun a w st => lop_intro (r60, l28, wadd x30 (1 : Int), v29) h56 (by simp) (St.cut [0, 1] ⟨rfl, rfl, rfl, trivial⟩ (by decide) rfl st)
    · replace h55 := ite_f b61 h55
      cases h55
      replace h56 : some (Fl.nx _) = some y45 := h56
      cases h56
      exact GL.exit (fun a w st => mid_intro (l28, x30, v29) h48 (St.cut [1] ⟨rfl, trivial⟩ (by decide) rfl st))
  · rintro ⟨l28, x30, v29⟩ h75
    have h76 := h49 _ h75
    try dsimp only at h76
    refine GL.weak (env' := [(5, v29)]) (L' := [own 3 TR.int v29 l28]) (fun _ _ st => st) ?_
    refine GL.seq ?_
    refine GL.region ?_
    refine RL.mv rfl rfl rfl ?_
    refine RL.asg rfl rfl rfl ?_
    refine RL.finG ?_
    have h76 := Option.some.inj h76
    subst h76
    exact GL.ret (Gx.ret (v := v29) (res1 rfl rfl) (fun a w st => (st.pick [0] (by decide) rfl).toPost v29))

set_option maxHeartbeats 4000000 in
theorem slices_IndexFunc_api_Errno_api_Errno_c (S : Hp) (w : World) (hS : S.sub w) (v0 : Value) (x0 : (List Int)) (k0 : ((TR.sl TR.int)).vrep S v0 x0) (f1 : FuncId) (c1 : Array Value) (t1 : Fit Try.prog f1) (g1 : Int → Option Bool) (k1 : ∀ (U : Hp) (w' : World), Hp.le S U → U.sub w' → ∀ (a0 : Int) (rr : Bool), g1 a0 = some rr → Calls Try.prog f1 (#[.int .i64 a0] ++ c1) w' (PostV w' (.bool rr))) (res : Int) (hm : slices_IndexFunc_api_Errno_api_Errno_m x0 g1 = some res) : Calls Try.prog 45 #[v0, .func (.func f1) #[] c1] w (PostV w (.int .i64 res)) := by
  refine calls_enter 19 Try.func45 Try.ntmps45 rfl S false [(0, v0), (1, .func (.func f1) #[] c1)] [imm (TR.sl TR.int) v0 x0] rfl ⟨rfl, ⟨rfl, trivial⟩⟩ hS ⟨k0, trivial⟩ ?_
  unfold slices_IndexFunc_api_Errno_api_Errno_m at hm
  refine GL.seq ?_
  refine GL.region ?_
  refine RL.asg rfl rfl rfl ?_
  refine RL.finG ?_
  refine GL.seq ?_
  refine GL.seq ?_
  refine GL.region ?_
  refine RL.mv rfl rfl rfl ?_
  refine RL.lenS 0 Try.underlying53 rfl rfl rfl rfl SlOf.imm ?_
  refine RL.mv rfl rfl rfl ?_
  refine RL.finG ?_
  refine GL.open_ 0 rfl (fun S h => len_imm S h) (fun n12 => ?_)
  obtain ⟨y13, K14, h15, h16, h17, h18, h19⟩ := bindR_K hm
  refine GL.join (ι := Unit) (fun (p : Unit) => []) (fun (p : Unit) => []) (fun (p : Unit) => K14 (.nx ())) ?_ ?_
  · refine GL.block ?_
    refine GL.loop (ι := Nat × (List Int)) (fun (p : Nat × (List Int)) => [(0, v0), (1, .func (.func f1) #[] c1), (7, .int .i64 ((x0).length : Int)), (8, .int .i64 (p.1 : Int))]) (fun (p : Nat × (List Int)) => [imm (TR.sl TR.int) v0 x0]) (fun (p : Nat × (List Int)) => p.1 + p.2.length = (x0).length ∧ List.drop p.1 x0 = p.2 ∧ rangeL (slices_IndexFunc_api_Errno_api_Errno_b1 g1) p.2 p.1 () = some y13) (fun (p : Nat × (List Int)) => p.2.length) (0, x0) ⟨by simp, by simp, h15⟩ (fun a w st => St.cut [0] ⟨rfl, rfl, rfl, rfl, trivial⟩ (by decide) rfl st) ?_
    rintro ⟨i20, r21⟩ ⟨h26, h27, h25⟩
    try dsimp only at h26 h27 h25
    refine GL.weak (env' := [(0, v0), (1, .func (.func f1) #[] c1), (7, .int .i64 ((x0).length : Int)), (8, .int .i64 (i20 : Int))]) (L' := [imm (TR.sl TR.int) v0 x0]) (fun _ _ st => st) ?_
    refine GL.seq ?_
    refine GL.region ?_
    refine RL.binI (v := .bool (decide ((i20 : Int) < ((x0).length : Int)))) rfl rfl rfl rfl rfl ?_
    refine RL.finG ?_
    refine GL.seq ?_
    refine GL.cond rfl (fun b28 => ?_) (fun b28 => ?_)
    · have h29 : i20 < (x0).length := by have := of_decide_eq_true b28; omega
      obtain ⟨y30, r32, hr, e31, h33⟩ := drop_cons h27 rfl h29
      subst hr
      obtain ⟨z22, h23, h24⟩ := rangeL_some h25
      unfold slices_IndexFunc_api_Errno_api_Errno_b1 at h23
      try dsimp only at h23
      refine GL.skip ?_
      refine GL.seq ?_
      refine GL.block ?_
      refine GL.seq ?_
      refine GL.region ?_
      refine RL.mv rfl rfl rfl ?_
      refine RL.asg rfl rfl rfl ?_
      refine RL.finG ?_
      refine GL.seq ?_
      refine GL.region ?_
      refine RL.mv rfl rfl rfl ?_
      refine RL.mv rfl rfl rfl ?_
      refine RL.mv rfl rfl rfl ?_
      refine RL.idxS (sz := 1) 0 Try.underlying53 Try_ln26 rfl rfl rfl rfl rfl SlOf.imm (by omega) (by omega) ?_
      refine RL.ldSx (i := i20) (e' := y30) 0 Ex.ik Try_ln26 rfl rfl rfl rfl SlOf.imm e31 Part.self ?_
      obtain ⟨y36, e37, h23⟩ := bind_some h23
      refine RL.callV (v := .bool y36) (vs := [.int .i64 y30]) t1 rfl (Or.inl rfl) rfl rfl rfl rfl (fun U w hU hW hL => k1 U w hW hU y30 _ e37) ?_
      refine RL.finG ?_
      refine GL.cond rfl (fun b38 => ?_) (fun b38 => ?_)
      · replace h23 := ite_t b38 h23
        refine GL.seq ?_
        refine GL.region ?_
        refine RL.mv rfl rfl rfl ?_
        refine RL.asg rfl rfl rfl ?_
        refine RL.finG ?_
        cases h23
        replace h24 : some (Fl.rt _) = some y13 := h24
        cases h24
        have hh := h18 _ h16
        subst hh
        exact GL.ret (Gx.ret (v := .int .i64 (i20 : Int)) (res1 rfl rfl) (fun a w st => st.toPostV))
      · replace h23 := ite_f b38 h23
        refine GL.skip ?_
        refine GL.nilB ?_
        refine GL.region ?_
        refine RL.binI (v := .int .i64 ((i20 + 1 : Nat) : Int)) rfl rfl rfl rfl (binI_succ i20 (by omega)) ?_
        refine RL.mv rfl rfl rfl ?_
        refine RL.fin ?_
        cases h23
        exact fun a w st => lop_intro (i20 + 1, r32) ⟨by show i20 + 1 + r32.length = (x0).length; simp only [List.length_cons] at h26; omega, h33, h24⟩ (by simp) (St.cut [0] ⟨rfl, rfl, rfl, rfl, trivial⟩ (by decide) rfl st)
    · have h29 : ¬ i20 < (x0).length := by have := of_decide_eq_false b28; omega
      obtain rfl : r21 = [] := by rw [← h27]; exact List.drop_of_length_le (by omega)
      replace h25 : some (Fl.nx _) = some y13 := h25
      cases h25
      exact GL.exit (fun a w st => mid_intro () h16 (St.cut [] trivial (by decide) rfl st))
  · rintro ⟨⟩ h39
    have h40 := h17 _ h39
    try dsimp only at h40
    refine GL.weak (env' := []) (L' := []) (fun _ _ st => st) ?_
    refine GL.seq ?_
    refine GL.region ?_
    refine RL.asg rfl rfl rfl ?_
    refine RL.finG ?_
    have h40 := Option.some.inj h40
    subst h40
    exact GL.ret (Gx.ret (v := .int .i64 (-1 : Int)) (res1 rfl rfl) (fun a w st => st.toPostV))

set_option maxHeartbeats 4000000 in
theorem slices_ContainsFunc_api_Errno_api_Errno_c (S : Hp) (w : World) (hS : S.sub w) (v0 : Value) (x0 : (List Int)) (k0 : ((TR.sl TR.int)).vrep S v0 x0) (f1 : FuncId) (c1 : Array Value) (t1 : Fit Try.prog f1) (g1 : Int → Option Bool) (k1 : ∀ (U : Hp) (w' : World), Hp.le S U → U.sub w' → ∀ (a0 : Int) (rr : Bool), g1 a0 = some rr → Calls Try.prog f1 (#[.int .i64 a0] ++ c1) w' (PostV w' (.bool rr))) (res : Bool) (hm : slices_ContainsFunc_api_Errno_api_Errno_m x0 g1 = some res) : Calls Try.prog 37 #[v0, .func (.func f1) #[] c1] w (PostV w (.bool res)) := by
  refine calls_enter 9 Try.func37 Try.ntmps37 rfl S false [(0, v0), (1, .func (.func f1) #[] c1)] [imm (TR.sl TR.int) v0 x0] rfl ⟨rfl, ⟨rfl, trivial⟩⟩ hS ⟨k0, trivial⟩ ?_
  unfold slices_ContainsFunc_api_Errno_api_Errno_m at hm
  refine GL.seq ?_
  refine GL.region ?_
  refine RL.asg rfl rfl rfl ?_
  refine RL.finG ?_
  refine GL.seq ?_
  refine GL.region ?_
  refine RL.mv rfl rfl rfl ?_
  refine RL.mv rfl rfl rfl ?_
  obtain ⟨y5, e6, hm⟩ := bind_some hm
  refine RL.callV (v := .int .i64 y5) (vs := [v0, .func (.func f1) #[] c1]) Try_fit45 rfl (Or.inl rfl) rfl rfl rfl rfl (fun U w hU hW hL => slices_IndexFunc_api_Errno_api_Errno_c U w hU _ _ (hL 0 _ _ rfl Seen.imm) f1 c1 t1 g1 (fun U' w' hle => k1 U' w' (Hp.le_trans hW hle)) _ e6) ?_
  refine RL.binI (v := .bool (decide (y5 ≥ (0 : Int)))) rfl rfl rfl rfl rfl ?_
  refine RL.asg rfl rfl rfl ?_
  refine RL.finG ?_
  have hm := Option.some.inj hm
  subst hm
  exact GL.ret (Gx.ret (v := .bool (decide (y5 ≥ (0 : Int)))) (res1 rfl rfl) (fun a w st => st.toPostV))

set_option maxHeartbeats 4000000 in
theorem pk_good_1_c (S : Hp) (w : World) (hS : S.sub w) (x0 : Int) (res : Bool) (hm : pk_good_1_m x0 = some res) : Calls Try.prog 38 #[.int .i64 x0] w (PostC w (.bool res)) := by
  refine calls_enter 5 Try.func38 Try.ntmps38 rfl S true [(0, .int .i64 x0)] [] rfl ⟨rfl, trivial⟩ hS trivial ?_
  unfold pk_good_1_m at hm
  refine GL.seq ?_
  refine GL.region ?_
  refine RL.asg rfl rfl rfl ?_
  refine RL.finG ?_
  refine GL.seq ?_
  refine GL.region ?_
  refine RL.mv rfl rfl rfl ?_
  refine RL.binI (v := .bool (x0 != (0 : Int))) rfl rfl rfl rfl rfl ?_
  refine RL.asg rfl rfl rfl ?_
  refine RL.finG ?_
  have hm := Option.some.inj hm
  subst hm
  exact GL.ret (Gx.ret (v := .bool (x0 != (0 : Int))) (res1 rfl rfl) (fun a w st => st.toPostC rfl))

set_option maxHeartbeats 4000000 in
theorem pk_good_c (S : Hp) (w : World) (hS : S.sub w) (v0 : Value) (x0 : (List Int)) (k0 : ((TR.sl TR.int)).vrep S v0 x0) (res : Bool) (hm : pk_good_m x0 = some res) : Calls Try.prog 18 #[v0] w (PostV w (.bool res)) := by
  refine calls_enter 6 Try.func18 Try.ntmps18 rfl S false [(0, v0)] [imm (TR.sl TR.int) v0 x0] rfl ⟨rfl, trivial⟩ hS ⟨k0, trivial⟩ ?_
  unfold pk_good_m at hm
  refine GL.seq ?_
  refine GL.region ?_
  refine RL.asg rfl rfl rfl ?_
  refine RL.finG ?_
  refine GL.seq ?_
  refine GL.region ?_
  refine RL.mv rfl rfl rfl ?_
  obtain ⟨y4, e5, hm⟩ := bind_some hm
  refine RL.callV (v := .bool y4) (vs := [v0, .func (.func 38) #[] #[]]) Try_fit37 rfl (Or.inl rfl) rfl rfl rfl rfl (fun U w hU hW hL => slices_ContainsFunc_api_Errno_api_Errno_c U w hU _ _ (hL 0 _ _ rfl Seen.imm) 38 #[] Try_fit38 (fun a0 => pk_good_1_m a0) (fun U' w' hle hU' a0 rr hr => (pk_good_1_c U' w' hU' a0 rr hr).mono (fun _ _ z => z.toV)) _ e5) ?_
  refine RL.notB rfl rfl rfl ?_
  refine RL.asg rfl rfl rfl ?_
  refine RL.finG ?_
  have hm := Option.some.inj hm
  subst hm
  exact GL.ret (Gx.ret (v := .bool (!y4)) (res1 rfl rfl) (fun a w st => st.toPostV))

set_option maxHeartbeats 4000000 in
theorem pk_WorthHolds_c (S : Hp) (w : World) (hS : S.sub w) (x0 : Int) (v1 : Value) (x1 : (List Int)) (k1 : ((TR.sl TR.int)).vrep S v1 x1) (v2 : Value) (x2 : (List Int)) (k2 : ((TR.sl TR.int)).vrep S v2 x2) (res : Bool) (hm : pk_WorthHolds_m x0 x1 x2 = some res) : Calls Try.prog 8 #[.int .i64 x0, v1, v2] w (PostV w (.bool res)) := by
  refine calls_enter 121 Try.func8 Try.ntmps8 rfl S false [(0, .int .i64 x0), (1, v1), (2, v2)] [imm (TR.sl TR.int) v1 x1, imm (TR.sl TR.int) v2 x2] rfl ⟨rfl, ⟨rfl, ⟨rfl, trivial⟩⟩⟩ hS ⟨k1, ⟨k2, trivial⟩⟩ ?_
  unfold pk_WorthHolds_m at hm
  refine GL.seq ?_
  refine GL.region ?_
  refine RL.asg rfl rfl rfl ?_
  refine RL.finG ?_
  refine GL.seq ?_
  refine GL.seq ?_
  refine GL.region ?_
  obtain ⟨y6, e7, hm⟩ := bind_some hm
  refine RL.callV (v := .bool y6) (vs := []) Try_fit14 rfl (Or.inl rfl) rfl rfl rfl rfl (fun U w hU hW hL => pk_worths_c U w hU  _ e7) ?_
  refine RL.notB rfl rfl rfl ?_
  refine RL.finG ?_
  refine GL.cond rfl (fun b8 => ?_) (fun b8 => ?_)
  · replace hm := ite_t b8 hm
    refine GL.seq ?_
    refine GL.region ?_
    refine RL.asg rfl rfl rfl ?_
    refine RL.finG ?_
    have hm := Option.some.inj hm
    subst hm
    exact GL.ret (Gx.ret (v := .bool false) (res1 rfl rfl) (fun a w st => st.toPostV))
  · replace hm := ite_f b8 hm
    refine GL.skip ?_
    refine GL.seq ?_
    refine GL.region ?_
    refine RL.mv rfl rfl rfl ?_
    obtain ⟨y11, e12, hm⟩ := bind_some hm
    refine RL.callC (v := .int .i64 y11) (vs := [.int .i64 x0, .int .i64 (4 : Int)]) Try_fit15 rfl rfl rfl rfl (fun U w hU hW hL => pk_Within_c U w hU x0 (4 : Int) _ e12) ?_
    refine RL.binI (v := .int .i64 (wadd (1 : Int) y11)) rfl rfl rfl rfl rfl ?_
    refine RL.asg rfl rfl rfl ?_
    refine RL.finG ?_
    refine GL.seq ?_
    refine GL.region ?_
    refine RL.mv rfl rfl rfl ?_
    refine RL.mv rfl rfl rfl ?_
    refine RL.mv rfl rfl rfl ?_
    refine RL.lenS 0 Try.underlying22 rfl rfl rfl rfl SlOf.imm ?_
    refine RL.minI rfl rfl rfl rfl ?_
    obtain ⟨y19, e20, hm⟩ := bind_some hm
    replace e20 := chk_some e20
    refine RL.slc (t := TR.int) (i := 0) (j := (if (30 : Int) < ((x1).length : Int) then (30 : Int) else ((x1).length : Int)).toNat) (sz := 1) 0 Try.underlying22 Try_ln3 rfl rfl rfl rfl (Or.inl ⟨rfl, rfl⟩) (Or.inr ⟨_, _, rfl, by rw [Int.toNat_of_nonneg (by omega)]; rfl⟩) rfl (by omega) (by omega) ?_
    intro v21
    obtain ⟨y22, e23, hm⟩ := bind_some hm
    refine RL.call (vs := [.int .i64 (wadd (1 : Int) y11), v21]) Try_fit26 rfl rfl rfl rfl rfl (fun S f w hS hW hi => pk_roundOf_c S w hS (wadd (1 : Int) y11) _ _ (hi 2 _ rfl) _ e23) ?_
    intro v24
    refine RL.reL (L' := [imm (TR.sl TR.int) v1 x1, imm (TR.sl TR.int) v2 x2, imm (TR.sl TR.int) v21 ((List.take ((if (30 : Int) < ((x1).length : Int) then (30 : Int) else ((x1).length : Int)).toNat) x1).drop 0), own 3 TR.int v24 y22]) rfl ?_
    refine RL.asg rfl rfl rfl ?_
    refine RL.finG ?_
    refine GL.seq ?_
    refine GL.region ?_
    refine RL.mv rfl rfl rfl ?_
    refine RL.mv rfl rfl rfl ?_
    refine RL.weak (fun a w st => st.freeze 3 rfl) ?_
    obtain ⟨y28, e29, hm⟩ := bind_some hm
    refine RL.call (vs := [.int .i64 (wadd (1 : Int) y11), v24]) Try_fit17 rfl rfl rfl rfl rfl (fun S f w hS hW hi => worth_Share_c S w hS (wadd (1 : Int) y11) _ _ (hi 3 _ rfl) _ e29) ?_
    intro v30
    refine RL.reL (L' := [imm (TR.sl TR.int) v1 x1, imm (TR.sl TR.int) v2 x2, imm (TR.sl TR.int) v21 ((List.take ((if (30 : Int) < ((x1).length : Int) then (30 : Int) else ((x1).length : Int)).toNat) x1).drop 0), imm (TR.sl TR.int) v24 y22, own 3 TR.int v30 y28.1]) rfl ?_
    refine RL.mv rfl rfl rfl ?_
    refine RL.ext rfl rfl rfl rfl ?_
    refine RL.ext rfl rfl rfl rfl ?_
    refine RL.asg rfl rfl rfl ?_
    refine RL.asg rfl rfl rfl ?_
    refine RL.finG ?_
    refine GL.seq ?_
    refine GL.region ?_
    refine RL.asg rfl rfl rfl ?_
    refine RL.finG ?_
    refine GL.seq ?_
    refine GL.seq ?_
    refine GL.region ?_
    refine RL.asg rfl rfl rfl ?_
    refine RL.finG ?_
    obtain ⟨y34, K35, h36, h37, h38, h39, h40⟩ := bindR_K hm
    refine GL.join (ι := Int × Int) (fun (p : Int × Int) => [(0, .int .i64 (wadd (1 : Int) y11)), (2, v2), (7, v24), (8, v30), (9, .int .i64 y28.2), (10, .int .i64 p.1)]) (fun (p : Int × Int) => [imm (TR.sl TR.int) v2 x2, imm (TR.sl TR.int) v24 y22, own 3 TR.int v30 y28.1]) (fun (p : Int × Int) => K35 (.nx (p.1, p.2))) ?_ ?_
    · refine GL.block ?_
      refine GL.loop (ι := Nat × Int × Int) (fun (p : Nat × Int × Int) => [(0, .int .i64 (wadd (1 : Int) y11)), (2, v2), (7, v24), (8, v30), (9, .int .i64 y28.2), (10, .int .i64 p.2.1), (11, .int .i64 p.2.2)]) (fun (p : Nat × Int × Int) => [imm (TR.sl TR.int) v2 x2, imm (TR.sl TR.int) v24 y22, own 3 TR.int v30 y28.1]) (fun (p : Nat × Int × Int) => loopM (pk_WorthHolds_b1 y11) p.1 (p.2.1, p.2.2) = some y34) (fun (p : Nat × Int × Int) => p.1) (1048576, (1 : Int), (2 : Int)) h36 (fun a w st => St.cut [1, 3, 4] ⟨rfl, rfl, rfl, rfl, rfl, rfl, rfl, trivial⟩ (by decide) rfl st) ?_
      rintro ⟨r42, x31, x32⟩ h46
      try dsimp only at h46
      refine GL.weak (env' := [(0, .int .i64 (wadd (1 : Int) y11)), (2, v2), (7, v24), (8, v30), (9, .int .i64 y28.2), (10, .int .i64 x31), (11, .int .i64 x32)]) (L' := [imm (TR.sl TR.int) v2 x2, imm (TR.sl TR.int) v24 y22, own 3 TR.int v30 y28.1]) (fun _ _ st => st) ?_
      obtain ⟨r49, z43, hr, h44, h45⟩ := loopM_some h46
      subst hr
      unfold pk_WorthHolds_b1 at h44
      try dsimp only at h44
      refine GL.seq ?_
      refine GL.seq ?_
      refine GL.region ?_
      refine RL.mv rfl rfl rfl ?_
      refine RL.mv rfl rfl rfl ?_
      refine RL.binI (v := .bool (decide (x32 ≤ (wadd (1 : Int) y11)))) rfl rfl rfl rfl rfl ?_
      refine RL.finG ?_
      refine GL.cond rfl (fun b50 => ?_) (fun b50 => ?_)
      · replace h44 := ite_t b50 h44
        refine GL.skip ?_
        refine GL.seq ?_
        refine GL.block ?_
        refine GL.region ?_
        refine RL.mv rfl rfl rfl ?_
        refine RL.mv rfl rfl rfl ?_
        refine RL.binI (v := .int .i64 (wmul x31 x32)) rfl rfl rfl rfl rfl ?_
        refine RL.asg rfl rfl rfl ?_
        refine RL.finG ?_
        refine GL.nilB ?_
        refine GL.region ?_
        refine RL.mv rfl rfl rfl ?_
        refine RL.binI (v := .int .i64 (wadd x32 (1 : Int))) rfl rfl rfl rfl rfl ?_
        refine RL.asg rfl rfl rfl ?_
        refine RL.finG ?_
        cases h44
        exact fun a w st => lop_intro (r49, wmul x31 x32, wadd x32 (1 : Int)) h45 (by simp) (St.cut [0, 1, 2] ⟨rfl, rfl, rfl, rfl, rfl, rfl, rfl, trivial⟩ (by decide) rfl st)
      · replace h44 := ite_f b50 h44
        cases h44
        replace h45 : some (Fl.nx _) = some y34 := h45
        cases h45
        exact GL.exit (fun a w st => mid_intro (x31, x32) h37 (St.cut [0, 1, 2] ⟨rfl, rfl, rfl, rfl, rfl, rfl, trivial⟩ (by decide) rfl st))
    · rintro ⟨x31, x32⟩ h51
      have h52 := h38 _ h51
      try dsimp only at h52
      refine GL.weak (env' := [(0, .int .i64 (wadd (1 : Int) y11)), (2, v2), (7, v24), (8, v30), (9, .int .i64 y28.2), (10, .int .i64 x31)]) (L' := [imm (TR.sl TR.int) v2 x2, imm (TR.sl TR.int) v24 y22, own 3 TR.int v30 y28.1]) (fun _ _ st => st) ?_
      refine GL.seq ?_
      refine GL.region ?_
      refine RL.mv rfl rfl rfl ?_
      refine RL.lenS 1 Try.underlying22 rfl rfl rfl rfl SlOf.imm ?_
      obtain ⟨y56, e57, h52⟩ := bind_some h52
      replace e57 := chk_some e57
      refine RL.mkS (t := TR.int) (z := (0 : Int)) Try.underlying22 Try_lo3 (fun S => rfl) rfl rfl rfl rfl e57.1 e57.2 ?_
      intro v58
      refine RL.asg rfl rfl rfl ?_
      refine RL.finG ?_
      refine GL.seq ?_
      refine GL.seq ?_
      refine GL.region ?_
      refine RL.mv rfl rfl rfl ?_
      refine RL.lenS 1 Try.underlying22 rfl rfl rfl rfl SlOf.imm ?_
      refine RL.mv rfl rfl rfl ?_
      refine RL.finG ?_
      refine GL.open_ 1 rfl (fun S h => len_imm S h) (fun n77 => ?_)
      obtain ⟨y78, K79, h80, h81, h82, h83, h84⟩ := bindR_K h52
      refine GL.join (ι := (List Int) × Value) (fun (p : (List Int) × Value) => [(0, .int .i64 (wadd (1 : Int) y11)), (2, v2), (8, v30), (9, .int .i64 y28.2), (12, p.2)]) (fun (p : (List Int) × Value) => [imm (TR.sl TR.int) v2 x2, own 3 TR.int v30 y28.1, own 3 TR.int p.2 p.1]) (fun (p : (List Int) × Value) => K79 (.nx p.1)) ?_ ?_
      · refine GL.block ?_
        refine GL.loop (ι := Nat × (List Int) × (List Int) × Value) (fun (p : Nat × (List Int) × (List Int) × Value) => [(0, .int .i64 (wadd (1 : Int) y11)), (2, v2), (7, v24), (8, v30), (9, .int .i64 y28.2), (10, .int .i64 x31), (12, p.2.2.2), (51, .int .i64 ((y22).length : Int)), (52, .int .i64 (p.1 : Int))]) (fun (p : Nat × (List Int) × (List Int) × Value) => [imm (TR.sl TR.int) v2 x2, imm (TR.sl TR.int) v24 y22, own 3 TR.int v30 y28.1, own 3 TR.int p.2.2.2 p.2.2.1]) (fun (p : Nat × (List Int) × (List Int) × Value) => p.1 + p.2.1.length = (y22).length ∧ List.drop p.1 y22 = p.2.1 ∧ rangeL (pk_WorthHolds_b2 x31) p.2.1 p.1 p.2.2.1 = some y78) (fun (p : Nat × (List Int) × (List Int) × Value) => p.2.1.length) (0, y22, (List.replicate (((y22).length : Int)).toNat (0 : Int)), v58) ⟨by simp, by simp, h80⟩ (fun a w st => St.cut [0, 1, 2, 3] ⟨rfl, rfl, rfl, rfl, rfl, rfl, rfl, rfl, rfl, trivial⟩ (by decide) rfl st) ?_
        rintro ⟨i85, r86, l67, v68⟩ ⟨h91, h92, h90⟩
        try dsimp only at h91 h92 h90
        refine GL.weak (env' := [(0, .int .i64 (wadd (1 : Int) y11)), (2, v2), (7, v24), (8, v30), (9, .int .i64 y28.2), (10, .int .i64 x31), (12, v68), (51, .int .i64 ((y22).length : Int)), (52, .int .i64 (i85 : Int))]) (L' := [imm (TR.sl TR.int) v2 x2, imm (TR.sl TR.int) v24 y22, own 3 TR.int v30 y28.1, own 3 TR.int v68 l67]) (fun _ _ st => st) ?_
        refine GL.seq ?_
        refine GL.region ?_
        refine RL.binI (v := .bool (decide ((i85 : Int) < ((y22).length : Int)))) rfl rfl rfl rfl rfl ?_
        refine RL.finG ?_
        refine GL.seq ?_
        refine GL.cond rfl (fun b93 => ?_) (fun b93 => ?_)
        · have h94 : i85 < (y22).length := by have := of_decide_eq_true b93; omega
          obtain ⟨y95, r97, hr, e96, h98⟩ := drop_cons h92 rfl h94
          subst hr
          obtain ⟨z87, h88, h89⟩ := rangeL_some h90
          unfold pk_WorthHolds_b2 at h88
          try dsimp only at h88
          refine GL.skip ?_
          refine GL.seq ?_
          refine GL.block ?_
          refine GL.seq ?_
          refine GL.region ?_
          refine RL.mv rfl rfl rfl ?_
          refine RL.asg rfl rfl rfl ?_
          refine RL.finG ?_
          refine GL.region ?_
          refine RL.mv rfl rfl rfl ?_
          refine RL.mv rfl rfl rfl ?_
          refine RL.mv rfl rfl rfl ?_
          refine RL.mv rfl rfl rfl ?_
          refine RL.idxS (sz := 1) 1 Try.underlying22 Try_ln3 rfl rfl rfl rfl rfl SlOf.imm (by omega) (by omega) ?_
          refine RL.ldSx (i := i85) (e' := y95) 1 Ex.ik Try_ln3 rfl rfl rfl rfl SlOf.imm e96 Part.self ?_
          refine RL.mv rfl rfl rfl ?_
          refine RL.binI (v := .int .i64 (wmul y95 x31)) rfl rfl rfl rfl rfl ?_
          obtain ⟨y101, e102, h88⟩ := bind_some h88
          refine RL.idxS (sz := 1) 3 Try.underlying22 Try_ln3 rfl rfl rfl rfl rfl SlOf.own (idx_some e102).1 (idx_some e102).2.1 ?_
          refine RL.stS (i := i85) (e' := wmul y95 x31) (e1 := wmul y95 x31) (r := TR.int) 3 Try_ln3 rfl rfl rfl rfl VR.int rfl (idx_some e102).2.2 Upd.self ?_
          refine RL.finG ?_
          refine GL.nilB ?_
          refine GL.region ?_
          refine RL.binI (v := .int .i64 ((i85 + 1 : Nat) : Int)) rfl rfl rfl rfl (binI_succ i85 (by omega)) ?_
          refine RL.mv rfl rfl rfl ?_
          refine RL.fin ?_
          cases h88
          exact fun a w st => lop_intro (i85 + 1, r97, (List.set l67 i85 (wmul y95 x31)), v68) ⟨by show i85 + 1 + r97.length = (y22).length; simp only [List.length_cons] at h91; omega, h98, h89⟩ (by simp) (St.cut [0, 1, 2, 3] ⟨rfl, rfl, rfl, rfl, rfl, rfl, rfl, rfl, rfl, trivial⟩ (by decide) rfl st)
        · have h94 : ¬ i85 < (y22).length := by have := of_decide_eq_false b93; omega
          obtain rfl : r86 = [] := by rw [← h92]; exact List.drop_of_length_le (by omega)
          replace h90 : some (Fl.nx _) = some y78 := h90
          cases h90
          exact GL.exit (fun a w st => mid_intro (l67, v68) h81 (St.cut [0, 2, 3] ⟨rfl, rfl, rfl, rfl, rfl, trivial⟩ (by decide) rfl st))
      · rintro ⟨l67, v68⟩ h103
        have h104 := h82 _ h103
        try dsimp only at h104
        refine GL.weak (env' := [(0, .int .i64 (wadd (1 : Int) y11)), (2, v2), (8, v30), (9, .int .i64 y28.2), (12, v68)]) (L' := [imm (TR.sl TR.int) v2 x2, own 3 TR.int v30 y28.1, own 3 TR.int v68 l67]) (fun _ _ st => st) ?_
        refine GL.seq ?_
        refine GL.region ?_
        refine RL.mv rfl rfl rfl ?_
        refine RL.mv rfl rfl rfl ?_
        refine RL.mv rfl rfl rfl ?_
        obtain ⟨y107, e108, h104⟩ := bind_some h104
        refine RL.callC (v := .tuple #[.bool y107.1, .int .i64 y107.2]) (vs := [.int .i64 (wadd (1 : Int) y11), v68, v30]) Try_fit27 rfl rfl rfl rfl (fun U w hU hW hL => worth_Holds_c U w hU (wadd (1 : Int) y11) _ _ (hL 2 _ _ rfl Seen.own) _ _ (hL 1 _ _ rfl Seen.own) _ e108) ?_
        refine RL.mv rfl rfl rfl ?_
        refine RL.ext rfl rfl rfl rfl ?_
        refine RL.ext rfl rfl rfl rfl ?_
        refine RL.asg rfl rfl rfl ?_
        refine RL.asg rfl rfl rfl ?_
        refine RL.finG ?_
        refine GL.seq ?_
        refine GL.region ?_
        refine RL.mv rfl rfl rfl ?_
        refine RL.mv rfl rfl rfl ?_
        obtain ⟨y112, e113, h104⟩ := bind_some h104
        refine RL.call (vs := [.int .i64 (wadd (1 : Int) y11), v2]) Try_fit16 rfl rfl rfl rfl rfl (fun S f w hS hW hi => pk_GameOf_c S w hS (wadd (1 : Int) y11) _ _ (hi 0 _ rfl) _ e113) ?_
        intro v114
        refine RL.asg rfl rfl rfl ?_
        refine RL.finG ?_
        refine GL.seq ?_
        refine GL.region ?_
        refine RL.mv rfl rfl rfl ?_
        refine RL.mv rfl rfl rfl ?_
        refine RL.mv rfl rfl rfl ?_
        obtain ⟨y120, e121, h104⟩ := bind_some h104
        replace e121 := chk_some e121
        refine RL.mkS (t := TR.int) (z := (0 : Int)) Try.underlying22 Try_lo3 (fun S => rfl) rfl rfl rfl rfl e121.1 e121.2 ?_
        intro v122
        refine RL.reL (L' := [imm (TR.sl TR.int) v2 x2, own 3 TR.int v30 y28.1, own 3 TR.int v68 l67, own 3 TR.int v114 y112, own 3 TR.int v122 (List.replicate (wadd (1 : Int) y11).toNat (0 : Int))]) rfl ?_
        obtain ⟨y123, e124, h104⟩ := bind_some h104
        refine RL.callC (v := .tuple #[.bool y123.1, .int .i64 y123.2]) (vs := [.int .i64 (wadd (1 : Int) y11), v114, v122]) Try_fit27 rfl rfl rfl rfl (fun U w hU hW hL => worth_Holds_c U w hU (wadd (1 : Int) y11) _ _ (hL 3 _ _ rfl Seen.own) _ _ (hL 4 _ _ rfl Seen.own) _ e124) ?_
        refine RL.mv rfl rfl rfl ?_
        refine RL.ext rfl rfl rfl rfl ?_
        refine RL.ext rfl rfl rfl rfl ?_
        refine RL.asg rfl rfl rfl ?_
        refine RL.asg rfl rfl rfl ?_
        refine RL.finG ?_
        refine GL.seq ?_
        refine GL.region ?_
        refine RL.asg rfl rfl rfl ?_
        refine RL.finG ?_
        refine GL.seq ?_
        refine GL.seq ?_
        refine GL.region ?_
        refine RL.mv rfl rfl rfl ?_
        refine RL.mv rfl rfl rfl ?_
        refine RL.finG ?_
        obtain ⟨y152, e153, h104⟩ := bind_some h104
        replace e153 := chk_some e153
        obtain ⟨y154, K155, h156, h157, h158, h159, h160⟩ := bindR_K h104
        refine GL.join (ι := Bool) (fun (p : Bool) => [(9, .int .i64 y28.2), (14, .bool y107.1), (15, .int .i64 y107.2), (16, v114), (17, .bool y123.1), (18, .int .i64 y123.2), (19, .bool p)]) (fun (p : Bool) => [own 3 TR.int v114 y112]) (fun (p : Bool) => K155 (.nx p)) ?_ ?_
        · refine GL.block ?_
          refine GL.loop (ι := Nat × Nat × Bool) (fun (p : Nat × Nat × Bool) => [(9, .int .i64 y28.2), (14, .bool y107.1), (15, .int .i64 y107.2), (16, v114), (17, .bool y123.1), (18, .int .i64 y123.2), (19, .bool p.2.2), (83, .int .i64 (wadd (1 : Int) y11)), (84, .int .i64 (p.1 : Int))]) (fun (p : Nat × Nat × Bool) => [own 3 TR.int v114 y112]) (fun (p : Nat × Nat × Bool) => p.1 + p.2.1 = (wadd (1 : Int) y11).toNat ∧ rangeN (pk_WorthHolds_b3 y112) p.2.1 p.1 p.2.2 = some y154) (fun (p : Nat × Nat × Bool) => p.2.1) (0, (wadd (1 : Int) y11).toNat, true) ⟨by simp, h156⟩ (fun a w st => St.cut [3] ⟨rfl, rfl, rfl, rfl, rfl, rfl, rfl, rfl, rfl, trivial⟩ (by decide) rfl st) ?_
          rintro ⟨i161, r162, x125⟩ ⟨h167, h166⟩
          try dsimp only at h167 h166
          refine GL.weak (env' := [(9, .int .i64 y28.2), (14, .bool y107.1), (15, .int .i64 y107.2), (16, v114), (17, .bool y123.1), (18, .int .i64 y123.2), (19, .bool x125), (83, .int .i64 (wadd (1 : Int) y11)), (84, .int .i64 (i161 : Int))]) (L' := [own 3 TR.int v114 y112]) (fun _ _ st => st) ?_
          refine GL.seq ?_
          refine GL.region ?_
          refine RL.binI (v := .bool (decide ((i161 : Int) < wadd (1 : Int) y11))) rfl rfl rfl rfl rfl ?_
          refine RL.finG ?_
          refine GL.seq ?_
          refine GL.cond rfl (fun b169 => ?_) (fun b169 => ?_)
          · have h170 : i161 < (wadd (1 : Int) y11).toNat := by have := of_decide_eq_true b169; omega
            obtain ⟨r171, hr⟩ : ∃ m, r162 = m + 1 := ⟨r162 - 1, by omega⟩
            subst hr
            obtain ⟨z163, h164, h165⟩ := rangeN_some h166
            unfold pk_WorthHolds_b3 at h164
            try dsimp only at h164
            refine GL.skip ?_
            refine GL.seq ?_
            refine GL.block ?_
            refine GL.seq ?_
            refine GL.region ?_
            refine RL.mv rfl rfl rfl ?_
            refine RL.asg rfl rfl rfl ?_
            refine RL.finG ?_
            obtain ⟨y183, K184, h185, h186, h187, h188, h189⟩ := bindF_K h164
            refine GL.join (ι := Bool) (fun (p : Bool) => [(9, .int .i64 y28.2), (14, .bool y107.1), (15, .int .i64 y107.2), (16, v114), (17, .bool y123.1), (18, .int .i64 y123.2), (19, .bool p), (83, .int .i64 (wadd (1 : Int) y11)), (84, .int .i64 (i161 : Int))]) (fun (p : Bool) => [own 3 TR.int v114 y112]) (fun (p : Bool) => K184 (.nx p)) ?_ ?_
            · skip
              refine GL.region ?_
              refine RL.mv rfl rfl rfl ?_
              refine RL.mv rfl rfl rfl ?_
              refine RL.split (t := 88) rfl (fun b190 => ?_) (fun b190 => ?_)
              · replace h185 := ite_t b190 h185
                refine RL.mv rfl rfl rfl ?_
                refine RL.mv rfl rfl rfl ?_
                obtain ⟨y191, e192, h185⟩ := bind_some h185
                replace e192 := chk_some e192
                refine RL.sh (by simp) rfl rfl rfl rfl e192 ?_
                obtain ⟨y193, e194, h185⟩ := bind_some h185
                refine RL.idxS (sz := 1) 0 Try.underlying22 Try_ln3 rfl rfl rfl rfl rfl SlOf.own (idx_some e194).1 (idx_some e194).2.1 ?_
                refine RL.ldSx (i := (IntKind.wrap .i64 ((1 : Int) * 2 ^ (min (i161 : Int).toNat (IntKind.bits .i64)))).toNat) (e' := y193) 0 Ex.ik Try_ln3 rfl rfl rfl rfl SlOf.own (idx_some e194).2.2 Part.self ?_
                refine RL.binI (v := .bool (decide (y193 ≤ (0 : Int)))) rfl rfl rfl rfl rfl ?_
                refine RL.pickT rfl rfl rfl rfl ?_
                refine RL.asg rfl rfl rfl ?_
                refine RL.fin ?_
                cases h185
                exact fun a w st => mid_intro (decide (y193 ≤ (0 : Int))) h186 (St.cut [0] ⟨rfl, rfl, rfl, rfl, rfl, rfl, rfl, rfl, rfl, trivial⟩ (by decide) rfl st)
              · replace h185 := ite_f b190 h185
                refine RL.skip rfl rfl ?_
                refine RL.skip rfl rfl ?_
                refine RL.skip rfl rfl ?_
                refine RL.skip rfl rfl ?_
                refine RL.skip rfl rfl ?_
                refine RL.skip rfl rfl ?_
                refine RL.pickF rfl rfl rfl rfl ?_
                refine RL.asg rfl rfl rfl ?_
                refine RL.fin ?_
                cases h185
                exact fun a w st => mid_intro false h186 (St.cut [0] ⟨rfl, rfl, rfl, rfl, rfl, rfl, rfl, rfl, rfl, trivial⟩ (by decide) rfl st)
            · rintro x182 h195
              have h196 := h187 _ h195
              try dsimp only at h196
              refine GL.weak (env' := [(9, .int .i64 y28.2), (14, .bool y107.1), (15, .int .i64 y107.2), (16, v114), (17, .bool y123.1), (18, .int .i64 y123.2), (19, .bool x182), (83, .int .i64 (wadd (1 : Int) y11)), (84, .int .i64 (i161 : Int))]) (L' := [own 3 TR.int v114 y112]) (fun _ _ st => st) ?_
              refine GL.nilB ?_
              refine GL.region ?_
              refine RL.binI (v := .int .i64 ((i161 + 1 : Nat) : Int)) rfl rfl rfl rfl (binI_succ i161 (by omega)) ?_
              refine RL.mv rfl rfl rfl ?_
              refine RL.fin ?_
              cases h196
              exact fun a w st => lop_intro (i161 + 1, r171, x182) ⟨by show i161 + 1 + r171 = (wadd (1 : Int) y11).toNat; omega, h165⟩ (by simp) (St.cut [0] ⟨rfl, rfl, rfl, rfl, rfl, rfl, rfl, rfl, rfl, trivial⟩ (by decide) rfl st)
          · have h170 : ¬ i161 < (wadd (1 : Int) y11).toNat := by have := of_decide_eq_false b169; omega
            obtain rfl : r162 = 0 := by omega
            replace h166 : some (Fl.nx _) = some y154 := h166
            cases h166
            exact GL.exit (fun a w st => mid_intro x125 h157 (St.cut [0] ⟨rfl, rfl, rfl, rfl, rfl, rfl, rfl, trivial⟩ (by decide) rfl st))
        · rintro x125 h197
          have h198 := h158 _ h197
          try dsimp only at h198
          refine GL.weak (env' := [(9, .int .i64 y28.2), (14, .bool y107.1), (15, .int .i64 y107.2), (16, v114), (17, .bool y123.1), (18, .int .i64 y123.2), (19, .bool x125)]) (L' := [own 3 TR.int v114 y112]) (fun _ _ st => st) ?_
          refine GL.seq ?_
          obtain ⟨y218, K219, h220, h221, h222, h223, h224⟩ := bindR_K h198
          refine GL.join (ι := Bool) (fun (p : Bool) => [(6, .bool p)]) (fun (p : Bool) => []) (fun (p : Bool) => K219 (.nx p)) ?_ ?_
          · skip
            refine GL.region ?_
            refine RL.mv rfl rfl rfl ?_
            refine RL.mv rfl rfl rfl ?_
            refine RL.mv rfl rfl rfl ?_
            refine RL.bS (t := TR.int) (vs := [.int .i64 y28.2, .int .i64 y107.2, .int .i64 y123.2]) ([y28.2, y107.2, y123.2] : (List Int)) Try.underlying53 Try_lo26 rfl rfl rfl rfl ⟨VR.int, ⟨VR.int, ⟨VR.int, trivial⟩⟩⟩ rfl (by decide) ?_
            intro v225
            obtain ⟨y226, e227, h220⟩ := bind_some h220
            refine RL.callV (v := .bool y226) (vs := [v225]) Try_fit18 rfl (Or.inl rfl) rfl rfl rfl rfl (fun U w hU hW hL => pk_good_c U w hU _ _ (hL 1 _ _ rfl Seen.own) _ e227) ?_
            refine RL.mv rfl rfl rfl ?_
            refine RL.split (t := 102) rfl (fun b228 => ?_) (fun b228 => ?_)
            · replace h220 := ite_t b228 h220
              refine RL.mv rfl rfl rfl ?_
              refine RL.pickT rfl rfl rfl rfl ?_
              refine RL.mv rfl rfl rfl ?_
              refine RL.split (t := 105) rfl (fun b229 => ?_) (fun b229 => ?_)
              · replace h220 := ite_t b229 h220
                refine RL.mv rfl rfl rfl ?_
                refine RL.notB rfl rfl rfl ?_
                refine RL.mv rfl rfl rfl ?_
                refine RL.split (t := 108) rfl (fun b230 => ?_) (fun b230 => ?_)
                · replace h220 := ite_t b230 h220
                  refine RL.skip rfl rfl ?_
                  refine RL.skip rfl rfl ?_
                  refine RL.skip rfl rfl ?_
                  refine RL.skip rfl rfl ?_
                  refine RL.skip rfl rfl ?_
                  refine RL.skip rfl rfl ?_
                  refine RL.skip rfl rfl ?_
                  refine RL.skip rfl rfl ?_
                  refine RL.skip rfl rfl ?_
                  refine RL.skip rfl rfl ?_
                  refine RL.pickT rfl rfl rfl rfl ?_
                  refine RL.pickT rfl rfl rfl rfl ?_
                  refine RL.asg rfl rfl rfl ?_
                  refine RL.fin ?_
                  cases h220
                  exact fun a w st => mid_intro true h221 (St.cut [] ⟨rfl, trivial⟩ (by decide) rfl st)
                · replace h220 := ite_f b230 h220
                  refine RL.mv rfl rfl rfl ?_
                  refine RL.mv rfl rfl rfl ?_
                  refine RL.split (t := 110) rfl (fun b231 => ?_) (fun b231 => ?_)
                  · replace h220 := ite_t b231 h220
                    refine RL.mv rfl rfl rfl ?_
                    refine RL.mv rfl rfl rfl ?_
                    refine RL.lenS 0 Try.underlying22 rfl rfl rfl rfl SlOf.own ?_
                    refine RL.binI (v := .int .i64 (wsub ((y112).length : Int) (1 : Int))) rfl rfl rfl rfl rfl ?_
                    obtain ⟨y232, e233, h220⟩ := bind_some h220
                    refine RL.idxS (sz := 1) 0 Try.underlying22 Try_ln3 rfl rfl rfl rfl rfl SlOf.own (idx_some e233).1 (idx_some e233).2.1 ?_
                    refine RL.ldSx (i := (wsub ((y112).length : Int) (1 : Int)).toNat) (e' := y232) 0 Ex.ik Try_ln3 rfl rfl rfl rfl SlOf.own (idx_some e233).2.2 Part.self ?_
                    refine RL.binI (v := .bool (y232 == (0 : Int))) rfl rfl rfl rfl rfl ?_
                    refine RL.pickT rfl rfl rfl rfl ?_
                    refine RL.pickF rfl rfl rfl rfl ?_
                    refine RL.pickT rfl rfl rfl rfl ?_
                    refine RL.asg rfl rfl rfl ?_
                    refine RL.fin ?_
                    cases h220
                    exact fun a w st => mid_intro (y232 == (0 : Int)) h221 (St.cut [] ⟨rfl, trivial⟩ (by decide) rfl st)
                  · replace h220 := ite_f b231 h220
                    refine RL.skip rfl rfl ?_
                    refine RL.skip rfl rfl ?_
                    refine RL.skip rfl rfl ?_
                    refine RL.skip rfl rfl ?_
                    refine RL.skip rfl rfl ?_
                    refine RL.skip rfl rfl ?_
                    refine RL.skip rfl rfl ?_
                    refine RL.pickF rfl rfl rfl rfl ?_
                    refine RL.pickF rfl rfl rfl rfl ?_
                    refine RL.pickT rfl rfl rfl rfl ?_
                    refine RL.asg rfl rfl rfl ?_
                    refine RL.fin ?_
                    cases h220
                    exact fun a w st => mid_intro false h221 (St.cut [] ⟨rfl, trivial⟩ (by decide) rfl st)
              · replace h220 := ite_f b229 h220
                refine RL.skip rfl rfl ?_
                refine RL.skip rfl rfl ?_
                refine RL.skip rfl rfl ?_
                refine RL.skip rfl rfl ?_
                refine RL.skip rfl rfl ?_
                refine RL.skip rfl rfl ?_
                refine RL.skip rfl rfl ?_
                refine RL.skip rfl rfl ?_
                refine RL.skip rfl rfl ?_
                refine RL.skip rfl rfl ?_
                refine RL.skip rfl rfl ?_
                refine RL.skip rfl rfl ?_
                refine RL.skip rfl rfl ?_
                refine RL.skip rfl rfl ?_
                refine RL.pickF rfl rfl rfl rfl ?_
                refine RL.asg rfl rfl rfl ?_
                refine RL.fin ?_
                cases h220
                exact fun a w st => mid_intro false h221 (St.cut [] ⟨rfl, trivial⟩ (by decide) rfl st)
            · replace h220 := ite_f b228 h220
              refine RL.skip rfl rfl ?_
              refine RL.pickF rfl rfl rfl rfl ?_
              refine RL.mv rfl rfl rfl ?_
              refine RL.skip rfl rfl ?_
              refine RL.skip rfl rfl ?_
              refine RL.skip rfl rfl ?_
              refine RL.skip rfl rfl ?_
              refine RL.skip rfl rfl ?_
              refine RL.skip rfl rfl ?_
              refine RL.skip rfl rfl ?_
              refine RL.skip rfl rfl ?_
              refine RL.skip rfl rfl ?_
              refine RL.skip rfl rfl ?_
              refine RL.skip rfl rfl ?_
              refine RL.skip rfl rfl ?_
              refine RL.skip rfl rfl ?_
              refine RL.skip rfl rfl ?_
              refine RL.pickF rfl rfl rfl rfl ?_
              refine RL.asg rfl rfl rfl ?_
              refine RL.fin ?_
              cases h220
              exact fun a w st => mid_intro false h221 (St.cut [] ⟨rfl, trivial⟩ (by decide) rfl st)
          · rintro x217 h234
            have h235 := h222 _ h234
            try dsimp only at h235
            refine GL.weak (env' := [(6, .bool x217)]) (L' := []) (fun _ _ st => st) ?_
            have h235 := Option.some.inj h235
            subst h235
            exact GL.ret (Gx.ret (v := .bool x217) (res1 rfl rfl) (fun a w st => st.toPostV))
end Go.Wk
