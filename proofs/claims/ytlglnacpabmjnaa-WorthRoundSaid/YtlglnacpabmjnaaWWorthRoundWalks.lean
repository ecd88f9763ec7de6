/- Each function comes to what its model says; printed by a program of this repository. -/
import Derived.Test.YtlglnacpabmjnaaProg
import Derived.Test.YtlglnacpabmjnaaWWorthRoundModels
namespace Go.Wk
open Go.Fw Go.Mo Go.Proofs Go.RowKit
set_option linter.unusedVariables false
set_option maxRecDepth 100000
theorem Try_info3 : (Try.prog.info? 3).map (fun i => (i.zero, i.size, i.bytes)) = some (some (.int .i64 0), 1, 8) := by kernel_rfl
theorem Try_ln3 : Ln Try.prog 3 1 false := Ln.of Try_info3 Try.underlying3 rfl
theorem Try_lo3 : LnO Try.prog 3 1 [.int .i64 0] := LnO.of Try_info3 rfl rfl (by decide) (by decide)
theorem Try_info22 : (Try.prog.info? 22).map (fun i => (i.zero, i.size, i.bytes)) = some (some (.slice none 0 0), 1, 24) := by kernel_rfl
theorem Try_ln22 : Ln Try.prog 22 1 false := Ln.of Try_info22 Try.underlying22 rfl
theorem Try_lo22 : LnO Try.prog 22 1 [.slice none 0 0] := LnO.of Try_info22 rfl rfl (by decide) (by decide)
theorem Try_info26 : (Try.prog.info? 26).map (fun i => (i.zero, i.size, i.bytes)) = some (some (.int .i64 0), 1, 8) := by kernel_rfl
theorem Try_ln26 : Ln Try.prog 26 1 false := Ln.of Try_info26 Try.underlying26 rfl
theorem Try_lo26 : LnO Try.prog 26 1 [.int .i64 0] := LnO.of Try_info26 rfl rfl (by decide) (by decide)
theorem Try_fit14 : Fit Try.prog 14 := Fit.of Try.func14 (by kernel_rfl) rfl
theorem Try_fit15 : Fit Try.prog 15 := Fit.of Try.func15 (by kernel_rfl) rfl
theorem Try_fit16 : Fit Try.prog 16 := Fit.of Try.func16 (by kernel_rfl) rfl
theorem Try_fit17 : Fit Try.prog 17 := Fit.of Try.func17 (by kernel_rfl) rfl
theorem Try_fit18 : Fit Try.prog 18 := Fit.of Try.func18 (by kernel_rfl) rfl
theorem Try_fit20 : Fit Try.prog 20 := Fit.of Try.func20 (by kernel_rfl) rfl
theorem Try_fit26 : Fit Try.prog 26 := Fit.of Try.func26 (by kernel_rfl) rfl
theorem Try_fit27 : Fit Try.prog 27 := Fit.of Try.func27 (by kernel_rfl) rfl
theorem Try_fit29 : Fit Try.prog 29 := Fit.of Try.func29 (by kernel_rfl) rfl
theorem Try_fit30 : Fit Try.prog 30 := Fit.of Try.func30 (by kernel_rfl) rfl
theorem Try_fit31 : Fit Try.prog 31 := Fit.of Try.func31 (by kernel_rfl) rfl
theorem Try_fit32 : Fit Try.prog 32 := Fit.of Try.func32 (by kernel_rfl) rfl
theorem Try_fit33 : Fit Try.prog 33 := Fit.of Try.func33 (by kernel_rfl) rfl
theorem Try_fit34 : Fit Try.prog 34 := Fit.of Try.func34 (by kernel_rfl) rfl
theorem Try_fit35 : Fit Try.prog 35 := Fit.of Try.func35 (by kernel_rfl) rfl
theorem Try_fit36 : Fit Try.prog 36 := Fit.of Try.func36 (by kernel_rfl) rfl
theorem Try_fit37 : Fit Try.prog 37 := Fit.of Try.func37 (by kernel_rfl) rfl
theorem Try_fit38 : Fit Try.prog 38 := Fit.of Try.func38 (by kernel_rfl) rfl
theorem Try_fit44 : Fit Try.prog 44 := Fit.of Try.func44 (by kernel_rfl) rfl
theorem Try_fit45 : Fit Try.prog 45 := Fit.of Try.func45 (by kernel_rfl) rfl
theorem Try_fit46 : Fit Try.prog 46 := Fit.of Try.func46 (by kernel_rfl) rfl

set_option maxHeartbeats 4000000 in
theorem worth_Check_c (S : Hp) (w : World) (hS : S.sub w) (x0 : Int) (v1 : Value) (x1 : (List Int)) (k1 : ((TR.sl TR.int)).vrep S v1 x1) (res : Int) (hm : worth_Check_m x0 x1 = some res) : Calls Try.prog 34 #[.int .i64 x0, v1] w (PostC w (.int .i64 res)) := by
  refine calls_enter 35 Try.func34 Try.ntmps34 rfl S true [(0, .int .i64 x0), (1, v1)] [imm (TR.sl TR.int) v1 x1] rfl ⟨rfl, ⟨rfl, trivial⟩⟩ hS ⟨k1, trivial⟩ ?_
  unfold worth_Check_m at hm
  refine GL.seq ?_
  refine GL.region ?_
  refine RL.asg rfl rfl rfl ?_
  refine RL.finG ?_
  refine GL.seq ?_
  refine GL.seq ?_
  obtain ⟨y6, K7, h8, h9, h10, h11, h12⟩ := bindR_K hm
  refine GL.join (ι := Bool) (fun (p : Bool) => [(0, .int .i64 x0), (1, v1), (12, .bool p)]) (fun (p : Bool) => [imm (TR.sl TR.int) v1 x1]) (fun (p : Bool) => K7 (.nx p)) ?_ ?_
  · skip
    refine GL.region ?_
    refine RL.mv rfl rfl rfl ?_
    refine RL.binI (v := .bool (decide (x0 < (1 : Int)))) rfl rfl rfl rfl rfl ?_
    refine RL.mv rfl rfl rfl ?_
    refine RL.split (t := 9) rfl (fun b13 => ?_) (fun b13 => ?_)
    · replace h8 := ite_t b13 h8
      refine RL.skip rfl rfl ?_
      refine RL.skip rfl rfl ?_
      refine RL.pickT rfl rfl rfl rfl ?_
      refine RL.fin ?_
      cases h8
      exact fun a w st => mid_intro true h9 (St.cut [0] ⟨rfl, rfl, rfl, trivial⟩ (by decide) rfl st)
    · replace h8 := ite_f b13 h8
      refine RL.mv rfl rfl rfl ?_
      refine RL.binI (v := .bool (decide (x0 > (6 : Int)))) rfl rfl rfl rfl rfl ?_
      refine RL.pickF rfl rfl rfl rfl ?_
      refine RL.fin ?_
      cases h8
      exact fun a w st => mid_intro (decide (x0 > (6 : Int))) h9 (St.cut [0] ⟨rfl, rfl, rfl, trivial⟩ (by decide) rfl st)
  · rintro x5 h14
    have h15 := h10 _ h14
    try dsimp only at h15
    refine GL.weak (env' := [(0, .int .i64 x0), (1, v1), (12, .bool x5)]) (L' := [imm (TR.sl TR.int) v1 x1]) (fun _ _ st => st) ?_
    refine GL.cond rfl (fun b16 => ?_) (fun b16 => ?_)
    · replace h15 := ite_t b16 h15
      refine GL.seq ?_
      refine GL.region ?_
      refine RL.asg rfl rfl rfl ?_
      refine RL.finG ?_
      have h15 := Option.some.inj h15
      subst h15
      exact GL.ret (Gx.ret (v := .int .i64 (1 : Int)) (res1 rfl rfl) (fun a w st => st.toPostC rfl))
    · replace h15 := ite_f b16 h15
      refine GL.skip ?_
      refine GL.seq ?_
      refine GL.seq ?_
      refine GL.region ?_
      refine RL.mv rfl rfl rfl ?_
      refine RL.lenS 0 Try.underlying22 rfl rfl rfl rfl SlOf.imm ?_
      refine RL.mv rfl rfl rfl ?_
      obtain ⟨y19, e20, h15⟩ := bind_some h15
      replace e20 := chk_some e20
      refine RL.sh (by simp) rfl rfl rfl rfl e20 ?_
      refine RL.binI (v := .bool (((x1).length : Int) != (IntKind.wrap .i64 ((1 : Int) * 2 ^ (min x0.toNat (IntKind.bits .i64)))))) rfl rfl rfl rfl rfl ?_
      refine RL.finG ?_
      refine GL.cond rfl (fun b21 => ?_) (fun b21 => ?_)
      · replace h15 := ite_t b21 h15
        refine GL.seq ?_
        refine GL.region ?_
        refine RL.asg rfl rfl rfl ?_
        refine RL.finG ?_
        have h15 := Option.some.inj h15
        subst h15
        exact GL.ret (Gx.ret (v := .int .i64 (3 : Int)) (res1 rfl rfl) (fun a w st => st.toPostC rfl))
      · replace h15 := ite_f b21 h15
        refine GL.skip ?_
        refine GL.seq ?_
        refine GL.seq ?_
        refine GL.region ?_
        refine RL.mv rfl rfl rfl ?_
        refine RL.lenS 0 Try.underlying22 rfl rfl rfl rfl SlOf.imm ?_
        refine RL.mv rfl rfl rfl ?_
        refine RL.finG ?_
        refine GL.open_ 0 rfl (fun S h => len_imm S h) (fun n40 => ?_)
        obtain ⟨y41, K42, h43, h44, h45, h46, h47⟩ := bindR_K h15
        refine GL.join (ι := Unit) (fun (p : Unit) => [(1, v1)]) (fun (p : Unit) => [imm (TR.sl TR.int) v1 x1]) (fun (p : Unit) => K42 (.nx ())) ?_ ?_
        · refine GL.block ?_
          refine GL.loop (ι := Nat × (List Int)) (fun (p : Nat × (List Int)) => [(1, v1), (18, v1), (19, .int .i64 ((x1).length : Int)), (20, .int .i64 (p.1 : Int))]) (fun (p : Nat × (List Int)) => [imm (TR.sl TR.int) v1 x1]) (fun (p : Nat × (List Int)) => p.1 + p.2.length = (x1).length ∧ List.drop p.1 x1 = p.2 ∧ rangeL worth_Check_b1 p.2 p.1 () = some y41) (fun (p : Nat × (List Int)) => p.2.length) (0, x1) ⟨by simp, by simp, h43⟩ (fun a w st => St.cut [0] ⟨rfl, rfl, rfl, rfl, trivial⟩ (by decide) rfl st) ?_
          rintro ⟨i48, r49⟩ ⟨h54, h55, h53⟩
          try dsimp only at h54 h55 h53
          refine GL.weak (env' := [(1, v1), (18, v1), (19, .int .i64 ((x1).length : Int)), (20, .int .i64 (i48 : Int))]) (L' := [imm (TR.sl TR.int) v1 x1]) (fun _ _ st => st) ?_
          refine GL.seq ?_
          refine GL.region ?_
          refine RL.binI (v := .bool (decide ((i48 : Int) < ((x1).length : Int)))) rfl rfl rfl rfl rfl ?_
          refine RL.finG ?_
          refine GL.seq ?_
          refine GL.cond rfl (fun b56 => ?_) (fun b56 => ?_)
          · have h57 : i48 < (x1).length := by have := of_decide_eq_true b56; omega
            obtain ⟨y58, r60, hr, e59, h61⟩ := drop_cons h55 rfl h57
            subst hr
            obtain ⟨z50, h51, h52⟩ := rangeL_some h53
            unfold worth_Check_b1 at h51
            try dsimp only at h51
            refine GL.skip ?_
            refine GL.seq ?_
            refine GL.block ?_
            refine GL.seq ?_
            refine GL.region ?_
            refine RL.idxS (sz := 1) 0 Try.underlying22 Try_ln3 rfl rfl rfl rfl rfl SlOf.imm (by omega) (by omega) ?_
            refine RL.ldSx (i := i48) (e' := y58) 0 Ex.ik Try_ln3 rfl rfl rfl rfl SlOf.imm e59 Part.self ?_
            refine RL.asg rfl rfl rfl ?_
            refine RL.finG ?_
            refine GL.seq ?_
            obtain ⟨y65, K66, h67, h68, h69, h70, h71⟩ := bindF_K h51
            refine GL.join (ι := Bool) (fun (p : Bool) => [(1, v1), (18, v1), (19, .int .i64 ((x1).length : Int)), (20, .int .i64 (i48 : Int)), (29, .bool p)]) (fun (p : Bool) => [imm (TR.sl TR.int) v1 x1]) (fun (p : Bool) => K66 (.nx p)) ?_ ?_
            · skip
              refine GL.region ?_
              refine RL.mv rfl rfl rfl ?_
              refine RL.binI (v := .bool (decide (y58 < (-1000000 : Int)))) rfl rfl rfl rfl rfl ?_
              refine RL.mv rfl rfl rfl ?_
              refine RL.split (t := 26) rfl (fun b72 => ?_) (fun b72 => ?_)
              · replace h67 := ite_t b72 h67
                refine RL.skip rfl rfl ?_
                refine RL.skip rfl rfl ?_
                refine RL.pickT rfl rfl rfl rfl ?_
                refine RL.fin ?_
                cases h67
                exact fun a w st => mid_intro true h68 (St.cut [0] ⟨rfl, rfl, rfl, rfl, rfl, trivial⟩ (by decide) rfl st)
              · replace h67 := ite_f b72 h67
                refine RL.mv rfl rfl rfl ?_
                refine RL.binI (v := .bool (decide (y58 > (1000000 : Int)))) rfl rfl rfl rfl rfl ?_
                refine RL.pickF rfl rfl rfl rfl ?_
                refine RL.fin ?_
                cases h67
                exact fun a w st => mid_intro (decide (y58 > (1000000 : Int))) h68 (St.cut [0] ⟨rfl, rfl, rfl, rfl, rfl, trivial⟩ (by decide) rfl st)
            · rintro x64 h73
              have h74 := h69 _ h73
              try dsimp only at h74
              refine GL.weak (env' := [(1, v1), (18, v1), (19, .int .i64 ((x1).length : Int)), (20, .int .i64 (i48 : Int)), (29, .bool x64)]) (L' := [imm (TR.sl TR.int) v1 x1]) (fun _ _ st => st) ?_
              refine GL.cond rfl (fun b75 => ?_) (fun b75 => ?_)
              · replace h74 := ite_t b75 h74
                refine GL.seq ?_
                refine GL.region ?_
                refine RL.asg rfl rfl rfl ?_
                refine RL.finG ?_
                cases h74
                replace h52 : some (Fl.rt _) = some y41 := h52
                cases h52
                have hh := h46 _ h44
                subst hh
                exact GL.ret (Gx.ret (v := .int .i64 (1 : Int)) (res1 rfl rfl) (fun a w st => st.toPostC rfl))
              · replace h74 := ite_f b75 h74
                refine GL.skip ?_
                refine GL.nilB ?_
                refine GL.region ?_
                refine RL.binI (v := .int .i64 ((i48 + 1 : Nat) : Int)) rfl rfl rfl rfl (binI_succ i48 (by omega)) ?_
                refine RL.mv rfl rfl rfl ?_
                refine RL.fin ?_
                cases h74
                exact fun a w st => lop_intro (i48 + 1, r60) ⟨by show i48 + 1 + r60.length = (x1).length; simp only [List.length_cons] at h54; omega, h61, h52⟩ (by simp) (St.cut [0] ⟨rfl, rfl, rfl, rfl, trivial⟩ (by decide) rfl st)
          · have h57 : ¬ i48 < (x1).length := by have := of_decide_eq_false b56; omega
            obtain rfl : r49 = [] := by rw [← h55]; exact List.drop_of_length_le (by omega)
            replace h53 : some (Fl.nx _) = some y41 := h53
            cases h53
            exact GL.exit (fun a w st => mid_intro () h44 (St.cut [0] ⟨rfl, trivial⟩ (by decide) rfl st))
        · rintro ⟨⟩ h76
          have h77 := h45 _ h76
          try dsimp only at h77
          refine GL.weak (env' := [(1, v1)]) (L' := [imm (TR.sl TR.int) v1 x1]) (fun _ _ st => st) ?_
          refine GL.seq ?_
          refine GL.seq ?_
          refine GL.region ?_
          refine RL.mv rfl rfl rfl ?_
          obtain ⟨y80, e81, h77⟩ := bind_some h77
          refine RL.idxS (sz := 1) 0 Try.underlying22 Try_ln3 rfl rfl rfl rfl rfl SlOf.imm (idx_some e81).1 (idx_some e81).2.1 ?_
          refine RL.ldSx (i := ((0 : Int)).toNat) (e' := y80) 0 Ex.ik Try_ln3 rfl rfl rfl rfl SlOf.imm (idx_some e81).2.2 Part.self ?_
          refine RL.binI (v := .bool (y80 != (0 : Int))) rfl rfl rfl rfl rfl ?_
          refine RL.finG ?_
          refine GL.cond rfl (fun b82 => ?_) (fun b82 => ?_)
          · replace h77 := ite_t b82 h77
            refine GL.seq ?_
            refine GL.region ?_
            refine RL.asg rfl rfl rfl ?_
            refine RL.finG ?_
            have h77 := Option.some.inj h77
            subst h77
            exact GL.ret (Gx.ret (v := .int .i64 (3 : Int)) (res1 rfl rfl) (fun a w st => st.toPostC rfl))
          · replace h77 := ite_f b82 h77
            refine GL.skip ?_
            refine GL.seq ?_
            refine GL.region ?_
            refine RL.asg rfl rfl rfl ?_
            refine RL.finG ?_
            have h77 := Option.some.inj h77
            subst h77
            exact GL.ret (Gx.ret (v := .int .i64 (0 : Int)) (res1 rfl rfl) (fun a w st => st.toPostC rfl))

set_option maxHeartbeats 4000000 in
theorem worth_Round_c (S : Hp) (w : World) (hS : S.sub w) (x0 : Int) (v1 : Value) (x1 : (List Int)) (k1 : ((TR.sl TR.int)).vrep S v1 x1) (res : Bool × Int) (hm : worth_Round_m x0 x1 = some res) : Calls Try.prog 32 #[.int .i64 x0, v1] w (PostV w (.tuple #[.bool res.1, .int .i64 res.2])) := by
  refine calls_enter 50 Try.func32 Try.ntmps32 rfl S false [(0, .int .i64 x0), (1, v1)] [imm (TR.sl TR.int) v1 x1] rfl ⟨rfl, ⟨rfl, trivial⟩⟩ hS ⟨k1, trivial⟩ ?_
  unfold worth_Round_m at hm
  refine GL.seq ?_
  refine GL.region ?_
  refine RL.asg rfl rfl rfl ?_
  refine RL.asg rfl rfl rfl ?_
  refine RL.finG ?_
  refine GL.seq ?_
  refine GL.seq ?_
  refine GL.region ?_
  refine RL.mv rfl rfl rfl ?_
  refine RL.mv rfl rfl rfl ?_
  obtain ⟨y5, e6, hm⟩ := bind_some hm
  refine RL.callC (v := .int .i64 y5) (vs := [.int .i64 x0, v1]) Try_fit34 rfl rfl rfl rfl (fun U w hU hW hL => worth_Check_c U w hU x0 _ _ (hL 0 _ _ rfl Seen.imm) _ e6) ?_
  refine RL.asg rfl rfl rfl ?_
  refine RL.finG ?_
  refine GL.seq ?_
  refine GL.region ?_
  refine RL.mv rfl rfl rfl ?_
  refine RL.binI (v := .bool (y5 != (0 : Int))) rfl rfl rfl rfl rfl ?_
  refine RL.finG ?_
  refine GL.cond rfl (fun b7 => ?_) (fun b7 => ?_)
  · replace hm := ite_t b7 hm
    refine GL.seq ?_
    refine GL.region ?_
    refine RL.mv rfl rfl rfl ?_
    refine RL.asg rfl rfl rfl ?_
    refine RL.asg rfl rfl rfl ?_
    refine RL.finG ?_
    have hm := Option.some.inj hm
    subst hm
    exact GL.ret (Gx.ret (v := .tuple #[.bool false, .int .i64 y5]) (res2 rfl rfl rfl) (fun a w st => st.toPostV))
  · replace hm := ite_f b7 hm
    refine GL.skip ?_
    refine GL.seq ?_
    refine GL.seq ?_
    refine GL.region ?_
    refine RL.mv rfl rfl rfl ?_
    refine RL.lenS 0 Try.underlying22 rfl rfl rfl rfl SlOf.imm ?_
    refine RL.mv rfl rfl rfl ?_
    refine RL.finG ?_
    refine GL.open_ 0 rfl (fun S h => len_imm S h) (fun n62 => ?_)
    obtain ⟨y63, K64, h65, h66, h67, h68, h69⟩ := bindR_K hm
    refine GL.join (ι := Unit) (fun (p : Unit) => []) (fun (p : Unit) => []) (fun (p : Unit) => K64 (.nx ())) ?_ ?_
    · refine GL.block ?_
      refine GL.loop (ι := Nat × (List Int)) (fun (p : Nat × (List Int)) => [(1, v1), (16, .int .i64 ((x1).length : Int)), (17, .int .i64 (p.1 : Int))]) (fun (p : Nat × (List Int)) => [imm (TR.sl TR.int) v1 x1]) (fun (p : Nat × (List Int)) => p.1 + p.2.length = (x1).length ∧ List.drop p.1 x1 = p.2 ∧ rangeL (worth_Round_b1 x1) p.2 p.1 () = some y63) (fun (p : Nat × (List Int)) => p.2.length) (0, x1) ⟨by simp, by simp, h65⟩ (fun a w st => St.cut [0] ⟨rfl, rfl, rfl, trivial⟩ (by decide) rfl st) ?_
      rintro ⟨i70, r71⟩ ⟨h76, h77, h75⟩
      try dsimp only at h76 h77 h75
      refine GL.weak (env' := [(1, v1), (16, .int .i64 ((x1).length : Int)), (17, .int .i64 (i70 : Int))]) (L' := [imm (TR.sl TR.int) v1 x1]) (fun _ _ st => st) ?_
      refine GL.seq ?_
      refine GL.region ?_
      refine RL.binI (v := .bool (decide ((i70 : Int) < ((x1).length : Int)))) rfl rfl rfl rfl rfl ?_
      refine RL.finG ?_
      refine GL.seq ?_
      refine GL.cond rfl (fun b78 => ?_) (fun b78 => ?_)
      · have h79 : i70 < (x1).length := by have := of_decide_eq_true b78; omega
        obtain ⟨y80, r82, hr, e81, h83⟩ := drop_cons h77 rfl h79
        subst hr
        obtain ⟨z72, h73, h74⟩ := rangeL_some h75
        unfold worth_Round_b1 at h73
        try dsimp only at h73
        refine GL.skip ?_
        refine GL.seq ?_
        refine GL.block ?_
        refine GL.seq ?_
        refine GL.region ?_
        refine RL.mv rfl rfl rfl ?_
        refine RL.asg rfl rfl rfl ?_
        refine RL.finG ?_
        refine GL.seq ?_
        refine GL.region ?_
        refine RL.mv rfl rfl rfl ?_
        refine RL.lenS 0 Try.underlying22 rfl rfl rfl rfl SlOf.imm ?_
        refine RL.mv rfl rfl rfl ?_
        refine RL.finG ?_
        refine GL.open_ 0 rfl (fun S h => len_imm S h) (fun n97 => ?_)
        obtain ⟨y98, K99, h100, h101, h102, h103, h104⟩ := bindF_K h73
        refine GL.join (ι := Unit) (fun (p : Unit) => [(1, v1), (16, .int .i64 ((x1).length : Int)), (17, .int .i64 (i70 : Int))]) (fun (p : Unit) => [imm (TR.sl TR.int) v1 x1]) (fun (p : Unit) => K99 (.nx ())) ?_ ?_
        · refine GL.block ?_
          refine GL.loop (ι := Nat × (List Int)) (fun (p : Nat × (List Int)) => [(1, v1), (7, .int .i64 (i70 : Int)), (16, .int .i64 ((x1).length : Int)), (17, .int .i64 (i70 : Int)), (21, .int .i64 ((x1).length : Int)), (22, .int .i64 (p.1 : Int))]) (fun (p : Nat × (List Int)) => [imm (TR.sl TR.int) v1 x1]) (fun (p : Nat × (List Int)) => p.1 + p.2.length = (x1).length ∧ List.drop p.1 x1 = p.2 ∧ rangeL (worth_Round_b2 x1 i70 y80) p.2 p.1 () = some y98) (fun (p : Nat × (List Int)) => p.2.length) (0, x1) ⟨by simp, by simp, h100⟩ (fun a w st => St.cut [0] ⟨rfl, rfl, rfl, rfl, rfl, rfl, trivial⟩ (by decide) rfl st) ?_
          rintro ⟨i105, r106⟩ ⟨h111, h112, h110⟩
          try dsimp only at h111 h112 h110
          refine GL.weak (env' := [(1, v1), (7, .int .i64 (i70 : Int)), (16, .int .i64 ((x1).length : Int)), (17, .int .i64 (i70 : Int)), (21, .int .i64 ((x1).length : Int)), (22, .int .i64 (i105 : Int))]) (L' := [imm (TR.sl TR.int) v1 x1]) (fun _ _ st => st) ?_
          refine GL.seq ?_
          refine GL.region ?_
          refine RL.binI (v := .bool (decide ((i105 : Int) < ((x1).length : Int)))) rfl rfl rfl rfl rfl ?_
          refine RL.finG ?_
          refine GL.seq ?_
          refine GL.cond rfl (fun b113 => ?_) (fun b113 => ?_)
          · have h114 : i105 < (x1).length := by have := of_decide_eq_true b113; omega
            obtain ⟨y115, r117, hr, e116, h118⟩ := drop_cons h112 rfl h114
            subst hr
            obtain ⟨z107, h108, h109⟩ := rangeL_some h110
            unfold worth_Round_b2 at h108
            try dsimp only at h108
            refine GL.skip ?_
            refine GL.seq ?_
            refine GL.block ?_
            refine GL.seq ?_
            refine GL.region ?_
            refine RL.mv rfl rfl rfl ?_
            refine RL.asg rfl rfl rfl ?_
            refine RL.finG ?_
            refine GL.seq ?_
            refine GL.regionQ rfl rfl (by kernel_rfl) ?_
            refine RL.mv rfl rfl rfl ?_
            refine RL.mv rfl rfl rfl ?_
            refine RL.mv rfl rfl rfl ?_
            refine RL.binI (v := .int .i64 (bits .or .i64 (i70 : Int) (i105 : Int))) rfl rfl rfl rfl rfl ?_
            obtain ⟨y123, e124, h108⟩ := bind_some h108
            refine RL.idxS (sz := 1) 0 Try.underlying22 Try_ln3 rfl rfl rfl rfl rfl SlOf.imm (idx_some e124).1 (idx_some e124).2.1 ?_
            refine RL.ldSx (i := (bits .or .i64 (i70 : Int) (i105 : Int)).toNat) (e' := y123) 0 Ex.ik Try_ln3 rfl rfl rfl rfl SlOf.imm (idx_some e124).2.2 Part.self ?_
            refine RL.mv rfl rfl rfl ?_
            refine RL.mv rfl rfl rfl ?_
            refine RL.mv rfl rfl rfl ?_
            refine RL.binI (v := .int .i64 (bits .and .i64 (i70 : Int) (i105 : Int))) rfl rfl rfl rfl rfl ?_
            obtain ⟨y125, e126, h108⟩ := bind_some h108
            refine RL.idxS (sz := 1) 0 Try.underlying22 Try_ln3 rfl rfl rfl rfl rfl SlOf.imm (idx_some e126).1 (idx_some e126).2.1 ?_
            refine RL.ldSx (i := (bits .and .i64 (i70 : Int) (i105 : Int)).toNat) (e' := y125) 0 Ex.ik Try_ln3 rfl rfl rfl rfl SlOf.imm (idx_some e126).2.2 Part.self ?_
            refine RL.binI (v := .int .i64 (wadd y123 y125)) rfl rfl rfl rfl rfl ?_
            refine RL.mv rfl rfl rfl ?_
            refine RL.mv rfl rfl rfl ?_
            refine RL.idxS (sz := 1) 0 Try.underlying22 Try_ln3 rfl rfl rfl rfl rfl SlOf.imm (by omega) (by omega) ?_
            refine RL.ldSx (i := i70) (e' := y80) 0 Ex.ik Try_ln3 rfl rfl rfl rfl SlOf.imm e81 Part.self ?_
            refine RL.mv rfl rfl rfl ?_
            refine RL.mv rfl rfl rfl ?_
            refine RL.idxS (sz := 1) 0 Try.underlying22 Try_ln3 rfl rfl rfl rfl rfl SlOf.imm (by omega) (by omega) ?_
            refine RL.ldSx (i := i105) (e' := y115) 0 Ex.ik Try_ln3 rfl rfl rfl rfl SlOf.imm e116 Part.self ?_
            refine RL.binI (v := .int .i64 (wadd y80 y115)) rfl rfl rfl rfl rfl ?_
            refine RL.binI (v := .bool (decide ((wadd y123 y125) < (wadd y80 y115)))) rfl rfl rfl rfl rfl ?_
            refine RL.finQG ?_
            refine GL.weak (env' := [(1, v1), (7, .int .i64 (i70 : Int)), (16, .int .i64 ((x1).length : Int)), (17, .int .i64 (i70 : Int)), (21, .int .i64 ((x1).length : Int)), (22, .int .i64 (i105 : Int)), (47, .bool (decide ((wadd y123 y125) < (wadd y80 y115))))]) (L' := [imm (TR.sl TR.int) v1 x1]) (fun a w st => St.cut [0] ⟨rfl, rfl, rfl, rfl, rfl, rfl, rfl, trivial⟩ (by decide) rfl st) ?_
            refine GL.cond rfl (fun b127 => ?_) (fun b127 => ?_)
            · replace h108 := ite_t b127 h108
              refine GL.seq ?_
              refine GL.region ?_
              refine RL.asg rfl rfl rfl ?_
              refine RL.asg rfl rfl rfl ?_
              refine RL.finG ?_
              cases h108
              replace h109 : some (Fl.rt _) = some y98 := h109
              cases h109
              have hh := h103 _ h101
              subst hh
              replace h74 : some (Fl.rt _) = some y63 := h74
              cases h74
              have hh := h68 _ h66
              subst hh
              exact GL.ret (Gx.ret (v := .tuple #[.bool false, .int .i64 (0 : Int)]) (res2 rfl rfl rfl) (fun a w st => st.toPostV))
            · replace h108 := ite_f b127 h108
              refine GL.skip ?_
              refine GL.nilB ?_
              refine GL.region ?_
              refine RL.binI (v := .int .i64 ((i105 + 1 : Nat) : Int)) rfl rfl rfl rfl (binI_succ i105 (by omega)) ?_
              refine RL.mv rfl rfl rfl ?_
              refine RL.fin ?_
              cases h108
              exact fun a w st => lop_intro (i105 + 1, r117) ⟨by show i105 + 1 + r117.length = (x1).length; simp only [List.length_cons] at h111; omega, h118, h109⟩ (by simp) (St.cut [0] ⟨rfl, rfl, rfl, rfl, rfl, rfl, trivial⟩ (by decide) rfl st)
          · have h114 : ¬ i105 < (x1).length := by have := of_decide_eq_false b113; omega
            obtain rfl : r106 = [] := by rw [← h112]; exact List.drop_of_length_le (by omega)
            replace h110 : some (Fl.nx _) = some y98 := h110
            cases h110
            exact GL.exit (fun a w st => mid_intro () h101 (St.cut [0] ⟨rfl, rfl, rfl, trivial⟩ (by decide) rfl st))
        · rintro ⟨⟩ h128
          have h129 := h102 _ h128
          try dsimp only at h129
          refine GL.weak (env' := [(1, v1), (16, .int .i64 ((x1).length : Int)), (17, .int .i64 (i70 : Int))]) (L' := [imm (TR.sl TR.int) v1 x1]) (fun _ _ st => st) ?_
          refine GL.nilB ?_
          refine GL.region ?_
          refine RL.binI (v := .int .i64 ((i70 + 1 : Nat) : Int)) rfl rfl rfl rfl (binI_succ i70 (by omega)) ?_
          refine RL.mv rfl rfl rfl ?_
          refine RL.fin ?_
          cases h129
          exact fun a w st => lop_intro (i70 + 1, r82) ⟨by show i70 + 1 + r82.length = (x1).length; simp only [List.length_cons] at h76; omega, h83, h74⟩ (by simp) (St.cut [0] ⟨rfl, rfl, rfl, trivial⟩ (by decide) rfl st)
      · have h79 : ¬ i70 < (x1).length := by have := of_decide_eq_false b78; omega
        obtain rfl : r71 = [] := by rw [← h77]; exact List.drop_of_length_le (by omega)
        replace h75 : some (Fl.nx _) = some y63 := h75
        cases h75
        exact GL.exit (fun a w st => mid_intro () h66 (St.cut [] trivial (by decide) rfl st))
    · rintro ⟨⟩ h130
      have h131 := h67 _ h130
      try dsimp only at h131
      refine GL.weak (env' := []) (L' := []) (fun _ _ st => st) ?_
      refine GL.seq ?_
      refine GL.region ?_
      refine RL.asg rfl rfl rfl ?_
      refine RL.asg rfl rfl rfl ?_
      refine RL.finG ?_
      have h131 := Option.some.inj h131
      subst h131
      exact GL.ret (Gx.ret (v := .tuple #[.bool true, .int .i64 (0 : Int)]) (res2 rfl rfl rfl) (fun a w st => st.toPostV))

set_option maxHeartbeats 4000000 in
theorem worth_size_c (S : Hp) (w : World) (hS : S.sub w) (x0 : Int) (res : Int) (hm : worth_size_m x0 = some res) : Calls Try.prog 35 #[.int .i64 x0] w (PostC w (.int .i64 res)) := by
  refine calls_enter 13 Try.func35 Try.ntmps35 rfl S true [(0, .int .i64 x0)] [] rfl ⟨rfl, trivial⟩ hS trivial ?_
  unfold worth_size_m at hm
  refine GL.seq ?_
  refine GL.region ?_
  refine RL.asg rfl rfl rfl ?_
  refine RL.finG ?_
  refine GL.seq ?_
  refine GL.region ?_
  refine RL.asg rfl rfl rfl ?_
  refine RL.finG ?_
  refine GL.seq ?_
  obtain ⟨y13, K14, h15, h16, h17, h18, h19⟩ := bindR_K hm
  refine GL.join (ι := Int × Int) (fun (p : Int × Int) => [(3, .int .i64 p.2)]) (fun (p : Int × Int) => []) (fun (p : Int × Int) => K14 (.nx (p.1, p.2))) ?_ ?_
  · refine GL.block ?_
    refine GL.loop (ι := Nat × Int × Int) (fun (p : Nat × Int × Int) => [(0, .int .i64 p.2.1), (3, .int .i64 p.2.2)]) (fun (p : Nat × Int × Int) => []) (fun (p : Nat × Int × Int) => loopM worth_size_b1 p.1 (p.2.1, p.2.2) = some y13) (fun (p : Nat × Int × Int) => p.1) (1048576, x0, (0 : Int)) h15 (fun a w st => St.cut [] ⟨rfl, rfl, trivial⟩ (by decide) rfl st) ?_
    rintro ⟨r21, x2, x3⟩ h25
    try dsimp only at h25
    refine GL.weak (env' := [(0, .int .i64 x2), (3, .int .i64 x3)]) (L' := []) (fun _ _ st => st) ?_
    obtain ⟨r28, z22, hr, h23, h24⟩ := loopM_some h25
    subst hr
    unfold worth_size_b1 at h23
    try dsimp only at h23
    refine GL.seq ?_
    refine GL.seq ?_
    refine GL.region ?_
    refine RL.mv rfl rfl rfl ?_
    refine RL.binI (v := .bool (decide (x2 > (0 : Int)))) rfl rfl rfl rfl rfl ?_
    refine RL.finG ?_
    refine GL.cond rfl (fun b29 => ?_) (fun b29 => ?_)
    · replace h23 := ite_t b29 h23
      refine GL.skip ?_
      refine GL.seq ?_
      refine GL.block ?_
      refine GL.region ?_
      refine RL.mv rfl rfl rfl ?_
      refine RL.mv rfl rfl rfl ?_
      obtain ⟨y32, e33, h23⟩ := bind_some h23
      replace e33 := chk_some e33
      refine RL.rem rfl rfl rfl rfl e33 ?_
      refine RL.binI (v := .int .i64 (wadd x3 (Int.tmod x2 (2 : Int)))) rfl rfl rfl rfl rfl ?_
      refine RL.asg rfl rfl rfl ?_
      refine RL.finG ?_
      refine GL.nilB ?_
      refine GL.region ?_
      refine RL.mv rfl rfl rfl ?_
      obtain ⟨y36, e37, h23⟩ := bind_some h23
      replace e37 := chk_some e37
      refine RL.quo rfl rfl rfl rfl e37 ?_
      refine RL.asg rfl rfl rfl ?_
      refine RL.finG ?_
      cases h23
      exact fun a w st => lop_intro (r28, IntKind.wrap .i64 (Int.tdiv x2 (2 : Int)), wadd x3 (Int.tmod x2 (2 : Int))) h24 (by simp) (St.cut [] ⟨rfl, rfl, trivial⟩ (by decide) rfl st)
    · replace h23 := ite_f b29 h23
      cases h23
      replace h24 : some (Fl.nx _) = some y13 := h24
      cases h24
      exact GL.exit (fun a w st => mid_intro (x2, x3) h16 (St.cut [] ⟨rfl, trivial⟩ (by decide) rfl st))
  · rintro ⟨x2, x3⟩ h38
    have h39 := h17 _ h38
    try dsimp only at h39
    refine GL.weak (env' := [(3, .int .i64 x3)]) (L' := []) (fun _ _ st => st) ?_
    refine GL.seq ?_
    refine GL.region ?_
    refine RL.mv rfl rfl rfl ?_
    refine RL.asg rfl rfl rfl ?_
    refine RL.finG ?_
    have h39 := Option.some.inj h39
    subst h39
    exact GL.ret (Gx.ret (v := .int .i64 x3) (res1 rfl rfl) (fun a w st => st.toPostC rfl))

set_option maxHeartbeats 4000000 in
theorem worth_factorial_c (S : Hp) (w : World) (hS : S.sub w) (x0 : Int) (res : Int) (hm : worth_factorial_m x0 = some res) : Calls Try.prog 36 #[.int .i64 x0] w (PostC w (.int .i64 res)) := by
  refine calls_enter 14 Try.func36 Try.ntmps36 rfl S true [(0, .int .i64 x0)] [] rfl ⟨rfl, trivial⟩ hS trivial ?_
  unfold worth_factorial_m at hm
  refine GL.seq ?_
  refine GL.region ?_
  refine RL.asg rfl rfl rfl ?_
  refine RL.finG ?_
  refine GL.seq ?_
  refine GL.region ?_
  refine RL.asg rfl rfl rfl ?_
  refine RL.finG ?_
  refine GL.seq ?_
  refine GL.seq ?_
  refine GL.region ?_
  refine RL.asg rfl rfl rfl ?_
  refine RL.finG ?_
  obtain ⟨y5, K6, h7, h8, h9, h10, h11⟩ := bindR_K hm
  refine GL.join (ι := Int × Int) (fun (p : Int × Int) => [(3, .int .i64 p.1)]) (fun (p : Int × Int) => []) (fun (p : Int × Int) => K6 (.nx (p.1, p.2))) ?_ ?_
  · refine GL.block ?_
    refine GL.loop (ι := Nat × Int × Int) (fun (p : Nat × Int × Int) => [(0, .int .i64 x0), (3, .int .i64 p.2.1), (4, .int .i64 p.2.2)]) (fun (p : Nat × Int × Int) => []) (fun (p : Nat × Int × Int) => loopM (worth_factorial_b1 x0) p.1 (p.2.1, p.2.2) = some y5) (fun (p : Nat × Int × Int) => p.1) (1048576, (1 : Int), (2 : Int)) h7 (fun a w st => St.cut [] ⟨rfl, rfl, rfl, trivial⟩ (by decide) rfl st) ?_
    rintro ⟨r13, x2, x3⟩ h17
    try dsimp only at h17
    refine GL.weak (env' := [(0, .int .i64 x0), (3, .int .i64 x2), (4, .int .i64 x3)]) (L' := []) (fun _ _ st => st) ?_
    obtain ⟨r20, z14, hr, h15, h16⟩ := loopM_some h17
    subst hr
    unfold worth_factorial_b1 at h15
    try dsimp only at h15
    refine GL.seq ?_
    refine GL.seq ?_
    refine GL.region ?_
    refine RL.mv rfl rfl rfl ?_
    refine RL.mv rfl rfl rfl ?_
    refine RL.binI (v := .bool (decide (x3 ≤ x0))) rfl rfl rfl rfl rfl ?_
    refine RL.finG ?_
    refine GL.cond rfl (fun b21 => ?_) (fun b21 => ?_)
    · replace h15 := ite_t b21 h15
      refine GL.skip ?_
      refine GL.seq ?_
      refine GL.block ?_
      refine GL.region ?_
      refine RL.mv rfl rfl rfl ?_
      refine RL.mv rfl rfl rfl ?_
      refine RL.binI (v := .int .i64 (wmul x2 x3)) rfl rfl rfl rfl rfl ?_
      refine RL.asg rfl rfl rfl ?_
      refine RL.finG ?_
      refine GL.nilB ?_
      refine GL.region ?_
      refine RL.mv rfl rfl rfl ?_
      refine RL.binI (v := .int .i64 (wadd x3 (1 : Int))) rfl rfl rfl rfl rfl ?_
      refine RL.asg rfl rfl rfl ?_
      refine RL.finG ?_
      cases h15
      exact fun a w st => lop_intro (r20, wmul x2 x3, wadd x3 (1 : Int)) h16 (by simp) (St.cut [] ⟨rfl, rfl, rfl, trivial⟩ (by decide) rfl st)
    · replace h15 := ite_f b21 h15
      cases h15
      replace h16 : some (Fl.nx _) = some y5 := h16
      cases h16
      exact GL.exit (fun a w st => mid_intro (x2, x3) h8 (St.cut [] ⟨rfl, trivial⟩ (by decide) rfl st))
  · rintro ⟨x2, x3⟩ h22
    have h23 := h9 _ h22
    try dsimp only at h23
    refine GL.weak (env' := [(3, .int .i64 x2)]) (L' := []) (fun _ _ st => st) ?_
    refine GL.seq ?_
    refine GL.region ?_
    refine RL.mv rfl rfl rfl ?_
    refine RL.asg rfl rfl rfl ?_
    refine RL.finG ?_
    have h23 := Option.some.inj h23
    subst h23
    exact GL.ret (Gx.ret (v := .int .i64 x2) (res1 rfl rfl) (fun a w st => st.toPostC rfl))

set_option maxHeartbeats 4000000 in
theorem worth_Share_c (S : Hp) (w : World) (hS : S.sub w) (x0 : Int) (v1 : Value) (x1 : (List Int)) (k1 : ((TR.sl TR.int)).vrep S v1 x1) (res : (List Int) × Int) (hm : worth_Share_m x0 x1 = some res) : Calls Try.prog 17 #[.int .i64 x0, v1] w (Post w S (fun (o : Value) => .tuple #[o, .int .i64 res.2]) (fun (o : Value) => [own 3 TR.int o res.1])) := by
  refine calls_enter 65 Try.func17 Try.ntmps17 rfl S false [(0, .int .i64 x0), (1, v1)] [imm (TR.sl TR.int) v1 x1] rfl ⟨rfl, ⟨rfl, trivial⟩⟩ hS ⟨k1, trivial⟩ ?_
  unfold worth_Share_m at hm
  refine GL.seq ?_
  refine GL.region ?_
  refine RL.asg rfl rfl rfl ?_
  refine RL.asg rfl rfl rfl ?_
  refine RL.finG ?_
  refine GL.seq ?_
  refine GL.seq ?_
  refine GL.region ?_
  refine RL.mv rfl rfl rfl ?_
  refine RL.mv rfl rfl rfl ?_
  obtain ⟨y5, e6, hm⟩ := bind_some hm
  refine RL.callC (v := .int .i64 y5) (vs := [.int .i64 x0, v1]) Try_fit34 rfl rfl rfl rfl (fun U w hU hW hL => worth_Check_c U w hU x0 _ _ (hL 0 _ _ rfl Seen.imm) _ e6) ?_
  refine RL.asg rfl rfl rfl ?_
  refine RL.finG ?_
  refine GL.seq ?_
  refine GL.region ?_
  refine RL.mv rfl rfl rfl ?_
  refine RL.binI (v := .bool (y5 != (0 : Int))) rfl rfl rfl rfl rfl ?_
  refine RL.finG ?_
  refine GL.cond rfl (fun b7 => ?_) (fun b7 => ?_)
  · replace hm := ite_t b7 hm
    refine GL.seq ?_
    refine GL.region ?_
    refine RL.mv rfl rfl rfl ?_
    refine RL.asg rfl rfl rfl ?_
    refine RL.asg rfl rfl rfl ?_
    refine RL.finG ?_
    refine GL.weak (fun a w st => st.nilOwn 3 TR.int) ?_
    have hm := Option.some.inj hm
    subst hm
    exact GL.ret (Gx.ret (v := .tuple #[Value.slice none 0 0, .int .i64 y5]) (res2 rfl rfl rfl) (fun a w st => (st.pick [1] (by decide) rfl).toPost (Value.slice none 0 0)))
  · replace hm := ite_f b7 hm
    refine GL.skip ?_
    refine GL.seq ?_
    refine GL.region ?_
    refine RL.mv rfl rfl rfl ?_
    obtain ⟨y11, e12, hm⟩ := bind_some hm
    replace e12 := chk_some e12
    refine RL.mkS (t := TR.int) (z := (0 : Int)) Try.underlying22 Try_lo3 (fun S => rfl) rfl rfl rfl rfl e12.1 e12.2 ?_
    intro v13
    refine RL.asg rfl rfl rfl ?_
    refine RL.finG ?_
    refine GL.seq ?_
    refine GL.seq ?_
    refine GL.region ?_
    refine RL.mv rfl rfl rfl ?_
    refine RL.lenS 0 Try.underlying22 rfl rfl rfl rfl SlOf.imm ?_
    refine RL.mv rfl rfl rfl ?_
    refine RL.finG ?_
    refine GL.open_ 0 rfl (fun S h => len_imm S h) (fun n288 => ?_)
    obtain ⟨y289, K290, h291, h292, h293, h294, h295⟩ := bindR_K hm
    refine GL.join (ι := (List Int) × Value) (fun (p : (List Int) × Value) => [(7, p.2)]) (fun (p : (List Int) × Value) => [own 3 TR.int p.2 p.1]) (fun (p : (List Int) × Value) => K290 (.nx p.1)) ?_ ?_
    · refine GL.block ?_
      refine GL.loop (ι := Nat × (List Int) × (List Int) × Value) (fun (p : Nat × (List Int) × (List Int) × Value) => [(0, .int .i64 x0), (1, v1), (7, p.2.2.2), (20, .int .i64 ((x1).length : Int)), (21, .int .i64 (p.1 : Int))]) (fun (p : Nat × (List Int) × (List Int) × Value) => [imm (TR.sl TR.int) v1 x1, own 3 TR.int p.2.2.2 p.2.2.1]) (fun (p : Nat × (List Int) × (List Int) × Value) => p.1 + p.2.1.length = (x1).length ∧ List.drop p.1 x1 = p.2.1 ∧ rangeL (worth_Share_b1 x0 x1) p.2.1 p.1 p.2.2.1 = some y289) (fun (p : Nat × (List Int) × (List Int) × Value) => p.2.1.length) (0, x1, (List.replicate (x0).toNat (0 : Int)), v13) ⟨by simp, by simp, h291⟩ (fun a w st => St.cut [0, 1] ⟨rfl, rfl, rfl, rfl, rfl, trivial⟩ (by decide) rfl st) ?_
      rintro ⟨i296, r297, l150, v151⟩ ⟨h302, h303, h301⟩
      try dsimp only at h302 h303 h301
      refine GL.weak (env' := [(0, .int .i64 x0), (1, v1), (7, v151), (20, .int .i64 ((x1).length : Int)), (21, .int .i64 (i296 : Int))]) (L' := [imm (TR.sl TR.int) v1 x1, own 3 TR.int v151 l150]) (fun _ _ st => st) ?_
      refine GL.seq ?_
      refine GL.region ?_
      refine RL.binI (v := .bool (decide ((i296 : Int) < ((x1).length : Int)))) rfl rfl rfl rfl rfl ?_
      refine RL.finG ?_
      refine GL.seq ?_
      refine GL.cond rfl (fun b304 => ?_) (fun b304 => ?_)
      · have h305 : i296 < (x1).length := by have := of_decide_eq_true b304; omega
        obtain ⟨y306, r308, hr, e307, h309⟩ := drop_cons h303 rfl h305
        subst hr
        obtain ⟨z298, h299, h300⟩ := rangeL_some h301
        unfold worth_Share_b1 at h299
        try dsimp only at h299
        refine GL.skip ?_
        refine GL.seq ?_
        refine GL.block ?_
        refine GL.seq ?_
        refine GL.region ?_
        refine RL.mv rfl rfl rfl ?_
        refine RL.asg rfl rfl rfl ?_
        refine RL.finG ?_
        refine GL.seq ?_
        refine GL.region ?_
        refine RL.mv rfl rfl rfl ?_
        refine RL.mv rfl rfl rfl ?_
        refine RL.finG ?_
        obtain ⟨y379, e380, h299⟩ := bind_some h299
        replace e380 := chk_some e380
        obtain ⟨y381, K382, h383, h384, h385, h386, h387⟩ := bindF_K h299
        refine GL.join (ι := (List Int) × Value) (fun (p : (List Int) × Value) => [(0, .int .i64 x0), (1, v1), (7, p.2), (20, .int .i64 ((x1).length : Int)), (21, .int .i64 (i296 : Int))]) (fun (p : (List Int) × Value) => [imm (TR.sl TR.int) v1 x1, own 3 TR.int p.2 p.1]) (fun (p : (List Int) × Value) => K382 (.nx p.1)) ?_ ?_
        · refine GL.block ?_
          refine GL.loop (ι := Nat × Nat × (List Int) × Value) (fun (p : Nat × Nat × (List Int) × Value) => [(0, .int .i64 x0), (1, v1), (7, p.2.2.2), (8, .int .i64 (i296 : Int)), (20, .int .i64 ((x1).length : Int)), (21, .int .i64 (i296 : Int)), (24, .int .i64 x0), (25, .int .i64 (p.1 : Int))]) (fun (p : Nat × Nat × (List Int) × Value) => [imm (TR.sl TR.int) v1 x1, own 3 TR.int p.2.2.2 p.2.2.1]) (fun (p : Nat × Nat × (List Int) × Value) => p.1 + p.2.1 = (x0).toNat ∧ rangeN (worth_Share_b2 i296 x0 x1 y306) p.2.1 p.1 p.2.2.1 = some y381) (fun (p : Nat × Nat × (List Int) × Value) => p.2.1) (0, (x0).toNat, l150, v151) ⟨by simp, h383⟩ (fun a w st => St.cut [0, 1] ⟨rfl, rfl, rfl, rfl, rfl, rfl, rfl, rfl, trivial⟩ (by decide) rfl st) ?_
          rintro ⟨i388, r389, l343, v344⟩ ⟨h394, h393⟩
          try dsimp only at h394 h393
          refine GL.weak (env' := [(0, .int .i64 x0), (1, v1), (7, v344), (8, .int .i64 (i296 : Int)), (20, .int .i64 ((x1).length : Int)), (21, .int .i64 (i296 : Int)), (24, .int .i64 x0), (25, .int .i64 (i388 : Int))]) (L' := [imm (TR.sl TR.int) v1 x1, own 3 TR.int v344 l343]) (fun _ _ st => st) ?_
          refine GL.seq ?_
          refine GL.region ?_
          refine RL.binI (v := .bool (decide ((i388 : Int) < x0))) rfl rfl rfl rfl rfl ?_
          refine RL.finG ?_
          refine GL.seq ?_
          refine GL.cond rfl (fun b396 => ?_) (fun b396 => ?_)
          · have h397 : i388 < (x0).toNat := by have := of_decide_eq_true b396; omega
            obtain ⟨r398, hr⟩ : ∃ m, r389 = m + 1 := ⟨r389 - 1, by omega⟩
            subst hr
            obtain ⟨z390, h391, h392⟩ := rangeN_some h393
            unfold worth_Share_b2 at h391
            try dsimp only at h391
            refine GL.skip ?_
            refine GL.seq ?_
            refine GL.block ?_
            refine GL.seq ?_
            refine GL.region ?_
            refine RL.mv rfl rfl rfl ?_
            refine RL.asg rfl rfl rfl ?_
            refine RL.finG ?_
            refine GL.seq ?_
            refine GL.region ?_
            refine RL.mv rfl rfl rfl ?_
            refine RL.mv rfl rfl rfl ?_
            obtain ⟨y401, e402, h391⟩ := bind_some h391
            replace e402 := chk_some e402
            refine RL.sh (by simp) rfl rfl rfl rfl e402 ?_
            refine RL.binI (v := .int .i64 (bits .and .i64 (Int.fdiv (i296 : Int) (2 ^ (min (i388 : Int).toNat (IntKind.bits .i64)))) (1 : Int))) rfl rfl rfl rfl rfl ?_
            refine RL.binI (v := .bool ((bits .and .i64 (Int.fdiv (i296 : Int) (2 ^ (min (i388 : Int).toNat (IntKind.bits .i64)))) (1 : Int)) == (0 : Int))) rfl rfl rfl rfl rfl ?_
            refine RL.finG ?_
            refine GL.cond rfl (fun b403 => ?_) (fun b403 => ?_)
            · replace h391 := ite_t b403 h391
              refine GL.seq ?_
              refine GL.region ?_
              refine RL.mv rfl rfl rfl ?_
              obtain ⟨y406, e407, h391⟩ := bind_some h391
              refine RL.callC (v := .int .i64 y406) (vs := [.int .i64 (i296 : Int)]) Try_fit35 rfl rfl rfl rfl (fun U w hU hW hL => worth_size_c U w hU (i296 : Int) _ e407) ?_
              refine RL.asg rfl rfl rfl ?_
              refine RL.finG ?_
              refine GL.regionH 27 rfl rfl (by kernel_rfl) ?_
              simp only [List.take_succ_cons, List.take_zero, List.drop_succ_cons, List.drop_zero]
              refine RL.mv rfl rfl rfl ?_
              refine RL.mv rfl rfl rfl ?_
              obtain ⟨y420, e421, h391⟩ := bind_some h391
              refine RL.idxS (sz := 1) 1 Try.underlying22 Try_ln3 rfl rfl rfl rfl rfl SlOf.own (idx_some e421).1 (idx_some e421).2.1 ?_
              refine RL.ldSx (i := i388) (e' := y420) 1 Ex.ik Try_ln3 rfl rfl rfl rfl SlOf.own (idx_some e421).2.2 Part.self ?_
              refine RL.mv rfl rfl rfl ?_
              obtain ⟨y422, e423, h391⟩ := bind_some h391
              refine RL.callC (v := .int .i64 y422) (vs := [.int .i64 y406]) Try_fit36 rfl rfl rfl rfl (fun U w hU hW hL => worth_factorial_c U w hU y406 _ e423) ?_
              refine RL.mv rfl rfl rfl ?_
              refine RL.binI (v := .int .i64 (wsub x0 (1 : Int))) rfl rfl rfl rfl rfl ?_
              refine RL.mv rfl rfl rfl ?_
              refine RL.binI (v := .int .i64 (wsub (wsub x0 (1 : Int)) y406)) rfl rfl rfl rfl rfl ?_
              obtain ⟨y424, e425, h391⟩ := bind_some h391
              refine RL.callC (v := .int .i64 y424) (vs := [.int .i64 (wsub (wsub x0 (1 : Int)) y406)]) Try_fit36 rfl rfl rfl rfl (fun U w hU hW hL => worth_factorial_c U w hU (wsub (wsub x0 (1 : Int)) y406) _ e425) ?_
              refine RL.binI (v := .int .i64 (wmul y422 y424)) rfl rfl rfl rfl rfl ?_
              refine RL.mv rfl rfl rfl ?_
              refine RL.mv rfl rfl rfl ?_
              refine RL.mv rfl rfl rfl ?_
              obtain ⟨y426, e427, h391⟩ := bind_some h391
              replace e427 := chk_some e427
              refine RL.sh (by simp) rfl rfl rfl rfl e427 ?_
              refine RL.binI (v := .int .i64 (bits .or .i64 (i296 : Int) (IntKind.wrap .i64 ((1 : Int) * 2 ^ (min (i388 : Int).toNat (IntKind.bits .i64)))))) rfl rfl rfl rfl rfl ?_
              obtain ⟨y428, e429, h391⟩ := bind_some h391
              refine RL.idxS (sz := 1) 0 Try.underlying22 Try_ln3 rfl rfl rfl rfl rfl SlOf.imm (idx_some e429).1 (idx_some e429).2.1 ?_
              refine RL.ldSx (i := (bits .or .i64 (i296 : Int) (IntKind.wrap .i64 ((1 : Int) * 2 ^ (min (i388 : Int).toNat (IntKind.bits .i64))))).toNat) (e' := y428) 0 Ex.ik Try_ln3 rfl rfl rfl rfl SlOf.imm (idx_some e429).2.2 Part.self ?_
              refine RL.mv rfl rfl rfl ?_
              refine RL.mv rfl rfl rfl ?_
              refine RL.idxS (sz := 1) 0 Try.underlying22 Try_ln3 rfl rfl rfl rfl rfl SlOf.imm (by omega) (by omega) ?_
              refine RL.ldSx (i := i296) (e' := y306) 0 Ex.ik Try_ln3 rfl rfl rfl rfl SlOf.imm e307 Part.self ?_
              refine RL.binI (v := .int .i64 (wsub y428 y306)) rfl rfl rfl rfl rfl ?_
              refine RL.binI (v := .int .i64 (wmul (wmul y422 y424) (wsub y428 y306))) rfl rfl rfl rfl rfl ?_
              refine RL.binI (v := .int .i64 (wadd y420 (wmul (wmul y422 y424) (wsub y428 y306)))) rfl rfl rfl rfl rfl ?_
              obtain ⟨y430, e431, h391⟩ := bind_some h391
              refine RL.idxS (sz := 1) 1 Try.underlying22 Try_ln3 rfl rfl rfl rfl rfl SlOf.own (idx_some e431).1 (idx_some e431).2.1 ?_
              refine RL.finH ?_
              refine RL.stS (i := i388) (e' := wadd y420 (wmul (wmul y422 y424) (wsub y428 y306))) (e1 := wadd y420 (wmul (wmul y422 y424) (wsub y428 y306))) (r := TR.int) 1 Try_ln3 rfl rfl rfl rfl VR.int rfl (idx_some e431).2.2 Upd.self ?_
              refine RL.finG ?_
              refine GL.weak (env' := [(0, .int .i64 x0), (1, v1), (7, v344), (8, .int .i64 (i296 : Int)), (20, .int .i64 ((x1).length : Int)), (21, .int .i64 (i296 : Int)), (24, .int .i64 x0), (25, .int .i64 (i388 : Int))]) (L' := [imm (TR.sl TR.int) v1 x1, own 3 TR.int v344 (List.set l343 i388 (wadd y420 (wmul (wmul y422 y424) (wsub y428 y306))))]) (fun a w st => St.cut [0, 1] ⟨rfl, rfl, rfl, rfl, rfl, rfl, rfl, rfl, trivial⟩ (by decide) rfl st) ?_
              refine GL.nilB ?_
              refine GL.region ?_
              refine RL.binI (v := .int .i64 ((i388 + 1 : Nat) : Int)) rfl rfl rfl rfl (binI_succ i388 (by omega)) ?_
              refine RL.mv rfl rfl rfl ?_
              refine RL.fin ?_
              cases h391
              exact fun a w st => lop_intro (i388 + 1, r398, (List.set l343 i388 (wadd y420 (wmul (wmul y422 y424) (wsub y428 y306)))), v344) ⟨by show i388 + 1 + r398 = (x0).toNat; omega, h392⟩ (by simp) (St.cut [0, 1] ⟨rfl, rfl, rfl, rfl, rfl, rfl, rfl, rfl, trivial⟩ (by decide) rfl st)
            · replace h391 := ite_f b403 h391
              refine GL.skip ?_
              refine GL.nilB ?_
              refine GL.region ?_
              refine RL.binI (v := .int .i64 ((i388 + 1 : Nat) : Int)) rfl rfl rfl rfl (binI_succ i388 (by omega)) ?_
              refine RL.mv rfl rfl rfl ?_
              refine RL.fin ?_
              cases h391
              exact fun a w st => lop_intro (i388 + 1, r398, l343, v344) ⟨by show i388 + 1 + r398 = (x0).toNat; omega, h392⟩ (by simp) (St.cut [0, 1] ⟨rfl, rfl, rfl, rfl, rfl, rfl, rfl, rfl, trivial⟩ (by decide) rfl st)
          · have h397 : ¬ i388 < (x0).toNat := by have := of_decide_eq_false b396; omega
            obtain rfl : r389 = 0 := by omega
            replace h393 : some (Fl.nx _) = some y381 := h393
            cases h393
            exact GL.exit (fun a w st => mid_intro (l343, v344) h384 (St.cut [0, 1] ⟨rfl, rfl, rfl, rfl, rfl, trivial⟩ (by decide) rfl st))
        · rintro ⟨l343, v344⟩ h432
          have h433 := h385 _ h432
          try dsimp only at h433
          refine GL.weak (env' := [(0, .int .i64 x0), (1, v1), (7, v344), (20, .int .i64 ((x1).length : Int)), (21, .int .i64 (i296 : Int))]) (L' := [imm (TR.sl TR.int) v1 x1, own 3 TR.int v344 l343]) (fun _ _ st => st) ?_
          refine GL.nilB ?_
          refine GL.region ?_
          refine RL.binI (v := .int .i64 ((i296 + 1 : Nat) : Int)) rfl rfl rfl rfl (binI_succ i296 (by omega)) ?_
          refine RL.mv rfl rfl rfl ?_
          refine RL.fin ?_
          cases h433
          exact fun a w st => lop_intro (i296 + 1, r308, l343, v344) ⟨by show i296 + 1 + r308.length = (x1).length; simp only [List.length_cons] at h302; omega, h309, h300⟩ (by simp) (St.cut [0, 1] ⟨rfl, rfl, rfl, rfl, rfl, trivial⟩ (by decide) rfl st)
      · have h305 : ¬ i296 < (x1).length := by have := of_decide_eq_false b304; omega
        obtain rfl : r297 = [] := by rw [← h303]; exact List.drop_of_length_le (by omega)
        replace h301 : some (Fl.nx _) = some y289 := h301
        cases h301
        exact GL.exit (fun a w st => mid_intro (l150, v151) h292 (St.cut [1] ⟨rfl, trivial⟩ (by decide) rfl st))
    · rintro ⟨l150, v151⟩ h434
      have h435 := h293 _ h434
      try dsimp only at h435
      refine GL.weak (env' := [(7, v151)]) (L' := [own 3 TR.int v151 l150]) (fun _ _ st => st) ?_
      refine GL.seq ?_
      refine GL.region ?_
      refine RL.mv rfl rfl rfl ?_
      refine RL.asg rfl rfl rfl ?_
      refine RL.asg rfl rfl rfl ?_
      refine RL.finG ?_
      have h435 := Option.some.inj h435
      subst h435
      exact GL.ret (Gx.ret (v := .tuple #[v151, .int .i64 (0 : Int)]) (res2 rfl rfl rfl) (fun a w st => (st.pick [0] (by decide) rfl).toPost v151))

set_option maxHeartbeats 4000000 in
theorem slices_Equal_int_int_c (S : Hp) (w : World) (hS : S.sub w) (v0 : Value) (x0 : (List Int)) (k0 : ((TR.sl TR.int)).vrep S v0 x0) (v1 : Value) (x1 : (List Int)) (k1 : ((TR.sl TR.int)).vrep S v1 x1) (res : Bool) (hm : slices_Equal_int_int_m x0 x1 = some res) : Calls Try.prog 20 #[v0, v1] w (PostV w (.bool res)) := by
  refine calls_enter 26 Try.func20 Try.ntmps20 rfl S false [(0, v0), (1, v1)] [imm (TR.sl TR.int) v0 x0, imm (TR.sl TR.int) v1 x1] rfl ⟨rfl, ⟨rfl, trivial⟩⟩ hS ⟨k0, ⟨k1, trivial⟩⟩ ?_
  unfold slices_Equal_int_int_m at hm
  refine GL.seq ?_
  refine GL.region ?_
  refine RL.asg rfl rfl rfl ?_
  refine RL.finG ?_
  refine GL.seq ?_
  refine GL.seq ?_
  refine GL.region ?_
  refine RL.mv rfl rfl rfl ?_
  refine RL.lenS 0 Try.underlying22 rfl rfl rfl rfl SlOf.imm ?_
  refine RL.mv rfl rfl rfl ?_
  refine RL.lenS 1 Try.underlying22 rfl rfl rfl rfl SlOf.imm ?_
  refine RL.binI (v := .bool (((x0).length : Int) != ((x1).length : Int))) rfl rfl rfl rfl rfl ?_
  refine RL.finG ?_
  refine GL.cond rfl (fun b3 => ?_) (fun b3 => ?_)
  · replace hm := ite_t b3 hm
    refine GL.seq ?_
    refine GL.region ?_
    refine RL.asg rfl rfl rfl ?_
    refine RL.finG ?_
    have hm := Option.some.inj hm
    subst hm
    exact GL.ret (Gx.ret (v := .bool false) (res1 rfl rfl) (fun a w st => st.toPostV))
  · replace hm := ite_f b3 hm
    refine GL.skip ?_
    refine GL.seq ?_
    refine GL.seq ?_
    refine GL.region ?_
    refine RL.mv rfl rfl rfl ?_
    refine RL.lenS 0 Try.underlying22 rfl rfl rfl rfl SlOf.imm ?_
    refine RL.mv rfl rfl rfl ?_
    refine RL.finG ?_
    refine GL.open_ 0 rfl (fun S h => len_imm S h) (fun n13 => ?_)
    obtain ⟨y14, K15, h16, h17, h18, h19, h20⟩ := bindR_K hm
    refine GL.join (ι := Unit) (fun (p : Unit) => []) (fun (p : Unit) => []) (fun (p : Unit) => K15 (.nx ())) ?_ ?_
    · refine GL.block ?_
      refine GL.loop (ι := Nat × (List Int)) (fun (p : Nat × (List Int)) => [(0, v0), (1, v1), (12, .int .i64 ((x0).length : Int)), (13, .int .i64 (p.1 : Int))]) (fun (p : Nat × (List Int)) => [imm (TR.sl TR.int) v0 x0, imm (TR.sl TR.int) v1 x1]) (fun (p : Nat × (List Int)) => p.1 + p.2.length = (x0).length ∧ List.drop p.1 x0 = p.2 ∧ rangeL (slices_Equal_int_int_b1 x1) p.2 p.1 () = some y14) (fun (p : Nat × (List Int)) => p.2.length) (0, x0) ⟨by simp, by simp, h16⟩ (fun a w st => St.cut [0, 1] ⟨rfl, rfl, rfl, rfl, trivial⟩ (by decide) rfl st) ?_
      rintro ⟨i21, r22⟩ ⟨h27, h28, h26⟩
      try dsimp only at h27 h28 h26
      refine GL.weak (env' := [(0, v0), (1, v1), (12, .int .i64 ((x0).length : Int)), (13, .int .i64 (i21 : Int))]) (L' := [imm (TR.sl TR.int) v0 x0, imm (TR.sl TR.int) v1 x1]) (fun _ _ st => st) ?_
      refine GL.seq ?_
      refine GL.region ?_
      refine RL.binI (v := .bool (decide ((i21 : Int) < ((x0).length : Int)))) rfl rfl rfl rfl rfl ?_
      refine RL.finG ?_
      refine GL.seq ?_
      refine GL.cond rfl (fun b29 => ?_) (fun b29 => ?_)
      · have h30 : i21 < (x0).length := by have := of_decide_eq_true b29; omega
        obtain ⟨y31, r33, hr, e32, h34⟩ := drop_cons h28 rfl h30
        subst hr
        obtain ⟨z23, h24, h25⟩ := rangeL_some h26
        unfold slices_Equal_int_int_b1 at h24
        try dsimp only at h24
        refine GL.skip ?_
        refine GL.seq ?_
        refine GL.block ?_
        refine GL.seq ?_
        refine GL.region ?_
        refine RL.mv rfl rfl rfl ?_
        refine RL.asg rfl rfl rfl ?_
        refine RL.finG ?_
        refine GL.seq ?_
        refine GL.regionQ rfl rfl (by kernel_rfl) ?_
        refine RL.mv rfl rfl rfl ?_
        refine RL.mv rfl rfl rfl ?_
        refine RL.idxS (sz := 1) 0 Try.underlying22 Try_ln3 rfl rfl rfl rfl rfl SlOf.imm (by omega) (by omega) ?_
        refine RL.ldSx (i := i21) (e' := y31) 0 Ex.ik Try_ln3 rfl rfl rfl rfl SlOf.imm e32 Part.self ?_
        refine RL.mv rfl rfl rfl ?_
        refine RL.mv rfl rfl rfl ?_
        obtain ⟨y37, e38, h24⟩ := bind_some h24
        refine RL.idxS (sz := 1) 1 Try.underlying22 Try_ln3 rfl rfl rfl rfl rfl SlOf.imm (idx_some e38).1 (idx_some e38).2.1 ?_
        refine RL.ldSx (i := i21) (e' := y37) 1 Ex.ik Try_ln3 rfl rfl rfl rfl SlOf.imm (idx_some e38).2.2 Part.self ?_
        refine RL.binI (v := .bool (y31 != y37)) rfl rfl rfl rfl rfl ?_
        refine RL.finQG ?_
        refine GL.cond rfl (fun b39 => ?_) (fun b39 => ?_)
        · replace h24 := ite_t b39 h24
          refine GL.seq ?_
          refine GL.region ?_
          refine RL.asg rfl rfl rfl ?_
          refine RL.finG ?_
          cases h24
          replace h25 : some (Fl.rt _) = some y14 := h25
          cases h25
          have hh := h19 _ h17
          subst hh
          exact GL.ret (Gx.ret (v := .bool false) (res1 rfl rfl) (fun a w st => st.toPostV))
        · replace h24 := ite_f b39 h24
          refine GL.skip ?_
          refine GL.nilB ?_
          refine GL.region ?_
          refine RL.binI (v := .int .i64 ((i21 + 1 : Nat) : Int)) rfl rfl rfl rfl (binI_succ i21 (by omega)) ?_
          refine RL.mv rfl rfl rfl ?_
          refine RL.fin ?_
          cases h24
          exact fun a w st => lop_intro (i21 + 1, r33) ⟨by show i21 + 1 + r33.length = (x0).length; simp only [List.length_cons] at h27; omega, h34, h25⟩ (by simp) (St.cut [0, 1] ⟨rfl, rfl, rfl, rfl, trivial⟩ (by decide) rfl st)
      · have h30 : ¬ i21 < (x0).length := by have := of_decide_eq_false b29; omega
        obtain rfl : r22 = [] := by rw [← h28]; exact List.drop_of_length_le (by omega)
        replace h26 : some (Fl.nx _) = some y14 := h26
        cases h26
        exact GL.exit (fun a w st => mid_intro () h17 (St.cut [] trivial (by decide) rfl st))
    · rintro ⟨⟩ h40
      have h41 := h18 _ h40
      try dsimp only at h41
      refine GL.weak (env' := []) (L' := []) (fun _ _ st => st) ?_
      refine GL.seq ?_
      refine GL.region ?_
      refine RL.asg rfl rfl rfl ?_
      refine RL.finG ?_
      have h41 := Option.some.inj h41
      subst h41
      exact GL.ret (Gx.ret (v := .bool true) (res1 rfl rfl) (fun a w st => st.toPostV))

set_option maxHeartbeats 4000000 in
theorem pk_worths_c (S : Hp) (w : World) (hS : S.sub w)  (res : Bool) (hm : pk_worths_m = some res) : Calls Try.prog 14 #[] w (PostV w (.bool res)) := by
  refine calls_enter 15 Try.func14 Try.ntmps14 rfl S false [] [] rfl trivial hS trivial ?_
  unfold pk_worths_m at hm
  refine GL.seq ?_
  refine GL.region ?_
  refine RL.asg rfl rfl rfl ?_
  refine RL.finG ?_
  refine GL.seq ?_
  refine GL.region ?_
  refine RL.bS (t := TR.int) (vs := [.int .i64 (0 : Int), .int .i64 (0 : Int), .int .i64 (2 : Int), .int .i64 (6 : Int)]) ([(0 : Int), (0 : Int), (2 : Int), (6 : Int)] : (List Int)) Try.underlying22 Try_lo3 rfl rfl rfl rfl ⟨VR.int, ⟨VR.int, ⟨VR.int, ⟨VR.int, trivial⟩⟩⟩⟩ rfl (by decide) ?_
  intro v5
  refine RL.weak (fun a w st => st.freeze 0 rfl) ?_
  obtain ⟨y6, e7, hm⟩ := bind_some hm
  refine RL.call (vs := [.int .i64 (2 : Int), v5]) Try_fit17 rfl rfl rfl rfl rfl (fun S f w hS hW hi => worth_Share_c S w hS (2 : Int) _ _ (hi 0 _ rfl) _ e7) ?_
  intro v8
  refine RL.reL (L' := [imm (TR.sl TR.int) v5 ([(0 : Int), (0 : Int), (2 : Int), (6 : Int)] : (List Int)), own 3 TR.int v8 y6.1]) rfl ?_
  refine RL.mv rfl rfl rfl ?_
  refine RL.ext rfl rfl rfl rfl ?_
  refine RL.ext rfl rfl rfl rfl ?_
  refine RL.asg rfl rfl rfl ?_
  refine RL.asg rfl rfl rfl ?_
  refine RL.finG ?_
  refine GL.seq ?_
  obtain ⟨y18, K19, h20, h21, h22, h23, h24⟩ := bindR_K hm
  refine GL.join (ι := Bool) (fun (p : Bool) => [(0, .bool p)]) (fun (p : Bool) => []) (fun (p : Bool) => K19 (.nx p)) ?_ ?_
  · skip
    refine GL.region ?_
    refine RL.mv rfl rfl rfl ?_
    refine RL.binI (v := .bool (y6.2 == (0 : Int))) rfl rfl rfl rfl rfl ?_
    refine RL.mv rfl rfl rfl ?_
    refine RL.split (t := 10) rfl (fun b25 => ?_) (fun b25 => ?_)
    · replace h20 := ite_t b25 h20
      refine RL.mv rfl rfl rfl ?_
      refine RL.bS (t := TR.int) (vs := [.int .i64 (4 : Int), .int .i64 (8 : Int)]) ([(4 : Int), (8 : Int)] : (List Int)) Try.underlying22 Try_lo3 rfl rfl rfl rfl ⟨VR.int, ⟨VR.int, trivial⟩⟩ rfl (by decide) ?_
      intro v26
      obtain ⟨y27, e28, h20⟩ := bind_some h20
      refine RL.callV (v := .bool y27) (vs := [v8, v26]) Try_fit20 rfl (Or.inl rfl) rfl rfl rfl rfl (fun U w hU hW hL => slices_Equal_int_int_c U w hU _ _ (hL 1 _ _ rfl Seen.own) _ _ (hL 2 _ _ rfl Seen.own) _ e28) ?_
      refine RL.pickT rfl rfl rfl rfl ?_
      refine RL.asg rfl rfl rfl ?_
      refine RL.fin ?_
      cases h20
      exact fun a w st => mid_intro y27 h21 (St.cut [] ⟨rfl, trivial⟩ (by decide) rfl st)
    · replace h20 := ite_f b25 h20
      refine RL.skip rfl rfl ?_
      refine RL.skip rfl rfl ?_
      refine RL.skip rfl rfl ?_
      refine RL.pickF rfl rfl rfl rfl ?_
      refine RL.asg rfl rfl rfl ?_
      refine RL.fin ?_
      cases h20
      exact fun a w st => mid_intro false h21 (St.cut [] ⟨rfl, trivial⟩ (by decide) rfl st)
  · rintro x17 h29
    have h30 := h22 _ h29
    try dsimp only at h30
    refine GL.weak (env' := [(0, .bool x17)]) (L' := []) (fun _ _ st => st) ?_
    have h30 := Option.some.inj h30
    subst h30
    exact GL.ret (Gx.ret (v := .bool x17) (res1 rfl rfl) (fun a w st => st.toPostV))

set_option maxHeartbeats 4000000 in
theorem ref_Rest_c (S : Hp) (w : World) (hS : S.sub w) (x0 : Int) (x1 : Int) (res : Int) (hm : ref_Rest_m x0 x1 = some res) : Calls Try.prog 33 #[.int .i64 x0, .int .i64 x1] w (PostC w (.int .i64 res)) := by
  refine calls_enter 14 Try.func33 Try.ntmps33 rfl S true [(0, .int .i64 x0), (1, .int .i64 x1)] [] rfl ⟨rfl, ⟨rfl, trivial⟩⟩ hS trivial ?_
  unfold ref_Rest_m at hm
  refine GL.seq ?_
  refine GL.region ?_
  refine RL.asg rfl rfl rfl ?_
  refine RL.finG ?_
  refine GL.seq ?_
  refine GL.region ?_
  refine RL.mv rfl rfl rfl ?_
  refine RL.mv rfl rfl rfl ?_
  obtain ⟨y5, e6, hm⟩ := bind_some hm
  replace e6 := chk_some e6
  refine RL.rem rfl rfl rfl rfl e6 ?_
  refine RL.asg rfl rfl rfl ?_
  refine RL.finG ?_
  refine GL.seq ?_
  refine GL.seq ?_
  refine GL.region ?_
  refine RL.mv rfl rfl rfl ?_
  refine RL.binI (v := .bool (decide ((Int.tmod x0 x1) < (0 : Int)))) rfl rfl rfl rfl rfl ?_
  refine RL.finG ?_
  obtain ⟨y9, K10, h11, h12, h13, h14, h15⟩ := bindR_K hm
  refine GL.join (ι := Int) (fun (p : Int) => [(0, .int .i64 p)]) (fun (p : Int) => []) (fun (p : Int) => K10 (.nx p)) ?_ ?_
  · skip
    refine GL.cond rfl (fun b16 => ?_) (fun b16 => ?_)
    · replace h11 := ite_t b16 h11
      refine GL.region ?_
      refine RL.mv rfl rfl rfl ?_
      refine RL.mv rfl rfl rfl ?_
      refine RL.binI (v := .int .i64 (wadd (Int.tmod x0 x1) x1)) rfl rfl rfl rfl rfl ?_
      refine RL.asg rfl rfl rfl ?_
      refine RL.finG ?_
      cases h11
      exact fun a w st => mid_intro (wadd (Int.tmod x0 x1) x1) h12 (St.cut [] ⟨rfl, trivial⟩ (by decide) rfl st)
    · replace h11 := ite_f b16 h11
      refine GL.skip ?_
      cases h11
      exact fun a w st => mid_intro (Int.tmod x0 x1) h12 (St.cut [] ⟨rfl, trivial⟩ (by decide) rfl st)
  · rintro x8 h17
    have h18 := h13 _ h17
    try dsimp only at h18
    refine GL.weak (env' := [(0, .int .i64 x8)]) (L' := []) (fun _ _ st => st) ?_
    refine GL.seq ?_
    refine GL.region ?_
    refine RL.mv rfl rfl rfl ?_
    refine RL.asg rfl rfl rfl ?_
    refine RL.finG ?_
    have h18 := Option.some.inj h18
    subst h18
    exact GL.ret (Gx.ret (v := .int .i64 x8) (res1 rfl rfl) (fun a w st => st.toPostC rfl))

set_option maxHeartbeats 4000000 in
theorem pk_Within_c (S : Hp) (w : World) (hS : S.sub w) (x0 : Int) (x1 : Int) (res : Int) (hm : pk_Within_m x0 x1 = some res) : Calls Try.prog 15 #[.int .i64 x0, .int .i64 x1] w (PostC w (.int .i64 res)) := by
  refine calls_enter 8 Try.func15 Try.ntmps15 rfl S true [(0, .int .i64 x0), (1, .int .i64 x1)] [] rfl ⟨rfl, ⟨rfl, trivial⟩⟩ hS trivial ?_
  unfold pk_Within_m at hm
  refine GL.seq ?_
  refine GL.region ?_
  refine RL.asg rfl rfl rfl ?_
  refine RL.finG ?_
  refine GL.seq ?_
  refine GL.region ?_
  refine RL.mv rfl rfl rfl ?_
  refine RL.mv rfl rfl rfl ?_
  obtain ⟨y5, e6, hm⟩ := bind_some hm
  refine RL.callC (v := .int .i64 y5) (vs := [.int .i64 x0, .int .i64 x1]) Try_fit33 rfl rfl rfl rfl (fun U w hU hW hL => ref_Rest_c U w hU x0 x1 _ e6) ?_
  refine RL.asg rfl rfl rfl ?_
  refine RL.finG ?_
  have hm := Option.some.inj hm
  subst hm
  exact GL.ret (Gx.ret (v := .int .i64 y5) (res1 rfl rfl) (fun a w st => st.toPostC rfl))

set_option maxHeartbeats 4000000 in
theorem pk_roundOf_c (S : Hp) (w : World) (hS : S.sub w) (x0 : Int) (v1 : Value) (x1 : (List Int)) (k1 : ((TR.sl TR.int)).vrep S v1 x1) (res : (List Int)) (hm : pk_roundOf_m x0 x1 = some res) : Calls Try.prog 26 #[.int .i64 x0, v1] w (Post w S (fun (o : Value) => o) (fun (o : Value) => [own 3 TR.int o res])) := by
  refine calls_enter 48 Try.func26 Try.ntmps26 rfl S false [(0, .int .i64 x0), (1, v1)] [imm (TR.sl TR.int) v1 x1] rfl ⟨rfl, ⟨rfl, trivial⟩⟩ hS ⟨k1, trivial⟩ ?_
  unfold pk_roundOf_m at hm
  refine GL.seq ?_
  refine GL.region ?_
  refine RL.asg rfl rfl rfl ?_
  refine RL.finG ?_
  refine GL.seq ?_
  refine GL.region ?_
  refine RL.mv rfl rfl rfl ?_
  obtain ⟨y8, e9, hm⟩ := bind_some hm
  replace e9 := chk_some e9
  refine RL.sh (by simp) rfl rfl rfl rfl e9 ?_
  obtain ⟨y10, e11, hm⟩ := bind_some hm
  replace e11 := chk_some e11
  refine RL.mkS (t := TR.int) (z := (0 : Int)) Try.underlying22 Try_lo3 (fun S => rfl) rfl rfl rfl rfl e11.1 e11.2 ?_
  intro v12
  refine RL.asg rfl rfl rfl ?_
  refine RL.finG ?_
  refine GL.seq ?_
  refine GL.seq ?_
  refine GL.region ?_
  refine RL.mv rfl rfl rfl ?_
  refine RL.lenS 1 Try.underlying22 rfl rfl rfl rfl SlOf.own ?_
  refine RL.mv rfl rfl rfl ?_
  refine RL.finG ?_
  refine GL.lenOwn 1 rfl (fun n185 => ?_)
  obtain ⟨y186, K187, h188, h189, h190, h191, h192⟩ := bindR_K hm
  refine GL.join (ι := (List Int) × Value) (fun (p : (List Int) × Value) => [(5, p.2)]) (fun (p : (List Int) × Value) => [own 3 TR.int p.2 p.1]) (fun (p : (List Int) × Value) => K187 (.nx p.1)) ?_ ?_
  · refine GL.block ?_
    refine GL.loop (ι := Nat × Nat × (List Int) × Value) (fun (p : Nat × Nat × (List Int) × Value) => [(1, v1), (5, p.2.2.2), (14, .int .i64 (((List.replicate (IntKind.wrap .i64 ((1 : Int) * 2 ^ (min x0.toNat (IntKind.bits .i64)))).toNat (0 : Int))).length : Int)), (15, .int .i64 (p.1 : Int))]) (fun (p : Nat × Nat × (List Int) × Value) => [imm (TR.sl TR.int) v1 x1, own 3 TR.int p.2.2.2 p.2.2.1]) (fun (p : Nat × Nat × (List Int) × Value) => p.1 + p.2.1 = ((List.replicate (IntKind.wrap .i64 ((1 : Int) * 2 ^ (min x0.toNat (IntKind.bits .i64)))).toNat (0 : Int))).length ∧ rangeN (pk_roundOf_b1 x1) p.2.1 p.1 p.2.2.1 = some y186) (fun (p : Nat × Nat × (List Int) × Value) => p.2.1) (0, ((List.replicate (IntKind.wrap .i64 ((1 : Int) * 2 ^ (min x0.toNat (IntKind.bits .i64)))).toNat (0 : Int))).length, (List.replicate (IntKind.wrap .i64 ((1 : Int) * 2 ^ (min x0.toNat (IntKind.bits .i64)))).toNat (0 : Int)), v12) ⟨by simp, h188⟩ (fun a w st => St.cut [0, 1] ⟨rfl, rfl, rfl, rfl, trivial⟩ (by decide) rfl st) ?_
    rintro ⟨i193, r194, l98, v99⟩ ⟨h199, h198⟩
    try dsimp only at h199 h198
    refine GL.weak (env' := [(1, v1), (5, v99), (14, .int .i64 (((List.replicate (IntKind.wrap .i64 ((1 : Int) * 2 ^ (min x0.toNat (IntKind.bits .i64)))).toNat (0 : Int))).length : Int)), (15, .int .i64 (i193 : Int))]) (L' := [imm (TR.sl TR.int) v1 x1, own 3 TR.int v99 l98]) (fun _ _ st => st) ?_
    refine GL.seq ?_
    refine GL.region ?_
    refine RL.binI (v := .bool (decide ((i193 : Int) < (((List.replicate (IntKind.wrap .i64 ((1 : Int) * 2 ^ (min x0.toNat (IntKind.bits .i64)))).toNat (0 : Int))).length : Int)))) rfl rfl rfl rfl rfl ?_
    refine RL.finG ?_
    refine GL.seq ?_
    refine GL.cond rfl (fun b201 => ?_) (fun b201 => ?_)
    · have h202 : i193 < ((List.replicate (IntKind.wrap .i64 ((1 : Int) * 2 ^ (min x0.toNat (IntKind.bits .i64)))).toNat (0 : Int))).length := by have := of_decide_eq_true b201; omega
      obtain ⟨r203, hr⟩ : ∃ m, r194 = m + 1 := ⟨r194 - 1, by omega⟩
      subst hr
      obtain ⟨z195, h196, h197⟩ := rangeN_some h198
      unfold pk_roundOf_b1 at h196
      try dsimp only at h196
      refine GL.skip ?_
      refine GL.seq ?_
      refine GL.block ?_
      refine GL.seq ?_
      refine GL.region ?_
      refine RL.mv rfl rfl rfl ?_
      refine RL.asg rfl rfl rfl ?_
      refine RL.finG ?_
      refine GL.seq ?_
      refine GL.region ?_
      refine RL.mv rfl rfl rfl ?_
      refine RL.lenS 0 Try.underlying22 rfl rfl rfl rfl SlOf.imm ?_
      refine RL.mv rfl rfl rfl ?_
      refine RL.finG ?_
      refine GL.open_ 0 rfl (fun S h => len_imm S h) (fun n248 => ?_)
      obtain ⟨y249, K250, h251, h252, h253, h254, h255⟩ := bindF_K h196
      refine GL.join (ι := (List Int) × Value) (fun (p : (List Int) × Value) => [(1, v1), (5, p.2), (14, .int .i64 (((List.replicate (IntKind.wrap .i64 ((1 : Int) * 2 ^ (min x0.toNat (IntKind.bits .i64)))).toNat (0 : Int))).length : Int)), (15, .int .i64 (i193 : Int))]) (fun (p : (List Int) × Value) => [imm (TR.sl TR.int) v1 x1, own 3 TR.int p.2 p.1]) (fun (p : (List Int) × Value) => K250 (.nx p.1)) ?_ ?_
      · refine GL.block ?_
        refine GL.loop (ι := Nat × (List Int) × (List Int) × Value) (fun (p : Nat × (List Int) × (List Int) × Value) => [(1, v1), (5, p.2.2.2), (6, .int .i64 (i193 : Int)), (14, .int .i64 (((List.replicate (IntKind.wrap .i64 ((1 : Int) * 2 ^ (min x0.toNat (IntKind.bits .i64)))).toNat (0 : Int))).length : Int)), (15, .int .i64 (i193 : Int)), (18, v1), (19, .int .i64 ((x1).length : Int)), (20, .int .i64 (p.1 : Int))]) (fun (p : Nat × (List Int) × (List Int) × Value) => [imm (TR.sl TR.int) v1 x1, own 3 TR.int p.2.2.2 p.2.2.1]) (fun (p : Nat × (List Int) × (List Int) × Value) => p.1 + p.2.1.length = (x1).length ∧ List.drop p.1 x1 = p.2.1 ∧ rangeL (pk_roundOf_b2 i193) p.2.1 p.1 p.2.2.1 = some y249) (fun (p : Nat × (List Int) × (List Int) × Value) => p.2.1.length) (0, x1, l98, v99) ⟨by simp, by simp, h251⟩ (fun a w st => St.cut [0, 1] ⟨rfl, rfl, rfl, rfl, rfl, rfl, rfl, rfl, trivial⟩ (by decide) rfl st) ?_
        rintro ⟨i256, r257, l225, v226⟩ ⟨h262, h263, h261⟩
        try dsimp only at h262 h263 h261
        refine GL.weak (env' := [(1, v1), (5, v226), (6, .int .i64 (i193 : Int)), (14, .int .i64 (((List.replicate (IntKind.wrap .i64 ((1 : Int) * 2 ^ (min x0.toNat (IntKind.bits .i64)))).toNat (0 : Int))).length : Int)), (15, .int .i64 (i193 : Int)), (18, v1), (19, .int .i64 ((x1).length : Int)), (20, .int .i64 (i256 : Int))]) (L' := [imm (TR.sl TR.int) v1 x1, own 3 TR.int v226 l225]) (fun _ _ st => st) ?_
        refine GL.seq ?_
        refine GL.region ?_
        refine RL.binI (v := .bool (decide ((i256 : Int) < ((x1).length : Int)))) rfl rfl rfl rfl rfl ?_
        refine RL.finG ?_
        refine GL.seq ?_
        refine GL.cond rfl (fun b264 => ?_) (fun b264 => ?_)
        · have h265 : i256 < (x1).length := by have := of_decide_eq_true b264; omega
          obtain ⟨y266, r268, hr, e267, h269⟩ := drop_cons h263 rfl h265
          subst hr
          obtain ⟨z258, h259, h260⟩ := rangeL_some h261
          unfold pk_roundOf_b2 at h259
          try dsimp only at h259
          refine GL.skip ?_
          refine GL.seq ?_
          refine GL.block ?_
          refine GL.seq ?_
          refine GL.region ?_
          refine RL.mv rfl rfl rfl ?_
          refine RL.idxS (sz := 1) 0 Try.underlying22 Try_ln3 rfl rfl rfl rfl rfl SlOf.imm (by omega) (by omega) ?_
          refine RL.ldSx (i := i256) (e' := y266) 0 Ex.ik Try_ln3 rfl rfl rfl rfl SlOf.imm e267 Part.self ?_
          refine RL.asg rfl rfl rfl ?_
          refine RL.asg rfl rfl rfl ?_
          refine RL.finG ?_
          refine GL.seq ?_
          refine GL.region ?_
          refine RL.mv rfl rfl rfl ?_
          refine RL.mv rfl rfl rfl ?_
          refine RL.lenS 1 Try.underlying22 rfl rfl rfl rfl SlOf.own ?_
          refine RL.binI (v := .int .i64 (wsub ((l225).length : Int) (1 : Int))) rfl rfl rfl rfl rfl ?_
          obtain ⟨y272, e273, h259⟩ := bind_some h259
          refine RL.callC (v := .int .i64 y272) (vs := [.int .i64 y266, .int .i64 (wsub ((l225).length : Int) (1 : Int))]) Try_fit15 rfl rfl rfl rfl (fun U w hU hW hL => pk_Within_c U w hU y266 (wsub ((l225).length : Int) (1 : Int)) _ e273) ?_
          refine RL.binI (v := .int .i64 (wadd (1 : Int) y272)) rfl rfl rfl rfl rfl ?_
          refine RL.asg rfl rfl rfl ?_
          refine RL.finG ?_
          refine GL.seq ?_
          refine GL.region ?_
          refine RL.mv rfl rfl rfl ?_
          refine RL.mv rfl rfl rfl ?_
          refine RL.binI (v := .int .i64 (bits .and .i64 (i193 : Int) (wadd (1 : Int) y272))) rfl rfl rfl rfl rfl ?_
          refine RL.mv rfl rfl rfl ?_
          refine RL.binI (v := .bool ((bits .and .i64 (i193 : Int) (wadd (1 : Int) y272)) == (wadd (1 : Int) y272))) rfl rfl rfl rfl rfl ?_
          refine RL.finG ?_
          refine GL.cond rfl (fun b274 => ?_) (fun b274 => ?_)
          · replace h259 := ite_t b274 h259
            refine GL.region ?_
            refine RL.mv rfl rfl rfl ?_
            refine RL.mv rfl rfl rfl ?_
            obtain ⟨y281, e282, h259⟩ := bind_some h259
            refine RL.idxS (sz := 1) 1 Try.underlying22 Try_ln3 rfl rfl rfl rfl rfl SlOf.own (idx_some e282).1 (idx_some e282).2.1 ?_
            refine RL.ldSx (i := i193) (e' := y281) 1 Ex.ik Try_ln3 rfl rfl rfl rfl SlOf.own (idx_some e282).2.2 Part.self ?_
            refine RL.mv rfl rfl rfl ?_
            obtain ⟨y283, e284, h259⟩ := bind_some h259
            replace e284 := chk_some e284
            refine RL.rem rfl rfl rfl rfl e284 ?_
            refine RL.binI (v := .int .i64 (wadd (1 : Int) (Int.tmod (i256 : Int) (5 : Int)))) rfl rfl rfl rfl rfl ?_
            refine RL.binI (v := .int .i64 (wadd y281 (wadd (1 : Int) (Int.tmod (i256 : Int) (5 : Int))))) rfl rfl rfl rfl rfl ?_
            obtain ⟨y285, e286, h259⟩ := bind_some h259
            refine RL.idxS (sz := 1) 1 Try.underlying22 Try_ln3 rfl rfl rfl rfl rfl SlOf.own (idx_some e286).1 (idx_some e286).2.1 ?_
            refine RL.stS (i := i193) (e' := wadd y281 (wadd (1 : Int) (Int.tmod (i256 : Int) (5 : Int)))) (e1 := wadd y281 (wadd (1 : Int) (Int.tmod (i256 : Int) (5 : Int)))) (r := TR.int) 1 Try_ln3 rfl rfl rfl rfl VR.int rfl (idx_some e286).2.2 Upd.self ?_
            refine RL.finG ?_
            refine GL.nilB ?_
            refine GL.region ?_
            refine RL.binI (v := .int .i64 ((i256 + 1 : Nat) : Int)) rfl rfl rfl rfl (binI_succ i256 (by omega)) ?_
            refine RL.mv rfl rfl rfl ?_
            refine RL.fin ?_
            cases h259
            exact fun a w st => lop_intro (i256 + 1, r268, (List.set l225 i193 (wadd y281 (wadd (1 : Int) (Int.tmod (i256 : Int) (5 : Int))))), v226) ⟨by show i256 + 1 + r268.length = (x1).length; simp only [List.length_cons] at h262; omega, h269, h260⟩ (by simp) (St.cut [0, 1] ⟨rfl, rfl, rfl, rfl, rfl, rfl, rfl, rfl, trivial⟩ (by decide) rfl st)
          · replace h259 := ite_f b274 h259
            refine GL.skip ?_
            refine GL.nilB ?_
            refine GL.region ?_
            refine RL.binI (v := .int .i64 ((i256 + 1 : Nat) : Int)) rfl rfl rfl rfl (binI_succ i256 (by omega)) ?_
            refine RL.mv rfl rfl rfl ?_
            refine RL.fin ?_
            cases h259
            exact fun a w st => lop_intro (i256 + 1, r268, l225, v226) ⟨by show i256 + 1 + r268.length = (x1).length; simp only [List.length_cons] at h262; omega, h269, h260⟩ (by simp) (St.cut [0, 1] ⟨rfl, rfl, rfl, rfl, rfl, rfl, rfl, rfl, trivial⟩ (by decide) rfl st)
        · have h265 : ¬ i256 < (x1).length := by have := of_decide_eq_false b264; omega
          obtain rfl : r257 = [] := by rw [← h263]; exact List.drop_of_length_le (by omega)
          replace h261 : some (Fl.nx _) = some y249 := h261
          cases h261
          exact GL.exit (fun a w st => mid_intro (l225, v226) h252 (St.cut [0, 1] ⟨rfl, rfl, rfl, rfl, trivial⟩ (by decide) rfl st))
      · rintro ⟨l225, v226⟩ h287
        have h288 := h253 _ h287
        try dsimp only at h288
        refine GL.weak (env' := [(1, v1), (5, v226), (14, .int .i64 (((List.replicate (IntKind.wrap .i64 ((1 : Int) * 2 ^ (min x0.toNat (IntKind.bits .i64)))).toNat (0 : Int))).length : Int)), (15, .int .i64 (i193 : Int))]) (L' := [imm (TR.sl TR.int) v1 x1, own 3 TR.int v226 l225]) (fun _ _ st => st) ?_
        refine GL.nilB ?_
        refine GL.region ?_
        refine RL.binI (v := .int .i64 ((i193 + 1 : Nat) : Int)) rfl rfl rfl rfl (binI_succ i193 (by omega)) ?_
        refine RL.mv rfl rfl rfl ?_
        refine RL.fin ?_
        cases h288
        exact fun a w st => lop_intro (i193 + 1, r203, l225, v226) ⟨by show i193 + 1 + r203 = ((List.replicate (IntKind.wrap .i64 ((1 : Int) * 2 ^ (min x0.toNat (IntKind.bits .i64)))).toNat (0 : Int))).length; omega, h197⟩ (by simp) (St.cut [0, 1] ⟨rfl, rfl, rfl, rfl, trivial⟩ (by decide) rfl st)
    · have h202 : ¬ i193 < ((List.replicate (IntKind.wrap .i64 ((1 : Int) * 2 ^ (min x0.toNat (IntKind.bits .i64)))).toNat (0 : Int))).length := by have := of_decide_eq_false b201; omega
      obtain rfl : r194 = 0 := by omega
      replace h198 : some (Fl.nx _) = some y186 := h198
      cases h198
      exact GL.exit (fun a w st => mid_intro (l98, v99) h189 (St.cut [1] ⟨rfl, trivial⟩ (by decide) rfl st))
  · rintro ⟨l98, v99⟩ h289
    have h290 := h190 _ h289
    try dsimp only at h290
    refine GL.weak (env' := [(5, v99)]) (L' := [own 3 TR.int v99 l98]) (fun _ _ st => st) ?_
    refine GL.seq ?_
    refine GL.region ?_
    refine RL.mv rfl rfl rfl ?_
    refine RL.asg rfl rfl rfl ?_
    refine RL.finG ?_
    have h290 := Option.some.inj h290
    subst h290
    exact GL.ret (Gx.ret (v := v99) (res1 rfl rfl) (fun a w st => (st.pick [0] (by decide) rfl).toPost v99))

set_option maxHeartbeats 4000000 in
theorem pk_GameOf_c (S : Hp) (w : World) (hS : S.sub w) (x0 : Int) (v1 : Value) (x1 : (List Int)) (k1 : ((TR.sl TR.int)).vrep S v1 x1) (res : (List Int)) (hm : pk_GameOf_m x0 x1 = some res) : Calls Try.prog 16 #[.int .i64 x0, v1] w (Post w S (fun (o : Value) => o) (fun (o : Value) => [own 3 TR.int o res])) := by
  refine calls_enter 32 Try.func16 Try.ntmps16 rfl S false [(0, .int .i64 x0), (1, v1)] [imm (TR.sl TR.int) v1 x1] rfl ⟨rfl, ⟨rfl, trivial⟩⟩ hS ⟨k1, trivial⟩ ?_
  unfold pk_GameOf_m at hm
  refine GL.seq ?_
  refine GL.region ?_
  refine RL.asg rfl rfl rfl ?_
  refine RL.finG ?_
  refine GL.seq ?_
  refine GL.region ?_
  refine RL.mv rfl rfl rfl ?_
  obtain ⟨y8, e9, hm⟩ := bind_some hm
  replace e9 := chk_some e9
  refine RL.sh (by simp) rfl rfl rfl rfl e9 ?_
  obtain ⟨y10, e11, hm⟩ := bind_some hm
  replace e11 := chk_some e11
  refine RL.mkS (t := TR.int) (z := (0 : Int)) Try.underlying22 Try_lo3 (fun S => rfl) rfl rfl rfl rfl e11.1 e11.2 ?_
  intro v12
  refine RL.asg rfl rfl rfl ?_
  refine RL.finG ?_
  refine GL.seq ?_
  refine GL.seq ?_
  refine GL.region ?_
  refine RL.asg rfl rfl rfl ?_
  refine RL.finG ?_
  obtain ⟨y45, K46, h47, h48, h49, h50, h51⟩ := bindR_K hm
  refine GL.join (ι := (List Int) × Int × Value) (fun (p : (List Int) × Int × Value) => [(5, p.2.2)]) (fun (p : (List Int) × Int × Value) => [own 3 TR.int p.2.2 p.1]) (fun (p : (List Int) × Int × Value) => K46 (.nx (p.1, p.2.1))) ?_ ?_
  · refine GL.block ?_
    refine GL.loop (ι := Nat × (List Int) × Int × Value) (fun (p : Nat × (List Int) × Int × Value) => [(1, v1), (5, p.2.2.2), (6, .int .i64 p.2.2.1)]) (fun (p : Nat × (List Int) × Int × Value) => [imm (TR.sl TR.int) v1 x1, own 3 TR.int p.2.2.2 p.2.1]) (fun (p : Nat × (List Int) × Int × Value) => loopM (pk_GameOf_b1 x1) p.1 (p.2.1, p.2.2.1) = some y45) (fun (p : Nat × (List Int) × Int × Value) => p.1) (1048576, (List.replicate (IntKind.wrap .i64 ((1 : Int) * 2 ^ (min x0.toNat (IntKind.bits .i64)))).toNat (0 : Int)), (1 : Int), v12) h47 (fun a w st => St.cut [0, 1] ⟨rfl, rfl, rfl, trivial⟩ (by decide) rfl st) ?_
    rintro ⟨r53, l28, x30, v29⟩ h57
    try dsimp only at h57
    refine GL.weak (env' := [(1, v1), (5, v29), (6, .int .i64 x30)]) (L' := [imm (TR.sl TR.int) v1 x1, own 3 TR.int v29 l28]) (fun _ _ st => st) ?_
    obtain ⟨r60, z54, hr, h55, h56⟩ := loopM_some h57
    subst hr
    unfold pk_GameOf_b1 at h55
    try dsimp only at h55
    refine GL.seq ?_
    refine GL.seq ?_
    refine GL.region ?_
    refine RL.mv rfl rfl rfl ?_
    refine RL.mv rfl rfl rfl ?_
    refine RL.lenS 1 Try.underlying22 rfl rfl rfl rfl SlOf.own ?_
    refine RL.binI (v := .bool (decide (x30 < ((l28).length : Int)))) rfl rfl rfl rfl rfl ?_
    refine RL.finG ?_
    refine GL.cond rfl (fun b61 => ?_) (fun b61 => ?_)
    · replace h55 := ite_t b61 h55
      refine GL.skip ?_
      refine GL.seq ?_
      refine GL.block ?_
      refine GL.seq ?_
      refine GL.region ?_
      refine RL.mv rfl rfl rfl ?_
      refine RL.binI (v := .int .i64 (wsub x30 (1 : Int))) rfl rfl rfl rfl rfl ?_
      refine RL.mv rfl rfl rfl ?_
      refine RL.lenS 0 Try.underlying22 rfl rfl rfl rfl SlOf.imm ?_
      refine RL.binI (v := .bool (decide ((wsub x30 (1 : Int)) < ((x1).length : Int)))) rfl rfl rfl rfl rfl ?_
      refine RL.finG ?_
      refine GL.cond rfl (fun b62 => ?_) (fun b62 => ?_)
      · replace h55 := ite_t b62 h55
        refine GL.region ?_
        refine RL.mv rfl rfl rfl ?_
        refine RL.mv rfl rfl rfl ?_
        refine RL.mv rfl rfl rfl ?_
        refine RL.mv rfl rfl rfl ?_
        refine RL.binI (v := .int .i64 (wsub x30 (1 : Int))) rfl rfl rfl rfl rfl ?_
        obtain ⟨y69, e70, h55⟩ := bind_some h55
        refine RL.idxS (sz := 1) 0 Try.underlying22 Try_ln3 rfl rfl rfl rfl rfl SlOf.imm (idx_some e70).1 (idx_some e70).2.1 ?_
        refine RL.ldSx (i := (wsub x30 (1 : Int)).toNat) (e' := y69) 0 Ex.ik Try_ln3 rfl rfl rfl rfl SlOf.imm (idx_some e70).2.2 Part.self ?_
        obtain ⟨y71, e72, h55⟩ := bind_some h55
        refine RL.callC (v := .int .i64 y71) (vs := [.int .i64 y69, .int .i64 (41 : Int)]) Try_fit15 rfl rfl rfl rfl (fun U w hU hW hL => pk_Within_c U w hU y69 (41 : Int) _ e72) ?_
        refine RL.binI (v := .int .i64 (wsub y71 (10 : Int))) rfl rfl rfl rfl rfl ?_
        obtain ⟨y73, e74, h55⟩ := bind_some h55
        refine RL.idxS (sz := 1) 1 Try.underlying22 Try_ln3 rfl rfl rfl rfl rfl SlOf.own (idx_some e74).1 (idx_some e74).2.1 ?_
        refine RL.stS (i := (x30).toNat) (e' := wsub y71 (10 : Int)) (e1 := wsub y71 (10 : Int)) (r := TR.int) 1 Try_ln3 rfl rfl rfl rfl VR.int rfl (idx_some e74).2.2 Upd.self ?_
        refine RL.finG ?_
        refine GL.nilB ?_
        refine GL.region ?_
        refine RL.mv rfl rfl rfl ?_
        refine RL.binI (v := .int .i64 (wadd x30 (1 : Int))) rfl rfl rfl rfl rfl ?_
        refine RL.asg rfl rfl rfl ?_
        refine RL.finG ?_
        cases h55
        exact fun a w st => lop_intro (r60, (List.set l28 ((x30).toNat) (wsub y71 (10 : Int))), wadd x30 (1 : Int), v29) h56 (by simp) (St.cut [0, 1] ⟨rfl, rfl, rfl, trivial⟩ (by decide) rfl st)
      · replace h55 := ite_f b62 h55
        refine GL.skip ?_
        refine GL.nilB ?_
        refine GL.region ?_
        refine RL.mv rfl rfl rfl ?_
        refine RL.binI (v := .int .i64 (wadd x30 (1 : Int))) rfl rfl rfl rfl rfl ?_
        refine RL.asg rfl rfl rfl ?_
        refine RL.finG ?_
        cases h55
        exact fun a w st => lop_intro (r60, l28, wadd x30 (1 : Int), v29) h56 (by simp) (St.cut [0, 1] ⟨rfl, rfl, rfl, trivial⟩ (by decide) rfl st)
    · replace h55 := ite_f b61 h55
      cases h55
      replace h56 : some (Fl.nx _) = some y45 := h56
      cases h56
      exact GL.exit (fun a w st => mid_intro (l28, x30, v29) h48 (St.cut [1] ⟨rfl, trivial⟩ (by decide) rfl st))
  · rintro ⟨l28, x30, v29⟩ h75
    have h76 := h49 _ h75
    try dsimp only at h76
    refine GL.weak (env' := [(5, v29)]) (L' := [own 3 TR.int v29 l28]) (fun _ _ st => st) ?_
    refine GL.seq ?_
    refine GL.region ?_
    refine RL.mv rfl rfl rfl ?_
    refine RL.asg rfl rfl rfl ?_
    refine RL.finG ?_
    have h76 := Option.some.inj h76
    subst h76
    exact GL.ret (Gx.ret (v := v29) (res1 rfl rfl) (fun a w st => (st.pick [0] (by decide) rfl).toPost v29))

set_option maxHeartbeats 4000000 in
theorem slices_Index_int_int_c (S : Hp) (w : World) (hS : S.sub w) (v0 : Value) (x0 : (List Int)) (k0 : ((TR.sl TR.int)).vrep S v0 x0) (x1 : Int) (res : Int) (hm : slices_Index_int_int_m x0 x1 = some res) : Calls Try.prog 46 #[v0, .int .i64 x1] w (PostC w (.int .i64 res)) := by
  refine calls_enter 19 Try.func46 Try.ntmps46 rfl S true [(0, v0), (1, .int .i64 x1)] [imm (TR.sl TR.int) v0 x0] rfl ⟨rfl, ⟨rfl, trivial⟩⟩ hS ⟨k0, trivial⟩ ?_
  unfold slices_Index_int_int_m at hm
  refine GL.seq ?_
  refine GL.region ?_
  refine RL.asg rfl rfl rfl ?_
  refine RL.finG ?_
  refine GL.seq ?_
  refine GL.seq ?_
  refine GL.region ?_
  refine RL.mv rfl rfl rfl ?_
  refine RL.lenS 0 Try.underlying22 rfl rfl rfl rfl SlOf.imm ?_
  refine RL.mv rfl rfl rfl ?_
  refine RL.finG ?_
  refine GL.open_ 0 rfl (fun S h => len_imm S h) (fun n8 => ?_)
  obtain ⟨y9, K10, h11, h12, h13, h14, h15⟩ := bindR_K hm
  refine GL.join (ι := Unit) (fun (p : Unit) => []) (fun (p : Unit) => []) (fun (p : Unit) => K10 (.nx ())) ?_ ?_
  · refine GL.block ?_
    refine GL.loop (ι := Nat × (List Int)) (fun (p : Nat × (List Int)) => [(0, v0), (1, .int .i64 x1), (7, .int .i64 ((x0).length : Int)), (8, .int .i64 (p.1 : Int))]) (fun (p : Nat × (List Int)) => [imm (TR.sl TR.int) v0 x0]) (fun (p : Nat × (List Int)) => p.1 + p.2.length = (x0).length ∧ List.drop p.1 x0 = p.2 ∧ rangeL (slices_Index_int_int_b1 x1) p.2 p.1 () = some y9) (fun (p : Nat × (List Int)) => p.2.length) (0, x0) ⟨by simp, by simp, h11⟩ (fun a w st => St.cut [0] ⟨rfl, rfl, rfl, rfl, trivial⟩ (by decide) rfl st) ?_
    rintro ⟨i16, r17⟩ ⟨h22, h23, h21⟩
    try dsimp only at h22 h23 h21
    refine GL.weak (env' := [(0, v0), (1, .int .i64 x1), (7, .int .i64 ((x0).length : Int)), (8, .int .i64 (i16 : Int))]) (L' := [imm (TR.sl TR.int) v0 x0]) (fun _ _ st => st) ?_
    refine GL.seq ?_
    refine GL.region ?_
    refine RL.binI (v := .bool (decide ((i16 : Int) < ((x0).length : Int)))) rfl rfl rfl rfl rfl ?_
    refine RL.finG ?_
    refine GL.seq ?_
    refine GL.cond rfl (fun b24 => ?_) (fun b24 => ?_)
    · have h25 : i16 < (x0).length := by have := of_decide_eq_true b24; omega
      obtain ⟨y26, r28, hr, e27, h29⟩ := drop_cons h23 rfl h25
      subst hr
      obtain ⟨z18, h19, h20⟩ := rangeL_some h21
      unfold slices_Index_int_int_b1 at h19
      try dsimp only at h19
      refine GL.skip ?_
      refine GL.seq ?_
      refine GL.block ?_
      refine GL.seq ?_
      refine GL.region ?_
      refine RL.mv rfl rfl rfl ?_
      refine RL.asg rfl rfl rfl ?_
      refine RL.finG ?_
      refine GL.seq ?_
      refine GL.region ?_
      refine RL.mv rfl rfl rfl ?_
      refine RL.mv rfl rfl rfl ?_
      refine RL.mv rfl rfl rfl ?_
      refine RL.idxS (sz := 1) 0 Try.underlying22 Try_ln3 rfl rfl rfl rfl rfl SlOf.imm (by omega) (by omega) ?_
      refine RL.ldSx (i := i16) (e' := y26) 0 Ex.ik Try_ln3 rfl rfl rfl rfl SlOf.imm e27 Part.self ?_
      refine RL.binI (v := .bool (x1 == y26)) rfl rfl rfl rfl rfl ?_
      refine RL.finG ?_
      refine GL.cond rfl (fun b30 => ?_) (fun b30 => ?_)
      · replace h19 := ite_t b30 h19
        refine GL.seq ?_
        refine GL.region ?_
        refine RL.mv rfl rfl rfl ?_
        refine RL.asg rfl rfl rfl ?_
        refine RL.finG ?_
        cases h19
        replace h20 : some (Fl.rt _) = some y9 := h20
        cases h20
        have hh := h14 _ h12
        subst hh
        exact GL.ret (Gx.ret (v := .int .i64 (i16 : Int)) (res1 rfl rfl) (fun a w st => st.toPostC rfl))
      · replace h19 := ite_f b30 h19
        refine GL.skip ?_
        refine GL.nilB ?_
        refine GL.region ?_
        refine RL.binI (v := .int .i64 ((i16 + 1 : Nat) : Int)) rfl rfl rfl rfl (binI_succ i16 (by omega)) ?_
        refine RL.mv rfl rfl rfl ?_
        refine RL.fin ?_
        cases h19
        exact fun a w st => lop_intro (i16 + 1, r28) ⟨by show i16 + 1 + r28.length = (x0).length; simp only [List.length_cons] at h22; omega, h29, h20⟩ (by simp) (St.cut [0] ⟨rfl, rfl, rfl, rfl, trivial⟩ (by decide) rfl st)
    · have h25 : ¬ i16 < (x0).length := by have := of_decide_eq_false b24; omega
      obtain rfl : r17 = [] := by rw [← h23]; exact List.drop_of_length_le (by omega)
      replace h21 : some (Fl.nx _) = some y9 := h21
      cases h21
      exact GL.exit (fun a w st => mid_intro () h12 (St.cut [] trivial (by decide) rfl st))
  · rintro ⟨⟩ h31
    have h32 := h13 _ h31
    try dsimp only at h32
    refine GL.weak (env' := []) (L' := []) (fun _ _ st => st) ?_
    refine GL.seq ?_
    refine GL.region ?_
    refine RL.asg rfl rfl rfl ?_
    refine RL.finG ?_
    have h32 := Option.some.inj h32
    subst h32
    exact GL.ret (Gx.ret (v := .int .i64 (-1 : Int)) (res1 rfl rfl) (fun a w st => st.toPostC rfl))

set_option maxHeartbeats 4000000 in
theorem slices_Contains_int_int_c (S : Hp) (w : World) (hS : S.sub w) (v0 : Value) (x0 : (List Int)) (k0 : ((TR.sl TR.int)).vrep S v0 x0) (x1 : Int) (res : Bool) (hm : slices_Contains_int_int_m x0 x1 = some res) : Calls Try.prog 44 #[v0, .int .i64 x1] w (PostC w (.bool res)) := by
  refine calls_enter 9 Try.func44 Try.ntmps44 rfl S true [(0, v0), (1, .int .i64 x1)] [imm (TR.sl TR.int) v0 x0] rfl ⟨rfl, ⟨rfl, trivial⟩⟩ hS ⟨k0, trivial⟩ ?_
  unfold slices_Contains_int_int_m at hm
  refine GL.seq ?_
  refine GL.region ?_
  refine RL.asg rfl rfl rfl ?_
  refine RL.finG ?_
  refine GL.seq ?_
  refine GL.region ?_
  refine RL.mv rfl rfl rfl ?_
  refine RL.mv rfl rfl rfl ?_
  obtain ⟨y5, e6, hm⟩ := bind_some hm
  refine RL.callC (v := .int .i64 y5) (vs := [v0, .int .i64 x1]) Try_fit46 rfl rfl rfl rfl (fun U w hU hW hL => slices_Index_int_int_c U w hU _ _ (hL 0 _ _ rfl Seen.imm) x1 _ e6) ?_
  refine RL.binI (v := .bool (decide (y5 ≥ (0 : Int)))) rfl rfl rfl rfl rfl ?_
  refine RL.asg rfl rfl rfl ?_
  refine RL.finG ?_
  have hm := Option.some.inj hm
  subst hm
  exact GL.ret (Gx.ret (v := .bool (decide (y5 ≥ (0 : Int)))) (res1 rfl rfl) (fun a w st => st.toPostC rfl))

set_option maxHeartbeats 4000000 in
theorem slices_Clone_int_int_c (S : Hp) (w : World) (hS : S.sub w) (v0 : Value) (x0 : List Int) (k0 : (TR.sl TR.int).vrep S v0 x0) (res : List Int) (hm : slices_Clone_int_int_m x0 = some res) : Calls Try.prog 29 #[v0] w (Post w S (fun (o : Value) => o) (fun (o : Value) => [own 3 TR.int o res])) := by
  refine calls_enter 8 Try.func29 Try.ntmps29 rfl S false [(0, v0)] [imm (TR.sl TR.int) v0 x0] rfl ⟨rfl, trivial⟩ hS ⟨k0, trivial⟩ ?_
  unfold slices_Clone_int_int_m at hm
  obtain ⟨_, hc, hm⟩ := bind_some hm
  replace hc := chk_some hc
  have hm := Option.some.inj hm
  subst hm
  refine GL.seq (GL.region (RL.asg rfl rfl rfl (RL.finG (GL.seq (GL.seq (GL.region ?_))))))
  refine RL.mv rfl rfl rfl ?_
  refine RL.eqNil 0 Try.underlying22 rfl rfl rfl rfl rfl SlOf.imm (fun b hb => ?_)
  refine RL.finG (GL.cond rfl (fun h => ?_) (fun h => ?_))
  · have := hb h
    subst this
    refine GL.seq (GL.region (RL.asg rfl rfl rfl (RL.finG ?_)))
    refine GL.weak (fun a w st => st.nilOwn 3 TR.int) ?_
    exact GL.ret (Gx.ret (v := Value.slice none 0 0) (res1 rfl rfl) (fun a w st => (st.pick [1] (by decide) rfl).toPost (Value.slice none 0 0)))
  · refine GL.skip (GL.seq (GL.region ?_))
    refine RL.bS (t := TR.int) (vs := []) ([] : List Int) Try.underlying22 Try_lo3 rfl rfl rfl rfl trivial rfl (by decide) ?_
    intro v1
    refine RL.mv rfl rfl rfl ?_
    refine RL.app 1 0 Try.underlying22 Try_lo3 rfl rfl rfl rfl rfl rfl rfl SlOf.imm (by simpa using hc) ?_
    intro v2
    refine RL.asg rfl rfl rfl (RL.finG ?_)
    exact GL.ret (Gx.ret (v := v2) (res1 rfl rfl) (fun a w st => (st.pick [1] (by decide) rfl).toPost v2))

set_option maxHeartbeats 4000000 in
theorem order_All_c (S : Hp) (w : World) (hS : S.sub w) (x0 : Int) (res : (List (List Int)) × Int) (hm : order_All_m x0 = some res) : Calls Try.prog 31 #[.int .i64 x0] w (Post w S (fun (o : Value) => .tuple #[o, .int .i64 res.2]) (fun (o : Value) => [own 22 (TR.sl TR.int) o res.1])) := by
  refine calls_enter 46 Try.func31 Try.ntmps31 rfl S false [(0, .int .i64 x0)] [] rfl ⟨rfl, trivial⟩ hS trivial ?_
  unfold order_All_m at hm
  refine GL.seq ?_
  refine GL.region ?_
  refine RL.asg rfl rfl rfl ?_
  refine RL.asg rfl rfl rfl ?_
  refine RL.finG ?_
  refine GL.seq ?_
  refine GL.seq ?_
  obtain ⟨y5, K6, h7, h8, h9, h10, h11⟩ := bindR_K hm
  refine GL.join (ι := Bool) (fun (p : Bool) => [(0, .int .i64 x0), (14, .bool p)]) (fun (p : Bool) => []) (fun (p : Bool) => K6 (.nx p)) ?_ ?_
  · skip
    refine GL.region ?_
    refine RL.mv rfl rfl rfl ?_
    refine RL.binI (v := .bool (decide (x0 < (1 : Int)))) rfl rfl rfl rfl rfl ?_
    refine RL.mv rfl rfl rfl ?_
    refine RL.split (t := 11) rfl (fun b12 => ?_) (fun b12 => ?_)
    · replace h7 := ite_t b12 h7
      refine RL.skip rfl rfl ?_
      refine RL.skip rfl rfl ?_
      refine RL.pickT rfl rfl rfl rfl ?_
      refine RL.fin ?_
      cases h7
      exact fun a w st => mid_intro true h8 (St.cut [] ⟨rfl, rfl, trivial⟩ (by decide) rfl st)
    · replace h7 := ite_f b12 h7
      refine RL.mv rfl rfl rfl ?_
      refine RL.binI (v := .bool (decide (x0 > (6 : Int)))) rfl rfl rfl rfl rfl ?_
      refine RL.pickF rfl rfl rfl rfl ?_
      refine RL.fin ?_
      cases h7
      exact fun a w st => mid_intro (decide (x0 > (6 : Int))) h8 (St.cut [] ⟨rfl, rfl, trivial⟩ (by decide) rfl st)
  · rintro x4 h13
    have h14 := h9 _ h13
    try dsimp only at h14
    refine GL.weak (env' := [(0, .int .i64 x0), (14, .bool x4)]) (L' := []) (fun _ _ st => st) ?_
    refine GL.cond rfl (fun b15 => ?_) (fun b15 => ?_)
    · replace h14 := ite_t b15 h14
      refine GL.seq ?_
      refine GL.region ?_
      refine RL.asg rfl rfl rfl ?_
      refine RL.asg rfl rfl rfl ?_
      refine RL.finG ?_
      refine GL.weak (fun a w st => st.nilOwn 22 (TR.sl TR.int)) ?_
      have h14 := Option.some.inj h14
      subst h14
      exact GL.ret (Gx.ret (v := .tuple #[Value.slice none 0 0, .int .i64 (1 : Int)]) (res2 rfl rfl rfl) (fun a w st => (st.pick [0] (by decide) rfl).toPost (Value.slice none 0 0)))
    · replace h14 := ite_f b15 h14
      refine GL.skip ?_
      refine GL.seq ?_
      refine GL.region ?_
      refine RL.bS (t := (TR.sl TR.int)) (vs := [Value.slice none 0 0]) ([[]] : (List (List Int))) Try.underlying45 Try_lo22 rfl rfl rfl rfl ⟨VR.nil, trivial⟩ rfl (by decide) ?_
      intro v17
      refine RL.asg rfl rfl rfl ?_
      refine RL.finG ?_
      refine GL.seq ?_
      refine GL.seq ?_
      refine GL.region ?_
      refine RL.mv rfl rfl rfl ?_
      refine RL.mv rfl rfl rfl ?_
      refine RL.finG ?_
      obtain ⟨y214, e215, h14⟩ := bind_some h14
      replace e215 := chk_some e215
      obtain ⟨y216, K217, h218, h219, h220, h221, h222⟩ := bindR_K h14
      refine GL.join (ι := (List (List Int)) × Value) (fun (p : (List (List Int)) × Value) => [(4, p.2)]) (fun (p : (List (List Int)) × Value) => [own 22 (TR.sl TR.int) p.2 p.1]) (fun (p : (List (List Int)) × Value) => K217 (.nx p.1)) ?_ ?_
      · refine GL.block ?_
        refine GL.loop (ι := Nat × Nat × (List (List Int)) × Value) (fun (p : Nat × Nat × (List (List Int)) × Value) => [(0, .int .i64 x0), (4, p.2.2.2), (16, .int .i64 x0), (17, .int .i64 (p.1 : Int))]) (fun (p : Nat × Nat × (List (List Int)) × Value) => [own 22 (TR.sl TR.int) p.2.2.2 p.2.2.1]) (fun (p : Nat × Nat × (List (List Int)) × Value) => p.1 + p.2.1 = (x0).toNat ∧ rangeN (order_All_b1 x0) p.2.1 p.1 p.2.2.1 = some y216) (fun (p : Nat × Nat × (List (List Int)) × Value) => p.2.1) (0, (x0).toNat, ([[]] : (List (List Int))), v17) ⟨by simp, h218⟩ (fun a w st => St.cut [0] ⟨rfl, rfl, rfl, rfl, trivial⟩ (by decide) rfl st) ?_
        rintro ⟨i223, r224, l18, v19⟩ ⟨h229, h228⟩
        try dsimp only at h229 h228
        refine GL.weak (env' := [(0, .int .i64 x0), (4, v19), (16, .int .i64 x0), (17, .int .i64 (i223 : Int))]) (L' := [own 22 (TR.sl TR.int) v19 l18]) (fun _ _ st => st) ?_
        refine GL.seq ?_
        refine GL.region ?_
        refine RL.binI (v := .bool (decide ((i223 : Int) < x0))) rfl rfl rfl rfl rfl ?_
        refine RL.finG ?_
        refine GL.seq ?_
        refine GL.cond rfl (fun b231 => ?_) (fun b231 => ?_)
        · have h232 : i223 < (x0).toNat := by have := of_decide_eq_true b231; omega
          obtain ⟨r233, hr⟩ : ∃ m, r224 = m + 1 := ⟨r224 - 1, by omega⟩
          subst hr
          obtain ⟨z225, h226, h227⟩ := rangeN_some h228
          unfold order_All_b1 at h226
          try dsimp only at h226
          refine GL.skip ?_
          refine GL.seq ?_
          refine GL.block ?_
          refine GL.seq ?_
          refine GL.region ?_
          refine RL.asg rfl rfl rfl ?_
          refine RL.finG ?_
          refine GL.seq ?_
          refine GL.seq ?_
          refine GL.region ?_
          refine RL.mv rfl rfl rfl ?_
          refine RL.lenS 0 Try.underlying45 rfl rfl rfl rfl SlOf.own ?_
          refine RL.mv rfl rfl rfl ?_
          refine RL.finG ?_
          refine GL.weak (fun a w st => st.nilOwn 22 (TR.sl TR.int)) ?_
          refine GL.lenOwn 0 rfl (fun n321 => ?_)
          obtain ⟨y322, K323, h324, h325, h326, h327, h328⟩ := bindF_K h226
          refine GL.join (ι := (List (List Int)) × Value) (fun (p : (List (List Int)) × Value) => [(0, .int .i64 x0), (5, p.2), (16, .int .i64 x0), (17, .int .i64 (i223 : Int))]) (fun (p : (List (List Int)) × Value) => [own 22 (TR.sl TR.int) p.2 p.1]) (fun (p : (List (List Int)) × Value) => K323 (.nx p.1)) ?_ ?_
          · refine GL.block ?_
            refine GL.loop (ι := Nat × Nat × (List (List Int)) × Value) (fun (p : Nat × Nat × (List (List Int)) × Value) => [(0, .int .i64 x0), (5, p.2.2.2), (16, .int .i64 x0), (17, .int .i64 (i223 : Int)), (19, v19), (20, .int .i64 ((l18).length : Int)), (21, .int .i64 (p.1 : Int))]) (fun (p : Nat × Nat × (List (List Int)) × Value) => [own 22 (TR.sl TR.int) p.2.2.2 p.2.2.1, own 22 (TR.sl TR.int) v19 l18]) (fun (p : Nat × Nat × (List (List Int)) × Value) => p.1 + p.2.1 = (l18).length ∧ rangeN (order_All_b2 l18 x0) p.2.1 p.1 p.2.2.1 = some y322) (fun (p : Nat × Nat × (List (List Int)) × Value) => p.2.1) (0, (l18).length, [], Value.slice none 0 0) ⟨by simp, h324⟩ (fun a w st => St.cut [1, 0] ⟨rfl, rfl, rfl, rfl, rfl, rfl, rfl, trivial⟩ (by decide) rfl st) ?_
            rintro ⟨i329, r330, l234, v235⟩ ⟨h335, h334⟩
            try dsimp only at h335 h334
            refine GL.weak (env' := [(0, .int .i64 x0), (5, v235), (16, .int .i64 x0), (17, .int .i64 (i223 : Int)), (19, v19), (20, .int .i64 ((l18).length : Int)), (21, .int .i64 (i329 : Int))]) (L' := [own 22 (TR.sl TR.int) v235 l234, own 22 (TR.sl TR.int) v19 l18]) (fun _ _ st => st) ?_
            refine GL.seq ?_
            refine GL.region ?_
            refine RL.binI (v := .bool (decide ((i329 : Int) < ((l18).length : Int)))) rfl rfl rfl rfl rfl ?_
            refine RL.finG ?_
            refine GL.seq ?_
            refine GL.cond rfl (fun b337 => ?_) (fun b337 => ?_)
            · have h338 : i329 < (l18).length := by have := of_decide_eq_true b337; omega
              obtain ⟨r339, hr⟩ : ∃ m, r330 = m + 1 := ⟨r330 - 1, by omega⟩
              subst hr
              obtain ⟨z331, h332, h333⟩ := rangeN_some h334
              unfold order_All_b2 at h332
              try dsimp only at h332
              refine GL.skip ?_
              refine GL.seq ?_
              refine GL.block ?_
              refine GL.seq ?_
              refine GL.region ?_
              obtain ⟨y343, e344, h332⟩ := bind_some h332
              refine RL.idxS (sz := 1) 1 Try.underlying45 Try_ln22 rfl rfl rfl rfl rfl SlOf.own (idx_some e344).1 (idx_some e344).2.1 ?_
              refine RL.ldS (i := i329) (r := (TR.sl TR.int)) (e' := y343) 1 Try_ln22 rfl rfl rfl rfl SlOf.own (idx_some e344).2.2 Part.self ?_
              intro v345
              refine RL.asg rfl rfl rfl ?_
              refine RL.finG ?_
              refine GL.seq ?_
              refine GL.region ?_
              refine RL.mv rfl rfl rfl ?_
              refine RL.mv rfl rfl rfl ?_
              refine RL.finG ?_
              obtain ⟨y376, e377, h332⟩ := bind_some h332
              replace e377 := chk_some e377
              obtain ⟨y378, K379, h380, h381, h382, h383, h384⟩ := bindF_K h332
              refine GL.join (ι := (List (List Int)) × Value) (fun (p : (List (List Int)) × Value) => [(0, .int .i64 x0), (5, p.2), (16, .int .i64 x0), (17, .int .i64 (i223 : Int)), (19, v19), (20, .int .i64 ((l18).length : Int)), (21, .int .i64 (i329 : Int))]) (fun (p : (List (List Int)) × Value) => [own 22 (TR.sl TR.int) p.2 p.1, own 22 (TR.sl TR.int) v19 l18]) (fun (p : (List (List Int)) × Value) => K379 (.nx p.1)) ?_ ?_
              · refine GL.block ?_
                refine GL.loop (ι := Nat × Nat × (List (List Int)) × Value) (fun (p : Nat × Nat × (List (List Int)) × Value) => [(0, .int .i64 x0), (5, p.2.2.2), (7, v345), (16, .int .i64 x0), (17, .int .i64 (i223 : Int)), (19, v19), (20, .int .i64 ((l18).length : Int)), (21, .int .i64 (i329 : Int)), (25, .int .i64 x0), (26, .int .i64 (p.1 : Int))]) (fun (p : Nat × Nat × (List (List Int)) × Value) => [own 22 (TR.sl TR.int) p.2.2.2 p.2.2.1, imm (TR.sl TR.int) v345 y343, own 22 (TR.sl TR.int) v19 l18]) (fun (p : Nat × Nat × (List (List Int)) × Value) => p.1 + p.2.1 = (x0).toNat ∧ rangeN (order_All_b3 y343) p.2.1 p.1 p.2.2.1 = some y378) (fun (p : Nat × Nat × (List (List Int)) × Value) => p.2.1) (0, (x0).toNat, l234, v235) ⟨by simp, h380⟩ (fun a w st => St.cut [0, 2, 1] ⟨rfl, rfl, rfl, rfl, rfl, rfl, rfl, rfl, rfl, rfl, trivial⟩ (by decide) rfl st) ?_
                rintro ⟨i385, r386, l346, v347⟩ ⟨h391, h390⟩
                try dsimp only at h391 h390
                refine GL.weak (env' := [(0, .int .i64 x0), (5, v347), (7, v345), (16, .int .i64 x0), (17, .int .i64 (i223 : Int)), (19, v19), (20, .int .i64 ((l18).length : Int)), (21, .int .i64 (i329 : Int)), (25, .int .i64 x0), (26, .int .i64 (i385 : Int))]) (L' := [own 22 (TR.sl TR.int) v347 l346, imm (TR.sl TR.int) v345 y343, own 22 (TR.sl TR.int) v19 l18]) (fun _ _ st => st) ?_
                refine GL.seq ?_
                refine GL.region ?_
                refine RL.binI (v := .bool (decide ((i385 : Int) < x0))) rfl rfl rfl rfl rfl ?_
                refine RL.finG ?_
                refine GL.seq ?_
                refine GL.cond rfl (fun b393 => ?_) (fun b393 => ?_)
                · have h394 : i385 < (x0).toNat := by have := of_decide_eq_true b393; omega
                  obtain ⟨r395, hr⟩ : ∃ m, r386 = m + 1 := ⟨r386 - 1, by omega⟩
                  subst hr
                  obtain ⟨z387, h388, h389⟩ := rangeN_some h390
                  unfold order_All_b3 at h388
                  try dsimp only at h388
                  refine GL.skip ?_
                  refine GL.seq ?_
                  refine GL.block ?_
                  refine GL.seq ?_
                  refine GL.region ?_
                  refine RL.mv rfl rfl rfl ?_
                  refine RL.asg rfl rfl rfl ?_
                  refine RL.finG ?_
                  refine GL.seq ?_
                  refine GL.region ?_
                  refine RL.mv rfl rfl rfl ?_
                  refine RL.mv rfl rfl rfl ?_
                  obtain ⟨y398, e399, h388⟩ := bind_some h388
                  refine RL.callC (v := .bool y398) (vs := [v345, .int .i64 (i385 : Int)]) Try_fit44 rfl rfl rfl rfl (fun U w hU hW hL => slices_Contains_int_int_c U w hU _ _ (hL 1 _ _ rfl Seen.imm) (i385 : Int) _ e399) ?_
                  refine RL.notB rfl rfl rfl ?_
                  refine RL.finG ?_
                  refine GL.cond rfl (fun b400 => ?_) (fun b400 => ?_)
                  · replace h388 := ite_t b400 h388
                    refine GL.region ?_
                    refine RL.mv rfl rfl rfl ?_
                    refine RL.mv rfl rfl rfl ?_
                    obtain ⟨y412, e413, h388⟩ := bind_some h388
                    refine RL.call (vs := [v345]) Try_fit29 rfl rfl rfl rfl rfl (fun S f w hS hW hi => slices_Clone_int_int_c S w hS _ _ (hi 1 _ rfl) _ e413) ?_
                    intro v414
                    refine RL.mv rfl rfl rfl ?_
                    refine RL.bS (t := TR.int) (vs := [.int .i64 (i385 : Int)]) ([(i385 : Int)] : (List Int)) Try.underlying22 Try_lo3 rfl rfl rfl rfl ⟨VR.int, trivial⟩ rfl (by decide) ?_
                    intro v415
                    refine RL.reL (L' := [own 22 (TR.sl TR.int) v347 l346, imm (TR.sl TR.int) v345 y343, own 22 (TR.sl TR.int) v19 l18, own 3 TR.int v414 y412, own 3 TR.int v415 ([(i385 : Int)] : (List Int))]) rfl ?_
                    obtain ⟨y416, e417, h388⟩ := bind_some h388
                    replace e417 := chk_some e417
                    refine RL.app 3 4 Try.underlying22 Try_lo3 rfl rfl rfl rfl rfl rfl rfl SlOf.own e417 ?_
                    intro v418
                    refine RL.weak (fun a w st => st.freeze 3 rfl) ?_
                    refine RL.bS (t := (TR.sl TR.int)) (vs := [v418]) ([(y412 ++ ([(i385 : Int)] : (List Int)))] : (List (List Int))) Try.underlying45 Try_lo22 rfl rfl rfl rfl ⟨(VR.item 3 rfl), trivial⟩ rfl (by decide) ?_
                    intro v419
                    refine RL.reL (L' := [own 22 (TR.sl TR.int) v347 l346, imm (TR.sl TR.int) v345 y343, own 22 (TR.sl TR.int) v19 l18, imm (TR.sl TR.int) v418 (y412 ++ ([(i385 : Int)] : (List Int))), own 3 TR.int v415 ([(i385 : Int)] : (List Int)), own 22 (TR.sl TR.int) v419 ([(y412 ++ ([(i385 : Int)] : (List Int)))] : (List (List Int)))]) rfl ?_
                    obtain ⟨y420, e421, h388⟩ := bind_some h388
                    replace e421 := chk_some e421
                    refine RL.app 0 5 Try.underlying45 Try_lo22 rfl rfl rfl rfl rfl rfl rfl SlOf.own e421 ?_
                    intro v422
                    refine RL.asg rfl rfl rfl ?_
                    refine RL.finG ?_
                    refine GL.nilB ?_
                    refine GL.region ?_
                    refine RL.binI (v := .int .i64 ((i385 + 1 : Nat) : Int)) rfl rfl rfl rfl (binI_succ i385 (by omega)) ?_
                    refine RL.mv rfl rfl rfl ?_
                    refine RL.fin ?_
                    cases h388
                    exact fun a w st => lop_intro (i385 + 1, r395, (l346 ++ ([(y412 ++ ([(i385 : Int)] : (List Int)))] : (List (List Int)))), v422) ⟨by show i385 + 1 + r395 = (x0).toNat; omega, h389⟩ (by simp) (St.cut [0, 1, 2] ⟨rfl, rfl, rfl, rfl, rfl, rfl, rfl, rfl, rfl, rfl, trivial⟩ (by decide) rfl st)
                  · replace h388 := ite_f b400 h388
                    refine GL.skip ?_
                    refine GL.nilB ?_
                    refine GL.region ?_
                    refine RL.binI (v := .int .i64 ((i385 + 1 : Nat) : Int)) rfl rfl rfl rfl (binI_succ i385 (by omega)) ?_
                    refine RL.mv rfl rfl rfl ?_
                    refine RL.fin ?_
                    cases h388
                    exact fun a w st => lop_intro (i385 + 1, r395, l346, v347) ⟨by show i385 + 1 + r395 = (x0).toNat; omega, h389⟩ (by simp) (St.cut [0, 1, 2] ⟨rfl, rfl, rfl, rfl, rfl, rfl, rfl, rfl, rfl, rfl, trivial⟩ (by decide) rfl st)
                · have h394 : ¬ i385 < (x0).toNat := by have := of_decide_eq_false b393; omega
                  obtain rfl : r386 = 0 := by omega
                  replace h390 : some (Fl.nx _) = some y378 := h390
                  cases h390
                  exact GL.exit (fun a w st => mid_intro (l346, v347) h381 (St.cut [0, 2] ⟨rfl, rfl, rfl, rfl, rfl, rfl, rfl, trivial⟩ (by decide) rfl st))
              · rintro ⟨l346, v347⟩ h423
                have h424 := h382 _ h423
                try dsimp only at h424
                refine GL.weak (env' := [(0, .int .i64 x0), (5, v347), (16, .int .i64 x0), (17, .int .i64 (i223 : Int)), (19, v19), (20, .int .i64 ((l18).length : Int)), (21, .int .i64 (i329 : Int))]) (L' := [own 22 (TR.sl TR.int) v347 l346, own 22 (TR.sl TR.int) v19 l18]) (fun _ _ st => st) ?_
                refine GL.nilB ?_
                refine GL.region ?_
                refine RL.binI (v := .int .i64 ((i329 + 1 : Nat) : Int)) rfl rfl rfl rfl (binI_succ i329 (by omega)) ?_
                refine RL.mv rfl rfl rfl ?_
                refine RL.fin ?_
                cases h424
                exact fun a w st => lop_intro (i329 + 1, r339, l346, v347) ⟨by show i329 + 1 + r339 = (l18).length; omega, h333⟩ (by simp) (St.cut [0, 1] ⟨rfl, rfl, rfl, rfl, rfl, rfl, rfl, trivial⟩ (by decide) rfl st)
            · have h338 : ¬ i329 < (l18).length := by have := of_decide_eq_false b337; omega
              obtain rfl : r330 = 0 := by omega
              replace h334 : some (Fl.nx _) = some y322 := h334
              cases h334
              exact GL.exit (fun a w st => mid_intro (l234, v235) h325 (St.cut [0] ⟨rfl, rfl, rfl, rfl, trivial⟩ (by decide) rfl st))
          · rintro ⟨l234, v235⟩ h425
            have h426 := h326 _ h425
            try dsimp only at h426
            refine GL.weak (env' := [(0, .int .i64 x0), (5, v235), (16, .int .i64 x0), (17, .int .i64 (i223 : Int))]) (L' := [own 22 (TR.sl TR.int) v235 l234]) (fun _ _ st => st) ?_
            refine GL.region ?_
            refine RL.mv rfl rfl rfl ?_
            refine RL.asg rfl rfl rfl ?_
            refine RL.finG ?_
            refine GL.nilB ?_
            refine GL.region ?_
            refine RL.binI (v := .int .i64 ((i223 + 1 : Nat) : Int)) rfl rfl rfl rfl (binI_succ i223 (by omega)) ?_
            refine RL.mv rfl rfl rfl ?_
            refine RL.fin ?_
            cases h426
            exact fun a w st => lop_intro (i223 + 1, r233, l234, v235) ⟨by show i223 + 1 + r233 = (x0).toNat; omega, h227⟩ (by simp) (St.cut [0] ⟨rfl, rfl, rfl, rfl, trivial⟩ (by decide) rfl st)
        · have h232 : ¬ i223 < (x0).toNat := by have := of_decide_eq_false b231; omega
          obtain rfl : r224 = 0 := by omega
          replace h228 : some (Fl.nx _) = some y216 := h228
          cases h228
          exact GL.exit (fun a w st => mid_intro (l18, v19) h219 (St.cut [0] ⟨rfl, trivial⟩ (by decide) rfl st))
      · rintro ⟨l18, v19⟩ h427
        have h428 := h220 _ h427
        try dsimp only at h428
        refine GL.weak (env' := [(4, v19)]) (L' := [own 22 (TR.sl TR.int) v19 l18]) (fun _ _ st => st) ?_
        refine GL.seq ?_
        refine GL.region ?_
        refine RL.mv rfl rfl rfl ?_
        refine RL.asg rfl rfl rfl ?_
        refine RL.asg rfl rfl rfl ?_
        refine RL.finG ?_
        have h428 := Option.some.inj h428
        subst h428
        exact GL.ret (Gx.ret (v := .tuple #[v19, .int .i64 (0 : Int)]) (res2 rfl rfl rfl) (fun a w st => (st.pick [0] (by decide) rfl).toPost v19))

set_option maxHeartbeats 4000000 in
theorem slices_IndexFunc_api_Errno_api_Errno_c (S : Hp) (w : World) (hS : S.sub w) (v0 : Value) (x0 : (List Int)) (k0 : ((TR.sl TR.int)).vrep S v0 x0) (f1 : FuncId) (c1 : Array Value) (t1 : Fit Try.prog f1) (g1 : Int → Option Bool) (k1 : ∀ (U : Hp) (w' : World), Hp.le S U → U.sub w' → ∀ (a0 : Int) (rr : Bool), g1 a0 = some rr → Calls Try.prog f1 (#[.int .i64 a0] ++ c1) w' (PostV w' (.bool rr))) (res : Int) (hm : slices_IndexFunc_api_Errno_api_Errno_m x0 g1 = some res) : Calls Try.prog 45 #[v0, .func (.func f1) #[] c1] w (PostV w (.int .i64 res)) := by
  refine calls_enter 19 Try.func45 Try.ntmps45 rfl S false [(0, v0), (1, .func (.func f1) #[] c1)] [imm (TR.sl TR.int) v0 x0] rfl ⟨rfl, ⟨rfl, trivial⟩⟩ hS ⟨k0, trivial⟩ ?_
  unfold slices_IndexFunc_api_Errno_api_Errno_m at hm
  refine GL.seq ?_
  refine GL.region ?_
  refine RL.asg rfl rfl rfl ?_
  refine RL.finG ?_
  refine GL.seq ?_
  refine GL.seq ?_
  refine GL.region ?_
  refine RL.mv rfl rfl rfl ?_
  refine RL.lenS 0 Try.underlying53 rfl rfl rfl rfl SlOf.imm ?_
  refine RL.mv rfl rfl rfl ?_
  refine RL.finG ?_
  refine GL.open_ 0 rfl (fun S h => len_imm S h) (fun n12 => ?_)
  obtain ⟨y13, K14, h15, h16, h17, h18, h19⟩ := bindR_K hm
  refine GL.join (ι := Unit) (fun (p : Unit) => []) (fun (p : Unit) => []) (fun (p : Unit) => K14 (.nx ())) ?_ ?_
  · refine GL.block ?_
    refine GL.loop (ι := Nat × (List Int)) (fun (p : Nat × (List Int)) => [(0, v0), (1, .func (.func f1) #[] c1), (7, .int .i64 ((x0).length : Int)), (8, .int .i64 (p.1 : Int))]) (fun (p : Nat × (List Int)) => [imm (TR.sl TR.int) v0 x0]) (fun (p : Nat × (List Int)) => p.1 + p.2.length = (x0).length ∧ List.drop p.1 x0 = p.2 ∧ rangeL (slices_IndexFunc_api_Errno_api_Errno_b1 g1) p.2 p.1 () = some y13) (fun (p : Nat × (List Int)) => p.2.length) (0, x0) ⟨by simp, by simp, h15⟩ (fun a w st => St.cut [0] ⟨rfl, rfl, rfl, rfl, trivial⟩ (by decide) rfl st) ?_
    rintro ⟨i20, r21⟩ ⟨h26, h27, h25⟩
    try dsimp only at h26 h27 h25
    refine GL.weak (env' := [(0, v0), (1, .func (.func f1) #[] c1), (7, .int .i64 ((x0).length : Int)), (8, .int .i64 (i20 : Int))]) (L' := [imm (TR.sl TR.int) v0 x0]) (fun _ _ st => st) ?_
    refine GL.seq ?_
    refine GL.region ?_
    refine RL.binI (v := .bool (decide ((i20 : Int) < ((x0).length : Int)))) rfl rfl rfl rfl rfl ?_
    refine RL.finG ?_
    refine GL.seq ?_
    refine GL.cond rfl (fun b28 => ?_) (fun b28 => ?_)
    · have h29 : i20 < (x0).length := by have := of_decide_eq_true b28; omega
      obtain ⟨y30, r32, hr, e31, h33⟩ := drop_cons h27 rfl h29
      subst hr
      obtain ⟨z22, h23, h24⟩ := rangeL_some h25
      unfold slices_IndexFunc_api_Errno_api_Errno_b1 at h23
      try dsimp only at h23
      refine GL.skip ?_
      refine GL.seq ?_
      refine GL.block ?_
      refine GL.seq ?_
      refine GL.region ?_
      refine RL.mv rfl rfl rfl ?_
      refine RL.asg rfl rfl rfl ?_
      refine RL.finG ?_
      refine GL.seq ?_
      refine GL.region ?_
      refine RL.mv rfl rfl rfl ?_
      refine RL.mv rfl rfl rfl ?_
      refine RL.mv rfl rfl rfl ?_
      refine RL.idxS (sz := 1) 0 Try.underlying53 Try_ln26 rfl rfl rfl rfl rfl SlOf.imm (by omega) (by omega) ?_
      refine RL.ldSx (i := i20) (e' := y30) 0 Ex.ik Try_ln26 rfl rfl rfl rfl SlOf.imm e31 Part.self ?_
      obtain ⟨y36, e37, h23⟩ := bind_some h23
      refine RL.callV (v := .bool y36) (vs := [.int .i64 y30]) t1 rfl (Or.inl rfl) rfl rfl rfl rfl (fun U w hU hW hL => k1 U w hW hU y30 _ e37) ?_
      refine RL.finG ?_
      refine GL.cond rfl (fun b38 => ?_) (fun b38 => ?_)
      · replace h23 := ite_t b38 h23
        refine GL.seq ?_
        refine GL.region ?_
        refine RL.mv rfl rfl rfl ?_
        refine RL.asg rfl rfl rfl ?_
        refine RL.finG ?_
        cases h23
        replace h24 : some (Fl.rt _) = some y13 := h24
        cases h24
        have hh := h18 _ h16
        subst hh
        exact GL.ret (Gx.ret (v := .int .i64 (i20 : Int)) (res1 rfl rfl) (fun a w st => st.toPostV))
      · replace h23 := ite_f b38 h23
        refine GL.skip ?_
        refine GL.nilB ?_
        refine GL.region ?_
        refine RL.binI (v := .int .i64 ((i20 + 1 : Nat) : Int)) rfl rfl rfl rfl (binI_succ i20 (by omega)) ?_
        refine RL.mv rfl rfl rfl ?_
        refine RL.fin ?_
        cases h23
        exact fun a w st => lop_intro (i20 + 1, r32) ⟨by show i20 + 1 + r32.length = (x0).length; simp only [List.length_cons] at h26; omega, h33, h24⟩ (by simp) (St.cut [0] ⟨rfl, rfl, rfl, rfl, trivial⟩ (by decide) rfl st)
    · have h29 : ¬ i20 < (x0).length := by have := of_decide_eq_false b28; omega
      obtain rfl : r21 = [] := by rw [← h27]; exact List.drop_of_length_le (by omega)
      replace h25 : some (Fl.nx _) = some y13 := h25
      cases h25
      exact GL.exit (fun a w st => mid_intro () h16 (St.cut [] trivial (by decide) rfl st))
  · rintro ⟨⟩ h39
    have h40 := h17 _ h39
    try dsimp only at h40
    refine GL.weak (env' := []) (L' := []) (fun _ _ st => st) ?_
    refine GL.seq ?_
    refine GL.region ?_
    refine RL.asg rfl rfl rfl ?_
    refine RL.finG ?_
    have h40 := Option.some.inj h40
    subst h40
    exact GL.ret (Gx.ret (v := .int .i64 (-1 : Int)) (res1 rfl rfl) (fun a w st => st.toPostV))

set_option maxHeartbeats 4000000 in
theorem slices_ContainsFunc_api_Errno_api_Errno_c (S : Hp) (w : World) (hS : S.sub w) (v0 : Value) (x0 : (List Int)) (k0 : ((TR.sl TR.int)).vrep S v0 x0) (f1 : FuncId) (c1 : Array Value) (t1 : Fit Try.prog f1) (g1 : Int → Option Bool) (k1 : ∀ (U : Hp) (w' : World), Hp.le S U → U.sub w' → ∀ (a0 : Int) (rr : Bool), g1 a0 = some rr → Calls Try.prog f1 (#[.int .i64 a0] ++ c1) w' (PostV w' (.bool rr))) (res : Bool) (hm : slices_ContainsFunc_api_Errno_api_Errno_m x0 g1 = some res) : Calls Try.prog 37 #[v0, .func (.func f1) #[] c1] w (PostV w (.bool res)) := by
  refine calls_enter 9 Try.func37 Try.ntmps37 rfl S false [(0, v0), (1, .func (.func f1) #[] c1)] [imm (TR.sl TR.int) v0 x0] rfl ⟨rfl, ⟨rfl, trivial⟩⟩ hS ⟨k0, trivial⟩ ?_
  unfold slices_ContainsFunc_api_Errno_api_Errno_m at hm
  refine GL.seq ?_
  refine GL.region ?_
  refine RL.asg rfl rfl rfl ?_
  refine RL.finG ?_
  refine GL.seq ?_
  refine GL.region ?_
  refine RL.mv rfl rfl rfl ?_
  refine RL.mv rfl rfl rfl ?_
  obtain ⟨y5, e6, hm⟩ := bind_some hm
  refine RL.callV (v := .int .i64 y5) (vs := [v0, .func (.func f1) #[] c1]) Try_fit45 rfl (Or.inl rfl) rfl rfl rfl rfl (fun U w hU hW hL => slices_IndexFunc_api_Errno_api_Errno_c U w hU _ _ (hL 0 _ _ rfl Seen.imm) f1 c1 t1 g1 (fun U' w' hle => k1 U' w' (Hp.le_trans hW hle)) _ e6) ?_
  refine RL.binI (v := .bool (decide (y5 ≥ (0 : Int)))) rfl rfl rfl rfl rfl ?_
  refine RL.asg rfl rfl rfl ?_
  refine RL.finG ?_
  have hm := Option.some.inj hm
  subst hm
  exact GL.ret (Gx.ret (v := .bool (decide (y5 ≥ (0 : Int)))) (res1 rfl rfl) (fun a w st => st.toPostV))

set_option maxHeartbeats 4000000 in
theorem pk_good_1_c (S : Hp) (w : World) (hS : S.sub w) (x0 : Int) (res : Bool) (hm : pk_good_1_m x0 = some res) : Calls Try.prog 38 #[.int .i64 x0] w (PostC w (.bool res)) := by
  refine calls_enter 5 Try.func38 Try.ntmps38 rfl S true [(0, .int .i64 x0)] [] rfl ⟨rfl, trivial⟩ hS trivial ?_
  unfold pk_good_1_m at hm
  refine GL.seq ?_
  refine GL.region ?_
  refine RL.asg rfl rfl rfl ?_
  refine RL.finG ?_
  refine GL.seq ?_
  refine GL.region ?_
  refine RL.mv rfl rfl rfl ?_
  refine RL.binI (v := .bool (x0 != (0 : Int))) rfl rfl rfl rfl rfl ?_
  refine RL.asg rfl rfl rfl ?_
  refine RL.finG ?_
  have hm := Option.some.inj hm
  subst hm
  exact GL.ret (Gx.ret (v := .bool (x0 != (0 : Int))) (res1 rfl rfl) (fun a w st => st.toPostC rfl))

set_option maxHeartbeats 4000000 in
theorem pk_good_c (S : Hp) (w : World) (hS : S.sub w) (v0 : Value) (x0 : (List Int)) (k0 : ((TR.sl TR.int)).vrep S v0 x0) (res : Bool) (hm : pk_good_m x0 = some res) : Calls Try.prog 18 #[v0] w (PostV w (.bool res)) := by
  refine calls_enter 6 Try.func18 Try.ntmps18 rfl S false [(0, v0)] [imm (TR.sl TR.int) v0 x0] rfl ⟨rfl, trivial⟩ hS ⟨k0, trivial⟩ ?_
  unfold pk_good_m at hm
  refine GL.seq ?_
  refine GL.region ?_
  refine RL.asg rfl rfl rfl ?_
  refine RL.finG ?_
  refine GL.seq ?_
  refine GL.region ?_
  refine RL.mv rfl rfl rfl ?_
  obtain ⟨y4, e5, hm⟩ := bind_some hm
  refine RL.callV (v := .bool y4) (vs := [v0, .func (.func 38) #[] #[]]) Try_fit37 rfl (Or.inl rfl) rfl rfl rfl rfl (fun U w hU hW hL => slices_ContainsFunc_api_Errno_api_Errno_c U w hU _ _ (hL 0 _ _ rfl Seen.imm) 38 #[] Try_fit38 (fun a0 => pk_good_1_m a0) (fun U' w' hle hU' a0 rr hr => (pk_good_1_c U' w' hU' a0 rr hr).mono (fun _ _ z => z.toV)) _ e5) ?_
  refine RL.notB rfl rfl rfl ?_
  refine RL.asg rfl rfl rfl ?_
  refine RL.finG ?_
  have hm := Option.some.inj hm
  subst hm
  exact GL.ret (Gx.ret (v := .bool (!y4)) (res1 rfl rfl) (fun a w st => st.toPostV))

set_option maxHeartbeats 4000000 in
theorem worth_Row_c (S : Hp) (w : World) (hS : S.sub w) (x0 : Int) (v1 : Value) (x1 : (List Int)) (k1 : ((TR.sl TR.int)).vrep S v1 x1) (v2 : Value) (x2 : (List Int)) (k2 : ((TR.sl TR.int)).vrep S v2 x2) (res : (List Int) × Int) (hm : worth_Row_m x0 x1 x2 = some res) : Calls Try.prog 30 #[.int .i64 x0, v1, v2] w (Post w S (fun (o : Value) => .tuple #[o, .int .i64 res.2]) (fun (o : Value) => [own 3 TR.int o res.1])) := by
  refine calls_enter 66 Try.func30 Try.ntmps30 rfl S false [(0, .int .i64 x0), (1, v1), (2, v2)] [imm (TR.sl TR.int) v1 x1, imm (TR.sl TR.int) v2 x2] rfl ⟨rfl, ⟨rfl, ⟨rfl, trivial⟩⟩⟩ hS ⟨k1, ⟨k2, trivial⟩⟩ ?_
  unfold worth_Row_m at hm
  refine GL.seq ?_
  refine GL.region ?_
  refine RL.asg rfl rfl rfl ?_
  refine RL.asg rfl rfl rfl ?_
  refine RL.finG ?_
  refine GL.seq ?_
  refine GL.seq ?_
  refine GL.region ?_
  refine RL.mv rfl rfl rfl ?_
  refine RL.mv rfl rfl rfl ?_
  obtain ⟨y6, e7, hm⟩ := bind_some hm
  refine RL.callC (v := .int .i64 y6) (vs := [.int .i64 x0, v1]) Try_fit34 rfl rfl rfl rfl (fun U w hU hW hL => worth_Check_c U w hU x0 _ _ (hL 0 _ _ rfl Seen.imm) _ e7) ?_
  refine RL.asg rfl rfl rfl ?_
  refine RL.finG ?_
  refine GL.seq ?_
  refine GL.region ?_
  refine RL.mv rfl rfl rfl ?_
  refine RL.binI (v := .bool (y6 != (0 : Int))) rfl rfl rfl rfl rfl ?_
  refine RL.finG ?_
  refine GL.cond rfl (fun b8 => ?_) (fun b8 => ?_)
  · replace hm := ite_t b8 hm
    refine GL.seq ?_
    refine GL.region ?_
    refine RL.mv rfl rfl rfl ?_
    refine RL.asg rfl rfl rfl ?_
    refine RL.asg rfl rfl rfl ?_
    refine RL.finG ?_
    refine GL.weak (fun a w st => st.nilOwn 3 TR.int) ?_
    have hm := Option.some.inj hm
    subst hm
    exact GL.ret (Gx.ret (v := .tuple #[Value.slice none 0 0, .int .i64 y6]) (res2 rfl rfl rfl) (fun a w st => (st.pick [2] (by decide) rfl).toPost (Value.slice none 0 0)))
  · replace hm := ite_f b8 hm
    refine GL.skip ?_
    refine GL.seq ?_
    refine GL.seq ?_
    refine GL.region ?_
    refine RL.mv rfl rfl rfl ?_
    refine RL.lenS 1 Try.underlying22 rfl rfl rfl rfl SlOf.imm ?_
    refine RL.mv rfl rfl rfl ?_
    refine RL.binI (v := .bool (((x2).length : Int) != x0)) rfl rfl rfl rfl rfl ?_
    refine RL.finG ?_
    refine GL.cond rfl (fun b9 => ?_) (fun b9 => ?_)
    · replace hm := ite_t b9 hm
      refine GL.seq ?_
      refine GL.region ?_
      refine RL.asg rfl rfl rfl ?_
      refine RL.asg rfl rfl rfl ?_
      refine RL.finG ?_
      refine GL.weak (fun a w st => st.nilOwn 3 TR.int) ?_
      have hm := Option.some.inj hm
      subst hm
      exact GL.ret (Gx.ret (v := .tuple #[Value.slice none 0 0, .int .i64 (3 : Int)]) (res2 rfl rfl rfl) (fun a w st => (st.pick [2] (by decide) rfl).toPost (Value.slice none 0 0)))
    · replace hm := ite_f b9 hm
      refine GL.skip ?_
      refine GL.seq ?_
      refine GL.region ?_
      refine RL.mv rfl rfl rfl ?_
      obtain ⟨y13, e14, hm⟩ := bind_some hm
      replace e14 := chk_some e14
      refine RL.mkS (t := TR.int) (z := (0 : Int)) Try.underlying22 Try_lo3 (fun S => rfl) rfl rfl rfl rfl e14.1 e14.2 ?_
      intro v15
      refine RL.asg rfl rfl rfl ?_
      refine RL.finG ?_
      refine GL.seq ?_
      refine GL.region ?_
      refine RL.asg rfl rfl rfl ?_
      refine RL.finG ?_
      refine GL.seq ?_
      refine GL.seq ?_
      refine GL.region ?_
      refine RL.mv rfl rfl rfl ?_
      refine RL.lenS 1 Try.underlying22 rfl rfl rfl rfl SlOf.imm ?_
      refine RL.mv rfl rfl rfl ?_
      refine RL.finG ?_
      refine GL.open_ 1 rfl (fun S h => len_imm S h) (fun n114 => ?_)
      obtain ⟨y115, K116, h117, h118, h119, h120, h121⟩ := bindR_K hm
      refine GL.join (ι := (List Int) × Int × Value) (fun (p : (List Int) × Int × Value) => [(9, p.2.2)]) (fun (p : (List Int) × Int × Value) => [own 3 TR.int p.2.2 p.1]) (fun (p : (List Int) × Int × Value) => K116 (.nx (p.1, p.2.1))) ?_ ?_
      · refine GL.block ?_
        refine GL.loop (ι := Nat × (List Int) × (List Int) × Int × Value) (fun (p : Nat × (List Int) × (List Int) × Int × Value) => [(0, .int .i64 x0), (1, v1), (9, p.2.2.2.2), (10, .int .i64 p.2.2.2.1), (25, v2), (26, .int .i64 ((x2).length : Int)), (27, .int .i64 (p.1 : Int))]) (fun (p : Nat × (List Int) × (List Int) × Int × Value) => [imm (TR.sl TR.int) v1 x1, own 3 TR.int p.2.2.2.2 p.2.2.1, imm (TR.sl TR.int) v2 x2]) (fun (p : Nat × (List Int) × (List Int) × Int × Value) => p.1 + p.2.1.length = (x2).length ∧ List.drop p.1 x2 = p.2.1 ∧ rangeL (worth_Row_b1 x0 x1) p.2.1 p.1 (p.2.2.1, p.2.2.2.1) = some y115) (fun (p : Nat × (List Int) × (List Int) × Int × Value) => p.2.1.length) (0, x2, (List.replicate (x0).toNat (0 : Int)), (0 : Int), v15) ⟨by simp, by simp, h117⟩ (fun a w st => St.cut [0, 2, 1] ⟨rfl, rfl, rfl, rfl, rfl, rfl, rfl, trivial⟩ (by decide) rfl st) ?_
        rintro ⟨i122, r123, l64, x66, v65⟩ ⟨h128, h129, h127⟩
        try dsimp only at h128 h129 h127
        refine GL.weak (env' := [(0, .int .i64 x0), (1, v1), (9, v65), (10, .int .i64 x66), (25, v2), (26, .int .i64 ((x2).length : Int)), (27, .int .i64 (i122 : Int))]) (L' := [imm (TR.sl TR.int) v1 x1, own 3 TR.int v65 l64, imm (TR.sl TR.int) v2 x2]) (fun _ _ st => st) ?_
        refine GL.seq ?_
        refine GL.region ?_
        refine RL.binI (v := .bool (decide ((i122 : Int) < ((x2).length : Int)))) rfl rfl rfl rfl rfl ?_
        refine RL.finG ?_
        refine GL.seq ?_
        refine GL.cond rfl (fun b130 => ?_) (fun b130 => ?_)
        · have h131 : i122 < (x2).length := by have := of_decide_eq_true b130; omega
          obtain ⟨y132, r134, hr, e133, h135⟩ := drop_cons h129 rfl h131
          subst hr
          obtain ⟨z124, h125, h126⟩ := rangeL_some h127
          unfold worth_Row_b1 at h125
          try dsimp only at h125
          refine GL.skip ?_
          refine GL.seq ?_
          refine GL.block ?_
          refine GL.seq ?_
          refine GL.region ?_
          refine RL.idxS (sz := 1) 2 Try.underlying22 Try_ln3 rfl rfl rfl rfl rfl SlOf.imm (by omega) (by omega) ?_
          refine RL.ldSx (i := i122) (e' := y132) 2 Ex.ik Try_ln3 rfl rfl rfl rfl SlOf.imm e133 Part.self ?_
          refine RL.asg rfl rfl rfl ?_
          refine RL.finG ?_
          refine GL.seq ?_
          refine GL.seq ?_
          obtain ⟨y145, K146, h147, h148, h149, h150, h151⟩ := bindF_K h125
          refine GL.join (ι := Bool) (fun (p : Bool) => [(0, .int .i64 x0), (1, v1), (9, v65), (10, .int .i64 x66), (12, .int .i64 y132), (25, v2), (26, .int .i64 ((x2).length : Int)), (27, .int .i64 (i122 : Int)), (44, .bool p)]) (fun (p : Bool) => [imm (TR.sl TR.int) v1 x1, own 3 TR.int v65 l64, imm (TR.sl TR.int) v2 x2]) (fun (p : Bool) => K146 (.nx p)) ?_ ?_
          · skip
            refine GL.region ?_
            refine RL.mv rfl rfl rfl ?_
            refine RL.binI (v := .bool (decide (y132 < (0 : Int)))) rfl rfl rfl rfl rfl ?_
            refine RL.mv rfl rfl rfl ?_
            refine RL.split (t := 33) rfl (fun b152 => ?_) (fun b152 => ?_)
            · replace h147 := ite_t b152 h147
              refine RL.skip rfl rfl ?_
              refine RL.skip rfl rfl ?_
              refine RL.skip rfl rfl ?_
              refine RL.pickT rfl rfl rfl rfl ?_
              refine RL.mv rfl rfl rfl ?_
              refine RL.skip rfl rfl ?_
              refine RL.skip rfl rfl ?_
              refine RL.skip rfl rfl ?_
              refine RL.skip rfl rfl ?_
              refine RL.skip rfl rfl ?_
              refine RL.pickT rfl rfl rfl rfl ?_
              refine RL.fin ?_
              cases h147
              exact fun a w st => mid_intro true h148 (St.cut [0, 1, 2] ⟨rfl, rfl, rfl, rfl, rfl, rfl, rfl, rfl, rfl, trivial⟩ (by decide) rfl st)
            · replace h147 := ite_f b152 h147
              refine RL.mv rfl rfl rfl ?_
              refine RL.mv rfl rfl rfl ?_
              refine RL.binI (v := .bool (decide (y132 ≥ x0))) rfl rfl rfl rfl rfl ?_
              refine RL.pickF rfl rfl rfl rfl ?_
              refine RL.mv rfl rfl rfl ?_
              refine RL.split (t := 38) rfl (fun b153 => ?_) (fun b153 => ?_)
              · replace h147 := ite_t b153 h147
                refine RL.skip rfl rfl ?_
                refine RL.skip rfl rfl ?_
                refine RL.skip rfl rfl ?_
                refine RL.skip rfl rfl ?_
                refine RL.skip rfl rfl ?_
                refine RL.pickT rfl rfl rfl rfl ?_
                refine RL.fin ?_
                cases h147
                exact fun a w st => mid_intro true h148 (St.cut [0, 1, 2] ⟨rfl, rfl, rfl, rfl, rfl, rfl, rfl, rfl, rfl, trivial⟩ (by decide) rfl st)
              · replace h147 := ite_f b153 h147
                refine RL.mv rfl rfl rfl ?_
                refine RL.mv rfl rfl rfl ?_
                obtain ⟨y154, e155, h147⟩ := bind_some h147
                replace e155 := chk_some e155
                refine RL.sh (by simp) rfl rfl rfl rfl e155 ?_
                refine RL.binI (v := .int .i64 (bits .and .i64 (Int.fdiv x66 (2 ^ (min y132.toNat (IntKind.bits .i64)))) (1 : Int))) rfl rfl rfl rfl rfl ?_
                refine RL.binI (v := .bool ((bits .and .i64 (Int.fdiv x66 (2 ^ (min y132.toNat (IntKind.bits .i64)))) (1 : Int)) == (1 : Int))) rfl rfl rfl rfl rfl ?_
                refine RL.pickF rfl rfl rfl rfl ?_
                refine RL.fin ?_
                cases h147
                exact fun a w st => mid_intro ((bits .and .i64 (Int.fdiv x66 (2 ^ (min y132.toNat (IntKind.bits .i64)))) (1 : Int)) == (1 : Int)) h148 (St.cut [0, 1, 2] ⟨rfl, rfl, rfl, rfl, rfl, rfl, rfl, rfl, rfl, trivial⟩ (by decide) rfl st)
          · rintro x144 h156
            have h157 := h149 _ h156
            try dsimp only at h157
            refine GL.weak (env' := [(0, .int .i64 x0), (1, v1), (9, v65), (10, .int .i64 x66), (12, .int .i64 y132), (25, v2), (26, .int .i64 ((x2).length : Int)), (27, .int .i64 (i122 : Int)), (44, .bool x144)]) (L' := [imm (TR.sl TR.int) v1 x1, own 3 TR.int v65 l64, imm (TR.sl TR.int) v2 x2]) (fun _ _ st => st) ?_
            refine GL.cond rfl (fun b158 => ?_) (fun b158 => ?_)
            · replace h157 := ite_t b158 h157
              refine GL.seq ?_
              refine GL.region ?_
              refine RL.asg rfl rfl rfl ?_
              refine RL.asg rfl rfl rfl ?_
              refine RL.finG ?_
              refine GL.weak (fun a w st => st.nilOwn 3 TR.int) ?_
              cases h157
              replace h126 : some (Fl.rt _) = some y115 := h126
              cases h126
              have hh := h120 _ h118
              subst hh
              exact GL.ret (Gx.ret (v := .tuple #[Value.slice none 0 0, .int .i64 (3 : Int)]) (res2 rfl rfl rfl) (fun a w st => (st.pick [3] (by decide) rfl).toPost (Value.slice none 0 0)))
            · replace h157 := ite_f b158 h157
              refine GL.skip ?_
              refine GL.seq ?_
              refine GL.regionH 15 rfl rfl (by kernel_rfl) ?_
              simp only [List.take_succ_cons, List.take_zero, List.drop_succ_cons, List.drop_zero]
              refine RL.mv rfl rfl rfl ?_
              refine RL.mv rfl rfl rfl ?_
              refine RL.mv rfl rfl rfl ?_
              refine RL.mv rfl rfl rfl ?_
              refine RL.mv rfl rfl rfl ?_
              obtain ⟨y167, e168, h157⟩ := bind_some h157
              replace e168 := chk_some e168
              refine RL.sh (by simp) rfl rfl rfl rfl e168 ?_
              refine RL.binI (v := .int .i64 (bits .or .i64 x66 (IntKind.wrap .i64 ((1 : Int) * 2 ^ (min y132.toNat (IntKind.bits .i64)))))) rfl rfl rfl rfl rfl ?_
              obtain ⟨y169, e170, h157⟩ := bind_some h157
              refine RL.idxS (sz := 1) 0 Try.underlying22 Try_ln3 rfl rfl rfl rfl rfl SlOf.imm (idx_some e170).1 (idx_some e170).2.1 ?_
              refine RL.ldSx (i := (bits .or .i64 x66 (IntKind.wrap .i64 ((1 : Int) * 2 ^ (min y132.toNat (IntKind.bits .i64))))).toNat) (e' := y169) 0 Ex.ik Try_ln3 rfl rfl rfl rfl SlOf.imm (idx_some e170).2.2 Part.self ?_
              refine RL.mv rfl rfl rfl ?_
              refine RL.mv rfl rfl rfl ?_
              obtain ⟨y171, e172, h157⟩ := bind_some h157
              refine RL.idxS (sz := 1) 0 Try.underlying22 Try_ln3 rfl rfl rfl rfl rfl SlOf.imm (idx_some e172).1 (idx_some e172).2.1 ?_
              refine RL.ldSx (i := (x66).toNat) (e' := y171) 0 Ex.ik Try_ln3 rfl rfl rfl rfl SlOf.imm (idx_some e172).2.2 Part.self ?_
              refine RL.binI (v := .int .i64 (wsub y169 y171)) rfl rfl rfl rfl rfl ?_
              obtain ⟨y173, e174, h157⟩ := bind_some h157
              refine RL.idxS (sz := 1) 1 Try.underlying22 Try_ln3 rfl rfl rfl rfl rfl SlOf.own (idx_some e174).1 (idx_some e174).2.1 ?_
              refine RL.finH ?_
              refine RL.stS (i := (y132).toNat) (e' := wsub y169 y171) (e1 := wsub y169 y171) (r := TR.int) 1 Try_ln3 rfl rfl rfl rfl VR.int rfl (idx_some e174).2.2 Upd.self ?_
              refine RL.finG ?_
              refine GL.region ?_
              refine RL.mv rfl rfl rfl ?_
              refine RL.mv rfl rfl rfl ?_
              obtain ⟨y177, e178, h157⟩ := bind_some h157
              replace e178 := chk_some e178
              refine RL.sh (by simp) rfl rfl rfl rfl e178 ?_
              refine RL.binI (v := .int .i64 (bits .or .i64 x66 (IntKind.wrap .i64 ((1 : Int) * 2 ^ (min y132.toNat (IntKind.bits .i64)))))) rfl rfl rfl rfl rfl ?_
              refine RL.asg rfl rfl rfl ?_
              refine RL.finG ?_
              refine GL.nilB ?_
              refine GL.region ?_
              refine RL.binI (v := .int .i64 ((i122 + 1 : Nat) : Int)) rfl rfl rfl rfl (binI_succ i122 (by omega)) ?_
              refine RL.mv rfl rfl rfl ?_
              refine RL.fin ?_
              cases h157
              exact fun a w st => lop_intro (i122 + 1, r134, (List.set l64 ((y132).toNat) (wsub y169 y171)), bits .or .i64 x66 (IntKind.wrap .i64 ((1 : Int) * 2 ^ (min y132.toNat (IntKind.bits .i64)))), v65) ⟨by show i122 + 1 + r134.length = (x2).length; simp only [List.length_cons] at h128; omega, h135, h126⟩ (by simp) (St.cut [0, 1, 2] ⟨rfl, rfl, rfl, rfl, rfl, rfl, rfl, trivial⟩ (by decide) rfl st)
        · have h131 : ¬ i122 < (x2).length := by have := of_decide_eq_false b130; omega
          obtain rfl : r123 = [] := by rw [← h129]; exact List.drop_of_length_le (by omega)
          replace h127 : some (Fl.nx _) = some y115 := h127
          cases h127
          exact GL.exit (fun a w st => mid_intro (l64, x66, v65) h118 (St.cut [1] ⟨rfl, trivial⟩ (by decide) rfl st))
      · rintro ⟨l64, x66, v65⟩ h179
        have h180 := h119 _ h179
        try dsimp only at h180
        refine GL.weak (env' := [(9, v65)]) (L' := [own 3 TR.int v65 l64]) (fun _ _ st => st) ?_
        refine GL.seq ?_
        refine GL.region ?_
        refine RL.mv rfl rfl rfl ?_
        refine RL.asg rfl rfl rfl ?_
        refine RL.asg rfl rfl rfl ?_
        refine RL.finG ?_
        have h180 := Option.some.inj h180
        subst h180
        exact GL.ret (Gx.ret (v := .tuple #[v65, .int .i64 (0 : Int)]) (res2 rfl rfl rfl) (fun a w st => (st.pick [0] (by decide) rfl).toPost v65))

set_option maxHeartbeats 4000000 in
theorem worth_Holds_c (S : Hp) (w : World) (hS : S.sub w) (x0 : Int) (v1 : Value) (x1 : (List Int)) (k1 : ((TR.sl TR.int)).vrep S v1 x1) (v2 : Value) (x2 : (List Int)) (k2 : ((TR.sl TR.int)).vrep S v2 x2) (res : Bool × Int) (hm : worth_Holds_m x0 x1 x2 = some res) : Calls Try.prog 27 #[.int .i64 x0, v1, v2] w (PostC w (.tuple #[.bool res.1, .int .i64 res.2])) := by
  refine calls_enter 81 Try.func27 Try.ntmps27 rfl S true [(0, .int .i64 x0), (1, v1), (2, v2)] [imm (TR.sl TR.int) v1 x1, imm (TR.sl TR.int) v2 x2] rfl ⟨rfl, ⟨rfl, ⟨rfl, trivial⟩⟩⟩ hS ⟨k1, ⟨k2, trivial⟩⟩ ?_
  unfold worth_Holds_m at hm
  refine GL.seq ?_
  refine GL.region ?_
  refine RL.asg rfl rfl rfl ?_
  refine RL.asg rfl rfl rfl ?_
  refine RL.finG ?_
  refine GL.seq ?_
  refine GL.seq ?_
  refine GL.region ?_
  refine RL.mv rfl rfl rfl ?_
  refine RL.mv rfl rfl rfl ?_
  obtain ⟨y6, e7, hm⟩ := bind_some hm
  refine RL.callC (v := .int .i64 y6) (vs := [.int .i64 x0, v1]) Try_fit34 rfl rfl rfl rfl (fun U w hU hW hL => worth_Check_c U w hU x0 _ _ (hL 0 _ _ rfl Seen.imm) _ e7) ?_
  refine RL.asg rfl rfl rfl ?_
  refine RL.finG ?_
  refine GL.seq ?_
  refine GL.region ?_
  refine RL.mv rfl rfl rfl ?_
  refine RL.binI (v := .bool (y6 != (0 : Int))) rfl rfl rfl rfl rfl ?_
  refine RL.finG ?_
  refine GL.cond rfl (fun b8 => ?_) (fun b8 => ?_)
  · replace hm := ite_t b8 hm
    refine GL.seq ?_
    refine GL.region ?_
    refine RL.mv rfl rfl rfl ?_
    refine RL.asg rfl rfl rfl ?_
    refine RL.asg rfl rfl rfl ?_
    refine RL.finG ?_
    have hm := Option.some.inj hm
    subst hm
    exact GL.ret (Gx.ret (v := .tuple #[.bool false, .int .i64 y6]) (res2 rfl rfl rfl) (fun a w st => st.toPostC rfl))
  · replace hm := ite_f b8 hm
    refine GL.skip ?_
    refine GL.seq ?_
    refine GL.seq ?_
    refine GL.region ?_
    refine RL.mv rfl rfl rfl ?_
    refine RL.lenS 1 Try.underlying22 rfl rfl rfl rfl SlOf.imm ?_
    refine RL.mv rfl rfl rfl ?_
    refine RL.binI (v := .bool (((x2).length : Int) != x0)) rfl rfl rfl rfl rfl ?_
    refine RL.finG ?_
    refine GL.cond rfl (fun b9 => ?_) (fun b9 => ?_)
    · replace hm := ite_t b9 hm
      refine GL.seq ?_
      refine GL.region ?_
      refine RL.asg rfl rfl rfl ?_
      refine RL.asg rfl rfl rfl ?_
      refine RL.finG ?_
      have hm := Option.some.inj hm
      subst hm
      exact GL.ret (Gx.ret (v := .tuple #[.bool false, .int .i64 (3 : Int)]) (res2 rfl rfl rfl) (fun a w st => st.toPostC rfl))
    · replace hm := ite_f b9 hm
      refine GL.skip ?_
      refine GL.seq ?_
      refine GL.seq ?_
      refine GL.region ?_
      refine RL.mv rfl rfl rfl ?_
      refine RL.lenS 1 Try.underlying22 rfl rfl rfl rfl SlOf.imm ?_
      refine RL.mv rfl rfl rfl ?_
      refine RL.finG ?_
      refine GL.open_ 1 rfl (fun S h => len_imm S h) (fun n28 => ?_)
      obtain ⟨y29, K30, h31, h32, h33, h34, h35⟩ := bindR_K hm
      refine GL.join (ι := Unit) (fun (p : Unit) => [(1, v1), (2, v2)]) (fun (p : Unit) => [imm (TR.sl TR.int) v1 x1, imm (TR.sl TR.int) v2 x2]) (fun (p : Unit) => K30 (.nx ())) ?_ ?_
      · refine GL.block ?_
        refine GL.loop (ι := Nat × (List Int)) (fun (p : Nat × (List Int)) => [(1, v1), (2, v2), (25, v2), (26, .int .i64 ((x2).length : Int)), (27, .int .i64 (p.1 : Int))]) (fun (p : Nat × (List Int)) => [imm (TR.sl TR.int) v1 x1, imm (TR.sl TR.int) v2 x2]) (fun (p : Nat × (List Int)) => p.1 + p.2.length = (x2).length ∧ List.drop p.1 x2 = p.2 ∧ rangeL worth_Holds_b1 p.2 p.1 () = some y29) (fun (p : Nat × (List Int)) => p.2.length) (0, x2) ⟨by simp, by simp, h31⟩ (fun a w st => St.cut [0, 1] ⟨rfl, rfl, rfl, rfl, rfl, trivial⟩ (by decide) rfl st) ?_
        rintro ⟨i36, r37⟩ ⟨h42, h43, h41⟩
        try dsimp only at h42 h43 h41
        refine GL.weak (env' := [(1, v1), (2, v2), (25, v2), (26, .int .i64 ((x2).length : Int)), (27, .int .i64 (i36 : Int))]) (L' := [imm (TR.sl TR.int) v1 x1, imm (TR.sl TR.int) v2 x2]) (fun _ _ st => st) ?_
        refine GL.seq ?_
        refine GL.region ?_
        refine RL.binI (v := .bool (decide ((i36 : Int) < ((x2).length : Int)))) rfl rfl rfl rfl rfl ?_
        refine RL.finG ?_
        refine GL.seq ?_
        refine GL.cond rfl (fun b44 => ?_) (fun b44 => ?_)
        · have h45 : i36 < (x2).length := by have := of_decide_eq_true b44; omega
          obtain ⟨y46, r48, hr, e47, h49⟩ := drop_cons h43 rfl h45
          subst hr
          obtain ⟨z38, h39, h40⟩ := rangeL_some h41
          unfold worth_Holds_b1 at h39
          try dsimp only at h39
          refine GL.skip ?_
          refine GL.seq ?_
          refine GL.block ?_
          refine GL.seq ?_
          refine GL.region ?_
          refine RL.idxS (sz := 1) 1 Try.underlying22 Try_ln3 rfl rfl rfl rfl rfl SlOf.imm (by omega) (by omega) ?_
          refine RL.ldSx (i := i36) (e' := y46) 1 Ex.ik Try_ln3 rfl rfl rfl rfl SlOf.imm e47 Part.self ?_
          refine RL.asg rfl rfl rfl ?_
          refine RL.finG ?_
          refine GL.seq ?_
          obtain ⟨y53, K54, h55, h56, h57, h58, h59⟩ := bindF_K h39
          refine GL.join (ι := Bool) (fun (p : Bool) => [(1, v1), (2, v2), (25, v2), (26, .int .i64 ((x2).length : Int)), (27, .int .i64 (i36 : Int)), (36, .bool p)]) (fun (p : Bool) => [imm (TR.sl TR.int) v1 x1, imm (TR.sl TR.int) v2 x2]) (fun (p : Bool) => K54 (.nx p)) ?_ ?_
          · skip
            refine GL.region ?_
            refine RL.mv rfl rfl rfl ?_
            refine RL.binI (v := .bool (decide (y46 < (-1000000000 : Int)))) rfl rfl rfl rfl rfl ?_
            refine RL.mv rfl rfl rfl ?_
            refine RL.split (t := 33) rfl (fun b60 => ?_) (fun b60 => ?_)
            · replace h55 := ite_t b60 h55
              refine RL.skip rfl rfl ?_
              refine RL.skip rfl rfl ?_
              refine RL.pickT rfl rfl rfl rfl ?_
              refine RL.fin ?_
              cases h55
              exact fun a w st => mid_intro true h56 (St.cut [0, 1] ⟨rfl, rfl, rfl, rfl, rfl, rfl, trivial⟩ (by decide) rfl st)
            · replace h55 := ite_f b60 h55
              refine RL.mv rfl rfl rfl ?_
              refine RL.binI (v := .bool (decide (y46 > (1000000000 : Int)))) rfl rfl rfl rfl rfl ?_
              refine RL.pickF rfl rfl rfl rfl ?_
              refine RL.fin ?_
              cases h55
              exact fun a w st => mid_intro (decide (y46 > (1000000000 : Int))) h56 (St.cut [0, 1] ⟨rfl, rfl, rfl, rfl, rfl, rfl, trivial⟩ (by decide) rfl st)
          · rintro x52 h61
            have h62 := h57 _ h61
            try dsimp only at h62
            refine GL.weak (env' := [(1, v1), (2, v2), (25, v2), (26, .int .i64 ((x2).length : Int)), (27, .int .i64 (i36 : Int)), (36, .bool x52)]) (L' := [imm (TR.sl TR.int) v1 x1, imm (TR.sl TR.int) v2 x2]) (fun _ _ st => st) ?_
            refine GL.cond rfl (fun b63 => ?_) (fun b63 => ?_)
            · replace h62 := ite_t b63 h62
              refine GL.seq ?_
              refine GL.region ?_
              refine RL.asg rfl rfl rfl ?_
              refine RL.asg rfl rfl rfl ?_
              refine RL.finG ?_
              cases h62
              replace h40 : some (Fl.rt _) = some y29 := h40
              cases h40
              have hh := h34 _ h32
              subst hh
              exact GL.ret (Gx.ret (v := .tuple #[.bool false, .int .i64 (1 : Int)]) (res2 rfl rfl rfl) (fun a w st => st.toPostC rfl))
            · replace h62 := ite_f b63 h62
              refine GL.skip ?_
              refine GL.nilB ?_
              refine GL.region ?_
              refine RL.binI (v := .int .i64 ((i36 + 1 : Nat) : Int)) rfl rfl rfl rfl (binI_succ i36 (by omega)) ?_
              refine RL.mv rfl rfl rfl ?_
              refine RL.fin ?_
              cases h62
              exact fun a w st => lop_intro (i36 + 1, r48) ⟨by show i36 + 1 + r48.length = (x2).length; simp only [List.length_cons] at h42; omega, h49, h40⟩ (by simp) (St.cut [0, 1] ⟨rfl, rfl, rfl, rfl, rfl, trivial⟩ (by decide) rfl st)
        · have h45 : ¬ i36 < (x2).length := by have := of_decide_eq_false b44; omega
          obtain rfl : r37 = [] := by rw [← h43]; exact List.drop_of_length_le (by omega)
          replace h41 : some (Fl.nx _) = some y29 := h41
          cases h41
          exact GL.exit (fun a w st => mid_intro () h32 (St.cut [0, 1] ⟨rfl, rfl, trivial⟩ (by decide) rfl st))
      · rintro ⟨⟩ h64
        have h65 := h33 _ h64
        try dsimp only at h65
        refine GL.weak (env' := [(1, v1), (2, v2)]) (L' := [imm (TR.sl TR.int) v1 x1, imm (TR.sl TR.int) v2 x2]) (fun _ _ st => st) ?_
        refine GL.seq ?_
        refine GL.seq ?_
        refine GL.region ?_
        refine RL.mv rfl rfl rfl ?_
        refine RL.lenS 0 Try.underlying22 rfl rfl rfl rfl SlOf.imm ?_
        refine RL.mv rfl rfl rfl ?_
        refine RL.finG ?_
        refine GL.open_ 0 rfl (fun S h => len_imm S h) (fun n134 => ?_)
        obtain ⟨y135, K136, h137, h138, h139, h140, h141⟩ := bindR_K h65
        refine GL.join (ι := Unit) (fun (p : Unit) => []) (fun (p : Unit) => []) (fun (p : Unit) => K136 (.nx ())) ?_ ?_
        · refine GL.block ?_
          refine GL.loop (ι := Nat × (List Int)) (fun (p : Nat × (List Int)) => [(1, v1), (2, v2), (39, .int .i64 ((x1).length : Int)), (40, .int .i64 (p.1 : Int))]) (fun (p : Nat × (List Int)) => [imm (TR.sl TR.int) v1 x1, imm (TR.sl TR.int) v2 x2]) (fun (p : Nat × (List Int)) => p.1 + p.2.length = (x1).length ∧ List.drop p.1 x1 = p.2 ∧ rangeL (worth_Holds_b2 x2 x1) p.2 p.1 () = some y135) (fun (p : Nat × (List Int)) => p.2.length) (0, x1) ⟨by simp, by simp, h137⟩ (fun a w st => St.cut [0, 1] ⟨rfl, rfl, rfl, rfl, trivial⟩ (by decide) rfl st) ?_
          rintro ⟨i142, r143⟩ ⟨h148, h149, h147⟩
          try dsimp only at h148 h149 h147
          refine GL.weak (env' := [(1, v1), (2, v2), (39, .int .i64 ((x1).length : Int)), (40, .int .i64 (i142 : Int))]) (L' := [imm (TR.sl TR.int) v1 x1, imm (TR.sl TR.int) v2 x2]) (fun _ _ st => st) ?_
          refine GL.seq ?_
          refine GL.region ?_
          refine RL.binI (v := .bool (decide ((i142 : Int) < ((x1).length : Int)))) rfl rfl rfl rfl rfl ?_
          refine RL.finG ?_
          refine GL.seq ?_
          refine GL.cond rfl (fun b150 => ?_) (fun b150 => ?_)
          · have h151 : i142 < (x1).length := by have := of_decide_eq_true b150; omega
            obtain ⟨y152, r154, hr, e153, h155⟩ := drop_cons h149 rfl h151
            subst hr
            obtain ⟨z144, h145, h146⟩ := rangeL_some h147
            unfold worth_Holds_b2 at h145
            try dsimp only at h145
            refine GL.skip ?_
            refine GL.seq ?_
            refine GL.block ?_
            refine GL.seq ?_
            refine GL.region ?_
            refine RL.mv rfl rfl rfl ?_
            refine RL.asg rfl rfl rfl ?_
            refine RL.finG ?_
            refine GL.seq ?_
            refine GL.region ?_
            refine RL.asg rfl rfl rfl ?_
            refine RL.finG ?_
            refine GL.seq ?_
            refine GL.seq ?_
            refine GL.region ?_
            refine RL.mv rfl rfl rfl ?_
            refine RL.lenS 1 Try.underlying22 rfl rfl rfl rfl SlOf.imm ?_
            refine RL.mv rfl rfl rfl ?_
            refine RL.finG ?_
            refine GL.open_ 1 rfl (fun S h => len_imm S h) (fun n166 => ?_)
            obtain ⟨y167, K168, h169, h170, h171, h172, h173⟩ := bindF_K h145
            refine GL.join (ι := Int) (fun (p : Int) => [(1, v1), (2, v2), (11, .int .i64 (i142 : Int)), (12, .int .i64 p), (39, .int .i64 ((x1).length : Int)), (40, .int .i64 (i142 : Int))]) (fun (p : Int) => [imm (TR.sl TR.int) v1 x1, imm (TR.sl TR.int) v2 x2]) (fun (p : Int) => K168 (.nx p)) ?_ ?_
            · refine GL.block ?_
              refine GL.loop (ι := Nat × (List Int) × Int) (fun (p : Nat × (List Int) × Int) => [(1, v1), (2, v2), (11, .int .i64 (i142 : Int)), (12, .int .i64 p.2.2), (39, .int .i64 ((x1).length : Int)), (40, .int .i64 (i142 : Int)), (43, v2), (44, .int .i64 ((x2).length : Int)), (45, .int .i64 (p.1 : Int))]) (fun (p : Nat × (List Int) × Int) => [imm (TR.sl TR.int) v1 x1, imm (TR.sl TR.int) v2 x2]) (fun (p : Nat × (List Int) × Int) => p.1 + p.2.1.length = (x2).length ∧ List.drop p.1 x2 = p.2.1 ∧ rangeL (worth_Holds_b3 i142) p.2.1 p.1 p.2.2 = some y167) (fun (p : Nat × (List Int) × Int) => p.2.1.length) (0, x2, (0 : Int)) ⟨by simp, by simp, h169⟩ (fun a w st => St.cut [0, 1] ⟨rfl, rfl, rfl, rfl, rfl, rfl, rfl, rfl, rfl, trivial⟩ (by decide) rfl st) ?_
              rintro ⟨i174, r175, x156⟩ ⟨h180, h181, h179⟩
              try dsimp only at h180 h181 h179
              refine GL.weak (env' := [(1, v1), (2, v2), (11, .int .i64 (i142 : Int)), (12, .int .i64 x156), (39, .int .i64 ((x1).length : Int)), (40, .int .i64 (i142 : Int)), (43, v2), (44, .int .i64 ((x2).length : Int)), (45, .int .i64 (i174 : Int))]) (L' := [imm (TR.sl TR.int) v1 x1, imm (TR.sl TR.int) v2 x2]) (fun _ _ st => st) ?_
              refine GL.seq ?_
              refine GL.region ?_
              refine RL.binI (v := .bool (decide ((i174 : Int) < ((x2).length : Int)))) rfl rfl rfl rfl rfl ?_
              refine RL.finG ?_
              refine GL.seq ?_
              refine GL.cond rfl (fun b182 => ?_) (fun b182 => ?_)
              · have h183 : i174 < (x2).length := by have := of_decide_eq_true b182; omega
                obtain ⟨y184, r186, hr, e185, h187⟩ := drop_cons h181 rfl h183
                subst hr
                obtain ⟨z176, h177, h178⟩ := rangeL_some h179
                unfold worth_Holds_b3 at h177
                try dsimp only at h177
                refine GL.skip ?_
                refine GL.seq ?_
                refine GL.block ?_
                refine GL.seq ?_
                refine GL.region ?_
                refine RL.mv rfl rfl rfl ?_
                refine RL.idxS (sz := 1) 1 Try.underlying22 Try_ln3 rfl rfl rfl rfl rfl SlOf.imm (by omega) (by omega) ?_
                refine RL.ldSx (i := i174) (e' := y184) 1 Ex.ik Try_ln3 rfl rfl rfl rfl SlOf.imm e185 Part.self ?_
                refine RL.asg rfl rfl rfl ?_
                refine RL.asg rfl rfl rfl ?_
                refine RL.finG ?_
                refine GL.seq ?_
                refine GL.region ?_
                refine RL.mv rfl rfl rfl ?_
                refine RL.mv rfl rfl rfl ?_
                obtain ⟨y190, e191, h177⟩ := bind_some h177
                replace e191 := chk_some e191
                refine RL.sh (by simp) rfl rfl rfl rfl e191 ?_
                refine RL.binI (v := .int .i64 (bits .and .i64 (Int.fdiv (i142 : Int) (2 ^ (min (i174 : Int).toNat (IntKind.bits .i64)))) (1 : Int))) rfl rfl rfl rfl rfl ?_
                refine RL.binI (v := .bool ((bits .and .i64 (Int.fdiv (i142 : Int) (2 ^ (min (i174 : Int).toNat (IntKind.bits .i64)))) (1 : Int)) == (1 : Int))) rfl rfl rfl rfl rfl ?_
                refine RL.finG ?_
                refine GL.cond rfl (fun b192 => ?_) (fun b192 => ?_)
                · replace h177 := ite_t b192 h177
                  refine GL.region ?_
                  refine RL.mv rfl rfl rfl ?_
                  refine RL.mv rfl rfl rfl ?_
                  refine RL.binI (v := .int .i64 (wadd x156 y184)) rfl rfl rfl rfl rfl ?_
                  refine RL.asg rfl rfl rfl ?_
                  refine RL.finG ?_
                  refine GL.nilB ?_
                  refine GL.region ?_
                  refine RL.binI (v := .int .i64 ((i174 + 1 : Nat) : Int)) rfl rfl rfl rfl (binI_succ i174 (by omega)) ?_
                  refine RL.mv rfl rfl rfl ?_
                  refine RL.fin ?_
                  cases h177
                  exact fun a w st => lop_intro (i174 + 1, r186, wadd x156 y184) ⟨by show i174 + 1 + r186.length = (x2).length; simp only [List.length_cons] at h180; omega, h187, h178⟩ (by simp) (St.cut [0, 1] ⟨rfl, rfl, rfl, rfl, rfl, rfl, rfl, rfl, rfl, trivial⟩ (by decide) rfl st)
                · replace h177 := ite_f b192 h177
                  refine GL.skip ?_
                  refine GL.nilB ?_
                  refine GL.region ?_
                  refine RL.binI (v := .int .i64 ((i174 + 1 : Nat) : Int)) rfl rfl rfl rfl (binI_succ i174 (by omega)) ?_
                  refine RL.mv rfl rfl rfl ?_
                  refine RL.fin ?_
                  cases h177
                  exact fun a w st => lop_intro (i174 + 1, r186, x156) ⟨by show i174 + 1 + r186.length = (x2).length; simp only [List.length_cons] at h180; omega, h187, h178⟩ (by simp) (St.cut [0, 1] ⟨rfl, rfl, rfl, rfl, rfl, rfl, rfl, rfl, rfl, trivial⟩ (by decide) rfl st)
              · have h183 : ¬ i174 < (x2).length := by have := of_decide_eq_false b182; omega
                obtain rfl : r175 = [] := by rw [← h181]; exact List.drop_of_length_le (by omega)
                replace h179 : some (Fl.nx _) = some y167 := h179
                cases h179
                exact GL.exit (fun a w st => mid_intro x156 h170 (St.cut [0, 1] ⟨rfl, rfl, rfl, rfl, rfl, rfl, trivial⟩ (by decide) rfl st))
            · rintro x156 h193
              have h194 := h171 _ h193
              try dsimp only at h194
              refine GL.weak (env' := [(1, v1), (2, v2), (11, .int .i64 (i142 : Int)), (12, .int .i64 x156), (39, .int .i64 ((x1).length : Int)), (40, .int .i64 (i142 : Int))]) (L' := [imm (TR.sl TR.int) v1 x1, imm (TR.sl TR.int) v2 x2]) (fun _ _ st => st) ?_
              refine GL.seq ?_
              obtain ⟨y200, K201, h202, h203, h204, h205, h206⟩ := bindF_K h194
              refine GL.join (ι := Bool) (fun (p : Bool) => [(1, v1), (2, v2), (39, .int .i64 ((x1).length : Int)), (40, .int .i64 (i142 : Int)), (79, .bool p)]) (fun (p : Bool) => [imm (TR.sl TR.int) v1 x1, imm (TR.sl TR.int) v2 x2]) (fun (p : Bool) => K201 (.nx p)) ?_ ?_
              · skip
                refine GL.region ?_
                refine RL.mv rfl rfl rfl ?_
                refine RL.mv rfl rfl rfl ?_
                refine RL.mv rfl rfl rfl ?_
                refine RL.idxS (sz := 1) 0 Try.underlying22 Try_ln3 rfl rfl rfl rfl rfl SlOf.imm (by omega) (by omega) ?_
                refine RL.ldSx (i := i142) (e' := y152) 0 Ex.ik Try_ln3 rfl rfl rfl rfl SlOf.imm e153 Part.self ?_
                refine RL.binI (v := .bool (decide (x156 < y152))) rfl rfl rfl rfl rfl ?_
                refine RL.mv rfl rfl rfl ?_
                refine RL.split (t := 65) rfl (fun b207 => ?_) (fun b207 => ?_)
                · replace h202 := ite_t b207 h202
                  refine RL.skip rfl rfl ?_
                  refine RL.skip rfl rfl ?_
                  refine RL.skip rfl rfl ?_
                  refine RL.skip rfl rfl ?_
                  refine RL.skip rfl rfl ?_
                  refine RL.skip rfl rfl ?_
                  refine RL.skip rfl rfl ?_
                  refine RL.skip rfl rfl ?_
                  refine RL.skip rfl rfl ?_
                  refine RL.skip rfl rfl ?_
                  refine RL.skip rfl rfl ?_
                  refine RL.skip rfl rfl ?_
                  refine RL.skip rfl rfl ?_
                  refine RL.pickT rfl rfl rfl rfl ?_
                  refine RL.fin ?_
                  cases h202
                  exact fun a w st => mid_intro true h203 (St.cut [0, 1] ⟨rfl, rfl, rfl, rfl, rfl, trivial⟩ (by decide) rfl st)
                · replace h202 := ite_f b207 h202
                  refine RL.mv rfl rfl rfl ?_
                  refine RL.mv rfl rfl rfl ?_
                  refine RL.lenS 0 Try.underlying22 rfl rfl rfl rfl SlOf.imm ?_
                  refine RL.binI (v := .int .i64 (wsub ((x1).length : Int) (1 : Int))) rfl rfl rfl rfl rfl ?_
                  refine RL.binI (v := .bool ((i142 : Int) == (wsub ((x1).length : Int) (1 : Int)))) rfl rfl rfl rfl rfl ?_
                  refine RL.mv rfl rfl rfl ?_
                  refine RL.split (t := 71) rfl (fun b208 => ?_) (fun b208 => ?_)
                  · replace h202 := ite_t b208 h202
                    refine RL.mv rfl rfl rfl ?_
                    refine RL.mv rfl rfl rfl ?_
                    refine RL.mv rfl rfl rfl ?_
                    refine RL.idxS (sz := 1) 0 Try.underlying22 Try_ln3 rfl rfl rfl rfl rfl SlOf.imm (by omega) (by omega) ?_
                    refine RL.ldSx (i := i142) (e' := y152) 0 Ex.ik Try_ln3 rfl rfl rfl rfl SlOf.imm e153 Part.self ?_
                    refine RL.binI (v := .bool (x156 != y152)) rfl rfl rfl rfl rfl ?_
                    refine RL.pickT rfl rfl rfl rfl ?_
                    refine RL.pickF rfl rfl rfl rfl ?_
                    refine RL.fin ?_
                    cases h202
                    exact fun a w st => mid_intro (x156 != y152) h203 (St.cut [0, 1] ⟨rfl, rfl, rfl, rfl, rfl, trivial⟩ (by decide) rfl st)
                  · replace h202 := ite_f b208 h202
                    refine RL.skip rfl rfl ?_
                    refine RL.skip rfl rfl ?_
                    refine RL.skip rfl rfl ?_
                    refine RL.skip rfl rfl ?_
                    refine RL.skip rfl rfl ?_
                    refine RL.skip rfl rfl ?_
                    refine RL.pickF rfl rfl rfl rfl ?_
                    refine RL.pickF rfl rfl rfl rfl ?_
                    refine RL.fin ?_
                    cases h202
                    exact fun a w st => mid_intro false h203 (St.cut [0, 1] ⟨rfl, rfl, rfl, rfl, rfl, trivial⟩ (by decide) rfl st)
              · rintro x199 h209
                have h210 := h204 _ h209
                try dsimp only at h210
                refine GL.weak (env' := [(1, v1), (2, v2), (39, .int .i64 ((x1).length : Int)), (40, .int .i64 (i142 : Int)), (79, .bool x199)]) (L' := [imm (TR.sl TR.int) v1 x1, imm (TR.sl TR.int) v2 x2]) (fun _ _ st => st) ?_
                refine GL.cond rfl (fun b211 => ?_) (fun b211 => ?_)
                · replace h210 := ite_t b211 h210
                  refine GL.seq ?_
                  refine GL.region ?_
                  refine RL.asg rfl rfl rfl ?_
                  refine RL.asg rfl rfl rfl ?_
                  refine RL.finG ?_
                  cases h210
                  replace h146 : some (Fl.rt _) = some y135 := h146
                  cases h146
                  have hh := h140 _ h138
                  subst hh
                  exact GL.ret (Gx.ret (v := .tuple #[.bool false, .int .i64 (0 : Int)]) (res2 rfl rfl rfl) (fun a w st => st.toPostC rfl))
                · replace h210 := ite_f b211 h210
                  refine GL.skip ?_
                  refine GL.nilB ?_
                  refine GL.region ?_
                  refine RL.binI (v := .int .i64 ((i142 + 1 : Nat) : Int)) rfl rfl rfl rfl (binI_succ i142 (by omega)) ?_
                  refine RL.mv rfl rfl rfl ?_
                  refine RL.fin ?_
                  cases h210
                  exact fun a w st => lop_intro (i142 + 1, r154) ⟨by show i142 + 1 + r154.length = (x1).length; simp only [List.length_cons] at h148; omega, h155, h146⟩ (by simp) (St.cut [0, 1] ⟨rfl, rfl, rfl, rfl, trivial⟩ (by decide) rfl st)
          · have h151 : ¬ i142 < (x1).length := by have := of_decide_eq_false b150; omega
            obtain rfl : r143 = [] := by rw [← h149]; exact List.drop_of_length_le (by omega)
            replace h147 : some (Fl.nx _) = some y135 := h147
            cases h147
            exact GL.exit (fun a w st => mid_intro () h138 (St.cut [] trivial (by decide) rfl st))
        · rintro ⟨⟩ h212
          have h213 := h139 _ h212
          try dsimp only at h213
          refine GL.weak (env' := []) (L' := []) (fun _ _ st => st) ?_
          refine GL.seq ?_
          refine GL.region ?_
          refine RL.asg rfl rfl rfl ?_
          refine RL.asg rfl rfl rfl ?_
          refine RL.finG ?_
          have h213 := Option.some.inj h213
          subst h213
          exact GL.ret (Gx.ret (v := .tuple #[.bool true, .int .i64 (0 : Int)]) (res2 rfl rfl rfl) (fun a w st => st.toPostC rfl))

set_option maxHeartbeats 4000000 in
theorem pk_WorthRound_c (S : Hp) (w : World) (hS : S.sub w) (x0 : Int) (v1 : Value) (x1 : (List Int)) (k1 : ((TR.sl TR.int)).vrep S v1 x1) (v2 : Value) (x2 : (List Int)) (k2 : ((TR.sl TR.int)).vrep S v2 x2) (x3 : Bool) (res : Bool) (hm : pk_WorthRound_m x0 x1 x2 x3 = some res) : Calls Try.prog 13 #[.int .i64 x0, v1, v2, .bool x3] w (PostV w (.bool res)) := by
  refine calls_enter 109 Try.func13 Try.ntmps13 rfl S false [(0, .int .i64 x0), (1, v1), (2, v2), (3, .bool x3)] [imm (TR.sl TR.int) v1 x1, imm (TR.sl TR.int) v2 x2] rfl ⟨rfl, ⟨rfl, ⟨rfl, ⟨rfl, trivial⟩⟩⟩⟩ hS ⟨k1, ⟨k2, trivial⟩⟩ ?_
  unfold pk_WorthRound_m at hm
  refine GL.seq ?_
  refine GL.region ?_
  refine RL.asg rfl rfl rfl ?_
  refine RL.finG ?_
  refine GL.seq ?_
  refine GL.seq ?_
  refine GL.region ?_
  refine RL.bS (t := TR.int) (vs := [.int .i64 (0 : Int), .int .i64 (1 : Int), .int .i64 (1 : Int), .int .i64 (3 : Int)]) ([(0 : Int), (1 : Int), (1 : Int), (3 : Int)] : (List Int)) Try.underlying22 Try_lo3 rfl rfl rfl rfl ⟨VR.int, ⟨VR.int, ⟨VR.int, ⟨VR.int, trivial⟩⟩⟩⟩ rfl (by decide) ?_
  intro v8
  obtain ⟨y9, e10, hm⟩ := bind_some hm
  refine RL.callV (v := .tuple #[.bool y9.1, .int .i64 y9.2]) (vs := [.int .i64 (2 : Int), v8]) Try_fit32 rfl (Or.inl rfl) rfl rfl rfl rfl (fun U w hU hW hL => worth_Round_c U w hU (2 : Int) _ _ (hL 2 _ _ rfl Seen.own) _ e10) ?_
  refine RL.mv rfl rfl rfl ?_
  refine RL.ext rfl rfl rfl rfl ?_
  refine RL.ext rfl rfl rfl rfl ?_
  refine RL.asg rfl rfl rfl ?_
  refine RL.asg rfl rfl rfl ?_
  refine RL.finG ?_
  refine GL.seq ?_
  obtain ⟨y20, K21, h22, h23, h24, h25, h26⟩ := bindR_K hm
  refine GL.join (ι := Bool) (fun (p : Bool) => [(0, .int .i64 x0), (1, v1), (3, .bool x3), (37, .bool p)]) (fun (p : Bool) => [imm (TR.sl TR.int) v1 x1]) (fun (p : Bool) => K21 (.nx p)) ?_ ?_
  · skip
    refine GL.region ?_
    refine RL.mv rfl rfl rfl ?_
    refine RL.binI (v := .bool (y9.2 != (0 : Int))) rfl rfl rfl rfl rfl ?_
    refine RL.mv rfl rfl rfl ?_
    refine RL.split (t := 30) rfl (fun b27 => ?_) (fun b27 => ?_)
    · replace h22 := ite_t b27 h22
      refine RL.skip rfl rfl ?_
      refine RL.skip rfl rfl ?_
      refine RL.pickT rfl rfl rfl rfl ?_
      refine RL.mv rfl rfl rfl ?_
      refine RL.skip rfl rfl ?_
      refine RL.skip rfl rfl ?_
      refine RL.pickT rfl rfl rfl rfl ?_
      refine RL.fin ?_
      cases h22
      exact fun a w st => mid_intro true h23 (St.cut [0] ⟨rfl, rfl, rfl, rfl, trivial⟩ (by decide) rfl st)
    · replace h22 := ite_f b27 h22
      refine RL.mv rfl rfl rfl ?_
      refine RL.notB rfl rfl rfl ?_
      refine RL.pickF rfl rfl rfl rfl ?_
      refine RL.mv rfl rfl rfl ?_
      refine RL.split (t := 34) rfl (fun b28 => ?_) (fun b28 => ?_)
      · replace h22 := ite_t b28 h22
        refine RL.skip rfl rfl ?_
        refine RL.skip rfl rfl ?_
        refine RL.pickT rfl rfl rfl rfl ?_
        refine RL.fin ?_
        cases h22
        exact fun a w st => mid_intro true h23 (St.cut [0] ⟨rfl, rfl, rfl, rfl, trivial⟩ (by decide) rfl st)
      · replace h22 := ite_f b28 h22
        obtain ⟨y29, e30, h22⟩ := bind_some h22
        refine RL.callV (v := .bool y29) (vs := []) Try_fit14 rfl (Or.inl rfl) rfl rfl rfl rfl (fun U w hU hW hL => pk_worths_c U w hU  _ e30) ?_
        refine RL.notB rfl rfl rfl ?_
        refine RL.pickF rfl rfl rfl rfl ?_
        refine RL.fin ?_
        cases h22
        exact fun a w st => mid_intro (!y29) h23 (St.cut [0] ⟨rfl, rfl, rfl, rfl, trivial⟩ (by decide) rfl st)
  · rintro x19 h31
    have h32 := h24 _ h31
    try dsimp only at h32
    refine GL.weak (env' := [(0, .int .i64 x0), (1, v1), (3, .bool x3), (37, .bool x19)]) (L' := [imm (TR.sl TR.int) v1 x1]) (fun _ _ st => st) ?_
    refine GL.cond rfl (fun b33 => ?_) (fun b33 => ?_)
    · replace h32 := ite_t b33 h32
      refine GL.seq ?_
      refine GL.region ?_
      refine RL.asg rfl rfl rfl ?_
      refine RL.finG ?_
      have h32 := Option.some.inj h32
      subst h32
      exact GL.ret (Gx.ret (v := .bool false) (res1 rfl rfl) (fun a w st => st.toPostV))
    · replace h32 := ite_f b33 h32
      refine GL.skip ?_
      refine GL.seq ?_
      refine GL.region ?_
      refine RL.mv rfl rfl rfl ?_
      obtain ⟨y36, e37, h32⟩ := bind_some h32
      refine RL.callC (v := .int .i64 y36) (vs := [.int .i64 x0, .int .i64 (4 : Int)]) Try_fit15 rfl rfl rfl rfl (fun U w hU hW hL => pk_Within_c U w hU x0 (4 : Int) _ e37) ?_
      refine RL.binI (v := .int .i64 (wadd (1 : Int) y36)) rfl rfl rfl rfl rfl ?_
      refine RL.asg rfl rfl rfl ?_
      refine RL.finG ?_
      refine GL.seq ?_
      refine GL.region ?_
      refine RL.mv rfl rfl rfl ?_
      refine RL.mv rfl rfl rfl ?_
      refine RL.mv rfl rfl rfl ?_
      refine RL.lenS 0 Try.underlying22 rfl rfl rfl rfl SlOf.imm ?_
      refine RL.minI rfl rfl rfl rfl ?_
      obtain ⟨y44, e45, h32⟩ := bind_some h32
      replace e45 := chk_some e45
      refine RL.slc (t := TR.int) (i := 0) (j := (if (30 : Int) < ((x1).length : Int) then (30 : Int) else ((x1).length : Int)).toNat) (sz := 1) 0 Try.underlying22 Try_ln3 rfl rfl rfl rfl (Or.inl ⟨rfl, rfl⟩) (Or.inr ⟨_, _, rfl, by rw [Int.toNat_of_nonneg (by omega)]; rfl⟩) rfl (by omega) (by omega) ?_
      intro v46
      obtain ⟨y47, e48, h32⟩ := bind_some h32
      refine RL.call (vs := [.int .i64 (wadd (1 : Int) y36), v46]) Try_fit26 rfl rfl rfl rfl rfl (fun S f w hS hW hi => pk_roundOf_c S w hS (wadd (1 : Int) y36) _ _ (hi 1 _ rfl) _ e48) ?_
      intro v49
      refine RL.reL (L' := [imm (TR.sl TR.int) v1 x1, imm (TR.sl TR.int) v46 ((List.take ((if (30 : Int) < ((x1).length : Int) then (30 : Int) else ((x1).length : Int)).toNat) x1).drop 0), own 3 TR.int v49 y47]) rfl ?_
      refine RL.asg rfl rfl rfl ?_
      refine RL.finG ?_
      refine GL.seq ?_
      refine GL.seq ?_
      refine GL.region ?_
      refine RL.mv rfl rfl rfl ?_
      refine RL.finG ?_
      obtain ⟨y59, K60, h61, h62, h63, h64, h65⟩ := bindR_K h32
      refine GL.join (ι := (List Int) × Value) (fun (p : (List Int) × Value) => [(0, .int .i64 (wadd (1 : Int) y36)), (3, .bool x3), (11, p.2)]) (fun (p : (List Int) × Value) => [own 3 TR.int p.2 p.1]) (fun (p : (List Int) × Value) => K60 (.nx p.1)) ?_ ?_
      · skip
        refine GL.cond rfl (fun b66 => ?_) (fun b66 => ?_)
        · replace h61 := ite_t b66 h61
          refine GL.region ?_
          refine RL.mv rfl rfl rfl ?_
          refine RL.mv rfl rfl rfl ?_
          obtain ⟨y70, e71, h61⟩ := bind_some h61
          refine RL.call (vs := [.int .i64 (wadd (1 : Int) y36), v1]) Try_fit16 rfl rfl rfl rfl rfl (fun S f w hS hW hi => pk_GameOf_c S w hS (wadd (1 : Int) y36) _ _ (hi 0 _ rfl) _ e71) ?_
          intro v72
          refine RL.asg rfl rfl rfl ?_
          refine RL.finG ?_
          cases h61
          exact fun a w st => mid_intro (y70, v72) h62 (St.cut [3] ⟨rfl, rfl, rfl, trivial⟩ (by decide) rfl st)
        · replace h61 := ite_f b66 h61
          refine GL.skip ?_
          cases h61
          exact fun a w st => mid_intro (y47, v49) h62 (St.cut [2] ⟨rfl, rfl, rfl, trivial⟩ (by decide) rfl st)
      · rintro ⟨l57, v58⟩ h73
        have h74 := h63 _ h73
        try dsimp only at h74
        refine GL.weak (env' := [(0, .int .i64 (wadd (1 : Int) y36)), (3, .bool x3), (11, v58)]) (L' := [own 3 TR.int v58 l57]) (fun _ _ st => st) ?_
        refine GL.seq ?_
        refine GL.region ?_
        refine RL.mv rfl rfl rfl ?_
        refine RL.mv rfl rfl rfl ?_
        obtain ⟨y77, e78, h74⟩ := bind_some h74
        refine RL.callV (v := .tuple #[.bool y77.1, .int .i64 y77.2]) (vs := [.int .i64 (wadd (1 : Int) y36), v58]) Try_fit32 rfl (Or.inl rfl) rfl rfl rfl rfl (fun U w hU hW hL => worth_Round_c U w hU (wadd (1 : Int) y36) _ _ (hL 0 _ _ rfl Seen.own) _ e78) ?_
        refine RL.mv rfl rfl rfl ?_
        refine RL.ext rfl rfl rfl rfl ?_
        refine RL.ext rfl rfl rfl rfl ?_
        refine RL.asg rfl rfl rfl ?_
        refine RL.asg rfl rfl rfl ?_
        refine RL.finG ?_
        refine GL.seq ?_
        refine GL.region ?_
        refine RL.mv rfl rfl rfl ?_
        obtain ⟨y82, e83, h74⟩ := bind_some h74
        refine RL.call (vs := [.int .i64 (wadd (1 : Int) y36)]) Try_fit31 rfl rfl rfl rfl rfl (fun S f w hS hW hi => order_All_c S w hS (wadd (1 : Int) y36) _ e83) ?_
        intro v84
        refine RL.mv rfl rfl rfl ?_
        refine RL.ext rfl rfl rfl rfl ?_
        refine RL.ext rfl rfl rfl rfl ?_
        refine RL.asg rfl rfl rfl ?_
        refine RL.asg rfl rfl rfl ?_
        refine RL.finG ?_
        refine GL.seq ?_
        refine GL.seq ?_
        obtain ⟨y96, K97, h98, h99, h100, h101, h102⟩ := bindR_K h74
        refine GL.join (ι := Bool) (fun (p : Bool) => [(0, .int .i64 (wadd (1 : Int) y36)), (11, v58), (12, .bool y77.1), (14, v84), (75, .bool p)]) (fun (p : Bool) => [own 3 TR.int v58 l57, own 22 (TR.sl TR.int) v84 y82.1]) (fun (p : Bool) => K97 (.nx p)) ?_ ?_
        · skip
          refine GL.region ?_
          refine RL.mv rfl rfl rfl ?_
          refine RL.mv rfl rfl rfl ?_
          refine RL.bS (t := TR.int) (vs := [.int .i64 y77.2, .int .i64 y82.2]) ([y77.2, y82.2] : (List Int)) Try.underlying53 Try_lo26 rfl rfl rfl rfl ⟨VR.int, ⟨VR.int, trivial⟩⟩ rfl (by decide) ?_
          intro v103
          refine RL.reL (L' := [own 3 TR.int v58 l57, own 22 (TR.sl TR.int) v84 y82.1, own 26 TR.int v103 ([y77.2, y82.2] : (List Int))]) rfl ?_
          obtain ⟨y104, e105, h98⟩ := bind_some h98
          refine RL.callV (v := .bool y104) (vs := [v103]) Try_fit18 rfl (Or.inl rfl) rfl rfl rfl rfl (fun U w hU hW hL => pk_good_c U w hU _ _ (hL 2 _ _ rfl Seen.own) _ e105) ?_
          refine RL.notB rfl rfl rfl ?_
          refine RL.mv rfl rfl rfl ?_
          refine RL.split (t := 68) rfl (fun b106 => ?_) (fun b106 => ?_)
          · replace h98 := ite_t b106 h98
            refine RL.skip rfl rfl ?_
            refine RL.skip rfl rfl ?_
            refine RL.skip rfl rfl ?_
            refine RL.skip rfl rfl ?_
            refine RL.skip rfl rfl ?_
            refine RL.skip rfl rfl ?_
            refine RL.pickT rfl rfl rfl rfl ?_
            refine RL.fin ?_
            cases h98
            exact fun a w st => mid_intro true h99 (St.cut [0, 1] ⟨rfl, rfl, rfl, rfl, rfl, trivial⟩ (by decide) rfl st)
          · replace h98 := ite_f b106 h98
            refine RL.mv rfl rfl rfl ?_
            refine RL.notB rfl rfl rfl ?_
            refine RL.mv rfl rfl rfl ?_
            refine RL.split (t := 71) rfl (fun b107 => ?_) (fun b107 => ?_)
            · replace h98 := ite_t b107 h98
              refine RL.mv rfl rfl rfl ?_
              refine RL.notB rfl rfl rfl ?_
              refine RL.pickT rfl rfl rfl rfl ?_
              refine RL.pickF rfl rfl rfl rfl ?_
              refine RL.fin ?_
              cases h98
              exact fun a w st => mid_intro (!y77.1) h99 (St.cut [0, 1] ⟨rfl, rfl, rfl, rfl, rfl, trivial⟩ (by decide) rfl st)
            · replace h98 := ite_f b107 h98
              refine RL.skip rfl rfl ?_
              refine RL.skip rfl rfl ?_
              refine RL.pickF rfl rfl rfl rfl ?_
              refine RL.pickF rfl rfl rfl rfl ?_
              refine RL.fin ?_
              cases h98
              exact fun a w st => mid_intro false h99 (St.cut [0, 1] ⟨rfl, rfl, rfl, rfl, rfl, trivial⟩ (by decide) rfl st)
        · rintro x95 h108
          have h109 := h100 _ h108
          try dsimp only at h109
          refine GL.weak (env' := [(0, .int .i64 (wadd (1 : Int) y36)), (11, v58), (12, .bool y77.1), (14, v84), (75, .bool x95)]) (L' := [own 3 TR.int v58 l57, own 22 (TR.sl TR.int) v84 y82.1]) (fun _ _ st => st) ?_
          refine GL.cond rfl (fun b110 => ?_) (fun b110 => ?_)
          · replace h109 := ite_t b110 h109
            refine GL.seq ?_
            refine GL.region ?_
            refine RL.asg rfl rfl rfl ?_
            refine RL.finG ?_
            have h109 := Option.some.inj h109
            subst h109
            exact GL.ret (Gx.ret (v := .bool false) (res1 rfl rfl) (fun a w st => st.toPostV))
          · replace h109 := ite_f b110 h109
            refine GL.skip ?_
            refine GL.seq ?_
            refine GL.region ?_
            refine RL.asg rfl rfl rfl ?_
            refine RL.finG ?_
            refine GL.seq ?_
            refine GL.seq ?_
            refine GL.region ?_
            refine RL.mv rfl rfl rfl ?_
            refine RL.lenS 1 Try.underlying45 rfl rfl rfl rfl SlOf.own ?_
            refine RL.mv rfl rfl rfl ?_
            refine RL.finG ?_
            refine GL.weak (fun a w st => st.freeze 0 rfl) ?_
            refine GL.lenOwn 1 rfl (fun n185 => ?_)
            obtain ⟨y186, K187, h188, h189, h190, h191, h192⟩ := bindR_K h109
            refine GL.join (ι := Bool) (fun (p : Bool) => [(12, .bool y77.1), (16, .bool p)]) (fun (p : Bool) => []) (fun (p : Bool) => K187 (.nx p)) ?_ ?_
            · refine GL.block ?_
              refine GL.loop (ι := Nat × Nat × Bool) (fun (p : Nat × Nat × Bool) => [(0, .int .i64 (wadd (1 : Int) y36)), (11, v58), (12, .bool y77.1), (16, .bool p.2.2), (76, v84), (77, .int .i64 ((y82.1).length : Int)), (78, .int .i64 (p.1 : Int))]) (fun (p : Nat × Nat × Bool) => [imm (TR.sl TR.int) v58 l57, own 22 (TR.sl TR.int) v84 y82.1]) (fun (p : Nat × Nat × Bool) => p.1 + p.2.1 = (y82.1).length ∧ rangeN (pk_WorthRound_b1 y82 y36 l57) p.2.1 p.1 p.2.2 = some y186) (fun (p : Nat × Nat × Bool) => p.2.1) (0, (y82.1).length, true) ⟨by simp, h188⟩ (fun a w st => St.cut [0, 1] ⟨rfl, rfl, rfl, rfl, rfl, rfl, rfl, trivial⟩ (by decide) rfl st) ?_
              rintro ⟨i193, r194, x148⟩ ⟨h199, h198⟩
              try dsimp only at h199 h198
              refine GL.weak (env' := [(0, .int .i64 (wadd (1 : Int) y36)), (11, v58), (12, .bool y77.1), (16, .bool x148), (76, v84), (77, .int .i64 ((y82.1).length : Int)), (78, .int .i64 (i193 : Int))]) (L' := [imm (TR.sl TR.int) v58 l57, own 22 (TR.sl TR.int) v84 y82.1]) (fun _ _ st => st) ?_
              refine GL.seq ?_
              refine GL.region ?_
              refine RL.binI (v := .bool (decide ((i193 : Int) < ((y82.1).length : Int)))) rfl rfl rfl rfl rfl ?_
              refine RL.finG ?_
              refine GL.seq ?_
              refine GL.cond rfl (fun b201 => ?_) (fun b201 => ?_)
              · have h202 : i193 < (y82.1).length := by have := of_decide_eq_true b201; omega
                obtain ⟨r203, hr⟩ : ∃ m, r194 = m + 1 := ⟨r194 - 1, by omega⟩
                subst hr
                obtain ⟨z195, h196, h197⟩ := rangeN_some h198
                unfold pk_WorthRound_b1 at h196
                try dsimp only at h196
                refine GL.skip ?_
                refine GL.seq ?_
                refine GL.block ?_
                refine GL.seq ?_
                refine GL.region ?_
                obtain ⟨y207, e208, h196⟩ := bind_some h196
                refine RL.idxS (sz := 1) 1 Try.underlying45 Try_ln22 rfl rfl rfl rfl rfl SlOf.own (idx_some e208).1 (idx_some e208).2.1 ?_
                refine RL.ldS (i := i193) (r := (TR.sl TR.int)) (e' := y207) 1 Try_ln22 rfl rfl rfl rfl SlOf.own (idx_some e208).2.2 Part.self ?_
                intro v209
                refine RL.asg rfl rfl rfl ?_
                refine RL.finG ?_
                refine GL.seq ?_
                refine GL.region ?_
                refine RL.mv rfl rfl rfl ?_
                refine RL.mv rfl rfl rfl ?_
                refine RL.mv rfl rfl rfl ?_
                obtain ⟨y213, e214, h196⟩ := bind_some h196
                refine RL.call (vs := [.int .i64 (wadd (1 : Int) y36), v58, v209]) Try_fit30 rfl rfl rfl rfl rfl (fun S f w hS hW hi => worth_Row_c S w hS (wadd (1 : Int) y36) _ _ (hi 0 _ rfl) _ _ (hi 2 _ rfl) _ e214) ?_
                intro v215
                refine RL.reL (L' := [imm (TR.sl TR.int) v58 l57, own 22 (TR.sl TR.int) v84 y82.1, imm (TR.sl TR.int) v209 y207, own 3 TR.int v215 y213.1]) rfl ?_
                refine RL.mv rfl rfl rfl ?_
                refine RL.ext rfl rfl rfl rfl ?_
                refine RL.ext rfl rfl rfl rfl ?_
                refine RL.asg rfl rfl rfl ?_
                refine RL.asg rfl rfl rfl ?_
                refine RL.finG ?_
                refine GL.seq ?_
                refine GL.region ?_
                refine RL.mv rfl rfl rfl ?_
                refine RL.mv rfl rfl rfl ?_
                refine RL.mv rfl rfl rfl ?_
                obtain ⟨y218, e219, h196⟩ := bind_some h196
                refine RL.callC (v := .tuple #[.bool y218.1, .int .i64 y218.2]) (vs := [.int .i64 (wadd (1 : Int) y36), v58, v215]) Try_fit27 rfl rfl rfl rfl (fun U w hU hW hL => worth_Holds_c U w hU (wadd (1 : Int) y36) _ _ (hL 0 _ _ rfl Seen.imm) _ _ (hL 3 _ _ rfl Seen.own) _ e219) ?_
                refine RL.mv rfl rfl rfl ?_
                refine RL.ext rfl rfl rfl rfl ?_
                refine RL.ext rfl rfl rfl rfl ?_
                refine RL.asg rfl rfl rfl ?_
                refine RL.asg rfl rfl rfl ?_
                refine RL.finG ?_
                refine GL.seq ?_
                refine GL.seq ?_
                refine GL.region ?_
                refine RL.mv rfl rfl rfl ?_
                refine RL.mv rfl rfl rfl ?_
                refine RL.bS (t := TR.int) (vs := [.int .i64 y213.2, .int .i64 y218.2]) ([y213.2, y218.2] : (List Int)) Try.underlying53 Try_lo26 rfl rfl rfl rfl ⟨VR.int, ⟨VR.int, trivial⟩⟩ rfl (by decide) ?_
                intro v223
                obtain ⟨y224, e225, h196⟩ := bind_some h196
                refine RL.callV (v := .bool y224) (vs := [v223]) Try_fit18 rfl (Or.inl rfl) rfl rfl rfl rfl (fun U w hU hW hL => pk_good_c U w hU _ _ (hL 4 _ _ rfl Seen.own) _ e225) ?_
                refine RL.notB rfl rfl rfl ?_
                refine RL.finG ?_
                refine GL.cond rfl (fun b226 => ?_) (fun b226 => ?_)
                · replace h196 := ite_t b226 h196
                  refine GL.seq ?_
                  refine GL.region ?_
                  refine RL.asg rfl rfl rfl ?_
                  refine RL.finG ?_
                  cases h196
                  replace h197 : some (Fl.rt _) = some y186 := h197
                  cases h197
                  have hh := h191 _ h189
                  subst hh
                  exact GL.ret (Gx.ret (v := .bool false) (res1 rfl rfl) (fun a w st => st.toPostV))
                · replace h196 := ite_f b226 h196
                  refine GL.skip ?_
                  obtain ⟨y230, K231, h232, h233, h234, h235, h236⟩ := bindF_K h196
                  refine GL.join (ι := Bool) (fun (p : Bool) => [(0, .int .i64 (wadd (1 : Int) y36)), (11, v58), (12, .bool y77.1), (16, .bool p), (76, v84), (77, .int .i64 ((y82.1).length : Int)), (78, .int .i64 (i193 : Int))]) (fun (p : Bool) => [imm (TR.sl TR.int) v58 l57, own 22 (TR.sl TR.int) v84 y82.1]) (fun (p : Bool) => K231 (.nx p)) ?_ ?_
                  · skip
                    refine GL.region ?_
                    refine RL.mv rfl rfl rfl ?_
                    refine RL.mv rfl rfl rfl ?_
                    refine RL.split (t := 102) rfl (fun b237 => ?_) (fun b237 => ?_)
                    · replace h232 := ite_t b237 h232
                      refine RL.mv rfl rfl rfl ?_
                      refine RL.pickT rfl rfl rfl rfl ?_
                      refine RL.asg rfl rfl rfl ?_
                      refine RL.fin ?_
                      cases h232
                      exact fun a w st => mid_intro y218.1 h233 (St.cut [0, 1] ⟨rfl, rfl, rfl, rfl, rfl, rfl, rfl, trivial⟩ (by decide) rfl st)
                    · replace h232 := ite_f b237 h232
                      refine RL.skip rfl rfl ?_
                      refine RL.pickF rfl rfl rfl rfl ?_
                      refine RL.asg rfl rfl rfl ?_
                      refine RL.fin ?_
                      cases h232
                      exact fun a w st => mid_intro false h233 (St.cut [0, 1] ⟨rfl, rfl, rfl, rfl, rfl, rfl, rfl, trivial⟩ (by decide) rfl st)
                  · rintro x229 h238
                    have h239 := h234 _ h238
                    try dsimp only at h239
                    refine GL.weak (env' := [(0, .int .i64 (wadd (1 : Int) y36)), (11, v58), (12, .bool y77.1), (16, .bool x229), (76, v84), (77, .int .i64 ((y82.1).length : Int)), (78, .int .i64 (i193 : Int))]) (L' := [imm (TR.sl TR.int) v58 l57, own 22 (TR.sl TR.int) v84 y82.1]) (fun _ _ st => st) ?_
                    refine GL.nilB ?_
                    refine GL.region ?_
                    refine RL.binI (v := .int .i64 ((i193 + 1 : Nat) : Int)) rfl rfl rfl rfl (binI_succ i193 (by omega)) ?_
                    refine RL.mv rfl rfl rfl ?_
                    refine RL.fin ?_
                    cases h239
                    exact fun a w st => lop_intro (i193 + 1, r203, x229) ⟨by show i193 + 1 + r203 = (y82.1).length; omega, h197⟩ (by simp) (St.cut [0, 1] ⟨rfl, rfl, rfl, rfl, rfl, rfl, rfl, trivial⟩ (by decide) rfl st)
              · have h202 : ¬ i193 < (y82.1).length := by have := of_decide_eq_false b201; omega
                obtain rfl : r194 = 0 := by omega
                replace h198 : some (Fl.nx _) = some y186 := h198
                cases h198
                exact GL.exit (fun a w st => mid_intro x148 h189 (St.cut [] ⟨rfl, rfl, trivial⟩ (by decide) rfl st))
            · rintro x148 h240
              have h241 := h190 _ h240
              try dsimp only at h241
              refine GL.weak (env' := [(12, .bool y77.1), (16, .bool x148)]) (L' := []) (fun _ _ st => st) ?_
              refine GL.seq ?_
              refine GL.region ?_
              refine RL.mv rfl rfl rfl ?_
              refine RL.mv rfl rfl rfl ?_
              refine RL.eqB Try.underlying4 rfl rfl rfl rfl ?_
              refine RL.asg rfl rfl rfl ?_
              refine RL.finG ?_
              have h241 := Option.some.inj h241
              subst h241
              exact GL.ret (Gx.ret (v := .bool (y77.1 == x148)) (res1 rfl rfl) (fun a w st => st.toPostV))
end Go.Wk
