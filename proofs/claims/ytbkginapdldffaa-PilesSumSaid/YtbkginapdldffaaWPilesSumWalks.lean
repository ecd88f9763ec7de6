/- Each function comes to what its model says; printed by a program of this repository. -/
import Derived.Test.YtbkginapdldffaaProg
import Derived.Test.YtbkginapdldffaaWPilesSumModels
namespace Go.Wk
open Go.Fw Go.Mo Go.Proofs Go.RowKit
set_option linter.unusedVariables false
set_option maxRecDepth 100000
theorem Try_info3 : (Try.prog.info? 3).map (fun i => (i.zero, i.size, i.bytes)) = some (some (.int .i64 0), 1, 8) := by kernel_rfl
theorem Try_ln3 : Ln Try.prog 3 1 false := Ln.of Try_info3 Try.underlying3 rfl
theorem Try_lo3 : LnO Try.prog 3 1 [.int .i64 0] := LnO.of Try_info3 rfl rfl (by decide) (by decide)
theorem Try_info4 : (Try.prog.info? 4).map (fun i => (i.zero, i.size, i.bytes)) = some (some (.bool false), 1, 1) := by kernel_rfl
theorem Try_ln4 : Ln Try.prog 4 1 false := Ln.of Try_info4 Try.underlying4 rfl
theorem Try_lo4 : LnO Try.prog 4 1 [.bool false] := LnO.of Try_info4 rfl rfl (by decide) (by decide)
theorem Try_info28 : (Try.prog.info? 28).map (fun i => (i.zero, i.size, i.bytes)) = some (some (.int .i64 0), 1, 8) := by kernel_rfl
theorem Try_ln28 : Ln Try.prog 28 1 false := Ln.of Try_info28 Try.underlying28 rfl
theorem Try_lo28 : LnO Try.prog 28 1 [.int .i64 0] := LnO.of Try_info28 rfl rfl (by decide) (by decide)
theorem Try_info51 : (Try.prog.info? 51).map (fun i => (i.zero, i.size, i.bytes)) = some (some (.agg #[.bool false, .bool false, .bool false, .bool false, .bool false, .bool false, .bool false, .bool false, .bool false]), 9, 9) := by kernel_rfl
theorem Try_ln51 : Ln Try.prog 51 9 true := Ln.of Try_info51 Try.underlying51 rfl
theorem Try_lo51 : LnO Try.prog 51 9 [.bool false, .bool false, .bool false, .bool false, .bool false, .bool false, .bool false, .bool false, .bool false] := LnO.of Try_info51 rfl rfl (by decide) (by decide)
theorem Try_info52 : (Try.prog.info? 52).map (fun i => (i.zero, i.size, i.bytes)) = some (some (.agg #[.bool false, .bool false, .bool false, .bool false, .bool false, .bool false, .bool false, .bool false, .bool false, .bool false, .bool false, .bool false, .bool false, .bool false, .bool false, .bool false, .bool false, .bool false, .bool false, .bool false, .bool false, .bool false, .bool false, .bool false, .bool false, .bool false, .bool false, .bool false, .bool false, .bool false, .bool false, .bool false, .bool false, .bool false, .bool false, .bool false, .bool false, .bool false, .bool false, .bool false, .bool false, .bool false, .bool false, .bool false, .bool false, .bool false, .bool false, .bool false, .bool false, .bool false, .bool false, .bool false, .bool false, .bool false, .bool false, .bool false, .bool false, .bool false, .bool false, .bool false, .bool false, .bool false, .bool false, .bool false, .bool false, .bool false, .bool false, .bool false, .bool false, .bool false, .bool false, .bool false, .bool false, .bool false, .bool false, .bool false, .bool false, .bool false, .bool false, .bool false, .bool false]), 81, 81) := by kernel_rfl
theorem Try_ln52 : Ln Try.prog 52 81 true := Ln.of Try_info52 Try.underlying52 rfl
theorem Try_lo52 : LnO Try.prog 52 81 [.bool false, .bool false, .bool false, .bool false, .bool false, .bool false, .bool false, .bool false, .bool false, .bool false, .bool false, .bool false, .bool false, .bool false, .bool false, .bool false, .bool false, .bool false, .bool false, .bool false, .bool false, .bool false, .bool false, .bool false, .bool false, .bool false, .bool false, .bool false, .bool false, .bool false, .bool false, .bool false, .bool false, .bool false, .bool false, .bool false, .bool false, .bool false, .bool false, .bool false, .bool false, .bool false, .bool false, .bool false, .bool false, .bool false, .bool false, .bool false, .bool false, .bool false, .bool false, .bool false, .bool false, .bool false, .bool false, .bool false, .bool false, .bool false, .bool false, .bool false, .bool false, .bool false, .bool false, .bool false, .bool false, .bool false, .bool false, .bool false, .bool false, .bool false, .bool false, .bool false, .bool false, .bool false, .bool false, .bool false, .bool false, .bool false, .bool false, .bool false, .bool false] := LnO.of Try_info52 rfl rfl (by decide) (by decide)
theorem Try_info65 : (Try.prog.info? 65).map (fun i => (i.zero, i.size, i.bytes)) = some (some (.agg #[.bool false, .bool false, .bool false, .bool false, .bool false, .bool false, .bool false]), 7, 7) := by kernel_rfl
theorem Try_ln65 : Ln Try.prog 65 7 true := Ln.of Try_info65 Try.underlying65 rfl
theorem Try_lo65 : LnO Try.prog 65 7 [.bool false, .bool false, .bool false, .bool false, .bool false, .bool false, .bool false] := LnO.of Try_info65 rfl rfl (by decide) (by decide)
theorem Try_fit14 : Fit Try.prog 14 := Fit.of Try.func14 (by kernel_rfl) rfl
theorem Try_fit17 : Fit Try.prog 17 := Fit.of Try.func17 (by kernel_rfl) rfl
theorem Try_fit19 : Fit Try.prog 19 := Fit.of Try.func19 (by kernel_rfl) rfl
theorem Try_fit20 : Fit Try.prog 20 := Fit.of Try.func20 (by kernel_rfl) rfl
theorem Try_fit22 : Fit Try.prog 22 := Fit.of Try.func22 (by kernel_rfl) rfl
theorem Try_fit24 : Fit Try.prog 24 := Fit.of Try.func24 (by kernel_rfl) rfl
theorem Try_fit28 : Fit Try.prog 28 := Fit.of Try.func28 (by kernel_rfl) rfl
theorem Try_fit30 : Fit Try.prog 30 := Fit.of Try.func30 (by kernel_rfl) rfl
theorem Try_fit31 : Fit Try.prog 31 := Fit.of Try.func31 (by kernel_rfl) rfl
theorem Try_fit32 : Fit Try.prog 32 := Fit.of Try.func32 (by kernel_rfl) rfl
theorem Try_fit34 : Fit Try.prog 34 := Fit.of Try.func34 (by kernel_rfl) rfl

set_option maxHeartbeats 4000000 in
theorem piles_Check_c (S : Hp) (w : World) (hS : S.sub w) (v0 : Value) (x0 : (List Int)) (k0 : ((TR.sl TR.int)).vrep S v0 x0) (res : Int) (hm : piles_Check_m x0 = some res) : Calls Try.prog 30 #[v0] w (PostC w (.int .i64 res)) := by
  refine calls_enter 21 Try.func30 Try.ntmps30 rfl S true [(0, v0)] [imm (TR.sl TR.int) v0 x0] rfl ⟨rfl, trivial⟩ hS ⟨k0, trivial⟩ ?_
  unfold piles_Check_m at hm
  refine GL.seq ?_
  refine GL.region ?_
  refine RL.asg rfl rfl rfl ?_
  refine RL.finG ?_
  refine GL.seq ?_
  refine GL.seq ?_
  refine GL.region ?_
  refine RL.mv rfl rfl rfl ?_
  refine RL.lenS 0 Try.underlying27 rfl rfl rfl rfl SlOf.imm ?_
  refine RL.binI (v := .bool (decide (((x0).length : Int) > (6 : Int)))) rfl rfl rfl rfl rfl ?_
  refine RL.finG ?_
  refine GL.cond rfl (fun b2 => ?_) (fun b2 => ?_)
  · replace hm := ite_t b2 hm
    refine GL.seq ?_
    refine GL.region ?_
    refine RL.asg rfl rfl rfl ?_
    refine RL.finG ?_
    have hm := Option.some.inj hm
    subst hm
    exact GL.ret (Gx.ret (v := .int .i64 (2 : Int)) (res1 rfl rfl) (fun a w st => st.toPostC rfl))
  · replace hm := ite_f b2 hm
    refine GL.skip ?_
    refine GL.seq ?_
    refine GL.seq ?_
    refine GL.region ?_
    refine RL.mv rfl rfl rfl ?_
    refine RL.lenS 0 Try.underlying27 rfl rfl rfl rfl SlOf.imm ?_
    refine RL.mv rfl rfl rfl ?_
    refine RL.finG ?_
    refine GL.open_ 0 rfl (fun S h => len_imm S h) (fun n21 => ?_)
    obtain ⟨y22, K23, h24, h25, h26, h27, h28⟩ := bindR_K hm
    refine GL.join (ι := Unit) (fun (p : Unit) => []) (fun (p : Unit) => []) (fun (p : Unit) => K23 (.nx ())) ?_ ?_
    · refine GL.block ?_
      refine GL.loop (ι := Nat × (List Int)) (fun (p : Nat × (List Int)) => [(8, v0), (9, .int .i64 ((x0).length : Int)), (10, .int .i64 (p.1 : Int))]) (fun (p : Nat × (List Int)) => [imm (TR.sl TR.int) v0 x0]) (fun (p : Nat × (List Int)) => p.1 + p.2.length = (x0).length ∧ List.drop p.1 x0 = p.2 ∧ rangeL piles_Check_b1 p.2 p.1 () = some y22) (fun (p : Nat × (List Int)) => p.2.length) (0, x0) ⟨by simp, by simp, h24⟩ (fun a w st => St.cut [0] ⟨rfl, rfl, rfl, trivial⟩ (by decide) rfl st) ?_
      rintro ⟨i29, r30⟩ ⟨h35, h36, h34⟩
      try dsimp only at h35 h36 h34
      refine GL.weak (env' := [(8, v0), (9, .int .i64 ((x0).length : Int)), (10, .int .i64 (i29 : Int))]) (L' := [imm (TR.sl TR.int) v0 x0]) (fun _ _ st => st) ?_
      refine GL.seq ?_
      refine GL.region ?_
      refine RL.binI (v := .bool (decide ((i29 : Int) < ((x0).length : Int)))) rfl rfl rfl rfl rfl ?_
      refine RL.finG ?_
      refine GL.seq ?_
      refine GL.cond rfl (fun b37 => ?_) (fun b37 => ?_)
      · have h38 : i29 < (x0).length := by have := of_decide_eq_true b37; omega
        obtain ⟨y39, r41, hr, e40, h42⟩ := drop_cons h36 rfl h38
        subst hr
        obtain ⟨z31, h32, h33⟩ := rangeL_some h34
        unfold piles_Check_b1 at h32
        try dsimp only at h32
        refine GL.skip ?_
        refine GL.seq ?_
        refine GL.block ?_
        refine GL.seq ?_
        refine GL.region ?_
        refine RL.idxS (sz := 1) 0 Try.underlying27 Try_ln3 rfl rfl rfl rfl rfl SlOf.imm (by omega) (by omega) ?_
        refine RL.ldSx (i := i29) (e' := y39) 0 Ex.ik Try_ln3 rfl rfl rfl rfl SlOf.imm e40 Part.self ?_
        refine RL.asg rfl rfl rfl ?_
        refine RL.finG ?_
        refine GL.seq ?_
        obtain ⟨y46, K47, h48, h49, h50, h51, h52⟩ := bindF_K h32
        refine GL.join (ι := Bool) (fun (p : Bool) => [(8, v0), (9, .int .i64 ((x0).length : Int)), (10, .int .i64 (i29 : Int)), (19, .bool p)]) (fun (p : Bool) => [imm (TR.sl TR.int) v0 x0]) (fun (p : Bool) => K47 (.nx p)) ?_ ?_
        · skip
          refine GL.region ?_
          refine RL.mv rfl rfl rfl ?_
          refine RL.binI (v := .bool (decide (y39 < (0 : Int)))) rfl rfl rfl rfl rfl ?_
          refine RL.mv rfl rfl rfl ?_
          refine RL.split (t := 16) rfl (fun b53 => ?_) (fun b53 => ?_)
          · replace h48 := ite_t b53 h48
            refine RL.skip rfl rfl ?_
            refine RL.skip rfl rfl ?_
            refine RL.pickT rfl rfl rfl rfl ?_
            refine RL.fin ?_
            cases h48
            exact fun a w st => mid_intro true h49 (St.cut [0] ⟨rfl, rfl, rfl, rfl, trivial⟩ (by decide) rfl st)
          · replace h48 := ite_f b53 h48
            refine RL.mv rfl rfl rfl ?_
            refine RL.binI (v := .bool (decide (y39 > (40 : Int)))) rfl rfl rfl rfl rfl ?_
            refine RL.pickF rfl rfl rfl rfl ?_
            refine RL.fin ?_
            cases h48
            exact fun a w st => mid_intro (decide (y39 > (40 : Int))) h49 (St.cut [0] ⟨rfl, rfl, rfl, rfl, trivial⟩ (by decide) rfl st)
        · rintro x45 h54
          have h55 := h50 _ h54
          try dsimp only at h55
          refine GL.weak (env' := [(8, v0), (9, .int .i64 ((x0).length : Int)), (10, .int .i64 (i29 : Int)), (19, .bool x45)]) (L' := [imm (TR.sl TR.int) v0 x0]) (fun _ _ st => st) ?_
          refine GL.cond rfl (fun b56 => ?_) (fun b56 => ?_)
          · replace h55 := ite_t b56 h55
            refine GL.seq ?_
            refine GL.region ?_
            refine RL.asg rfl rfl rfl ?_
            refine RL.finG ?_
            cases h55
            replace h33 : some (Fl.rt _) = some y22 := h33
            cases h33
            have hh := h27 _ h25
            subst hh
            exact GL.ret (Gx.ret (v := .int .i64 (1 : Int)) (res1 rfl rfl) (fun a w st => st.toPostC rfl))
          · replace h55 := ite_f b56 h55
            refine GL.skip ?_
            refine GL.nilB ?_
            refine GL.region ?_
            refine RL.binI (v := .int .i64 ((i29 + 1 : Nat) : Int)) rfl rfl rfl rfl (binI_succ i29 (by omega)) ?_
            refine RL.mv rfl rfl rfl ?_
            refine RL.fin ?_
            cases h55
            exact fun a w st => lop_intro (i29 + 1, r41) ⟨by show i29 + 1 + r41.length = (x0).length; simp only [List.length_cons] at h35; omega, h42, h33⟩ (by simp) (St.cut [0] ⟨rfl, rfl, rfl, trivial⟩ (by decide) rfl st)
      · have h38 : ¬ i29 < (x0).length := by have := of_decide_eq_false b37; omega
        obtain rfl : r30 = [] := by rw [← h36]; exact List.drop_of_length_le (by omega)
        replace h34 : some (Fl.nx _) = some y22 := h34
        cases h34
        exact GL.exit (fun a w st => mid_intro () h25 (St.cut [] trivial (by decide) rfl st))
    · rintro ⟨⟩ h57
      have h58 := h26 _ h57
      try dsimp only at h58
      refine GL.weak (env' := []) (L' := []) (fun _ _ st => st) ?_
      refine GL.seq ?_
      refine GL.region ?_
      refine RL.asg rfl rfl rfl ?_
      refine RL.finG ?_
      have h58 := Option.some.inj h58
      subst h58
      exact GL.ret (Gx.ret (v := .int .i64 (0 : Int)) (res1 rfl rfl) (fun a w st => st.toPostC rfl))

set_option maxHeartbeats 4000000 in
theorem piles_Move_c (S : Hp) (w : World) (hS : S.sub w) (v0 : Value) (x0 : (List Int)) (k0 : ((TR.sl TR.int)).vrep S v0 x0) (res : Int × Int × Int) (hm : piles_Move_m x0 = some res) : Calls Try.prog 20 #[v0] w (PostC w (.tuple #[.int .i64 res.1, .int .i64 res.2.1, .int .i64 res.2.2])) := by
  refine calls_enter 45 Try.func20 Try.ntmps20 rfl S true [(0, v0)] [imm (TR.sl TR.int) v0 x0] rfl ⟨rfl, trivial⟩ hS ⟨k0, trivial⟩ ?_
  unfold piles_Move_m at hm
  refine GL.seq ?_
  refine GL.region ?_
  refine RL.asg rfl rfl rfl ?_
  refine RL.asg rfl rfl rfl ?_
  refine RL.asg rfl rfl rfl ?_
  refine RL.finG ?_
  refine GL.seq ?_
  refine GL.seq ?_
  refine GL.region ?_
  refine RL.mv rfl rfl rfl ?_
  obtain ⟨y4, e5, hm⟩ := bind_some hm
  refine RL.callC (v := .int .i64 y4) (vs := [v0]) Try_fit30 rfl rfl rfl rfl (fun U w hU hW hL => piles_Check_c U w hU _ _ (hL 0 _ _ rfl Seen.imm) _ e5) ?_
  refine RL.asg rfl rfl rfl ?_
  refine RL.finG ?_
  refine GL.seq ?_
  refine GL.region ?_
  refine RL.mv rfl rfl rfl ?_
  refine RL.binI (v := .bool (y4 != (0 : Int))) rfl rfl rfl rfl rfl ?_
  refine RL.finG ?_
  refine GL.cond rfl (fun b6 => ?_) (fun b6 => ?_)
  · replace hm := ite_t b6 hm
    refine GL.seq ?_
    refine GL.region ?_
    refine RL.mv rfl rfl rfl ?_
    refine RL.asg rfl rfl rfl ?_
    refine RL.asg rfl rfl rfl ?_
    refine RL.asg rfl rfl rfl ?_
    refine RL.finG ?_
    have hm := Option.some.inj hm
    subst hm
    exact GL.ret (Gx.ret (v := .tuple #[.int .i64 (0 : Int), .int .i64 (0 : Int), .int .i64 y4]) (res3 rfl rfl rfl rfl) (fun a w st => st.toPostC rfl))
  · replace hm := ite_f b6 hm
    refine GL.skip ?_
    refine GL.seq ?_
    refine GL.region ?_
    refine RL.asg rfl rfl rfl ?_
    refine RL.finG ?_
    refine GL.seq ?_
    refine GL.seq ?_
    refine GL.region ?_
    refine RL.mv rfl rfl rfl ?_
    refine RL.lenS 0 Try.underlying27 rfl rfl rfl rfl SlOf.imm ?_
    refine RL.mv rfl rfl rfl ?_
    refine RL.finG ?_
    refine GL.open_ 0 rfl (fun S h => len_imm S h) (fun n12 => ?_)
    obtain ⟨y13, K14, h15, h16, h17, h18, h19⟩ := bindR_K hm
    refine GL.join (ι := Int) (fun (p : Int) => [(0, v0), (6, .int .i64 p)]) (fun (p : Int) => [imm (TR.sl TR.int) v0 x0]) (fun (p : Int) => K14 (.nx p)) ?_ ?_
    · refine GL.block ?_
      refine GL.loop (ι := Nat × (List Int) × Int) (fun (p : Nat × (List Int) × Int) => [(0, v0), (6, .int .i64 p.2.2), (16, v0), (17, .int .i64 ((x0).length : Int)), (18, .int .i64 (p.1 : Int))]) (fun (p : Nat × (List Int) × Int) => [imm (TR.sl TR.int) v0 x0]) (fun (p : Nat × (List Int) × Int) => p.1 + p.2.1.length = (x0).length ∧ List.drop p.1 x0 = p.2.1 ∧ rangeL piles_Move_b1 p.2.1 p.1 p.2.2 = some y13) (fun (p : Nat × (List Int) × Int) => p.2.1.length) (0, x0, (0 : Int)) ⟨by simp, by simp, h15⟩ (fun a w st => St.cut [0] ⟨rfl, rfl, rfl, rfl, rfl, trivial⟩ (by decide) rfl st) ?_
      rintro ⟨i20, r21, x7⟩ ⟨h26, h27, h25⟩
      try dsimp only at h26 h27 h25
      refine GL.weak (env' := [(0, v0), (6, .int .i64 x7), (16, v0), (17, .int .i64 ((x0).length : Int)), (18, .int .i64 (i20 : Int))]) (L' := [imm (TR.sl TR.int) v0 x0]) (fun _ _ st => st) ?_
      refine GL.seq ?_
      refine GL.region ?_
      refine RL.binI (v := .bool (decide ((i20 : Int) < ((x0).length : Int)))) rfl rfl rfl rfl rfl ?_
      refine RL.finG ?_
      refine GL.seq ?_
      refine GL.cond rfl (fun b28 => ?_) (fun b28 => ?_)
      · have h29 : i20 < (x0).length := by have := of_decide_eq_true b28; omega
        obtain ⟨y30, r32, hr, e31, h33⟩ := drop_cons h27 rfl h29
        subst hr
        obtain ⟨z22, h23, h24⟩ := rangeL_some h25
        unfold piles_Move_b1 at h23
        try dsimp only at h23
        refine GL.skip ?_
        refine GL.seq ?_
        refine GL.block ?_
        refine GL.seq ?_
        refine GL.region ?_
        refine RL.idxS (sz := 1) 0 Try.underlying27 Try_ln3 rfl rfl rfl rfl rfl SlOf.imm (by omega) (by omega) ?_
        refine RL.ldSx (i := i20) (e' := y30) 0 Ex.ik Try_ln3 rfl rfl rfl rfl SlOf.imm e31 Part.self ?_
        refine RL.asg rfl rfl rfl ?_
        refine RL.finG ?_
        refine GL.region ?_
        refine RL.mv rfl rfl rfl ?_
        refine RL.mv rfl rfl rfl ?_
        refine RL.binI (v := .int .i64 (bits .xor .i64 x7 y30)) rfl rfl rfl rfl rfl ?_
        refine RL.asg rfl rfl rfl ?_
        refine RL.finG ?_
        refine GL.nilB ?_
        refine GL.region ?_
        refine RL.binI (v := .int .i64 ((i20 + 1 : Nat) : Int)) rfl rfl rfl rfl (binI_succ i20 (by omega)) ?_
        refine RL.mv rfl rfl rfl ?_
        refine RL.fin ?_
        cases h23
        exact fun a w st => lop_intro (i20 + 1, r32, bits .xor .i64 x7 y30) ⟨by show i20 + 1 + r32.length = (x0).length; simp only [List.length_cons] at h26; omega, h33, h24⟩ (by simp) (St.cut [0] ⟨rfl, rfl, rfl, rfl, rfl, trivial⟩ (by decide) rfl st)
      · have h29 : ¬ i20 < (x0).length := by have := of_decide_eq_false b28; omega
        obtain rfl : r21 = [] := by rw [← h27]; exact List.drop_of_length_le (by omega)
        replace h25 : some (Fl.nx _) = some y13 := h25
        cases h25
        exact GL.exit (fun a w st => mid_intro x7 h16 (St.cut [0] ⟨rfl, rfl, trivial⟩ (by decide) rfl st))
    · rintro x7 h34
      have h35 := h17 _ h34
      try dsimp only at h35
      refine GL.weak (env' := [(0, v0), (6, .int .i64 x7)]) (L' := [imm (TR.sl TR.int) v0 x0]) (fun _ _ st => st) ?_
      refine GL.seq ?_
      refine GL.seq ?_
      refine GL.region ?_
      refine RL.mv rfl rfl rfl ?_
      refine RL.lenS 0 Try.underlying27 rfl rfl rfl rfl SlOf.imm ?_
      refine RL.mv rfl rfl rfl ?_
      refine RL.finG ?_
      refine GL.open_ 0 rfl (fun S h => len_imm S h) (fun n41 => ?_)
      obtain ⟨y42, K43, h44, h45, h46, h47, h48⟩ := bindR_K h35
      refine GL.join (ι := Unit) (fun (p : Unit) => []) (fun (p : Unit) => []) (fun (p : Unit) => K43 (.nx ())) ?_ ?_
      · refine GL.block ?_
        refine GL.loop (ι := Nat × (List Int)) (fun (p : Nat × (List Int)) => [(6, .int .i64 x7), (26, v0), (27, .int .i64 ((x0).length : Int)), (28, .int .i64 (p.1 : Int))]) (fun (p : Nat × (List Int)) => [imm (TR.sl TR.int) v0 x0]) (fun (p : Nat × (List Int)) => p.1 + p.2.length = (x0).length ∧ List.drop p.1 x0 = p.2 ∧ rangeL (piles_Move_b2 x7) p.2 p.1 () = some y42) (fun (p : Nat × (List Int)) => p.2.length) (0, x0) ⟨by simp, by simp, h44⟩ (fun a w st => St.cut [0] ⟨rfl, rfl, rfl, rfl, trivial⟩ (by decide) rfl st) ?_
        rintro ⟨i49, r50⟩ ⟨h55, h56, h54⟩
        try dsimp only at h55 h56 h54
        refine GL.weak (env' := [(6, .int .i64 x7), (26, v0), (27, .int .i64 ((x0).length : Int)), (28, .int .i64 (i49 : Int))]) (L' := [imm (TR.sl TR.int) v0 x0]) (fun _ _ st => st) ?_
        refine GL.seq ?_
        refine GL.region ?_
        refine RL.binI (v := .bool (decide ((i49 : Int) < ((x0).length : Int)))) rfl rfl rfl rfl rfl ?_
        refine RL.finG ?_
        refine GL.seq ?_
        refine GL.cond rfl (fun b57 => ?_) (fun b57 => ?_)
        · have h58 : i49 < (x0).length := by have := of_decide_eq_true b57; omega
          obtain ⟨y59, r61, hr, e60, h62⟩ := drop_cons h56 rfl h58
          subst hr
          obtain ⟨z51, h52, h53⟩ := rangeL_some h54
          unfold piles_Move_b2 at h52
          try dsimp only at h52
          refine GL.skip ?_
          refine GL.seq ?_
          refine GL.block ?_
          refine GL.seq ?_
          refine GL.region ?_
          refine RL.mv rfl rfl rfl ?_
          refine RL.idxS (sz := 1) 0 Try.underlying27 Try_ln3 rfl rfl rfl rfl rfl SlOf.imm (by omega) (by omega) ?_
          refine RL.ldSx (i := i49) (e' := y59) 0 Ex.ik Try_ln3 rfl rfl rfl rfl SlOf.imm e60 Part.self ?_
          refine RL.asg rfl rfl rfl ?_
          refine RL.asg rfl rfl rfl ?_
          refine RL.finG ?_
          refine GL.seq ?_
          refine GL.region ?_
          refine RL.mv rfl rfl rfl ?_
          refine RL.mv rfl rfl rfl ?_
          refine RL.binI (v := .int .i64 (bits .xor .i64 y59 x7)) rfl rfl rfl rfl rfl ?_
          refine RL.mv rfl rfl rfl ?_
          refine RL.binI (v := .bool (decide ((bits .xor .i64 y59 x7) < y59))) rfl rfl rfl rfl rfl ?_
          refine RL.finG ?_
          refine GL.cond rfl (fun b63 => ?_) (fun b63 => ?_)
          · replace h52 := ite_t b63 h52
            refine GL.seq ?_
            refine GL.region ?_
            refine RL.mv rfl rfl rfl ?_
            refine RL.mv rfl rfl rfl ?_
            refine RL.mv rfl rfl rfl ?_
            refine RL.mv rfl rfl rfl ?_
            refine RL.binI (v := .int .i64 (bits .xor .i64 y59 x7)) rfl rfl rfl rfl rfl ?_
            refine RL.binI (v := .int .i64 (wsub y59 (bits .xor .i64 y59 x7))) rfl rfl rfl rfl rfl ?_
            refine RL.asg rfl rfl rfl ?_
            refine RL.asg rfl rfl rfl ?_
            refine RL.asg rfl rfl rfl ?_
            refine RL.finG ?_
            cases h52
            replace h53 : some (Fl.rt _) = some y42 := h53
            cases h53
            have hh := h47 _ h45
            subst hh
            exact GL.ret (Gx.ret (v := .tuple #[.int .i64 (i49 : Int), .int .i64 (wsub y59 (bits .xor .i64 y59 x7)), .int .i64 (0 : Int)]) (res3 rfl rfl rfl rfl) (fun a w st => st.toPostC rfl))
          · replace h52 := ite_f b63 h52
            refine GL.skip ?_
            refine GL.nilB ?_
            refine GL.region ?_
            refine RL.binI (v := .int .i64 ((i49 + 1 : Nat) : Int)) rfl rfl rfl rfl (binI_succ i49 (by omega)) ?_
            refine RL.mv rfl rfl rfl ?_
            refine RL.fin ?_
            cases h52
            exact fun a w st => lop_intro (i49 + 1, r61) ⟨by show i49 + 1 + r61.length = (x0).length; simp only [List.length_cons] at h55; omega, h62, h53⟩ (by simp) (St.cut [0] ⟨rfl, rfl, rfl, rfl, trivial⟩ (by decide) rfl st)
        · have h58 : ¬ i49 < (x0).length := by have := of_decide_eq_false b57; omega
          obtain rfl : r50 = [] := by rw [← h56]; exact List.drop_of_length_le (by omega)
          replace h54 : some (Fl.nx _) = some y42 := h54
          cases h54
          exact GL.exit (fun a w st => mid_intro () h45 (St.cut [] trivial (by decide) rfl st))
      · rintro ⟨⟩ h64
        have h65 := h46 _ h64
        try dsimp only at h65
        refine GL.weak (env' := []) (L' := []) (fun _ _ st => st) ?_
        refine GL.seq ?_
        refine GL.region ?_
        refine RL.asg rfl rfl rfl ?_
        refine RL.asg rfl rfl rfl ?_
        refine RL.asg rfl rfl rfl ?_
        refine RL.finG ?_
        have h65 := Option.some.inj h65
        subst h65
        exact GL.ret (Gx.ret (v := .tuple #[.int .i64 (0 : Int), .int .i64 (0 : Int), .int .i64 (4 : Int)]) (res3 rfl rfl rfl rfl) (fun a w st => st.toPostC rfl))

set_option maxHeartbeats 4000000 in
theorem piles_Wins_c (S : Hp) (w : World) (hS : S.sub w) (v0 : Value) (x0 : (List Int)) (k0 : ((TR.sl TR.int)).vrep S v0 x0) (res : Bool × Int) (hm : piles_Wins_m x0 = some res) : Calls Try.prog 19 #[v0] w (PostC w (.tuple #[.bool res.1, .int .i64 res.2])) := by
  refine calls_enter 25 Try.func19 Try.ntmps19 rfl S true [(0, v0)] [imm (TR.sl TR.int) v0 x0] rfl ⟨rfl, trivial⟩ hS ⟨k0, trivial⟩ ?_
  unfold piles_Wins_m at hm
  refine GL.seq ?_
  refine GL.region ?_
  refine RL.asg rfl rfl rfl ?_
  refine RL.asg rfl rfl rfl ?_
  refine RL.finG ?_
  refine GL.seq ?_
  refine GL.seq ?_
  refine GL.region ?_
  refine RL.mv rfl rfl rfl ?_
  obtain ⟨y4, e5, hm⟩ := bind_some hm
  refine RL.callC (v := .int .i64 y4) (vs := [v0]) Try_fit30 rfl rfl rfl rfl (fun U w hU hW hL => piles_Check_c U w hU _ _ (hL 0 _ _ rfl Seen.imm) _ e5) ?_
  refine RL.asg rfl rfl rfl ?_
  refine RL.finG ?_
  refine GL.seq ?_
  refine GL.region ?_
  refine RL.mv rfl rfl rfl ?_
  refine RL.binI (v := .bool (y4 != (0 : Int))) rfl rfl rfl rfl rfl ?_
  refine RL.finG ?_
  refine GL.cond rfl (fun b6 => ?_) (fun b6 => ?_)
  · replace hm := ite_t b6 hm
    refine GL.seq ?_
    refine GL.region ?_
    refine RL.mv rfl rfl rfl ?_
    refine RL.asg rfl rfl rfl ?_
    refine RL.asg rfl rfl rfl ?_
    refine RL.finG ?_
    have hm := Option.some.inj hm
    subst hm
    exact GL.ret (Gx.ret (v := .tuple #[.bool false, .int .i64 y4]) (res2 rfl rfl rfl) (fun a w st => st.toPostC rfl))
  · replace hm := ite_f b6 hm
    refine GL.skip ?_
    refine GL.seq ?_
    refine GL.region ?_
    refine RL.asg rfl rfl rfl ?_
    refine RL.finG ?_
    refine GL.seq ?_
    refine GL.seq ?_
    refine GL.region ?_
    refine RL.mv rfl rfl rfl ?_
    refine RL.lenS 0 Try.underlying27 rfl rfl rfl rfl SlOf.imm ?_
    refine RL.mv rfl rfl rfl ?_
    refine RL.finG ?_
    refine GL.open_ 0 rfl (fun S h => len_imm S h) (fun n12 => ?_)
    obtain ⟨y13, K14, h15, h16, h17, h18, h19⟩ := bindR_K hm
    refine GL.join (ι := Int) (fun (p : Int) => [(5, .int .i64 p)]) (fun (p : Int) => []) (fun (p : Int) => K14 (.nx p)) ?_ ?_
    · refine GL.block ?_
      refine GL.loop (ι := Nat × (List Int) × Int) (fun (p : Nat × (List Int) × Int) => [(5, .int .i64 p.2.2), (13, v0), (14, .int .i64 ((x0).length : Int)), (15, .int .i64 (p.1 : Int))]) (fun (p : Nat × (List Int) × Int) => [imm (TR.sl TR.int) v0 x0]) (fun (p : Nat × (List Int) × Int) => p.1 + p.2.1.length = (x0).length ∧ List.drop p.1 x0 = p.2.1 ∧ rangeL piles_Wins_b1 p.2.1 p.1 p.2.2 = some y13) (fun (p : Nat × (List Int) × Int) => p.2.1.length) (0, x0, (0 : Int)) ⟨by simp, by simp, h15⟩ (fun a w st => St.cut [0] ⟨rfl, rfl, rfl, rfl, trivial⟩ (by decide) rfl st) ?_
      rintro ⟨i20, r21, x7⟩ ⟨h26, h27, h25⟩
      try dsimp only at h26 h27 h25
      refine GL.weak (env' := [(5, .int .i64 x7), (13, v0), (14, .int .i64 ((x0).length : Int)), (15, .int .i64 (i20 : Int))]) (L' := [imm (TR.sl TR.int) v0 x0]) (fun _ _ st => st) ?_
      refine GL.seq ?_
      refine GL.region ?_
      refine RL.binI (v := .bool (decide ((i20 : Int) < ((x0).length : Int)))) rfl rfl rfl rfl rfl ?_
      refine RL.finG ?_
      refine GL.seq ?_
      refine GL.cond rfl (fun b28 => ?_) (fun b28 => ?_)
      · have h29 : i20 < (x0).length := by have := of_decide_eq_true b28; omega
        obtain ⟨y30, r32, hr, e31, h33⟩ := drop_cons h27 rfl h29
        subst hr
        obtain ⟨z22, h23, h24⟩ := rangeL_some h25
        unfold piles_Wins_b1 at h23
        try dsimp only at h23
        refine GL.skip ?_
        refine GL.seq ?_
        refine GL.block ?_
        refine GL.seq ?_
        refine GL.region ?_
        refine RL.idxS (sz := 1) 0 Try.underlying27 Try_ln3 rfl rfl rfl rfl rfl SlOf.imm (by omega) (by omega) ?_
        refine RL.ldSx (i := i20) (e' := y30) 0 Ex.ik Try_ln3 rfl rfl rfl rfl SlOf.imm e31 Part.self ?_
        refine RL.asg rfl rfl rfl ?_
        refine RL.finG ?_
        refine GL.region ?_
        refine RL.mv rfl rfl rfl ?_
        refine RL.mv rfl rfl rfl ?_
        refine RL.binI (v := .int .i64 (bits .xor .i64 x7 y30)) rfl rfl rfl rfl rfl ?_
        refine RL.asg rfl rfl rfl ?_
        refine RL.finG ?_
        refine GL.nilB ?_
        refine GL.region ?_
        refine RL.binI (v := .int .i64 ((i20 + 1 : Nat) : Int)) rfl rfl rfl rfl (binI_succ i20 (by omega)) ?_
        refine RL.mv rfl rfl rfl ?_
        refine RL.fin ?_
        cases h23
        exact fun a w st => lop_intro (i20 + 1, r32, bits .xor .i64 x7 y30) ⟨by show i20 + 1 + r32.length = (x0).length; simp only [List.length_cons] at h26; omega, h33, h24⟩ (by simp) (St.cut [0] ⟨rfl, rfl, rfl, rfl, trivial⟩ (by decide) rfl st)
      · have h29 : ¬ i20 < (x0).length := by have := of_decide_eq_false b28; omega
        obtain rfl : r21 = [] := by rw [← h27]; exact List.drop_of_length_le (by omega)
        replace h25 : some (Fl.nx _) = some y13 := h25
        cases h25
        exact GL.exit (fun a w st => mid_intro x7 h16 (St.cut [] ⟨rfl, trivial⟩ (by decide) rfl st))
    · rintro x7 h34
      have h35 := h17 _ h34
      try dsimp only at h35
      refine GL.weak (env' := [(5, .int .i64 x7)]) (L' := []) (fun _ _ st => st) ?_
      refine GL.seq ?_
      refine GL.region ?_
      refine RL.mv rfl rfl rfl ?_
      refine RL.binI (v := .bool (x7 != (0 : Int))) rfl rfl rfl rfl rfl ?_
      refine RL.asg rfl rfl rfl ?_
      refine RL.asg rfl rfl rfl ?_
      refine RL.finG ?_
      have h35 := Option.some.inj h35
      subst h35
      exact GL.ret (Gx.ret (v := .tuple #[.bool (x7 != (0 : Int)), .int .i64 (0 : Int)]) (res2 rfl rfl rfl) (fun a w st => st.toPostC rfl))

set_option maxHeartbeats 4000000 in
theorem slices_IndexFunc_api_Errno_api_Errno_c (S : Hp) (w : World) (hS : S.sub w) (v0 : Value) (x0 : (List Int)) (k0 : ((TR.sl TR.int)).vrep S v0 x0) (f1 : FuncId) (c1 : Array Value) (t1 : Fit Try.prog f1) (g1 : Int → Option Bool) (k1 : ∀ (U : Hp) (w' : World), Hp.le S U → U.sub w' → ∀ (a0 : Int) (rr : Bool), g1 a0 = some rr → Calls Try.prog f1 (#[.int .i64 a0] ++ c1) w' (PostV w' (.bool rr))) (res : Int) (hm : slices_IndexFunc_api_Errno_api_Errno_m x0 g1 = some res) : Calls Try.prog 34 #[v0, .func (.func f1) #[] c1] w (PostV w (.int .i64 res)) := by
  refine calls_enter 19 Try.func34 Try.ntmps34 rfl S false [(0, v0), (1, .func (.func f1) #[] c1)] [imm (TR.sl TR.int) v0 x0] rfl ⟨rfl, ⟨rfl, trivial⟩⟩ hS ⟨k0, trivial⟩ ?_
  unfold slices_IndexFunc_api_Errno_api_Errno_m at hm
  refine GL.seq ?_
  refine GL.region ?_
  refine RL.asg rfl rfl rfl ?_
  refine RL.finG ?_
  refine GL.seq ?_
  refine GL.seq ?_
  refine GL.region ?_
  refine RL.mv rfl rfl rfl ?_
  refine RL.lenS 0 Try.underlying62 rfl rfl rfl rfl SlOf.imm ?_
  refine RL.mv rfl rfl rfl ?_
  refine RL.finG ?_
  refine GL.open_ 0 rfl (fun S h => len_imm S h) (fun n12 => ?_)
  obtain ⟨y13, K14, h15, h16, h17, h18, h19⟩ := bindR_K hm
  refine GL.join (ι := Unit) (fun (p : Unit) => []) (fun (p : Unit) => []) (fun (p : Unit) => K14 (.nx ())) ?_ ?_
  · refine GL.block ?_
    refine GL.loop (ι := Nat × (List Int)) (fun (p : Nat × (List Int)) => [(0, v0), (1, .func (.func f1) #[] c1), (7, .int .i64 ((x0).length : Int)), (8, .int .i64 (p.1 : Int))]) (fun (p : Nat × (List Int)) => [imm (TR.sl TR.int) v0 x0]) (fun (p : Nat × (List Int)) => p.1 + p.2.length = (x0).length ∧ List.drop p.1 x0 = p.2 ∧ rangeL (slices_IndexFunc_api_Errno_api_Errno_b1 g1) p.2 p.1 () = some y13) (fun (p : Nat × (List Int)) => p.2.length) (0, x0) ⟨by simp, by simp, h15⟩ (fun a w st => St.cut [0] ⟨rfl, rfl, rfl, rfl, trivial⟩ (by decide) rfl st) ?_
    rintro ⟨i20, r21⟩ ⟨h26, h27, h25⟩
    try dsimp only at h26 h27 h25
    refine GL.weak (env' := [(0, v0), (1, .func (.func f1) #[] c1), (7, .int .i64 ((x0).length : Int)), (8, .int .i64 (i20 : Int))]) (L' := [imm (TR.sl TR.int) v0 x0]) (fun _ _ st => st) ?_
    refine GL.seq ?_
    refine GL.region ?_
    refine RL.binI (v := .bool (decide ((i20 : Int) < ((x0).length : Int)))) rfl rfl rfl rfl rfl ?_
    refine RL.finG ?_
    refine GL.seq ?_
    refine GL.cond rfl (fun b28 => ?_) (fun b28 => ?_)
    · have h29 : i20 < (x0).length := by have := of_decide_eq_true b28; omega
      obtain ⟨y30, r32, hr, e31, h33⟩ := drop_cons h27 rfl h29
      subst hr
      obtain ⟨z22, h23, h24⟩ := rangeL_some h25
      unfold slices_IndexFunc_api_Errno_api_Errno_b1 at h23
      try dsimp only at h23
      refine GL.skip ?_
      refine GL.seq ?_
      refine GL.block ?_
      refine GL.seq ?_
      refine GL.region ?_
      refine RL.mv rfl rfl rfl ?_
      refine RL.asg rfl rfl rfl ?_
      refine RL.finG ?_
      refine GL.seq ?_
      refine GL.region ?_
      refine RL.mv rfl rfl rfl ?_
      refine RL.mv rfl rfl rfl ?_
      refine RL.mv rfl rfl rfl ?_
      refine RL.idxS (sz := 1) 0 Try.underlying62 Try_ln28 rfl rfl rfl rfl rfl SlOf.imm (by omega) (by omega) ?_
      refine RL.ldSx (i := i20) (e' := y30) 0 Ex.ik Try_ln28 rfl rfl rfl rfl SlOf.imm e31 Part.self ?_
      obtain ⟨y36, e37, h23⟩ := bind_some h23
      refine RL.callV (v := .bool y36) (vs := [.int .i64 y30]) t1 rfl (Or.inl rfl) rfl rfl rfl rfl (fun U w hU hW hL => k1 U w hW hU y30 _ e37) ?_
      refine RL.finG ?_
      refine GL.cond rfl (fun b38 => ?_) (fun b38 => ?_)
      · replace h23 := ite_t b38 h23
        refine GL.seq ?_
        refine GL.region ?_
        refine RL.mv rfl rfl rfl ?_
        refine RL.asg rfl rfl rfl ?_
        refine RL.finG ?_
        cases h23
        replace h24 : some (Fl.rt _) = some y13 := h24
        cases h24
        have hh := h18 _ h16
        subst hh
        exact GL.ret (Gx.ret (v := .int .i64 (i20 : Int)) (res1 rfl rfl) (fun a w st => st.toPostV))
      · replace h23 := ite_f b38 h23
        refine GL.skip ?_
        refine GL.nilB ?_
        refine GL.region ?_
        refine RL.binI (v := .int .i64 ((i20 + 1 : Nat) : Int)) rfl rfl rfl rfl (binI_succ i20 (by omega)) ?_
        refine RL.mv rfl rfl rfl ?_
        refine RL.fin ?_
        cases h23
        exact fun a w st => lop_intro (i20 + 1, r32) ⟨by show i20 + 1 + r32.length = (x0).length; simp only [List.length_cons] at h26; omega, h33, h24⟩ (by simp) (St.cut [0] ⟨rfl, rfl, rfl, rfl, trivial⟩ (by decide) rfl st)
    · have h29 : ¬ i20 < (x0).length := by have := of_decide_eq_false b28; omega
      obtain rfl : r21 = [] := by rw [← h27]; exact List.drop_of_length_le (by omega)
      replace h25 : some (Fl.nx _) = some y13 := h25
      cases h25
      exact GL.exit (fun a w st => mid_intro () h16 (St.cut [] trivial (by decide) rfl st))
  · rintro ⟨⟩ h39
    have h40 := h17 _ h39
    try dsimp only at h40
    refine GL.weak (env' := []) (L' := []) (fun _ _ st => st) ?_
    refine GL.seq ?_
    refine GL.region ?_
    refine RL.asg rfl rfl rfl ?_
    refine RL.finG ?_
    have h40 := Option.some.inj h40
    subst h40
    exact GL.ret (Gx.ret (v := .int .i64 (-1 : Int)) (res1 rfl rfl) (fun a w st => st.toPostV))

set_option maxHeartbeats 4000000 in
theorem slices_ContainsFunc_api_Errno_api_Errno_c (S : Hp) (w : World) (hS : S.sub w) (v0 : Value) (x0 : (List Int)) (k0 : ((TR.sl TR.int)).vrep S v0 x0) (f1 : FuncId) (c1 : Array Value) (t1 : Fit Try.prog f1) (g1 : Int → Option Bool) (k1 : ∀ (U : Hp) (w' : World), Hp.le S U → U.sub w' → ∀ (a0 : Int) (rr : Bool), g1 a0 = some rr → Calls Try.prog f1 (#[.int .i64 a0] ++ c1) w' (PostV w' (.bool rr))) (res : Bool) (hm : slices_ContainsFunc_api_Errno_api_Errno_m x0 g1 = some res) : Calls Try.prog 31 #[v0, .func (.func f1) #[] c1] w (PostV w (.bool res)) := by
  refine calls_enter 9 Try.func31 Try.ntmps31 rfl S false [(0, v0), (1, .func (.func f1) #[] c1)] [imm (TR.sl TR.int) v0 x0] rfl ⟨rfl, ⟨rfl, trivial⟩⟩ hS ⟨k0, trivial⟩ ?_
  unfold slices_ContainsFunc_api_Errno_api_Errno_m at hm
  refine GL.seq ?_
  refine GL.region ?_
  refine RL.asg rfl rfl rfl ?_
  refine RL.finG ?_
  refine GL.seq ?_
  refine GL.region ?_
  refine RL.mv rfl rfl rfl ?_
  refine RL.mv rfl rfl rfl ?_
  obtain ⟨y5, e6, hm⟩ := bind_some hm
  refine RL.callV (v := .int .i64 y5) (vs := [v0, .func (.func f1) #[] c1]) Try_fit34 rfl (Or.inl rfl) rfl rfl rfl rfl (fun U w hU hW hL => slices_IndexFunc_api_Errno_api_Errno_c U w hU _ _ (hL 0 _ _ rfl Seen.imm) f1 c1 t1 g1 (fun U' w' hle => k1 U' w' (Hp.le_trans hW hle)) _ e6) ?_
  refine RL.binI (v := .bool (decide (y5 ≥ (0 : Int)))) rfl rfl rfl rfl rfl ?_
  refine RL.asg rfl rfl rfl ?_
  refine RL.finG ?_
  have hm := Option.some.inj hm
  subst hm
  exact GL.ret (Gx.ret (v := .bool (decide (y5 ≥ (0 : Int)))) (res1 rfl rfl) (fun a w st => st.toPostV))

set_option maxHeartbeats 4000000 in
theorem pk_good_1_c (S : Hp) (w : World) (hS : S.sub w) (x0 : Int) (res : Bool) (hm : pk_good_1_m x0 = some res) : Calls Try.prog 32 #[.int .i64 x0] w (PostC w (.bool res)) := by
  refine calls_enter 5 Try.func32 Try.ntmps32 rfl S true [(0, .int .i64 x0)] [] rfl ⟨rfl, trivial⟩ hS trivial ?_
  unfold pk_good_1_m at hm
  refine GL.seq ?_
  refine GL.region ?_
  refine RL.asg rfl rfl rfl ?_
  refine RL.finG ?_
  refine GL.seq ?_
  refine GL.region ?_
  refine RL.mv rfl rfl rfl ?_
  refine RL.binI (v := .bool (x0 != (0 : Int))) rfl rfl rfl rfl rfl ?_
  refine RL.asg rfl rfl rfl ?_
  refine RL.finG ?_
  have hm := Option.some.inj hm
  subst hm
  exact GL.ret (Gx.ret (v := .bool (x0 != (0 : Int))) (res1 rfl rfl) (fun a w st => st.toPostC rfl))

set_option maxHeartbeats 4000000 in
theorem pk_good_c (S : Hp) (w : World) (hS : S.sub w) (v0 : Value) (x0 : (List Int)) (k0 : ((TR.sl TR.int)).vrep S v0 x0) (res : Bool) (hm : pk_good_m x0 = some res) : Calls Try.prog 22 #[v0] w (PostV w (.bool res)) := by
  refine calls_enter 6 Try.func22 Try.ntmps22 rfl S false [(0, v0)] [imm (TR.sl TR.int) v0 x0] rfl ⟨rfl, trivial⟩ hS ⟨k0, trivial⟩ ?_
  unfold pk_good_m at hm
  refine GL.seq ?_
  refine GL.region ?_
  refine RL.asg rfl rfl rfl ?_
  refine RL.finG ?_
  refine GL.seq ?_
  refine GL.region ?_
  refine RL.mv rfl rfl rfl ?_
  obtain ⟨y4, e5, hm⟩ := bind_some hm
  refine RL.callV (v := .bool y4) (vs := [v0, .func (.func 32) #[] #[]]) Try_fit31 rfl (Or.inl rfl) rfl rfl rfl rfl (fun U w hU hW hL => slices_ContainsFunc_api_Errno_api_Errno_c U w hU _ _ (hL 0 _ _ rfl Seen.imm) 32 #[] Try_fit32 (fun a0 => pk_good_1_m a0) (fun U' w' hle hU' a0 rr hr => (pk_good_1_c U' w' hU' a0 rr hr).mono (fun _ _ z => z.toV)) _ e5) ?_
  refine RL.notB rfl rfl rfl ?_
  refine RL.asg rfl rfl rfl ?_
  refine RL.finG ?_
  have hm := Option.some.inj hm
  subst hm
  exact GL.ret (Gx.ret (v := .bool (!y4)) (res1 rfl rfl) (fun a w st => st.toPostV))

set_option maxHeartbeats 4000000 in
theorem pk_nims_c (S : Hp) (w : World) (hS : S.sub w)  (res : Bool) (hm : pk_nims_m = some res) : Calls Try.prog 17 #[] w (PostV w (.bool res)) := by
  refine calls_enter 33 Try.func17 Try.ntmps17 rfl S false [] [] rfl trivial hS trivial ?_
  unfold pk_nims_m at hm
  refine GL.seq ?_
  refine GL.region ?_
  refine RL.asg rfl rfl rfl ?_
  refine RL.finG ?_
  refine GL.seq ?_
  refine GL.region ?_
  refine RL.bS (t := TR.int) (vs := [.int .i64 (1 : Int), .int .i64 (2 : Int), .int .i64 (4 : Int)]) ([(1 : Int), (2 : Int), (4 : Int)] : (List Int)) Try.underlying27 Try_lo3 rfl rfl rfl rfl ⟨VR.int, ⟨VR.int, ⟨VR.int, trivial⟩⟩⟩ rfl (by decide) ?_
  intro v4
  obtain ⟨y5, e6, hm⟩ := bind_some hm
  refine RL.callC (v := .tuple #[.int .i64 y5.1, .int .i64 y5.2.1, .int .i64 y5.2.2]) (vs := [v4]) Try_fit20 rfl rfl rfl rfl (fun U w hU hW hL => piles_Move_c U w hU _ _ (hL 0 _ _ rfl Seen.own) _ e6) ?_
  refine RL.mv rfl rfl rfl ?_
  refine RL.ext rfl rfl rfl rfl ?_
  refine RL.ext rfl rfl rfl rfl ?_
  refine RL.ext rfl rfl rfl rfl ?_
  refine RL.asg rfl rfl rfl ?_
  refine RL.asg rfl rfl rfl ?_
  refine RL.asg rfl rfl rfl ?_
  refine RL.finG ?_
  refine GL.seq ?_
  refine GL.region ?_
  refine RL.bS (t := TR.int) (vs := [.int .i64 (1 : Int), .int .i64 (2 : Int), .int .i64 (3 : Int)]) ([(1 : Int), (2 : Int), (3 : Int)] : (List Int)) Try.underlying27 Try_lo3 rfl rfl rfl rfl ⟨VR.int, ⟨VR.int, ⟨VR.int, trivial⟩⟩⟩ rfl (by decide) ?_
  intro v10
  obtain ⟨y11, e12, hm⟩ := bind_some hm
  refine RL.callC (v := .tuple #[.bool y11.1, .int .i64 y11.2]) (vs := [v10]) Try_fit19 rfl rfl rfl rfl (fun U w hU hW hL => piles_Wins_c U w hU _ _ (hL 1 _ _ rfl Seen.own) _ e12) ?_
  refine RL.mv rfl rfl rfl ?_
  refine RL.ext rfl rfl rfl rfl ?_
  refine RL.ext rfl rfl rfl rfl ?_
  refine RL.asg rfl rfl rfl ?_
  refine RL.asg rfl rfl rfl ?_
  refine RL.finG ?_
  refine GL.seq ?_
  obtain ⟨y26, K27, h28, h29, h30, h31, h32⟩ := bindR_K hm
  refine GL.join (ι := Bool) (fun (p : Bool) => [(0, .bool p)]) (fun (p : Bool) => []) (fun (p : Bool) => K27 (.nx p)) ?_ ?_
  · skip
    refine GL.region ?_
    refine RL.mv rfl rfl rfl ?_
    refine RL.mv rfl rfl rfl ?_
    refine RL.bS (t := TR.int) (vs := [.int .i64 y5.2.2, .int .i64 y11.2]) ([y5.2.2, y11.2] : (List Int)) Try.underlying62 Try_lo28 rfl rfl rfl rfl ⟨VR.int, ⟨VR.int, trivial⟩⟩ rfl (by decide) ?_
    intro v33
    obtain ⟨y34, e35, h28⟩ := bind_some h28
    refine RL.callV (v := .bool y34) (vs := [v33]) Try_fit22 rfl (Or.inl rfl) rfl rfl rfl rfl (fun U w hU hW hL => pk_good_c U w hU _ _ (hL 2 _ _ rfl Seen.own) _ e35) ?_
    refine RL.mv rfl rfl rfl ?_
    refine RL.split (t := 21) rfl (fun b36 => ?_) (fun b36 => ?_)
    · replace h28 := ite_t b36 h28
      refine RL.mv rfl rfl rfl ?_
      refine RL.binI (v := .bool (y5.1 == (2 : Int))) rfl rfl rfl rfl rfl ?_
      refine RL.pickT rfl rfl rfl rfl ?_
      refine RL.mv rfl rfl rfl ?_
      refine RL.split (t := 25) rfl (fun b37 => ?_) (fun b37 => ?_)
      · replace h28 := ite_t b37 h28
        refine RL.mv rfl rfl rfl ?_
        refine RL.binI (v := .bool (y5.2.1 == (1 : Int))) rfl rfl rfl rfl rfl ?_
        refine RL.pickT rfl rfl rfl rfl ?_
        refine RL.mv rfl rfl rfl ?_
        refine RL.split (t := 29) rfl (fun b38 => ?_) (fun b38 => ?_)
        · replace h28 := ite_t b38 h28
          refine RL.mv rfl rfl rfl ?_
          refine RL.notB rfl rfl rfl ?_
          refine RL.pickT rfl rfl rfl rfl ?_
          refine RL.asg rfl rfl rfl ?_
          refine RL.fin ?_
          cases h28
          exact fun a w st => mid_intro (!y11.1) h29 (St.cut [] ⟨rfl, trivial⟩ (by decide) rfl st)
        · replace h28 := ite_f b38 h28
          refine RL.skip rfl rfl ?_
          refine RL.skip rfl rfl ?_
          refine RL.pickF rfl rfl rfl rfl ?_
          refine RL.asg rfl rfl rfl ?_
          refine RL.fin ?_
          cases h28
          exact fun a w st => mid_intro false h29 (St.cut [] ⟨rfl, trivial⟩ (by decide) rfl st)
      · replace h28 := ite_f b37 h28
        refine RL.skip rfl rfl ?_
        refine RL.skip rfl rfl ?_
        refine RL.pickF rfl rfl rfl rfl ?_
        refine RL.mv rfl rfl rfl ?_
        refine RL.skip rfl rfl ?_
        refine RL.skip rfl rfl ?_
        refine RL.pickF rfl rfl rfl rfl ?_
        refine RL.asg rfl rfl rfl ?_
        refine RL.fin ?_
        cases h28
        exact fun a w st => mid_intro false h29 (St.cut [] ⟨rfl, trivial⟩ (by decide) rfl st)
    · replace h28 := ite_f b36 h28
      refine RL.skip rfl rfl ?_
      refine RL.skip rfl rfl ?_
      refine RL.pickF rfl rfl rfl rfl ?_
      refine RL.mv rfl rfl rfl ?_
      refine RL.skip rfl rfl ?_
      refine RL.skip rfl rfl ?_
      refine RL.pickF rfl rfl rfl rfl ?_
      refine RL.mv rfl rfl rfl ?_
      refine RL.skip rfl rfl ?_
      refine RL.skip rfl rfl ?_
      refine RL.pickF rfl rfl rfl rfl ?_
      refine RL.asg rfl rfl rfl ?_
      refine RL.fin ?_
      cases h28
      exact fun a w st => mid_intro false h29 (St.cut [] ⟨rfl, trivial⟩ (by decide) rfl st)
  · rintro x25 h39
    have h40 := h30 _ h39
    try dsimp only at h40
    refine GL.weak (env' := [(0, .bool x25)]) (L' := []) (fun _ _ st => st) ?_
    have h40 := Option.some.inj h40
    subst h40
    exact GL.ret (Gx.ret (v := .bool x25) (res1 rfl rfl) (fun a w st => st.toPostV))

set_option maxHeartbeats 4000000 in
theorem ref_Rest_c (S : Hp) (w : World) (hS : S.sub w) (x0 : Int) (x1 : Int) (res : Int) (hm : ref_Rest_m x0 x1 = some res) : Calls Try.prog 28 #[.int .i64 x0, .int .i64 x1] w (PostC w (.int .i64 res)) := by
  refine calls_enter 14 Try.func28 Try.ntmps28 rfl S true [(0, .int .i64 x0), (1, .int .i64 x1)] [] rfl ⟨rfl, ⟨rfl, trivial⟩⟩ hS trivial ?_
  unfold ref_Rest_m at hm
  refine GL.seq ?_
  refine GL.region ?_
  refine RL.asg rfl rfl rfl ?_
  refine RL.finG ?_
  refine GL.seq ?_
  refine GL.region ?_
  refine RL.mv rfl rfl rfl ?_
  refine RL.mv rfl rfl rfl ?_
  obtain ⟨y5, e6, hm⟩ := bind_some hm
  replace e6 := chk_some e6
  refine RL.rem rfl rfl rfl rfl e6 ?_
  refine RL.asg rfl rfl rfl ?_
  refine RL.finG ?_
  refine GL.seq ?_
  refine GL.seq ?_
  refine GL.region ?_
  refine RL.mv rfl rfl rfl ?_
  refine RL.binI (v := .bool (decide ((Int.tmod x0 x1) < (0 : Int)))) rfl rfl rfl rfl rfl ?_
  refine RL.finG ?_
  obtain ⟨y9, K10, h11, h12, h13, h14, h15⟩ := bindR_K hm
  refine GL.join (ι := Int) (fun (p : Int) => [(0, .int .i64 p)]) (fun (p : Int) => []) (fun (p : Int) => K10 (.nx p)) ?_ ?_
  · skip
    refine GL.cond rfl (fun b16 => ?_) (fun b16 => ?_)
    · replace h11 := ite_t b16 h11
      refine GL.region ?_
      refine RL.mv rfl rfl rfl ?_
      refine RL.mv rfl rfl rfl ?_
      refine RL.binI (v := .int .i64 (wadd (Int.tmod x0 x1) x1)) rfl rfl rfl rfl rfl ?_
      refine RL.asg rfl rfl rfl ?_
      refine RL.finG ?_
      cases h11
      exact fun a w st => mid_intro (wadd (Int.tmod x0 x1) x1) h12 (St.cut [] ⟨rfl, trivial⟩ (by decide) rfl st)
    · replace h11 := ite_f b16 h11
      refine GL.skip ?_
      cases h11
      exact fun a w st => mid_intro (Int.tmod x0 x1) h12 (St.cut [] ⟨rfl, trivial⟩ (by decide) rfl st)
  · rintro x8 h17
    have h18 := h13 _ h17
    try dsimp only at h18
    refine GL.weak (env' := [(0, .int .i64 x8)]) (L' := []) (fun _ _ st => st) ?_
    refine GL.seq ?_
    refine GL.region ?_
    refine RL.mv rfl rfl rfl ?_
    refine RL.asg rfl rfl rfl ?_
    refine RL.finG ?_
    have h18 := Option.some.inj h18
    subst h18
    exact GL.ret (Gx.ret (v := .int .i64 x8) (res1 rfl rfl) (fun a w st => st.toPostC rfl))

set_option maxHeartbeats 4000000 in
theorem pk_Within_c (S : Hp) (w : World) (hS : S.sub w) (x0 : Int) (x1 : Int) (res : Int) (hm : pk_Within_m x0 x1 = some res) : Calls Try.prog 14 #[.int .i64 x0, .int .i64 x1] w (PostC w (.int .i64 res)) := by
  refine calls_enter 8 Try.func14 Try.ntmps14 rfl S true [(0, .int .i64 x0), (1, .int .i64 x1)] [] rfl ⟨rfl, ⟨rfl, trivial⟩⟩ hS trivial ?_
  unfold pk_Within_m at hm
  refine GL.seq ?_
  refine GL.region ?_
  refine RL.asg rfl rfl rfl ?_
  refine RL.finG ?_
  refine GL.seq ?_
  refine GL.region ?_
  refine RL.mv rfl rfl rfl ?_
  refine RL.mv rfl rfl rfl ?_
  obtain ⟨y5, e6, hm⟩ := bind_some hm
  refine RL.callC (v := .int .i64 y5) (vs := [.int .i64 x0, .int .i64 x1]) Try_fit28 rfl rfl rfl rfl (fun U w hU hW hL => ref_Rest_c U w hU x0 x1 _ e6) ?_
  refine RL.asg rfl rfl rfl ?_
  refine RL.finG ?_
  have hm := Option.some.inj hm
  subst hm
  exact GL.ret (Gx.ret (v := .int .i64 y5) (res1 rfl rfl) (fun a w st => st.toPostC rfl))

set_option maxHeartbeats 4000000 in
theorem piles_Table_c (S : Hp) (w : World) (hS : S.sub w) (x0 : Int) (v1 : Value) (x1 : (List Int)) (k1 : ((TR.sl TR.int)).vrep S v1 x1) (res : (List Int) × Int) (hm : piles_Table_m x0 x1 = some res) : Calls Try.prog 24 #[.int .i64 x0, v1] w (Post w S (fun (o : Value) => .tuple #[o, .int .i64 res.2]) (fun (o : Value) => [own 3 TR.int o res.1])) := by
  refine calls_enter 74 Try.func24 Try.ntmps24 rfl S false [(0, .int .i64 x0), (1, v1)] [imm (TR.sl TR.int) v1 x1] rfl ⟨rfl, ⟨rfl, trivial⟩⟩ hS ⟨k1, trivial⟩ ?_
  unfold piles_Table_m at hm
  refine GL.seq ?_
  refine GL.region ?_
  refine RL.asg rfl rfl rfl ?_
  refine RL.asg rfl rfl rfl ?_
  refine RL.finG ?_
  refine GL.seq ?_
  refine GL.seq ?_
  obtain ⟨y6, K7, h8, h9, h10, h11, h12⟩ := bindR_K hm
  refine GL.join (ι := Bool) (fun (p : Bool) => [(0, .int .i64 x0), (1, v1), (18, .bool p)]) (fun (p : Bool) => [imm (TR.sl TR.int) v1 x1]) (fun (p : Bool) => K7 (.nx p)) ?_ ?_
  · skip
    refine GL.region ?_
    refine RL.mv rfl rfl rfl ?_
    refine RL.binI (v := .bool (decide (x0 < (0 : Int)))) rfl rfl rfl rfl rfl ?_
    refine RL.mv rfl rfl rfl ?_
    refine RL.split (t := 15) rfl (fun b13 => ?_) (fun b13 => ?_)
    · replace h8 := ite_t b13 h8
      refine RL.skip rfl rfl ?_
      refine RL.skip rfl rfl ?_
      refine RL.pickT rfl rfl rfl rfl ?_
      refine RL.fin ?_
      cases h8
      exact fun a w st => mid_intro true h9 (St.cut [0] ⟨rfl, rfl, rfl, trivial⟩ (by decide) rfl st)
    · replace h8 := ite_f b13 h8
      refine RL.mv rfl rfl rfl ?_
      refine RL.binI (v := .bool (decide (x0 > (40 : Int)))) rfl rfl rfl rfl rfl ?_
      refine RL.pickF rfl rfl rfl rfl ?_
      refine RL.fin ?_
      cases h8
      exact fun a w st => mid_intro (decide (x0 > (40 : Int))) h9 (St.cut [0] ⟨rfl, rfl, rfl, trivial⟩ (by decide) rfl st)
  · rintro x5 h14
    have h15 := h10 _ h14
    try dsimp only at h15
    refine GL.weak (env' := [(0, .int .i64 x0), (1, v1), (18, .bool x5)]) (L' := [imm (TR.sl TR.int) v1 x1]) (fun _ _ st => st) ?_
    refine GL.cond rfl (fun b16 => ?_) (fun b16 => ?_)
    · replace h15 := ite_t b16 h15
      refine GL.seq ?_
      refine GL.region ?_
      refine RL.asg rfl rfl rfl ?_
      refine RL.asg rfl rfl rfl ?_
      refine RL.finG ?_
      refine GL.weak (fun a w st => st.nilOwn 3 TR.int) ?_
      have h15 := Option.some.inj h15
      subst h15
      exact GL.ret (Gx.ret (v := .tuple #[Value.slice none 0 0, .int .i64 (1 : Int)]) (res2 rfl rfl rfl) (fun a w st => (st.pick [1] (by decide) rfl).toPost (Value.slice none 0 0)))
    · replace h15 := ite_f b16 h15
      refine GL.skip ?_
      refine GL.seq ?_
      refine GL.seq ?_
      refine GL.region ?_
      refine RL.mv rfl rfl rfl ?_
      refine RL.lenS 0 Try.underlying27 rfl rfl rfl rfl SlOf.imm ?_
      refine RL.binI (v := .bool (decide (((x1).length : Int) > (6 : Int)))) rfl rfl rfl rfl rfl ?_
      refine RL.finG ?_
      refine GL.cond rfl (fun b17 => ?_) (fun b17 => ?_)
      · replace h15 := ite_t b17 h15
        refine GL.seq ?_
        refine GL.region ?_
        refine RL.asg rfl rfl rfl ?_
        refine RL.asg rfl rfl rfl ?_
        refine RL.finG ?_
        refine GL.weak (fun a w st => st.nilOwn 3 TR.int) ?_
        have h15 := Option.some.inj h15
        subst h15
        exact GL.ret (Gx.ret (v := .tuple #[Value.slice none 0 0, .int .i64 (2 : Int)]) (res2 rfl rfl rfl) (fun a w st => (st.pick [1] (by decide) rfl).toPost (Value.slice none 0 0)))
      · replace h15 := ite_f b17 h15
        refine GL.skip ?_
        refine GL.seq ?_
        refine GL.seq ?_
        refine GL.region ?_
        refine RL.mv rfl rfl rfl ?_
        refine RL.lenS 0 Try.underlying27 rfl rfl rfl rfl SlOf.imm ?_
        refine RL.mv rfl rfl rfl ?_
        refine RL.finG ?_
        refine GL.open_ 0 rfl (fun S h => len_imm S h) (fun n36 => ?_)
        obtain ⟨y37, K38, h39, h40, h41, h42, h43⟩ := bindR_K h15
        refine GL.join (ι := Unit) (fun (p : Unit) => [(0, .int .i64 x0), (1, v1)]) (fun (p : Unit) => [imm (TR.sl TR.int) v1 x1]) (fun (p : Unit) => K38 (.nx ())) ?_ ?_
        · refine GL.block ?_
          refine GL.loop (ι := Nat × (List Int)) (fun (p : Nat × (List Int)) => [(0, .int .i64 x0), (1, v1), (22, v1), (23, .int .i64 ((x1).length : Int)), (24, .int .i64 (p.1 : Int))]) (fun (p : Nat × (List Int)) => [imm (TR.sl TR.int) v1 x1]) (fun (p : Nat × (List Int)) => p.1 + p.2.length = (x1).length ∧ List.drop p.1 x1 = p.2 ∧ rangeL piles_Table_b1 p.2 p.1 () = some y37) (fun (p : Nat × (List Int)) => p.2.length) (0, x1) ⟨by simp, by simp, h39⟩ (fun a w st => St.cut [0] ⟨rfl, rfl, rfl, rfl, rfl, trivial⟩ (by decide) rfl st) ?_
          rintro ⟨i44, r45⟩ ⟨h50, h51, h49⟩
          try dsimp only at h50 h51 h49
          refine GL.weak (env' := [(0, .int .i64 x0), (1, v1), (22, v1), (23, .int .i64 ((x1).length : Int)), (24, .int .i64 (i44 : Int))]) (L' := [imm (TR.sl TR.int) v1 x1]) (fun _ _ st => st) ?_
          refine GL.seq ?_
          refine GL.region ?_
          refine RL.binI (v := .bool (decide ((i44 : Int) < ((x1).length : Int)))) rfl rfl rfl rfl rfl ?_
          refine RL.finG ?_
          refine GL.seq ?_
          refine GL.cond rfl (fun b52 => ?_) (fun b52 => ?_)
          · have h53 : i44 < (x1).length := by have := of_decide_eq_true b52; omega
            obtain ⟨y54, r56, hr, e55, h57⟩ := drop_cons h51 rfl h53
            subst hr
            obtain ⟨z46, h47, h48⟩ := rangeL_some h49
            unfold piles_Table_b1 at h47
            try dsimp only at h47
            refine GL.skip ?_
            refine GL.seq ?_
            refine GL.block ?_
            refine GL.seq ?_
            refine GL.region ?_
            refine RL.idxS (sz := 1) 0 Try.underlying27 Try_ln3 rfl rfl rfl rfl rfl SlOf.imm (by omega) (by omega) ?_
            refine RL.ldSx (i := i44) (e' := y54) 0 Ex.ik Try_ln3 rfl rfl rfl rfl SlOf.imm e55 Part.self ?_
            refine RL.asg rfl rfl rfl ?_
            refine RL.finG ?_
            refine GL.seq ?_
            obtain ⟨y61, K62, h63, h64, h65, h66, h67⟩ := bindF_K h47
            refine GL.join (ι := Bool) (fun (p : Bool) => [(0, .int .i64 x0), (1, v1), (22, v1), (23, .int .i64 ((x1).length : Int)), (24, .int .i64 (i44 : Int)), (33, .bool p)]) (fun (p : Bool) => [imm (TR.sl TR.int) v1 x1]) (fun (p : Bool) => K62 (.nx p)) ?_ ?_
            · skip
              refine GL.region ?_
              refine RL.mv rfl rfl rfl ?_
              refine RL.binI (v := .bool (decide (y54 < (1 : Int)))) rfl rfl rfl rfl rfl ?_
              refine RL.mv rfl rfl rfl ?_
              refine RL.split (t := 30) rfl (fun b68 => ?_) (fun b68 => ?_)
              · replace h63 := ite_t b68 h63
                refine RL.skip rfl rfl ?_
                refine RL.skip rfl rfl ?_
                refine RL.pickT rfl rfl rfl rfl ?_
                refine RL.fin ?_
                cases h63
                exact fun a w st => mid_intro true h64 (St.cut [0] ⟨rfl, rfl, rfl, rfl, rfl, rfl, trivial⟩ (by decide) rfl st)
              · replace h63 := ite_f b68 h63
                refine RL.mv rfl rfl rfl ?_
                refine RL.binI (v := .bool (decide (y54 > (40 : Int)))) rfl rfl rfl rfl rfl ?_
                refine RL.pickF rfl rfl rfl rfl ?_
                refine RL.fin ?_
                cases h63
                exact fun a w st => mid_intro (decide (y54 > (40 : Int))) h64 (St.cut [0] ⟨rfl, rfl, rfl, rfl, rfl, rfl, trivial⟩ (by decide) rfl st)
            · rintro x60 h69
              have h70 := h65 _ h69
              try dsimp only at h70
              refine GL.weak (env' := [(0, .int .i64 x0), (1, v1), (22, v1), (23, .int .i64 ((x1).length : Int)), (24, .int .i64 (i44 : Int)), (33, .bool x60)]) (L' := [imm (TR.sl TR.int) v1 x1]) (fun _ _ st => st) ?_
              refine GL.cond rfl (fun b71 => ?_) (fun b71 => ?_)
              · replace h70 := ite_t b71 h70
                refine GL.seq ?_
                refine GL.region ?_
                refine RL.asg rfl rfl rfl ?_
                refine RL.asg rfl rfl rfl ?_
                refine RL.finG ?_
                refine GL.weak (fun a w st => st.nilOwn 3 TR.int) ?_
                cases h70
                replace h48 : some (Fl.rt _) = some y37 := h48
                cases h48
                have hh := h42 _ h40
                subst hh
                exact GL.ret (Gx.ret (v := .tuple #[Value.slice none 0 0, .int .i64 (3 : Int)]) (res2 rfl rfl rfl) (fun a w st => (st.pick [1] (by decide) rfl).toPost (Value.slice none 0 0)))
              · replace h70 := ite_f b71 h70
                refine GL.skip ?_
                refine GL.nilB ?_
                refine GL.region ?_
                refine RL.binI (v := .int .i64 ((i44 + 1 : Nat) : Int)) rfl rfl rfl rfl (binI_succ i44 (by omega)) ?_
                refine RL.mv rfl rfl rfl ?_
                refine RL.fin ?_
                cases h70
                exact fun a w st => lop_intro (i44 + 1, r56) ⟨by show i44 + 1 + r56.length = (x1).length; simp only [List.length_cons] at h50; omega, h57, h48⟩ (by simp) (St.cut [0] ⟨rfl, rfl, rfl, rfl, rfl, trivial⟩ (by decide) rfl st)
          · have h53 : ¬ i44 < (x1).length := by have := of_decide_eq_false b52; omega
            obtain rfl : r45 = [] := by rw [← h51]; exact List.drop_of_length_le (by omega)
            replace h49 : some (Fl.nx _) = some y37 := h49
            cases h49
            exact GL.exit (fun a w st => mid_intro () h40 (St.cut [0] ⟨rfl, rfl, trivial⟩ (by decide) rfl st))
        · rintro ⟨⟩ h72
          have h73 := h41 _ h72
          try dsimp only at h73
          refine GL.weak (env' := [(0, .int .i64 x0), (1, v1)]) (L' := [imm (TR.sl TR.int) v1 x1]) (fun _ _ st => st) ?_
          refine GL.seq ?_
          refine GL.region ?_
          refine RL.mv rfl rfl rfl ?_
          refine RL.binI (v := .int .i64 (wadd x0 (1 : Int))) rfl rfl rfl rfl rfl ?_
          obtain ⟨y77, e78, h73⟩ := bind_some h73
          replace e78 := chk_some e78
          refine RL.mkS (t := TR.int) (z := (0 : Int)) Try.underlying27 Try_lo3 (fun S => rfl) rfl rfl rfl rfl e78.1 e78.2 ?_
          intro v79
          refine RL.asg rfl rfl rfl ?_
          refine RL.finG ?_
          refine GL.seq ?_
          refine GL.seq ?_
          refine GL.region ?_
          refine RL.mv rfl rfl rfl ?_
          refine RL.lenS 1 Try.underlying27 rfl rfl rfl rfl SlOf.own ?_
          refine RL.mv rfl rfl rfl ?_
          refine RL.finG ?_
          refine GL.lenOwn 1 rfl (fun n348 => ?_)
          obtain ⟨y349, K350, h351, h352, h353, h354, h355⟩ := bindR_K h73
          refine GL.join (ι := (List Int) × Value) (fun (p : (List Int) × Value) => [(8, p.2)]) (fun (p : (List Int) × Value) => [own 3 TR.int p.2 p.1]) (fun (p : (List Int) × Value) => K350 (.nx p.1)) ?_ ?_
          · refine GL.block ?_
            refine GL.loop (ι := Nat × Nat × (List Int) × Value) (fun (p : Nat × Nat × (List Int) × Value) => [(1, v1), (8, p.2.2.2), (39, .int .i64 (((List.replicate (wadd x0 (1 : Int)).toNat (0 : Int))).length : Int)), (40, .int .i64 (p.1 : Int))]) (fun (p : Nat × Nat × (List Int) × Value) => [imm (TR.sl TR.int) v1 x1, own 3 TR.int p.2.2.2 p.2.2.1]) (fun (p : Nat × Nat × (List Int) × Value) => p.1 + p.2.1 = ((List.replicate (wadd x0 (1 : Int)).toNat (0 : Int))).length ∧ rangeN (piles_Table_b2 x1) p.2.1 p.1 p.2.2.1 = some y349) (fun (p : Nat × Nat × (List Int) × Value) => p.2.1) (0, ((List.replicate (wadd x0 (1 : Int)).toNat (0 : Int))).length, (List.replicate (wadd x0 (1 : Int)).toNat (0 : Int)), v79) ⟨by simp, h351⟩ (fun a w st => St.cut [0, 1] ⟨rfl, rfl, rfl, rfl, trivial⟩ (by decide) rfl st) ?_
            rintro ⟨i356, r357, l213, v214⟩ ⟨h362, h361⟩
            try dsimp only at h362 h361
            refine GL.weak (env' := [(1, v1), (8, v214), (39, .int .i64 (((List.replicate (wadd x0 (1 : Int)).toNat (0 : Int))).length : Int)), (40, .int .i64 (i356 : Int))]) (L' := [imm (TR.sl TR.int) v1 x1, own 3 TR.int v214 l213]) (fun _ _ st => st) ?_
            refine GL.seq ?_
            refine GL.region ?_
            refine RL.binI (v := .bool (decide ((i356 : Int) < (((List.replicate (wadd x0 (1 : Int)).toNat (0 : Int))).length : Int)))) rfl rfl rfl rfl rfl ?_
            refine RL.finG ?_
            refine GL.seq ?_
            refine GL.cond rfl (fun b364 => ?_) (fun b364 => ?_)
            · have h365 : i356 < ((List.replicate (wadd x0 (1 : Int)).toNat (0 : Int))).length := by have := of_decide_eq_true b364; omega
              obtain ⟨r366, hr⟩ : ∃ m, r357 = m + 1 := ⟨r357 - 1, by omega⟩
              subst hr
              obtain ⟨z358, h359, h360⟩ := rangeN_some h361
              unfold piles_Table_b2 at h359
              try dsimp only at h359
              refine GL.skip ?_
              refine GL.seq ?_
              refine GL.block ?_
              refine GL.seq ?_
              refine GL.region ?_
              refine RL.mv rfl rfl rfl ?_
              refine RL.asg rfl rfl rfl ?_
              refine RL.finG ?_
              refine GL.seq ?_
              refine GL.region ?_
              refine RL.alloc (t := (TR.arr 7 TR.bool)) (z := (List.replicate 7 false)) Try_lo65 (fun S => ⟨rfl, ⟨_, _, rfl, rfl, ⟨_, _, rfl, rfl, ⟨_, _, rfl, rfl, ⟨_, _, rfl, rfl, ⟨_, _, rfl, rfl, ⟨_, _, rfl, rfl, ⟨_, _, rfl, rfl, rfl⟩⟩⟩⟩⟩⟩⟩⟩) rfl rfl rfl ?_
              intro v368
              refine RL.finG ?_
              refine GL.seq ?_
              refine GL.seq ?_
              refine GL.region ?_
              refine RL.mv rfl rfl rfl ?_
              refine RL.lenS 0 Try.underlying27 rfl rfl rfl rfl SlOf.imm ?_
              refine RL.mv rfl rfl rfl ?_
              refine RL.finG ?_
              refine GL.open_ 0 rfl (fun S h => len_imm S h) (fun n396 => ?_)
              obtain ⟨y397, K398, h399, h400, h401, h402, h403⟩ := bindF_K h359
              refine GL.join (ι := (List Bool)) (fun (p : (List Bool)) => [(1, v1), (8, v214), (9, .int .i64 (i356 : Int)), (10, v368), (39, .int .i64 (((List.replicate (wadd x0 (1 : Int)).toNat (0 : Int))).length : Int)), (40, .int .i64 (i356 : Int))]) (fun (p : (List Bool)) => [imm (TR.sl TR.int) v1 x1, own 3 TR.int v214 l213, obox 65 (TR.arr 7 TR.bool) v368 p]) (fun (p : (List Bool)) => K398 (.nx p)) ?_ ?_
              · refine GL.block ?_
                refine GL.loop (ι := Nat × (List Int) × (List Bool)) (fun (p : Nat × (List Int) × (List Bool)) => [(1, v1), (8, v214), (9, .int .i64 (i356 : Int)), (10, v368), (39, .int .i64 (((List.replicate (wadd x0 (1 : Int)).toNat (0 : Int))).length : Int)), (40, .int .i64 (i356 : Int)), (43, v1), (44, .int .i64 ((x1).length : Int)), (45, .int .i64 (p.1 : Int))]) (fun (p : Nat × (List Int) × (List Bool)) => [imm (TR.sl TR.int) v1 x1, own 3 TR.int v214 l213, obox 65 (TR.arr 7 TR.bool) v368 p.2.2]) (fun (p : Nat × (List Int) × (List Bool)) => p.1 + p.2.1.length = (x1).length ∧ List.drop p.1 x1 = p.2.1 ∧ rangeL (piles_Table_b3 i356 l213) p.2.1 p.1 p.2.2 = some y397) (fun (p : Nat × (List Int) × (List Bool)) => p.2.1.length) (0, x1, (List.replicate 7 false)) ⟨by simp, by simp, h399⟩ (fun a w st => St.cut [0, 1, 2] ⟨rfl, rfl, rfl, rfl, rfl, rfl, rfl, rfl, rfl, trivial⟩ (by decide) rfl st) ?_
                rintro ⟨i404, r405, l382⟩ ⟨h410, h411, h409⟩
                try dsimp only at h410 h411 h409
                refine GL.weak (env' := [(1, v1), (8, v214), (9, .int .i64 (i356 : Int)), (10, v368), (39, .int .i64 (((List.replicate (wadd x0 (1 : Int)).toNat (0 : Int))).length : Int)), (40, .int .i64 (i356 : Int)), (43, v1), (44, .int .i64 ((x1).length : Int)), (45, .int .i64 (i404 : Int))]) (L' := [imm (TR.sl TR.int) v1 x1, own 3 TR.int v214 l213, obox 65 (TR.arr 7 TR.bool) v368 l382]) (fun _ _ st => st) ?_
                refine GL.seq ?_
                refine GL.region ?_
                refine RL.binI (v := .bool (decide ((i404 : Int) < ((x1).length : Int)))) rfl rfl rfl rfl rfl ?_
                refine RL.finG ?_
                refine GL.seq ?_
                refine GL.cond rfl (fun b412 => ?_) (fun b412 => ?_)
                · have h413 : i404 < (x1).length := by have := of_decide_eq_true b412; omega
                  obtain ⟨y414, r416, hr, e415, h417⟩ := drop_cons h411 rfl h413
                  subst hr
                  obtain ⟨z406, h407, h408⟩ := rangeL_some h409
                  unfold piles_Table_b3 at h407
                  try dsimp only at h407
                  refine GL.skip ?_
                  refine GL.seq ?_
                  refine GL.block ?_
                  refine GL.seq ?_
                  refine GL.region ?_
                  refine RL.idxS (sz := 1) 0 Try.underlying27 Try_ln3 rfl rfl rfl rfl rfl SlOf.imm (by omega) (by omega) ?_
                  refine RL.ldSx (i := i404) (e' := y414) 0 Ex.ik Try_ln3 rfl rfl rfl rfl SlOf.imm e415 Part.self ?_
                  refine RL.asg rfl rfl rfl ?_
                  refine RL.finG ?_
                  refine GL.seq ?_
                  refine GL.region ?_
                  refine RL.mv rfl rfl rfl ?_
                  refine RL.mv rfl rfl rfl ?_
                  refine RL.binI (v := .bool (decide (y414 ≤ (i356 : Int)))) rfl rfl rfl rfl rfl ?_
                  refine RL.finG ?_
                  refine GL.cond rfl (fun b418 => ?_) (fun b418 => ?_)
                  · replace h407 := ite_t b418 h407
                    refine GL.region ?_
                    refine RL.mv rfl rfl rfl ?_
                    refine RL.mv rfl rfl rfl ?_
                    refine RL.mv rfl rfl rfl ?_
                    refine RL.binI (v := .int .i64 (wsub (i356 : Int) y414)) rfl rfl rfl rfl rfl ?_
                    obtain ⟨y423, e424, h407⟩ := bind_some h407
                    refine RL.idxS (sz := 1) 1 Try.underlying27 Try_ln3 rfl rfl rfl rfl rfl SlOf.own (idx_some e424).1 (idx_some e424).2.1 ?_
                    refine RL.ldSx (i := (wsub (i356 : Int) y414).toNat) (e' := y423) 1 Ex.ik Try_ln3 rfl rfl rfl rfl SlOf.own (idx_some e424).2.2 Part.self ?_
                    obtain ⟨y425, e426, h407⟩ := bind_some h407
                    refine RL.idxA0 (sz := 1) (t' := TR.bool) 2 Try.underlying65 Try_ln4 rfl rfl rfl PtOf.obox rfl rfl Part.self (idx_some e426).1 (idx_some e426).2.1 ?_
                    refine RL.stP (off := ((y423).toNat * 1)) (e' := true) (d1 := (List.set l382 ((y423).toNat) true)) (r := TR.bool) 2 Try_ln4 rfl rfl (Or.inl rfl) rfl VR.bool rfl (Upd.arr (idx_some e426).2.2 Upd.self) ?_
                    refine RL.finG ?_
                    refine GL.nilB ?_
                    refine GL.region ?_
                    refine RL.binI (v := .int .i64 ((i404 + 1 : Nat) : Int)) rfl rfl rfl rfl (binI_succ i404 (by omega)) ?_
                    refine RL.mv rfl rfl rfl ?_
                    refine RL.fin ?_
                    cases h407
                    exact fun a w st => lop_intro (i404 + 1, r416, (List.set l382 ((y423).toNat) true)) ⟨by show i404 + 1 + r416.length = (x1).length; simp only [List.length_cons] at h410; omega, h417, h408⟩ (by simp) (St.cut [0, 1, 2] ⟨rfl, rfl, rfl, rfl, rfl, rfl, rfl, rfl, rfl, trivial⟩ (by decide) rfl st)
                  · replace h407 := ite_f b418 h407
                    refine GL.skip ?_
                    refine GL.nilB ?_
                    refine GL.region ?_
                    refine RL.binI (v := .int .i64 ((i404 + 1 : Nat) : Int)) rfl rfl rfl rfl (binI_succ i404 (by omega)) ?_
                    refine RL.mv rfl rfl rfl ?_
                    refine RL.fin ?_
                    cases h407
                    exact fun a w st => lop_intro (i404 + 1, r416, l382) ⟨by show i404 + 1 + r416.length = (x1).length; simp only [List.length_cons] at h410; omega, h417, h408⟩ (by simp) (St.cut [0, 1, 2] ⟨rfl, rfl, rfl, rfl, rfl, rfl, rfl, rfl, rfl, trivial⟩ (by decide) rfl st)
                · have h413 : ¬ i404 < (x1).length := by have := of_decide_eq_false b412; omega
                  obtain rfl : r405 = [] := by rw [← h411]; exact List.drop_of_length_le (by omega)
                  replace h409 : some (Fl.nx _) = some y397 := h409
                  cases h409
                  exact GL.exit (fun a w st => mid_intro l382 h400 (St.cut [0, 1, 2] ⟨rfl, rfl, rfl, rfl, rfl, rfl, trivial⟩ (by decide) rfl st))
              · rintro l382 h427
                have h428 := h401 _ h427
                try dsimp only at h428
                refine GL.weak (env' := [(1, v1), (8, v214), (9, .int .i64 (i356 : Int)), (10, v368), (39, .int .i64 (((List.replicate (wadd x0 (1 : Int)).toNat (0 : Int))).length : Int)), (40, .int .i64 (i356 : Int))]) (L' := [imm (TR.sl TR.int) v1 x1, own 3 TR.int v214 l213, obox 65 (TR.arr 7 TR.bool) v368 l382]) (fun _ _ st => st) ?_
                obtain ⟨y465, K466, h467, h468, h469, h470, h471⟩ := bindF_K h428
                refine GL.join (ι := (List Int) × Value) (fun (p : (List Int) × Value) => [(1, v1), (8, p.2), (39, .int .i64 (((List.replicate (wadd x0 (1 : Int)).toNat (0 : Int))).length : Int)), (40, .int .i64 (i356 : Int))]) (fun (p : (List Int) × Value) => [imm (TR.sl TR.int) v1 x1, own 3 TR.int p.2 p.1]) (fun (p : (List Int) × Value) => K466 (.nx p.1)) ?_ ?_
                · refine GL.block ?_
                  refine GL.loop (ι := Nat × (List Int) × Value) (fun (p : Nat × (List Int) × Value) => [(1, v1), (8, p.2.2), (9, .int .i64 (i356 : Int)), (10, v368), (39, .int .i64 (((List.replicate (wadd x0 (1 : Int)).toNat (0 : Int))).length : Int)), (40, .int .i64 (i356 : Int))]) (fun (p : Nat × (List Int) × Value) => [imm (TR.sl TR.int) v1 x1, own 3 TR.int p.2.2 p.2.1, obox 65 (TR.arr 7 TR.bool) v368 l382]) (fun (p : Nat × (List Int) × Value) => loopM (piles_Table_b4 i356 l382) p.1 p.2.1 = some y465) (fun (p : Nat × (List Int) × Value) => p.1) (1048576, l213, v214) h467 (fun a w st => St.cut [0, 1, 2] ⟨rfl, rfl, rfl, rfl, rfl, rfl, trivial⟩ (by decide) rfl st) ?_
                  rintro ⟨r473, l446, v447⟩ h477
                  try dsimp only at h477
                  refine GL.weak (env' := [(1, v1), (8, v447), (9, .int .i64 (i356 : Int)), (10, v368), (39, .int .i64 (((List.replicate (wadd x0 (1 : Int)).toNat (0 : Int))).length : Int)), (40, .int .i64 (i356 : Int))]) (L' := [imm (TR.sl TR.int) v1 x1, own 3 TR.int v447 l446, obox 65 (TR.arr 7 TR.bool) v368 l382]) (fun _ _ st => st) ?_
                  obtain ⟨r480, z474, hr, h475, h476⟩ := loopM_some h477
                  subst hr
                  unfold piles_Table_b4 at h475
                  try dsimp only at h475
                  refine GL.seq ?_
                  refine GL.seq ?_
                  refine GL.region ?_
                  refine RL.mv rfl rfl rfl ?_
                  refine RL.mv rfl rfl rfl ?_
                  obtain ⟨y485, e486, h475⟩ := bind_some h475
                  refine RL.idxS (sz := 1) 1 Try.underlying27 Try_ln3 rfl rfl rfl rfl rfl SlOf.own (idx_some e486).1 (idx_some e486).2.1 ?_
                  refine RL.ldSx (i := i356) (e' := y485) 1 Ex.ik Try_ln3 rfl rfl rfl rfl SlOf.own (idx_some e486).2.2 Part.self ?_
                  obtain ⟨y487, e488, h475⟩ := bind_some h475
                  refine RL.idxA0 (sz := 1) (t' := TR.bool) 2 Try.underlying65 Try_ln4 rfl rfl rfl PtOf.obox rfl rfl Part.self (idx_some e488).1 (idx_some e488).2.1 ?_
                  refine RL.ldPx (off := ((y485).toNat * 1)) (e' := y487) 2 Ex.bool Try_ln4 rfl rfl (Or.inl rfl) rfl PtOf.obox (Part.arr (idx_some e488).2.2 Part.self) ?_
                  refine RL.finG ?_
                  refine GL.cond rfl (fun b489 => ?_) (fun b489 => ?_)
                  · replace h475 := ite_t b489 h475
                    refine GL.skip ?_
                    refine GL.block ?_
                    refine GL.region ?_
                    refine RL.mv rfl rfl rfl ?_
                    refine RL.mv rfl rfl rfl ?_
                    obtain ⟨y494, e495, h475⟩ := bind_some h475
                    refine RL.idxS (sz := 1) 1 Try.underlying27 Try_ln3 rfl rfl rfl rfl rfl SlOf.own (idx_some e495).1 (idx_some e495).2.1 ?_
                    refine RL.ldSx (i := i356) (e' := y494) 1 Ex.ik Try_ln3 rfl rfl rfl rfl SlOf.own (idx_some e495).2.2 Part.self ?_
                    refine RL.binI (v := .int .i64 (wadd y494 (1 : Int))) rfl rfl rfl rfl rfl ?_
                    obtain ⟨y496, e497, h475⟩ := bind_some h475
                    refine RL.idxS (sz := 1) 1 Try.underlying27 Try_ln3 rfl rfl rfl rfl rfl SlOf.own (idx_some e497).1 (idx_some e497).2.1 ?_
                    refine RL.stS (i := i356) (e' := wadd y494 (1 : Int)) (e1 := wadd y494 (1 : Int)) (r := TR.int) 1 Try_ln3 rfl rfl rfl rfl VR.int rfl (idx_some e497).2.2 Upd.self ?_
                    refine RL.finG ?_
                    refine GL.nilB ?_
                    cases h475
                    exact fun a w st => lop_intro (r480, (List.set l446 i356 (wadd y494 (1 : Int))), v447) h476 (by simp) (St.cut [0, 1, 2] ⟨rfl, rfl, rfl, rfl, rfl, rfl, trivial⟩ (by decide) rfl st)
                  · replace h475 := ite_f b489 h475
                    cases h475
                    replace h476 : some (Fl.nx _) = some y465 := h476
                    cases h476
                    exact GL.exit (fun a w st => mid_intro (l446, v447) h468 (St.cut [0, 1] ⟨rfl, rfl, rfl, rfl, trivial⟩ (by decide) rfl st))
                · rintro ⟨l446, v447⟩ h498
                  have h499 := h469 _ h498
                  try dsimp only at h499
                  refine GL.weak (env' := [(1, v1), (8, v447), (39, .int .i64 (((List.replicate (wadd x0 (1 : Int)).toNat (0 : Int))).length : Int)), (40, .int .i64 (i356 : Int))]) (L' := [imm (TR.sl TR.int) v1 x1, own 3 TR.int v447 l446]) (fun _ _ st => st) ?_
                  refine GL.nilB ?_
                  refine GL.region ?_
                  refine RL.binI (v := .int .i64 ((i356 + 1 : Nat) : Int)) rfl rfl rfl rfl (binI_succ i356 (by omega)) ?_
                  refine RL.mv rfl rfl rfl ?_
                  refine RL.fin ?_
                  cases h499
                  exact fun a w st => lop_intro (i356 + 1, r366, l446, v447) ⟨by show i356 + 1 + r366 = ((List.replicate (wadd x0 (1 : Int)).toNat (0 : Int))).length; omega, h360⟩ (by simp) (St.cut [0, 1] ⟨rfl, rfl, rfl, rfl, trivial⟩ (by decide) rfl st)
            · have h365 : ¬ i356 < ((List.replicate (wadd x0 (1 : Int)).toNat (0 : Int))).length := by have := of_decide_eq_false b364; omega
              obtain rfl : r357 = 0 := by omega
              replace h361 : some (Fl.nx _) = some y349 := h361
              cases h361
              exact GL.exit (fun a w st => mid_intro (l213, v214) h352 (St.cut [1] ⟨rfl, trivial⟩ (by decide) rfl st))
          · rintro ⟨l213, v214⟩ h500
            have h501 := h353 _ h500
            try dsimp only at h501
            refine GL.weak (env' := [(8, v214)]) (L' := [own 3 TR.int v214 l213]) (fun _ _ st => st) ?_
            refine GL.seq ?_
            refine GL.region ?_
            refine RL.mv rfl rfl rfl ?_
            refine RL.asg rfl rfl rfl ?_
            refine RL.asg rfl rfl rfl ?_
            refine RL.finG ?_
            have h501 := Option.some.inj h501
            subst h501
            exact GL.ret (Gx.ret (v := .tuple #[v214, .int .i64 (0 : Int)]) (res2 rfl rfl rfl) (fun a w st => (st.pick [0] (by decide) rfl).toPost v214))

set_option maxHeartbeats 4000000 in
theorem pk_PilesSum_c (S : Hp) (w : World) (hS : S.sub w) (x0 : Int) (x1 : Int) (v2 : Value) (x2 : (List Int)) (k2 : ((TR.sl TR.int)).vrep S v2 x2) (res : Bool) (hm : pk_PilesSum_m x0 x1 x2 = some res) : Calls Try.prog 9 #[.int .i64 x0, .int .i64 x1, v2] w (PostV w (.bool res)) := by
  refine calls_enter 114 Try.func9 Try.ntmps9 rfl S false [(0, .int .i64 x0), (1, .int .i64 x1), (2, v2)] [imm (TR.sl TR.int) v2 x2] rfl ⟨rfl, ⟨rfl, ⟨rfl, trivial⟩⟩⟩ hS ⟨k2, trivial⟩ ?_
  unfold pk_PilesSum_m at hm
  refine GL.seq ?_
  refine GL.region ?_
  refine RL.asg rfl rfl rfl ?_
  refine RL.finG ?_
  refine GL.seq ?_
  refine GL.seq ?_
  refine GL.region ?_
  obtain ⟨y6, e7, hm⟩ := bind_some hm
  refine RL.callV (v := .bool y6) (vs := []) Try_fit17 rfl (Or.inl rfl) rfl rfl rfl rfl (fun U w hU hW hL => pk_nims_c U w hU  _ e7) ?_
  refine RL.notB rfl rfl rfl ?_
  refine RL.finG ?_
  refine GL.cond rfl (fun b8 => ?_) (fun b8 => ?_)
  · replace hm := ite_t b8 hm
    refine GL.seq ?_
    refine GL.region ?_
    refine RL.asg rfl rfl rfl ?_
    refine RL.finG ?_
    have hm := Option.some.inj hm
    subst hm
    exact GL.ret (Gx.ret (v := .bool false) (res1 rfl rfl) (fun a w st => st.toPostV))
  · replace hm := ite_f b8 hm
    refine GL.skip ?_
    refine GL.seq ?_
    refine GL.region ?_
    refine RL.mv rfl rfl rfl ?_
    obtain ⟨y13, e14, hm⟩ := bind_some hm
    refine RL.callC (v := .int .i64 y13) (vs := [.int .i64 x0, .int .i64 (9 : Int)]) Try_fit14 rfl rfl rfl rfl (fun U w hU hW hL => pk_Within_c U w hU x0 (9 : Int) _ e14) ?_
    refine RL.mv rfl rfl rfl ?_
    obtain ⟨y15, e16, hm⟩ := bind_some hm
    refine RL.callC (v := .int .i64 y15) (vs := [.int .i64 x1, .int .i64 (9 : Int)]) Try_fit14 rfl rfl rfl rfl (fun U w hU hW hL => pk_Within_c U w hU x1 (9 : Int) _ e16) ?_
    refine RL.asg rfl rfl rfl ?_
    refine RL.asg rfl rfl rfl ?_
    refine RL.finG ?_
    refine GL.seq ?_
    refine GL.region ?_
    refine RL.asg rfl rfl rfl ?_
    refine RL.finG ?_
    refine GL.seq ?_
    refine GL.seq ?_
    refine GL.region ?_
    refine RL.mv rfl rfl rfl ?_
    refine RL.mv rfl rfl rfl ?_
    refine RL.lenS 0 Try.underlying27 rfl rfl rfl rfl SlOf.imm ?_
    refine RL.minI rfl rfl rfl rfl ?_
    obtain ⟨y20, e21, hm⟩ := bind_some hm
    replace e21 := chk_some e21
    refine RL.slc (t := TR.int) (i := 0) (j := (if (6 : Int) < ((x2).length : Int) then (6 : Int) else ((x2).length : Int)).toNat) (sz := 1) 0 Try.underlying27 Try_ln3 rfl rfl rfl rfl (Or.inl ⟨rfl, rfl⟩) (Or.inr ⟨_, _, rfl, by rw [Int.toNat_of_nonneg (by omega)]; rfl⟩) rfl (by omega) (by omega) ?_
    intro v22
    refine RL.lenS 1 Try.underlying27 rfl rfl rfl rfl SlOf.imm ?_
    refine RL.mv rfl rfl rfl ?_
    refine RL.finG ?_
    refine GL.weak (fun a w st => st.nilOwn 3 TR.int) ?_
    refine GL.open_ 1 rfl (fun S h => len_imm S h) (fun n41 => ?_)
    obtain ⟨y42, K43, h44, h45, h46, h47, h48⟩ := bindR_K hm
    refine GL.join (ι := (List Int) × Value) (fun (p : (List Int) × Value) => [(0, .int .i64 y13), (1, .int .i64 y15), (7, p.2)]) (fun (p : (List Int) × Value) => [own 3 TR.int p.2 p.1]) (fun (p : (List Int) × Value) => K43 (.nx p.1)) ?_ ?_
    · refine GL.block ?_
      refine GL.loop (ι := Nat × (List Int) × (List Int) × Value) (fun (p : Nat × (List Int) × (List Int) × Value) => [(0, .int .i64 y13), (1, .int .i64 y15), (7, p.2.2.2), (27, v22), (28, .int .i64 ((((List.take ((if (6 : Int) < ((x2).length : Int) then (6 : Int) else ((x2).length : Int)).toNat) x2).drop 0)).length : Int)), (29, .int .i64 (p.1 : Int))]) (fun (p : Nat × (List Int) × (List Int) × Value) => [own 3 TR.int p.2.2.2 p.2.2.1, imm (TR.sl TR.int) v22 ((List.take ((if (6 : Int) < ((x2).length : Int) then (6 : Int) else ((x2).length : Int)).toNat) x2).drop 0)]) (fun (p : Nat × (List Int) × (List Int) × Value) => p.1 + p.2.1.length = (((List.take ((if (6 : Int) < ((x2).length : Int) then (6 : Int) else ((x2).length : Int)).toNat) x2).drop 0)).length ∧ List.drop p.1 ((List.take ((if (6 : Int) < ((x2).length : Int) then (6 : Int) else ((x2).length : Int)).toNat) x2).drop 0) = p.2.1 ∧ rangeL pk_PilesSum_b1 p.2.1 p.1 p.2.2.1 = some y42) (fun (p : Nat × (List Int) × (List Int) × Value) => p.2.1.length) (0, ((List.take ((if (6 : Int) < ((x2).length : Int) then (6 : Int) else ((x2).length : Int)).toNat) x2).drop 0), [], Value.slice none 0 0) ⟨by simp, by simp, h44⟩ (fun a w st => St.cut [2, 1] ⟨rfl, rfl, rfl, rfl, rfl, rfl, trivial⟩ (by decide) rfl st) ?_
      rintro ⟨i49, r50, l23, v24⟩ ⟨h55, h56, h54⟩
      try dsimp only at h55 h56 h54
      refine GL.weak (env' := [(0, .int .i64 y13), (1, .int .i64 y15), (7, v24), (27, v22), (28, .int .i64 ((((List.take ((if (6 : Int) < ((x2).length : Int) then (6 : Int) else ((x2).length : Int)).toNat) x2).drop 0)).length : Int)), (29, .int .i64 (i49 : Int))]) (L' := [own 3 TR.int v24 l23, imm (TR.sl TR.int) v22 ((List.take ((if (6 : Int) < ((x2).length : Int) then (6 : Int) else ((x2).length : Int)).toNat) x2).drop 0)]) (fun _ _ st => st) ?_
      refine GL.seq ?_
      refine GL.region ?_
      refine RL.binI (v := .bool (decide ((i49 : Int) < ((((List.take ((if (6 : Int) < ((x2).length : Int) then (6 : Int) else ((x2).length : Int)).toNat) x2).drop 0)).length : Int)))) rfl rfl rfl rfl rfl ?_
      refine RL.finG ?_
      refine GL.seq ?_
      refine GL.cond rfl (fun b57 => ?_) (fun b57 => ?_)
      · have h58 : i49 < (((List.take ((if (6 : Int) < ((x2).length : Int) then (6 : Int) else ((x2).length : Int)).toNat) x2).drop 0)).length := by have := of_decide_eq_true b57; omega
        obtain ⟨y59, r61, hr, e60, h62⟩ := drop_cons h56 rfl h58
        subst hr
        obtain ⟨z51, h52, h53⟩ := rangeL_some h54
        unfold pk_PilesSum_b1 at h52
        try dsimp only at h52
        refine GL.skip ?_
        refine GL.seq ?_
        refine GL.block ?_
        refine GL.seq ?_
        refine GL.region ?_
        refine RL.idxS (sz := 1) 1 Try.underlying27 Try_ln3 rfl rfl rfl rfl rfl SlOf.imm (by omega) (by omega) ?_
        refine RL.ldSx (i := i49) (e' := y59) 1 Ex.ik Try_ln3 rfl rfl rfl rfl SlOf.imm e60 Part.self ?_
        refine RL.asg rfl rfl rfl ?_
        refine RL.finG ?_
        refine GL.region ?_
        refine RL.mv rfl rfl rfl ?_
        refine RL.mv rfl rfl rfl ?_
        obtain ⟨y69, e70, h52⟩ := bind_some h52
        refine RL.callC (v := .int .i64 y69) (vs := [.int .i64 y59, .int .i64 (8 : Int)]) Try_fit14 rfl rfl rfl rfl (fun U w hU hW hL => pk_Within_c U w hU y59 (8 : Int) _ e70) ?_
        refine RL.binI (v := .int .i64 (wadd (1 : Int) y69)) rfl rfl rfl rfl rfl ?_
        refine RL.bS (t := TR.int) (vs := [.int .i64 (wadd (1 : Int) y69)]) ([wadd (1 : Int) y69] : (List Int)) Try.underlying27 Try_lo3 rfl rfl rfl rfl ⟨VR.int, trivial⟩ rfl (by decide) ?_
        intro v71
        obtain ⟨y72, e73, h52⟩ := bind_some h52
        replace e73 := chk_some e73
        refine RL.app 0 2 Try.underlying27 Try_lo3 rfl rfl rfl rfl rfl rfl rfl SlOf.own e73 ?_
        intro v74
        refine RL.asg rfl rfl rfl ?_
        refine RL.finG ?_
        refine GL.nilB ?_
        refine GL.region ?_
        refine RL.binI (v := .int .i64 ((i49 + 1 : Nat) : Int)) rfl rfl rfl rfl (binI_succ i49 (by omega)) ?_
        refine RL.mv rfl rfl rfl ?_
        refine RL.fin ?_
        cases h52
        exact fun a w st => lop_intro (i49 + 1, r61, (l23 ++ ([wadd (1 : Int) y69] : (List Int))), v74) ⟨by show i49 + 1 + r61.length = (((List.take ((if (6 : Int) < ((x2).length : Int) then (6 : Int) else ((x2).length : Int)).toNat) x2).drop 0)).length; simp only [List.length_cons] at h55; omega, h62, h53⟩ (by simp) (St.cut [0, 1] ⟨rfl, rfl, rfl, rfl, rfl, rfl, trivial⟩ (by decide) rfl st)
      · have h58 : ¬ i49 < (((List.take ((if (6 : Int) < ((x2).length : Int) then (6 : Int) else ((x2).length : Int)).toNat) x2).drop 0)).length := by have := of_decide_eq_false b57; omega
        obtain rfl : r50 = [] := by rw [← h56]; exact List.drop_of_length_le (by omega)
        replace h54 : some (Fl.nx _) = some y42 := h54
        cases h54
        exact GL.exit (fun a w st => mid_intro (l23, v24) h45 (St.cut [0] ⟨rfl, rfl, rfl, trivial⟩ (by decide) rfl st))
    · rintro ⟨l23, v24⟩ h75
      have h76 := h46 _ h75
      try dsimp only at h76
      refine GL.weak (env' := [(0, .int .i64 y13), (1, .int .i64 y15), (7, v24)]) (L' := [own 3 TR.int v24 l23]) (fun _ _ st => st) ?_
      refine GL.seq ?_
      refine GL.region ?_
      refine RL.mv rfl rfl rfl ?_
      refine RL.weak (fun a w st => st.freeze 0 rfl) ?_
      obtain ⟨y80, e81, h76⟩ := bind_some h76
      refine RL.call (vs := [.int .i64 (8 : Int), v24]) Try_fit24 rfl rfl rfl rfl rfl (fun S f w hS hW hi => piles_Table_c S w hS (8 : Int) _ _ (hi 0 _ rfl) _ e81) ?_
      intro v82
      refine RL.mv rfl rfl rfl ?_
      refine RL.ext rfl rfl rfl rfl ?_
      refine RL.ext rfl rfl rfl rfl ?_
      refine RL.asg rfl rfl rfl ?_
      refine RL.asg rfl rfl rfl ?_
      refine RL.finG ?_
      refine GL.seq ?_
      refine GL.seq ?_
      obtain ⟨y86, K87, h88, h89, h90, h91, h92⟩ := bindR_K h76
      refine GL.join (ι := Bool) (fun (p : Bool) => [(0, .int .i64 y13), (1, .int .i64 y15), (7, v24), (10, v82), (51, .bool p)]) (fun (p : Bool) => [imm (TR.sl TR.int) v24 l23, own 3 TR.int v82 y80.1]) (fun (p : Bool) => K87 (.nx p)) ?_ ?_
      · skip
        refine GL.region ?_
        refine RL.mv rfl rfl rfl ?_
        refine RL.binI (v := .bool (y80.2 != (0 : Int))) rfl rfl rfl rfl rfl ?_
        refine RL.mv rfl rfl rfl ?_
        refine RL.split (t := 47) rfl (fun b93 => ?_) (fun b93 => ?_)
        · replace h88 := ite_t b93 h88
          refine RL.skip rfl rfl ?_
          refine RL.skip rfl rfl ?_
          refine RL.skip rfl rfl ?_
          refine RL.pickT rfl rfl rfl rfl ?_
          refine RL.fin ?_
          cases h88
          exact fun a w st => mid_intro true h89 (St.cut [0, 1] ⟨rfl, rfl, rfl, rfl, rfl, trivial⟩ (by decide) rfl st)
        · replace h88 := ite_f b93 h88
          refine RL.mv rfl rfl rfl ?_
          refine RL.lenS 1 Try.underlying27 rfl rfl rfl rfl SlOf.own ?_
          refine RL.binI (v := .bool (((y80.1).length : Int) != (9 : Int))) rfl rfl rfl rfl rfl ?_
          refine RL.pickF rfl rfl rfl rfl ?_
          refine RL.fin ?_
          cases h88
          exact fun a w st => mid_intro (((y80.1).length : Int) != (9 : Int)) h89 (St.cut [0, 1] ⟨rfl, rfl, rfl, rfl, rfl, trivial⟩ (by decide) rfl st)
      · rintro x85 h94
        have h95 := h90 _ h94
        try dsimp only at h95
        refine GL.weak (env' := [(0, .int .i64 y13), (1, .int .i64 y15), (7, v24), (10, v82), (51, .bool x85)]) (L' := [imm (TR.sl TR.int) v24 l23, own 3 TR.int v82 y80.1]) (fun _ _ st => st) ?_
        refine GL.cond rfl (fun b96 => ?_) (fun b96 => ?_)
        · replace h95 := ite_t b96 h95
          refine GL.seq ?_
          refine GL.region ?_
          refine RL.asg rfl rfl rfl ?_
          refine RL.finG ?_
          have h95 := Option.some.inj h95
          subst h95
          exact GL.ret (Gx.ret (v := .bool false) (res1 rfl rfl) (fun a w st => st.toPostV))
        · replace h95 := ite_f b96 h95
          refine GL.skip ?_
          refine GL.seq ?_
          refine GL.region ?_
          refine RL.alloc (t := (TR.arr 9 (TR.arr 9 TR.bool))) (z := (List.replicate 9 (List.replicate 9 false))) Try_lo52 (fun S => ⟨rfl, ⟨_, _, rfl, ⟨rfl, ⟨_, _, rfl, rfl, ⟨_, _, rfl, rfl, ⟨_, _, rfl, rfl, ⟨_, _, rfl, rfl, ⟨_, _, rfl, rfl, ⟨_, _, rfl, rfl, ⟨_, _, rfl, rfl, ⟨_, _, rfl, rfl, ⟨_, _, rfl, rfl, rfl⟩⟩⟩⟩⟩⟩⟩⟩⟩⟩, ⟨_, _, rfl, ⟨rfl, ⟨_, _, rfl, rfl, ⟨_, _, rfl, rfl, ⟨_, _, rfl, rfl, ⟨_, _, rfl, rfl, ⟨_, _, rfl, rfl, ⟨_, _, rfl, rfl, ⟨_, _, rfl, rfl, ⟨_, _, rfl, rfl, ⟨_, _, rfl, rfl, rfl⟩⟩⟩⟩⟩⟩⟩⟩⟩⟩, ⟨_, _, rfl, ⟨rfl, ⟨_, _, rfl, rfl, ⟨_, _, rfl, rfl, ⟨_, _, rfl, rfl, ⟨_, _, rfl, rfl, ⟨_, _, rfl, rfl, ⟨_, _, rfl, rfl, ⟨_, _, rfl, rfl, ⟨_, _, rfl, rfl, ⟨_, _, rfl, rfl, rfl⟩⟩⟩⟩⟩⟩⟩⟩⟩⟩, ⟨_, _, rfl, ⟨rfl, ⟨_, _, rfl, rfl, ⟨_, _, rfl, rfl, ⟨_, _, rfl, rfl, ⟨_, _, rfl, rfl, ⟨_, _, rfl, rfl, ⟨_, _, rfl, rfl, ⟨_, _, rfl, rfl, ⟨_, _, rfl, rfl, ⟨_, _, rfl, rfl, rfl⟩⟩⟩⟩⟩⟩⟩⟩⟩⟩, ⟨_, _, rfl, ⟨rfl, ⟨_, _, rfl, rfl, ⟨_, _, rfl, rfl, ⟨_, _, rfl, rfl, ⟨_, _, rfl, rfl, ⟨_, _, rfl, rfl, ⟨_, _, rfl, rfl, ⟨_, _, rfl, rfl, ⟨_, _, rfl, rfl, ⟨_, _, rfl, rfl, rfl⟩⟩⟩⟩⟩⟩⟩⟩⟩⟩, ⟨_, _, rfl, ⟨rfl, ⟨_, _, rfl, rfl, ⟨_, _, rfl, rfl, ⟨_, _, rfl, rfl, ⟨_, _, rfl, rfl, ⟨_, _, rfl, rfl, ⟨_, _, rfl, rfl, ⟨_, _, rfl, rfl, ⟨_, _, rfl, rfl, ⟨_, _, rfl, rfl, rfl⟩⟩⟩⟩⟩⟩⟩⟩⟩⟩, ⟨_, _, rfl, ⟨rfl, ⟨_, _, rfl, rfl, ⟨_, _, rfl, rfl, ⟨_, _, rfl, rfl, ⟨_, _, rfl, rfl, ⟨_, _, rfl, rfl, ⟨_, _, rfl, rfl, ⟨_, _, rfl, rfl, ⟨_, _, rfl, rfl, ⟨_, _, rfl, rfl, rfl⟩⟩⟩⟩⟩⟩⟩⟩⟩⟩, ⟨_, _, rfl, ⟨rfl, ⟨_, _, rfl, rfl, ⟨_, _, rfl, rfl, ⟨_, _, rfl, rfl, ⟨_, _, rfl, rfl, ⟨_, _, rfl, rfl, ⟨_, _, rfl, rfl, ⟨_, _, rfl, rfl, ⟨_, _, rfl, rfl, ⟨_, _, rfl, rfl, rfl⟩⟩⟩⟩⟩⟩⟩⟩⟩⟩, ⟨_, _, rfl, ⟨rfl, ⟨_, _, rfl, rfl, ⟨_, _, rfl, rfl, ⟨_, _, rfl, rfl, ⟨_, _, rfl, rfl, ⟨_, _, rfl, rfl, ⟨_, _, rfl, rfl, ⟨_, _, rfl, rfl, ⟨_, _, rfl, rfl, ⟨_, _, rfl, rfl, rfl⟩⟩⟩⟩⟩⟩⟩⟩⟩⟩, rfl⟩⟩⟩⟩⟩⟩⟩⟩⟩⟩) rfl rfl rfl ?_
          intro v98
          refine RL.finG ?_
          refine GL.seq ?_
          refine GL.seq ?_
          refine GL.region ?_
          refine RL.mv rfl rfl rfl ?_
          refine RL.finG ?_
          obtain ⟨y1556, K1557, h1558, h1559, h1560, h1561, h1562⟩ := bindR_K h95
          refine GL.join (ι := (List (List Bool)) × Int) (fun (p : (List (List Bool)) × Int) => [(0, .int .i64 y13), (1, .int .i64 y15), (10, v82), (12, v98)]) (fun (p : (List (List Bool)) × Int) => [own 3 TR.int v82 y80.1, obox 52 (TR.arr 9 (TR.arr 9 TR.bool)) v98 p.1]) (fun (p : (List (List Bool)) × Int) => K1557 (.nx (p.1, p.2))) ?_ ?_
          · refine GL.block ?_
            refine GL.loop (ι := Nat × (List (List Bool)) × Int) (fun (p : Nat × (List (List Bool)) × Int) => [(0, .int .i64 y13), (1, .int .i64 y15), (7, v24), (10, v82), (12, v98), (52, .int .i64 p.2.2)]) (fun (p : Nat × (List (List Bool)) × Int) => [imm (TR.sl TR.int) v24 l23, own 3 TR.int v82 y80.1, obox 52 (TR.arr 9 (TR.arr 9 TR.bool)) v98 p.2.1]) (fun (p : Nat × (List (List Bool)) × Int) => loopM (pk_PilesSum_b2 l23) p.1 (p.2.1, p.2.2) = some y1556) (fun (p : Nat × (List (List Bool)) × Int) => p.1) (1048576, (List.replicate 9 (List.replicate 9 false)), (0 : Int)) h1558 (fun a w st => St.cut [0, 1, 2] ⟨rfl, rfl, rfl, rfl, rfl, rfl, trivial⟩ (by decide) rfl st) ?_
            rintro ⟨r1564, l827, x828⟩ h1568
            try dsimp only at h1568
            refine GL.weak (env' := [(0, .int .i64 y13), (1, .int .i64 y15), (7, v24), (10, v82), (12, v98), (52, .int .i64 x828)]) (L' := [imm (TR.sl TR.int) v24 l23, own 3 TR.int v82 y80.1, obox 52 (TR.arr 9 (TR.arr 9 TR.bool)) v98 l827]) (fun _ _ st => st) ?_
            obtain ⟨r1571, z1565, hr, h1566, h1567⟩ := loopM_some h1568
            subst hr
            unfold pk_PilesSum_b2 at h1566
            try dsimp only at h1566
            refine GL.seq ?_
            refine GL.region ?_
            refine RL.binI (v := .bool (decide (x828 < (9 : Int)))) rfl rfl rfl rfl rfl ?_
            refine RL.finG ?_
            refine GL.seq ?_
            refine GL.cond rfl (fun b1572 => ?_) (fun b1572 => ?_)
            · replace h1566 := ite_t b1572 h1566
              refine GL.skip ?_
              refine GL.seq ?_
              refine GL.block ?_
              refine GL.seq ?_
              refine GL.region ?_
              refine RL.mv rfl rfl rfl ?_
              refine RL.asg rfl rfl rfl ?_
              refine RL.finG ?_
              refine GL.seq ?_
              refine GL.region ?_
              refine RL.mv rfl rfl rfl ?_
              refine RL.finG ?_
              obtain ⟨y2046, K2047, h2048, h2049, h2050, h2051, h2052⟩ := bindF_K h1566
              refine GL.join (ι := (List (List Bool)) × Int) (fun (p : (List (List Bool)) × Int) => [(0, .int .i64 y13), (1, .int .i64 y15), (7, v24), (10, v82), (12, v98), (52, .int .i64 x828)]) (fun (p : (List (List Bool)) × Int) => [imm (TR.sl TR.int) v24 l23, own 3 TR.int v82 y80.1, obox 52 (TR.arr 9 (TR.arr 9 TR.bool)) v98 p.1]) (fun (p : (List (List Bool)) × Int) => K2047 (.nx (p.1, p.2))) ?_ ?_
              · refine GL.block ?_
                refine GL.loop (ι := Nat × (List (List Bool)) × Int) (fun (p : Nat × (List (List Bool)) × Int) => [(0, .int .i64 y13), (1, .int .i64 y15), (7, v24), (10, v82), (12, v98), (13, .int .i64 x828), (52, .int .i64 x828), (55, .int .i64 p.2.2)]) (fun (p : Nat × (List (List Bool)) × Int) => [imm (TR.sl TR.int) v24 l23, own 3 TR.int v82 y80.1, obox 52 (TR.arr 9 (TR.arr 9 TR.bool)) v98 p.2.1]) (fun (p : Nat × (List (List Bool)) × Int) => loopM (pk_PilesSum_b3 x828 l23) p.1 (p.2.1, p.2.2) = some y2046) (fun (p : Nat × (List (List Bool)) × Int) => p.1) (1048576, l827, (0 : Int)) h2048 (fun a w st => St.cut [0, 1, 2] ⟨rfl, rfl, rfl, rfl, rfl, rfl, rfl, rfl, trivial⟩ (by decide) rfl st) ?_
                rintro ⟨r2054, l1809, x1810⟩ h2058
                try dsimp only at h2058
                refine GL.weak (env' := [(0, .int .i64 y13), (1, .int .i64 y15), (7, v24), (10, v82), (12, v98), (13, .int .i64 x828), (52, .int .i64 x828), (55, .int .i64 x1810)]) (L' := [imm (TR.sl TR.int) v24 l23, own 3 TR.int v82 y80.1, obox 52 (TR.arr 9 (TR.arr 9 TR.bool)) v98 l1809]) (fun _ _ st => st) ?_
                obtain ⟨r2061, z2055, hr, h2056, h2057⟩ := loopM_some h2058
                subst hr
                unfold pk_PilesSum_b3 at h2056
                try dsimp only at h2056
                refine GL.seq ?_
                refine GL.region ?_
                refine RL.binI (v := .bool (decide (x1810 < (9 : Int)))) rfl rfl rfl rfl rfl ?_
                refine RL.finG ?_
                refine GL.seq ?_
                refine GL.cond rfl (fun b2062 => ?_) (fun b2062 => ?_)
                · replace h2056 := ite_t b2062 h2056
                  refine GL.skip ?_
                  refine GL.seq ?_
                  refine GL.block ?_
                  refine GL.seq ?_
                  refine GL.region ?_
                  refine RL.mv rfl rfl rfl ?_
                  refine RL.asg rfl rfl rfl ?_
                  refine RL.finG ?_
                  refine GL.seq ?_
                  refine GL.region ?_
                  refine RL.mv rfl rfl rfl ?_
                  refine RL.lenS 0 Try.underlying27 rfl rfl rfl rfl SlOf.imm ?_
                  refine RL.mv rfl rfl rfl ?_
                  refine RL.finG ?_
                  refine GL.open_ 0 rfl (fun S h => len_imm S h) (fun n2206 => ?_)
                  obtain ⟨y2207, K2208, h2209, h2210, h2211, h2212, h2213⟩ := bindF_K h2056
                  refine GL.join (ι := (List (List Bool))) (fun (p : (List (List Bool))) => [(0, .int .i64 y13), (1, .int .i64 y15), (7, v24), (10, v82), (12, v98), (13, .int .i64 x828), (52, .int .i64 x828), (55, .int .i64 x1810)]) (fun (p : (List (List Bool))) => [imm (TR.sl TR.int) v24 l23, own 3 TR.int v82 y80.1, obox 52 (TR.arr 9 (TR.arr 9 TR.bool)) v98 p]) (fun (p : (List (List Bool))) => K2208 (.nx p)) ?_ ?_
                  · refine GL.block ?_
                    refine GL.loop (ι := Nat × (List Int) × (List (List Bool))) (fun (p : Nat × (List Int) × (List (List Bool))) => [(0, .int .i64 y13), (1, .int .i64 y15), (7, v24), (10, v82), (12, v98), (13, .int .i64 x828), (14, .int .i64 x1810), (52, .int .i64 x828), (55, .int .i64 x1810), (58, v24), (59, .int .i64 ((l23).length : Int)), (60, .int .i64 (p.1 : Int))]) (fun (p : Nat × (List Int) × (List (List Bool))) => [imm (TR.sl TR.int) v24 l23, own 3 TR.int v82 y80.1, obox 52 (TR.arr 9 (TR.arr 9 TR.bool)) v98 p.2.2]) (fun (p : Nat × (List Int) × (List (List Bool))) => p.1 + p.2.1.length = (l23).length ∧ List.drop p.1 l23 = p.2.1 ∧ rangeL (pk_PilesSum_b4 x828 x1810) p.2.1 p.1 p.2.2 = some y2207) (fun (p : Nat × (List Int) × (List (List Bool))) => p.2.1.length) (0, l23, l1809) ⟨by simp, by simp, h2209⟩ (fun a w st => St.cut [0, 1, 2] ⟨rfl, rfl, rfl, rfl, rfl, rfl, rfl, rfl, rfl, rfl, rfl, rfl, trivial⟩ (by decide) rfl st) ?_
                    rintro ⟨i2214, r2215, l2134⟩ ⟨h2220, h2221, h2219⟩
                    try dsimp only at h2220 h2221 h2219
                    refine GL.weak (env' := [(0, .int .i64 y13), (1, .int .i64 y15), (7, v24), (10, v82), (12, v98), (13, .int .i64 x828), (14, .int .i64 x1810), (52, .int .i64 x828), (55, .int .i64 x1810), (58, v24), (59, .int .i64 ((l23).length : Int)), (60, .int .i64 (i2214 : Int))]) (L' := [imm (TR.sl TR.int) v24 l23, own 3 TR.int v82 y80.1, obox 52 (TR.arr 9 (TR.arr 9 TR.bool)) v98 l2134]) (fun _ _ st => st) ?_
                    refine GL.seq ?_
                    refine GL.region ?_
                    refine RL.binI (v := .bool (decide ((i2214 : Int) < ((l23).length : Int)))) rfl rfl rfl rfl rfl ?_
                    refine RL.finG ?_
                    refine GL.seq ?_
                    refine GL.cond rfl (fun b2222 => ?_) (fun b2222 => ?_)
                    · have h2223 : i2214 < (l23).length := by have := of_decide_eq_true b2222; omega
                      obtain ⟨y2224, r2226, hr, e2225, h2227⟩ := drop_cons h2221 rfl h2223
                      subst hr
                      obtain ⟨z2216, h2217, h2218⟩ := rangeL_some h2219
                      unfold pk_PilesSum_b4 at h2217
                      try dsimp only at h2217
                      refine GL.skip ?_
                      refine GL.seq ?_
                      refine GL.block ?_
                      refine GL.seq ?_
                      refine GL.region ?_
                      refine RL.idxS (sz := 1) 0 Try.underlying27 Try_ln3 rfl rfl rfl rfl rfl SlOf.imm (by omega) (by omega) ?_
                      refine RL.ldSx (i := i2214) (e' := y2224) 0 Ex.ik Try_ln3 rfl rfl rfl rfl SlOf.imm e2225 Part.self ?_
                      refine RL.asg rfl rfl rfl ?_
                      refine RL.finG ?_
                      refine GL.seq ?_
                      obtain ⟨y2261, K2262, h2263, h2264, h2265, h2266, h2267⟩ := bindF_K h2217
                      refine GL.join (ι := Bool) (fun (p : Bool) => [(0, .int .i64 y13), (1, .int .i64 y15), (7, v24), (10, v82), (12, v98), (13, .int .i64 x828), (14, .int .i64 x1810), (52, .int .i64 x828), (55, .int .i64 x1810), (58, v24), (59, .int .i64 ((l23).length : Int)), (60, .int .i64 (i2214 : Int)), (91, .bool p)]) (fun (p : Bool) => [imm (TR.sl TR.int) v24 l23, own 3 TR.int v82 y80.1, obox 52 (TR.arr 9 (TR.arr 9 TR.bool)) v98 l2134]) (fun (p : Bool) => K2262 (.nx p)) ?_ ?_
                      · skip
                        refine GL.region ?_
                        refine RL.mv rfl rfl rfl ?_
                        refine RL.mv rfl rfl rfl ?_
                        refine RL.binI (v := .bool (decide (y2224 ≤ x828))) rfl rfl rfl rfl rfl ?_
                        refine RL.mv rfl rfl rfl ?_
                        refine RL.split (t := 67) rfl (fun b2268 => ?_) (fun b2268 => ?_)
                        · replace h2263 := ite_t b2268 h2263
                          refine RL.mv rfl rfl rfl ?_
                          refine RL.mv rfl rfl rfl ?_
                          refine RL.binI (v := .int .i64 (wsub x828 y2224)) rfl rfl rfl rfl rfl ?_
                          refine RL.mv rfl rfl rfl ?_
                          obtain ⟨y2269, e2270, h2263⟩ := bind_some h2263
                          refine RL.idxA0 (sz := 9) (t' := (TR.arr 9 TR.bool)) 2 Try.underlying52 Try_ln51 rfl rfl rfl PtOf.obox rfl rfl Part.self (idx_some e2270).1 (idx_some e2270).2.1 ?_
                          obtain ⟨y2271, e2272, h2263⟩ := bind_some h2263
                          refine RL.idxA (off := ((wsub x828 y2224).toNat * 9)) (sz := 1) (t' := TR.bool) 2 Try.underlying51 Try_ln4 rfl rfl rfl PtOf.obox rfl rfl (Part.arr (idx_some e2270).2.2 Part.self) (idx_some e2272).1 (idx_some e2272).2.1 ?_
                          refine RL.ldPx (off := ((wsub x828 y2224).toNat * 9 + (x1810).toNat * 1)) (e' := y2271) 2 Ex.bool Try_ln4 rfl rfl (Or.inl rfl) rfl PtOf.obox (Part.arr (idx_some e2270).2.2 (Part.arr (idx_some e2272).2.2 Part.self)) ?_
                          refine RL.notB rfl rfl rfl ?_
                          refine RL.pickT rfl rfl rfl rfl ?_
                          refine RL.mv rfl rfl rfl ?_
                          refine RL.split (t := 77) rfl (fun b2273 => ?_) (fun b2273 => ?_)
                          · replace h2263 := ite_t b2273 h2263
                            refine RL.skip rfl rfl ?_
                            refine RL.skip rfl rfl ?_
                            refine RL.skip rfl rfl ?_
                            refine RL.skip rfl rfl ?_
                            refine RL.skip rfl rfl ?_
                            refine RL.skip rfl rfl ?_
                            refine RL.skip rfl rfl ?_
                            refine RL.skip rfl rfl ?_
                            refine RL.skip rfl rfl ?_
                            refine RL.skip rfl rfl ?_
                            refine RL.skip rfl rfl ?_
                            refine RL.skip rfl rfl ?_
                            refine RL.skip rfl rfl ?_
                            refine RL.pickT rfl rfl rfl rfl ?_
                            refine RL.fin ?_
                            cases h2263
                            exact fun a w st => mid_intro true h2264 (St.cut [0, 1, 2] ⟨rfl, rfl, rfl, rfl, rfl, rfl, rfl, rfl, rfl, rfl, rfl, rfl, rfl, trivial⟩ (by decide) rfl st)
                          · replace h2263 := ite_f b2273 h2263
                            refine RL.mv rfl rfl rfl ?_
                            refine RL.mv rfl rfl rfl ?_
                            refine RL.binI (v := .bool (decide (y2224 ≤ x1810))) rfl rfl rfl rfl rfl ?_
                            refine RL.mv rfl rfl rfl ?_
                            refine RL.split (t := 81) rfl (fun b2274 => ?_) (fun b2274 => ?_)
                            · replace h2263 := ite_t b2274 h2263
                              refine RL.mv rfl rfl rfl ?_
                              refine RL.mv rfl rfl rfl ?_
                              refine RL.mv rfl rfl rfl ?_
                              refine RL.binI (v := .int .i64 (wsub x1810 y2224)) rfl rfl rfl rfl rfl ?_
                              obtain ⟨y2275, e2276, h2263⟩ := bind_some h2263
                              refine RL.idxA0 (sz := 9) (t' := (TR.arr 9 TR.bool)) 2 Try.underlying52 Try_ln51 rfl rfl rfl PtOf.obox rfl rfl Part.self (idx_some e2276).1 (idx_some e2276).2.1 ?_
                              obtain ⟨y2277, e2278, h2263⟩ := bind_some h2263
                              refine RL.idxA (off := ((x828).toNat * 9)) (sz := 1) (t' := TR.bool) 2 Try.underlying51 Try_ln4 rfl rfl rfl PtOf.obox rfl rfl (Part.arr (idx_some e2276).2.2 Part.self) (idx_some e2278).1 (idx_some e2278).2.1 ?_
                              refine RL.ldPx (off := ((x828).toNat * 9 + (wsub x1810 y2224).toNat * 1)) (e' := y2277) 2 Ex.bool Try_ln4 rfl rfl (Or.inl rfl) rfl PtOf.obox (Part.arr (idx_some e2276).2.2 (Part.arr (idx_some e2278).2.2 Part.self)) ?_
                              refine RL.notB rfl rfl rfl ?_
                              refine RL.pickT rfl rfl rfl rfl ?_
                              refine RL.pickF rfl rfl rfl rfl ?_
                              refine RL.fin ?_
                              cases h2263
                              exact fun a w st => mid_intro (!y2277) h2264 (St.cut [0, 1, 2] ⟨rfl, rfl, rfl, rfl, rfl, rfl, rfl, rfl, rfl, rfl, rfl, rfl, rfl, trivial⟩ (by decide) rfl st)
                            · replace h2263 := ite_f b2274 h2263
                              refine RL.skip rfl rfl ?_
                              refine RL.skip rfl rfl ?_
                              refine RL.skip rfl rfl ?_
                              refine RL.skip rfl rfl ?_
                              refine RL.skip rfl rfl ?_
                              refine RL.skip rfl rfl ?_
                              refine RL.skip rfl rfl ?_
                              refine RL.skip rfl rfl ?_
                              refine RL.pickF rfl rfl rfl rfl ?_
                              refine RL.pickF rfl rfl rfl rfl ?_
                              refine RL.fin ?_
                              cases h2263
                              exact fun a w st => mid_intro false h2264 (St.cut [0, 1, 2] ⟨rfl, rfl, rfl, rfl, rfl, rfl, rfl, rfl, rfl, rfl, rfl, rfl, rfl, trivial⟩ (by decide) rfl st)
                        · replace h2263 := ite_f b2268 h2263
                          refine RL.skip rfl rfl ?_
                          refine RL.skip rfl rfl ?_
                          refine RL.skip rfl rfl ?_
                          refine RL.skip rfl rfl ?_
                          refine RL.skip rfl rfl ?_
                          refine RL.skip rfl rfl ?_
                          refine RL.skip rfl rfl ?_
                          refine RL.skip rfl rfl ?_
                          refine RL.pickF rfl rfl rfl rfl ?_
                          refine RL.mv rfl rfl rfl ?_
                          refine RL.mv rfl rfl rfl ?_
                          refine RL.mv rfl rfl rfl ?_
                          refine RL.binI (v := .bool (decide (y2224 ≤ x1810))) rfl rfl rfl rfl rfl ?_
                          refine RL.mv rfl rfl rfl ?_
                          refine RL.split (t := 81) rfl (fun b2279 => ?_) (fun b2279 => ?_)
                          · replace h2263 := ite_t b2279 h2263
                            refine RL.mv rfl rfl rfl ?_
                            refine RL.mv rfl rfl rfl ?_
                            refine RL.mv rfl rfl rfl ?_
                            refine RL.binI (v := .int .i64 (wsub x1810 y2224)) rfl rfl rfl rfl rfl ?_
                            obtain ⟨y2280, e2281, h2263⟩ := bind_some h2263
                            refine RL.idxA0 (sz := 9) (t' := (TR.arr 9 TR.bool)) 2 Try.underlying52 Try_ln51 rfl rfl rfl PtOf.obox rfl rfl Part.self (idx_some e2281).1 (idx_some e2281).2.1 ?_
                            obtain ⟨y2282, e2283, h2263⟩ := bind_some h2263
                            refine RL.idxA (off := ((x828).toNat * 9)) (sz := 1) (t' := TR.bool) 2 Try.underlying51 Try_ln4 rfl rfl rfl PtOf.obox rfl rfl (Part.arr (idx_some e2281).2.2 Part.self) (idx_some e2283).1 (idx_some e2283).2.1 ?_
                            refine RL.ldPx (off := ((x828).toNat * 9 + (wsub x1810 y2224).toNat * 1)) (e' := y2282) 2 Ex.bool Try_ln4 rfl rfl (Or.inl rfl) rfl PtOf.obox (Part.arr (idx_some e2281).2.2 (Part.arr (idx_some e2283).2.2 Part.self)) ?_
                            refine RL.notB rfl rfl rfl ?_
                            refine RL.pickT rfl rfl rfl rfl ?_
                            refine RL.pickF rfl rfl rfl rfl ?_
                            refine RL.fin ?_
                            cases h2263
                            exact fun a w st => mid_intro (!y2282) h2264 (St.cut [0, 1, 2] ⟨rfl, rfl, rfl, rfl, rfl, rfl, rfl, rfl, rfl, rfl, rfl, rfl, rfl, trivial⟩ (by decide) rfl st)
                          · replace h2263 := ite_f b2279 h2263
                            refine RL.skip rfl rfl ?_
                            refine RL.skip rfl rfl ?_
                            refine RL.skip rfl rfl ?_
                            refine RL.skip rfl rfl ?_
                            refine RL.skip rfl rfl ?_
                            refine RL.skip rfl rfl ?_
                            refine RL.skip rfl rfl ?_
                            refine RL.skip rfl rfl ?_
                            refine RL.pickF rfl rfl rfl rfl ?_
                            refine RL.pickF rfl rfl rfl rfl ?_
                            refine RL.fin ?_
                            cases h2263
                            exact fun a w st => mid_intro false h2264 (St.cut [0, 1, 2] ⟨rfl, rfl, rfl, rfl, rfl, rfl, rfl, rfl, rfl, rfl, rfl, rfl, rfl, trivial⟩ (by decide) rfl st)
                      · rintro x2260 h2284
                        have h2285 := h2265 _ h2284
                        try dsimp only at h2285
                        refine GL.weak (env' := [(0, .int .i64 y13), (1, .int .i64 y15), (7, v24), (10, v82), (12, v98), (13, .int .i64 x828), (14, .int .i64 x1810), (52, .int .i64 x828), (55, .int .i64 x1810), (58, v24), (59, .int .i64 ((l23).length : Int)), (60, .int .i64 (i2214 : Int)), (91, .bool x2260)]) (L' := [imm (TR.sl TR.int) v24 l23, own 3 TR.int v82 y80.1, obox 52 (TR.arr 9 (TR.arr 9 TR.bool)) v98 l2134]) (fun _ _ st => st) ?_
                        refine GL.cond rfl (fun b2286 => ?_) (fun b2286 => ?_)
                        · replace h2285 := ite_t b2286 h2285
                          refine GL.region ?_
                          refine RL.mv rfl rfl rfl ?_
                          refine RL.mv rfl rfl rfl ?_
                          obtain ⟨y2291, e2292, h2285⟩ := bind_some h2285
                          refine RL.idxA0 (sz := 9) (t' := (TR.arr 9 TR.bool)) 2 Try.underlying52 Try_ln51 rfl rfl rfl PtOf.obox rfl rfl Part.self (idx_some e2292).1 (idx_some e2292).2.1 ?_
                          obtain ⟨y2293, e2294, h2285⟩ := bind_some h2285
                          refine RL.idxA (off := ((x828).toNat * 9)) (sz := 1) (t' := TR.bool) 2 Try.underlying51 Try_ln4 rfl rfl rfl PtOf.obox rfl rfl (Part.arr (idx_some e2292).2.2 Part.self) (idx_some e2294).1 (idx_some e2294).2.1 ?_
                          refine RL.stP (off := ((x828).toNat * 9 + (x1810).toNat * 1)) (e' := true) (d1 := (List.set l2134 ((x828).toNat) (List.set y2291 ((x1810).toNat) true))) (r := TR.bool) 2 Try_ln4 rfl rfl (Or.inl rfl) rfl VR.bool rfl (Upd.arr (idx_some e2292).2.2 (Upd.arr (idx_some e2294).2.2 Upd.self)) ?_
                          refine RL.finG ?_
                          refine GL.nilB ?_
                          refine GL.region ?_
                          refine RL.binI (v := .int .i64 ((i2214 + 1 : Nat) : Int)) rfl rfl rfl rfl (binI_succ i2214 (by omega)) ?_
                          refine RL.mv rfl rfl rfl ?_
                          refine RL.fin ?_
                          cases h2285
                          exact fun a w st => lop_intro (i2214 + 1, r2226, (List.set l2134 ((x828).toNat) (List.set y2291 ((x1810).toNat) true))) ⟨by show i2214 + 1 + r2226.length = (l23).length; simp only [List.length_cons] at h2220; omega, h2227, h2218⟩ (by simp) (St.cut [0, 1, 2] ⟨rfl, rfl, rfl, rfl, rfl, rfl, rfl, rfl, rfl, rfl, rfl, rfl, trivial⟩ (by decide) rfl st)
                        · replace h2285 := ite_f b2286 h2285
                          refine GL.skip ?_
                          refine GL.nilB ?_
                          refine GL.region ?_
                          refine RL.binI (v := .int .i64 ((i2214 + 1 : Nat) : Int)) rfl rfl rfl rfl (binI_succ i2214 (by omega)) ?_
                          refine RL.mv rfl rfl rfl ?_
                          refine RL.fin ?_
                          cases h2285
                          exact fun a w st => lop_intro (i2214 + 1, r2226, l2134) ⟨by show i2214 + 1 + r2226.length = (l23).length; simp only [List.length_cons] at h2220; omega, h2227, h2218⟩ (by simp) (St.cut [0, 1, 2] ⟨rfl, rfl, rfl, rfl, rfl, rfl, rfl, rfl, rfl, rfl, rfl, rfl, trivial⟩ (by decide) rfl st)
                    · have h2223 : ¬ i2214 < (l23).length := by have := of_decide_eq_false b2222; omega
                      obtain rfl : r2215 = [] := by rw [← h2221]; exact List.drop_of_length_le (by omega)
                      replace h2219 : some (Fl.nx _) = some y2207 := h2219
                      cases h2219
                      exact GL.exit (fun a w st => mid_intro l2134 h2210 (St.cut [0, 1, 2] ⟨rfl, rfl, rfl, rfl, rfl, rfl, rfl, rfl, trivial⟩ (by decide) rfl st))
                  · rintro l2134 h2295
                    have h2296 := h2211 _ h2295
                    try dsimp only at h2296
                    refine GL.weak (env' := [(0, .int .i64 y13), (1, .int .i64 y15), (7, v24), (10, v82), (12, v98), (13, .int .i64 x828), (52, .int .i64 x828), (55, .int .i64 x1810)]) (L' := [imm (TR.sl TR.int) v24 l23, own 3 TR.int v82 y80.1, obox 52 (TR.arr 9 (TR.arr 9 TR.bool)) v98 l2134]) (fun _ _ st => st) ?_
                    refine GL.nilB ?_
                    refine GL.region ?_
                    refine RL.binI (v := .int .i64 (wadd x1810 (1 : Int))) rfl rfl rfl rfl rfl ?_
                    refine RL.mv rfl rfl rfl ?_
                    refine RL.finG ?_
                    cases h2296
                    exact fun a w st => lop_intro (r2061, l2134, wadd x1810 (1 : Int)) h2057 (by simp) (St.cut [0, 1, 2] ⟨rfl, rfl, rfl, rfl, rfl, rfl, rfl, rfl, trivial⟩ (by decide) rfl st)
                · replace h2056 := ite_f b2062 h2056
                  cases h2056
                  replace h2057 : some (Fl.nx _) = some y2046 := h2057
                  cases h2057
                  exact GL.exit (fun a w st => mid_intro (l1809, x1810) h2049 (St.cut [0, 1, 2] ⟨rfl, rfl, rfl, rfl, rfl, rfl, trivial⟩ (by decide) rfl st))
              · rintro ⟨l1809, x1810⟩ h2297
                have h2298 := h2050 _ h2297
                try dsimp only at h2298
                refine GL.weak (env' := [(0, .int .i64 y13), (1, .int .i64 y15), (7, v24), (10, v82), (12, v98), (52, .int .i64 x828)]) (L' := [imm (TR.sl TR.int) v24 l23, own 3 TR.int v82 y80.1, obox 52 (TR.arr 9 (TR.arr 9 TR.bool)) v98 l1809]) (fun _ _ st => st) ?_
                refine GL.nilB ?_
                refine GL.region ?_
                refine RL.binI (v := .int .i64 (wadd x828 (1 : Int))) rfl rfl rfl rfl rfl ?_
                refine RL.mv rfl rfl rfl ?_
                refine RL.finG ?_
                cases h2298
                exact fun a w st => lop_intro (r1571, l1809, wadd x828 (1 : Int)) h1567 (by simp) (St.cut [0, 1, 2] ⟨rfl, rfl, rfl, rfl, rfl, rfl, trivial⟩ (by decide) rfl st)
            · replace h1566 := ite_f b1572 h1566
              cases h1566
              replace h1567 : some (Fl.nx _) = some y1556 := h1567
              cases h1567
              exact GL.exit (fun a w st => mid_intro (l827, x828) h1559 (St.cut [1, 2] ⟨rfl, rfl, rfl, rfl, trivial⟩ (by decide) rfl st))
          · rintro ⟨l827, x828⟩ h2299
            have h2300 := h1560 _ h2299
            try dsimp only at h2300
            refine GL.weak (env' := [(0, .int .i64 y13), (1, .int .i64 y15), (10, v82), (12, v98)]) (L' := [own 3 TR.int v82 y80.1, obox 52 (TR.arr 9 (TR.arr 9 TR.bool)) v98 l827]) (fun _ _ st => st) ?_
            refine GL.seq ?_
            refine GL.regionQ rfl rfl (by kernel_rfl) ?_
            refine RL.mv rfl rfl rfl ?_
            refine RL.mv rfl rfl rfl ?_
            obtain ⟨y2309, e2310, h2300⟩ := bind_some h2300
            refine RL.idxA0 (sz := 9) (t' := (TR.arr 9 TR.bool)) 1 Try.underlying52 Try_ln51 rfl rfl rfl PtOf.obox rfl rfl Part.self (idx_some e2310).1 (idx_some e2310).2.1 ?_
            obtain ⟨y2311, e2312, h2300⟩ := bind_some h2300
            refine RL.idxA (off := ((y13).toNat * 9)) (sz := 1) (t' := TR.bool) 1 Try.underlying51 Try_ln4 rfl rfl rfl PtOf.obox rfl rfl (Part.arr (idx_some e2310).2.2 Part.self) (idx_some e2312).1 (idx_some e2312).2.1 ?_
            refine RL.ldPx (off := ((y13).toNat * 9 + (y15).toNat * 1)) (e' := y2311) 1 Ex.bool Try_ln4 rfl rfl (Or.inl rfl) rfl PtOf.obox (Part.arr (idx_some e2310).2.2 (Part.arr (idx_some e2312).2.2 Part.self)) ?_
            refine RL.mv rfl rfl rfl ?_
            refine RL.mv rfl rfl rfl ?_
            obtain ⟨y2313, e2314, h2300⟩ := bind_some h2300
            refine RL.idxS (sz := 1) 0 Try.underlying27 Try_ln3 rfl rfl rfl rfl rfl SlOf.own (idx_some e2314).1 (idx_some e2314).2.1 ?_
            refine RL.ldSx (i := (y13).toNat) (e' := y2313) 0 Ex.ik Try_ln3 rfl rfl rfl rfl SlOf.own (idx_some e2314).2.2 Part.self ?_
            refine RL.mv rfl rfl rfl ?_
            refine RL.mv rfl rfl rfl ?_
            obtain ⟨y2315, e2316, h2300⟩ := bind_some h2300
            refine RL.idxS (sz := 1) 0 Try.underlying27 Try_ln3 rfl rfl rfl rfl rfl SlOf.own (idx_some e2316).1 (idx_some e2316).2.1 ?_
            refine RL.ldSx (i := (y15).toNat) (e' := y2315) 0 Ex.ik Try_ln3 rfl rfl rfl rfl SlOf.own (idx_some e2316).2.2 Part.self ?_
            refine RL.binI (v := .bool (y2313 != y2315)) rfl rfl rfl rfl rfl ?_
            refine RL.eqB Try.underlying4 rfl rfl rfl rfl ?_
            refine RL.asg rfl rfl rfl ?_
            refine RL.finQG ?_
            have h2300 := Option.some.inj h2300
            subst h2300
            exact GL.ret (Gx.ret (v := .bool (y2311 == (y2313 != y2315))) (res1 rfl rfl) (fun a w st => st.toPostV))
end Go.Wk
