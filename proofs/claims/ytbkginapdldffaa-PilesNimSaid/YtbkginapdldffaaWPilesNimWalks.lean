/- Each function comes to what its model says; printed by a program of this repository. -/
import Derived.Test.YtbkginapdldffaaProg
import Derived.Test.YtbkginapdldffaaWPilesNimModels
namespace Go.Wk
open Go.Fw Go.Mo Go.Proofs Go.RowKit
set_option linter.unusedVariables false
set_option maxRecDepth 100000
theorem Try_info3 : (Try.prog.info? 3).map (fun i => (i.zero, i.size, i.bytes)) = some (some (.int .i64 0), 1, 8) := by kernel_rfl
theorem Try_ln3 : Ln Try.prog 3 1 false := Ln.of Try_info3 Try.underlying3 rfl
theorem Try_lo3 : LnO Try.prog 3 1 [.int .i64 0] := LnO.of Try_info3 rfl rfl (by decide) (by decide)
theorem Try_info4 : (Try.prog.info? 4).map (fun i => (i.zero, i.size, i.bytes)) = some (some (.bool false), 1, 1) := by kernel_rfl
theorem Try_ln4 : Ln Try.prog 4 1 false := Ln.of Try_info4 Try.underlying4 rfl
theorem Try_lo4 : LnO Try.prog 4 1 [.bool false] := LnO.of Try_info4 rfl rfl (by decide) (by decide)
theorem Try_info28 : (Try.prog.info? 28).map (fun i => (i.zero, i.size, i.bytes)) = some (some (.int .i64 0), 1, 8) := by kernel_rfl
theorem Try_ln28 : Ln Try.prog 28 1 false := Ln.of Try_info28 Try.underlying28 rfl
theorem Try_lo28 : LnO Try.prog 28 1 [.int .i64 0] := LnO.of Try_info28 rfl rfl (by decide) (by decide)
theorem Try_info65 : (Try.prog.info? 65).map (fun i => (i.zero, i.size, i.bytes)) = some (some (.agg #[.bool false, .bool false, .bool false, .bool false, .bool false, .bool false, .bool false]), 7, 7) := by kernel_rfl
theorem Try_ln65 : Ln Try.prog 65 7 true := Ln.of Try_info65 Try.underlying65 rfl
theorem Try_lo65 : LnO Try.prog 65 7 [.bool false, .bool false, .bool false, .bool false, .bool false, .bool false, .bool false] := LnO.of Try_info65 rfl rfl (by decide) (by decide)
theorem Try_fit14 : Fit Try.prog 14 := Fit.of Try.func14 (by kernel_rfl) rfl
theorem Try_fit17 : Fit Try.prog 17 := Fit.of Try.func17 (by kernel_rfl) rfl
theorem Try_fit19 : Fit Try.prog 19 := Fit.of Try.func19 (by kernel_rfl) rfl
theorem Try_fit20 : Fit Try.prog 20 := Fit.of Try.func20 (by kernel_rfl) rfl
theorem Try_fit22 : Fit Try.prog 22 := Fit.of Try.func22 (by kernel_rfl) rfl
theorem Try_fit24 : Fit Try.prog 24 := Fit.of Try.func24 (by kernel_rfl) rfl
theorem Try_fit28 : Fit Try.prog 28 := Fit.of Try.func28 (by kernel_rfl) rfl
theorem Try_fit30 : Fit Try.prog 30 := Fit.of Try.func30 (by kernel_rfl) rfl
theorem Try_fit31 : Fit Try.prog 31 := Fit.of Try.func31 (by kernel_rfl) rfl
theorem Try_fit32 : Fit Try.prog 32 := Fit.of Try.func32 (by kernel_rfl) rfl
theorem Try_fit34 : Fit Try.prog 34 := Fit.of Try.func34 (by kernel_rfl) rfl

set_option maxHeartbeats 4000000 in
theorem piles_Check_c (S : Hp) (w : World) (hS : S.sub w) (v0 : Value) (x0 : (List Int)) (k0 : ((TR.sl TR.int)).vrep S v0 x0) (res : Int) (hm : piles_Check_m x0 = some res) : Calls Try.prog 30 #[v0] w (PostC w (.int .i64 res)) := by
  refine calls_enter 21 Try.func30 Try.ntmps30 rfl S true [(0, v0)] [imm (TR.sl TR.int) v0 x0] rfl ⟨rfl, trivial⟩ hS ⟨k0, trivial⟩ ?_
  unfold piles_Check_m at hm
  refine GL.seq ?_
  refine GL.region ?_
  refine RL.asg rfl rfl rfl ?_
  refine RL.finG ?_
  refine GL.seq ?_
  refine GL.seq ?_
  refine GL.region ?_
  refine RL.mv rfl rfl rfl ?_
  refine RL.lenS 0 Try.underlying27 rfl rfl rfl rfl SlOf.imm ?_
  refine RL.binI (v := .bool (decide (((x0).length : Int) > (6 : Int)))) rfl rfl rfl rfl rfl ?_
  refine RL.finG ?_
  refine GL.cond rfl (fun b1 => ?_) (fun b1 => ?_)
  · replace hm := ite_t b1 hm
    refine GL.seq ?_
    refine GL.region ?_
    refine RL.asg rfl rfl rfl ?_
    refine RL.finG ?_
    have hm := Option.some.inj hm
    subst hm
    exact GL.ret (Gx.ret (v := .int .i64 (2 : Int)) (res1 rfl rfl) (fun a w st => st.toPostC rfl))
  · replace hm := ite_f b1 hm
    refine GL.skip ?_
    refine GL.seq ?_
    refine GL.seq ?_
    refine GL.region ?_
    refine RL.mv rfl rfl rfl ?_
    refine RL.lenS 0 Try.underlying27 rfl rfl rfl rfl SlOf.imm ?_
    refine RL.mv rfl rfl rfl ?_
    refine RL.finG ?_
    refine GL.open_ 0 rfl (fun S h => len_imm S h) (fun n20 => ?_)
    obtain ⟨y21, K22, h23, h24, h25, h26, h27⟩ := bindR_K hm
    refine GL.join (ι := Unit) (fun (p : Unit) => []) (fun (p : Unit) => []) (fun (p : Unit) => K22 (.nx ())) ?_ ?_
    · refine GL.block ?_
      refine GL.loop (ι := Nat × (List Int)) (fun (p : Nat × (List Int)) => [(8, v0), (9, .int .i64 ((x0).length : Int)), (10, .int .i64 (p.1 : Int))]) (fun (p : Nat × (List Int)) => [imm (TR.sl TR.int) v0 x0]) (fun (p : Nat × (List Int)) => p.1 + p.2.length = (x0).length ∧ List.drop p.1 x0 = p.2 ∧ rangeL piles_Check_b1 p.2 p.1 () = some y21) (fun (p : Nat × (List Int)) => p.2.length) (0, x0) ⟨by simp, by simp, h23⟩ (fun a w st => St.cut [0] ⟨rfl, rfl, rfl, trivial⟩ (by decide) rfl st) ?_
      rintro ⟨i28, r29⟩ ⟨h34, h35, h33⟩
      try dsimp only at h34 h35 h33
      refine GL.weak (env' := [(8, v0), (9, .int .i64 ((x0).length : Int)), (10, .int .i64 (i28 : Int))]) (L' := [imm (TR.sl TR.int) v0 x0]) (fun _ _ st => st) ?_
      refine GL.seq ?_
      refine GL.region ?_
      refine RL.binI (v := .bool (decide ((i28 : Int) < ((x0).length : Int)))) rfl rfl rfl rfl rfl ?_
      refine RL.finG ?_
      refine GL.seq ?_
      refine GL.cond rfl (fun b36 => ?_) (fun b36 => ?_)
      · have h37 : i28 < (x0).length := by have := of_decide_eq_true b36; omega
        obtain ⟨y38, r40, hr, e39, h41⟩ := drop_cons h35 rfl h37
        subst hr
        obtain ⟨z30, h31, h32⟩ := rangeL_some h33
        unfold piles_Check_b1 at h31
        try dsimp only at h31
        refine GL.skip ?_
        refine GL.seq ?_
        refine GL.block ?_
        refine GL.seq ?_
        refine GL.region ?_
        refine RL.idxS (sz := 1) 0 Try.underlying27 Try_ln3 rfl rfl rfl rfl rfl SlOf.imm (by omega) (by omega) ?_
        refine RL.ldSx (i := i28) (e' := y38) 0 Ex.ik Try_ln3 rfl rfl rfl rfl SlOf.imm e39 Part.self ?_
        refine RL.asg rfl rfl rfl ?_
        refine RL.finG ?_
        refine GL.seq ?_
        obtain ⟨y45, K46, h47, h48, h49, h50, h51⟩ := bindF_K h31
        refine GL.join (ι := Bool) (fun (p : Bool) => [(8, v0), (9, .int .i64 ((x0).length : Int)), (10, .int .i64 (i28 : Int)), (19, .bool p)]) (fun (p : Bool) => [imm (TR.sl TR.int) v0 x0]) (fun (p : Bool) => K46 (.nx p)) ?_ ?_
        · skip
          refine GL.region ?_
          refine RL.mv rfl rfl rfl ?_
          refine RL.binI (v := .bool (decide (y38 < (0 : Int)))) rfl rfl rfl rfl rfl ?_
          refine RL.mv rfl rfl rfl ?_
          refine RL.split (t := 16) rfl (fun b52 => ?_) (fun b52 => ?_)
          · replace h47 := ite_t b52 h47
            refine RL.skip rfl rfl ?_
            refine RL.skip rfl rfl ?_
            refine RL.pickT rfl rfl rfl rfl ?_
            refine RL.fin ?_
            cases h47
            exact fun a w st => mid_intro true h48 (St.cut [0] ⟨rfl, rfl, rfl, rfl, trivial⟩ (by decide) rfl st)
          · replace h47 := ite_f b52 h47
            refine RL.mv rfl rfl rfl ?_
            refine RL.binI (v := .bool (decide (y38 > (40 : Int)))) rfl rfl rfl rfl rfl ?_
            refine RL.pickF rfl rfl rfl rfl ?_
            refine RL.fin ?_
            cases h47
            exact fun a w st => mid_intro (decide (y38 > (40 : Int))) h48 (St.cut [0] ⟨rfl, rfl, rfl, rfl, trivial⟩ (by decide) rfl st)
        · rintro x44 h53
          have h54 := h49 _ h53
          try dsimp only at h54
          refine GL.weak (env' := [(8, v0), (9, .int .i64 ((x0).length : Int)), (10, .int .i64 (i28 : Int)), (19, .bool x44)]) (L' := [imm (TR.sl TR.int) v0 x0]) (fun _ _ st => st) ?_
          refine GL.cond rfl (fun b55 => ?_) (fun b55 => ?_)
          · replace h54 := ite_t b55 h54
            refine GL.seq ?_
            refine GL.region ?_
            refine RL.asg rfl rfl rfl ?_
            refine RL.finG ?_
            cases h54
            replace h32 : some (Fl.rt _) = some y21 := h32
            cases h32
            have hh := h26 _ h24
            subst hh
            exact GL.ret (Gx.ret (v := .int .i64 (1 : Int)) (res1 rfl rfl) (fun a w st => st.toPostC rfl))
          · replace h54 := ite_f b55 h54
            refine GL.skip ?_
            refine GL.nilB ?_
            refine GL.region ?_
            refine RL.binI (v := .int .i64 ((i28 + 1 : Nat) : Int)) rfl rfl rfl rfl (binI_succ i28 (by omega)) ?_
            refine RL.mv rfl rfl rfl ?_
            refine RL.fin ?_
            cases h54
            exact fun a w st => lop_intro (i28 + 1, r40) ⟨by show i28 + 1 + r40.length = (x0).length; simp only [List.length_cons] at h34; omega, h41, h32⟩ (by simp) (St.cut [0] ⟨rfl, rfl, rfl, trivial⟩ (by decide) rfl st)
      · have h37 : ¬ i28 < (x0).length := by have := of_decide_eq_false b36; omega
        obtain rfl : r29 = [] := by rw [← h35]; exact List.drop_of_length_le (by omega)
        replace h33 : some (Fl.nx _) = some y21 := h33
        cases h33
        exact GL.exit (fun a w st => mid_intro () h24 (St.cut [] trivial (by decide) rfl st))
    · rintro ⟨⟩ h56
      have h57 := h25 _ h56
      try dsimp only at h57
      refine GL.weak (env' := []) (L' := []) (fun _ _ st => st) ?_
      refine GL.seq ?_
      refine GL.region ?_
      refine RL.asg rfl rfl rfl ?_
      refine RL.finG ?_
      have h57 := Option.some.inj h57
      subst h57
      exact GL.ret (Gx.ret (v := .int .i64 (0 : Int)) (res1 rfl rfl) (fun a w st => st.toPostC rfl))

set_option maxHeartbeats 4000000 in
theorem piles_Move_c (S : Hp) (w : World) (hS : S.sub w) (v0 : Value) (x0 : (List Int)) (k0 : ((TR.sl TR.int)).vrep S v0 x0) (res : Int × Int × Int) (hm : piles_Move_m x0 = some res) : Calls Try.prog 20 #[v0] w (PostC w (.tuple #[.int .i64 res.1, .int .i64 res.2.1, .int .i64 res.2.2])) := by
  refine calls_enter 45 Try.func20 Try.ntmps20 rfl S true [(0, v0)] [imm (TR.sl TR.int) v0 x0] rfl ⟨rfl, trivial⟩ hS ⟨k0, trivial⟩ ?_
  unfold piles_Move_m at hm
  refine GL.seq ?_
  refine GL.region ?_
  refine RL.asg rfl rfl rfl ?_
  refine RL.asg rfl rfl rfl ?_
  refine RL.asg rfl rfl rfl ?_
  refine RL.finG ?_
  refine GL.seq ?_
  refine GL.seq ?_
  refine GL.region ?_
  refine RL.mv rfl rfl rfl ?_
  obtain ⟨y3, e4, hm⟩ := bind_some hm
  refine RL.callC (v := .int .i64 y3) (vs := [v0]) Try_fit30 rfl rfl rfl rfl (fun U w hU hW hL => piles_Check_c U w hU _ _ (hL 0 _ _ rfl Seen.imm) _ e4) ?_
  refine RL.asg rfl rfl rfl ?_
  refine RL.finG ?_
  refine GL.seq ?_
  refine GL.region ?_
  refine RL.mv rfl rfl rfl ?_
  refine RL.binI (v := .bool (y3 != (0 : Int))) rfl rfl rfl rfl rfl ?_
  refine RL.finG ?_
  refine GL.cond rfl (fun b5 => ?_) (fun b5 => ?_)
  · replace hm := ite_t b5 hm
    refine GL.seq ?_
    refine GL.region ?_
    refine RL.mv rfl rfl rfl ?_
    refine RL.asg rfl rfl rfl ?_
    refine RL.asg rfl rfl rfl ?_
    refine RL.asg rfl rfl rfl ?_
    refine RL.finG ?_
    have hm := Option.some.inj hm
    subst hm
    exact GL.ret (Gx.ret (v := .tuple #[.int .i64 (0 : Int), .int .i64 (0 : Int), .int .i64 y3]) (res3 rfl rfl rfl rfl) (fun a w st => st.toPostC rfl))
  · replace hm := ite_f b5 hm
    refine GL.skip ?_
    refine GL.seq ?_
    refine GL.region ?_
    refine RL.asg rfl rfl rfl ?_
    refine RL.finG ?_
    refine GL.seq ?_
    refine GL.seq ?_
    refine GL.region ?_
    refine RL.mv rfl rfl rfl ?_
    refine RL.lenS 0 Try.underlying27 rfl rfl rfl rfl SlOf.imm ?_
    refine RL.mv rfl rfl rfl ?_
    refine RL.finG ?_
    refine GL.open_ 0 rfl (fun S h => len_imm S h) (fun n11 => ?_)
    obtain ⟨y12, K13, h14, h15, h16, h17, h18⟩ := bindR_K hm
    refine GL.join (ι := Int) (fun (p : Int) => [(0, v0), (6, .int .i64 p)]) (fun (p : Int) => [imm (TR.sl TR.int) v0 x0]) (fun (p : Int) => K13 (.nx p)) ?_ ?_
    · refine GL.block ?_
      refine GL.loop (ι := Nat × (List Int) × Int) (fun (p : Nat × (List Int) × Int) => [(0, v0), (6, .int .i64 p.2.2), (16, v0), (17, .int .i64 ((x0).length : Int)), (18, .int .i64 (p.1 : Int))]) (fun (p : Nat × (List Int) × Int) => [imm (TR.sl TR.int) v0 x0]) (fun (p : Nat × (List Int) × Int) => p.1 + p.2.1.length = (x0).length ∧ List.drop p.1 x0 = p.2.1 ∧ rangeL piles_Move_b1 p.2.1 p.1 p.2.2 = some y12) (fun (p : Nat × (List Int) × Int) => p.2.1.length) (0, x0, (0 : Int)) ⟨by simp, by simp, h14⟩ (fun a w st => St.cut [0] ⟨rfl, rfl, rfl, rfl, rfl, trivial⟩ (by decide) rfl st) ?_
      rintro ⟨i19, r20, x6⟩ ⟨h25, h26, h24⟩
      try dsimp only at h25 h26 h24
      refine GL.weak (env' := [(0, v0), (6, .int .i64 x6), (16, v0), (17, .int .i64 ((x0).length : Int)), (18, .int .i64 (i19 : Int))]) (L' := [imm (TR.sl TR.int) v0 x0]) (fun _ _ st => st) ?_
      refine GL.seq ?_
      refine GL.region ?_
      refine RL.binI (v := .bool (decide ((i19 : Int) < ((x0).length : Int)))) rfl rfl rfl rfl rfl ?_
      refine RL.finG ?_
      refine GL.seq ?_
      refine GL.cond rfl (fun b27 => ?_) (fun b27 => ?_)
      · have h28 : i19 < (x0).length := by have := of_decide_eq_true b27; omega
        obtain ⟨y29, r31, hr, e30, h32⟩ := drop_cons h26 rfl h28
        subst hr
        obtain ⟨z21, h22, h23⟩ := rangeL_some h24
        unfold piles_Move_b1 at h22
        try dsimp only at h22
        refine GL.skip ?_
        refine GL.seq ?_
        refine GL.block ?_
        refine GL.seq ?_
        refine GL.region ?_
        refine RL.idxS (sz := 1) 0 Try.underlying27 Try_ln3 rfl rfl rfl rfl rfl SlOf.imm (by omega) (by omega) ?_
        refine RL.ldSx (i := i19) (e' := y29) 0 Ex.ik Try_ln3 rfl rfl rfl rfl SlOf.imm e30 Part.self ?_
        refine RL.asg rfl rfl rfl ?_
        refine RL.finG ?_
        refine GL.region ?_
        refine RL.mv rfl rfl rfl ?_
        refine RL.mv rfl rfl rfl ?_
        refine RL.binI (v := .int .i64 (bits .xor .i64 x6 y29)) rfl rfl rfl rfl rfl ?_
        refine RL.asg rfl rfl rfl ?_
        refine RL.finG ?_
        refine GL.nilB ?_
        refine GL.region ?_
        refine RL.binI (v := .int .i64 ((i19 + 1 : Nat) : Int)) rfl rfl rfl rfl (binI_succ i19 (by omega)) ?_
        refine RL.mv rfl rfl rfl ?_
        refine RL.fin ?_
        cases h22
        exact fun a w st => lop_intro (i19 + 1, r31, bits .xor .i64 x6 y29) ⟨by show i19 + 1 + r31.length = (x0).length; simp only [List.length_cons] at h25; omega, h32, h23⟩ (by simp) (St.cut [0] ⟨rfl, rfl, rfl, rfl, rfl, trivial⟩ (by decide) rfl st)
      · have h28 : ¬ i19 < (x0).length := by have := of_decide_eq_false b27; omega
        obtain rfl : r20 = [] := by rw [← h26]; exact List.drop_of_length_le (by omega)
        replace h24 : some (Fl.nx _) = some y12 := h24
        cases h24
        exact GL.exit (fun a w st => mid_intro x6 h15 (St.cut [0] ⟨rfl, rfl, trivial⟩ (by decide) rfl st))
    · rintro x6 h33
      have h34 := h16 _ h33
      try dsimp only at h34
      refine GL.weak (env' := [(0, v0), (6, .int .i64 x6)]) (L' := [imm (TR.sl TR.int) v0 x0]) (fun _ _ st => st) ?_
      refine GL.seq ?_
      refine GL.seq ?_
      refine GL.region ?_
      refine RL.mv rfl rfl rfl ?_
      refine RL.lenS 0 Try.underlying27 rfl rfl rfl rfl SlOf.imm ?_
      refine RL.mv rfl rfl rfl ?_
      refine RL.finG ?_
      refine GL.open_ 0 rfl (fun S h => len_imm S h) (fun n40 => ?_)
      obtain ⟨y41, K42, h43, h44, h45, h46, h47⟩ := bindR_K h34
      refine GL.join (ι := Unit) (fun (p : Unit) => []) (fun (p : Unit) => []) (fun (p : Unit) => K42 (.nx ())) ?_ ?_
      · refine GL.block ?_
        refine GL.loop (ι := Nat × (List Int)) (fun (p : Nat × (List Int)) => [(6, .int .i64 x6), (26, v0), (27, .int .i64 ((x0).length : Int)), (28, .int .i64 (p.1 : Int))]) (fun (p : Nat × (List Int)) => [imm (TR.sl TR.int) v0 x0]) (fun (p : Nat × (List Int)) => p.1 + p.2.length = (x0).length ∧ List.drop p.1 x0 = p.2 ∧ rangeL (piles_Move_b2 x6) p.2 p.1 () = some y41) (fun (p : Nat × (List Int)) => p.2.length) (0, x0) ⟨by simp, by simp, h43⟩ (fun a w st => St.cut [0] ⟨rfl, rfl, rfl, rfl, trivial⟩ (by decide) rfl st) ?_
        rintro ⟨i48, r49⟩ ⟨h54, h55, h53⟩
        try dsimp only at h54 h55 h53
        refine GL.weak (env' := [(6, .int .i64 x6), (26, v0), (27, .int .i64 ((x0).length : Int)), (28, .int .i64 (i48 : Int))]) (L' := [imm (TR.sl TR.int) v0 x0]) (fun _ _ st => st) ?_
        refine GL.seq ?_
        refine GL.region ?_
        refine RL.binI (v := .bool (decide ((i48 : Int) < ((x0).length : Int)))) rfl rfl rfl rfl rfl ?_
        refine RL.finG ?_
        refine GL.seq ?_
        refine GL.cond rfl (fun b56 => ?_) (fun b56 => ?_)
        · have h57 : i48 < (x0).length := by have := of_decide_eq_true b56; omega
          obtain ⟨y58, r60, hr, e59, h61⟩ := drop_cons h55 rfl h57
          subst hr
          obtain ⟨z50, h51, h52⟩ := rangeL_some h53
          unfold piles_Move_b2 at h51
          try dsimp only at h51
          refine GL.skip ?_
          refine GL.seq ?_
          refine GL.block ?_
          refine GL.seq ?_
          refine GL.region ?_
          refine RL.mv rfl rfl rfl ?_
          refine RL.idxS (sz := 1) 0 Try.underlying27 Try_ln3 rfl rfl rfl rfl rfl SlOf.imm (by omega) (by omega) ?_
          refine RL.ldSx (i := i48) (e' := y58) 0 Ex.ik Try_ln3 rfl rfl rfl rfl SlOf.imm e59 Part.self ?_
          refine RL.asg rfl rfl rfl ?_
          refine RL.asg rfl rfl rfl ?_
          refine RL.finG ?_
          refine GL.seq ?_
          refine GL.region ?_
          refine RL.mv rfl rfl rfl ?_
          refine RL.mv rfl rfl rfl ?_
          refine RL.binI (v := .int .i64 (bits .xor .i64 y58 x6)) rfl rfl rfl rfl rfl ?_
          refine RL.mv rfl rfl rfl ?_
          refine RL.binI (v := .bool (decide ((bits .xor .i64 y58 x6) < y58))) rfl rfl rfl rfl rfl ?_
          refine RL.finG ?_
          refine GL.cond rfl (fun b62 => ?_) (fun b62 => ?_)
          · replace h51 := ite_t b62 h51
            refine GL.seq ?_
            refine GL.region ?_
            refine RL.mv rfl rfl rfl ?_
            refine RL.mv rfl rfl rfl ?_
            refine RL.mv rfl rfl rfl ?_
            refine RL.mv rfl rfl rfl ?_
            refine RL.binI (v := .int .i64 (bits .xor .i64 y58 x6)) rfl rfl rfl rfl rfl ?_
            refine RL.binI (v := .int .i64 (wsub y58 (bits .xor .i64 y58 x6))) rfl rfl rfl rfl rfl ?_
            refine RL.asg rfl rfl rfl ?_
            refine RL.asg rfl rfl rfl ?_
            refine RL.asg rfl rfl rfl ?_
            refine RL.finG ?_
            cases h51
            replace h52 : some (Fl.rt _) = some y41 := h52
            cases h52
            have hh := h46 _ h44
            subst hh
            exact GL.ret (Gx.ret (v := .tuple #[.int .i64 (i48 : Int), .int .i64 (wsub y58 (bits .xor .i64 y58 x6)), .int .i64 (0 : Int)]) (res3 rfl rfl rfl rfl) (fun a w st => st.toPostC rfl))
          · replace h51 := ite_f b62 h51
            refine GL.skip ?_
            refine GL.nilB ?_
            refine GL.region ?_
            refine RL.binI (v := .int .i64 ((i48 + 1 : Nat) : Int)) rfl rfl rfl rfl (binI_succ i48 (by omega)) ?_
            refine RL.mv rfl rfl rfl ?_
            refine RL.fin ?_
            cases h51
            exact fun a w st => lop_intro (i48 + 1, r60) ⟨by show i48 + 1 + r60.length = (x0).length; simp only [List.length_cons] at h54; omega, h61, h52⟩ (by simp) (St.cut [0] ⟨rfl, rfl, rfl, rfl, trivial⟩ (by decide) rfl st)
        · have h57 : ¬ i48 < (x0).length := by have := of_decide_eq_false b56; omega
          obtain rfl : r49 = [] := by rw [← h55]; exact List.drop_of_length_le (by omega)
          replace h53 : some (Fl.nx _) = some y41 := h53
          cases h53
          exact GL.exit (fun a w st => mid_intro () h44 (St.cut [] trivial (by decide) rfl st))
      · rintro ⟨⟩ h63
        have h64 := h45 _ h63
        try dsimp only at h64
        refine GL.weak (env' := []) (L' := []) (fun _ _ st => st) ?_
        refine GL.seq ?_
        refine GL.region ?_
        refine RL.asg rfl rfl rfl ?_
        refine RL.asg rfl rfl rfl ?_
        refine RL.asg rfl rfl rfl ?_
        refine RL.finG ?_
        have h64 := Option.some.inj h64
        subst h64
        exact GL.ret (Gx.ret (v := .tuple #[.int .i64 (0 : Int), .int .i64 (0 : Int), .int .i64 (4 : Int)]) (res3 rfl rfl rfl rfl) (fun a w st => st.toPostC rfl))

set_option maxHeartbeats 4000000 in
theorem piles_Wins_c (S : Hp) (w : World) (hS : S.sub w) (v0 : Value) (x0 : (List Int)) (k0 : ((TR.sl TR.int)).vrep S v0 x0) (res : Bool × Int) (hm : piles_Wins_m x0 = some res) : Calls Try.prog 19 #[v0] w (PostC w (.tuple #[.bool res.1, .int .i64 res.2])) := by
  refine calls_enter 25 Try.func19 Try.ntmps19 rfl S true [(0, v0)] [imm (TR.sl TR.int) v0 x0] rfl ⟨rfl, trivial⟩ hS ⟨k0, trivial⟩ ?_
  unfold piles_Wins_m at hm
  refine GL.seq ?_
  refine GL.region ?_
  refine RL.asg rfl rfl rfl ?_
  refine RL.asg rfl rfl rfl ?_
  refine RL.finG ?_
  refine GL.seq ?_
  refine GL.seq ?_
  refine GL.region ?_
  refine RL.mv rfl rfl rfl ?_
  obtain ⟨y3, e4, hm⟩ := bind_some hm
  refine RL.callC (v := .int .i64 y3) (vs := [v0]) Try_fit30 rfl rfl rfl rfl (fun U w hU hW hL => piles_Check_c U w hU _ _ (hL 0 _ _ rfl Seen.imm) _ e4) ?_
  refine RL.asg rfl rfl rfl ?_
  refine RL.finG ?_
  refine GL.seq ?_
  refine GL.region ?_
  refine RL.mv rfl rfl rfl ?_
  refine RL.binI (v := .bool (y3 != (0 : Int))) rfl rfl rfl rfl rfl ?_
  refine RL.finG ?_
  refine GL.cond rfl (fun b5 => ?_) (fun b5 => ?_)
  · replace hm := ite_t b5 hm
    refine GL.seq ?_
    refine GL.region ?_
    refine RL.mv rfl rfl rfl ?_
    refine RL.asg rfl rfl rfl ?_
    refine RL.asg rfl rfl rfl ?_
    refine RL.finG ?_
    have hm := Option.some.inj hm
    subst hm
    exact GL.ret (Gx.ret (v := .tuple #[.bool false, .int .i64 y3]) (res2 rfl rfl rfl) (fun a w st => st.toPostC rfl))
  · replace hm := ite_f b5 hm
    refine GL.skip ?_
    refine GL.seq ?_
    refine GL.region ?_
    refine RL.asg rfl rfl rfl ?_
    refine RL.finG ?_
    refine GL.seq ?_
    refine GL.seq ?_
    refine GL.region ?_
    refine RL.mv rfl rfl rfl ?_
    refine RL.lenS 0 Try.underlying27 rfl rfl rfl rfl SlOf.imm ?_
    refine RL.mv rfl rfl rfl ?_
    refine RL.finG ?_
    refine GL.open_ 0 rfl (fun S h => len_imm S h) (fun n11 => ?_)
    obtain ⟨y12, K13, h14, h15, h16, h17, h18⟩ := bindR_K hm
    refine GL.join (ι := Int) (fun (p : Int) => [(5, .int .i64 p)]) (fun (p : Int) => []) (fun (p : Int) => K13 (.nx p)) ?_ ?_
    · refine GL.block ?_
      refine GL.loop (ι := Nat × (List Int) × Int) (fun (p : Nat × (List Int) × Int) => [(5, .int .i64 p.2.2), (13, v0), (14, .int .i64 ((x0).length : Int)), (15, .int .i64 (p.1 : Int))]) (fun (p : Nat × (List Int) × Int) => [imm (TR.sl TR.int) v0 x0]) (fun (p : Nat × (List Int) × Int) => p.1 + p.2.1.length = (x0).length ∧ List.drop p.1 x0 = p.2.1 ∧ rangeL piles_Wins_b1 p.2.1 p.1 p.2.2 = some y12) (fun (p : Nat × (List Int) × Int) => p.2.1.length) (0, x0, (0 : Int)) ⟨by simp, by simp, h14⟩ (fun a w st => St.cut [0] ⟨rfl, rfl, rfl, rfl, trivial⟩ (by decide) rfl st) ?_
      rintro ⟨i19, r20, x6⟩ ⟨h25, h26, h24⟩
      try dsimp only at h25 h26 h24
      refine GL.weak (env' := [(5, .int .i64 x6), (13, v0), (14, .int .i64 ((x0).length : Int)), (15, .int .i64 (i19 : Int))]) (L' := [imm (TR.sl TR.int) v0 x0]) (fun _ _ st => st) ?_
      refine GL.seq ?_
      refine GL.region ?_
      refine RL.binI (v := .bool (decide ((i19 : Int) < ((x0).length : Int)))) rfl rfl rfl rfl rfl ?_
      refine RL.finG ?_
      refine GL.seq ?_
      refine GL.cond rfl (fun b27 => ?_) (fun b27 => ?_)
      · have h28 : i19 < (x0).length := by have := of_decide_eq_true b27; omega
        obtain ⟨y29, r31, hr, e30, h32⟩ := drop_cons h26 rfl h28
        subst hr
        obtain ⟨z21, h22, h23⟩ := rangeL_some h24
        unfold piles_Wins_b1 at h22
        try dsimp only at h22
        refine GL.skip ?_
        refine GL.seq ?_
        refine GL.block ?_
        refine GL.seq ?_
        refine GL.region ?_
        refine RL.idxS (sz := 1) 0 Try.underlying27 Try_ln3 rfl rfl rfl rfl rfl SlOf.imm (by omega) (by omega) ?_
        refine RL.ldSx (i := i19) (e' := y29) 0 Ex.ik Try_ln3 rfl rfl rfl rfl SlOf.imm e30 Part.self ?_
        refine RL.asg rfl rfl rfl ?_
        refine RL.finG ?_
        refine GL.region ?_
        refine RL.mv rfl rfl rfl ?_
        refine RL.mv rfl rfl rfl ?_
        refine RL.binI (v := .int .i64 (bits .xor .i64 x6 y29)) rfl rfl rfl rfl rfl ?_
        refine RL.asg rfl rfl rfl ?_
        refine RL.finG ?_
        refine GL.nilB ?_
        refine GL.region ?_
        refine RL.binI (v := .int .i64 ((i19 + 1 : Nat) : Int)) rfl rfl rfl rfl (binI_succ i19 (by omega)) ?_
        refine RL.mv rfl rfl rfl ?_
        refine RL.fin ?_
        cases h22
        exact fun a w st => lop_intro (i19 + 1, r31, bits .xor .i64 x6 y29) ⟨by show i19 + 1 + r31.length = (x0).length; simp only [List.length_cons] at h25; omega, h32, h23⟩ (by simp) (St.cut [0] ⟨rfl, rfl, rfl, rfl, trivial⟩ (by decide) rfl st)
      · have h28 : ¬ i19 < (x0).length := by have := of_decide_eq_false b27; omega
        obtain rfl : r20 = [] := by rw [← h26]; exact List.drop_of_length_le (by omega)
        replace h24 : some (Fl.nx _) = some y12 := h24
        cases h24
        exact GL.exit (fun a w st => mid_intro x6 h15 (St.cut [] ⟨rfl, trivial⟩ (by decide) rfl st))
    · rintro x6 h33
      have h34 := h16 _ h33
      try dsimp only at h34
      refine GL.weak (env' := [(5, .int .i64 x6)]) (L' := []) (fun _ _ st => st) ?_
      refine GL.seq ?_
      refine GL.region ?_
      refine RL.mv rfl rfl rfl ?_
      refine RL.binI (v := .bool (x6 != (0 : Int))) rfl rfl rfl rfl rfl ?_
      refine RL.asg rfl rfl rfl ?_
      refine RL.asg rfl rfl rfl ?_
      refine RL.finG ?_
      have h34 := Option.some.inj h34
      subst h34
      exact GL.ret (Gx.ret (v := .tuple #[.bool (x6 != (0 : Int)), .int .i64 (0 : Int)]) (res2 rfl rfl rfl) (fun a w st => st.toPostC rfl))

set_option maxHeartbeats 4000000 in
theorem slices_IndexFunc_api_Errno_api_Errno_c (S : Hp) (w : World) (hS : S.sub w) (v0 : Value) (x0 : (List Int)) (k0 : ((TR.sl TR.int)).vrep S v0 x0) (f1 : FuncId) (c1 : Array Value) (t1 : Fit Try.prog f1) (g1 : Int → Option Bool) (k1 : ∀ (U : Hp) (w' : World), Hp.le S U → U.sub w' → ∀ (a0 : Int) (rr : Bool), g1 a0 = some rr → Calls Try.prog f1 (#[.int .i64 a0] ++ c1) w' (PostV w' (.bool rr))) (res : Int) (hm : slices_IndexFunc_api_Errno_api_Errno_m x0 g1 = some res) : Calls Try.prog 34 #[v0, .func (.func f1) #[] c1] w (PostV w (.int .i64 res)) := by
  refine calls_enter 19 Try.func34 Try.ntmps34 rfl S false [(0, v0), (1, .func (.func f1) #[] c1)] [imm (TR.sl TR.int) v0 x0] rfl ⟨rfl, ⟨rfl, trivial⟩⟩ hS ⟨k0, trivial⟩ ?_
  unfold slices_IndexFunc_api_Errno_api_Errno_m at hm
  refine GL.seq ?_
  refine GL.region ?_
  refine RL.asg rfl rfl rfl ?_
  refine RL.finG ?_
  refine GL.seq ?_
  refine GL.seq ?_
  refine GL.region ?_
  refine RL.mv rfl rfl rfl ?_
  refine RL.lenS 0 Try.underlying62 rfl rfl rfl rfl SlOf.imm ?_
  refine RL.mv rfl rfl rfl ?_
  refine RL.finG ?_
  refine GL.open_ 0 rfl (fun S h => len_imm S h) (fun n10 => ?_)
  obtain ⟨y11, K12, h13, h14, h15, h16, h17⟩ := bindR_K hm
  refine GL.join (ι := Unit) (fun (p : Unit) => []) (fun (p : Unit) => []) (fun (p : Unit) => K12 (.nx ())) ?_ ?_
  · refine GL.block ?_
    refine GL.loop (ι := Nat × (List Int)) (fun (p : Nat × (List Int)) => [(0, v0), (1, .func (.func f1) #[] c1), (7, .int .i64 ((x0).length : Int)), (8, .int .i64 (p.1 : Int))]) (fun (p : Nat × (List Int)) => [imm (TR.sl TR.int) v0 x0]) (fun (p : Nat × (List Int)) => p.1 + p.2.length = (x0).length ∧ List.drop p.1 x0 = p.2 ∧ rangeL (slices_IndexFunc_api_Errno_api_Errno_b1 g1) p.2 p.1 () = some y11) (fun (p : Nat × (List Int)) => p.2.length) (0, x0) ⟨by simp, by simp, h13⟩ (fun a w st => St.cut [0] ⟨rfl, rfl, rfl, rfl, trivial⟩ (by decide) rfl st) ?_
    rintro ⟨i18, r19⟩ ⟨h24, h25, h23⟩
    try dsimp only at h24 h25 h23
    refine GL.weak (env' := [(0, v0), (1, .func (.func f1) #[] c1), (7, .int .i64 ((x0).length : Int)), (8, .int .i64 (i18 : Int))]) (L' := [imm (TR.sl TR.int) v0 x0]) (fun _ _ st => st) ?_
    refine GL.seq ?_
    refine GL.region ?_
    refine RL.binI (v := .bool (decide ((i18 : Int) < ((x0).length : Int)))) rfl rfl rfl rfl rfl ?_
    refine RL.finG ?_
    refine GL.seq ?_
    refine GL.cond rfl (fun b26 => ?_) (fun b26 => ?_)
    · have h27 : i18 < (x0).length := by have := of_decide_eq_true b26; omega
      obtain ⟨y28, r30, hr, e29, h31⟩ := drop_cons h25 rfl h27
      subst hr
      obtain ⟨z20, h21, h22⟩ := rangeL_some h23
      unfold slices_IndexFunc_api_Errno_api_Errno_b1 at h21
      try dsimp only at h21
      refine GL.skip ?_
      refine GL.seq ?_
      refine GL.block ?_
      refine GL.seq ?_
      refine GL.region ?_
      refine RL.mv rfl rfl rfl ?_
      refine RL.asg rfl rfl rfl ?_
      refine RL.finG ?_
      refine GL.seq ?_
      refine GL.region ?_
      refine RL.mv rfl rfl rfl ?_
      refine RL.mv rfl rfl rfl ?_
      refine RL.mv rfl rfl rfl ?_
      refine RL.idxS (sz := 1) 0 Try.underlying62 Try_ln28 rfl rfl rfl rfl rfl SlOf.imm (by omega) (by omega) ?_
      refine RL.ldSx (i := i18) (e' := y28) 0 Ex.ik Try_ln28 rfl rfl rfl rfl SlOf.imm e29 Part.self ?_
      obtain ⟨y34, e35, h21⟩ := bind_some h21
      refine RL.callV (v := .bool y34) (vs := [.int .i64 y28]) t1 rfl (Or.inl rfl) rfl rfl rfl rfl (fun U w hU hW hL => k1 U w hW hU y28 _ e35) ?_
      refine RL.finG ?_
      refine GL.cond rfl (fun b36 => ?_) (fun b36 => ?_)
      · replace h21 := ite_t b36 h21
        refine GL.seq ?_
        refine GL.region ?_
        refine RL.mv rfl rfl rfl ?_
        refine RL.asg rfl rfl rfl ?_
        refine RL.finG ?_
        cases h21
        replace h22 : some (Fl.rt _) = some y11 := h22
        cases h22
        have hh := h16 _ h14
        subst hh
        exact GL.ret (Gx.ret (v := .int .i64 (i18 : Int)) (res1 rfl rfl) (fun a w st => st.toPostV))
      · replace h21 := ite_f b36 h21
        refine GL.skip ?_
        refine GL.nilB ?_
        refine GL.region ?_
        refine RL.binI (v := .int .i64 ((i18 + 1 : Nat) : Int)) rfl rfl rfl rfl (binI_succ i18 (by omega)) ?_
        refine RL.mv rfl rfl rfl ?_
        refine RL.fin ?_
        cases h21
        exact fun a w st => lop_intro (i18 + 1, r30) ⟨by show i18 + 1 + r30.length = (x0).length; simp only [List.length_cons] at h24; omega, h31, h22⟩ (by simp) (St.cut [0] ⟨rfl, rfl, rfl, rfl, trivial⟩ (by decide) rfl st)
    · have h27 : ¬ i18 < (x0).length := by have := of_decide_eq_false b26; omega
      obtain rfl : r19 = [] := by rw [← h25]; exact List.drop_of_length_le (by omega)
      replace h23 : some (Fl.nx _) = some y11 := h23
      cases h23
      exact GL.exit (fun a w st => mid_intro () h14 (St.cut [] trivial (by decide) rfl st))
  · rintro ⟨⟩ h37
    have h38 := h15 _ h37
    try dsimp only at h38
    refine GL.weak (env' := []) (L' := []) (fun _ _ st => st) ?_
    refine GL.seq ?_
    refine GL.region ?_
    refine RL.asg rfl rfl rfl ?_
    refine RL.finG ?_
    have h38 := Option.some.inj h38
    subst h38
    exact GL.ret (Gx.ret (v := .int .i64 (-1 : Int)) (res1 rfl rfl) (fun a w st => st.toPostV))

set_option maxHeartbeats 4000000 in
theorem slices_ContainsFunc_api_Errno_api_Errno_c (S : Hp) (w : World) (hS : S.sub w) (v0 : Value) (x0 : (List Int)) (k0 : ((TR.sl TR.int)).vrep S v0 x0) (f1 : FuncId) (c1 : Array Value) (t1 : Fit Try.prog f1) (g1 : Int → Option Bool) (k1 : ∀ (U : Hp) (w' : World), Hp.le S U → U.sub w' → ∀ (a0 : Int) (rr : Bool), g1 a0 = some rr → Calls Try.prog f1 (#[.int .i64 a0] ++ c1) w' (PostV w' (.bool rr))) (res : Bool) (hm : slices_ContainsFunc_api_Errno_api_Errno_m x0 g1 = some res) : Calls Try.prog 31 #[v0, .func (.func f1) #[] c1] w (PostV w (.bool res)) := by
  refine calls_enter 9 Try.func31 Try.ntmps31 rfl S false [(0, v0), (1, .func (.func f1) #[] c1)] [imm (TR.sl TR.int) v0 x0] rfl ⟨rfl, ⟨rfl, trivial⟩⟩ hS ⟨k0, trivial⟩ ?_
  unfold slices_ContainsFunc_api_Errno_api_Errno_m at hm
  refine GL.seq ?_
  refine GL.region ?_
  refine RL.asg rfl rfl rfl ?_
  refine RL.finG ?_
  refine GL.seq ?_
  refine GL.region ?_
  refine RL.mv rfl rfl rfl ?_
  refine RL.mv rfl rfl rfl ?_
  obtain ⟨y3, e4, hm⟩ := bind_some hm
  refine RL.callV (v := .int .i64 y3) (vs := [v0, .func (.func f1) #[] c1]) Try_fit34 rfl (Or.inl rfl) rfl rfl rfl rfl (fun U w hU hW hL => slices_IndexFunc_api_Errno_api_Errno_c U w hU _ _ (hL 0 _ _ rfl Seen.imm) f1 c1 t1 g1 (fun U' w' hle => k1 U' w' (Hp.le_trans hW hle)) _ e4) ?_
  refine RL.binI (v := .bool (decide (y3 ≥ (0 : Int)))) rfl rfl rfl rfl rfl ?_
  refine RL.asg rfl rfl rfl ?_
  refine RL.finG ?_
  have hm := Option.some.inj hm
  subst hm
  exact GL.ret (Gx.ret (v := .bool (decide (y3 ≥ (0 : Int)))) (res1 rfl rfl) (fun a w st => st.toPostV))

set_option maxHeartbeats 4000000 in
theorem pk_good_1_c (S : Hp) (w : World) (hS : S.sub w) (x0 : Int) (res : Bool) (hm : pk_good_1_m x0 = some res) : Calls Try.prog 32 #[.int .i64 x0] w (PostC w (.bool res)) := by
  refine calls_enter 5 Try.func32 Try.ntmps32 rfl S true [(0, .int .i64 x0)] [] rfl ⟨rfl, trivial⟩ hS trivial ?_
  unfold pk_good_1_m at hm
  refine GL.seq ?_
  refine GL.region ?_
  refine RL.asg rfl rfl rfl ?_
  refine RL.finG ?_
  refine GL.seq ?_
  refine GL.region ?_
  refine RL.mv rfl rfl rfl ?_
  refine RL.binI (v := .bool (x0 != (0 : Int))) rfl rfl rfl rfl rfl ?_
  refine RL.asg rfl rfl rfl ?_
  refine RL.finG ?_
  have hm := Option.some.inj hm
  subst hm
  exact GL.ret (Gx.ret (v := .bool (x0 != (0 : Int))) (res1 rfl rfl) (fun a w st => st.toPostC rfl))

set_option maxHeartbeats 4000000 in
theorem pk_good_c (S : Hp) (w : World) (hS : S.sub w) (v0 : Value) (x0 : (List Int)) (k0 : ((TR.sl TR.int)).vrep S v0 x0) (res : Bool) (hm : pk_good_m x0 = some res) : Calls Try.prog 22 #[v0] w (PostV w (.bool res)) := by
  refine calls_enter 6 Try.func22 Try.ntmps22 rfl S false [(0, v0)] [imm (TR.sl TR.int) v0 x0] rfl ⟨rfl, trivial⟩ hS ⟨k0, trivial⟩ ?_
  unfold pk_good_m at hm
  refine GL.seq ?_
  refine GL.region ?_
  refine RL.asg rfl rfl rfl ?_
  refine RL.finG ?_
  refine GL.seq ?_
  refine GL.region ?_
  refine RL.mv rfl rfl rfl ?_
  obtain ⟨y3, e4, hm⟩ := bind_some hm
  refine RL.callV (v := .bool y3) (vs := [v0, .func (.func 32) #[] #[]]) Try_fit31 rfl (Or.inl rfl) rfl rfl rfl rfl (fun U w hU hW hL => slices_ContainsFunc_api_Errno_api_Errno_c U w hU _ _ (hL 0 _ _ rfl Seen.imm) 32 #[] Try_fit32 (fun a0 => pk_good_1_m a0) (fun U' w' hle hU' a0 rr hr => (pk_good_1_c U' w' hU' a0 rr hr).mono (fun _ _ z => z.toV)) _ e4) ?_
  refine RL.notB rfl rfl rfl ?_
  refine RL.asg rfl rfl rfl ?_
  refine RL.finG ?_
  have hm := Option.some.inj hm
  subst hm
  exact GL.ret (Gx.ret (v := .bool (!y3)) (res1 rfl rfl) (fun a w st => st.toPostV))

set_option maxHeartbeats 4000000 in
theorem pk_nims_c (S : Hp) (w : World) (hS : S.sub w)  (res : Bool) (hm : pk_nims_m = some res) : Calls Try.prog 17 #[] w (PostV w (.bool res)) := by
  refine calls_enter 33 Try.func17 Try.ntmps17 rfl S false [] [] rfl trivial hS trivial ?_
  unfold pk_nims_m at hm
  refine GL.seq ?_
  refine GL.region ?_
  refine RL.asg rfl rfl rfl ?_
  refine RL.finG ?_
  refine GL.seq ?_
  refine GL.region ?_
  refine RL.bS (t := TR.int) (vs := [.int .i64 (1 : Int), .int .i64 (2 : Int), .int .i64 (4 : Int)]) ([(1 : Int), (2 : Int), (4 : Int)] : (List Int)) Try.underlying27 Try_lo3 rfl rfl rfl rfl ⟨VR.int, ⟨VR.int, ⟨VR.int, trivial⟩⟩⟩ rfl (by decide) ?_
  intro v4
  obtain ⟨y5, e6, hm⟩ := bind_some hm
  refine RL.callC (v := .tuple #[.int .i64 y5.1, .int .i64 y5.2.1, .int .i64 y5.2.2]) (vs := [v4]) Try_fit20 rfl rfl rfl rfl (fun U w hU hW hL => piles_Move_c U w hU _ _ (hL 0 _ _ rfl Seen.own) _ e6) ?_
  refine RL.mv rfl rfl rfl ?_
  refine RL.ext rfl rfl rfl rfl ?_
  refine RL.ext rfl rfl rfl rfl ?_
  refine RL.ext rfl rfl rfl rfl ?_
  refine RL.asg rfl rfl rfl ?_
  refine RL.asg rfl rfl rfl ?_
  refine RL.asg rfl rfl rfl ?_
  refine RL.finG ?_
  refine GL.seq ?_
  refine GL.region ?_
  refine RL.bS (t := TR.int) (vs := [.int .i64 (1 : Int), .int .i64 (2 : Int), .int .i64 (3 : Int)]) ([(1 : Int), (2 : Int), (3 : Int)] : (List Int)) Try.underlying27 Try_lo3 rfl rfl rfl rfl ⟨VR.int, ⟨VR.int, ⟨VR.int, trivial⟩⟩⟩ rfl (by decide) ?_
  intro v10
  obtain ⟨y11, e12, hm⟩ := bind_some hm
  refine RL.callC (v := .tuple #[.bool y11.1, .int .i64 y11.2]) (vs := [v10]) Try_fit19 rfl rfl rfl rfl (fun U w hU hW hL => piles_Wins_c U w hU _ _ (hL 1 _ _ rfl Seen.own) _ e12) ?_
  refine RL.mv rfl rfl rfl ?_
  refine RL.ext rfl rfl rfl rfl ?_
  refine RL.ext rfl rfl rfl rfl ?_
  refine RL.asg rfl rfl rfl ?_
  refine RL.asg rfl rfl rfl ?_
  refine RL.finG ?_
  refine GL.seq ?_
  obtain ⟨y26, K27, h28, h29, h30, h31, h32⟩ := bindR_K hm
  refine GL.join (ι := Bool) (fun (p : Bool) => [(0, .bool p)]) (fun (p : Bool) => []) (fun (p : Bool) => K27 (.nx p)) ?_ ?_
  · skip
    refine GL.region ?_
    refine RL.mv rfl rfl rfl ?_
    refine RL.mv rfl rfl rfl ?_
    refine RL.bS (t := TR.int) (vs := [.int .i64 y5.2.2, .int .i64 y11.2]) ([y5.2.2, y11.2] : (List Int)) Try.underlying62 Try_lo28 rfl rfl rfl rfl ⟨VR.int, ⟨VR.int, trivial⟩⟩ rfl (by decide) ?_
    intro v33
    obtain ⟨y34, e35, h28⟩ := bind_some h28
    refine RL.callV (v := .bool y34) (vs := [v33]) Try_fit22 rfl (Or.inl rfl) rfl rfl rfl rfl (fun U w hU hW hL => pk_good_c U w hU _ _ (hL 2 _ _ rfl Seen.own) _ e35) ?_
    refine RL.mv rfl rfl rfl ?_
    refine RL.split (t := 21) rfl (fun b36 => ?_) (fun b36 => ?_)
    · replace h28 := ite_t b36 h28
      refine RL.mv rfl rfl rfl ?_
      refine RL.binI (v := .bool (y5.1 == (2 : Int))) rfl rfl rfl rfl rfl ?_
      refine RL.pickT rfl rfl rfl rfl ?_
      refine RL.mv rfl rfl rfl ?_
      refine RL.split (t := 25) rfl (fun b37 => ?_) (fun b37 => ?_)
      · replace h28 := ite_t b37 h28
        refine RL.mv rfl rfl rfl ?_
        refine RL.binI (v := .bool (y5.2.1 == (1 : Int))) rfl rfl rfl rfl rfl ?_
        refine RL.pickT rfl rfl rfl rfl ?_
        refine RL.mv rfl rfl rfl ?_
        refine RL.split (t := 29) rfl (fun b38 => ?_) (fun b38 => ?_)
        · replace h28 := ite_t b38 h28
          refine RL.mv rfl rfl rfl ?_
          refine RL.notB rfl rfl rfl ?_
          refine RL.pickT rfl rfl rfl rfl ?_
          refine RL.asg rfl rfl rfl ?_
          refine RL.fin ?_
          cases h28
          exact fun a w st => mid_intro (!y11.1) h29 (St.cut [] ⟨rfl, trivial⟩ (by decide) rfl st)
        · replace h28 := ite_f b38 h28
          refine RL.skip rfl rfl ?_
          refine RL.skip rfl rfl ?_
          refine RL.pickF rfl rfl rfl rfl ?_
          refine RL.asg rfl rfl rfl ?_
          refine RL.fin ?_
          cases h28
          exact fun a w st => mid_intro false h29 (St.cut [] ⟨rfl, trivial⟩ (by decide) rfl st)
      · replace h28 := ite_f b37 h28
        refine RL.skip rfl rfl ?_
        refine RL.skip rfl rfl ?_
        refine RL.pickF rfl rfl rfl rfl ?_
        refine RL.mv rfl rfl rfl ?_
        refine RL.skip rfl rfl ?_
        refine RL.skip rfl rfl ?_
        refine RL.pickF rfl rfl rfl rfl ?_
        refine RL.asg rfl rfl rfl ?_
        refine RL.fin ?_
        cases h28
        exact fun a w st => mid_intro false h29 (St.cut [] ⟨rfl, trivial⟩ (by decide) rfl st)
    · replace h28 := ite_f b36 h28
      refine RL.skip rfl rfl ?_
      refine RL.skip rfl rfl ?_
      refine RL.pickF rfl rfl rfl rfl ?_
      refine RL.mv rfl rfl rfl ?_
      refine RL.skip rfl rfl ?_
      refine RL.skip rfl rfl ?_
      refine RL.pickF rfl rfl rfl rfl ?_
      refine RL.mv rfl rfl rfl ?_
      refine RL.skip rfl rfl ?_
      refine RL.skip rfl rfl ?_
      refine RL.pickF rfl rfl rfl rfl ?_
      refine RL.asg rfl rfl rfl ?_
      refine RL.fin ?_
      cases h28
      exact fun a w st => mid_intro false h29 (St.cut [] ⟨rfl, trivial⟩ (by decide) rfl st)
  · rintro x25 h39
    have h40 := h30 _ h39
    try dsimp only at h40
    refine GL.weak (env' := [(0, .bool x25)]) (L' := []) (fun _ _ st => st) ?_
    have h40 := Option.some.inj h40
    subst h40
    exact GL.ret (Gx.ret (v := .bool x25) (res1 rfl rfl) (fun a w st => st.toPostV))

set_option maxHeartbeats 4000000 in
theorem ref_Rest_c (S : Hp) (w : World) (hS : S.sub w) (x0 : Int) (x1 : Int) (res : Int) (hm : ref_Rest_m x0 x1 = some res) : Calls Try.prog 28 #[.int .i64 x0, .int .i64 x1] w (PostC w (.int .i64 res)) := by
  refine calls_enter 14 Try.func28 Try.ntmps28 rfl S true [(0, .int .i64 x0), (1, .int .i64 x1)] [] rfl ⟨rfl, ⟨rfl, trivial⟩⟩ hS trivial ?_
  unfold ref_Rest_m at hm
  refine GL.seq ?_
  refine GL.region ?_
  refine RL.asg rfl rfl rfl ?_
  refine RL.finG ?_
  refine GL.seq ?_
  refine GL.region ?_
  refine RL.mv rfl rfl rfl ?_
  refine RL.mv rfl rfl rfl ?_
  obtain ⟨y3, e4, hm⟩ := bind_some hm
  replace e4 := chk_some e4
  refine RL.rem rfl rfl rfl rfl e4 ?_
  refine RL.asg rfl rfl rfl ?_
  refine RL.finG ?_
  refine GL.seq ?_
  refine GL.seq ?_
  refine GL.region ?_
  refine RL.mv rfl rfl rfl ?_
  refine RL.binI (v := .bool (decide ((Int.tmod x0 x1) < (0 : Int)))) rfl rfl rfl rfl rfl ?_
  refine RL.finG ?_
  obtain ⟨y7, K8, h9, h10, h11, h12, h13⟩ := bindR_K hm
  refine GL.join (ι := Int) (fun (p : Int) => [(0, .int .i64 p)]) (fun (p : Int) => []) (fun (p : Int) => K8 (.nx p)) ?_ ?_
  · skip
    refine GL.cond rfl (fun b14 => ?_) (fun b14 => ?_)
    · replace h9 := ite_t b14 h9
      refine GL.region ?_
      refine RL.mv rfl rfl rfl ?_
      refine RL.mv rfl rfl rfl ?_
      refine RL.binI (v := .int .i64 (wadd (Int.tmod x0 x1) x1)) rfl rfl rfl rfl rfl ?_
      refine RL.asg rfl rfl rfl ?_
      refine RL.finG ?_
      cases h9
      exact fun a w st => mid_intro (wadd (Int.tmod x0 x1) x1) h10 (St.cut [] ⟨rfl, trivial⟩ (by decide) rfl st)
    · replace h9 := ite_f b14 h9
      refine GL.skip ?_
      cases h9
      exact fun a w st => mid_intro (Int.tmod x0 x1) h10 (St.cut [] ⟨rfl, trivial⟩ (by decide) rfl st)
  · rintro x6 h15
    have h16 := h11 _ h15
    try dsimp only at h16
    refine GL.weak (env' := [(0, .int .i64 x6)]) (L' := []) (fun _ _ st => st) ?_
    refine GL.seq ?_
    refine GL.region ?_
    refine RL.mv rfl rfl rfl ?_
    refine RL.asg rfl rfl rfl ?_
    refine RL.finG ?_
    have h16 := Option.some.inj h16
    subst h16
    exact GL.ret (Gx.ret (v := .int .i64 x6) (res1 rfl rfl) (fun a w st => st.toPostC rfl))

set_option maxHeartbeats 4000000 in
theorem pk_Within_c (S : Hp) (w : World) (hS : S.sub w) (x0 : Int) (x1 : Int) (res : Int) (hm : pk_Within_m x0 x1 = some res) : Calls Try.prog 14 #[.int .i64 x0, .int .i64 x1] w (PostC w (.int .i64 res)) := by
  refine calls_enter 8 Try.func14 Try.ntmps14 rfl S true [(0, .int .i64 x0), (1, .int .i64 x1)] [] rfl ⟨rfl, ⟨rfl, trivial⟩⟩ hS trivial ?_
  unfold pk_Within_m at hm
  refine GL.seq ?_
  refine GL.region ?_
  refine RL.asg rfl rfl rfl ?_
  refine RL.finG ?_
  refine GL.seq ?_
  refine GL.region ?_
  refine RL.mv rfl rfl rfl ?_
  refine RL.mv rfl rfl rfl ?_
  obtain ⟨y3, e4, hm⟩ := bind_some hm
  refine RL.callC (v := .int .i64 y3) (vs := [.int .i64 x0, .int .i64 x1]) Try_fit28 rfl rfl rfl rfl (fun U w hU hW hL => ref_Rest_c U w hU x0 x1 _ e4) ?_
  refine RL.asg rfl rfl rfl ?_
  refine RL.finG ?_
  have hm := Option.some.inj hm
  subst hm
  exact GL.ret (Gx.ret (v := .int .i64 y3) (res1 rfl rfl) (fun a w st => st.toPostC rfl))

set_option maxHeartbeats 4000000 in
theorem piles_Table_c (S : Hp) (w : World) (hS : S.sub w) (x0 : Int) (v1 : Value) (x1 : (List Int)) (k1 : ((TR.sl TR.int)).vrep S v1 x1) (res : (List Int) × Int) (hm : piles_Table_m x0 x1 = some res) : Calls Try.prog 24 #[.int .i64 x0, v1] w (Post w S (fun (o : Value) => .tuple #[o, .int .i64 res.2]) (fun (o : Value) => [own 3 TR.int o res.1])) := by
  refine calls_enter 74 Try.func24 Try.ntmps24 rfl S false [(0, .int .i64 x0), (1, v1)] [imm (TR.sl TR.int) v1 x1] rfl ⟨rfl, ⟨rfl, trivial⟩⟩ hS ⟨k1, trivial⟩ ?_
  unfold piles_Table_m at hm
  refine GL.seq ?_
  refine GL.region ?_
  refine RL.asg rfl rfl rfl ?_
  refine RL.asg rfl rfl rfl ?_
  refine RL.finG ?_
  refine GL.seq ?_
  refine GL.seq ?_
  obtain ⟨y4, K5, h6, h7, h8, h9, h10⟩ := bindR_K hm
  refine GL.join (ι := Bool) (fun (p : Bool) => [(0, .int .i64 x0), (1, v1), (18, .bool p)]) (fun (p : Bool) => [imm (TR.sl TR.int) v1 x1]) (fun (p : Bool) => K5 (.nx p)) ?_ ?_
  · skip
    refine GL.region ?_
    refine RL.mv rfl rfl rfl ?_
    refine RL.binI (v := .bool (decide (x0 < (0 : Int)))) rfl rfl rfl rfl rfl ?_
    refine RL.mv rfl rfl rfl ?_
    refine RL.split (t := 15) rfl (fun b11 => ?_) (fun b11 => ?_)
    · replace h6 := ite_t b11 h6
      refine RL.skip rfl rfl ?_
      refine RL.skip rfl rfl ?_
      refine RL.pickT rfl rfl rfl rfl ?_
      refine RL.fin ?_
      cases h6
      exact fun a w st => mid_intro true h7 (St.cut [0] ⟨rfl, rfl, rfl, trivial⟩ (by decide) rfl st)
    · replace h6 := ite_f b11 h6
      refine RL.mv rfl rfl rfl ?_
      refine RL.binI (v := .bool (decide (x0 > (40 : Int)))) rfl rfl rfl rfl rfl ?_
      refine RL.pickF rfl rfl rfl rfl ?_
      refine RL.fin ?_
      cases h6
      exact fun a w st => mid_intro (decide (x0 > (40 : Int))) h7 (St.cut [0] ⟨rfl, rfl, rfl, trivial⟩ (by decide) rfl st)
  · rintro x3 h12
    have h13 := h8 _ h12
    try dsimp only at h13
    refine GL.weak (env' := [(0, .int .i64 x0), (1, v1), (18, .bool x3)]) (L' := [imm (TR.sl TR.int) v1 x1]) (fun _ _ st => st) ?_
    refine GL.cond rfl (fun b14 => ?_) (fun b14 => ?_)
    · replace h13 := ite_t b14 h13
      refine GL.seq ?_
      refine GL.region ?_
      refine RL.asg rfl rfl rfl ?_
      refine RL.asg rfl rfl rfl ?_
      refine RL.finG ?_
      refine GL.weak (fun a w st => st.nilOwn 3 TR.int) ?_
      have h13 := Option.some.inj h13
      subst h13
      exact GL.ret (Gx.ret (v := .tuple #[Value.slice none 0 0, .int .i64 (1 : Int)]) (res2 rfl rfl rfl) (fun a w st => (st.pick [1] (by decide) rfl).toPost (Value.slice none 0 0)))
    · replace h13 := ite_f b14 h13
      refine GL.skip ?_
      refine GL.seq ?_
      refine GL.seq ?_
      refine GL.region ?_
      refine RL.mv rfl rfl rfl ?_
      refine RL.lenS 0 Try.underlying27 rfl rfl rfl rfl SlOf.imm ?_
      refine RL.binI (v := .bool (decide (((x1).length : Int) > (6 : Int)))) rfl rfl rfl rfl rfl ?_
      refine RL.finG ?_
      refine GL.cond rfl (fun b15 => ?_) (fun b15 => ?_)
      · replace h13 := ite_t b15 h13
        refine GL.seq ?_
        refine GL.region ?_
        refine RL.asg rfl rfl rfl ?_
        refine RL.asg rfl rfl rfl ?_
        refine RL.finG ?_
        refine GL.weak (fun a w st => st.nilOwn 3 TR.int) ?_
        have h13 := Option.some.inj h13
        subst h13
        exact GL.ret (Gx.ret (v := .tuple #[Value.slice none 0 0, .int .i64 (2 : Int)]) (res2 rfl rfl rfl) (fun a w st => (st.pick [1] (by decide) rfl).toPost (Value.slice none 0 0)))
      · replace h13 := ite_f b15 h13
        refine GL.skip ?_
        refine GL.seq ?_
        refine GL.seq ?_
        refine GL.region ?_
        refine RL.mv rfl rfl rfl ?_
        refine RL.lenS 0 Try.underlying27 rfl rfl rfl rfl SlOf.imm ?_
        refine RL.mv rfl rfl rfl ?_
        refine RL.finG ?_
        refine GL.open_ 0 rfl (fun S h => len_imm S h) (fun n34 => ?_)
        obtain ⟨y35, K36, h37, h38, h39, h40, h41⟩ := bindR_K h13
        refine GL.join (ι := Unit) (fun (p : Unit) => [(0, .int .i64 x0), (1, v1)]) (fun (p : Unit) => [imm (TR.sl TR.int) v1 x1]) (fun (p : Unit) => K36 (.nx ())) ?_ ?_
        · refine GL.block ?_
          refine GL.loop (ι := Nat × (List Int)) (fun (p : Nat × (List Int)) => [(0, .int .i64 x0), (1, v1), (22, v1), (23, .int .i64 ((x1).length : Int)), (24, .int .i64 (p.1 : Int))]) (fun (p : Nat × (List Int)) => [imm (TR.sl TR.int) v1 x1]) (fun (p : Nat × (List Int)) => p.1 + p.2.length = (x1).length ∧ List.drop p.1 x1 = p.2 ∧ rangeL piles_Table_b1 p.2 p.1 () = some y35) (fun (p : Nat × (List Int)) => p.2.length) (0, x1) ⟨by simp, by simp, h37⟩ (fun a w st => St.cut [0] ⟨rfl, rfl, rfl, rfl, rfl, trivial⟩ (by decide) rfl st) ?_
          rintro ⟨i42, r43⟩ ⟨h48, h49, h47⟩
          try dsimp only at h48 h49 h47
          refine GL.weak (env' := [(0, .int .i64 x0), (1, v1), (22, v1), (23, .int .i64 ((x1).length : Int)), (24, .int .i64 (i42 : Int))]) (L' := [imm (TR.sl TR.int) v1 x1]) (fun _ _ st => st) ?_
          refine GL.seq ?_
          refine GL.region ?_
          refine RL.binI (v := .bool (decide ((i42 : Int) < ((x1).length : Int)))) rfl rfl rfl rfl rfl ?_
          refine RL.finG ?_
          refine GL.seq ?_
          refine GL.cond rfl (fun b50 => ?_) (fun b50 => ?_)
          · have h51 : i42 < (x1).length := by have := of_decide_eq_true b50; omega
            obtain ⟨y52, r54, hr, e53, h55⟩ := drop_cons h49 rfl h51
            subst hr
            obtain ⟨z44, h45, h46⟩ := rangeL_some h47
            unfold piles_Table_b1 at h45
            try dsimp only at h45
            refine GL.skip ?_
            refine GL.seq ?_
            refine GL.block ?_
            refine GL.seq ?_
            refine GL.region ?_
            refine RL.idxS (sz := 1) 0 Try.underlying27 Try_ln3 rfl rfl rfl rfl rfl SlOf.imm (by omega) (by omega) ?_
            refine RL.ldSx (i := i42) (e' := y52) 0 Ex.ik Try_ln3 rfl rfl rfl rfl SlOf.imm e53 Part.self ?_
            refine RL.asg rfl rfl rfl ?_
            refine RL.finG ?_
            refine GL.seq ?_
            obtain ⟨y59, K60, h61, h62, h63, h64, h65⟩ := bindF_K h45
            refine GL.join (ι := Bool) (fun (p : Bool) => [(0, .int .i64 x0), (1, v1), (22, v1), (23, .int .i64 ((x1).length : Int)), (24, .int .i64 (i42 : Int)), (33, .bool p)]) (fun (p : Bool) => [imm (TR.sl TR.int) v1 x1]) (fun (p : Bool) => K60 (.nx p)) ?_ ?_
            · skip
              refine GL.region ?_
              refine RL.mv rfl rfl rfl ?_
              refine RL.binI (v := .bool (decide (y52 < (1 : Int)))) rfl rfl rfl rfl rfl ?_
              refine RL.mv rfl rfl rfl ?_
              refine RL.split (t := 30) rfl (fun b66 => ?_) (fun b66 => ?_)
              · replace h61 := ite_t b66 h61
                refine RL.skip rfl rfl ?_
                refine RL.skip rfl rfl ?_
                refine RL.pickT rfl rfl rfl rfl ?_
                refine RL.fin ?_
                cases h61
                exact fun a w st => mid_intro true h62 (St.cut [0] ⟨rfl, rfl, rfl, rfl, rfl, rfl, trivial⟩ (by decide) rfl st)
              · replace h61 := ite_f b66 h61
                refine RL.mv rfl rfl rfl ?_
                refine RL.binI (v := .bool (decide (y52 > (40 : Int)))) rfl rfl rfl rfl rfl ?_
                refine RL.pickF rfl rfl rfl rfl ?_
                refine RL.fin ?_
                cases h61
                exact fun a w st => mid_intro (decide (y52 > (40 : Int))) h62 (St.cut [0] ⟨rfl, rfl, rfl, rfl, rfl, rfl, trivial⟩ (by decide) rfl st)
            · rintro x58 h67
              have h68 := h63 _ h67
              try dsimp only at h68
              refine GL.weak (env' := [(0, .int .i64 x0), (1, v1), (22, v1), (23, .int .i64 ((x1).length : Int)), (24, .int .i64 (i42 : Int)), (33, .bool x58)]) (L' := [imm (TR.sl TR.int) v1 x1]) (fun _ _ st => st) ?_
              refine GL.cond rfl (fun b69 => ?_) (fun b69 => ?_)
              · replace h68 := ite_t b69 h68
                refine GL.seq ?_
                refine GL.region ?_
                refine RL.asg rfl rfl rfl ?_
                refine RL.asg rfl rfl rfl ?_
                refine RL.finG ?_
                refine GL.weak (fun a w st => st.nilOwn 3 TR.int) ?_
                cases h68
                replace h46 : some (Fl.rt _) = some y35 := h46
                cases h46
                have hh := h40 _ h38
                subst hh
                exact GL.ret (Gx.ret (v := .tuple #[Value.slice none 0 0, .int .i64 (3 : Int)]) (res2 rfl rfl rfl) (fun a w st => (st.pick [1] (by decide) rfl).toPost (Value.slice none 0 0)))
              · replace h68 := ite_f b69 h68
                refine GL.skip ?_
                refine GL.nilB ?_
                refine GL.region ?_
                refine RL.binI (v := .int .i64 ((i42 + 1 : Nat) : Int)) rfl rfl rfl rfl (binI_succ i42 (by omega)) ?_
                refine RL.mv rfl rfl rfl ?_
                refine RL.fin ?_
                cases h68
                exact fun a w st => lop_intro (i42 + 1, r54) ⟨by show i42 + 1 + r54.length = (x1).length; simp only [List.length_cons] at h48; omega, h55, h46⟩ (by simp) (St.cut [0] ⟨rfl, rfl, rfl, rfl, rfl, trivial⟩ (by decide) rfl st)
          · have h51 : ¬ i42 < (x1).length := by have := of_decide_eq_false b50; omega
            obtain rfl : r43 = [] := by rw [← h49]; exact List.drop_of_length_le (by omega)
            replace h47 : some (Fl.nx _) = some y35 := h47
            cases h47
            exact GL.exit (fun a w st => mid_intro () h38 (St.cut [0] ⟨rfl, rfl, trivial⟩ (by decide) rfl st))
        · rintro ⟨⟩ h70
          have h71 := h39 _ h70
          try dsimp only at h71
          refine GL.weak (env' := [(0, .int .i64 x0), (1, v1)]) (L' := [imm (TR.sl TR.int) v1 x1]) (fun _ _ st => st) ?_
          refine GL.seq ?_
          refine GL.region ?_
          refine RL.mv rfl rfl rfl ?_
          refine RL.binI (v := .int .i64 (wadd x0 (1 : Int))) rfl rfl rfl rfl rfl ?_
          obtain ⟨y75, e76, h71⟩ := bind_some h71
          replace e76 := chk_some e76
          refine RL.mkS (t := TR.int) (z := (0 : Int)) Try.underlying27 Try_lo3 (fun S => rfl) rfl rfl rfl rfl e76.1 e76.2 ?_
          intro v77
          refine RL.asg rfl rfl rfl ?_
          refine RL.finG ?_
          refine GL.seq ?_
          refine GL.seq ?_
          refine GL.region ?_
          refine RL.mv rfl rfl rfl ?_
          refine RL.lenS 1 Try.underlying27 rfl rfl rfl rfl SlOf.own ?_
          refine RL.mv rfl rfl rfl ?_
          refine RL.finG ?_
          refine GL.lenOwn 1 rfl (fun n346 => ?_)
          obtain ⟨y347, K348, h349, h350, h351, h352, h353⟩ := bindR_K h71
          refine GL.join (ι := (List Int) × Value) (fun (p : (List Int) × Value) => [(8, p.2)]) (fun (p : (List Int) × Value) => [own 3 TR.int p.2 p.1]) (fun (p : (List Int) × Value) => K348 (.nx p.1)) ?_ ?_
          · refine GL.block ?_
            refine GL.loop (ι := Nat × Nat × (List Int) × Value) (fun (p : Nat × Nat × (List Int) × Value) => [(1, v1), (8, p.2.2.2), (39, .int .i64 (((List.replicate (wadd x0 (1 : Int)).toNat (0 : Int))).length : Int)), (40, .int .i64 (p.1 : Int))]) (fun (p : Nat × Nat × (List Int) × Value) => [imm (TR.sl TR.int) v1 x1, own 3 TR.int p.2.2.2 p.2.2.1]) (fun (p : Nat × Nat × (List Int) × Value) => p.1 + p.2.1 = ((List.replicate (wadd x0 (1 : Int)).toNat (0 : Int))).length ∧ rangeN (piles_Table_b2 x1) p.2.1 p.1 p.2.2.1 = some y347) (fun (p : Nat × Nat × (List Int) × Value) => p.2.1) (0, ((List.replicate (wadd x0 (1 : Int)).toNat (0 : Int))).length, (List.replicate (wadd x0 (1 : Int)).toNat (0 : Int)), v77) ⟨by simp, h349⟩ (fun a w st => St.cut [0, 1] ⟨rfl, rfl, rfl, rfl, trivial⟩ (by decide) rfl st) ?_
            rintro ⟨i354, r355, l211, v212⟩ ⟨h360, h359⟩
            try dsimp only at h360 h359
            refine GL.weak (env' := [(1, v1), (8, v212), (39, .int .i64 (((List.replicate (wadd x0 (1 : Int)).toNat (0 : Int))).length : Int)), (40, .int .i64 (i354 : Int))]) (L' := [imm (TR.sl TR.int) v1 x1, own 3 TR.int v212 l211]) (fun _ _ st => st) ?_
            refine GL.seq ?_
            refine GL.region ?_
            refine RL.binI (v := .bool (decide ((i354 : Int) < (((List.replicate (wadd x0 (1 : Int)).toNat (0 : Int))).length : Int)))) rfl rfl rfl rfl rfl ?_
            refine RL.finG ?_
            refine GL.seq ?_
            refine GL.cond rfl (fun b362 => ?_) (fun b362 => ?_)
            · have h363 : i354 < ((List.replicate (wadd x0 (1 : Int)).toNat (0 : Int))).length := by have := of_decide_eq_true b362; omega
              obtain ⟨r364, hr⟩ : ∃ m, r355 = m + 1 := ⟨r355 - 1, by omega⟩
              subst hr
              obtain ⟨z356, h357, h358⟩ := rangeN_some h359
              unfold piles_Table_b2 at h357
              try dsimp only at h357
              refine GL.skip ?_
              refine GL.seq ?_
              refine GL.block ?_
              refine GL.seq ?_
              refine GL.region ?_
              refine RL.mv rfl rfl rfl ?_
              refine RL.asg rfl rfl rfl ?_
              refine RL.finG ?_
              refine GL.seq ?_
              refine GL.region ?_
              refine RL.alloc (t := (TR.arr 7 TR.bool)) (z := (List.replicate 7 false)) Try_lo65 (fun S => ⟨rfl, ⟨_, _, rfl, rfl, ⟨_, _, rfl, rfl, ⟨_, _, rfl, rfl, ⟨_, _, rfl, rfl, ⟨_, _, rfl, rfl, ⟨_, _, rfl, rfl, ⟨_, _, rfl, rfl, rfl⟩⟩⟩⟩⟩⟩⟩⟩) rfl rfl rfl ?_
              intro v366
              refine RL.finG ?_
              refine GL.seq ?_
              refine GL.seq ?_
              refine GL.region ?_
              refine RL.mv rfl rfl rfl ?_
              refine RL.lenS 0 Try.underlying27 rfl rfl rfl rfl SlOf.imm ?_
              refine RL.mv rfl rfl rfl ?_
              refine RL.finG ?_
              refine GL.open_ 0 rfl (fun S h => len_imm S h) (fun n394 => ?_)
              obtain ⟨y395, K396, h397, h398, h399, h400, h401⟩ := bindF_K h357
              refine GL.join (ι := (List Bool)) (fun (p : (List Bool)) => [(1, v1), (8, v212), (9, .int .i64 (i354 : Int)), (10, v366), (39, .int .i64 (((List.replicate (wadd x0 (1 : Int)).toNat (0 : Int))).length : Int)), (40, .int .i64 (i354 : Int))]) (fun (p : (List Bool)) => [imm (TR.sl TR.int) v1 x1, own 3 TR.int v212 l211, obox 65 (TR.arr 7 TR.bool) v366 p]) (fun (p : (List Bool)) => K396 (.nx p)) ?_ ?_
              · refine GL.block ?_
                refine GL.loop (ι := Nat × (List Int) × (List Bool)) (fun (p : Nat × (List Int) × (List Bool)) => [(1, v1), (8, v212), (9, .int .i64 (i354 : Int)), (10, v366), (39, .int .i64 (((List.replicate (wadd x0 (1 : Int)).toNat (0 : Int))).length : Int)), (40, .int .i64 (i354 : Int)), (43, v1), (44, .int .i64 ((x1).length : Int)), (45, .int .i64 (p.1 : Int))]) (fun (p : Nat × (List Int) × (List Bool)) => [imm (TR.sl TR.int) v1 x1, own 3 TR.int v212 l211, obox 65 (TR.arr 7 TR.bool) v366 p.2.2]) (fun (p : Nat × (List Int) × (List Bool)) => p.1 + p.2.1.length = (x1).length ∧ List.drop p.1 x1 = p.2.1 ∧ rangeL (piles_Table_b3 i354 l211) p.2.1 p.1 p.2.2 = some y395) (fun (p : Nat × (List Int) × (List Bool)) => p.2.1.length) (0, x1, (List.replicate 7 false)) ⟨by simp, by simp, h397⟩ (fun a w st => St.cut [0, 1, 2] ⟨rfl, rfl, rfl, rfl, rfl, rfl, rfl, rfl, rfl, trivial⟩ (by decide) rfl st) ?_
                rintro ⟨i402, r403, l380⟩ ⟨h408, h409, h407⟩
                try dsimp only at h408 h409 h407
                refine GL.weak (env' := [(1, v1), (8, v212), (9, .int .i64 (i354 : Int)), (10, v366), (39, .int .i64 (((List.replicate (wadd x0 (1 : Int)).toNat (0 : Int))).length : Int)), (40, .int .i64 (i354 : Int)), (43, v1), (44, .int .i64 ((x1).length : Int)), (45, .int .i64 (i402 : Int))]) (L' := [imm (TR.sl TR.int) v1 x1, own 3 TR.int v212 l211, obox 65 (TR.arr 7 TR.bool) v366 l380]) (fun _ _ st => st) ?_
                refine GL.seq ?_
                refine GL.region ?_
                refine RL.binI (v := .bool (decide ((i402 : Int) < ((x1).length : Int)))) rfl rfl rfl rfl rfl ?_
                refine RL.finG ?_
                refine GL.seq ?_
                refine GL.cond rfl (fun b410 => ?_) (fun b410 => ?_)
                · have h411 : i402 < (x1).length := by have := of_decide_eq_true b410; omega
                  obtain ⟨y412, r414, hr, e413, h415⟩ := drop_cons h409 rfl h411
                  subst hr
                  obtain ⟨z404, h405, h406⟩ := rangeL_some h407
                  unfold piles_Table_b3 at h405
                  try dsimp only at h405
                  refine GL.skip ?_
                  refine GL.seq ?_
                  refine GL.block ?_
                  refine GL.seq ?_
                  refine GL.region ?_
                  refine RL.idxS (sz := 1) 0 Try.underlying27 Try_ln3 rfl rfl rfl rfl rfl SlOf.imm (by omega) (by omega) ?_
                  refine RL.ldSx (i := i402) (e' := y412) 0 Ex.ik Try_ln3 rfl rfl rfl rfl SlOf.imm e413 Part.self ?_
                  refine RL.asg rfl rfl rfl ?_
                  refine RL.finG ?_
                  refine GL.seq ?_
                  refine GL.region ?_
                  refine RL.mv rfl rfl rfl ?_
                  refine RL.mv rfl rfl rfl ?_
                  refine RL.binI (v := .bool (decide (y412 ≤ (i354 : Int)))) rfl rfl rfl rfl rfl ?_
                  refine RL.finG ?_
                  refine GL.cond rfl (fun b416 => ?_) (fun b416 => ?_)
                  · replace h405 := ite_t b416 h405
                    refine GL.region ?_
                    refine RL.mv rfl rfl rfl ?_
                    refine RL.mv rfl rfl rfl ?_
                    refine RL.mv rfl rfl rfl ?_
                    refine RL.binI (v := .int .i64 (wsub (i354 : Int) y412)) rfl rfl rfl rfl rfl ?_
                    obtain ⟨y421, e422, h405⟩ := bind_some h405
                    refine RL.idxS (sz := 1) 1 Try.underlying27 Try_ln3 rfl rfl rfl rfl rfl SlOf.own (idx_some e422).1 (idx_some e422).2.1 ?_
                    refine RL.ldSx (i := (wsub (i354 : Int) y412).toNat) (e' := y421) 1 Ex.ik Try_ln3 rfl rfl rfl rfl SlOf.own (idx_some e422).2.2 Part.self ?_
                    obtain ⟨y423, e424, h405⟩ := bind_some h405
                    refine RL.idxA0 (sz := 1) (t' := TR.bool) 2 Try.underlying65 Try_ln4 rfl rfl rfl PtOf.obox rfl rfl Part.self (idx_some e424).1 (idx_some e424).2.1 ?_
                    refine RL.stP (off := ((y421).toNat * 1)) (e' := true) (d1 := (List.set l380 ((y421).toNat) true)) (r := TR.bool) 2 Try_ln4 rfl rfl (Or.inl rfl) rfl VR.bool rfl (Upd.arr (idx_some e424).2.2 Upd.self) ?_
                    refine RL.finG ?_
                    refine GL.nilB ?_
                    refine GL.region ?_
                    refine RL.binI (v := .int .i64 ((i402 + 1 : Nat) : Int)) rfl rfl rfl rfl (binI_succ i402 (by omega)) ?_
                    refine RL.mv rfl rfl rfl ?_
                    refine RL.fin ?_
                    cases h405
                    exact fun a w st => lop_intro (i402 + 1, r414, (List.set l380 ((y421).toNat) true)) ⟨by show i402 + 1 + r414.length = (x1).length; simp only [List.length_cons] at h408; omega, h415, h406⟩ (by simp) (St.cut [0, 1, 2] ⟨rfl, rfl, rfl, rfl, rfl, rfl, rfl, rfl, rfl, trivial⟩ (by decide) rfl st)
                  · replace h405 := ite_f b416 h405
                    refine GL.skip ?_
                    refine GL.nilB ?_
                    refine GL.region ?_
                    refine RL.binI (v := .int .i64 ((i402 + 1 : Nat) : Int)) rfl rfl rfl rfl (binI_succ i402 (by omega)) ?_
                    refine RL.mv rfl rfl rfl ?_
                    refine RL.fin ?_
                    cases h405
                    exact fun a w st => lop_intro (i402 + 1, r414, l380) ⟨by show i402 + 1 + r414.length = (x1).length; simp only [List.length_cons] at h408; omega, h415, h406⟩ (by simp) (St.cut [0, 1, 2] ⟨rfl, rfl, rfl, rfl, rfl, rfl, rfl, rfl, rfl, trivial⟩ (by decide) rfl st)
                · have h411 : ¬ i402 < (x1).length := by have := of_decide_eq_false b410; omega
                  obtain rfl : r403 = [] := by rw [← h409]; exact List.drop_of_length_le (by omega)
                  replace h407 : some (Fl.nx _) = some y395 := h407
                  cases h407
                  exact GL.exit (fun a w st => mid_intro l380 h398 (St.cut [0, 1, 2] ⟨rfl, rfl, rfl, rfl, rfl, rfl, trivial⟩ (by decide) rfl st))
              · rintro l380 h425
                have h426 := h399 _ h425
                try dsimp only at h426
                refine GL.weak (env' := [(1, v1), (8, v212), (9, .int .i64 (i354 : Int)), (10, v366), (39, .int .i64 (((List.replicate (wadd x0 (1 : Int)).toNat (0 : Int))).length : Int)), (40, .int .i64 (i354 : Int))]) (L' := [imm (TR.sl TR.int) v1 x1, own 3 TR.int v212 l211, obox 65 (TR.arr 7 TR.bool) v366 l380]) (fun _ _ st => st) ?_
                obtain ⟨y463, K464, h465, h466, h467, h468, h469⟩ := bindF_K h426
                refine GL.join (ι := (List Int) × Value) (fun (p : (List Int) × Value) => [(1, v1), (8, p.2), (39, .int .i64 (((List.replicate (wadd x0 (1 : Int)).toNat (0 : Int))).length : Int)), (40, .int .i64 (i354 : Int))]) (fun (p : (List Int) × Value) => [imm (TR.sl TR.int) v1 x1, own 3 TR.int p.2 p.1]) (fun (p : (List Int) × Value) => K464 (.nx p.1)) ?_ ?_
                · refine GL.block ?_
                  refine GL.loop (ι := Nat × (List Int) × Value) (fun (p : Nat × (List Int) × Value) => [(1, v1), (8, p.2.2), (9, .int .i64 (i354 : Int)), (10, v366), (39, .int .i64 (((List.replicate (wadd x0 (1 : Int)).toNat (0 : Int))).length : Int)), (40, .int .i64 (i354 : Int))]) (fun (p : Nat × (List Int) × Value) => [imm (TR.sl TR.int) v1 x1, own 3 TR.int p.2.2 p.2.1, obox 65 (TR.arr 7 TR.bool) v366 l380]) (fun (p : Nat × (List Int) × Value) => loopM (piles_Table_b4 i354 l380) p.1 p.2.1 = some y463) (fun (p : Nat × (List Int) × Value) => p.1) (1048576, l211, v212) h465 (fun a w st => St.cut [0, 1, 2] ⟨rfl, rfl, rfl, rfl, rfl, rfl, trivial⟩ (by decide) rfl st) ?_
                  rintro ⟨r471, l444, v445⟩ h475
                  try dsimp only at h475
                  refine GL.weak (env' := [(1, v1), (8, v445), (9, .int .i64 (i354 : Int)), (10, v366), (39, .int .i64 (((List.replicate (wadd x0 (1 : Int)).toNat (0 : Int))).length : Int)), (40, .int .i64 (i354 : Int))]) (L' := [imm (TR.sl TR.int) v1 x1, own 3 TR.int v445 l444, obox 65 (TR.arr 7 TR.bool) v366 l380]) (fun _ _ st => st) ?_
                  obtain ⟨r478, z472, hr, h473, h474⟩ := loopM_some h475
                  subst hr
                  unfold piles_Table_b4 at h473
                  try dsimp only at h473
                  refine GL.seq ?_
                  refine GL.seq ?_
                  refine GL.region ?_
                  refine RL.mv rfl rfl rfl ?_
                  refine RL.mv rfl rfl rfl ?_
                  obtain ⟨y483, e484, h473⟩ := bind_some h473
                  refine RL.idxS (sz := 1) 1 Try.underlying27 Try_ln3 rfl rfl rfl rfl rfl SlOf.own (idx_some e484).1 (idx_some e484).2.1 ?_
                  refine RL.ldSx (i := i354) (e' := y483) 1 Ex.ik Try_ln3 rfl rfl rfl rfl SlOf.own (idx_some e484).2.2 Part.self ?_
                  obtain ⟨y485, e486, h473⟩ := bind_some h473
                  refine RL.idxA0 (sz := 1) (t' := TR.bool) 2 Try.underlying65 Try_ln4 rfl rfl rfl PtOf.obox rfl rfl Part.self (idx_some e486).1 (idx_some e486).2.1 ?_
                  refine RL.ldPx (off := ((y483).toNat * 1)) (e' := y485) 2 Ex.bool Try_ln4 rfl rfl (Or.inl rfl) rfl PtOf.obox (Part.arr (idx_some e486).2.2 Part.self) ?_
                  refine RL.finG ?_
                  refine GL.cond rfl (fun b487 => ?_) (fun b487 => ?_)
                  · replace h473 := ite_t b487 h473
                    refine GL.skip ?_
                    refine GL.block ?_
                    refine GL.region ?_
                    refine RL.mv rfl rfl rfl ?_
                    refine RL.mv rfl rfl rfl ?_
                    obtain ⟨y492, e493, h473⟩ := bind_some h473
                    refine RL.idxS (sz := 1) 1 Try.underlying27 Try_ln3 rfl rfl rfl rfl rfl SlOf.own (idx_some e493).1 (idx_some e493).2.1 ?_
                    refine RL.ldSx (i := i354) (e' := y492) 1 Ex.ik Try_ln3 rfl rfl rfl rfl SlOf.own (idx_some e493).2.2 Part.self ?_
                    refine RL.binI (v := .int .i64 (wadd y492 (1 : Int))) rfl rfl rfl rfl rfl ?_
                    obtain ⟨y494, e495, h473⟩ := bind_some h473
                    refine RL.idxS (sz := 1) 1 Try.underlying27 Try_ln3 rfl rfl rfl rfl rfl SlOf.own (idx_some e495).1 (idx_some e495).2.1 ?_
                    refine RL.stS (i := i354) (e' := wadd y492 (1 : Int)) (e1 := wadd y492 (1 : Int)) (r := TR.int) 1 Try_ln3 rfl rfl rfl rfl VR.int rfl (idx_some e495).2.2 Upd.self ?_
                    refine RL.finG ?_
                    refine GL.nilB ?_
                    cases h473
                    exact fun a w st => lop_intro (r478, (List.set l444 i354 (wadd y492 (1 : Int))), v445) h474 (by simp) (St.cut [0, 1, 2] ⟨rfl, rfl, rfl, rfl, rfl, rfl, trivial⟩ (by decide) rfl st)
                  · replace h473 := ite_f b487 h473
                    cases h473
                    replace h474 : some (Fl.nx _) = some y463 := h474
                    cases h474
                    exact GL.exit (fun a w st => mid_intro (l444, v445) h466 (St.cut [0, 1] ⟨rfl, rfl, rfl, rfl, trivial⟩ (by decide) rfl st))
                · rintro ⟨l444, v445⟩ h496
                  have h497 := h467 _ h496
                  try dsimp only at h497
                  refine GL.weak (env' := [(1, v1), (8, v445), (39, .int .i64 (((List.replicate (wadd x0 (1 : Int)).toNat (0 : Int))).length : Int)), (40, .int .i64 (i354 : Int))]) (L' := [imm (TR.sl TR.int) v1 x1, own 3 TR.int v445 l444]) (fun _ _ st => st) ?_
                  refine GL.nilB ?_
                  refine GL.region ?_
                  refine RL.binI (v := .int .i64 ((i354 + 1 : Nat) : Int)) rfl rfl rfl rfl (binI_succ i354 (by omega)) ?_
                  refine RL.mv rfl rfl rfl ?_
                  refine RL.fin ?_
                  cases h497
                  exact fun a w st => lop_intro (i354 + 1, r364, l444, v445) ⟨by show i354 + 1 + r364 = ((List.replicate (wadd x0 (1 : Int)).toNat (0 : Int))).length; omega, h358⟩ (by simp) (St.cut [0, 1] ⟨rfl, rfl, rfl, rfl, trivial⟩ (by decide) rfl st)
            · have h363 : ¬ i354 < ((List.replicate (wadd x0 (1 : Int)).toNat (0 : Int))).length := by have := of_decide_eq_false b362; omega
              obtain rfl : r355 = 0 := by omega
              replace h359 : some (Fl.nx _) = some y347 := h359
              cases h359
              exact GL.exit (fun a w st => mid_intro (l211, v212) h350 (St.cut [1] ⟨rfl, trivial⟩ (by decide) rfl st))
          · rintro ⟨l211, v212⟩ h498
            have h499 := h351 _ h498
            try dsimp only at h499
            refine GL.weak (env' := [(8, v212)]) (L' := [own 3 TR.int v212 l211]) (fun _ _ st => st) ?_
            refine GL.seq ?_
            refine GL.region ?_
            refine RL.mv rfl rfl rfl ?_
            refine RL.asg rfl rfl rfl ?_
            refine RL.asg rfl rfl rfl ?_
            refine RL.finG ?_
            have h499 := Option.some.inj h499
            subst h499
            exact GL.ret (Gx.ret (v := .tuple #[v212, .int .i64 (0 : Int)]) (res2 rfl rfl rfl) (fun a w st => (st.pick [0] (by decide) rfl).toPost v212))

set_option maxHeartbeats 4000000 in
theorem pk_PilesNim_c (S : Hp) (w : World) (hS : S.sub w) (x0 : Int) (res : Bool) (hm : pk_PilesNim_m x0 = some res) : Calls Try.prog 8 #[.int .i64 x0] w (PostV w (.bool res)) := by
  refine calls_enter 80 Try.func8 Try.ntmps8 rfl S false [(0, .int .i64 x0)] [] rfl ⟨rfl, trivial⟩ hS trivial ?_
  unfold pk_PilesNim_m at hm
  refine GL.seq ?_
  refine GL.region ?_
  refine RL.asg rfl rfl rfl ?_
  refine RL.finG ?_
  refine GL.seq ?_
  refine GL.seq ?_
  refine GL.region ?_
  obtain ⟨y3, e4, hm⟩ := bind_some hm
  refine RL.callV (v := .bool y3) (vs := []) Try_fit17 rfl (Or.inl rfl) rfl rfl rfl rfl (fun U w hU hW hL => pk_nims_c U w hU  _ e4) ?_
  refine RL.notB rfl rfl rfl ?_
  refine RL.finG ?_
  refine GL.cond rfl (fun b5 => ?_) (fun b5 => ?_)
  · replace hm := ite_t b5 hm
    refine GL.seq ?_
    refine GL.region ?_
    refine RL.asg rfl rfl rfl ?_
    refine RL.finG ?_
    have hm := Option.some.inj hm
    subst hm
    exact GL.ret (Gx.ret (v := .bool false) (res1 rfl rfl) (fun a w st => st.toPostV))
  · replace hm := ite_f b5 hm
    refine GL.skip ?_
    refine GL.seq ?_
    refine GL.region ?_
    refine RL.mv rfl rfl rfl ?_
    obtain ⟨y8, e9, hm⟩ := bind_some hm
    refine RL.callC (v := .int .i64 y8) (vs := [.int .i64 x0, .int .i64 (7 : Int)]) Try_fit14 rfl rfl rfl rfl (fun U w hU hW hL => pk_Within_c U w hU x0 (7 : Int) _ e9) ?_
    refine RL.asg rfl rfl rfl ?_
    refine RL.finG ?_
    refine GL.seq ?_
    refine GL.region ?_
    refine RL.asg rfl rfl rfl ?_
    refine RL.finG ?_
    refine GL.seq ?_
    refine GL.seq ?_
    refine GL.region ?_
    refine RL.mv rfl rfl rfl ?_
    refine RL.mv rfl rfl rfl ?_
    refine RL.finG ?_
    refine GL.weak (fun a w st => st.nilOwn 3 TR.int) ?_
    obtain ⟨y21, e22, hm⟩ := bind_some hm
    replace e22 := chk_some e22
    obtain ⟨y23, K24, h25, h26, h27, h28, h29⟩ := bindR_K hm
    refine GL.join (ι := (List Int) × Value) (fun (p : (List Int) × Value) => [(0, .int .i64 y8), (3, p.2)]) (fun (p : (List Int) × Value) => [own 3 TR.int p.2 p.1]) (fun (p : (List Int) × Value) => K24 (.nx p.1)) ?_ ?_
    · refine GL.block ?_
      refine GL.loop (ι := Nat × Nat × (List Int) × Value) (fun (p : Nat × Nat × (List Int) × Value) => [(0, .int .i64 y8), (3, p.2.2.2), (17, .int .i64 y8), (18, .int .i64 (p.1 : Int))]) (fun (p : Nat × Nat × (List Int) × Value) => [own 3 TR.int p.2.2.2 p.2.2.1]) (fun (p : Nat × Nat × (List Int) × Value) => p.1 + p.2.1 = (y8).toNat ∧ rangeN pk_PilesNim_b1 p.2.1 p.1 p.2.2.1 = some y23) (fun (p : Nat × Nat × (List Int) × Value) => p.2.1) (0, (y8).toNat, [], Value.slice none 0 0) ⟨by simp, h25⟩ (fun a w st => St.cut [0] ⟨rfl, rfl, rfl, rfl, trivial⟩ (by decide) rfl st) ?_
      rintro ⟨i30, r31, l10, v11⟩ ⟨h36, h35⟩
      try dsimp only at h36 h35
      refine GL.weak (env' := [(0, .int .i64 y8), (3, v11), (17, .int .i64 y8), (18, .int .i64 (i30 : Int))]) (L' := [own 3 TR.int v11 l10]) (fun _ _ st => st) ?_
      refine GL.seq ?_
      refine GL.region ?_
      refine RL.binI (v := .bool (decide ((i30 : Int) < y8))) rfl rfl rfl rfl rfl ?_
      refine RL.finG ?_
      refine GL.seq ?_
      refine GL.cond rfl (fun b38 => ?_) (fun b38 => ?_)
      · have h39 : i30 < (y8).toNat := by have := of_decide_eq_true b38; omega
        obtain ⟨r40, hr⟩ : ∃ m, r31 = m + 1 := ⟨r31 - 1, by omega⟩
        subst hr
        obtain ⟨z32, h33, h34⟩ := rangeN_some h35
        unfold pk_PilesNim_b1 at h33
        try dsimp only at h33
        refine GL.skip ?_
        refine GL.seq ?_
        refine GL.block ?_
        refine GL.seq ?_
        refine GL.region ?_
        refine RL.mv rfl rfl rfl ?_
        refine RL.asg rfl rfl rfl ?_
        refine RL.finG ?_
        refine GL.region ?_
        refine RL.mv rfl rfl rfl ?_
        refine RL.mv rfl rfl rfl ?_
        refine RL.binI (v := .int .i64 (wadd (i30 : Int) (1 : Int))) rfl rfl rfl rfl rfl ?_
        refine RL.bS (t := TR.int) (vs := [.int .i64 (wadd (i30 : Int) (1 : Int))]) ([wadd (i30 : Int) (1 : Int)] : (List Int)) Try.underlying27 Try_lo3 rfl rfl rfl rfl ⟨VR.int, trivial⟩ rfl (by decide) ?_
        intro v45
        obtain ⟨y46, e47, h33⟩ := bind_some h33
        replace e47 := chk_some e47
        refine RL.app 0 1 Try.underlying27 Try_lo3 rfl rfl rfl rfl rfl rfl rfl SlOf.own e47 ?_
        intro v48
        refine RL.asg rfl rfl rfl ?_
        refine RL.finG ?_
        refine GL.nilB ?_
        refine GL.region ?_
        refine RL.binI (v := .int .i64 ((i30 + 1 : Nat) : Int)) rfl rfl rfl rfl (binI_succ i30 (by omega)) ?_
        refine RL.mv rfl rfl rfl ?_
        refine RL.fin ?_
        cases h33
        exact fun a w st => lop_intro (i30 + 1, r40, (l10 ++ ([wadd (i30 : Int) (1 : Int)] : (List Int))), v48) ⟨by show i30 + 1 + r40 = (y8).toNat; omega, h34⟩ (by simp) (St.cut [0] ⟨rfl, rfl, rfl, rfl, trivial⟩ (by decide) rfl st)
      · have h39 : ¬ i30 < (y8).toNat := by have := of_decide_eq_false b38; omega
        obtain rfl : r31 = 0 := by omega
        replace h35 : some (Fl.nx _) = some y23 := h35
        cases h35
        exact GL.exit (fun a w st => mid_intro (l10, v11) h26 (St.cut [0] ⟨rfl, rfl, trivial⟩ (by decide) rfl st))
    · rintro ⟨l10, v11⟩ h49
      have h50 := h27 _ h49
      try dsimp only at h50
      refine GL.weak (env' := [(0, .int .i64 y8), (3, v11)]) (L' := [own 3 TR.int v11 l10]) (fun _ _ st => st) ?_
      refine GL.seq ?_
      refine GL.region ?_
      refine RL.mv rfl rfl rfl ?_
      refine RL.mv rfl rfl rfl ?_
      refine RL.weak (fun a w st => st.freeze 0 rfl) ?_
      obtain ⟨y54, e55, h50⟩ := bind_some h50
      refine RL.call (vs := [.int .i64 y8, v11]) Try_fit24 rfl rfl rfl rfl rfl (fun S f w hS hW hi => piles_Table_c S w hS y8 _ _ (hi 0 _ rfl) _ e55) ?_
      intro v56
      refine RL.mv rfl rfl rfl ?_
      refine RL.ext rfl rfl rfl rfl ?_
      refine RL.ext rfl rfl rfl rfl ?_
      refine RL.asg rfl rfl rfl ?_
      refine RL.asg rfl rfl rfl ?_
      refine RL.finG ?_
      refine GL.seq ?_
      refine GL.seq ?_
      refine GL.region ?_
      refine RL.mv rfl rfl rfl ?_
      refine RL.lenS 1 Try.underlying27 rfl rfl rfl rfl SlOf.own ?_
      refine RL.mv rfl rfl rfl ?_
      refine RL.finG ?_
      refine GL.lenOwn 1 rfl (fun n62 => ?_)
      obtain ⟨y63, K64, h65, h66, h67, h68, h69⟩ := bindR_K h50
      refine GL.join (ι := Unit) (fun (p : Unit) => [(0, .int .i64 y8), (3, v11), (5, v56), (6, .int .i64 y54.2)]) (fun (p : Unit) => [imm (TR.sl TR.int) v11 l10, own 3 TR.int v56 y54.1]) (fun (p : Unit) => K64 (.nx ())) ?_ ?_
      · refine GL.block ?_
        refine GL.loop (ι := Nat × Nat) (fun (p : Nat × Nat) => [(0, .int .i64 y8), (3, v11), (5, v56), (6, .int .i64 y54.2), (33, v56), (34, .int .i64 ((y54.1).length : Int)), (35, .int .i64 (p.1 : Int))]) (fun (p : Nat × Nat) => [imm (TR.sl TR.int) v11 l10, own 3 TR.int v56 y54.1]) (fun (p : Nat × Nat) => p.1 + p.2 = (y54.1).length ∧ rangeN (pk_PilesNim_b2 y54) p.2 p.1 () = some y63) (fun (p : Nat × Nat) => p.2) (0, (y54.1).length) ⟨by simp, h65⟩ (fun a w st => St.cut [0, 1] ⟨rfl, rfl, rfl, rfl, rfl, rfl, rfl, trivial⟩ (by decide) rfl st) ?_
        rintro ⟨i70, r71⟩ ⟨h76, h75⟩
        try dsimp only at h76 h75
        refine GL.weak (env' := [(0, .int .i64 y8), (3, v11), (5, v56), (6, .int .i64 y54.2), (33, v56), (34, .int .i64 ((y54.1).length : Int)), (35, .int .i64 (i70 : Int))]) (L' := [imm (TR.sl TR.int) v11 l10, own 3 TR.int v56 y54.1]) (fun _ _ st => st) ?_
        refine GL.seq ?_
        refine GL.region ?_
        refine RL.binI (v := .bool (decide ((i70 : Int) < ((y54.1).length : Int)))) rfl rfl rfl rfl rfl ?_
        refine RL.finG ?_
        refine GL.seq ?_
        refine GL.cond rfl (fun b78 => ?_) (fun b78 => ?_)
        · have h79 : i70 < (y54.1).length := by have := of_decide_eq_true b78; omega
          obtain ⟨r80, hr⟩ : ∃ m, r71 = m + 1 := ⟨r71 - 1, by omega⟩
          subst hr
          obtain ⟨z72, h73, h74⟩ := rangeN_some h75
          unfold pk_PilesNim_b2 at h73
          try dsimp only at h73
          refine GL.skip ?_
          refine GL.seq ?_
          refine GL.block ?_
          refine GL.seq ?_
          refine GL.region ?_
          refine RL.mv rfl rfl rfl ?_
          obtain ⟨y83, e84, h73⟩ := bind_some h73
          refine RL.idxS (sz := 1) 1 Try.underlying27 Try_ln3 rfl rfl rfl rfl rfl SlOf.own (idx_some e84).1 (idx_some e84).2.1 ?_
          refine RL.ldSx (i := i70) (e' := y83) 1 Ex.ik Try_ln3 rfl rfl rfl rfl SlOf.own (idx_some e84).2.2 Part.self ?_
          refine RL.asg rfl rfl rfl ?_
          refine RL.asg rfl rfl rfl ?_
          refine RL.finG ?_
          refine GL.seq ?_
          refine GL.region ?_
          refine RL.mv rfl rfl rfl ?_
          refine RL.mv rfl rfl rfl ?_
          refine RL.binI (v := .bool (y83 != (i70 : Int))) rfl rfl rfl rfl rfl ?_
          refine RL.finG ?_
          refine GL.cond rfl (fun b85 => ?_) (fun b85 => ?_)
          · replace h73 := ite_t b85 h73
            refine GL.seq ?_
            refine GL.region ?_
            refine RL.asg rfl rfl rfl ?_
            refine RL.finG ?_
            cases h73
            replace h74 : some (Fl.rt _) = some y63 := h74
            cases h74
            have hh := h68 _ h66
            subst hh
            exact GL.ret (Gx.ret (v := .bool false) (res1 rfl rfl) (fun a w st => st.toPostV))
          · replace h73 := ite_f b85 h73
            refine GL.skip ?_
            refine GL.nilB ?_
            refine GL.region ?_
            refine RL.binI (v := .int .i64 ((i70 + 1 : Nat) : Int)) rfl rfl rfl rfl (binI_succ i70 (by omega)) ?_
            refine RL.mv rfl rfl rfl ?_
            refine RL.fin ?_
            cases h73
            exact fun a w st => lop_intro (i70 + 1, r80) ⟨by show i70 + 1 + r80 = (y54.1).length; omega, h74⟩ (by simp) (St.cut [0, 1] ⟨rfl, rfl, rfl, rfl, rfl, rfl, rfl, trivial⟩ (by decide) rfl st)
        · have h79 : ¬ i70 < (y54.1).length := by have := of_decide_eq_false b78; omega
          obtain rfl : r71 = 0 := by omega
          replace h75 : some (Fl.nx _) = some y63 := h75
          cases h75
          exact GL.exit (fun a w st => mid_intro () h66 (St.cut [0, 1] ⟨rfl, rfl, rfl, rfl, trivial⟩ (by decide) rfl st))
      · rintro ⟨⟩ h86
        have h87 := h67 _ h86
        try dsimp only at h87
        refine GL.weak (env' := [(0, .int .i64 y8), (3, v11), (5, v56), (6, .int .i64 y54.2)]) (L' := [imm (TR.sl TR.int) v11 l10, own 3 TR.int v56 y54.1]) (fun _ _ st => st) ?_
        refine GL.seq ?_
        refine GL.region ?_
        refine RL.mv rfl rfl rfl ?_
        obtain ⟨y91, e92, h87⟩ := bind_some h87
        refine RL.call (vs := [.int .i64 (40 : Int), v11]) Try_fit24 rfl rfl rfl rfl rfl (fun S f w hS hW hi => piles_Table_c S w hS (40 : Int) _ _ (hi 0 _ rfl) _ e92) ?_
        intro v93
        refine RL.mv rfl rfl rfl ?_
        refine RL.ext rfl rfl rfl rfl ?_
        refine RL.ext rfl rfl rfl rfl ?_
        refine RL.asg rfl rfl rfl ?_
        refine RL.asg rfl rfl rfl ?_
        refine RL.finG ?_
        refine GL.seq ?_
        refine GL.seq ?_
        obtain ⟨y105, K106, h107, h108, h109, h110, h111⟩ := bindR_K h87
        refine GL.join (ι := Bool) (fun (p : Bool) => [(0, .int .i64 y8), (9, v93), (65, .bool p)]) (fun (p : Bool) => [own 3 TR.int v93 y91.1]) (fun (p : Bool) => K106 (.nx p)) ?_ ?_
        · skip
          refine GL.region ?_
          refine RL.mv rfl rfl rfl ?_
          refine RL.mv rfl rfl rfl ?_
          refine RL.bS (t := TR.int) (vs := [.int .i64 y54.2, .int .i64 y91.2]) ([y54.2, y91.2] : (List Int)) Try.underlying62 Try_lo28 rfl rfl rfl rfl ⟨VR.int, ⟨VR.int, trivial⟩⟩ rfl (by decide) ?_
          intro v112
          obtain ⟨y113, e114, h107⟩ := bind_some h107
          refine RL.callV (v := .bool y113) (vs := [v112]) Try_fit22 rfl (Or.inl rfl) rfl rfl rfl rfl (fun U w hU hW hL => pk_good_c U w hU _ _ (hL 3 _ _ rfl Seen.own) _ e114) ?_
          refine RL.notB rfl rfl rfl ?_
          refine RL.mv rfl rfl rfl ?_
          refine RL.split (t := 54) rfl (fun b115 => ?_) (fun b115 => ?_)
          · replace h107 := ite_t b115 h107
            refine RL.skip rfl rfl ?_
            refine RL.skip rfl rfl ?_
            refine RL.skip rfl rfl ?_
            refine RL.skip rfl rfl ?_
            refine RL.skip rfl rfl ?_
            refine RL.pickT rfl rfl rfl rfl ?_
            refine RL.mv rfl rfl rfl ?_
            refine RL.skip rfl rfl ?_
            refine RL.skip rfl rfl ?_
            refine RL.skip rfl rfl ?_
            refine RL.pickT rfl rfl rfl rfl ?_
            refine RL.fin ?_
            cases h107
            exact fun a w st => mid_intro true h108 (St.cut [2] ⟨rfl, rfl, rfl, trivial⟩ (by decide) rfl st)
          · replace h107 := ite_f b115 h107
            refine RL.mv rfl rfl rfl ?_
            refine RL.lenS 1 Try.underlying27 rfl rfl rfl rfl SlOf.own ?_
            refine RL.mv rfl rfl rfl ?_
            refine RL.binI (v := .int .i64 (wadd y8 (1 : Int))) rfl rfl rfl rfl rfl ?_
            refine RL.binI (v := .bool (((y54.1).length : Int) != (wadd y8 (1 : Int)))) rfl rfl rfl rfl rfl ?_
            refine RL.pickF rfl rfl rfl rfl ?_
            refine RL.mv rfl rfl rfl ?_
            refine RL.split (t := 61) rfl (fun b116 => ?_) (fun b116 => ?_)
            · replace h107 := ite_t b116 h107
              refine RL.skip rfl rfl ?_
              refine RL.skip rfl rfl ?_
              refine RL.skip rfl rfl ?_
              refine RL.pickT rfl rfl rfl rfl ?_
              refine RL.fin ?_
              cases h107
              exact fun a w st => mid_intro true h108 (St.cut [2] ⟨rfl, rfl, rfl, trivial⟩ (by decide) rfl st)
            · replace h107 := ite_f b116 h107
              refine RL.mv rfl rfl rfl ?_
              refine RL.lenS 2 Try.underlying27 rfl rfl rfl rfl SlOf.own ?_
              refine RL.binI (v := .bool (((y91.1).length : Int) != (41 : Int))) rfl rfl rfl rfl rfl ?_
              refine RL.pickF rfl rfl rfl rfl ?_
              refine RL.fin ?_
              cases h107
              exact fun a w st => mid_intro (((y91.1).length : Int) != (41 : Int)) h108 (St.cut [2] ⟨rfl, rfl, rfl, trivial⟩ (by decide) rfl st)
        · rintro x104 h117
          have h118 := h109 _ h117
          try dsimp only at h118
          refine GL.weak (env' := [(0, .int .i64 y8), (9, v93), (65, .bool x104)]) (L' := [own 3 TR.int v93 y91.1]) (fun _ _ st => st) ?_
          refine GL.cond rfl (fun b119 => ?_) (fun b119 => ?_)
          · replace h118 := ite_t b119 h118
            refine GL.seq ?_
            refine GL.region ?_
            refine RL.asg rfl rfl rfl ?_
            refine RL.finG ?_
            have h118 := Option.some.inj h118
            subst h118
            exact GL.ret (Gx.ret (v := .bool false) (res1 rfl rfl) (fun a w st => st.toPostV))
          · replace h118 := ite_f b119 h118
            refine GL.skip ?_
            refine GL.seq ?_
            refine GL.seq ?_
            refine GL.region ?_
            refine RL.mv rfl rfl rfl ?_
            refine RL.lenS 0 Try.underlying27 rfl rfl rfl rfl SlOf.own ?_
            refine RL.mv rfl rfl rfl ?_
            refine RL.finG ?_
            refine GL.lenOwn 0 rfl (fun n129 => ?_)
            obtain ⟨y130, K131, h132, h133, h134, h135, h136⟩ := bindR_K h118
            refine GL.join (ι := Unit) (fun (p : Unit) => []) (fun (p : Unit) => []) (fun (p : Unit) => K131 (.nx ())) ?_ ?_
            · refine GL.block ?_
              refine GL.loop (ι := Nat × Nat) (fun (p : Nat × Nat) => [(0, .int .i64 y8), (66, v93), (67, .int .i64 ((y91.1).length : Int)), (68, .int .i64 (p.1 : Int))]) (fun (p : Nat × Nat) => [own 3 TR.int v93 y91.1]) (fun (p : Nat × Nat) => p.1 + p.2 = (y91.1).length ∧ rangeN (pk_PilesNim_b3 y91 y8) p.2 p.1 () = some y130) (fun (p : Nat × Nat) => p.2) (0, (y91.1).length) ⟨by simp, h132⟩ (fun a w st => St.cut [0] ⟨rfl, rfl, rfl, rfl, trivial⟩ (by decide) rfl st) ?_
              rintro ⟨i137, r138⟩ ⟨h143, h142⟩
              try dsimp only at h143 h142
              refine GL.weak (env' := [(0, .int .i64 y8), (66, v93), (67, .int .i64 ((y91.1).length : Int)), (68, .int .i64 (i137 : Int))]) (L' := [own 3 TR.int v93 y91.1]) (fun _ _ st => st) ?_
              refine GL.seq ?_
              refine GL.region ?_
              refine RL.binI (v := .bool (decide ((i137 : Int) < ((y91.1).length : Int)))) rfl rfl rfl rfl rfl ?_
              refine RL.finG ?_
              refine GL.seq ?_
              refine GL.cond rfl (fun b145 => ?_) (fun b145 => ?_)
              · have h146 : i137 < (y91.1).length := by have := of_decide_eq_true b145; omega
                obtain ⟨r147, hr⟩ : ∃ m, r138 = m + 1 := ⟨r138 - 1, by omega⟩
                subst hr
                obtain ⟨z139, h140, h141⟩ := rangeN_some h142
                unfold pk_PilesNim_b3 at h140
                try dsimp only at h140
                refine GL.skip ?_
                refine GL.seq ?_
                refine GL.block ?_
                refine GL.seq ?_
                refine GL.region ?_
                refine RL.mv rfl rfl rfl ?_
                obtain ⟨y150, e151, h140⟩ := bind_some h140
                refine RL.idxS (sz := 1) 0 Try.underlying27 Try_ln3 rfl rfl rfl rfl rfl SlOf.own (idx_some e151).1 (idx_some e151).2.1 ?_
                refine RL.ldSx (i := i137) (e' := y150) 0 Ex.ik Try_ln3 rfl rfl rfl rfl SlOf.own (idx_some e151).2.2 Part.self ?_
                refine RL.asg rfl rfl rfl ?_
                refine RL.asg rfl rfl rfl ?_
                refine RL.finG ?_
                refine GL.seq ?_
                refine GL.region ?_
                refine RL.mv rfl rfl rfl ?_
                refine RL.mv rfl rfl rfl ?_
                refine RL.mv rfl rfl rfl ?_
                refine RL.binI (v := .int .i64 (wadd y8 (1 : Int))) rfl rfl rfl rfl rfl ?_
                obtain ⟨y154, e155, h140⟩ := bind_some h140
                replace e155 := chk_some e155
                refine RL.rem rfl rfl rfl rfl e155 ?_
                refine RL.binI (v := .bool (y150 != (Int.tmod (i137 : Int) (wadd y8 (1 : Int))))) rfl rfl rfl rfl rfl ?_
                refine RL.finG ?_
                refine GL.cond rfl (fun b156 => ?_) (fun b156 => ?_)
                · replace h140 := ite_t b156 h140
                  refine GL.seq ?_
                  refine GL.region ?_
                  refine RL.asg rfl rfl rfl ?_
                  refine RL.finG ?_
                  cases h140
                  replace h141 : some (Fl.rt _) = some y130 := h141
                  cases h141
                  have hh := h135 _ h133
                  subst hh
                  exact GL.ret (Gx.ret (v := .bool false) (res1 rfl rfl) (fun a w st => st.toPostV))
                · replace h140 := ite_f b156 h140
                  refine GL.skip ?_
                  refine GL.nilB ?_
                  refine GL.region ?_
                  refine RL.binI (v := .int .i64 ((i137 + 1 : Nat) : Int)) rfl rfl rfl rfl (binI_succ i137 (by omega)) ?_
                  refine RL.mv rfl rfl rfl ?_
                  refine RL.fin ?_
                  cases h140
                  exact fun a w st => lop_intro (i137 + 1, r147) ⟨by show i137 + 1 + r147 = (y91.1).length; omega, h141⟩ (by simp) (St.cut [0] ⟨rfl, rfl, rfl, rfl, trivial⟩ (by decide) rfl st)
              · have h146 : ¬ i137 < (y91.1).length := by have := of_decide_eq_false b145; omega
                obtain rfl : r138 = 0 := by omega
                replace h142 : some (Fl.nx _) = some y130 := h142
                cases h142
                exact GL.exit (fun a w st => mid_intro () h133 (St.cut [] trivial (by decide) rfl st))
            · rintro ⟨⟩ h157
              have h158 := h134 _ h157
              try dsimp only at h158
              refine GL.weak (env' := []) (L' := []) (fun _ _ st => st) ?_
              refine GL.seq ?_
              refine GL.region ?_
              refine RL.asg rfl rfl rfl ?_
              refine RL.finG ?_
              have h158 := Option.some.inj h158
              subst h158
              exact GL.ret (Gx.ret (v := .bool true) (res1 rfl rfl) (fun a w st => st.toPostV))
end Go.Wk
