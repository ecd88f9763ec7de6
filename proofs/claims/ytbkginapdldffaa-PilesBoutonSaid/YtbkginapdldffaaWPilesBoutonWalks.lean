/- Each function comes to what its model says; printed by a program of this repository. -/
import Derived.Test.YtbkginapdldffaaProg
import Derived.Test.YtbkginapdldffaaWPilesBoutonModels
namespace Go.Wk
open Go.Fw Go.Mo Go.Proofs Go.RowKit
set_option linter.unusedVariables false
set_option maxRecDepth 100000
theorem Try_info3 : (Try.prog.info? 3).map (fun i => (i.zero, i.size, i.bytes)) = some (some (.int .i64 0), 1, 8) := by kernel_rfl
theorem Try_ln3 : Ln Try.prog 3 1 false := Ln.of Try_info3 Try.underlying3 rfl
theorem Try_lo3 : LnO Try.prog 3 1 [.int .i64 0] := LnO.of Try_info3 rfl rfl (by decide) (by decide)
theorem Try_info28 : (Try.prog.info? 28).map (fun i => (i.zero, i.size, i.bytes)) = some (some (.int .i64 0), 1, 8) := by kernel_rfl
theorem Try_ln28 : Ln Try.prog 28 1 false := Ln.of Try_info28 Try.underlying28 rfl
theorem Try_lo28 : LnO Try.prog 28 1 [.int .i64 0] := LnO.of Try_info28 rfl rfl (by decide) (by decide)
theorem Try_fit14 : Fit Try.prog 14 := Fit.of Try.func14 (by kernel_rfl) rfl
theorem Try_fit17 : Fit Try.prog 17 := Fit.of Try.func17 (by kernel_rfl) rfl
theorem Try_fit18 : Fit Try.prog 18 := Fit.of Try.func18 (by kernel_rfl) rfl
theorem Try_fit19 : Fit Try.prog 19 := Fit.of Try.func19 (by kernel_rfl) rfl
theorem Try_fit20 : Fit Try.prog 20 := Fit.of Try.func20 (by kernel_rfl) rfl
theorem Try_fit21 : Fit Try.prog 21 := Fit.of Try.func21 (by kernel_rfl) rfl
theorem Try_fit22 : Fit Try.prog 22 := Fit.of Try.func22 (by kernel_rfl) rfl
theorem Try_fit28 : Fit Try.prog 28 := Fit.of Try.func28 (by kernel_rfl) rfl
theorem Try_fit30 : Fit Try.prog 30 := Fit.of Try.func30 (by kernel_rfl) rfl
theorem Try_fit31 : Fit Try.prog 31 := Fit.of Try.func31 (by kernel_rfl) rfl
theorem Try_fit32 : Fit Try.prog 32 := Fit.of Try.func32 (by kernel_rfl) rfl
theorem Try_fit34 : Fit Try.prog 34 := Fit.of Try.func34 (by kernel_rfl) rfl

set_option maxHeartbeats 4000000 in
theorem piles_Check_c (S : Hp) (w : World) (hS : S.sub w) (v0 : Value) (x0 : (List Int)) (k0 : ((TR.sl TR.int)).vrep S v0 x0) (res : Int) (hm : piles_Check_m x0 = some res) : Calls Try.prog 30 #[v0] w (PostC w (.int .i64 res)) := by
  refine calls_enter 21 Try.func30 Try.ntmps30 rfl S true [(0, v0)] [imm (TR.sl TR.int) v0 x0] rfl ⟨rfl, trivial⟩ hS ⟨k0, trivial⟩ ?_
  unfold piles_Check_m at hm
  refine GL.seq ?_
  refine GL.region ?_
  refine RL.asg rfl rfl rfl ?_
  refine RL.finG ?_
  refine GL.seq ?_
  refine GL.seq ?_
  refine GL.region ?_
  refine RL.mv rfl rfl rfl ?_
  refine RL.lenS 0 Try.underlying27 rfl rfl rfl rfl SlOf.imm ?_
  refine RL.binI (v := .bool (decide (((x0).length : Int) > (6 : Int)))) rfl rfl rfl rfl rfl ?_
  refine RL.finG ?_
  refine GL.cond rfl (fun b2 => ?_) (fun b2 => ?_)
  · replace hm := ite_t b2 hm
    refine GL.seq ?_
    refine GL.region ?_
    refine RL.asg rfl rfl rfl ?_
    refine RL.finG ?_
    have hm := Option.some.inj hm
    subst hm
    exact GL.ret (Gx.ret (v := .int .i64 (2 : Int)) (res1 rfl rfl) (fun a w st => st.toPostC rfl))
  · replace hm := ite_f b2 hm
    refine GL.skip ?_
    refine GL.seq ?_
    refine GL.seq ?_
    refine GL.region ?_
    refine RL.mv rfl rfl rfl ?_
    refine RL.lenS 0 Try.underlying27 rfl rfl rfl rfl SlOf.imm ?_
    refine RL.mv rfl rfl rfl ?_
    refine RL.finG ?_
    refine GL.open_ 0 rfl (fun S h => len_imm S h) (fun n21 => ?_)
    obtain ⟨y22, K23, h24, h25, h26, h27, h28⟩ := bindR_K hm
    refine GL.join (ι := Unit) (fun (p : Unit) => []) (fun (p : Unit) => []) (fun (p : Unit) => K23 (.nx ())) ?_ ?_
    · refine GL.block ?_
      refine GL.loop (ι := Nat × (List Int)) (fun (p : Nat × (List Int)) => [(8, v0), (9, .int .i64 ((x0).length : Int)), (10, .int .i64 (p.1 : Int))]) (fun (p : Nat × (List Int)) => [imm (TR.sl TR.int) v0 x0]) (fun (p : Nat × (List Int)) => p.1 + p.2.length = (x0).length ∧ List.drop p.1 x0 = p.2 ∧ rangeL piles_Check_b1 p.2 p.1 () = some y22) (fun (p : Nat × (List Int)) => p.2.length) (0, x0) ⟨by simp, by simp, h24⟩ (fun a w st => St.cut [0] ⟨rfl, rfl, rfl, trivial⟩ (by decide) rfl st) ?_
      rintro ⟨i29, r30⟩ ⟨h35, h36, h34⟩
      try dsimp only at h35 h36 h34
      refine GL.weak (env' := [(8, v0), (9, .int .i64 ((x0).length : Int)), (10, .int .i64 (i29 : Int))]) (L' := [imm (TR.sl TR.int) v0 x0]) (fun _ _ st => st) ?_
      refine GL.seq ?_
      refine GL.region ?_
      refine RL.binI (v := .bool (decide ((i29 : Int) < ((x0).length : Int)))) rfl rfl rfl rfl rfl ?_
      refine RL.finG ?_
      refine GL.seq ?_
      refine GL.cond rfl (fun b37 => ?_) (fun b37 => ?_)
      · have h38 : i29 < (x0).length := by have := of_decide_eq_true b37; omega
        obtain ⟨y39, r41, hr, e40, h42⟩ := drop_cons h36 rfl h38
        subst hr
        obtain ⟨z31, h32, h33⟩ := rangeL_some h34
        unfold piles_Check_b1 at h32
        try dsimp only at h32
        refine GL.skip ?_
        refine GL.seq ?_
        refine GL.block ?_
        refine GL.seq ?_
        refine GL.region ?_
        refine RL.idxS (sz := 1) 0 Try.underlying27 Try_ln3 rfl rfl rfl rfl rfl SlOf.imm (by omega) (by omega) ?_
        refine RL.ldSx (i := i29) (e' := y39) 0 Ex.ik Try_ln3 rfl rfl rfl rfl SlOf.imm e40 Part.self ?_
        refine RL.asg rfl rfl rfl ?_
        refine RL.finG ?_
        refine GL.seq ?_
        obtain ⟨y46, K47, h48, h49, h50, h51, h52⟩ := bindF_K h32
        refine GL.join (ι := Bool) (fun (p : Bool) => [(8, v0), (9, .int .i64 ((x0).length : Int)), (10, .int .i64 (i29 : Int)), (19, .bool p)]) (fun (p : Bool) => [imm (TR.sl TR.int) v0 x0]) (fun (p : Bool) => K47 (.nx p)) ?_ ?_
        · skip
          refine GL.region ?_
          refine RL.mv rfl rfl rfl ?_
          refine RL.binI (v := .bool (decide (y39 < (0 : Int)))) rfl rfl rfl rfl rfl ?_
          refine RL.mv rfl rfl rfl ?_
          refine RL.split (t := 16) rfl (fun b53 => ?_) (fun b53 => ?_)
          · replace h48 := ite_t b53 h48
            refine RL.skip rfl rfl ?_
            refine RL.skip rfl rfl ?_
            refine RL.pickT rfl rfl rfl rfl ?_
            refine RL.fin ?_
            cases h48
            exact fun a w st => mid_intro true h49 (St.cut [0] ⟨rfl, rfl, rfl, rfl, trivial⟩ (by decide) rfl st)
          · replace h48 := ite_f b53 h48
            refine RL.mv rfl rfl rfl ?_
            refine RL.binI (v := .bool (decide (y39 > (40 : Int)))) rfl rfl rfl rfl rfl ?_
            refine RL.pickF rfl rfl rfl rfl ?_
            refine RL.fin ?_
            cases h48
            exact fun a w st => mid_intro (decide (y39 > (40 : Int))) h49 (St.cut [0] ⟨rfl, rfl, rfl, rfl, trivial⟩ (by decide) rfl st)
        · rintro x45 h54
          have h55 := h50 _ h54
          try dsimp only at h55
          refine GL.weak (env' := [(8, v0), (9, .int .i64 ((x0).length : Int)), (10, .int .i64 (i29 : Int)), (19, .bool x45)]) (L' := [imm (TR.sl TR.int) v0 x0]) (fun _ _ st => st) ?_
          refine GL.cond rfl (fun b56 => ?_) (fun b56 => ?_)
          · replace h55 := ite_t b56 h55
            refine GL.seq ?_
            refine GL.region ?_
            refine RL.asg rfl rfl rfl ?_
            refine RL.finG ?_
            cases h55
            replace h33 : some (Fl.rt _) = some y22 := h33
            cases h33
            have hh := h27 _ h25
            subst hh
            exact GL.ret (Gx.ret (v := .int .i64 (1 : Int)) (res1 rfl rfl) (fun a w st => st.toPostC rfl))
          · replace h55 := ite_f b56 h55
            refine GL.skip ?_
            refine GL.nilB ?_
            refine GL.region ?_
            refine RL.binI (v := .int .i64 ((i29 + 1 : Nat) : Int)) rfl rfl rfl rfl (binI_succ i29 (by omega)) ?_
            refine RL.mv rfl rfl rfl ?_
            refine RL.fin ?_
            cases h55
            exact fun a w st => lop_intro (i29 + 1, r41) ⟨by show i29 + 1 + r41.length = (x0).length; simp only [List.length_cons] at h35; omega, h42, h33⟩ (by simp) (St.cut [0] ⟨rfl, rfl, rfl, trivial⟩ (by decide) rfl st)
      · have h38 : ¬ i29 < (x0).length := by have := of_decide_eq_false b37; omega
        obtain rfl : r30 = [] := by rw [← h36]; exact List.drop_of_length_le (by omega)
        replace h34 : some (Fl.nx _) = some y22 := h34
        cases h34
        exact GL.exit (fun a w st => mid_intro () h25 (St.cut [] trivial (by decide) rfl st))
    · rintro ⟨⟩ h57
      have h58 := h26 _ h57
      try dsimp only at h58
      refine GL.weak (env' := []) (L' := []) (fun _ _ st => st) ?_
      refine GL.seq ?_
      refine GL.region ?_
      refine RL.asg rfl rfl rfl ?_
      refine RL.finG ?_
      have h58 := Option.some.inj h58
      subst h58
      exact GL.ret (Gx.ret (v := .int .i64 (0 : Int)) (res1 rfl rfl) (fun a w st => st.toPostC rfl))

set_option maxHeartbeats 4000000 in
theorem piles_Move_c (S : Hp) (w : World) (hS : S.sub w) (v0 : Value) (x0 : (List Int)) (k0 : ((TR.sl TR.int)).vrep S v0 x0) (res : Int × Int × Int) (hm : piles_Move_m x0 = some res) : Calls Try.prog 20 #[v0] w (PostC w (.tuple #[.int .i64 res.1, .int .i64 res.2.1, .int .i64 res.2.2])) := by
  refine calls_enter 45 Try.func20 Try.ntmps20 rfl S true [(0, v0)] [imm (TR.sl TR.int) v0 x0] rfl ⟨rfl, trivial⟩ hS ⟨k0, trivial⟩ ?_
  unfold piles_Move_m at hm
  refine GL.seq ?_
  refine GL.region ?_
  refine RL.asg rfl rfl rfl ?_
  refine RL.asg rfl rfl rfl ?_
  refine RL.asg rfl rfl rfl ?_
  refine RL.finG ?_
  refine GL.seq ?_
  refine GL.seq ?_
  refine GL.region ?_
  refine RL.mv rfl rfl rfl ?_
  obtain ⟨y4, e5, hm⟩ := bind_some hm
  refine RL.callC (v := .int .i64 y4) (vs := [v0]) Try_fit30 rfl rfl rfl rfl (fun U w hU hW hL => piles_Check_c U w hU _ _ (hL 0 _ _ rfl Seen.imm) _ e5) ?_
  refine RL.asg rfl rfl rfl ?_
  refine RL.finG ?_
  refine GL.seq ?_
  refine GL.region ?_
  refine RL.mv rfl rfl rfl ?_
  refine RL.binI (v := .bool (y4 != (0 : Int))) rfl rfl rfl rfl rfl ?_
  refine RL.finG ?_
  refine GL.cond rfl (fun b6 => ?_) (fun b6 => ?_)
  · replace hm := ite_t b6 hm
    refine GL.seq ?_
    refine GL.region ?_
    refine RL.mv rfl rfl rfl ?_
    refine RL.asg rfl rfl rfl ?_
    refine RL.asg rfl rfl rfl ?_
    refine RL.asg rfl rfl rfl ?_
    refine RL.finG ?_
    have hm := Option.some.inj hm
    subst hm
    exact GL.ret (Gx.ret (v := .tuple #[.int .i64 (0 : Int), .int .i64 (0 : Int), .int .i64 y4]) (res3 rfl rfl rfl rfl) (fun a w st => st.toPostC rfl))
  · replace hm := ite_f b6 hm
    refine GL.skip ?_
    refine GL.seq ?_
    refine GL.region ?_
    refine RL.asg rfl rfl rfl ?_
    refine RL.finG ?_
    refine GL.seq ?_
    refine GL.seq ?_
    refine GL.region ?_
    refine RL.mv rfl rfl rfl ?_
    refine RL.lenS 0 Try.underlying27 rfl rfl rfl rfl SlOf.imm ?_
    refine RL.mv rfl rfl rfl ?_
    refine RL.finG ?_
    refine GL.open_ 0 rfl (fun S h => len_imm S h) (fun n12 => ?_)
    obtain ⟨y13, K14, h15, h16, h17, h18, h19⟩ := bindR_K hm
    refine GL.join (ι := Int) (fun (p : Int) => [(0, v0), (6, .int .i64 p)]) (fun (p : Int) => [imm (TR.sl TR.int) v0 x0]) (fun (p : Int) => K14 (.nx p)) ?_ ?_
    · refine GL.block ?_
      refine GL.loop (ι := Nat × (List Int) × Int) (fun (p : Nat × (List Int) × Int) => [(0, v0), (6, .int .i64 p.2.2), (16, v0), (17, .int .i64 ((x0).length : Int)), (18, .int .i64 (p.1 : Int))]) (fun (p : Nat × (List Int) × Int) => [imm (TR.sl TR.int) v0 x0]) (fun (p : Nat × (List Int) × Int) => p.1 + p.2.1.length = (x0).length ∧ List.drop p.1 x0 = p.2.1 ∧ rangeL piles_Move_b1 p.2.1 p.1 p.2.2 = some y13) (fun (p : Nat × (List Int) × Int) => p.2.1.length) (0, x0, (0 : Int)) ⟨by simp, by simp, h15⟩ (fun a w st => St.cut [0] ⟨rfl, rfl, rfl, rfl, rfl, trivial⟩ (by decide) rfl st) ?_
      rintro ⟨i20, r21, x7⟩ ⟨h26, h27, h25⟩
      try dsimp only at h26 h27 h25
      refine GL.weak (env' := [(0, v0), (6, .int .i64 x7), (16, v0), (17, .int .i64 ((x0).length : Int)), (18, .int .i64 (i20 : Int))]) (L' := [imm (TR.sl TR.int) v0 x0]) (fun _ _ st => st) ?_
      refine GL.seq ?_
      refine GL.region ?_
      refine RL.binI (v := .bool (decide ((i20 : Int) < ((x0).length : Int)))) rfl rfl rfl rfl rfl ?_
      refine RL.finG ?_
      refine GL.seq ?_
      refine GL.cond rfl (fun b28 => ?_) (fun b28 => ?_)
      · have h29 : i20 < (x0).length := by have := of_decide_eq_true b28; omega
        obtain ⟨y30, r32, hr, e31, h33⟩ := drop_cons h27 rfl h29
        subst hr
        obtain ⟨z22, h23, h24⟩ := rangeL_some h25
        unfold piles_Move_b1 at h23
        try dsimp only at h23
        refine GL.skip ?_
        refine GL.seq ?_
        refine GL.block ?_
        refine GL.seq ?_
        refine GL.region ?_
        refine RL.idxS (sz := 1) 0 Try.underlying27 Try_ln3 rfl rfl rfl rfl rfl SlOf.imm (by omega) (by omega) ?_
        refine RL.ldSx (i := i20) (e' := y30) 0 Ex.ik Try_ln3 rfl rfl rfl rfl SlOf.imm e31 Part.self ?_
        refine RL.asg rfl rfl rfl ?_
        refine RL.finG ?_
        refine GL.region ?_
        refine RL.mv rfl rfl rfl ?_
        refine RL.mv rfl rfl rfl ?_
        refine RL.binI (v := .int .i64 (bits .xor .i64 x7 y30)) rfl rfl rfl rfl rfl ?_
        refine RL.asg rfl rfl rfl ?_
        refine RL.finG ?_
        refine GL.nilB ?_
        refine GL.region ?_
        refine RL.binI (v := .int .i64 ((i20 + 1 : Nat) : Int)) rfl rfl rfl rfl (binI_succ i20 (by omega)) ?_
        refine RL.mv rfl rfl rfl ?_
        refine RL.fin ?_
        cases h23
        exact fun a w st => lop_intro (i20 + 1, r32, bits .xor .i64 x7 y30) ⟨by show i20 + 1 + r32.length = (x0).length; simp only [List.length_cons] at h26; omega, h33, h24⟩ (by simp) (St.cut [0] ⟨rfl, rfl, rfl, rfl, rfl, trivial⟩ (by decide) rfl st)
      · have h29 : ¬ i20 < (x0).length := by have := of_decide_eq_false b28; omega
        obtain rfl : r21 = [] := by rw [← h27]; exact List.drop_of_length_le (by omega)
        replace h25 : some (Fl.nx _) = some y13 := h25
        cases h25
        exact GL.exit (fun a w st => mid_intro x7 h16 (St.cut [0] ⟨rfl, rfl, trivial⟩ (by decide) rfl st))
    · rintro x7 h34
      have h35 := h17 _ h34
      try dsimp only at h35
      refine GL.weak (env' := [(0, v0), (6, .int .i64 x7)]) (L' := [imm (TR.sl TR.int) v0 x0]) (fun _ _ st => st) ?_
      refine GL.seq ?_
      refine GL.seq ?_
      refine GL.region ?_
      refine RL.mv rfl rfl rfl ?_
      refine RL.lenS 0 Try.underlying27 rfl rfl rfl rfl SlOf.imm ?_
      refine RL.mv rfl rfl rfl ?_
      refine RL.finG ?_
      refine GL.open_ 0 rfl (fun S h => len_imm S h) (fun n41 => ?_)
      obtain ⟨y42, K43, h44, h45, h46, h47, h48⟩ := bindR_K h35
      refine GL.join (ι := Unit) (fun (p : Unit) => []) (fun (p : Unit) => []) (fun (p : Unit) => K43 (.nx ())) ?_ ?_
      · refine GL.block ?_
        refine GL.loop (ι := Nat × (List Int)) (fun (p : Nat × (List Int)) => [(6, .int .i64 x7), (26, v0), (27, .int .i64 ((x0).length : Int)), (28, .int .i64 (p.1 : Int))]) (fun (p : Nat × (List Int)) => [imm (TR.sl TR.int) v0 x0]) (fun (p : Nat × (List Int)) => p.1 + p.2.length = (x0).length ∧ List.drop p.1 x0 = p.2 ∧ rangeL (piles_Move_b2 x7) p.2 p.1 () = some y42) (fun (p : Nat × (List Int)) => p.2.length) (0, x0) ⟨by simp, by simp, h44⟩ (fun a w st => St.cut [0] ⟨rfl, rfl, rfl, rfl, trivial⟩ (by decide) rfl st) ?_
        rintro ⟨i49, r50⟩ ⟨h55, h56, h54⟩
        try dsimp only at h55 h56 h54
        refine GL.weak (env' := [(6, .int .i64 x7), (26, v0), (27, .int .i64 ((x0).length : Int)), (28, .int .i64 (i49 : Int))]) (L' := [imm (TR.sl TR.int) v0 x0]) (fun _ _ st => st) ?_
        refine GL.seq ?_
        refine GL.region ?_
        refine RL.binI (v := .bool (decide ((i49 : Int) < ((x0).length : Int)))) rfl rfl rfl rfl rfl ?_
        refine RL.finG ?_
        refine GL.seq ?_
        refine GL.cond rfl (fun b57 => ?_) (fun b57 => ?_)
        · have h58 : i49 < (x0).length := by have := of_decide_eq_true b57; omega
          obtain ⟨y59, r61, hr, e60, h62⟩ := drop_cons h56 rfl h58
          subst hr
          obtain ⟨z51, h52, h53⟩ := rangeL_some h54
          unfold piles_Move_b2 at h52
          try dsimp only at h52
          refine GL.skip ?_
          refine GL.seq ?_
          refine GL.block ?_
          refine GL.seq ?_
          refine GL.region ?_
          refine RL.mv rfl rfl rfl ?_
          refine RL.idxS (sz := 1) 0 Try.underlying27 Try_ln3 rfl rfl rfl rfl rfl SlOf.imm (by omega) (by omega) ?_
          refine RL.ldSx (i := i49) (e' := y59) 0 Ex.ik Try_ln3 rfl rfl rfl rfl SlOf.imm e60 Part.self ?_
          refine RL.asg rfl rfl rfl ?_
          refine RL.asg rfl rfl rfl ?_
          refine RL.finG ?_
          refine GL.seq ?_
          refine GL.region ?_
          refine RL.mv rfl rfl rfl ?_
          refine RL.mv rfl rfl rfl ?_
          refine RL.binI (v := .int .i64 (bits .xor .i64 y59 x7)) rfl rfl rfl rfl rfl ?_
          refine RL.mv rfl rfl rfl ?_
          refine RL.binI (v := .bool (decide ((bits .xor .i64 y59 x7) < y59))) rfl rfl rfl rfl rfl ?_
          refine RL.finG ?_
          refine GL.cond rfl (fun b63 => ?_) (fun b63 => ?_)
          · replace h52 := ite_t b63 h52
            refine GL.seq ?_
            refine GL.region ?_
            refine RL.mv rfl rfl rfl ?_
            refine RL.mv rfl rfl rfl ?_
            refine RL.mv rfl rfl rfl ?_
            refine RL.mv rfl rfl rfl ?_
            refine RL.binI (v := .int .i64 (bits .xor .i64 y59 x7)) rfl rfl rfl rfl rfl ?_
            refine RL.binI (v := .int .i64 (wsub y59 (bits .xor .i64 y59 x7))) rfl rfl rfl rfl rfl ?_
            refine RL.asg rfl rfl rfl ?_
            refine RL.asg rfl rfl rfl ?_
            refine RL.asg rfl rfl rfl ?_
            refine RL.finG ?_
            cases h52
            replace h53 : some (Fl.rt _) = some y42 := h53
            cases h53
            have hh := h47 _ h45
            subst hh
            exact GL.ret (Gx.ret (v := .tuple #[.int .i64 (i49 : Int), .int .i64 (wsub y59 (bits .xor .i64 y59 x7)), .int .i64 (0 : Int)]) (res3 rfl rfl rfl rfl) (fun a w st => st.toPostC rfl))
          · replace h52 := ite_f b63 h52
            refine GL.skip ?_
            refine GL.nilB ?_
            refine GL.region ?_
            refine RL.binI (v := .int .i64 ((i49 + 1 : Nat) : Int)) rfl rfl rfl rfl (binI_succ i49 (by omega)) ?_
            refine RL.mv rfl rfl rfl ?_
            refine RL.fin ?_
            cases h52
            exact fun a w st => lop_intro (i49 + 1, r61) ⟨by show i49 + 1 + r61.length = (x0).length; simp only [List.length_cons] at h55; omega, h62, h53⟩ (by simp) (St.cut [0] ⟨rfl, rfl, rfl, rfl, trivial⟩ (by decide) rfl st)
        · have h58 : ¬ i49 < (x0).length := by have := of_decide_eq_false b57; omega
          obtain rfl : r50 = [] := by rw [← h56]; exact List.drop_of_length_le (by omega)
          replace h54 : some (Fl.nx _) = some y42 := h54
          cases h54
          exact GL.exit (fun a w st => mid_intro () h45 (St.cut [] trivial (by decide) rfl st))
      · rintro ⟨⟩ h64
        have h65 := h46 _ h64
        try dsimp only at h65
        refine GL.weak (env' := []) (L' := []) (fun _ _ st => st) ?_
        refine GL.seq ?_
        refine GL.region ?_
        refine RL.asg rfl rfl rfl ?_
        refine RL.asg rfl rfl rfl ?_
        refine RL.asg rfl rfl rfl ?_
        refine RL.finG ?_
        have h65 := Option.some.inj h65
        subst h65
        exact GL.ret (Gx.ret (v := .tuple #[.int .i64 (0 : Int), .int .i64 (0 : Int), .int .i64 (4 : Int)]) (res3 rfl rfl rfl rfl) (fun a w st => st.toPostC rfl))

set_option maxHeartbeats 4000000 in
theorem piles_Wins_c (S : Hp) (w : World) (hS : S.sub w) (v0 : Value) (x0 : (List Int)) (k0 : ((TR.sl TR.int)).vrep S v0 x0) (res : Bool × Int) (hm : piles_Wins_m x0 = some res) : Calls Try.prog 19 #[v0] w (PostC w (.tuple #[.bool res.1, .int .i64 res.2])) := by
  refine calls_enter 25 Try.func19 Try.ntmps19 rfl S true [(0, v0)] [imm (TR.sl TR.int) v0 x0] rfl ⟨rfl, trivial⟩ hS ⟨k0, trivial⟩ ?_
  unfold piles_Wins_m at hm
  refine GL.seq ?_
  refine GL.region ?_
  refine RL.asg rfl rfl rfl ?_
  refine RL.asg rfl rfl rfl ?_
  refine RL.finG ?_
  refine GL.seq ?_
  refine GL.seq ?_
  refine GL.region ?_
  refine RL.mv rfl rfl rfl ?_
  obtain ⟨y4, e5, hm⟩ := bind_some hm
  refine RL.callC (v := .int .i64 y4) (vs := [v0]) Try_fit30 rfl rfl rfl rfl (fun U w hU hW hL => piles_Check_c U w hU _ _ (hL 0 _ _ rfl Seen.imm) _ e5) ?_
  refine RL.asg rfl rfl rfl ?_
  refine RL.finG ?_
  refine GL.seq ?_
  refine GL.region ?_
  refine RL.mv rfl rfl rfl ?_
  refine RL.binI (v := .bool (y4 != (0 : Int))) rfl rfl rfl rfl rfl ?_
  refine RL.finG ?_
  refine GL.cond rfl (fun b6 => ?_) (fun b6 => ?_)
  · replace hm := ite_t b6 hm
    refine GL.seq ?_
    refine GL.region ?_
    refine RL.mv rfl rfl rfl ?_
    refine RL.asg rfl rfl rfl ?_
    refine RL.asg rfl rfl rfl ?_
    refine RL.finG ?_
    have hm := Option.some.inj hm
    subst hm
    exact GL.ret (Gx.ret (v := .tuple #[.bool false, .int .i64 y4]) (res2 rfl rfl rfl) (fun a w st => st.toPostC rfl))
  · replace hm := ite_f b6 hm
    refine GL.skip ?_
    refine GL.seq ?_
    refine GL.region ?_
    refine RL.asg rfl rfl rfl ?_
    refine RL.finG ?_
    refine GL.seq ?_
    refine GL.seq ?_
    refine GL.region ?_
    refine RL.mv rfl rfl rfl ?_
    refine RL.lenS 0 Try.underlying27 rfl rfl rfl rfl SlOf.imm ?_
    refine RL.mv rfl rfl rfl ?_
    refine RL.finG ?_
    refine GL.open_ 0 rfl (fun S h => len_imm S h) (fun n12 => ?_)
    obtain ⟨y13, K14, h15, h16, h17, h18, h19⟩ := bindR_K hm
    refine GL.join (ι := Int) (fun (p : Int) => [(5, .int .i64 p)]) (fun (p : Int) => []) (fun (p : Int) => K14 (.nx p)) ?_ ?_
    · refine GL.block ?_
      refine GL.loop (ι := Nat × (List Int) × Int) (fun (p : Nat × (List Int) × Int) => [(5, .int .i64 p.2.2), (13, v0), (14, .int .i64 ((x0).length : Int)), (15, .int .i64 (p.1 : Int))]) (fun (p : Nat × (List Int) × Int) => [imm (TR.sl TR.int) v0 x0]) (fun (p : Nat × (List Int) × Int) => p.1 + p.2.1.length = (x0).length ∧ List.drop p.1 x0 = p.2.1 ∧ rangeL piles_Wins_b1 p.2.1 p.1 p.2.2 = some y13) (fun (p : Nat × (List Int) × Int) => p.2.1.length) (0, x0, (0 : Int)) ⟨by simp, by simp, h15⟩ (fun a w st => St.cut [0] ⟨rfl, rfl, rfl, rfl, trivial⟩ (by decide) rfl st) ?_
      rintro ⟨i20, r21, x7⟩ ⟨h26, h27, h25⟩
      try dsimp only at h26 h27 h25
      refine GL.weak (env' := [(5, .int .i64 x7), (13, v0), (14, .int .i64 ((x0).length : Int)), (15, .int .i64 (i20 : Int))]) (L' := [imm (TR.sl TR.int) v0 x0]) (fun _ _ st => st) ?_
      refine GL.seq ?_
      refine GL.region ?_
      refine RL.binI (v := .bool (decide ((i20 : Int) < ((x0).length : Int)))) rfl rfl rfl rfl rfl ?_
      refine RL.finG ?_
      refine GL.seq ?_
      refine GL.cond rfl (fun b28 => ?_) (fun b28 => ?_)
      · have h29 : i20 < (x0).length := by have := of_decide_eq_true b28; omega
        obtain ⟨y30, r32, hr, e31, h33⟩ := drop_cons h27 rfl h29
        subst hr
        obtain ⟨z22, h23, h24⟩ := rangeL_some h25
        unfold piles_Wins_b1 at h23
        try dsimp only at h23
        refine GL.skip ?_
        refine GL.seq ?_
        refine GL.block ?_
        refine GL.seq ?_
        refine GL.region ?_
        refine RL.idxS (sz := 1) 0 Try.underlying27 Try_ln3 rfl rfl rfl rfl rfl SlOf.imm (by omega) (by omega) ?_
        refine RL.ldSx (i := i20) (e' := y30) 0 Ex.ik Try_ln3 rfl rfl rfl rfl SlOf.imm e31 Part.self ?_
        refine RL.asg rfl rfl rfl ?_
        refine RL.finG ?_
        refine GL.region ?_
        refine RL.mv rfl rfl rfl ?_
        refine RL.mv rfl rfl rfl ?_
        refine RL.binI (v := .int .i64 (bits .xor .i64 x7 y30)) rfl rfl rfl rfl rfl ?_
        refine RL.asg rfl rfl rfl ?_
        refine RL.finG ?_
        refine GL.nilB ?_
        refine GL.region ?_
        refine RL.binI (v := .int .i64 ((i20 + 1 : Nat) : Int)) rfl rfl rfl rfl (binI_succ i20 (by omega)) ?_
        refine RL.mv rfl rfl rfl ?_
        refine RL.fin ?_
        cases h23
        exact fun a w st => lop_intro (i20 + 1, r32, bits .xor .i64 x7 y30) ⟨by show i20 + 1 + r32.length = (x0).length; simp only [List.length_cons] at h26; omega, h33, h24⟩ (by simp) (St.cut [0] ⟨rfl, rfl, rfl, rfl, trivial⟩ (by decide) rfl st)
      · have h29 : ¬ i20 < (x0).length := by have := of_decide_eq_false b28; omega
        obtain rfl : r21 = [] := by rw [← h27]; exact List.drop_of_length_le (by omega)
        replace h25 : some (Fl.nx _) = some y13 := h25
        cases h25
        exact GL.exit (fun a w st => mid_intro x7 h16 (St.cut [] ⟨rfl, trivial⟩ (by decide) rfl st))
    · rintro x7 h34
      have h35 := h17 _ h34
      try dsimp only at h35
      refine GL.weak (env' := [(5, .int .i64 x7)]) (L' := []) (fun _ _ st => st) ?_
      refine GL.seq ?_
      refine GL.region ?_
      refine RL.mv rfl rfl rfl ?_
      refine RL.binI (v := .bool (x7 != (0 : Int))) rfl rfl rfl rfl rfl ?_
      refine RL.asg rfl rfl rfl ?_
      refine RL.asg rfl rfl rfl ?_
      refine RL.finG ?_
      have h35 := Option.some.inj h35
      subst h35
      exact GL.ret (Gx.ret (v := .tuple #[.bool (x7 != (0 : Int)), .int .i64 (0 : Int)]) (res2 rfl rfl rfl) (fun a w st => st.toPostC rfl))

set_option maxHeartbeats 4000000 in
theorem slices_IndexFunc_api_Errno_api_Errno_c (S : Hp) (w : World) (hS : S.sub w) (v0 : Value) (x0 : (List Int)) (k0 : ((TR.sl TR.int)).vrep S v0 x0) (f1 : FuncId) (c1 : Array Value) (t1 : Fit Try.prog f1) (g1 : Int → Option Bool) (k1 : ∀ (U : Hp) (w' : World), Hp.le S U → U.sub w' → ∀ (a0 : Int) (rr : Bool), g1 a0 = some rr → Calls Try.prog f1 (#[.int .i64 a0] ++ c1) w' (PostV w' (.bool rr))) (res : Int) (hm : slices_IndexFunc_api_Errno_api_Errno_m x0 g1 = some res) : Calls Try.prog 34 #[v0, .func (.func f1) #[] c1] w (PostV w (.int .i64 res)) := by
  refine calls_enter 19 Try.func34 Try.ntmps34 rfl S false [(0, v0), (1, .func (.func f1) #[] c1)] [imm (TR.sl TR.int) v0 x0] rfl ⟨rfl, ⟨rfl, trivial⟩⟩ hS ⟨k0, trivial⟩ ?_
  unfold slices_IndexFunc_api_Errno_api_Errno_m at hm
  refine GL.seq ?_
  refine GL.region ?_
  refine RL.asg rfl rfl rfl ?_
  refine RL.finG ?_
  refine GL.seq ?_
  refine GL.seq ?_
  refine GL.region ?_
  refine RL.mv rfl rfl rfl ?_
  refine RL.lenS 0 Try.underlying62 rfl rfl rfl rfl SlOf.imm ?_
  refine RL.mv rfl rfl rfl ?_
  refine RL.finG ?_
  refine GL.open_ 0 rfl (fun S h => len_imm S h) (fun n12 => ?_)
  obtain ⟨y13, K14, h15, h16, h17, h18, h19⟩ := bindR_K hm
  refine GL.join (ι := Unit) (fun (p : Unit) => []) (fun (p : Unit) => []) (fun (p : Unit) => K14 (.nx ())) ?_ ?_
  · refine GL.block ?_
    refine GL.loop (ι := Nat × (List Int)) (fun (p : Nat × (List Int)) => [(0, v0), (1, .func (.func f1) #[] c1), (7, .int .i64 ((x0).length : Int)), (8, .int .i64 (p.1 : Int))]) (fun (p : Nat × (List Int)) => [imm (TR.sl TR.int) v0 x0]) (fun (p : Nat × (List Int)) => p.1 + p.2.length = (x0).length ∧ List.drop p.1 x0 = p.2 ∧ rangeL (slices_IndexFunc_api_Errno_api_Errno_b1 g1) p.2 p.1 () = some y13) (fun (p : Nat × (List Int)) => p.2.length) (0, x0) ⟨by simp, by simp, h15⟩ (fun a w st => St.cut [0] ⟨rfl, rfl, rfl, rfl, trivial⟩ (by decide) rfl st) ?_
    rintro ⟨i20, r21⟩ ⟨h26, h27, h25⟩
    try dsimp only at h26 h27 h25
    refine GL.weak (env' := [(0, v0), (1, .func (.func f1) #[] c1), (7, .int .i64 ((x0).length : Int)), (8, .int .i64 (i20 : Int))]) (L' := [imm (TR.sl TR.int) v0 x0]) (fun _ _ st => st) ?_
    refine GL.seq ?_
    refine GL.region ?_
    refine RL.binI (v := .bool (decide ((i20 : Int) < ((x0).length : Int)))) rfl rfl rfl rfl rfl ?_
    refine RL.finG ?_
    refine GL.seq ?_
    refine GL.cond rfl (fun b28 => ?_) (fun b28 => ?_)
    · have h29 : i20 < (x0).length := by have := of_decide_eq_true b28; omega
      obtain ⟨y30, r32, hr, e31, h33⟩ := drop_cons h27 rfl h29
      subst hr
      obtain ⟨z22, h23, h24⟩ := rangeL_some h25
      unfold slices_IndexFunc_api_Errno_api_Errno_b1 at h23
      try dsimp only at h23
      refine GL.skip ?_
      refine GL.seq ?_
      refine GL.block ?_
      refine GL.seq ?_
      refine GL.region ?_
      refine RL.mv rfl rfl rfl ?_
      refine RL.asg rfl rfl rfl ?_
      refine RL.finG ?_
      refine GL.seq ?_
      refine GL.region ?_
      refine RL.mv rfl rfl rfl ?_
      refine RL.mv rfl rfl rfl ?_
      refine RL.mv rfl rfl rfl ?_
      refine RL.idxS (sz := 1) 0 Try.underlying62 Try_ln28 rfl rfl rfl rfl rfl SlOf.imm (by omega) (by omega) ?_
      refine RL.ldSx (i := i20) (e' := y30) 0 Ex.ik Try_ln28 rfl rfl rfl rfl SlOf.imm e31 Part.self ?_
      obtain ⟨y36, e37, h23⟩ := bind_some h23
      refine RL.callV (v := .bool y36) (vs := [.int .i64 y30]) t1 rfl (Or.inl rfl) rfl rfl rfl rfl (fun U w hU hW hL => k1 U w hW hU y30 _ e37) ?_
      refine RL.finG ?_
      refine GL.cond rfl (fun b38 => ?_) (fun b38 => ?_)
      · replace h23 := ite_t b38 h23
        refine GL.seq ?_
        refine GL.region ?_
        refine RL.mv rfl rfl rfl ?_
        refine RL.asg rfl rfl rfl ?_
        refine RL.finG ?_
        cases h23
        replace h24 : some (Fl.rt _) = some y13 := h24
        cases h24
        have hh := h18 _ h16
        subst hh
        exact GL.ret (Gx.ret (v := .int .i64 (i20 : Int)) (res1 rfl rfl) (fun a w st => st.toPostV))
      · replace h23 := ite_f b38 h23
        refine GL.skip ?_
        refine GL.nilB ?_
        refine GL.region ?_
        refine RL.binI (v := .int .i64 ((i20 + 1 : Nat) : Int)) rfl rfl rfl rfl (binI_succ i20 (by omega)) ?_
        refine RL.mv rfl rfl rfl ?_
        refine RL.fin ?_
        cases h23
        exact fun a w st => lop_intro (i20 + 1, r32) ⟨by show i20 + 1 + r32.length = (x0).length; simp only [List.length_cons] at h26; omega, h33, h24⟩ (by simp) (St.cut [0] ⟨rfl, rfl, rfl, rfl, trivial⟩ (by decide) rfl st)
    · have h29 : ¬ i20 < (x0).length := by have := of_decide_eq_false b28; omega
      obtain rfl : r21 = [] := by rw [← h27]; exact List.drop_of_length_le (by omega)
      replace h25 : some (Fl.nx _) = some y13 := h25
      cases h25
      exact GL.exit (fun a w st => mid_intro () h16 (St.cut [] trivial (by decide) rfl st))
  · rintro ⟨⟩ h39
    have h40 := h17 _ h39
    try dsimp only at h40
    refine GL.weak (env' := []) (L' := []) (fun _ _ st => st) ?_
    refine GL.seq ?_
    refine GL.region ?_
    refine RL.asg rfl rfl rfl ?_
    refine RL.finG ?_
    have h40 := Option.some.inj h40
    subst h40
    exact GL.ret (Gx.ret (v := .int .i64 (-1 : Int)) (res1 rfl rfl) (fun a w st => st.toPostV))

set_option maxHeartbeats 4000000 in
theorem slices_ContainsFunc_api_Errno_api_Errno_c (S : Hp) (w : World) (hS : S.sub w) (v0 : Value) (x0 : (List Int)) (k0 : ((TR.sl TR.int)).vrep S v0 x0) (f1 : FuncId) (c1 : Array Value) (t1 : Fit Try.prog f1) (g1 : Int → Option Bool) (k1 : ∀ (U : Hp) (w' : World), Hp.le S U → U.sub w' → ∀ (a0 : Int) (rr : Bool), g1 a0 = some rr → Calls Try.prog f1 (#[.int .i64 a0] ++ c1) w' (PostV w' (.bool rr))) (res : Bool) (hm : slices_ContainsFunc_api_Errno_api_Errno_m x0 g1 = some res) : Calls Try.prog 31 #[v0, .func (.func f1) #[] c1] w (PostV w (.bool res)) := by
  refine calls_enter 9 Try.func31 Try.ntmps31 rfl S false [(0, v0), (1, .func (.func f1) #[] c1)] [imm (TR.sl TR.int) v0 x0] rfl ⟨rfl, ⟨rfl, trivial⟩⟩ hS ⟨k0, trivial⟩ ?_
  unfold slices_ContainsFunc_api_Errno_api_Errno_m at hm
  refine GL.seq ?_
  refine GL.region ?_
  refine RL.asg rfl rfl rfl ?_
  refine RL.finG ?_
  refine GL.seq ?_
  refine GL.region ?_
  refine RL.mv rfl rfl rfl ?_
  refine RL.mv rfl rfl rfl ?_
  obtain ⟨y5, e6, hm⟩ := bind_some hm
  refine RL.callV (v := .int .i64 y5) (vs := [v0, .func (.func f1) #[] c1]) Try_fit34 rfl (Or.inl rfl) rfl rfl rfl rfl (fun U w hU hW hL => slices_IndexFunc_api_Errno_api_Errno_c U w hU _ _ (hL 0 _ _ rfl Seen.imm) f1 c1 t1 g1 (fun U' w' hle => k1 U' w' (Hp.le_trans hW hle)) _ e6) ?_
  refine RL.binI (v := .bool (decide (y5 ≥ (0 : Int)))) rfl rfl rfl rfl rfl ?_
  refine RL.asg rfl rfl rfl ?_
  refine RL.finG ?_
  have hm := Option.some.inj hm
  subst hm
  exact GL.ret (Gx.ret (v := .bool (decide (y5 ≥ (0 : Int)))) (res1 rfl rfl) (fun a w st => st.toPostV))

set_option maxHeartbeats 4000000 in
theorem pk_good_1_c (S : Hp) (w : World) (hS : S.sub w) (x0 : Int) (res : Bool) (hm : pk_good_1_m x0 = some res) : Calls Try.prog 32 #[.int .i64 x0] w (PostC w (.bool res)) := by
  refine calls_enter 5 Try.func32 Try.ntmps32 rfl S true [(0, .int .i64 x0)] [] rfl ⟨rfl, trivial⟩ hS trivial ?_
  unfold pk_good_1_m at hm
  refine GL.seq ?_
  refine GL.region ?_
  refine RL.asg rfl rfl rfl ?_
  refine RL.finG ?_
  refine GL.seq ?_
  refine GL.region ?_
  refine RL.mv rfl rfl rfl ?_
  refine RL.binI (v := .bool (x0 != (0 : Int))) rfl rfl rfl rfl rfl ?_
  refine RL.asg rfl rfl rfl ?_
  refine RL.finG ?_
  have hm := Option.some.inj hm
  subst hm
  exact GL.ret (Gx.ret (v := .bool (x0 != (0 : Int))) (res1 rfl rfl) (fun a w st => st.toPostC rfl))

set_option maxHeartbeats 4000000 in
theorem pk_good_c (S : Hp) (w : World) (hS : S.sub w) (v0 : Value) (x0 : (List Int)) (k0 : ((TR.sl TR.int)).vrep S v0 x0) (res : Bool) (hm : pk_good_m x0 = some res) : Calls Try.prog 22 #[v0] w (PostV w (.bool res)) := by
  refine calls_enter 6 Try.func22 Try.ntmps22 rfl S false [(0, v0)] [imm (TR.sl TR.int) v0 x0] rfl ⟨rfl, trivial⟩ hS ⟨k0, trivial⟩ ?_
  unfold pk_good_m at hm
  refine GL.seq ?_
  refine GL.region ?_
  refine RL.asg rfl rfl rfl ?_
  refine RL.finG ?_
  refine GL.seq ?_
  refine GL.region ?_
  refine RL.mv rfl rfl rfl ?_
  obtain ⟨y4, e5, hm⟩ := bind_some hm
  refine RL.callV (v := .bool y4) (vs := [v0, .func (.func 32) #[] #[]]) Try_fit31 rfl (Or.inl rfl) rfl rfl rfl rfl (fun U w hU hW hL => slices_ContainsFunc_api_Errno_api_Errno_c U w hU _ _ (hL 0 _ _ rfl Seen.imm) 32 #[] Try_fit32 (fun a0 => pk_good_1_m a0) (fun U' w' hle hU' a0 rr hr => (pk_good_1_c U' w' hU' a0 rr hr).mono (fun _ _ z => z.toV)) _ e5) ?_
  refine RL.notB rfl rfl rfl ?_
  refine RL.asg rfl rfl rfl ?_
  refine RL.finG ?_
  have hm := Option.some.inj hm
  subst hm
  exact GL.ret (Gx.ret (v := .bool (!y4)) (res1 rfl rfl) (fun a w st => st.toPostV))

set_option maxHeartbeats 4000000 in
theorem pk_nims_c (S : Hp) (w : World) (hS : S.sub w)  (res : Bool) (hm : pk_nims_m = some res) : Calls Try.prog 17 #[] w (PostV w (.bool res)) := by
  refine calls_enter 33 Try.func17 Try.ntmps17 rfl S false [] [] rfl trivial hS trivial ?_
  unfold pk_nims_m at hm
  refine GL.seq ?_
  refine GL.region ?_
  refine RL.asg rfl rfl rfl ?_
  refine RL.finG ?_
  refine GL.seq ?_
  refine GL.region ?_
  refine RL.bS (t := TR.int) (vs := [.int .i64 (1 : Int), .int .i64 (2 : Int), .int .i64 (4 : Int)]) ([(1 : Int), (2 : Int), (4 : Int)] : (List Int)) Try.underlying27 Try_lo3 rfl rfl rfl rfl ⟨VR.int, ⟨VR.int, ⟨VR.int, trivial⟩⟩⟩ rfl (by decide) ?_
  intro v4
  obtain ⟨y5, e6, hm⟩ := bind_some hm
  refine RL.callC (v := .tuple #[.int .i64 y5.1, .int .i64 y5.2.1, .int .i64 y5.2.2]) (vs := [v4]) Try_fit20 rfl rfl rfl rfl (fun U w hU hW hL => piles_Move_c U w hU _ _ (hL 0 _ _ rfl Seen.own) _ e6) ?_
  refine RL.mv rfl rfl rfl ?_
  refine RL.ext rfl rfl rfl rfl ?_
  refine RL.ext rfl rfl rfl rfl ?_
  refine RL.ext rfl rfl rfl rfl ?_
  refine RL.asg rfl rfl rfl ?_
  refine RL.asg rfl rfl rfl ?_
  refine RL.asg rfl rfl rfl ?_
  refine RL.finG ?_
  refine GL.seq ?_
  refine GL.region ?_
  refine RL.bS (t := TR.int) (vs := [.int .i64 (1 : Int), .int .i64 (2 : Int), .int .i64 (3 : Int)]) ([(1 : Int), (2 : Int), (3 : Int)] : (List Int)) Try.underlying27 Try_lo3 rfl rfl rfl rfl ⟨VR.int, ⟨VR.int, ⟨VR.int, trivial⟩⟩⟩ rfl (by decide) ?_
  intro v10
  obtain ⟨y11, e12, hm⟩ := bind_some hm
  refine RL.callC (v := .tuple #[.bool y11.1, .int .i64 y11.2]) (vs := [v10]) Try_fit19 rfl rfl rfl rfl (fun U w hU hW hL => piles_Wins_c U w hU _ _ (hL 1 _ _ rfl Seen.own) _ e12) ?_
  refine RL.mv rfl rfl rfl ?_
  refine RL.ext rfl rfl rfl rfl ?_
  refine RL.ext rfl rfl rfl rfl ?_
  refine RL.asg rfl rfl rfl ?_
  refine RL.asg rfl rfl rfl ?_
  refine RL.finG ?_
  refine GL.seq ?_
  obtain ⟨y26, K27, h28, h29, h30, h31, h32⟩ := bindR_K hm
  refine GL.join (ι := Bool) (fun (p : Bool) => [(0, .bool p)]) (fun (p : Bool) => []) (fun (p : Bool) => K27 (.nx p)) ?_ ?_
  · skip
    refine GL.region ?_
    refine RL.mv rfl rfl rfl ?_
    refine RL.mv rfl rfl rfl ?_
    refine RL.bS (t := TR.int) (vs := [.int .i64 y5.2.2, .int .i64 y11.2]) ([y5.2.2, y11.2] : (List Int)) Try.underlying62 Try_lo28 rfl rfl rfl rfl ⟨VR.int, ⟨VR.int, trivial⟩⟩ rfl (by decide) ?_
    intro v33
    obtain ⟨y34, e35, h28⟩ := bind_some h28
    refine RL.callV (v := .bool y34) (vs := [v33]) Try_fit22 rfl (Or.inl rfl) rfl rfl rfl rfl (fun U w hU hW hL => pk_good_c U w hU _ _ (hL 2 _ _ rfl Seen.own) _ e35) ?_
    refine RL.mv rfl rfl rfl ?_
    refine RL.split (t := 21) rfl (fun b36 => ?_) (fun b36 => ?_)
    · replace h28 := ite_t b36 h28
      refine RL.mv rfl rfl rfl ?_
      refine RL.binI (v := .bool (y5.1 == (2 : Int))) rfl rfl rfl rfl rfl ?_
      refine RL.pickT rfl rfl rfl rfl ?_
      refine RL.mv rfl rfl rfl ?_
      refine RL.split (t := 25) rfl (fun b37 => ?_) (fun b37 => ?_)
      · replace h28 := ite_t b37 h28
        refine RL.mv rfl rfl rfl ?_
        refine RL.binI (v := .bool (y5.2.1 == (1 : Int))) rfl rfl rfl rfl rfl ?_
        refine RL.pickT rfl rfl rfl rfl ?_
        refine RL.mv rfl rfl rfl ?_
        refine RL.split (t := 29) rfl (fun b38 => ?_) (fun b38 => ?_)
        · replace h28 := ite_t b38 h28
          refine RL.mv rfl rfl rfl ?_
          refine RL.notB rfl rfl rfl ?_
          refine RL.pickT rfl rfl rfl rfl ?_
          refine RL.asg rfl rfl rfl ?_
          refine RL.fin ?_
          cases h28
          exact fun a w st => mid_intro (!y11.1) h29 (St.cut [] ⟨rfl, trivial⟩ (by decide) rfl st)
        · replace h28 := ite_f b38 h28
          refine RL.skip rfl rfl ?_
          refine RL.skip rfl rfl ?_
          refine RL.pickF rfl rfl rfl rfl ?_
          refine RL.asg rfl rfl rfl ?_
          refine RL.fin ?_
          cases h28
          exact fun a w st => mid_intro false h29 (St.cut [] ⟨rfl, trivial⟩ (by decide) rfl st)
      · replace h28 := ite_f b37 h28
        refine RL.skip rfl rfl ?_
        refine RL.skip rfl rfl ?_
        refine RL.pickF rfl rfl rfl rfl ?_
        refine RL.mv rfl rfl rfl ?_
        refine RL.skip rfl rfl ?_
        refine RL.skip rfl rfl ?_
        refine RL.pickF rfl rfl rfl rfl ?_
        refine RL.asg rfl rfl rfl ?_
        refine RL.fin ?_
        cases h28
        exact fun a w st => mid_intro false h29 (St.cut [] ⟨rfl, trivial⟩ (by decide) rfl st)
    · replace h28 := ite_f b36 h28
      refine RL.skip rfl rfl ?_
      refine RL.skip rfl rfl ?_
      refine RL.pickF rfl rfl rfl rfl ?_
      refine RL.mv rfl rfl rfl ?_
      refine RL.skip rfl rfl ?_
      refine RL.skip rfl rfl ?_
      refine RL.pickF rfl rfl rfl rfl ?_
      refine RL.mv rfl rfl rfl ?_
      refine RL.skip rfl rfl ?_
      refine RL.skip rfl rfl ?_
      refine RL.pickF rfl rfl rfl rfl ?_
      refine RL.asg rfl rfl rfl ?_
      refine RL.fin ?_
      cases h28
      exact fun a w st => mid_intro false h29 (St.cut [] ⟨rfl, trivial⟩ (by decide) rfl st)
  · rintro x25 h39
    have h40 := h30 _ h39
    try dsimp only at h40
    refine GL.weak (env' := [(0, .bool x25)]) (L' := []) (fun _ _ st => st) ?_
    have h40 := Option.some.inj h40
    subst h40
    exact GL.ret (Gx.ret (v := .bool x25) (res1 rfl rfl) (fun a w st => st.toPostV))

set_option maxHeartbeats 4000000 in
theorem ref_Rest_c (S : Hp) (w : World) (hS : S.sub w) (x0 : Int) (x1 : Int) (res : Int) (hm : ref_Rest_m x0 x1 = some res) : Calls Try.prog 28 #[.int .i64 x0, .int .i64 x1] w (PostC w (.int .i64 res)) := by
  refine calls_enter 14 Try.func28 Try.ntmps28 rfl S true [(0, .int .i64 x0), (1, .int .i64 x1)] [] rfl ⟨rfl, ⟨rfl, trivial⟩⟩ hS trivial ?_
  unfold ref_Rest_m at hm
  refine GL.seq ?_
  refine GL.region ?_
  refine RL.asg rfl rfl rfl ?_
  refine RL.finG ?_
  refine GL.seq ?_
  refine GL.region ?_
  refine RL.mv rfl rfl rfl ?_
  refine RL.mv rfl rfl rfl ?_
  obtain ⟨y5, e6, hm⟩ := bind_some hm
  replace e6 := chk_some e6
  refine RL.rem rfl rfl rfl rfl e6 ?_
  refine RL.asg rfl rfl rfl ?_
  refine RL.finG ?_
  refine GL.seq ?_
  refine GL.seq ?_
  refine GL.region ?_
  refine RL.mv rfl rfl rfl ?_
  refine RL.binI (v := .bool (decide ((Int.tmod x0 x1) < (0 : Int)))) rfl rfl rfl rfl rfl ?_
  refine RL.finG ?_
  obtain ⟨y9, K10, h11, h12, h13, h14, h15⟩ := bindR_K hm
  refine GL.join (ι := Int) (fun (p : Int) => [(0, .int .i64 p)]) (fun (p : Int) => []) (fun (p : Int) => K10 (.nx p)) ?_ ?_
  · skip
    refine GL.cond rfl (fun b16 => ?_) (fun b16 => ?_)
    · replace h11 := ite_t b16 h11
      refine GL.region ?_
      refine RL.mv rfl rfl rfl ?_
      refine RL.mv rfl rfl rfl ?_
      refine RL.binI (v := .int .i64 (wadd (Int.tmod x0 x1) x1)) rfl rfl rfl rfl rfl ?_
      refine RL.asg rfl rfl rfl ?_
      refine RL.finG ?_
      cases h11
      exact fun a w st => mid_intro (wadd (Int.tmod x0 x1) x1) h12 (St.cut [] ⟨rfl, trivial⟩ (by decide) rfl st)
    · replace h11 := ite_f b16 h11
      refine GL.skip ?_
      cases h11
      exact fun a w st => mid_intro (Int.tmod x0 x1) h12 (St.cut [] ⟨rfl, trivial⟩ (by decide) rfl st)
  · rintro x8 h17
    have h18 := h13 _ h17
    try dsimp only at h18
    refine GL.weak (env' := [(0, .int .i64 x8)]) (L' := []) (fun _ _ st => st) ?_
    refine GL.seq ?_
    refine GL.region ?_
    refine RL.mv rfl rfl rfl ?_
    refine RL.asg rfl rfl rfl ?_
    refine RL.finG ?_
    have h18 := Option.some.inj h18
    subst h18
    exact GL.ret (Gx.ret (v := .int .i64 x8) (res1 rfl rfl) (fun a w st => st.toPostC rfl))

set_option maxHeartbeats 4000000 in
theorem pk_Within_c (S : Hp) (w : World) (hS : S.sub w) (x0 : Int) (x1 : Int) (res : Int) (hm : pk_Within_m x0 x1 = some res) : Calls Try.prog 14 #[.int .i64 x0, .int .i64 x1] w (PostC w (.int .i64 res)) := by
  refine calls_enter 8 Try.func14 Try.ntmps14 rfl S true [(0, .int .i64 x0), (1, .int .i64 x1)] [] rfl ⟨rfl, ⟨rfl, trivial⟩⟩ hS trivial ?_
  unfold pk_Within_m at hm
  refine GL.seq ?_
  refine GL.region ?_
  refine RL.asg rfl rfl rfl ?_
  refine RL.finG ?_
  refine GL.seq ?_
  refine GL.region ?_
  refine RL.mv rfl rfl rfl ?_
  refine RL.mv rfl rfl rfl ?_
  obtain ⟨y5, e6, hm⟩ := bind_some hm
  refine RL.callC (v := .int .i64 y5) (vs := [.int .i64 x0, .int .i64 x1]) Try_fit28 rfl rfl rfl rfl (fun U w hU hW hL => ref_Rest_c U w hU x0 x1 _ e6) ?_
  refine RL.asg rfl rfl rfl ?_
  refine RL.finG ?_
  have hm := Option.some.inj hm
  subst hm
  exact GL.ret (Gx.ret (v := .int .i64 y5) (res1 rfl rfl) (fun a w st => st.toPostC rfl))

set_option maxHeartbeats 4000000 in
theorem pk_PilesOf_c (S : Hp) (w : World) (hS : S.sub w) (v0 : Value) (x0 : (List Int)) (k0 : ((TR.sl TR.int)).vrep S v0 x0) (res : (List Int)) (hm : pk_PilesOf_m x0 = some res) : Calls Try.prog 18 #[v0] w (Post w S (fun (o : Value) => o) (fun (o : Value) => [own 3 TR.int o res])) := by
  refine calls_enter 23 Try.func18 Try.ntmps18 rfl S false [(0, v0)] [imm (TR.sl TR.int) v0 x0] rfl ⟨rfl, trivial⟩ hS ⟨k0, trivial⟩ ?_
  unfold pk_PilesOf_m at hm
  refine GL.seq ?_
  refine GL.region ?_
  refine RL.asg rfl rfl rfl ?_
  refine RL.finG ?_
  refine GL.seq ?_
  refine GL.region ?_
  refine RL.asg rfl rfl rfl ?_
  refine RL.finG ?_
  refine GL.seq ?_
  refine GL.seq ?_
  refine GL.region ?_
  refine RL.mv rfl rfl rfl ?_
  refine RL.mv rfl rfl rfl ?_
  refine RL.lenS 0 Try.underlying27 rfl rfl rfl rfl SlOf.imm ?_
  refine RL.minI rfl rfl rfl rfl ?_
  obtain ⟨y5, e6, hm⟩ := bind_some hm
  replace e6 := chk_some e6
  refine RL.slc (t := TR.int) (i := 0) (j := (if (6 : Int) < ((x0).length : Int) then (6 : Int) else ((x0).length : Int)).toNat) (sz := 1) 0 Try.underlying27 Try_ln3 rfl rfl rfl rfl (Or.inl ⟨rfl, rfl⟩) (Or.inr ⟨_, _, rfl, by rw [Int.toNat_of_nonneg (by omega)]; rfl⟩) rfl (by omega) (by omega) ?_
  intro v7
  refine RL.lenS 1 Try.underlying27 rfl rfl rfl rfl SlOf.imm ?_
  refine RL.mv rfl rfl rfl ?_
  refine RL.finG ?_
  refine GL.weak (fun a w st => st.nilOwn 3 TR.int) ?_
  refine GL.open_ 1 rfl (fun S h => len_imm S h) (fun n26 => ?_)
  obtain ⟨y27, K28, h29, h30, h31, h32, h33⟩ := bindR_K hm
  refine GL.join (ι := (List Int) × Value) (fun (p : (List Int) × Value) => [(3, p.2)]) (fun (p : (List Int) × Value) => [own 3 TR.int p.2 p.1]) (fun (p : (List Int) × Value) => K28 (.nx p.1)) ?_ ?_
  · refine GL.block ?_
    refine GL.loop (ι := Nat × (List Int) × (List Int) × Value) (fun (p : Nat × (List Int) × (List Int) × Value) => [(3, p.2.2.2), (10, v7), (11, .int .i64 ((((List.take ((if (6 : Int) < ((x0).length : Int) then (6 : Int) else ((x0).length : Int)).toNat) x0).drop 0)).length : Int)), (12, .int .i64 (p.1 : Int))]) (fun (p : Nat × (List Int) × (List Int) × Value) => [own 3 TR.int p.2.2.2 p.2.2.1, imm (TR.sl TR.int) v7 ((List.take ((if (6 : Int) < ((x0).length : Int) then (6 : Int) else ((x0).length : Int)).toNat) x0).drop 0)]) (fun (p : Nat × (List Int) × (List Int) × Value) => p.1 + p.2.1.length = (((List.take ((if (6 : Int) < ((x0).length : Int) then (6 : Int) else ((x0).length : Int)).toNat) x0).drop 0)).length ∧ List.drop p.1 ((List.take ((if (6 : Int) < ((x0).length : Int) then (6 : Int) else ((x0).length : Int)).toNat) x0).drop 0) = p.2.1 ∧ rangeL pk_PilesOf_b1 p.2.1 p.1 p.2.2.1 = some y27) (fun (p : Nat × (List Int) × (List Int) × Value) => p.2.1.length) (0, ((List.take ((if (6 : Int) < ((x0).length : Int) then (6 : Int) else ((x0).length : Int)).toNat) x0).drop 0), [], Value.slice none 0 0) ⟨by simp, by simp, h29⟩ (fun a w st => St.cut [2, 1] ⟨rfl, rfl, rfl, rfl, trivial⟩ (by decide) rfl st) ?_
    rintro ⟨i34, r35, l8, v9⟩ ⟨h40, h41, h39⟩
    try dsimp only at h40 h41 h39
    refine GL.weak (env' := [(3, v9), (10, v7), (11, .int .i64 ((((List.take ((if (6 : Int) < ((x0).length : Int) then (6 : Int) else ((x0).length : Int)).toNat) x0).drop 0)).length : Int)), (12, .int .i64 (i34 : Int))]) (L' := [own 3 TR.int v9 l8, imm (TR.sl TR.int) v7 ((List.take ((if (6 : Int) < ((x0).length : Int) then (6 : Int) else ((x0).length : Int)).toNat) x0).drop 0)]) (fun _ _ st => st) ?_
    refine GL.seq ?_
    refine GL.region ?_
    refine RL.binI (v := .bool (decide ((i34 : Int) < ((((List.take ((if (6 : Int) < ((x0).length : Int) then (6 : Int) else ((x0).length : Int)).toNat) x0).drop 0)).length : Int)))) rfl rfl rfl rfl rfl ?_
    refine RL.finG ?_
    refine GL.seq ?_
    refine GL.cond rfl (fun b42 => ?_) (fun b42 => ?_)
    · have h43 : i34 < (((List.take ((if (6 : Int) < ((x0).length : Int) then (6 : Int) else ((x0).length : Int)).toNat) x0).drop 0)).length := by have := of_decide_eq_true b42; omega
      obtain ⟨y44, r46, hr, e45, h47⟩ := drop_cons h41 rfl h43
      subst hr
      obtain ⟨z36, h37, h38⟩ := rangeL_some h39
      unfold pk_PilesOf_b1 at h37
      try dsimp only at h37
      refine GL.skip ?_
      refine GL.seq ?_
      refine GL.block ?_
      refine GL.seq ?_
      refine GL.region ?_
      refine RL.idxS (sz := 1) 1 Try.underlying27 Try_ln3 rfl rfl rfl rfl rfl SlOf.imm (by omega) (by omega) ?_
      refine RL.ldSx (i := i34) (e' := y44) 1 Ex.ik Try_ln3 rfl rfl rfl rfl SlOf.imm e45 Part.self ?_
      refine RL.asg rfl rfl rfl ?_
      refine RL.finG ?_
      refine GL.region ?_
      refine RL.mv rfl rfl rfl ?_
      refine RL.mv rfl rfl rfl ?_
      obtain ⟨y54, e55, h37⟩ := bind_some h37
      refine RL.callC (v := .int .i64 y54) (vs := [.int .i64 y44, .int .i64 (41 : Int)]) Try_fit14 rfl rfl rfl rfl (fun U w hU hW hL => pk_Within_c U w hU y44 (41 : Int) _ e55) ?_
      refine RL.bS (t := TR.int) (vs := [.int .i64 y54]) ([y54] : (List Int)) Try.underlying27 Try_lo3 rfl rfl rfl rfl ⟨VR.int, trivial⟩ rfl (by decide) ?_
      intro v56
      obtain ⟨y57, e58, h37⟩ := bind_some h37
      replace e58 := chk_some e58
      refine RL.app 0 2 Try.underlying27 Try_lo3 rfl rfl rfl rfl rfl rfl rfl SlOf.own e58 ?_
      intro v59
      refine RL.asg rfl rfl rfl ?_
      refine RL.finG ?_
      refine GL.nilB ?_
      refine GL.region ?_
      refine RL.binI (v := .int .i64 ((i34 + 1 : Nat) : Int)) rfl rfl rfl rfl (binI_succ i34 (by omega)) ?_
      refine RL.mv rfl rfl rfl ?_
      refine RL.fin ?_
      cases h37
      exact fun a w st => lop_intro (i34 + 1, r46, (l8 ++ ([y54] : (List Int))), v59) ⟨by show i34 + 1 + r46.length = (((List.take ((if (6 : Int) < ((x0).length : Int) then (6 : Int) else ((x0).length : Int)).toNat) x0).drop 0)).length; simp only [List.length_cons] at h40; omega, h47, h38⟩ (by simp) (St.cut [0, 1] ⟨rfl, rfl, rfl, rfl, trivial⟩ (by decide) rfl st)
    · have h43 : ¬ i34 < (((List.take ((if (6 : Int) < ((x0).length : Int) then (6 : Int) else ((x0).length : Int)).toNat) x0).drop 0)).length := by have := of_decide_eq_false b42; omega
      obtain rfl : r35 = [] := by rw [← h41]; exact List.drop_of_length_le (by omega)
      replace h39 : some (Fl.nx _) = some y27 := h39
      cases h39
      exact GL.exit (fun a w st => mid_intro (l8, v9) h30 (St.cut [0] ⟨rfl, trivial⟩ (by decide) rfl st))
  · rintro ⟨l8, v9⟩ h60
    have h61 := h31 _ h60
    try dsimp only at h61
    refine GL.weak (env' := [(3, v9)]) (L' := [own 3 TR.int v9 l8]) (fun _ _ st => st) ?_
    refine GL.seq ?_
    refine GL.region ?_
    refine RL.mv rfl rfl rfl ?_
    refine RL.asg rfl rfl rfl ?_
    refine RL.finG ?_
    have h61 := Option.some.inj h61
    subst h61
    exact GL.ret (Gx.ret (v := v9) (res1 rfl rfl) (fun a w st => (st.pick [0] (by decide) rfl).toPost v9))

set_option maxHeartbeats 4000000 in
theorem slices_Clone_int_int_c (S : Hp) (w : World) (hS : S.sub w) (v0 : Value) (x0 : List Int) (k0 : (TR.sl TR.int).vrep S v0 x0) (res : List Int) (hm : slices_Clone_int_int_m x0 = some res) : Calls Try.prog 21 #[v0] w (Post w S (fun (o : Value) => o) (fun (o : Value) => [own 3 TR.int o res])) := by
  refine calls_enter 8 Try.func21 Try.ntmps21 rfl S false [(0, v0)] [imm (TR.sl TR.int) v0 x0] rfl ⟨rfl, trivial⟩ hS ⟨k0, trivial⟩ ?_
  unfold slices_Clone_int_int_m at hm
  obtain ⟨_, hc, hm⟩ := bind_some hm
  replace hc := chk_some hc
  have hm := Option.some.inj hm
  subst hm
  refine GL.seq (GL.region (RL.asg rfl rfl rfl (RL.finG (GL.seq (GL.seq (GL.region ?_))))))
  refine RL.mv rfl rfl rfl ?_
  refine RL.eqNil 0 Try.underlying27 rfl rfl rfl rfl rfl SlOf.imm (fun b hb => ?_)
  refine RL.finG (GL.cond rfl (fun h => ?_) (fun h => ?_))
  · have := hb h
    subst this
    refine GL.seq (GL.region (RL.asg rfl rfl rfl (RL.finG ?_)))
    refine GL.weak (fun a w st => st.nilOwn 3 TR.int) ?_
    exact GL.ret (Gx.ret (v := Value.slice none 0 0) (res1 rfl rfl) (fun a w st => (st.pick [1] (by decide) rfl).toPost (Value.slice none 0 0)))
  · refine GL.skip (GL.seq (GL.region ?_))
    refine RL.bS (t := TR.int) (vs := []) ([] : List Int) Try.underlying27 Try_lo3 rfl rfl rfl rfl trivial rfl (by decide) ?_
    intro v1
    refine RL.mv rfl rfl rfl ?_
    refine RL.app 1 0 Try.underlying27 Try_lo3 rfl rfl rfl rfl rfl rfl rfl SlOf.imm (by simpa using hc) ?_
    intro v2
    refine RL.asg rfl rfl rfl (RL.finG ?_)
    exact GL.ret (Gx.ret (v := v2) (res1 rfl rfl) (fun a w st => (st.pick [1] (by decide) rfl).toPost v2))

set_option maxHeartbeats 4000000 in
theorem pk_PilesBouton_c (S : Hp) (w : World) (hS : S.sub w) (v0 : Value) (x0 : (List Int)) (k0 : ((TR.sl TR.int)).vrep S v0 x0) (res : Bool) (hm : pk_PilesBouton_m x0 = some res) : Calls Try.prog 4 #[v0] w (PostV w (.bool res)) := by
  refine calls_enter 116 Try.func4 Try.ntmps4 rfl S false [(0, v0)] [imm (TR.sl TR.int) v0 x0] rfl ⟨rfl, trivial⟩ hS ⟨k0, trivial⟩ ?_
  unfold pk_PilesBouton_m at hm
  refine GL.seq ?_
  refine GL.region ?_
  refine RL.asg rfl rfl rfl ?_
  refine RL.finG ?_
  refine GL.seq ?_
  refine GL.seq ?_
  refine GL.region ?_
  obtain ⟨y4, e5, hm⟩ := bind_some hm
  refine RL.callV (v := .bool y4) (vs := []) Try_fit17 rfl (Or.inl rfl) rfl rfl rfl rfl (fun U w hU hW hL => pk_nims_c U w hU  _ e5) ?_
  refine RL.notB rfl rfl rfl ?_
  refine RL.finG ?_
  refine GL.cond rfl (fun b6 => ?_) (fun b6 => ?_)
  · replace hm := ite_t b6 hm
    refine GL.seq ?_
    refine GL.region ?_
    refine RL.asg rfl rfl rfl ?_
    refine RL.finG ?_
    have hm := Option.some.inj hm
    subst hm
    exact GL.ret (Gx.ret (v := .bool false) (res1 rfl rfl) (fun a w st => st.toPostV))
  · replace hm := ite_f b6 hm
    refine GL.skip ?_
    refine GL.seq ?_
    refine GL.region ?_
    refine RL.mv rfl rfl rfl ?_
    obtain ⟨y10, e11, hm⟩ := bind_some hm
    refine RL.call (vs := [v0]) Try_fit18 rfl rfl rfl rfl rfl (fun S f w hS hW hi => pk_PilesOf_c S w hS _ _ (hi 0 _ rfl) _ e11) ?_
    intro v12
    refine RL.asg rfl rfl rfl ?_
    refine RL.finG ?_
    refine GL.seq ?_
    refine GL.region ?_
    refine RL.mv rfl rfl rfl ?_
    obtain ⟨y15, e16, hm⟩ := bind_some hm
    refine RL.callC (v := .tuple #[.bool y15.1, .int .i64 y15.2]) (vs := [v12]) Try_fit19 rfl rfl rfl rfl (fun U w hU hW hL => piles_Wins_c U w hU _ _ (hL 1 _ _ rfl Seen.own) _ e16) ?_
    refine RL.mv rfl rfl rfl ?_
    refine RL.ext rfl rfl rfl rfl ?_
    refine RL.ext rfl rfl rfl rfl ?_
    refine RL.asg rfl rfl rfl ?_
    refine RL.asg rfl rfl rfl ?_
    refine RL.finG ?_
    refine GL.seq ?_
    refine GL.region ?_
    refine RL.mv rfl rfl rfl ?_
    obtain ⟨y19, e20, hm⟩ := bind_some hm
    refine RL.callC (v := .tuple #[.int .i64 y19.1, .int .i64 y19.2.1, .int .i64 y19.2.2]) (vs := [v12]) Try_fit20 rfl rfl rfl rfl (fun U w hU hW hL => piles_Move_c U w hU _ _ (hL 1 _ _ rfl Seen.own) _ e20) ?_
    refine RL.mv rfl rfl rfl ?_
    refine RL.ext rfl rfl rfl rfl ?_
    refine RL.ext rfl rfl rfl rfl ?_
    refine RL.ext rfl rfl rfl rfl ?_
    refine RL.asg rfl rfl rfl ?_
    refine RL.asg rfl rfl rfl ?_
    refine RL.asg rfl rfl rfl ?_
    refine RL.finG ?_
    refine GL.seq ?_
    refine GL.seq ?_
    obtain ⟨y24, K25, h26, h27, h28, h29, h30⟩ := bindR_K hm
    refine GL.join (ι := Bool) (fun (p : Bool) => [(3, v12), (4, .bool y15.1), (6, .int .i64 y19.1), (7, .int .i64 y19.2.1), (8, .int .i64 y19.2.2), (37, .bool p)]) (fun (p : Bool) => [own 3 TR.int v12 y10]) (fun (p : Bool) => K25 (.nx p)) ?_ ?_
    · skip
      refine GL.region ?_
      refine RL.mv rfl rfl rfl ?_
      refine RL.binI (v := .bool (y15.2 != (0 : Int))) rfl rfl rfl rfl rfl ?_
      refine RL.mv rfl rfl rfl ?_
      refine RL.split (t := 32) rfl (fun b31 => ?_) (fun b31 => ?_)
      · replace h26 := ite_t b31 h26
        refine RL.skip rfl rfl ?_
        refine RL.skip rfl rfl ?_
        refine RL.skip rfl rfl ?_
        refine RL.skip rfl rfl ?_
        refine RL.pickT rfl rfl rfl rfl ?_
        refine RL.fin ?_
        cases h26
        exact fun a w st => mid_intro true h27 (St.cut [1] ⟨rfl, rfl, rfl, rfl, rfl, rfl, trivial⟩ (by decide) rfl st)
      · replace h26 := ite_f b31 h26
        refine RL.mv rfl rfl rfl ?_
        refine RL.mv rfl rfl rfl ?_
        refine RL.binI (v := .bool (y19.2.2 == (0 : Int))) rfl rfl rfl rfl rfl ?_
        refine RL.neB Try.underlying4 rfl rfl rfl rfl ?_
        refine RL.pickF rfl rfl rfl rfl ?_
        refine RL.fin ?_
        cases h26
        exact fun a w st => mid_intro (!(y15.1 == (y19.2.2 == (0 : Int)))) h27 (St.cut [1] ⟨rfl, rfl, rfl, rfl, rfl, rfl, trivial⟩ (by decide) rfl st)
    · rintro x23 h32
      have h33 := h28 _ h32
      try dsimp only at h33
      refine GL.weak (env' := [(3, v12), (4, .bool y15.1), (6, .int .i64 y19.1), (7, .int .i64 y19.2.1), (8, .int .i64 y19.2.2), (37, .bool x23)]) (L' := [own 3 TR.int v12 y10]) (fun _ _ st => st) ?_
      refine GL.cond rfl (fun b34 => ?_) (fun b34 => ?_)
      · replace h33 := ite_t b34 h33
        refine GL.seq ?_
        refine GL.region ?_
        refine RL.asg rfl rfl rfl ?_
        refine RL.finG ?_
        have h33 := Option.some.inj h33
        subst h33
        exact GL.ret (Gx.ret (v := .bool false) (res1 rfl rfl) (fun a w st => st.toPostV))
      · replace h33 := ite_f b34 h33
        refine GL.skip ?_
        refine GL.seq ?_
        refine GL.seq ?_
        refine GL.region ?_
        refine RL.mv rfl rfl rfl ?_
        refine RL.lenS 0 Try.underlying27 rfl rfl rfl rfl SlOf.own ?_
        refine RL.mv rfl rfl rfl ?_
        refine RL.finG ?_
        refine GL.weak (fun a w st => st.freeze 0 rfl) ?_
        refine GL.open_ 0 rfl (fun S h => len_imm S h) (fun n367 => ?_)
        obtain ⟨y368, K369, h370, h371, h372, h373, h374⟩ := bindR_K h33
        refine GL.join (ι := Unit) (fun (p : Unit) => [(3, v12), (4, .bool y15.1), (6, .int .i64 y19.1), (7, .int .i64 y19.2.1)]) (fun (p : Unit) => [imm (TR.sl TR.int) v12 y10]) (fun (p : Unit) => K369 (.nx ())) ?_ ?_
        · refine GL.block ?_
          refine GL.loop (ι := Nat × (List Int)) (fun (p : Nat × (List Int)) => [(3, v12), (4, .bool y15.1), (6, .int .i64 y19.1), (7, .int .i64 y19.2.1), (8, .int .i64 y19.2.2), (38, v12), (39, .int .i64 ((y10).length : Int)), (40, .int .i64 (p.1 : Int))]) (fun (p : Nat × (List Int)) => [imm (TR.sl TR.int) v12 y10]) (fun (p : Nat × (List Int)) => p.1 + p.2.length = (y10).length ∧ List.drop p.1 y10 = p.2 ∧ rangeL (pk_PilesBouton_b1 y10 y15 y19) p.2 p.1 () = some y368) (fun (p : Nat × (List Int)) => p.2.length) (0, y10) ⟨by simp, by simp, h370⟩ (fun a w st => St.cut [0] ⟨rfl, rfl, rfl, rfl, rfl, rfl, rfl, rfl, trivial⟩ (by decide) rfl st) ?_
          rintro ⟨i375, r376⟩ ⟨h381, h382, h380⟩
          try dsimp only at h381 h382 h380
          refine GL.weak (env' := [(3, v12), (4, .bool y15.1), (6, .int .i64 y19.1), (7, .int .i64 y19.2.1), (8, .int .i64 y19.2.2), (38, v12), (39, .int .i64 ((y10).length : Int)), (40, .int .i64 (i375 : Int))]) (L' := [imm (TR.sl TR.int) v12 y10]) (fun _ _ st => st) ?_
          refine GL.seq ?_
          refine GL.region ?_
          refine RL.binI (v := .bool (decide ((i375 : Int) < ((y10).length : Int)))) rfl rfl rfl rfl rfl ?_
          refine RL.finG ?_
          refine GL.seq ?_
          refine GL.cond rfl (fun b383 => ?_) (fun b383 => ?_)
          · have h384 : i375 < (y10).length := by have := of_decide_eq_true b383; omega
            obtain ⟨y385, r387, hr, e386, h388⟩ := drop_cons h382 rfl h384
            subst hr
            obtain ⟨z377, h378, h379⟩ := rangeL_some h380
            unfold pk_PilesBouton_b1 at h378
            try dsimp only at h378
            refine GL.skip ?_
            refine GL.seq ?_
            refine GL.block ?_
            refine GL.seq ?_
            refine GL.region ?_
            refine RL.mv rfl rfl rfl ?_
            refine RL.idxS (sz := 1) 0 Try.underlying27 Try_ln3 rfl rfl rfl rfl rfl SlOf.imm (by omega) (by omega) ?_
            refine RL.ldSx (i := i375) (e' := y385) 0 Ex.ik Try_ln3 rfl rfl rfl rfl SlOf.imm e386 Part.self ?_
            refine RL.asg rfl rfl rfl ?_
            refine RL.asg rfl rfl rfl ?_
            refine RL.finG ?_
            refine GL.seq ?_
            refine GL.region ?_
            refine RL.asg rfl rfl rfl ?_
            refine RL.finG ?_
            obtain ⟨y447, K448, h449, h450, h451, h452, h453⟩ := bindF_K h378
            refine GL.join (ι := Int) (fun (p : Int) => [(3, v12), (4, .bool y15.1), (6, .int .i64 y19.1), (7, .int .i64 y19.2.1), (8, .int .i64 y19.2.2), (38, v12), (39, .int .i64 ((y10).length : Int)), (40, .int .i64 (i375 : Int))]) (fun (p : Int) => [imm (TR.sl TR.int) v12 y10]) (fun (p : Int) => K448 (.nx p)) ?_ ?_
            · refine GL.block ?_
              refine GL.loop (ι := Nat × Int) (fun (p : Nat × Int) => [(3, v12), (4, .bool y15.1), (6, .int .i64 y19.1), (7, .int .i64 y19.2.1), (8, .int .i64 y19.2.2), (9, .int .i64 (i375 : Int)), (10, .int .i64 y385), (11, .int .i64 p.2), (38, v12), (39, .int .i64 ((y10).length : Int)), (40, .int .i64 (i375 : Int))]) (fun (p : Nat × Int) => [imm (TR.sl TR.int) v12 y10]) (fun (p : Nat × Int) => loopM (pk_PilesBouton_b2 y385 y10 i375 y15 y19) p.1 p.2 = some y447) (fun (p : Nat × Int) => p.1) (1048576, (1 : Int)) h449 (fun a w st => St.cut [0] ⟨rfl, rfl, rfl, rfl, rfl, rfl, rfl, rfl, rfl, rfl, rfl, trivial⟩ (by decide) rfl st) ?_
              rintro ⟨r455, x389⟩ h459
              try dsimp only at h459
              refine GL.weak (env' := [(3, v12), (4, .bool y15.1), (6, .int .i64 y19.1), (7, .int .i64 y19.2.1), (8, .int .i64 y19.2.2), (9, .int .i64 (i375 : Int)), (10, .int .i64 y385), (11, .int .i64 x389), (38, v12), (39, .int .i64 ((y10).length : Int)), (40, .int .i64 (i375 : Int))]) (L' := [imm (TR.sl TR.int) v12 y10]) (fun _ _ st => st) ?_
              obtain ⟨r462, z456, hr, h457, h458⟩ := loopM_some h459
              subst hr
              unfold pk_PilesBouton_b2 at h457
              try dsimp only at h457
              refine GL.seq ?_
              refine GL.seq ?_
              refine GL.region ?_
              refine RL.mv rfl rfl rfl ?_
              refine RL.mv rfl rfl rfl ?_
              refine RL.binI (v := .bool (decide (x389 ≤ y385))) rfl rfl rfl rfl rfl ?_
              refine RL.finG ?_
              refine GL.cond rfl (fun b463 => ?_) (fun b463 => ?_)
              · replace h457 := ite_t b463 h457
                refine GL.skip ?_
                refine GL.seq ?_
                refine GL.block ?_
                refine GL.seq ?_
                refine GL.region ?_
                refine RL.mv rfl rfl rfl ?_
                obtain ⟨y467, e468, h457⟩ := bind_some h457
                refine RL.call (vs := [v12]) Try_fit21 rfl rfl rfl rfl rfl (fun S f w hS hW hi => slices_Clone_int_int_c S w hS _ _ (hi 0 _ rfl) _ e468) ?_
                intro v469
                refine RL.asg rfl rfl rfl ?_
                refine RL.finG ?_
                refine GL.seq ?_
                refine GL.region ?_
                refine RL.mv rfl rfl rfl ?_
                refine RL.mv rfl rfl rfl ?_
                obtain ⟨y474, e475, h457⟩ := bind_some h457
                refine RL.idxS (sz := 1) 1 Try.underlying27 Try_ln3 rfl rfl rfl rfl rfl SlOf.own (idx_some e475).1 (idx_some e475).2.1 ?_
                refine RL.ldSx (i := i375) (e' := y474) 1 Ex.ik Try_ln3 rfl rfl rfl rfl SlOf.own (idx_some e475).2.2 Part.self ?_
                refine RL.mv rfl rfl rfl ?_
                refine RL.binI (v := .int .i64 (wsub y474 x389)) rfl rfl rfl rfl rfl ?_
                obtain ⟨y476, e477, h457⟩ := bind_some h457
                refine RL.idxS (sz := 1) 1 Try.underlying27 Try_ln3 rfl rfl rfl rfl rfl SlOf.own (idx_some e477).1 (idx_some e477).2.1 ?_
                refine RL.stS (i := i375) (e' := wsub y474 x389) (e1 := wsub y474 x389) (r := TR.int) 1 Try_ln3 rfl rfl rfl rfl VR.int rfl (idx_some e477).2.2 Upd.self ?_
                refine RL.finG ?_
                refine GL.seq ?_
                refine GL.region ?_
                refine RL.mv rfl rfl rfl ?_
                obtain ⟨y480, e481, h457⟩ := bind_some h457
                refine RL.callC (v := .tuple #[.bool y480.1, .int .i64 y480.2]) (vs := [v469]) Try_fit19 rfl rfl rfl rfl (fun U w hU hW hL => piles_Wins_c U w hU _ _ (hL 1 _ _ rfl Seen.own) _ e481) ?_
                refine RL.mv rfl rfl rfl ?_
                refine RL.ext rfl rfl rfl rfl ?_
                refine RL.ext rfl rfl rfl rfl ?_
                refine RL.asg rfl rfl rfl ?_
                refine RL.asg rfl rfl rfl ?_
                refine RL.finG ?_
                refine GL.seq ?_
                obtain ⟨y501, K502, h503, h504, h505, h506, h507⟩ := bindF_K h457
                refine GL.join (ι := Bool) (fun (p : Bool) => [(3, v12), (4, .bool y15.1), (6, .int .i64 y19.1), (7, .int .i64 y19.2.1), (8, .int .i64 y19.2.2), (9, .int .i64 (i375 : Int)), (10, .int .i64 y385), (11, .int .i64 x389), (38, v12), (39, .int .i64 ((y10).length : Int)), (40, .int .i64 (i375 : Int)), (90, .bool p)]) (fun (p : Bool) => [imm (TR.sl TR.int) v12 y10]) (fun (p : Bool) => K502 (.nx p)) ?_ ?_
                · skip
                  refine GL.region ?_
                  refine RL.mv rfl rfl rfl ?_
                  refine RL.binI (v := .bool (y480.2 != (0 : Int))) rfl rfl rfl rfl rfl ?_
                  refine RL.mv rfl rfl rfl ?_
                  refine RL.split (t := 66) rfl (fun b508 => ?_) (fun b508 => ?_)
                  · replace h503 := ite_t b508 h503
                    refine RL.skip rfl rfl ?_
                    refine RL.skip rfl rfl ?_
                    refine RL.skip rfl rfl ?_
                    refine RL.skip rfl rfl ?_
                    refine RL.skip rfl rfl ?_
                    refine RL.skip rfl rfl ?_
                    refine RL.pickT rfl rfl rfl rfl ?_
                    refine RL.mv rfl rfl rfl ?_
                    refine RL.skip rfl rfl ?_
                    refine RL.skip rfl rfl ?_
                    refine RL.skip rfl rfl ?_
                    refine RL.skip rfl rfl ?_
                    refine RL.skip rfl rfl ?_
                    refine RL.skip rfl rfl ?_
                    refine RL.skip rfl rfl ?_
                    refine RL.skip rfl rfl ?_
                    refine RL.skip rfl rfl ?_
                    refine RL.skip rfl rfl ?_
                    refine RL.skip rfl rfl ?_
                    refine RL.skip rfl rfl ?_
                    refine RL.skip rfl rfl ?_
                    refine RL.skip rfl rfl ?_
                    refine RL.skip rfl rfl ?_
                    refine RL.pickT rfl rfl rfl rfl ?_
                    refine RL.fin ?_
                    cases h503
                    exact fun a w st => mid_intro true h504 (St.cut [0] ⟨rfl, rfl, rfl, rfl, rfl, rfl, rfl, rfl, rfl, rfl, rfl, rfl, trivial⟩ (by decide) rfl st)
                  · replace h503 := ite_f b508 h503
                    refine RL.mv rfl rfl rfl ?_
                    refine RL.notB rfl rfl rfl ?_
                    refine RL.mv rfl rfl rfl ?_
                    refine RL.split (t := 69) rfl (fun b509 => ?_) (fun b509 => ?_)
                    · replace h503 := ite_t b509 h503
                      refine RL.mv rfl rfl rfl ?_
                      refine RL.notB rfl rfl rfl ?_
                      refine RL.pickT rfl rfl rfl rfl ?_
                      refine RL.pickF rfl rfl rfl rfl ?_
                      refine RL.mv rfl rfl rfl ?_
                      refine RL.split (t := 74) rfl (fun b510 => ?_) (fun b510 => ?_)
                      · replace h503 := ite_t b510 h503
                        refine RL.skip rfl rfl ?_
                        refine RL.skip rfl rfl ?_
                        refine RL.skip rfl rfl ?_
                        refine RL.skip rfl rfl ?_
                        refine RL.skip rfl rfl ?_
                        refine RL.skip rfl rfl ?_
                        refine RL.skip rfl rfl ?_
                        refine RL.skip rfl rfl ?_
                        refine RL.skip rfl rfl ?_
                        refine RL.skip rfl rfl ?_
                        refine RL.skip rfl rfl ?_
                        refine RL.skip rfl rfl ?_
                        refine RL.skip rfl rfl ?_
                        refine RL.skip rfl rfl ?_
                        refine RL.skip rfl rfl ?_
                        refine RL.pickT rfl rfl rfl rfl ?_
                        refine RL.fin ?_
                        cases h503
                        exact fun a w st => mid_intro true h504 (St.cut [0] ⟨rfl, rfl, rfl, rfl, rfl, rfl, rfl, rfl, rfl, rfl, rfl, rfl, trivial⟩ (by decide) rfl st)
                      · replace h503 := ite_f b510 h503
                        refine RL.mv rfl rfl rfl ?_
                        refine RL.binI (v := .bool (y19.2.2 == (0 : Int))) rfl rfl rfl rfl rfl ?_
                        refine RL.mv rfl rfl rfl ?_
                        refine RL.split (t := 77) rfl (fun b511 => ?_) (fun b511 => ?_)
                        · replace h503 := ite_t b511 h503
                          refine RL.mv rfl rfl rfl ?_
                          refine RL.mv rfl rfl rfl ?_
                          refine RL.binI (v := .bool ((i375 : Int) == y19.1)) rfl rfl rfl rfl rfl ?_
                          refine RL.pickT rfl rfl rfl rfl ?_
                          refine RL.mv rfl rfl rfl ?_
                          refine RL.split (t := 82) rfl (fun b512 => ?_) (fun b512 => ?_)
                          · replace h503 := ite_t b512 h503
                            refine RL.mv rfl rfl rfl ?_
                            refine RL.mv rfl rfl rfl ?_
                            refine RL.binI (v := .bool (x389 == y19.2.1)) rfl rfl rfl rfl rfl ?_
                            refine RL.pickT rfl rfl rfl rfl ?_
                            refine RL.mv rfl rfl rfl ?_
                            refine RL.split (t := 87) rfl (fun b513 => ?_) (fun b513 => ?_)
                            · replace h503 := ite_t b513 h503
                              refine RL.mv rfl rfl rfl ?_
                              refine RL.pickT rfl rfl rfl rfl ?_
                              refine RL.pickF rfl rfl rfl rfl ?_
                              refine RL.fin ?_
                              cases h503
                              exact fun a w st => mid_intro y480.1 h504 (St.cut [0] ⟨rfl, rfl, rfl, rfl, rfl, rfl, rfl, rfl, rfl, rfl, rfl, rfl, trivial⟩ (by decide) rfl st)
                            · replace h503 := ite_f b513 h503
                              refine RL.skip rfl rfl ?_
                              refine RL.pickF rfl rfl rfl rfl ?_
                              refine RL.pickF rfl rfl rfl rfl ?_
                              refine RL.fin ?_
                              cases h503
                              exact fun a w st => mid_intro false h504 (St.cut [0] ⟨rfl, rfl, rfl, rfl, rfl, rfl, rfl, rfl, rfl, rfl, rfl, rfl, trivial⟩ (by decide) rfl st)
                          · replace h503 := ite_f b512 h503
                            refine RL.skip rfl rfl ?_
                            refine RL.skip rfl rfl ?_
                            refine RL.skip rfl rfl ?_
                            refine RL.pickF rfl rfl rfl rfl ?_
                            refine RL.mv rfl rfl rfl ?_
                            refine RL.skip rfl rfl ?_
                            refine RL.pickF rfl rfl rfl rfl ?_
                            refine RL.pickF rfl rfl rfl rfl ?_
                            refine RL.fin ?_
                            cases h503
                            exact fun a w st => mid_intro false h504 (St.cut [0] ⟨rfl, rfl, rfl, rfl, rfl, rfl, rfl, rfl, rfl, rfl, rfl, rfl, trivial⟩ (by decide) rfl st)
                        · replace h503 := ite_f b511 h503
                          refine RL.skip rfl rfl ?_
                          refine RL.skip rfl rfl ?_
                          refine RL.skip rfl rfl ?_
                          refine RL.pickF rfl rfl rfl rfl ?_
                          refine RL.mv rfl rfl rfl ?_
                          refine RL.skip rfl rfl ?_
                          refine RL.skip rfl rfl ?_
                          refine RL.skip rfl rfl ?_
                          refine RL.pickF rfl rfl rfl rfl ?_
                          refine RL.mv rfl rfl rfl ?_
                          refine RL.skip rfl rfl ?_
                          refine RL.pickF rfl rfl rfl rfl ?_
                          refine RL.pickF rfl rfl rfl rfl ?_
                          refine RL.fin ?_
                          cases h503
                          exact fun a w st => mid_intro false h504 (St.cut [0] ⟨rfl, rfl, rfl, rfl, rfl, rfl, rfl, rfl, rfl, rfl, rfl, rfl, trivial⟩ (by decide) rfl st)
                    · replace h503 := ite_f b509 h503
                      refine RL.skip rfl rfl ?_
                      refine RL.skip rfl rfl ?_
                      refine RL.pickF rfl rfl rfl rfl ?_
                      refine RL.pickF rfl rfl rfl rfl ?_
                      refine RL.mv rfl rfl rfl ?_
                      refine RL.mv rfl rfl rfl ?_
                      refine RL.binI (v := .bool (y19.2.2 == (0 : Int))) rfl rfl rfl rfl rfl ?_
                      refine RL.mv rfl rfl rfl ?_
                      refine RL.split (t := 77) rfl (fun b514 => ?_) (fun b514 => ?_)
                      · replace h503 := ite_t b514 h503
                        refine RL.mv rfl rfl rfl ?_
                        refine RL.mv rfl rfl rfl ?_
                        refine RL.binI (v := .bool ((i375 : Int) == y19.1)) rfl rfl rfl rfl rfl ?_
                        refine RL.pickT rfl rfl rfl rfl ?_
                        refine RL.mv rfl rfl rfl ?_
                        refine RL.split (t := 82) rfl (fun b515 => ?_) (fun b515 => ?_)
                        · replace h503 := ite_t b515 h503
                          refine RL.mv rfl rfl rfl ?_
                          refine RL.mv rfl rfl rfl ?_
                          refine RL.binI (v := .bool (x389 == y19.2.1)) rfl rfl rfl rfl rfl ?_
                          refine RL.pickT rfl rfl rfl rfl ?_
                          refine RL.mv rfl rfl rfl ?_
                          refine RL.split (t := 87) rfl (fun b516 => ?_) (fun b516 => ?_)
                          · replace h503 := ite_t b516 h503
                            refine RL.mv rfl rfl rfl ?_
                            refine RL.pickT rfl rfl rfl rfl ?_
                            refine RL.pickF rfl rfl rfl rfl ?_
                            refine RL.fin ?_
                            cases h503
                            exact fun a w st => mid_intro y480.1 h504 (St.cut [0] ⟨rfl, rfl, rfl, rfl, rfl, rfl, rfl, rfl, rfl, rfl, rfl, rfl, trivial⟩ (by decide) rfl st)
                          · replace h503 := ite_f b516 h503
                            refine RL.skip rfl rfl ?_
                            refine RL.pickF rfl rfl rfl rfl ?_
                            refine RL.pickF rfl rfl rfl rfl ?_
                            refine RL.fin ?_
                            cases h503
                            exact fun a w st => mid_intro false h504 (St.cut [0] ⟨rfl, rfl, rfl, rfl, rfl, rfl, rfl, rfl, rfl, rfl, rfl, rfl, trivial⟩ (by decide) rfl st)
                        · replace h503 := ite_f b515 h503
                          refine RL.skip rfl rfl ?_
                          refine RL.skip rfl rfl ?_
                          refine RL.skip rfl rfl ?_
                          refine RL.pickF rfl rfl rfl rfl ?_
                          refine RL.mv rfl rfl rfl ?_
                          refine RL.skip rfl rfl ?_
                          refine RL.pickF rfl rfl rfl rfl ?_
                          refine RL.pickF rfl rfl rfl rfl ?_
                          refine RL.fin ?_
                          cases h503
                          exact fun a w st => mid_intro false h504 (St.cut [0] ⟨rfl, rfl, rfl, rfl, rfl, rfl, rfl, rfl, rfl, rfl, rfl, rfl, trivial⟩ (by decide) rfl st)
                      · replace h503 := ite_f b514 h503
                        refine RL.skip rfl rfl ?_
                        refine RL.skip rfl rfl ?_
                        refine RL.skip rfl rfl ?_
                        refine RL.pickF rfl rfl rfl rfl ?_
                        refine RL.mv rfl rfl rfl ?_
                        refine RL.skip rfl rfl ?_
                        refine RL.skip rfl rfl ?_
                        refine RL.skip rfl rfl ?_
                        refine RL.pickF rfl rfl rfl rfl ?_
                        refine RL.mv rfl rfl rfl ?_
                        refine RL.skip rfl rfl ?_
                        refine RL.pickF rfl rfl rfl rfl ?_
                        refine RL.pickF rfl rfl rfl rfl ?_
                        refine RL.fin ?_
                        cases h503
                        exact fun a w st => mid_intro false h504 (St.cut [0] ⟨rfl, rfl, rfl, rfl, rfl, rfl, rfl, rfl, rfl, rfl, rfl, rfl, trivial⟩ (by decide) rfl st)
                · rintro x500 h517
                  have h518 := h505 _ h517
                  try dsimp only at h518
                  refine GL.weak (env' := [(3, v12), (4, .bool y15.1), (6, .int .i64 y19.1), (7, .int .i64 y19.2.1), (8, .int .i64 y19.2.2), (9, .int .i64 (i375 : Int)), (10, .int .i64 y385), (11, .int .i64 x389), (38, v12), (39, .int .i64 ((y10).length : Int)), (40, .int .i64 (i375 : Int)), (90, .bool x500)]) (L' := [imm (TR.sl TR.int) v12 y10]) (fun _ _ st => st) ?_
                  refine GL.cond rfl (fun b519 => ?_) (fun b519 => ?_)
                  · replace h518 := ite_t b519 h518
                    refine GL.seq ?_
                    refine GL.region ?_
                    refine RL.asg rfl rfl rfl ?_
                    refine RL.finG ?_
                    cases h518
                    replace h458 : some (Fl.rt _) = some y447 := h458
                    cases h458
                    have hh := h452 _ h450
                    subst hh
                    replace h379 : some (Fl.rt _) = some y368 := h379
                    cases h379
                    have hh := h373 _ h371
                    subst hh
                    exact GL.ret (Gx.ret (v := .bool false) (res1 rfl rfl) (fun a w st => st.toPostV))
                  · replace h518 := ite_f b519 h518
                    refine GL.skip ?_
                    refine GL.nilB ?_
                    refine GL.region ?_
                    refine RL.mv rfl rfl rfl ?_
                    refine RL.binI (v := .int .i64 (wadd x389 (1 : Int))) rfl rfl rfl rfl rfl ?_
                    refine RL.asg rfl rfl rfl ?_
                    refine RL.finG ?_
                    cases h518
                    exact fun a w st => lop_intro (r462, wadd x389 (1 : Int)) h458 (by simp) (St.cut [0] ⟨rfl, rfl, rfl, rfl, rfl, rfl, rfl, rfl, rfl, rfl, rfl, trivial⟩ (by decide) rfl st)
              · replace h457 := ite_f b463 h457
                cases h457
                replace h458 : some (Fl.nx _) = some y447 := h458
                cases h458
                exact GL.exit (fun a w st => mid_intro x389 h450 (St.cut [0] ⟨rfl, rfl, rfl, rfl, rfl, rfl, rfl, rfl, trivial⟩ (by decide) rfl st))
            · rintro x389 h520
              have h521 := h451 _ h520
              try dsimp only at h521
              refine GL.weak (env' := [(3, v12), (4, .bool y15.1), (6, .int .i64 y19.1), (7, .int .i64 y19.2.1), (8, .int .i64 y19.2.2), (38, v12), (39, .int .i64 ((y10).length : Int)), (40, .int .i64 (i375 : Int))]) (L' := [imm (TR.sl TR.int) v12 y10]) (fun _ _ st => st) ?_
              refine GL.nilB ?_
              refine GL.region ?_
              refine RL.binI (v := .int .i64 ((i375 + 1 : Nat) : Int)) rfl rfl rfl rfl (binI_succ i375 (by omega)) ?_
              refine RL.mv rfl rfl rfl ?_
              refine RL.fin ?_
              cases h521
              exact fun a w st => lop_intro (i375 + 1, r387) ⟨by show i375 + 1 + r387.length = (y10).length; simp only [List.length_cons] at h381; omega, h388, h379⟩ (by simp) (St.cut [0] ⟨rfl, rfl, rfl, rfl, rfl, rfl, rfl, rfl, trivial⟩ (by decide) rfl st)
          · have h384 : ¬ i375 < (y10).length := by have := of_decide_eq_false b383; omega
            obtain rfl : r376 = [] := by rw [← h382]; exact List.drop_of_length_le (by omega)
            replace h380 : some (Fl.nx _) = some y368 := h380
            cases h380
            exact GL.exit (fun a w st => mid_intro () h371 (St.cut [0] ⟨rfl, rfl, rfl, rfl, trivial⟩ (by decide) rfl st))
        · rintro ⟨⟩ h522
          have h523 := h372 _ h522
          try dsimp only at h523
          refine GL.weak (env' := [(3, v12), (4, .bool y15.1), (6, .int .i64 y19.1), (7, .int .i64 y19.2.1)]) (L' := [imm (TR.sl TR.int) v12 y10]) (fun _ _ st => st) ?_
          refine GL.seq ?_
          obtain ⟨y537, K538, h539, h540, h541, h542, h543⟩ := bindR_K h523
          refine GL.join (ι := Bool) (fun (p : Bool) => [(2, .bool p)]) (fun (p : Bool) => []) (fun (p : Bool) => K538 (.nx p)) ?_ ?_
          · skip
            refine GL.region ?_
            refine RL.mv rfl rfl rfl ?_
            refine RL.notB rfl rfl rfl ?_
            refine RL.mv rfl rfl rfl ?_
            refine RL.split (t := 94) rfl (fun b544 => ?_) (fun b544 => ?_)
            · replace h539 := ite_t b544 h539
              refine RL.skip rfl rfl ?_
              refine RL.skip rfl rfl ?_
              refine RL.skip rfl rfl ?_
              refine RL.skip rfl rfl ?_
              refine RL.skip rfl rfl ?_
              refine RL.skip rfl rfl ?_
              refine RL.skip rfl rfl ?_
              refine RL.skip rfl rfl ?_
              refine RL.skip rfl rfl ?_
              refine RL.skip rfl rfl ?_
              refine RL.skip rfl rfl ?_
              refine RL.skip rfl rfl ?_
              refine RL.skip rfl rfl ?_
              refine RL.skip rfl rfl ?_
              refine RL.skip rfl rfl ?_
              refine RL.skip rfl rfl ?_
              refine RL.skip rfl rfl ?_
              refine RL.skip rfl rfl ?_
              refine RL.skip rfl rfl ?_
              refine RL.skip rfl rfl ?_
              refine RL.pickT rfl rfl rfl rfl ?_
              refine RL.asg rfl rfl rfl ?_
              refine RL.fin ?_
              cases h539
              exact fun a w st => mid_intro true h540 (St.cut [] ⟨rfl, trivial⟩ (by decide) rfl st)
            · replace h539 := ite_f b544 h539
              refine RL.mv rfl rfl rfl ?_
              refine RL.binI (v := .bool (decide (y19.1 ≥ (0 : Int)))) rfl rfl rfl rfl rfl ?_
              refine RL.mv rfl rfl rfl ?_
              refine RL.split (t := 97) rfl (fun b545 => ?_) (fun b545 => ?_)
              · replace h539 := ite_t b545 h539
                refine RL.mv rfl rfl rfl ?_
                refine RL.mv rfl rfl rfl ?_
                refine RL.lenS 0 Try.underlying27 rfl rfl rfl rfl SlOf.imm ?_
                refine RL.binI (v := .bool (decide (y19.1 < ((y10).length : Int)))) rfl rfl rfl rfl rfl ?_
                refine RL.pickT rfl rfl rfl rfl ?_
                refine RL.mv rfl rfl rfl ?_
                refine RL.split (t := 103) rfl (fun b546 => ?_) (fun b546 => ?_)
                · replace h539 := ite_t b546 h539
                  refine RL.mv rfl rfl rfl ?_
                  refine RL.binI (v := .bool (decide (y19.2.1 ≥ (1 : Int)))) rfl rfl rfl rfl rfl ?_
                  refine RL.pickT rfl rfl rfl rfl ?_
                  refine RL.mv rfl rfl rfl ?_
                  refine RL.split (t := 107) rfl (fun b547 => ?_) (fun b547 => ?_)
                  · replace h539 := ite_t b547 h539
                    refine RL.mv rfl rfl rfl ?_
                    refine RL.mv rfl rfl rfl ?_
                    refine RL.mv rfl rfl rfl ?_
                    obtain ⟨y548, e549, h539⟩ := bind_some h539
                    refine RL.idxS (sz := 1) 0 Try.underlying27 Try_ln3 rfl rfl rfl rfl rfl SlOf.imm (idx_some e549).1 (idx_some e549).2.1 ?_
                    refine RL.ldSx (i := (y19.1).toNat) (e' := y548) 0 Ex.ik Try_ln3 rfl rfl rfl rfl SlOf.imm (idx_some e549).2.2 Part.self ?_
                    refine RL.binI (v := .bool (decide (y19.2.1 ≤ y548))) rfl rfl rfl rfl rfl ?_
                    refine RL.pickT rfl rfl rfl rfl ?_
                    refine RL.pickF rfl rfl rfl rfl ?_
                    refine RL.asg rfl rfl rfl ?_
                    refine RL.fin ?_
                    cases h539
                    exact fun a w st => mid_intro (decide (y19.2.1 ≤ y548)) h540 (St.cut [] ⟨rfl, trivial⟩ (by decide) rfl st)
                  · replace h539 := ite_f b547 h539
                    refine RL.skip rfl rfl ?_
                    refine RL.skip rfl rfl ?_
                    refine RL.skip rfl rfl ?_
                    refine RL.skip rfl rfl ?_
                    refine RL.skip rfl rfl ?_
                    refine RL.skip rfl rfl ?_
                    refine RL.pickF rfl rfl rfl rfl ?_
                    refine RL.pickF rfl rfl rfl rfl ?_
                    refine RL.asg rfl rfl rfl ?_
                    refine RL.fin ?_
                    cases h539
                    exact fun a w st => mid_intro false h540 (St.cut [] ⟨rfl, trivial⟩ (by decide) rfl st)
                · replace h539 := ite_f b546 h539
                  refine RL.skip rfl rfl ?_
                  refine RL.skip rfl rfl ?_
                  refine RL.pickF rfl rfl rfl rfl ?_
                  refine RL.mv rfl rfl rfl ?_
                  refine RL.skip rfl rfl ?_
                  refine RL.skip rfl rfl ?_
                  refine RL.skip rfl rfl ?_
                  refine RL.skip rfl rfl ?_
                  refine RL.skip rfl rfl ?_
                  refine RL.skip rfl rfl ?_
                  refine RL.pickF rfl rfl rfl rfl ?_
                  refine RL.pickF rfl rfl rfl rfl ?_
                  refine RL.asg rfl rfl rfl ?_
                  refine RL.fin ?_
                  cases h539
                  exact fun a w st => mid_intro false h540 (St.cut [] ⟨rfl, trivial⟩ (by decide) rfl st)
              · replace h539 := ite_f b545 h539
                refine RL.skip rfl rfl ?_
                refine RL.skip rfl rfl ?_
                refine RL.skip rfl rfl ?_
                refine RL.skip rfl rfl ?_
                refine RL.pickF rfl rfl rfl rfl ?_
                refine RL.mv rfl rfl rfl ?_
                refine RL.skip rfl rfl ?_
                refine RL.skip rfl rfl ?_
                refine RL.pickF rfl rfl rfl rfl ?_
                refine RL.mv rfl rfl rfl ?_
                refine RL.skip rfl rfl ?_
                refine RL.skip rfl rfl ?_
                refine RL.skip rfl rfl ?_
                refine RL.skip rfl rfl ?_
                refine RL.skip rfl rfl ?_
                refine RL.skip rfl rfl ?_
                refine RL.pickF rfl rfl rfl rfl ?_
                refine RL.pickF rfl rfl rfl rfl ?_
                refine RL.asg rfl rfl rfl ?_
                refine RL.fin ?_
                cases h539
                exact fun a w st => mid_intro false h540 (St.cut [] ⟨rfl, trivial⟩ (by decide) rfl st)
          · rintro x536 h550
            have h551 := h541 _ h550
            try dsimp only at h551
            refine GL.weak (env' := [(2, .bool x536)]) (L' := []) (fun _ _ st => st) ?_
            have h551 := Option.some.inj h551
            subst h551
            exact GL.ret (Gx.ret (v := .bool x536) (res1 rfl rfl) (fun a w st => st.toPostV))
end Go.Wk
