/- Each function comes to what its model says; printed by a program of this repository. -/
import Derived.Test.YtbkginapdldffaaProg
import Derived.Test.YtbkginapdldffaaWPilesTableModels
namespace Go.Wk
open Go.Fw Go.Mo Go.Proofs Go.RowKit
set_option linter.unusedVariables false
set_option maxRecDepth 100000
theorem Try_info3 : (Try.prog.info? 3).map (fun i => (i.zero, i.size, i.bytes)) = some (some (.int .i64 0), 1, 8) := by kernel_rfl
theorem Try_ln3 : Ln Try.prog 3 1 false := Ln.of Try_info3 Try.underlying3 rfl
theorem Try_lo3 : LnO Try.prog 3 1 [.int .i64 0] := LnO.of Try_info3 rfl rfl (by decide) (by decide)
theorem Try_info4 : (Try.prog.info? 4).map (fun i => (i.zero, i.size, i.bytes)) = some (some (.bool false), 1, 1) := by kernel_rfl
theorem Try_ln4 : Ln Try.prog 4 1 false := Ln.of Try_info4 Try.underlying4 rfl
theorem Try_lo4 : LnO Try.prog 4 1 [.bool false] := LnO.of Try_info4 rfl rfl (by decide) (by decide)
theorem Try_info28 : (Try.prog.info? 28).map (fun i => (i.zero, i.size, i.bytes)) = some (some (.int .i64 0), 1, 8) := by kernel_rfl
theorem Try_ln28 : Ln Try.prog 28 1 false := Ln.of Try_info28 Try.underlying28 rfl
theorem Try_lo28 : LnO Try.prog 28 1 [.int .i64 0] := LnO.of Try_info28 rfl rfl (by decide) (by decide)
theorem Try_info65 : (Try.prog.info? 65).map (fun i => (i.zero, i.size, i.bytes)) = some (some (.agg #[.bool false, .bool false, .bool false, .bool false, .bool false, .bool false, .bool false]), 7, 7) := by kernel_rfl
theorem Try_ln65 : Ln Try.prog 65 7 true := Ln.of Try_info65 Try.underlying65 rfl
theorem Try_lo65 : LnO Try.prog 65 7 [.bool false, .bool false, .bool false, .bool false, .bool false, .bool false, .bool false] := LnO.of Try_info65 rfl rfl (by decide) (by decide)
theorem Try_fit17 : Fit Try.prog 17 := Fit.of Try.func17 (by kernel_rfl) rfl
theorem Try_fit19 : Fit Try.prog 19 := Fit.of Try.func19 (by kernel_rfl) rfl
theorem Try_fit20 : Fit Try.prog 20 := Fit.of Try.func20 (by kernel_rfl) rfl
theorem Try_fit22 : Fit Try.prog 22 := Fit.of Try.func22 (by kernel_rfl) rfl
theorem Try_fit24 : Fit Try.prog 24 := Fit.of Try.func24 (by kernel_rfl) rfl
theorem Try_fit26 : Fit Try.prog 26 := Fit.of Try.func26 (by kernel_rfl) rfl
theorem Try_fit27 : Fit Try.prog 27 := Fit.of Try.func27 (by kernel_rfl) rfl
theorem Try_fit30 : Fit Try.prog 30 := Fit.of Try.func30 (by kernel_rfl) rfl
theorem Try_fit31 : Fit Try.prog 31 := Fit.of Try.func31 (by kernel_rfl) rfl
theorem Try_fit32 : Fit Try.prog 32 := Fit.of Try.func32 (by kernel_rfl) rfl
theorem Try_fit33 : Fit Try.prog 33 := Fit.of Try.func33 (by kernel_rfl) rfl
theorem Try_fit34 : Fit Try.prog 34 := Fit.of Try.func34 (by kernel_rfl) rfl

set_option maxHeartbeats 4000000 in
theorem piles_Table_c (S : Hp) (w : World) (hS : S.sub w) (x0 : Int) (v1 : Value) (x1 : (List Int)) (k1 : ((TR.sl TR.int)).vrep S v1 x1) (res : (List Int) × Int) (hm : piles_Table_m x0 x1 = some res) : Calls Try.prog 24 #[.int .i64 x0, v1] w (Post w S (fun (o : Value) => .tuple #[o, .int .i64 res.2]) (fun (o : Value) => [own 3 TR.int o res.1])) := by
  refine calls_enter 74 Try.func24 Try.ntmps24 rfl S false [(0, .int .i64 x0), (1, v1)] [imm (TR.sl TR.int) v1 x1] rfl ⟨rfl, ⟨rfl, trivial⟩⟩ hS ⟨k1, trivial⟩ ?_
  unfold piles_Table_m at hm
  refine GL.seq ?_
  refine GL.region ?_
  refine RL.asg rfl rfl rfl ?_
  refine RL.asg rfl rfl rfl ?_
  refine RL.finG ?_
  refine GL.seq ?_
  refine GL.seq ?_
  obtain ⟨y6, K7, h8, h9, h10, h11, h12⟩ := bindR_K hm
  refine GL.join (ι := Bool) (fun (p : Bool) => [(0, .int .i64 x0), (1, v1), (18, .bool p)]) (fun (p : Bool) => [imm (TR.sl TR.int) v1 x1]) (fun (p : Bool) => K7 (.nx p)) ?_ ?_
  · skip
    refine GL.region ?_
    refine RL.mv rfl rfl rfl ?_
    refine RL.binI (v := .bool (decide (x0 < (0 : Int)))) rfl rfl rfl rfl rfl ?_
    refine RL.mv rfl rfl rfl ?_
    refine RL.split (t := 15) rfl (fun b13 => ?_) (fun b13 => ?_)
    · replace h8 := ite_t b13 h8
      refine RL.skip rfl rfl ?_
      refine RL.skip rfl rfl ?_
      refine RL.pickT rfl rfl rfl rfl ?_
      refine RL.fin ?_
      cases h8
      exact fun a w st => mid_intro true h9 (St.cut [0] ⟨rfl, rfl, rfl, trivial⟩ (by decide) rfl st)
    · replace h8 := ite_f b13 h8
      refine RL.mv rfl rfl rfl ?_
      refine RL.binI (v := .bool (decide (x0 > (40 : Int)))) rfl rfl rfl rfl rfl ?_
      refine RL.pickF rfl rfl rfl rfl ?_
      refine RL.fin ?_
      cases h8
      exact fun a w st => mid_intro (decide (x0 > (40 : Int))) h9 (St.cut [0] ⟨rfl, rfl, rfl, trivial⟩ (by decide) rfl st)
  · rintro x5 h14
    have h15 := h10 _ h14
    try dsimp only at h15
    refine GL.weak (env' := [(0, .int .i64 x0), (1, v1), (18, .bool x5)]) (L' := [imm (TR.sl TR.int) v1 x1]) (fun _ _ st => st) ?_
    refine GL.cond rfl (fun b16 => ?_) (fun b16 => ?_)
    · replace h15 := ite_t b16 h15
      refine GL.seq ?_
      refine GL.region ?_
      refine RL.asg rfl rfl rfl ?_
      refine RL.asg rfl rfl rfl ?_
      refine RL.finG ?_
      refine GL.weak (fun a w st => st.nilOwn 3 TR.int) ?_
      have h15 := Option.some.inj h15
      subst h15
      exact GL.ret (Gx.ret (v := .tuple #[Value.slice none 0 0, .int .i64 (1 : Int)]) (res2 rfl rfl rfl) (fun a w st => (st.pick [1] (by decide) rfl).toPost (Value.slice none 0 0)))
    · replace h15 := ite_f b16 h15
      refine GL.skip ?_
      refine GL.seq ?_
      refine GL.seq ?_
      refine GL.region ?_
      refine RL.mv rfl rfl rfl ?_
      refine RL.lenS 0 Try.underlying27 rfl rfl rfl rfl SlOf.imm ?_
      refine RL.binI (v := .bool (decide (((x1).length : Int) > (6 : Int)))) rfl rfl rfl rfl rfl ?_
      refine RL.finG ?_
      refine GL.cond rfl (fun b17 => ?_) (fun b17 => ?_)
      · replace h15 := ite_t b17 h15
        refine GL.seq ?_
        refine GL.region ?_
        refine RL.asg rfl rfl rfl ?_
        refine RL.asg rfl rfl rfl ?_
        refine RL.finG ?_
        refine GL.weak (fun a w st => st.nilOwn 3 TR.int) ?_
        have h15 := Option.some.inj h15
        subst h15
        exact GL.ret (Gx.ret (v := .tuple #[Value.slice none 0 0, .int .i64 (2 : Int)]) (res2 rfl rfl rfl) (fun a w st => (st.pick [1] (by decide) rfl).toPost (Value.slice none 0 0)))
      · replace h15 := ite_f b17 h15
        refine GL.skip ?_
        refine GL.seq ?_
        refine GL.seq ?_
        refine GL.region ?_
        refine RL.mv rfl rfl rfl ?_
        refine RL.lenS 0 Try.underlying27 rfl rfl rfl rfl SlOf.imm ?_
        refine RL.mv rfl rfl rfl ?_
        refine RL.finG ?_
        refine GL.open_ 0 rfl (fun S h => len_imm S h) (fun n36 => ?_)
        obtain ⟨y37, K38, h39, h40, h41, h42, h43⟩ := bindR_K h15
        refine GL.join (ι := Unit) (fun (p : Unit) => [(0, .int .i64 x0), (1, v1)]) (fun (p : Unit) => [imm (TR.sl TR.int) v1 x1]) (fun (p : Unit) => K38 (.nx ())) ?_ ?_
        · refine GL.block ?_
          refine GL.loop (ι := Nat × (List Int)) (fun (p : Nat × (List Int)) => [(0, .int .i64 x0), (1, v1), (22, v1), (23, .int .i64 ((x1).length : Int)), (24, .int .i64 (p.1 : Int))]) (fun (p : Nat × (List Int)) => [imm (TR.sl TR.int) v1 x1]) (fun (p : Nat × (List Int)) => p.1 + p.2.length = (x1).length ∧ List.drop p.1 x1 = p.2 ∧ rangeL piles_Table_b1 p.2 p.1 () = some y37) (fun (p : Nat × (List Int)) => p.2.length) (0, x1) ⟨by simp, by simp, h39⟩ (fun a w st => St.cut [0] ⟨rfl, rfl, rfl, rfl, rfl, trivial⟩ (by decide) rfl st) ?_
          rintro ⟨i44, r45⟩ ⟨h50, h51, h49⟩
          try dsimp only at h50 h51 h49
          refine GL.weak (env' := [(0, .int .i64 x0), (1, v1), (22, v1), (23, .int .i64 ((x1).length : Int)), (24, .int .i64 (i44 : Int))]) (L' := [imm (TR.sl TR.int) v1 x1]) (fun _ _ st => st) ?_
          refine GL.seq ?_
          refine GL.region ?_
          refine RL.binI (v := .bool (decide ((i44 : Int) < ((x1).length : Int)))) rfl rfl rfl rfl rfl ?_
          refine RL.finG ?_
          refine GL.seq ?_
          refine GL.cond rfl (fun b52 => ?_) (fun b52 => ?_)
          · have h53 : i44 < (x1).length := by have := of_decide_eq_true b52; omega
            obtain ⟨y54, r56, hr, e55, h57⟩ := drop_cons h51 rfl h53
            subst hr
            obtain ⟨z46, h47, h48⟩ := rangeL_some h49
            unfold piles_Table_b1 at h47
            try dsimp only at h47
            refine GL.skip ?_
            refine GL.seq ?_
            refine GL.block ?_
            refine GL.seq ?_
            refine GL.region ?_
            refine RL.idxS (sz := 1) 0 Try.underlying27 Try_ln3 rfl rfl rfl rfl rfl SlOf.imm (by omega) (by omega) ?_
            refine RL.ldSx (i := i44) (e' := y54) 0 Ex.ik Try_ln3 rfl rfl rfl rfl SlOf.imm e55 Part.self ?_
            refine RL.asg rfl rfl rfl ?_
            refine RL.finG ?_
            refine GL.seq ?_
            obtain ⟨y61, K62, h63, h64, h65, h66, h67⟩ := bindF_K h47
            refine GL.join (ι := Bool) (fun (p : Bool) => [(0, .int .i64 x0), (1, v1), (22, v1), (23, .int .i64 ((x1).length : Int)), (24, .int .i64 (i44 : Int)), (33, .bool p)]) (fun (p : Bool) => [imm (TR.sl TR.int) v1 x1]) (fun (p : Bool) => K62 (.nx p)) ?_ ?_
            · skip
              refine GL.region ?_
              refine RL.mv rfl rfl rfl ?_
              refine RL.binI (v := .bool (decide (y54 < (1 : Int)))) rfl rfl rfl rfl rfl ?_
              refine RL.mv rfl rfl rfl ?_
              refine RL.split (t := 30) rfl (fun b68 => ?_) (fun b68 => ?_)
              · replace h63 := ite_t b68 h63
                refine RL.skip rfl rfl ?_
                refine RL.skip rfl rfl ?_
                refine RL.pickT rfl rfl rfl rfl ?_
                refine RL.fin ?_
                cases h63
                exact fun a w st => mid_intro true h64 (St.cut [0] ⟨rfl, rfl, rfl, rfl, rfl, rfl, trivial⟩ (by decide) rfl st)
              · replace h63 := ite_f b68 h63
                refine RL.mv rfl rfl rfl ?_
                refine RL.binI (v := .bool (decide (y54 > (40 : Int)))) rfl rfl rfl rfl rfl ?_
                refine RL.pickF rfl rfl rfl rfl ?_
                refine RL.fin ?_
                cases h63
                exact fun a w st => mid_intro (decide (y54 > (40 : Int))) h64 (St.cut [0] ⟨rfl, rfl, rfl, rfl, rfl, rfl, trivial⟩ (by decide) rfl st)
            · rintro x60 h69
              have h70 := h65 _ h69
              try dsimp only at h70
              refine GL.weak (env' := [(0, .int .i64 x0), (1, v1), (22, v1), (23, .int .i64 ((x1).length : Int)), (24, .int .i64 (i44 : Int)), (33, .bool x60)]) (L' := [imm (TR.sl TR.int) v1 x1]) (fun _ _ st => st) ?_
              refine GL.cond rfl (fun b71 => ?_) (fun b71 => ?_)
              · replace h70 := ite_t b71 h70
                refine GL.seq ?_
                refine GL.region ?_
                refine RL.asg rfl rfl rfl ?_
                refine RL.asg rfl rfl rfl ?_
                refine RL.finG ?_
                refine GL.weak (fun a w st => st.nilOwn 3 TR.int) ?_
                cases h70
                replace h48 : some (Fl.rt _) = some y37 := h48
                cases h48
                have hh := h42 _ h40
                subst hh
                exact GL.ret (Gx.ret (v := .tuple #[Value.slice none 0 0, .int .i64 (3 : Int)]) (res2 rfl rfl rfl) (fun a w st => (st.pick [1] (by decide) rfl).toPost (Value.slice none 0 0)))
              · replace h70 := ite_f b71 h70
                refine GL.skip ?_
                refine GL.nilB ?_
                refine GL.region ?_
                refine RL.binI (v := .int .i64 ((i44 + 1 : Nat) : Int)) rfl rfl rfl rfl (binI_succ i44 (by omega)) ?_
                refine RL.mv rfl rfl rfl ?_
                refine RL.fin ?_
                cases h70
                exact fun a w st => lop_intro (i44 + 1, r56) ⟨by show i44 + 1 + r56.length = (x1).length; simp only [List.length_cons] at h50; omega, h57, h48⟩ (by simp) (St.cut [0] ⟨rfl, rfl, rfl, rfl, rfl, trivial⟩ (by decide) rfl st)
          · have h53 : ¬ i44 < (x1).length := by have := of_decide_eq_false b52; omega
            obtain rfl : r45 = [] := by rw [← h51]; exact List.drop_of_length_le (by omega)
            replace h49 : some (Fl.nx _) = some y37 := h49
            cases h49
            exact GL.exit (fun a w st => mid_intro () h40 (St.cut [0] ⟨rfl, rfl, trivial⟩ (by decide) rfl st))
        · rintro ⟨⟩ h72
          have h73 := h41 _ h72
          try dsimp only at h73
          refine GL.weak (env' := [(0, .int .i64 x0), (1, v1)]) (L' := [imm (TR.sl TR.int) v1 x1]) (fun _ _ st => st) ?_
          refine GL.seq ?_
          refine GL.region ?_
          refine RL.mv rfl rfl rfl ?_
          refine RL.binI (v := .int .i64 (wadd x0 (1 : Int))) rfl rfl rfl rfl rfl ?_
          obtain ⟨y77, e78, h73⟩ := bind_some h73
          replace e78 := chk_some e78
          refine RL.mkS (t := TR.int) (z := (0 : Int)) Try.underlying27 Try_lo3 (fun S => rfl) rfl rfl rfl rfl e78.1 e78.2 ?_
          intro v79
          refine RL.asg rfl rfl rfl ?_
          refine RL.finG ?_
          refine GL.seq ?_
          refine GL.seq ?_
          refine GL.region ?_
          refine RL.mv rfl rfl rfl ?_
          refine RL.lenS 1 Try.underlying27 rfl rfl rfl rfl SlOf.own ?_
          refine RL.mv rfl rfl rfl ?_
          refine RL.finG ?_
          refine GL.lenOwn 1 rfl (fun n348 => ?_)
          obtain ⟨y349, K350, h351, h352, h353, h354, h355⟩ := bindR_K h73
          refine GL.join (ι := (List Int) × Value) (fun (p : (List Int) × Value) => [(8, p.2)]) (fun (p : (List Int) × Value) => [own 3 TR.int p.2 p.1]) (fun (p : (List Int) × Value) => K350 (.nx p.1)) ?_ ?_
          · refine GL.block ?_
            refine GL.loop (ι := Nat × Nat × (List Int) × Value) (fun (p : Nat × Nat × (List Int) × Value) => [(1, v1), (8, p.2.2.2), (39, .int .i64 (((List.replicate (wadd x0 (1 : Int)).toNat (0 : Int))).length : Int)), (40, .int .i64 (p.1 : Int))]) (fun (p : Nat × Nat × (List Int) × Value) => [imm (TR.sl TR.int) v1 x1, own 3 TR.int p.2.2.2 p.2.2.1]) (fun (p : Nat × Nat × (List Int) × Value) => p.1 + p.2.1 = ((List.replicate (wadd x0 (1 : Int)).toNat (0 : Int))).length ∧ rangeN (piles_Table_b2 x1) p.2.1 p.1 p.2.2.1 = some y349) (fun (p : Nat × Nat × (List Int) × Value) => p.2.1) (0, ((List.replicate (wadd x0 (1 : Int)).toNat (0 : Int))).length, (List.replicate (wadd x0 (1 : Int)).toNat (0 : Int)), v79) ⟨by simp, h351⟩ (fun a w st => St.cut [0, 1] ⟨rfl, rfl, rfl, rfl, trivial⟩ (by decide) rfl st) ?_
            rintro ⟨i356, r357, l213, v214⟩ ⟨h362, h361⟩
            try dsimp only at h362 h361
            refine GL.weak (env' := [(1, v1), (8, v214), (39, .int .i64 (((List.replicate (wadd x0 (1 : Int)).toNat (0 : Int))).length : Int)), (40, .int .i64 (i356 : Int))]) (L' := [imm (TR.sl TR.int) v1 x1, own 3 TR.int v214 l213]) (fun _ _ st => st) ?_
            refine GL.seq ?_
            refine GL.region ?_
            refine RL.binI (v := .bool (decide ((i356 : Int) < (((List.replicate (wadd x0 (1 : Int)).toNat (0 : Int))).length : Int)))) rfl rfl rfl rfl rfl ?_
            refine RL.finG ?_
            refine GL.seq ?_
            refine GL.cond rfl (fun b364 => ?_) (fun b364 => ?_)
            · have h365 : i356 < ((List.replicate (wadd x0 (1 : Int)).toNat (0 : Int))).length := by have := of_decide_eq_true b364; omega
              obtain ⟨r366, hr⟩ : ∃ m, r357 = m + 1 := ⟨r357 - 1, by omega⟩
              subst hr
              obtain ⟨z358, h359, h360⟩ := rangeN_some h361
              unfold piles_Table_b2 at h359
              try dsimp only at h359
              refine GL.skip ?_
              refine GL.seq ?_
              refine GL.block ?_
              refine GL.seq ?_
              refine GL.region ?_
              refine RL.mv rfl rfl rfl ?_
              refine RL.asg rfl rfl rfl ?_
              refine RL.finG ?_
              refine GL.seq ?_
              refine GL.region ?_
              refine RL.alloc (t := (TR.arr 7 TR.bool)) (z := (List.replicate 7 false)) Try_lo65 (fun S => ⟨rfl, ⟨_, _, rfl, rfl, ⟨_, _, rfl, rfl, ⟨_, _, rfl, rfl, ⟨_, _, rfl, rfl, ⟨_, _, rfl, rfl, ⟨_, _, rfl, rfl, ⟨_, _, rfl, rfl, rfl⟩⟩⟩⟩⟩⟩⟩⟩) rfl rfl rfl ?_
              intro v368
              refine RL.finG ?_
              refine GL.seq ?_
              refine GL.seq ?_
              refine GL.region ?_
              refine RL.mv rfl rfl rfl ?_
              refine RL.lenS 0 Try.underlying27 rfl rfl rfl rfl SlOf.imm ?_
              refine RL.mv rfl rfl rfl ?_
              refine RL.finG ?_
              refine GL.open_ 0 rfl (fun S h => len_imm S h) (fun n396 => ?_)
              obtain ⟨y397, K398, h399, h400, h401, h402, h403⟩ := bindF_K h359
              refine GL.join (ι := (List Bool)) (fun (p : (List Bool)) => [(1, v1), (8, v214), (9, .int .i64 (i356 : Int)), (10, v368), (39, .int .i64 (((List.replicate (wadd x0 (1 : Int)).toNat (0 : Int))).length : Int)), (40, .int .i64 (i356 : Int))]) (fun (p : (List Bool)) => [imm (TR.sl TR.int) v1 x1, own 3 TR.int v214 l213, obox 65 (TR.arr 7 TR.bool) v368 p]) (fun (p : (List Bool)) => K398 (.nx p)) ?_ ?_
              · refine GL.block ?_
                refine GL.loop (ι := Nat × (List Int) × (List Bool)) (fun (p : Nat × (List Int) × (List Bool)) => [(1, v1), (8, v214), (9, .int .i64 (i356 : Int)), (10, v368), (39, .int .i64 (((List.replicate (wadd x0 (1 : Int)).toNat (0 : Int))).length : Int)), (40, .int .i64 (i356 : Int)), (43, v1), (44, .int .i64 ((x1).length : Int)), (45, .int .i64 (p.1 : Int))]) (fun (p : Nat × (List Int) × (List Bool)) => [imm (TR.sl TR.int) v1 x1, own 3 TR.int v214 l213, obox 65 (TR.arr 7 TR.bool) v368 p.2.2]) (fun (p : Nat × (List Int) × (List Bool)) => p.1 + p.2.1.length = (x1).length ∧ List.drop p.1 x1 = p.2.1 ∧ rangeL (piles_Table_b3 i356 l213) p.2.1 p.1 p.2.2 = some y397) (fun (p : Nat × (List Int) × (List Bool)) => p.2.1.length) (0, x1, (List.replicate 7 false)) ⟨by simp, by simp, h399⟩ (fun a w st => St.cut [0, 1, 2] ⟨rfl, rfl, rfl, rfl, rfl, rfl, rfl, rfl, rfl, trivial⟩ (by decide) rfl st) ?_
                rintro ⟨i404, r405, l382⟩ ⟨h410, h411, h409⟩
                try dsimp only at h410 h411 h409
                refine GL.weak (env' := [(1, v1), (8, v214), (9, .int .i64 (i356 : Int)), (10, v368), (39, .int .i64 (((List.replicate (wadd x0 (1 : Int)).toNat (0 : Int))).length : Int)), (40, .int .i64 (i356 : Int)), (43, v1), (44, .int .i64 ((x1).length : Int)), (45, .int .i64 (i404 : Int))]) (L' := [imm (TR.sl TR.int) v1 x1, own 3 TR.int v214 l213, obox 65 (TR.arr 7 TR.bool) v368 l382]) (fun _ _ st => st) ?_
                refine GL.seq ?_
                refine GL.region ?_
                refine RL.binI (v := .bool (decide ((i404 : Int) < ((x1).length : Int)))) rfl rfl rfl rfl rfl ?_
                refine RL.finG ?_
                refine GL.seq ?_
                refine GL.cond rfl (fun b412 => ?_) (fun b412 => ?_)
                · have h413 : i404 < (x1).length := by have := of_decide_eq_true b412; omega
                  obtain ⟨y414, r416, hr, e415, h417⟩ := drop_cons h411 rfl h413
                  subst hr
                  obtain ⟨z406, h407, h408⟩ := rangeL_some h409
                  unfold piles_Table_b3 at h407
                  try dsimp only at h407
                  refine GL.skip ?_
                  refine GL.seq ?_
                  refine GL.block ?_
                  refine GL.seq ?_
                  refine GL.region ?_
                  refine RL.idxS (sz := 1) 0 Try.underlying27 Try_ln3 rfl rfl rfl rfl rfl SlOf.imm (by omega) (by omega) ?_
                  refine RL.ldSx (i := i404) (e' := y414) 0 Ex.ik Try_ln3 rfl rfl rfl rfl SlOf.imm e415 Part.self ?_
                  refine RL.asg rfl rfl rfl ?_
                  refine RL.finG ?_
                  refine GL.seq ?_
                  refine GL.region ?_
                  refine RL.mv rfl rfl rfl ?_
                  refine RL.mv rfl rfl rfl ?_
                  refine RL.binI (v := .bool (decide (y414 ≤ (i356 : Int)))) rfl rfl rfl rfl rfl ?_
                  refine RL.finG ?_
                  refine GL.cond rfl (fun b418 => ?_) (fun b418 => ?_)
                  · replace h407 := ite_t b418 h407
                    refine GL.region ?_
                    refine RL.mv rfl rfl rfl ?_
                    refine RL.mv rfl rfl rfl ?_
                    refine RL.mv rfl rfl rfl ?_
                    refine RL.binI (v := .int .i64 (wsub (i356 : Int) y414)) rfl rfl rfl rfl rfl ?_
                    obtain ⟨y423, e424, h407⟩ := bind_some h407
                    refine RL.idxS (sz := 1) 1 Try.underlying27 Try_ln3 rfl rfl rfl rfl rfl SlOf.own (idx_some e424).1 (idx_some e424).2.1 ?_
                    refine RL.ldSx (i := (wsub (i356 : Int) y414).toNat) (e' := y423) 1 Ex.ik Try_ln3 rfl rfl rfl rfl SlOf.own (idx_some e424).2.2 Part.self ?_
                    obtain ⟨y425, e426, h407⟩ := bind_some h407
                    refine RL.idxA0 (sz := 1) (t' := TR.bool) 2 Try.underlying65 Try_ln4 rfl rfl rfl PtOf.obox rfl rfl Part.self (idx_some e426).1 (idx_some e426).2.1 ?_
                    refine RL.stP (off := ((y423).toNat * 1)) (e' := true) (d1 := (List.set l382 ((y423).toNat) true)) (r := TR.bool) 2 Try_ln4 rfl rfl (Or.inl rfl) rfl VR.bool rfl (Upd.arr (idx_some e426).2.2 Upd.self) ?_
                    refine RL.finG ?_
                    refine GL.nilB ?_
                    refine GL.region ?_
                    refine RL.binI (v := .int .i64 ((i404 + 1 : Nat) : Int)) rfl rfl rfl rfl (binI_succ i404 (by omega)) ?_
                    refine RL.mv rfl rfl rfl ?_
                    refine RL.fin ?_
                    cases h407
                    exact fun a w st => lop_intro (i404 + 1, r416, (List.set l382 ((y423).toNat) true)) ⟨by show i404 + 1 + r416.length = (x1).length; simp only [List.length_cons] at h410; omega, h417, h408⟩ (by simp) (St.cut [0, 1, 2] ⟨rfl, rfl, rfl, rfl, rfl, rfl, rfl, rfl, rfl, trivial⟩ (by decide) rfl st)
                  · replace h407 := ite_f b418 h407
                    refine GL.skip ?_
                    refine GL.nilB ?_
                    refine GL.region ?_
                    refine RL.binI (v := .int .i64 ((i404 + 1 : Nat) : Int)) rfl rfl rfl rfl (binI_succ i404 (by omega)) ?_
                    refine RL.mv rfl rfl rfl ?_
                    refine RL.fin ?_
                    cases h407
                    exact fun a w st => lop_intro (i404 + 1, r416, l382) ⟨by show i404 + 1 + r416.length = (x1).length; simp only [List.length_cons] at h410; omega, h417, h408⟩ (by simp) (St.cut [0, 1, 2] ⟨rfl, rfl, rfl, rfl, rfl, rfl, rfl, rfl, rfl, trivial⟩ (by decide) rfl st)
                · have h413 : ¬ i404 < (x1).length := by have := of_decide_eq_false b412; omega
                  obtain rfl : r405 = [] := by rw [← h411]; exact List.drop_of_length_le (by omega)
                  replace h409 : some (Fl.nx _) = some y397 := h409
                  cases h409
                  exact GL.exit (fun a w st => mid_intro l382 h400 (St.cut [0, 1, 2] ⟨rfl, rfl, rfl, rfl, rfl, rfl, trivial⟩ (by decide) rfl st))
              · rintro l382 h427
                have h428 := h401 _ h427
                try dsimp only at h428
                refine GL.weak (env' := [(1, v1), (8, v214), (9, .int .i64 (i356 : Int)), (10, v368), (39, .int .i64 (((List.replicate (wadd x0 (1 : Int)).toNat (0 : Int))).length : Int)), (40, .int .i64 (i356 : Int))]) (L' := [imm (TR.sl TR.int) v1 x1, own 3 TR.int v214 l213, obox 65 (TR.arr 7 TR.bool) v368 l382]) (fun _ _ st => st) ?_
                obtain ⟨y465, K466, h467, h468, h469, h470, h471⟩ := bindF_K h428
                refine GL.join (ι := (List Int) × Value) (fun (p : (List Int) × Value) => [(1, v1), (8, p.2), (39, .int .i64 (((List.replicate (wadd x0 (1 : Int)).toNat (0 : Int))).length : Int)), (40, .int .i64 (i356 : Int))]) (fun (p : (List Int) × Value) => [imm (TR.sl TR.int) v1 x1, own 3 TR.int p.2 p.1]) (fun (p : (List Int) × Value) => K466 (.nx p.1)) ?_ ?_
                · refine GL.block ?_
                  refine GL.loop (ι := Nat × (List Int) × Value) (fun (p : Nat × (List Int) × Value) => [(1, v1), (8, p.2.2), (9, .int .i64 (i356 : Int)), (10, v368), (39, .int .i64 (((List.replicate (wadd x0 (1 : Int)).toNat (0 : Int))).length : Int)), (40, .int .i64 (i356 : Int))]) (fun (p : Nat × (List Int) × Value) => [imm (TR.sl TR.int) v1 x1, own 3 TR.int p.2.2 p.2.1, obox 65 (TR.arr 7 TR.bool) v368 l382]) (fun (p : Nat × (List Int) × Value) => loopM (piles_Table_b4 i356 l382) p.1 p.2.1 = some y465) (fun (p : Nat × (List Int) × Value) => p.1) (1048576, l213, v214) h467 (fun a w st => St.cut [0, 1, 2] ⟨rfl, rfl, rfl, rfl, rfl, rfl, trivial⟩ (by decide) rfl st) ?_
                  rintro ⟨r473, l446, v447⟩ h477
                  try dsimp only at h477
                  refine GL.weak (env' := [(1, v1), (8, v447), (9, .int .i64 (i356 : Int)), (10, v368), (39, .int .i64 (((List.replicate (wadd x0 (1 : Int)).toNat (0 : Int))).length : Int)), (40, .int .i64 (i356 : Int))]) (L' := [imm (TR.sl TR.int) v1 x1, own 3 TR.int v447 l446, obox 65 (TR.arr 7 TR.bool) v368 l382]) (fun _ _ st => st) ?_
                  obtain ⟨r480, z474, hr, h475, h476⟩ := loopM_some h477
                  subst hr
                  unfold piles_Table_b4 at h475
                  try dsimp only at h475
                  refine GL.seq ?_
                  refine GL.seq ?_
                  refine GL.region ?_
                  refine RL.mv rfl rfl rfl ?_
                  refine RL.mv rfl rfl rfl ?_
                  obtain ⟨y485, e486, h475⟩ := bind_some h475
                  refine RL.idxS (sz := 1) 1 Try.underlying27 Try_ln3 rfl rfl rfl rfl rfl SlOf.own (idx_some e486).1 (idx_some e486).2.1 ?_
                  refine RL.ldSx (i := i356) (e' := y485) 1 Ex.ik Try_ln3 rfl rfl rfl rfl SlOf.own (idx_some e486).2.2 Part.self ?_
                  obtain ⟨y487, e488, h475⟩ := bind_some h475
                  refine RL.idxA0 (sz := 1) (t' := TR.bool) 2 Try.underlying65 Try_ln4 rfl rfl rfl PtOf.obox rfl rfl Part.self (idx_some e488).1 (idx_some e488).2.1 ?_
                  refine RL.ldPx (off := ((y485).toNat * 1)) (e' := y487) 2 Ex.bool Try_ln4 rfl rfl (Or.inl rfl) rfl PtOf.obox (Part.arr (idx_some e488).2.2 Part.self) ?_
                  refine RL.finG ?_
                  refine GL.cond rfl (fun b489 => ?_) (fun b489 => ?_)
                  · replace h475 := ite_t b489 h475
                    refine GL.skip ?_
                    refine GL.block ?_
                    refine GL.region ?_
                    refine RL.mv rfl rfl rfl ?_
                    refine RL.mv rfl rfl rfl ?_
                    obtain ⟨y494, e495, h475⟩ := bind_some h475
                    refine RL.idxS (sz := 1) 1 Try.underlying27 Try_ln3 rfl rfl rfl rfl rfl SlOf.own (idx_some e495).1 (idx_some e495).2.1 ?_
                    refine RL.ldSx (i := i356) (e' := y494) 1 Ex.ik Try_ln3 rfl rfl rfl rfl SlOf.own (idx_some e495).2.2 Part.self ?_
                    refine RL.binI (v := .int .i64 (wadd y494 (1 : Int))) rfl rfl rfl rfl rfl ?_
                    obtain ⟨y496, e497, h475⟩ := bind_some h475
                    refine RL.idxS (sz := 1) 1 Try.underlying27 Try_ln3 rfl rfl rfl rfl rfl SlOf.own (idx_some e497).1 (idx_some e497).2.1 ?_
                    refine RL.stS (i := i356) (e' := wadd y494 (1 : Int)) (e1 := wadd y494 (1 : Int)) (r := TR.int) 1 Try_ln3 rfl rfl rfl rfl VR.int rfl (idx_some e497).2.2 Upd.self ?_
                    refine RL.finG ?_
                    refine GL.nilB ?_
                    cases h475
                    exact fun a w st => lop_intro (r480, (List.set l446 i356 (wadd y494 (1 : Int))), v447) h476 (by simp) (St.cut [0, 1, 2] ⟨rfl, rfl, rfl, rfl, rfl, rfl, trivial⟩ (by decide) rfl st)
                  · replace h475 := ite_f b489 h475
                    cases h475
                    replace h476 : some (Fl.nx _) = some y465 := h476
                    cases h476
                    exact GL.exit (fun a w st => mid_intro (l446, v447) h468 (St.cut [0, 1] ⟨rfl, rfl, rfl, rfl, trivial⟩ (by decide) rfl st))
                · rintro ⟨l446, v447⟩ h498
                  have h499 := h469 _ h498
                  try dsimp only at h499
                  refine GL.weak (env' := [(1, v1), (8, v447), (39, .int .i64 (((List.replicate (wadd x0 (1 : Int)).toNat (0 : Int))).length : Int)), (40, .int .i64 (i356 : Int))]) (L' := [imm (TR.sl TR.int) v1 x1, own 3 TR.int v447 l446]) (fun _ _ st => st) ?_
                  refine GL.nilB ?_
                  refine GL.region ?_
                  refine RL.binI (v := .int .i64 ((i356 + 1 : Nat) : Int)) rfl rfl rfl rfl (binI_succ i356 (by omega)) ?_
                  refine RL.mv rfl rfl rfl ?_
                  refine RL.fin ?_
                  cases h499
                  exact fun a w st => lop_intro (i356 + 1, r366, l446, v447) ⟨by show i356 + 1 + r366 = ((List.replicate (wadd x0 (1 : Int)).toNat (0 : Int))).length; omega, h360⟩ (by simp) (St.cut [0, 1] ⟨rfl, rfl, rfl, rfl, trivial⟩ (by decide) rfl st)
            · have h365 : ¬ i356 < ((List.replicate (wadd x0 (1 : Int)).toNat (0 : Int))).length := by have := of_decide_eq_false b364; omega
              obtain rfl : r357 = 0 := by omega
              replace h361 : some (Fl.nx _) = some y349 := h361
              cases h361
              exact GL.exit (fun a w st => mid_intro (l213, v214) h352 (St.cut [1] ⟨rfl, trivial⟩ (by decide) rfl st))
          · rintro ⟨l213, v214⟩ h500
            have h501 := h353 _ h500
            try dsimp only at h501
            refine GL.weak (env' := [(8, v214)]) (L' := [own 3 TR.int v214 l213]) (fun _ _ st => st) ?_
            refine GL.seq ?_
            refine GL.region ?_
            refine RL.mv rfl rfl rfl ?_
            refine RL.asg rfl rfl rfl ?_
            refine RL.asg rfl rfl rfl ?_
            refine RL.finG ?_
            have h501 := Option.some.inj h501
            subst h501
            exact GL.ret (Gx.ret (v := .tuple #[v214, .int .i64 (0 : Int)]) (res2 rfl rfl rfl) (fun a w st => (st.pick [0] (by decide) rfl).toPost v214))

set_option maxHeartbeats 4000000 in
theorem slices_Equal_int_int_c (S : Hp) (w : World) (hS : S.sub w) (v0 : Value) (x0 : (List Int)) (k0 : ((TR.sl TR.int)).vrep S v0 x0) (v1 : Value) (x1 : (List Int)) (k1 : ((TR.sl TR.int)).vrep S v1 x1) (res : Bool) (hm : slices_Equal_int_int_m x0 x1 = some res) : Calls Try.prog 26 #[v0, v1] w (PostV w (.bool res)) := by
  refine calls_enter 26 Try.func26 Try.ntmps26 rfl S false [(0, v0), (1, v1)] [imm (TR.sl TR.int) v0 x0, imm (TR.sl TR.int) v1 x1] rfl ⟨rfl, ⟨rfl, trivial⟩⟩ hS ⟨k0, ⟨k1, trivial⟩⟩ ?_
  unfold slices_Equal_int_int_m at hm
  refine GL.seq ?_
  refine GL.region ?_
  refine RL.asg rfl rfl rfl ?_
  refine RL.finG ?_
  refine GL.seq ?_
  refine GL.seq ?_
  refine GL.region ?_
  refine RL.mv rfl rfl rfl ?_
  refine RL.lenS 0 Try.underlying27 rfl rfl rfl rfl SlOf.imm ?_
  refine RL.mv rfl rfl rfl ?_
  refine RL.lenS 1 Try.underlying27 rfl rfl rfl rfl SlOf.imm ?_
  refine RL.binI (v := .bool (((x0).length : Int) != ((x1).length : Int))) rfl rfl rfl rfl rfl ?_
  refine RL.finG ?_
  refine GL.cond rfl (fun b3 => ?_) (fun b3 => ?_)
  · replace hm := ite_t b3 hm
    refine GL.seq ?_
    refine GL.region ?_
    refine RL.asg rfl rfl rfl ?_
    refine RL.finG ?_
    have hm := Option.some.inj hm
    subst hm
    exact GL.ret (Gx.ret (v := .bool false) (res1 rfl rfl) (fun a w st => st.toPostV))
  · replace hm := ite_f b3 hm
    refine GL.skip ?_
    refine GL.seq ?_
    refine GL.seq ?_
    refine GL.region ?_
    refine RL.mv rfl rfl rfl ?_
    refine RL.lenS 0 Try.underlying27 rfl rfl rfl rfl SlOf.imm ?_
    refine RL.mv rfl rfl rfl ?_
    refine RL.finG ?_
    refine GL.open_ 0 rfl (fun S h => len_imm S h) (fun n13 => ?_)
    obtain ⟨y14, K15, h16, h17, h18, h19, h20⟩ := bindR_K hm
    refine GL.join (ι := Unit) (fun (p : Unit) => []) (fun (p : Unit) => []) (fun (p : Unit) => K15 (.nx ())) ?_ ?_
    · refine GL.block ?_
      refine GL.loop (ι := Nat × (List Int)) (fun (p : Nat × (List Int)) => [(0, v0), (1, v1), (12, .int .i64 ((x0).length : Int)), (13, .int .i64 (p.1 : Int))]) (fun (p : Nat × (List Int)) => [imm (TR.sl TR.int) v0 x0, imm (TR.sl TR.int) v1 x1]) (fun (p : Nat × (List Int)) => p.1 + p.2.length = (x0).length ∧ List.drop p.1 x0 = p.2 ∧ rangeL (slices_Equal_int_int_b1 x1) p.2 p.1 () = some y14) (fun (p : Nat × (List Int)) => p.2.length) (0, x0) ⟨by simp, by simp, h16⟩ (fun a w st => St.cut [0, 1] ⟨rfl, rfl, rfl, rfl, trivial⟩ (by decide) rfl st) ?_
      rintro ⟨i21, r22⟩ ⟨h27, h28, h26⟩
      try dsimp only at h27 h28 h26
      refine GL.weak (env' := [(0, v0), (1, v1), (12, .int .i64 ((x0).length : Int)), (13, .int .i64 (i21 : Int))]) (L' := [imm (TR.sl TR.int) v0 x0, imm (TR.sl TR.int) v1 x1]) (fun _ _ st => st) ?_
      refine GL.seq ?_
      refine GL.region ?_
      refine RL.binI (v := .bool (decide ((i21 : Int) < ((x0).length : Int)))) rfl rfl rfl rfl rfl ?_
      refine RL.finG ?_
      refine GL.seq ?_
      refine GL.cond rfl (fun b29 => ?_) (fun b29 => ?_)
      · have h30 : i21 < (x0).length := by have := of_decide_eq_true b29; omega
        obtain ⟨y31, r33, hr, e32, h34⟩ := drop_cons h28 rfl h30
        subst hr
        obtain ⟨z23, h24, h25⟩ := rangeL_some h26
        unfold slices_Equal_int_int_b1 at h24
        try dsimp only at h24
        refine GL.skip ?_
        refine GL.seq ?_
        refine GL.block ?_
        refine GL.seq ?_
        refine GL.region ?_
        refine RL.mv rfl rfl rfl ?_
        refine RL.asg rfl rfl rfl ?_
        refine RL.finG ?_
        refine GL.seq ?_
        refine GL.regionQ rfl rfl (by kernel_rfl) ?_
        refine RL.mv rfl rfl rfl ?_
        refine RL.mv rfl rfl rfl ?_
        refine RL.idxS (sz := 1) 0 Try.underlying27 Try_ln3 rfl rfl rfl rfl rfl SlOf.imm (by omega) (by omega) ?_
        refine RL.ldSx (i := i21) (e' := y31) 0 Ex.ik Try_ln3 rfl rfl rfl rfl SlOf.imm e32 Part.self ?_
        refine RL.mv rfl rfl rfl ?_
        refine RL.mv rfl rfl rfl ?_
        obtain ⟨y37, e38, h24⟩ := bind_some h24
        refine RL.idxS (sz := 1) 1 Try.underlying27 Try_ln3 rfl rfl rfl rfl rfl SlOf.imm (idx_some e38).1 (idx_some e38).2.1 ?_
        refine RL.ldSx (i := i21) (e' := y37) 1 Ex.ik Try_ln3 rfl rfl rfl rfl SlOf.imm (idx_some e38).2.2 Part.self ?_
        refine RL.binI (v := .bool (y31 != y37)) rfl rfl rfl rfl rfl ?_
        refine RL.finQG ?_
        refine GL.cond rfl (fun b39 => ?_) (fun b39 => ?_)
        · replace h24 := ite_t b39 h24
          refine GL.seq ?_
          refine GL.region ?_
          refine RL.asg rfl rfl rfl ?_
          refine RL.finG ?_
          cases h24
          replace h25 : some (Fl.rt _) = some y14 := h25
          cases h25
          have hh := h19 _ h17
          subst hh
          exact GL.ret (Gx.ret (v := .bool false) (res1 rfl rfl) (fun a w st => st.toPostV))
        · replace h24 := ite_f b39 h24
          refine GL.skip ?_
          refine GL.nilB ?_
          refine GL.region ?_
          refine RL.binI (v := .int .i64 ((i21 + 1 : Nat) : Int)) rfl rfl rfl rfl (binI_succ i21 (by omega)) ?_
          refine RL.mv rfl rfl rfl ?_
          refine RL.fin ?_
          cases h24
          exact fun a w st => lop_intro (i21 + 1, r33) ⟨by show i21 + 1 + r33.length = (x0).length; simp only [List.length_cons] at h27; omega, h34, h25⟩ (by simp) (St.cut [0, 1] ⟨rfl, rfl, rfl, rfl, trivial⟩ (by decide) rfl st)
      · have h30 : ¬ i21 < (x0).length := by have := of_decide_eq_false b29; omega
        obtain rfl : r22 = [] := by rw [← h28]; exact List.drop_of_length_le (by omega)
        replace h26 : some (Fl.nx _) = some y14 := h26
        cases h26
        exact GL.exit (fun a w st => mid_intro () h17 (St.cut [] trivial (by decide) rfl st))
    · rintro ⟨⟩ h40
      have h41 := h18 _ h40
      try dsimp only at h41
      refine GL.weak (env' := []) (L' := []) (fun _ _ st => st) ?_
      refine GL.seq ?_
      refine GL.region ?_
      refine RL.asg rfl rfl rfl ?_
      refine RL.finG ?_
      have h41 := Option.some.inj h41
      subst h41
      exact GL.ret (Gx.ret (v := .bool true) (res1 rfl rfl) (fun a w st => st.toPostV))

set_option maxHeartbeats 4000000 in
theorem piles_Check_c (S : Hp) (w : World) (hS : S.sub w) (v0 : Value) (x0 : (List Int)) (k0 : ((TR.sl TR.int)).vrep S v0 x0) (res : Int) (hm : piles_Check_m x0 = some res) : Calls Try.prog 30 #[v0] w (PostC w (.int .i64 res)) := by
  refine calls_enter 21 Try.func30 Try.ntmps30 rfl S true [(0, v0)] [imm (TR.sl TR.int) v0 x0] rfl ⟨rfl, trivial⟩ hS ⟨k0, trivial⟩ ?_
  unfold piles_Check_m at hm
  refine GL.seq ?_
  refine GL.region ?_
  refine RL.asg rfl rfl rfl ?_
  refine RL.finG ?_
  refine GL.seq ?_
  refine GL.seq ?_
  refine GL.region ?_
  refine RL.mv rfl rfl rfl ?_
  refine RL.lenS 0 Try.underlying27 rfl rfl rfl rfl SlOf.imm ?_
  refine RL.binI (v := .bool (decide (((x0).length : Int) > (6 : Int)))) rfl rfl rfl rfl rfl ?_
  refine RL.finG ?_
  refine GL.cond rfl (fun b2 => ?_) (fun b2 => ?_)
  · replace hm := ite_t b2 hm
    refine GL.seq ?_
    refine GL.region ?_
    refine RL.asg rfl rfl rfl ?_
    refine RL.finG ?_
    have hm := Option.some.inj hm
    subst hm
    exact GL.ret (Gx.ret (v := .int .i64 (2 : Int)) (res1 rfl rfl) (fun a w st => st.toPostC rfl))
  · replace hm := ite_f b2 hm
    refine GL.skip ?_
    refine GL.seq ?_
    refine GL.seq ?_
    refine GL.region ?_
    refine RL.mv rfl rfl rfl ?_
    refine RL.lenS 0 Try.underlying27 rfl rfl rfl rfl SlOf.imm ?_
    refine RL.mv rfl rfl rfl ?_
    refine RL.finG ?_
    refine GL.open_ 0 rfl (fun S h => len_imm S h) (fun n21 => ?_)
    obtain ⟨y22, K23, h24, h25, h26, h27, h28⟩ := bindR_K hm
    refine GL.join (ι := Unit) (fun (p : Unit) => []) (fun (p : Unit) => []) (fun (p : Unit) => K23 (.nx ())) ?_ ?_
    · refine GL.block ?_
      refine GL.loop (ι := Nat × (List Int)) (fun (p : Nat × (List Int)) => [(8, v0), (9, .int .i64 ((x0).length : Int)), (10, .int .i64 (p.1 : Int))]) (fun (p : Nat × (List Int)) => [imm (TR.sl TR.int) v0 x0]) (fun (p : Nat × (List Int)) => p.1 + p.2.length = (x0).length ∧ List.drop p.1 x0 = p.2 ∧ rangeL piles_Check_b1 p.2 p.1 () = some y22) (fun (p : Nat × (List Int)) => p.2.length) (0, x0) ⟨by simp, by simp, h24⟩ (fun a w st => St.cut [0] ⟨rfl, rfl, rfl, trivial⟩ (by decide) rfl st) ?_
      rintro ⟨i29, r30⟩ ⟨h35, h36, h34⟩
      try dsimp only at h35 h36 h34
      refine GL.weak (env' := [(8, v0), (9, .int .i64 ((x0).length : Int)), (10, .int .i64 (i29 : Int))]) (L' := [imm (TR.sl TR.int) v0 x0]) (fun _ _ st => st) ?_
      refine GL.seq ?_
      refine GL.region ?_
      refine RL.binI (v := .bool (decide ((i29 : Int) < ((x0).length : Int)))) rfl rfl rfl rfl rfl ?_
      refine RL.finG ?_
      refine GL.seq ?_
      refine GL.cond rfl (fun b37 => ?_) (fun b37 => ?_)
      · have h38 : i29 < (x0).length := by have := of_decide_eq_true b37; omega
        obtain ⟨y39, r41, hr, e40, h42⟩ := drop_cons h36 rfl h38
        subst hr
        obtain ⟨z31, h32, h33⟩ := rangeL_some h34
        unfold piles_Check_b1 at h32
        try dsimp only at h32
        refine GL.skip ?_
        refine GL.seq ?_
        refine GL.block ?_
        refine GL.seq ?_
        refine GL.region ?_
        refine RL.idxS (sz := 1) 0 Try.underlying27 Try_ln3 rfl rfl rfl rfl rfl SlOf.imm (by omega) (by omega) ?_
        refine RL.ldSx (i := i29) (e' := y39) 0 Ex.ik Try_ln3 rfl rfl rfl rfl SlOf.imm e40 Part.self ?_
        refine RL.asg rfl rfl rfl ?_
        refine RL.finG ?_
        refine GL.seq ?_
        obtain ⟨y46, K47, h48, h49, h50, h51, h52⟩ := bindF_K h32
        refine GL.join (ι := Bool) (fun (p : Bool) => [(8, v0), (9, .int .i64 ((x0).length : Int)), (10, .int .i64 (i29 : Int)), (19, .bool p)]) (fun (p : Bool) => [imm (TR.sl TR.int) v0 x0]) (fun (p : Bool) => K47 (.nx p)) ?_ ?_
        · skip
          refine GL.region ?_
          refine RL.mv rfl rfl rfl ?_
          refine RL.binI (v := .bool (decide (y39 < (0 : Int)))) rfl rfl rfl rfl rfl ?_
          refine RL.mv rfl rfl rfl ?_
          refine RL.split (t := 16) rfl (fun b53 => ?_) (fun b53 => ?_)
          · replace h48 := ite_t b53 h48
            refine RL.skip rfl rfl ?_
            refine RL.skip rfl rfl ?_
            refine RL.pickT rfl rfl rfl rfl ?_
            refine RL.fin ?_
            cases h48
            exact fun a w st => mid_intro true h49 (St.cut [0] ⟨rfl, rfl, rfl, rfl, trivial⟩ (by decide) rfl st)
          · replace h48 := ite_f b53 h48
            refine RL.mv rfl rfl rfl ?_
            refine RL.binI (v := .bool (decide (y39 > (40 : Int)))) rfl rfl rfl rfl rfl ?_
            refine RL.pickF rfl rfl rfl rfl ?_
            refine RL.fin ?_
            cases h48
            exact fun a w st => mid_intro (decide (y39 > (40 : Int))) h49 (St.cut [0] ⟨rfl, rfl, rfl, rfl, trivial⟩ (by decide) rfl st)
        · rintro x45 h54
          have h55 := h50 _ h54
          try dsimp only at h55
          refine GL.weak (env' := [(8, v0), (9, .int .i64 ((x0).length : Int)), (10, .int .i64 (i29 : Int)), (19, .bool x45)]) (L' := [imm (TR.sl TR.int) v0 x0]) (fun _ _ st => st) ?_
          refine GL.cond rfl (fun b56 => ?_) (fun b56 => ?_)
          · replace h55 := ite_t b56 h55
            refine GL.seq ?_
            refine GL.region ?_
            refine RL.asg rfl rfl rfl ?_
            refine RL.finG ?_
            cases h55
            replace h33 : some (Fl.rt _) = some y22 := h33
            cases h33
            have hh := h27 _ h25
            subst hh
            exact GL.ret (Gx.ret (v := .int .i64 (1 : Int)) (res1 rfl rfl) (fun a w st => st.toPostC rfl))
          · replace h55 := ite_f b56 h55
            refine GL.skip ?_
            refine GL.nilB ?_
            refine GL.region ?_
            refine RL.binI (v := .int .i64 ((i29 + 1 : Nat) : Int)) rfl rfl rfl rfl (binI_succ i29 (by omega)) ?_
            refine RL.mv rfl rfl rfl ?_
            refine RL.fin ?_
            cases h55
            exact fun a w st => lop_intro (i29 + 1, r41) ⟨by show i29 + 1 + r41.length = (x0).length; simp only [List.length_cons] at h35; omega, h42, h33⟩ (by simp) (St.cut [0] ⟨rfl, rfl, rfl, trivial⟩ (by decide) rfl st)
      · have h38 : ¬ i29 < (x0).length := by have := of_decide_eq_false b37; omega
        obtain rfl : r30 = [] := by rw [← h36]; exact List.drop_of_length_le (by omega)
        replace h34 : some (Fl.nx _) = some y22 := h34
        cases h34
        exact GL.exit (fun a w st => mid_intro () h25 (St.cut [] trivial (by decide) rfl st))
    · rintro ⟨⟩ h57
      have h58 := h26 _ h57
      try dsimp only at h58
      refine GL.weak (env' := []) (L' := []) (fun _ _ st => st) ?_
      refine GL.seq ?_
      refine GL.region ?_
      refine RL.asg rfl rfl rfl ?_
      refine RL.finG ?_
      have h58 := Option.some.inj h58
      subst h58
      exact GL.ret (Gx.ret (v := .int .i64 (0 : Int)) (res1 rfl rfl) (fun a w st => st.toPostC rfl))

set_option maxHeartbeats 4000000 in
theorem piles_Move_c (S : Hp) (w : World) (hS : S.sub w) (v0 : Value) (x0 : (List Int)) (k0 : ((TR.sl TR.int)).vrep S v0 x0) (res : Int × Int × Int) (hm : piles_Move_m x0 = some res) : Calls Try.prog 20 #[v0] w (PostC w (.tuple #[.int .i64 res.1, .int .i64 res.2.1, .int .i64 res.2.2])) := by
  refine calls_enter 45 Try.func20 Try.ntmps20 rfl S true [(0, v0)] [imm (TR.sl TR.int) v0 x0] rfl ⟨rfl, trivial⟩ hS ⟨k0, trivial⟩ ?_
  unfold piles_Move_m at hm
  refine GL.seq ?_
  refine GL.region ?_
  refine RL.asg rfl rfl rfl ?_
  refine RL.asg rfl rfl rfl ?_
  refine RL.asg rfl rfl rfl ?_
  refine RL.finG ?_
  refine GL.seq ?_
  refine GL.seq ?_
  refine GL.region ?_
  refine RL.mv rfl rfl rfl ?_
  obtain ⟨y4, e5, hm⟩ := bind_some hm
  refine RL.callC (v := .int .i64 y4) (vs := [v0]) Try_fit30 rfl rfl rfl rfl (fun U w hU hW hL => piles_Check_c U w hU _ _ (hL 0 _ _ rfl Seen.imm) _ e5) ?_
  refine RL.asg rfl rfl rfl ?_
  refine RL.finG ?_
  refine GL.seq ?_
  refine GL.region ?_
  refine RL.mv rfl rfl rfl ?_
  refine RL.binI (v := .bool (y4 != (0 : Int))) rfl rfl rfl rfl rfl ?_
  refine RL.finG ?_
  refine GL.cond rfl (fun b6 => ?_) (fun b6 => ?_)
  · replace hm := ite_t b6 hm
    refine GL.seq ?_
    refine GL.region ?_
    refine RL.mv rfl rfl rfl ?_
    refine RL.asg rfl rfl rfl ?_
    refine RL.asg rfl rfl rfl ?_
    refine RL.asg rfl rfl rfl ?_
    refine RL.finG ?_
    have hm := Option.some.inj hm
    subst hm
    exact GL.ret (Gx.ret (v := .tuple #[.int .i64 (0 : Int), .int .i64 (0 : Int), .int .i64 y4]) (res3 rfl rfl rfl rfl) (fun a w st => st.toPostC rfl))
  · replace hm := ite_f b6 hm
    refine GL.skip ?_
    refine GL.seq ?_
    refine GL.region ?_
    refine RL.asg rfl rfl rfl ?_
    refine RL.finG ?_
    refine GL.seq ?_
    refine GL.seq ?_
    refine GL.region ?_
    refine RL.mv rfl rfl rfl ?_
    refine RL.lenS 0 Try.underlying27 rfl rfl rfl rfl SlOf.imm ?_
    refine RL.mv rfl rfl rfl ?_
    refine RL.finG ?_
    refine GL.open_ 0 rfl (fun S h => len_imm S h) (fun n12 => ?_)
    obtain ⟨y13, K14, h15, h16, h17, h18, h19⟩ := bindR_K hm
    refine GL.join (ι := Int) (fun (p : Int) => [(0, v0), (6, .int .i64 p)]) (fun (p : Int) => [imm (TR.sl TR.int) v0 x0]) (fun (p : Int) => K14 (.nx p)) ?_ ?_
    · refine GL.block ?_
      refine GL.loop (ι := Nat × (List Int) × Int) (fun (p : Nat × (List Int) × Int) => [(0, v0), (6, .int .i64 p.2.2), (16, v0), (17, .int .i64 ((x0).length : Int)), (18, .int .i64 (p.1 : Int))]) (fun (p : Nat × (List Int) × Int) => [imm (TR.sl TR.int) v0 x0]) (fun (p : Nat × (List Int) × Int) => p.1 + p.2.1.length = (x0).length ∧ List.drop p.1 x0 = p.2.1 ∧ rangeL piles_Move_b1 p.2.1 p.1 p.2.2 = some y13) (fun (p : Nat × (List Int) × Int) => p.2.1.length) (0, x0, (0 : Int)) ⟨by simp, by simp, h15⟩ (fun a w st => St.cut [0] ⟨rfl, rfl, rfl, rfl, rfl, trivial⟩ (by decide) rfl st) ?_
      rintro ⟨i20, r21, x7⟩ ⟨h26, h27, h25⟩
      try dsimp only at h26 h27 h25
      refine GL.weak (env' := [(0, v0), (6, .int .i64 x7), (16, v0), (17, .int .i64 ((x0).length : Int)), (18, .int .i64 (i20 : Int))]) (L' := [imm (TR.sl TR.int) v0 x0]) (fun _ _ st => st) ?_
      refine GL.seq ?_
      refine GL.region ?_
      refine RL.binI (v := .bool (decide ((i20 : Int) < ((x0).length : Int)))) rfl rfl rfl rfl rfl ?_
      refine RL.finG ?_
      refine GL.seq ?_
      refine GL.cond rfl (fun b28 => ?_) (fun b28 => ?_)
      · have h29 : i20 < (x0).length := by have := of_decide_eq_true b28; omega
        obtain ⟨y30, r32, hr, e31, h33⟩ := drop_cons h27 rfl h29
        subst hr
        obtain ⟨z22, h23, h24⟩ := rangeL_some h25
        unfold piles_Move_b1 at h23
        try dsimp only at h23
        refine GL.skip ?_
        refine GL.seq ?_
        refine GL.block ?_
        refine GL.seq ?_
        refine GL.region ?_
        refine RL.idxS (sz := 1) 0 Try.underlying27 Try_ln3 rfl rfl rfl rfl rfl SlOf.imm (by omega) (by omega) ?_
        refine RL.ldSx (i := i20) (e' := y30) 0 Ex.ik Try_ln3 rfl rfl rfl rfl SlOf.imm e31 Part.self ?_
        refine RL.asg rfl rfl rfl ?_
        refine RL.finG ?_
        refine GL.region ?_
        refine RL.mv rfl rfl rfl ?_
        refine RL.mv rfl rfl rfl ?_
        refine RL.binI (v := .int .i64 (bits .xor .i64 x7 y30)) rfl rfl rfl rfl rfl ?_
        refine RL.asg rfl rfl rfl ?_
        refine RL.finG ?_
        refine GL.nilB ?_
        refine GL.region ?_
        refine RL.binI (v := .int .i64 ((i20 + 1 : Nat) : Int)) rfl rfl rfl rfl (binI_succ i20 (by omega)) ?_
        refine RL.mv rfl rfl rfl ?_
        refine RL.fin ?_
        cases h23
        exact fun a w st => lop_intro (i20 + 1, r32, bits .xor .i64 x7 y30) ⟨by show i20 + 1 + r32.length = (x0).length; simp only [List.length_cons] at h26; omega, h33, h24⟩ (by simp) (St.cut [0] ⟨rfl, rfl, rfl, rfl, rfl, trivial⟩ (by decide) rfl st)
      · have h29 : ¬ i20 < (x0).length := by have := of_decide_eq_false b28; omega
        obtain rfl : r21 = [] := by rw [← h27]; exact List.drop_of_length_le (by omega)
        replace h25 : some (Fl.nx _) = some y13 := h25
        cases h25
        exact GL.exit (fun a w st => mid_intro x7 h16 (St.cut [0] ⟨rfl, rfl, trivial⟩ (by decide) rfl st))
    · rintro x7 h34
      have h35 := h17 _ h34
      try dsimp only at h35
      refine GL.weak (env' := [(0, v0), (6, .int .i64 x7)]) (L' := [imm (TR.sl TR.int) v0 x0]) (fun _ _ st => st) ?_
      refine GL.seq ?_
      refine GL.seq ?_
      refine GL.region ?_
      refine RL.mv rfl rfl rfl ?_
      refine RL.lenS 0 Try.underlying27 rfl rfl rfl rfl SlOf.imm ?_
      refine RL.mv rfl rfl rfl ?_
      refine RL.finG ?_
      refine GL.open_ 0 rfl (fun S h => len_imm S h) (fun n41 => ?_)
      obtain ⟨y42, K43, h44, h45, h46, h47, h48⟩ := bindR_K h35
      refine GL.join (ι := Unit) (fun (p : Unit) => []) (fun (p : Unit) => []) (fun (p : Unit) => K43 (.nx ())) ?_ ?_
      · refine GL.block ?_
        refine GL.loop (ι := Nat × (List Int)) (fun (p : Nat × (List Int)) => [(6, .int .i64 x7), (26, v0), (27, .int .i64 ((x0).length : Int)), (28, .int .i64 (p.1 : Int))]) (fun (p : Nat × (List Int)) => [imm (TR.sl TR.int) v0 x0]) (fun (p : Nat × (List Int)) => p.1 + p.2.length = (x0).length ∧ List.drop p.1 x0 = p.2 ∧ rangeL (piles_Move_b2 x7) p.2 p.1 () = some y42) (fun (p : Nat × (List Int)) => p.2.length) (0, x0) ⟨by simp, by simp, h44⟩ (fun a w st => St.cut [0] ⟨rfl, rfl, rfl, rfl, trivial⟩ (by decide) rfl st) ?_
        rintro ⟨i49, r50⟩ ⟨h55, h56, h54⟩
        try dsimp only at h55 h56 h54
        refine GL.weak (env' := [(6, .int .i64 x7), (26, v0), (27, .int .i64 ((x0).length : Int)), (28, .int .i64 (i49 : Int))]) (L' := [imm (TR.sl TR.int) v0 x0]) (fun _ _ st => st) ?_
        refine GL.seq ?_
        refine GL.region ?_
        refine RL.binI (v := .bool (decide ((i49 : Int) < ((x0).length : Int)))) rfl rfl rfl rfl rfl ?_
        refine RL.finG ?_
        refine GL.seq ?_
        refine GL.cond rfl (fun b57 => ?_) (fun b57 => ?_)
        · have h58 : i49 < (x0).length := by have := of_decide_eq_true b57; omega
          obtain ⟨y59, r61, hr, e60, h62⟩ := drop_cons h56 rfl h58
          subst hr
          obtain ⟨z51, h52, h53⟩ := rangeL_some h54
          unfold piles_Move_b2 at h52
          try dsimp only at h52
          refine GL.skip ?_
          refine GL.seq ?_
          refine GL.block ?_
          refine GL.seq ?_
          refine GL.region ?_
          refine RL.mv rfl rfl rfl ?_
          refine RL.idxS (sz := 1) 0 Try.underlying27 Try_ln3 rfl rfl rfl rfl rfl SlOf.imm (by omega) (by omega) ?_
          refine RL.ldSx (i := i49) (e' := y59) 0 Ex.ik Try_ln3 rfl rfl rfl rfl SlOf.imm e60 Part.self ?_
          refine RL.asg rfl rfl rfl ?_
          refine RL.asg rfl rfl rfl ?_
          refine RL.finG ?_
          refine GL.seq ?_
          refine GL.region ?_
          refine RL.mv rfl rfl rfl ?_
          refine RL.mv rfl rfl rfl ?_
          refine RL.binI (v := .int .i64 (bits .xor .i64 y59 x7)) rfl rfl rfl rfl rfl ?_
          refine RL.mv rfl rfl rfl ?_
          refine RL.binI (v := .bool (decide ((bits .xor .i64 y59 x7) < y59))) rfl rfl rfl rfl rfl ?_
          refine RL.finG ?_
          refine GL.cond rfl (fun b63 => ?_) (fun b63 => ?_)
          · replace h52 := ite_t b63 h52
            refine GL.seq ?_
            refine GL.region ?_
            refine RL.mv rfl rfl rfl ?_
            refine RL.mv rfl rfl rfl ?_
            refine RL.mv rfl rfl rfl ?_
            refine RL.mv rfl rfl rfl ?_
            refine RL.binI (v := .int .i64 (bits .xor .i64 y59 x7)) rfl rfl rfl rfl rfl ?_
            refine RL.binI (v := .int .i64 (wsub y59 (bits .xor .i64 y59 x7))) rfl rfl rfl rfl rfl ?_
            refine RL.asg rfl rfl rfl ?_
            refine RL.asg rfl rfl rfl ?_
            refine RL.asg rfl rfl rfl ?_
            refine RL.finG ?_
            cases h52
            replace h53 : some (Fl.rt _) = some y42 := h53
            cases h53
            have hh := h47 _ h45
            subst hh
            exact GL.ret (Gx.ret (v := .tuple #[.int .i64 (i49 : Int), .int .i64 (wsub y59 (bits .xor .i64 y59 x7)), .int .i64 (0 : Int)]) (res3 rfl rfl rfl rfl) (fun a w st => st.toPostC rfl))
          · replace h52 := ite_f b63 h52
            refine GL.skip ?_
            refine GL.nilB ?_
            refine GL.region ?_
            refine RL.binI (v := .int .i64 ((i49 + 1 : Nat) : Int)) rfl rfl rfl rfl (binI_succ i49 (by omega)) ?_
            refine RL.mv rfl rfl rfl ?_
            refine RL.fin ?_
            cases h52
            exact fun a w st => lop_intro (i49 + 1, r61) ⟨by show i49 + 1 + r61.length = (x0).length; simp only [List.length_cons] at h55; omega, h62, h53⟩ (by simp) (St.cut [0] ⟨rfl, rfl, rfl, rfl, trivial⟩ (by decide) rfl st)
        · have h58 : ¬ i49 < (x0).length := by have := of_decide_eq_false b57; omega
          obtain rfl : r50 = [] := by rw [← h56]; exact List.drop_of_length_le (by omega)
          replace h54 : some (Fl.nx _) = some y42 := h54
          cases h54
          exact GL.exit (fun a w st => mid_intro () h45 (St.cut [] trivial (by decide) rfl st))
      · rintro ⟨⟩ h64
        have h65 := h46 _ h64
        try dsimp only at h65
        refine GL.weak (env' := []) (L' := []) (fun _ _ st => st) ?_
        refine GL.seq ?_
        refine GL.region ?_
        refine RL.asg rfl rfl rfl ?_
        refine RL.asg rfl rfl rfl ?_
        refine RL.asg rfl rfl rfl ?_
        refine RL.finG ?_
        have h65 := Option.some.inj h65
        subst h65
        exact GL.ret (Gx.ret (v := .tuple #[.int .i64 (0 : Int), .int .i64 (0 : Int), .int .i64 (4 : Int)]) (res3 rfl rfl rfl rfl) (fun a w st => st.toPostC rfl))

set_option maxHeartbeats 4000000 in
theorem piles_Wins_c (S : Hp) (w : World) (hS : S.sub w) (v0 : Value) (x0 : (List Int)) (k0 : ((TR.sl TR.int)).vrep S v0 x0) (res : Bool × Int) (hm : piles_Wins_m x0 = some res) : Calls Try.prog 19 #[v0] w (PostC w (.tuple #[.bool res.1, .int .i64 res.2])) := by
  refine calls_enter 25 Try.func19 Try.ntmps19 rfl S true [(0, v0)] [imm (TR.sl TR.int) v0 x0] rfl ⟨rfl, trivial⟩ hS ⟨k0, trivial⟩ ?_
  unfold piles_Wins_m at hm
  refine GL.seq ?_
  refine GL.region ?_
  refine RL.asg rfl rfl rfl ?_
  refine RL.asg rfl rfl rfl ?_
  refine RL.finG ?_
  refine GL.seq ?_
  refine GL.seq ?_
  refine GL.region ?_
  refine RL.mv rfl rfl rfl ?_
  obtain ⟨y4, e5, hm⟩ := bind_some hm
  refine RL.callC (v := .int .i64 y4) (vs := [v0]) Try_fit30 rfl rfl rfl rfl (fun U w hU hW hL => piles_Check_c U w hU _ _ (hL 0 _ _ rfl Seen.imm) _ e5) ?_
  refine RL.asg rfl rfl rfl ?_
  refine RL.finG ?_
  refine GL.seq ?_
  refine GL.region ?_
  refine RL.mv rfl rfl rfl ?_
  refine RL.binI (v := .bool (y4 != (0 : Int))) rfl rfl rfl rfl rfl ?_
  refine RL.finG ?_
  refine GL.cond rfl (fun b6 => ?_) (fun b6 => ?_)
  · replace hm := ite_t b6 hm
    refine GL.seq ?_
    refine GL.region ?_
    refine RL.mv rfl rfl rfl ?_
    refine RL.asg rfl rfl rfl ?_
    refine RL.asg rfl rfl rfl ?_
    refine RL.finG ?_
    have hm := Option.some.inj hm
    subst hm
    exact GL.ret (Gx.ret (v := .tuple #[.bool false, .int .i64 y4]) (res2 rfl rfl rfl) (fun a w st => st.toPostC rfl))
  · replace hm := ite_f b6 hm
    refine GL.skip ?_
    refine GL.seq ?_
    refine GL.region ?_
    refine RL.asg rfl rfl rfl ?_
    refine RL.finG ?_
    refine GL.seq ?_
    refine GL.seq ?_
    refine GL.region ?_
    refine RL.mv rfl rfl rfl ?_
    refine RL.lenS 0 Try.underlying27 rfl rfl rfl rfl SlOf.imm ?_
    refine RL.mv rfl rfl rfl ?_
    refine RL.finG ?_
    refine GL.open_ 0 rfl (fun S h => len_imm S h) (fun n12 => ?_)
    obtain ⟨y13, K14, h15, h16, h17, h18, h19⟩ := bindR_K hm
    refine GL.join (ι := Int) (fun (p : Int) => [(5, .int .i64 p)]) (fun (p : Int) => []) (fun (p : Int) => K14 (.nx p)) ?_ ?_
    · refine GL.block ?_
      refine GL.loop (ι := Nat × (List Int) × Int) (fun (p : Nat × (List Int) × Int) => [(5, .int .i64 p.2.2), (13, v0), (14, .int .i64 ((x0).length : Int)), (15, .int .i64 (p.1 : Int))]) (fun (p : Nat × (List Int) × Int) => [imm (TR.sl TR.int) v0 x0]) (fun (p : Nat × (List Int) × Int) => p.1 + p.2.1.length = (x0).length ∧ List.drop p.1 x0 = p.2.1 ∧ rangeL piles_Wins_b1 p.2.1 p.1 p.2.2 = some y13) (fun (p : Nat × (List Int) × Int) => p.2.1.length) (0, x0, (0 : Int)) ⟨by simp, by simp, h15⟩ (fun a w st => St.cut [0] ⟨rfl, rfl, rfl, rfl, trivial⟩ (by decide) rfl st) ?_
      rintro ⟨i20, r21, x7⟩ ⟨h26, h27, h25⟩
      try dsimp only at h26 h27 h25
      refine GL.weak (env' := [(5, .int .i64 x7), (13, v0), (14, .int .i64 ((x0).length : Int)), (15, .int .i64 (i20 : Int))]) (L' := [imm (TR.sl TR.int) v0 x0]) (fun _ _ st => st) ?_
      refine GL.seq ?_
      refine GL.region ?_
      refine RL.binI (v := .bool (decide ((i20 : Int) < ((x0).length : Int)))) rfl rfl rfl rfl rfl ?_
      refine RL.finG ?_
      refine GL.seq ?_
      refine GL.cond rfl (fun b28 => ?_) (fun b28 => ?_)
      · have h29 : i20 < (x0).length := by have := of_decide_eq_true b28; omega
        obtain ⟨y30, r32, hr, e31, h33⟩ := drop_cons h27 rfl h29
        subst hr
        obtain ⟨z22, h23, h24⟩ := rangeL_some h25
        unfold piles_Wins_b1 at h23
        try dsimp only at h23
        refine GL.skip ?_
        refine GL.seq ?_
        refine GL.block ?_
        refine GL.seq ?_
        refine GL.region ?_
        refine RL.idxS (sz := 1) 0 Try.underlying27 Try_ln3 rfl rfl rfl rfl rfl SlOf.imm (by omega) (by omega) ?_
        refine RL.ldSx (i := i20) (e' := y30) 0 Ex.ik Try_ln3 rfl rfl rfl rfl SlOf.imm e31 Part.self ?_
        refine RL.asg rfl rfl rfl ?_
        refine RL.finG ?_
        refine GL.region ?_
        refine RL.mv rfl rfl rfl ?_
        refine RL.mv rfl rfl rfl ?_
        refine RL.binI (v := .int .i64 (bits .xor .i64 x7 y30)) rfl rfl rfl rfl rfl ?_
        refine RL.asg rfl rfl rfl ?_
        refine RL.finG ?_
        refine GL.nilB ?_
        refine GL.region ?_
        refine RL.binI (v := .int .i64 ((i20 + 1 : Nat) : Int)) rfl rfl rfl rfl (binI_succ i20 (by omega)) ?_
        refine RL.mv rfl rfl rfl ?_
        refine RL.fin ?_
        cases h23
        exact fun a w st => lop_intro (i20 + 1, r32, bits .xor .i64 x7 y30) ⟨by show i20 + 1 + r32.length = (x0).length; simp only [List.length_cons] at h26; omega, h33, h24⟩ (by simp) (St.cut [0] ⟨rfl, rfl, rfl, rfl, trivial⟩ (by decide) rfl st)
      · have h29 : ¬ i20 < (x0).length := by have := of_decide_eq_false b28; omega
        obtain rfl : r21 = [] := by rw [← h27]; exact List.drop_of_length_le (by omega)
        replace h25 : some (Fl.nx _) = some y13 := h25
        cases h25
        exact GL.exit (fun a w st => mid_intro x7 h16 (St.cut [] ⟨rfl, trivial⟩ (by decide) rfl st))
    · rintro x7 h34
      have h35 := h17 _ h34
      try dsimp only at h35
      refine GL.weak (env' := [(5, .int .i64 x7)]) (L' := []) (fun _ _ st => st) ?_
      refine GL.seq ?_
      refine GL.region ?_
      refine RL.mv rfl rfl rfl ?_
      refine RL.binI (v := .bool (x7 != (0 : Int))) rfl rfl rfl rfl rfl ?_
      refine RL.asg rfl rfl rfl ?_
      refine RL.asg rfl rfl rfl ?_
      refine RL.finG ?_
      have h35 := Option.some.inj h35
      subst h35
      exact GL.ret (Gx.ret (v := .tuple #[.bool (x7 != (0 : Int)), .int .i64 (0 : Int)]) (res2 rfl rfl rfl) (fun a w st => st.toPostC rfl))

set_option maxHeartbeats 4000000 in
theorem slices_IndexFunc_api_Errno_api_Errno_c (S : Hp) (w : World) (hS : S.sub w) (v0 : Value) (x0 : (List Int)) (k0 : ((TR.sl TR.int)).vrep S v0 x0) (f1 : FuncId) (c1 : Array Value) (t1 : Fit Try.prog f1) (g1 : Int → Option Bool) (k1 : ∀ (U : Hp) (w' : World), Hp.le S U → U.sub w' → ∀ (a0 : Int) (rr : Bool), g1 a0 = some rr → Calls Try.prog f1 (#[.int .i64 a0] ++ c1) w' (PostV w' (.bool rr))) (res : Int) (hm : slices_IndexFunc_api_Errno_api_Errno_m x0 g1 = some res) : Calls Try.prog 34 #[v0, .func (.func f1) #[] c1] w (PostV w (.int .i64 res)) := by
  refine calls_enter 19 Try.func34 Try.ntmps34 rfl S false [(0, v0), (1, .func (.func f1) #[] c1)] [imm (TR.sl TR.int) v0 x0] rfl ⟨rfl, ⟨rfl, trivial⟩⟩ hS ⟨k0, trivial⟩ ?_
  unfold slices_IndexFunc_api_Errno_api_Errno_m at hm
  refine GL.seq ?_
  refine GL.region ?_
  refine RL.asg rfl rfl rfl ?_
  refine RL.finG ?_
  refine GL.seq ?_
  refine GL.seq ?_
  refine GL.region ?_
  refine RL.mv rfl rfl rfl ?_
  refine RL.lenS 0 Try.underlying62 rfl rfl rfl rfl SlOf.imm ?_
  refine RL.mv rfl rfl rfl ?_
  refine RL.finG ?_
  refine GL.open_ 0 rfl (fun S h => len_imm S h) (fun n12 => ?_)
  obtain ⟨y13, K14, h15, h16, h17, h18, h19⟩ := bindR_K hm
  refine GL.join (ι := Unit) (fun (p : Unit) => []) (fun (p : Unit) => []) (fun (p : Unit) => K14 (.nx ())) ?_ ?_
  · refine GL.block ?_
    refine GL.loop (ι := Nat × (List Int)) (fun (p : Nat × (List Int)) => [(0, v0), (1, .func (.func f1) #[] c1), (7, .int .i64 ((x0).length : Int)), (8, .int .i64 (p.1 : Int))]) (fun (p : Nat × (List Int)) => [imm (TR.sl TR.int) v0 x0]) (fun (p : Nat × (List Int)) => p.1 + p.2.length = (x0).length ∧ List.drop p.1 x0 = p.2 ∧ rangeL (slices_IndexFunc_api_Errno_api_Errno_b1 g1) p.2 p.1 () = some y13) (fun (p : Nat × (List Int)) => p.2.length) (0, x0) ⟨by simp, by simp, h15⟩ (fun a w st => St.cut [0] ⟨rfl, rfl, rfl, rfl, trivial⟩ (by decide) rfl st) ?_
    rintro ⟨i20, r21⟩ ⟨h26, h27, h25⟩
    try dsimp only at h26 h27 h25
    refine GL.weak (env' := [(0, v0), (1, .func (.func f1) #[] c1), (7, .int .i64 ((x0).length : Int)), (8, .int .i64 (i20 : Int))]) (L' := [imm (TR.sl TR.int) v0 x0]) (fun _ _ st => st) ?_
    refine GL.seq ?_
    refine GL.region ?_
    refine RL.binI (v := .bool (decide ((i20 : Int) < ((x0).length : Int)))) rfl rfl rfl rfl rfl ?_
    refine RL.finG ?_
    refine GL.seq ?_
    refine GL.cond rfl (fun b28 => ?_) (fun b28 => ?_)
    · have h29 : i20 < (x0).length := by have := of_decide_eq_true b28; omega
      obtain ⟨y30, r32, hr, e31, h33⟩ := drop_cons h27 rfl h29
      subst hr
      obtain ⟨z22, h23, h24⟩ := rangeL_some h25
      unfold slices_IndexFunc_api_Errno_api_Errno_b1 at h23
      try dsimp only at h23
      refine GL.skip ?_
      refine GL.seq ?_
      refine GL.block ?_
      refine GL.seq ?_
      refine GL.region ?_
      refine RL.mv rfl rfl rfl ?_
      refine RL.asg rfl rfl rfl ?_
      refine RL.finG ?_
      refine GL.seq ?_
      refine GL.region ?_
      refine RL.mv rfl rfl rfl ?_
      refine RL.mv rfl rfl rfl ?_
      refine RL.mv rfl rfl rfl ?_
      refine RL.idxS (sz := 1) 0 Try.underlying62 Try_ln28 rfl rfl rfl rfl rfl SlOf.imm (by omega) (by omega) ?_
      refine RL.ldSx (i := i20) (e' := y30) 0 Ex.ik Try_ln28 rfl rfl rfl rfl SlOf.imm e31 Part.self ?_
      obtain ⟨y36, e37, h23⟩ := bind_some h23
      refine RL.callV (v := .bool y36) (vs := [.int .i64 y30]) t1 rfl (Or.inl rfl) rfl rfl rfl rfl (fun U w hU hW hL => k1 U w hW hU y30 _ e37) ?_
      refine RL.finG ?_
      refine GL.cond rfl (fun b38 => ?_) (fun b38 => ?_)
      · replace h23 := ite_t b38 h23
        refine GL.seq ?_
        refine GL.region ?_
        refine RL.mv rfl rfl rfl ?_
        refine RL.asg rfl rfl rfl ?_
        refine RL.finG ?_
        cases h23
        replace h24 : some (Fl.rt _) = some y13 := h24
        cases h24
        have hh := h18 _ h16
        subst hh
        exact GL.ret (Gx.ret (v := .int .i64 (i20 : Int)) (res1 rfl rfl) (fun a w st => st.toPostV))
      · replace h23 := ite_f b38 h23
        refine GL.skip ?_
        refine GL.nilB ?_
        refine GL.region ?_
        refine RL.binI (v := .int .i64 ((i20 + 1 : Nat) : Int)) rfl rfl rfl rfl (binI_succ i20 (by omega)) ?_
        refine RL.mv rfl rfl rfl ?_
        refine RL.fin ?_
        cases h23
        exact fun a w st => lop_intro (i20 + 1, r32) ⟨by show i20 + 1 + r32.length = (x0).length; simp only [List.length_cons] at h26; omega, h33, h24⟩ (by simp) (St.cut [0] ⟨rfl, rfl, rfl, rfl, trivial⟩ (by decide) rfl st)
    · have h29 : ¬ i20 < (x0).length := by have := of_decide_eq_false b28; omega
      obtain rfl : r21 = [] := by rw [← h27]; exact List.drop_of_length_le (by omega)
      replace h25 : some (Fl.nx _) = some y13 := h25
      cases h25
      exact GL.exit (fun a w st => mid_intro () h16 (St.cut [] trivial (by decide) rfl st))
  · rintro ⟨⟩ h39
    have h40 := h17 _ h39
    try dsimp only at h40
    refine GL.weak (env' := []) (L' := []) (fun _ _ st => st) ?_
    refine GL.seq ?_
    refine GL.region ?_
    refine RL.asg rfl rfl rfl ?_
    refine RL.finG ?_
    have h40 := Option.some.inj h40
    subst h40
    exact GL.ret (Gx.ret (v := .int .i64 (-1 : Int)) (res1 rfl rfl) (fun a w st => st.toPostV))

set_option maxHeartbeats 4000000 in
theorem slices_ContainsFunc_api_Errno_api_Errno_c (S : Hp) (w : World) (hS : S.sub w) (v0 : Value) (x0 : (List Int)) (k0 : ((TR.sl TR.int)).vrep S v0 x0) (f1 : FuncId) (c1 : Array Value) (t1 : Fit Try.prog f1) (g1 : Int → Option Bool) (k1 : ∀ (U : Hp) (w' : World), Hp.le S U → U.sub w' → ∀ (a0 : Int) (rr : Bool), g1 a0 = some rr → Calls Try.prog f1 (#[.int .i64 a0] ++ c1) w' (PostV w' (.bool rr))) (res : Bool) (hm : slices_ContainsFunc_api_Errno_api_Errno_m x0 g1 = some res) : Calls Try.prog 31 #[v0, .func (.func f1) #[] c1] w (PostV w (.bool res)) := by
  refine calls_enter 9 Try.func31 Try.ntmps31 rfl S false [(0, v0), (1, .func (.func f1) #[] c1)] [imm (TR.sl TR.int) v0 x0] rfl ⟨rfl, ⟨rfl, trivial⟩⟩ hS ⟨k0, trivial⟩ ?_
  unfold slices_ContainsFunc_api_Errno_api_Errno_m at hm
  refine GL.seq ?_
  refine GL.region ?_
  refine RL.asg rfl rfl rfl ?_
  refine RL.finG ?_
  refine GL.seq ?_
  refine GL.region ?_
  refine RL.mv rfl rfl rfl ?_
  refine RL.mv rfl rfl rfl ?_
  obtain ⟨y5, e6, hm⟩ := bind_some hm
  refine RL.callV (v := .int .i64 y5) (vs := [v0, .func (.func f1) #[] c1]) Try_fit34 rfl (Or.inl rfl) rfl rfl rfl rfl (fun U w hU hW hL => slices_IndexFunc_api_Errno_api_Errno_c U w hU _ _ (hL 0 _ _ rfl Seen.imm) f1 c1 t1 g1 (fun U' w' hle => k1 U' w' (Hp.le_trans hW hle)) _ e6) ?_
  refine RL.binI (v := .bool (decide (y5 ≥ (0 : Int)))) rfl rfl rfl rfl rfl ?_
  refine RL.asg rfl rfl rfl ?_
  refine RL.finG ?_
  have hm := Option.some.inj hm
  subst hm
  exact GL.ret (Gx.ret (v := .bool (decide (y5 ≥ (0 : Int)))) (res1 rfl rfl) (fun a w st => st.toPostV))

set_option maxHeartbeats 4000000 in
theorem pk_good_1_c (S : Hp) (w : World) (hS : S.sub w) (x0 : Int) (res : Bool) (hm : pk_good_1_m x0 = some res) : Calls Try.prog 32 #[.int .i64 x0] w (PostC w (.bool res)) := by
  refine calls_enter 5 Try.func32 Try.ntmps32 rfl S true [(0, .int .i64 x0)] [] rfl ⟨rfl, trivial⟩ hS trivial ?_
  unfold pk_good_1_m at hm
  refine GL.seq ?_
  refine GL.region ?_
  refine RL.asg rfl rfl rfl ?_
  refine RL.finG ?_
  refine GL.seq ?_
  refine GL.region ?_
  refine RL.mv rfl rfl rfl ?_
  refine RL.binI (v := .bool (x0 != (0 : Int))) rfl rfl rfl rfl rfl ?_
  refine RL.asg rfl rfl rfl ?_
  refine RL.finG ?_
  have hm := Option.some.inj hm
  subst hm
  exact GL.ret (Gx.ret (v := .bool (x0 != (0 : Int))) (res1 rfl rfl) (fun a w st => st.toPostC rfl))

set_option maxHeartbeats 4000000 in
theorem pk_good_c (S : Hp) (w : World) (hS : S.sub w) (v0 : Value) (x0 : (List Int)) (k0 : ((TR.sl TR.int)).vrep S v0 x0) (res : Bool) (hm : pk_good_m x0 = some res) : Calls Try.prog 22 #[v0] w (PostV w (.bool res)) := by
  refine calls_enter 6 Try.func22 Try.ntmps22 rfl S false [(0, v0)] [imm (TR.sl TR.int) v0 x0] rfl ⟨rfl, trivial⟩ hS ⟨k0, trivial⟩ ?_
  unfold pk_good_m at hm
  refine GL.seq ?_
  refine GL.region ?_
  refine RL.asg rfl rfl rfl ?_
  refine RL.finG ?_
  refine GL.seq ?_
  refine GL.region ?_
  refine RL.mv rfl rfl rfl ?_
  obtain ⟨y4, e5, hm⟩ := bind_some hm
  refine RL.callV (v := .bool y4) (vs := [v0, .func (.func 32) #[] #[]]) Try_fit31 rfl (Or.inl rfl) rfl rfl rfl rfl (fun U w hU hW hL => slices_ContainsFunc_api_Errno_api_Errno_c U w hU _ _ (hL 0 _ _ rfl Seen.imm) 32 #[] Try_fit32 (fun a0 => pk_good_1_m a0) (fun U' w' hle hU' a0 rr hr => (pk_good_1_c U' w' hU' a0 rr hr).mono (fun _ _ z => z.toV)) _ e5) ?_
  refine RL.notB rfl rfl rfl ?_
  refine RL.asg rfl rfl rfl ?_
  refine RL.finG ?_
  have hm := Option.some.inj hm
  subst hm
  exact GL.ret (Gx.ret (v := .bool (!y4)) (res1 rfl rfl) (fun a w st => st.toPostV))

set_option maxHeartbeats 4000000 in
theorem pk_nims_c (S : Hp) (w : World) (hS : S.sub w)  (res : Bool) (hm : pk_nims_m = some res) : Calls Try.prog 17 #[] w (PostV w (.bool res)) := by
  refine calls_enter 33 Try.func17 Try.ntmps17 rfl S false [] [] rfl trivial hS trivial ?_
  unfold pk_nims_m at hm
  refine GL.seq ?_
  refine GL.region ?_
  refine RL.asg rfl rfl rfl ?_
  refine RL.finG ?_
  refine GL.seq ?_
  refine GL.region ?_
  refine RL.bS (t := TR.int) (vs := [.int .i64 (1 : Int), .int .i64 (2 : Int), .int .i64 (4 : Int)]) ([(1 : Int), (2 : Int), (4 : Int)] : (List Int)) Try.underlying27 Try_lo3 rfl rfl rfl rfl ⟨VR.int, ⟨VR.int, ⟨VR.int, trivial⟩⟩⟩ rfl (by decide) ?_
  intro v4
  obtain ⟨y5, e6, hm⟩ := bind_some hm
  refine RL.callC (v := .tuple #[.int .i64 y5.1, .int .i64 y5.2.1, .int .i64 y5.2.2]) (vs := [v4]) Try_fit20 rfl rfl rfl rfl (fun U w hU hW hL => piles_Move_c U w hU _ _ (hL 0 _ _ rfl Seen.own) _ e6) ?_
  refine RL.mv rfl rfl rfl ?_
  refine RL.ext rfl rfl rfl rfl ?_
  refine RL.ext rfl rfl rfl rfl ?_
  refine RL.ext rfl rfl rfl rfl ?_
  refine RL.asg rfl rfl rfl ?_
  refine RL.asg rfl rfl rfl ?_
  refine RL.asg rfl rfl rfl ?_
  refine RL.finG ?_
  refine GL.seq ?_
  refine GL.region ?_
  refine RL.bS (t := TR.int) (vs := [.int .i64 (1 : Int), .int .i64 (2 : Int), .int .i64 (3 : Int)]) ([(1 : Int), (2 : Int), (3 : Int)] : (List Int)) Try.underlying27 Try_lo3 rfl rfl rfl rfl ⟨VR.int, ⟨VR.int, ⟨VR.int, trivial⟩⟩⟩ rfl (by decide) ?_
  intro v10
  obtain ⟨y11, e12, hm⟩ := bind_some hm
  refine RL.callC (v := .tuple #[.bool y11.1, .int .i64 y11.2]) (vs := [v10]) Try_fit19 rfl rfl rfl rfl (fun U w hU hW hL => piles_Wins_c U w hU _ _ (hL 1 _ _ rfl Seen.own) _ e12) ?_
  refine RL.mv rfl rfl rfl ?_
  refine RL.ext rfl rfl rfl rfl ?_
  refine RL.ext rfl rfl rfl rfl ?_
  refine RL.asg rfl rfl rfl ?_
  refine RL.asg rfl rfl rfl ?_
  refine RL.finG ?_
  refine GL.seq ?_
  obtain ⟨y26, K27, h28, h29, h30, h31, h32⟩ := bindR_K hm
  refine GL.join (ι := Bool) (fun (p : Bool) => [(0, .bool p)]) (fun (p : Bool) => []) (fun (p : Bool) => K27 (.nx p)) ?_ ?_
  · skip
    refine GL.region ?_
    refine RL.mv rfl rfl rfl ?_
    refine RL.mv rfl rfl rfl ?_
    refine RL.bS (t := TR.int) (vs := [.int .i64 y5.2.2, .int .i64 y11.2]) ([y5.2.2, y11.2] : (List Int)) Try.underlying62 Try_lo28 rfl rfl rfl rfl ⟨VR.int, ⟨VR.int, trivial⟩⟩ rfl (by decide) ?_
    intro v33
    obtain ⟨y34, e35, h28⟩ := bind_some h28
    refine RL.callV (v := .bool y34) (vs := [v33]) Try_fit22 rfl (Or.inl rfl) rfl rfl rfl rfl (fun U w hU hW hL => pk_good_c U w hU _ _ (hL 2 _ _ rfl Seen.own) _ e35) ?_
    refine RL.mv rfl rfl rfl ?_
    refine RL.split (t := 21) rfl (fun b36 => ?_) (fun b36 => ?_)
    · replace h28 := ite_t b36 h28
      refine RL.mv rfl rfl rfl ?_
      refine RL.binI (v := .bool (y5.1 == (2 : Int))) rfl rfl rfl rfl rfl ?_
      refine RL.pickT rfl rfl rfl rfl ?_
      refine RL.mv rfl rfl rfl ?_
      refine RL.split (t := 25) rfl (fun b37 => ?_) (fun b37 => ?_)
      · replace h28 := ite_t b37 h28
        refine RL.mv rfl rfl rfl ?_
        refine RL.binI (v := .bool (y5.2.1 == (1 : Int))) rfl rfl rfl rfl rfl ?_
        refine RL.pickT rfl rfl rfl rfl ?_
        refine RL.mv rfl rfl rfl ?_
        refine RL.split (t := 29) rfl (fun b38 => ?_) (fun b38 => ?_)
        · replace h28 := ite_t b38 h28
          refine RL.mv rfl rfl rfl ?_
          refine RL.notB rfl rfl rfl ?_
          refine RL.pickT rfl rfl rfl rfl ?_
          refine RL.asg rfl rfl rfl ?_
          refine RL.fin ?_
          cases h28
          exact fun a w st => mid_intro (!y11.1) h29 (St.cut [] ⟨rfl, trivial⟩ (by decide) rfl st)
        · replace h28 := ite_f b38 h28
          refine RL.skip rfl rfl ?_
          refine RL.skip rfl rfl ?_
          refine RL.pickF rfl rfl rfl rfl ?_
          refine RL.asg rfl rfl rfl ?_
          refine RL.fin ?_
          cases h28
          exact fun a w st => mid_intro false h29 (St.cut [] ⟨rfl, trivial⟩ (by decide) rfl st)
      · replace h28 := ite_f b37 h28
        refine RL.skip rfl rfl ?_
        refine RL.skip rfl rfl ?_
        refine RL.pickF rfl rfl rfl rfl ?_
        refine RL.mv rfl rfl rfl ?_
        refine RL.skip rfl rfl ?_
        refine RL.skip rfl rfl ?_
        refine RL.pickF rfl rfl rfl rfl ?_
        refine RL.asg rfl rfl rfl ?_
        refine RL.fin ?_
        cases h28
        exact fun a w st => mid_intro false h29 (St.cut [] ⟨rfl, trivial⟩ (by decide) rfl st)
    · replace h28 := ite_f b36 h28
      refine RL.skip rfl rfl ?_
      refine RL.skip rfl rfl ?_
      refine RL.pickF rfl rfl rfl rfl ?_
      refine RL.mv rfl rfl rfl ?_
      refine RL.skip rfl rfl ?_
      refine RL.skip rfl rfl ?_
      refine RL.pickF rfl rfl rfl rfl ?_
      refine RL.mv rfl rfl rfl ?_
      refine RL.skip rfl rfl ?_
      refine RL.skip rfl rfl ?_
      refine RL.pickF rfl rfl rfl rfl ?_
      refine RL.asg rfl rfl rfl ?_
      refine RL.fin ?_
      cases h28
      exact fun a w st => mid_intro false h29 (St.cut [] ⟨rfl, trivial⟩ (by decide) rfl st)
  · rintro x25 h39
    have h40 := h30 _ h39
    try dsimp only at h40
    refine GL.weak (env' := [(0, .bool x25)]) (L' := []) (fun _ _ st => st) ?_
    have h40 := Option.some.inj h40
    subst h40
    exact GL.ret (Gx.ret (v := .bool x25) (res1 rfl rfl) (fun a w st => st.toPostV))

set_option maxHeartbeats 4000000 in
theorem slices_Index_int_int_c (S : Hp) (w : World) (hS : S.sub w) (v0 : Value) (x0 : (List Int)) (k0 : ((TR.sl TR.int)).vrep S v0 x0) (x1 : Int) (res : Int) (hm : slices_Index_int_int_m x0 x1 = some res) : Calls Try.prog 33 #[v0, .int .i64 x1] w (PostC w (.int .i64 res)) := by
  refine calls_enter 19 Try.func33 Try.ntmps33 rfl S true [(0, v0), (1, .int .i64 x1)] [imm (TR.sl TR.int) v0 x0] rfl ⟨rfl, ⟨rfl, trivial⟩⟩ hS ⟨k0, trivial⟩ ?_
  unfold slices_Index_int_int_m at hm
  refine GL.seq ?_
  refine GL.region ?_
  refine RL.asg rfl rfl rfl ?_
  refine RL.finG ?_
  refine GL.seq ?_
  refine GL.seq ?_
  refine GL.region ?_
  refine RL.mv rfl rfl rfl ?_
  refine RL.lenS 0 Try.underlying27 rfl rfl rfl rfl SlOf.imm ?_
  refine RL.mv rfl rfl rfl ?_
  refine RL.finG ?_
  refine GL.open_ 0 rfl (fun S h => len_imm S h) (fun n8 => ?_)
  obtain ⟨y9, K10, h11, h12, h13, h14, h15⟩ := bindR_K hm
  refine GL.join (ι := Unit) (fun (p : Unit) => []) (fun (p : Unit) => []) (fun (p : Unit) => K10 (.nx ())) ?_ ?_
  · refine GL.block ?_
    refine GL.loop (ι := Nat × (List Int)) (fun (p : Nat × (List Int)) => [(0, v0), (1, .int .i64 x1), (7, .int .i64 ((x0).length : Int)), (8, .int .i64 (p.1 : Int))]) (fun (p : Nat × (List Int)) => [imm (TR.sl TR.int) v0 x0]) (fun (p : Nat × (List Int)) => p.1 + p.2.length = (x0).length ∧ List.drop p.1 x0 = p.2 ∧ rangeL (slices_Index_int_int_b1 x1) p.2 p.1 () = some y9) (fun (p : Nat × (List Int)) => p.2.length) (0, x0) ⟨by simp, by simp, h11⟩ (fun a w st => St.cut [0] ⟨rfl, rfl, rfl, rfl, trivial⟩ (by decide) rfl st) ?_
    rintro ⟨i16, r17⟩ ⟨h22, h23, h21⟩
    try dsimp only at h22 h23 h21
    refine GL.weak (env' := [(0, v0), (1, .int .i64 x1), (7, .int .i64 ((x0).length : Int)), (8, .int .i64 (i16 : Int))]) (L' := [imm (TR.sl TR.int) v0 x0]) (fun _ _ st => st) ?_
    refine GL.seq ?_
    refine GL.region ?_
    refine RL.binI (v := .bool (decide ((i16 : Int) < ((x0).length : Int)))) rfl rfl rfl rfl rfl ?_
    refine RL.finG ?_
    refine GL.seq ?_
    refine GL.cond rfl (fun b24 => ?_) (fun b24 => ?_)
    · have h25 : i16 < (x0).length := by have := of_decide_eq_true b24; omega
      obtain ⟨y26, r28, hr, e27, h29⟩ := drop_cons h23 rfl h25
      subst hr
      obtain ⟨z18, h19, h20⟩ := rangeL_some h21
      unfold slices_Index_int_int_b1 at h19
      try dsimp only at h19
      refine GL.skip ?_
      refine GL.seq ?_
      refine GL.block ?_
      refine GL.seq ?_
      refine GL.region ?_
      refine RL.mv rfl rfl rfl ?_
      refine RL.asg rfl rfl rfl ?_
      refine RL.finG ?_
      refine GL.seq ?_
      refine GL.region ?_
      refine RL.mv rfl rfl rfl ?_
      refine RL.mv rfl rfl rfl ?_
      refine RL.mv rfl rfl rfl ?_
      refine RL.idxS (sz := 1) 0 Try.underlying27 Try_ln3 rfl rfl rfl rfl rfl SlOf.imm (by omega) (by omega) ?_
      refine RL.ldSx (i := i16) (e' := y26) 0 Ex.ik Try_ln3 rfl rfl rfl rfl SlOf.imm e27 Part.self ?_
      refine RL.binI (v := .bool (x1 == y26)) rfl rfl rfl rfl rfl ?_
      refine RL.finG ?_
      refine GL.cond rfl (fun b30 => ?_) (fun b30 => ?_)
      · replace h19 := ite_t b30 h19
        refine GL.seq ?_
        refine GL.region ?_
        refine RL.mv rfl rfl rfl ?_
        refine RL.asg rfl rfl rfl ?_
        refine RL.finG ?_
        cases h19
        replace h20 : some (Fl.rt _) = some y9 := h20
        cases h20
        have hh := h14 _ h12
        subst hh
        exact GL.ret (Gx.ret (v := .int .i64 (i16 : Int)) (res1 rfl rfl) (fun a w st => st.toPostC rfl))
      · replace h19 := ite_f b30 h19
        refine GL.skip ?_
        refine GL.nilB ?_
        refine GL.region ?_
        refine RL.binI (v := .int .i64 ((i16 + 1 : Nat) : Int)) rfl rfl rfl rfl (binI_succ i16 (by omega)) ?_
        refine RL.mv rfl rfl rfl ?_
        refine RL.fin ?_
        cases h19
        exact fun a w st => lop_intro (i16 + 1, r28) ⟨by show i16 + 1 + r28.length = (x0).length; simp only [List.length_cons] at h22; omega, h29, h20⟩ (by simp) (St.cut [0] ⟨rfl, rfl, rfl, rfl, trivial⟩ (by decide) rfl st)
    · have h25 : ¬ i16 < (x0).length := by have := of_decide_eq_false b24; omega
      obtain rfl : r17 = [] := by rw [← h23]; exact List.drop_of_length_le (by omega)
      replace h21 : some (Fl.nx _) = some y9 := h21
      cases h21
      exact GL.exit (fun a w st => mid_intro () h12 (St.cut [] trivial (by decide) rfl st))
  · rintro ⟨⟩ h31
    have h32 := h13 _ h31
    try dsimp only at h32
    refine GL.weak (env' := []) (L' := []) (fun _ _ st => st) ?_
    refine GL.seq ?_
    refine GL.region ?_
    refine RL.asg rfl rfl rfl ?_
    refine RL.finG ?_
    have h32 := Option.some.inj h32
    subst h32
    exact GL.ret (Gx.ret (v := .int .i64 (-1 : Int)) (res1 rfl rfl) (fun a w st => st.toPostC rfl))

set_option maxHeartbeats 4000000 in
theorem slices_Contains_int_int_c (S : Hp) (w : World) (hS : S.sub w) (v0 : Value) (x0 : (List Int)) (k0 : ((TR.sl TR.int)).vrep S v0 x0) (x1 : Int) (res : Bool) (hm : slices_Contains_int_int_m x0 x1 = some res) : Calls Try.prog 27 #[v0, .int .i64 x1] w (PostC w (.bool res)) := by
  refine calls_enter 9 Try.func27 Try.ntmps27 rfl S true [(0, v0), (1, .int .i64 x1)] [imm (TR.sl TR.int) v0 x0] rfl ⟨rfl, ⟨rfl, trivial⟩⟩ hS ⟨k0, trivial⟩ ?_
  unfold slices_Contains_int_int_m at hm
  refine GL.seq ?_
  refine GL.region ?_
  refine RL.asg rfl rfl rfl ?_
  refine RL.finG ?_
  refine GL.seq ?_
  refine GL.region ?_
  refine RL.mv rfl rfl rfl ?_
  refine RL.mv rfl rfl rfl ?_
  obtain ⟨y5, e6, hm⟩ := bind_some hm
  refine RL.callC (v := .int .i64 y5) (vs := [v0, .int .i64 x1]) Try_fit33 rfl rfl rfl rfl (fun U w hU hW hL => slices_Index_int_int_c U w hU _ _ (hL 0 _ _ rfl Seen.imm) x1 _ e6) ?_
  refine RL.binI (v := .bool (decide (y5 ≥ (0 : Int)))) rfl rfl rfl rfl rfl ?_
  refine RL.asg rfl rfl rfl ?_
  refine RL.finG ?_
  have hm := Option.some.inj hm
  subst hm
  exact GL.ret (Gx.ret (v := .bool (decide (y5 ≥ (0 : Int)))) (res1 rfl rfl) (fun a w st => st.toPostC rfl))

set_option maxHeartbeats 4000000 in
theorem pk_PilesTable_c (S : Hp) (w : World) (hS : S.sub w) (x0 : Int) (v1 : Value) (x1 : (List Int)) (k1 : ((TR.sl TR.int)).vrep S v1 x1) (res : Bool) (hm : pk_PilesTable_m x0 x1 = some res) : Calls Try.prog 11 #[.int .i64 x0, v1] w (PostV w (.bool res)) := by
  refine calls_enter 93 Try.func11 Try.ntmps11 rfl S false [(0, .int .i64 x0), (1, v1)] [imm (TR.sl TR.int) v1 x1] rfl ⟨rfl, ⟨rfl, trivial⟩⟩ hS ⟨k1, trivial⟩ ?_
  unfold pk_PilesTable_m at hm
  refine GL.seq ?_
  refine GL.region ?_
  refine RL.asg rfl rfl rfl ?_
  refine RL.finG ?_
  refine GL.seq ?_
  refine GL.seq ?_
  refine GL.region ?_
  refine RL.bS (t := TR.int) (vs := [.int .i64 (1 : Int), .int .i64 (2 : Int)]) ([(1 : Int), (2 : Int)] : (List Int)) Try.underlying27 Try_lo3 rfl rfl rfl rfl ⟨VR.int, ⟨VR.int, trivial⟩⟩ rfl (by decide) ?_
  intro v7
  refine RL.weak (fun a w st => st.freeze 1 rfl) ?_
  obtain ⟨y8, e9, hm⟩ := bind_some hm
  refine RL.call (vs := [.int .i64 (5 : Int), v7]) Try_fit24 rfl rfl rfl rfl rfl (fun S f w hS hW hi => piles_Table_c S w hS (5 : Int) _ _ (hi 1 _ rfl) _ e9) ?_
  intro v10
  refine RL.mv rfl rfl rfl ?_
  refine RL.ext rfl rfl rfl rfl ?_
  refine RL.ext rfl rfl rfl rfl ?_
  refine RL.asg rfl rfl rfl ?_
  refine RL.asg rfl rfl rfl ?_
  refine RL.finG ?_
  refine GL.seq ?_
  obtain ⟨y26, K27, h28, h29, h30, h31, h32⟩ := bindR_K hm
  refine GL.join (ι := Bool) (fun (p : Bool) => [(0, .int .i64 x0), (1, v1), (31, .bool p)]) (fun (p : Bool) => [imm (TR.sl TR.int) v1 x1]) (fun (p : Bool) => K27 (.nx p)) ?_ ?_
  · skip
    refine GL.region ?_
    refine RL.mv rfl rfl rfl ?_
    refine RL.binI (v := .bool (y8.2 != (0 : Int))) rfl rfl rfl rfl rfl ?_
    refine RL.mv rfl rfl rfl ?_
    refine RL.split (t := 22) rfl (fun b33 => ?_) (fun b33 => ?_)
    · replace h28 := ite_t b33 h28
      refine RL.skip rfl rfl ?_
      refine RL.skip rfl rfl ?_
      refine RL.skip rfl rfl ?_
      refine RL.skip rfl rfl ?_
      refine RL.pickT rfl rfl rfl rfl ?_
      refine RL.mv rfl rfl rfl ?_
      refine RL.skip rfl rfl ?_
      refine RL.skip rfl rfl ?_
      refine RL.pickT rfl rfl rfl rfl ?_
      refine RL.fin ?_
      cases h28
      exact fun a w st => mid_intro true h29 (St.cut [0] ⟨rfl, rfl, rfl, trivial⟩ (by decide) rfl st)
    · replace h28 := ite_f b33 h28
      refine RL.mv rfl rfl rfl ?_
      refine RL.bS (t := TR.int) (vs := [.int .i64 (0 : Int), .int .i64 (1 : Int), .int .i64 (2 : Int), .int .i64 (0 : Int), .int .i64 (1 : Int), .int .i64 (2 : Int)]) ([(0 : Int), (1 : Int), (2 : Int), (0 : Int), (1 : Int), (2 : Int)] : (List Int)) Try.underlying27 Try_lo3 rfl rfl rfl rfl ⟨VR.int, ⟨VR.int, ⟨VR.int, ⟨VR.int, ⟨VR.int, ⟨VR.int, trivial⟩⟩⟩⟩⟩⟩ rfl (by decide) ?_
      intro v34
      obtain ⟨y35, e36, h28⟩ := bind_some h28
      refine RL.callV (v := .bool y35) (vs := [v10, v34]) Try_fit26 rfl (Or.inl rfl) rfl rfl rfl rfl (fun U w hU hW hL => slices_Equal_int_int_c U w hU _ _ (hL 2 _ _ rfl Seen.own) _ _ (hL 3 _ _ rfl Seen.own) _ e36) ?_
      refine RL.notB rfl rfl rfl ?_
      refine RL.pickF rfl rfl rfl rfl ?_
      refine RL.mv rfl rfl rfl ?_
      refine RL.split (t := 28) rfl (fun b37 => ?_) (fun b37 => ?_)
      · replace h28 := ite_t b37 h28
        refine RL.skip rfl rfl ?_
        refine RL.skip rfl rfl ?_
        refine RL.pickT rfl rfl rfl rfl ?_
        refine RL.fin ?_
        cases h28
        exact fun a w st => mid_intro true h29 (St.cut [0] ⟨rfl, rfl, rfl, trivial⟩ (by decide) rfl st)
      · replace h28 := ite_f b37 h28
        obtain ⟨y38, e39, h28⟩ := bind_some h28
        refine RL.callV (v := .bool y38) (vs := []) Try_fit17 rfl (Or.inl rfl) rfl rfl rfl rfl (fun U w hU hW hL => pk_nims_c U w hU  _ e39) ?_
        refine RL.notB rfl rfl rfl ?_
        refine RL.pickF rfl rfl rfl rfl ?_
        refine RL.fin ?_
        cases h28
        exact fun a w st => mid_intro (!y38) h29 (St.cut [0] ⟨rfl, rfl, rfl, trivial⟩ (by decide) rfl st)
  · rintro x25 h40
    have h41 := h30 _ h40
    try dsimp only at h41
    refine GL.weak (env' := [(0, .int .i64 x0), (1, v1), (31, .bool x25)]) (L' := [imm (TR.sl TR.int) v1 x1]) (fun _ _ st => st) ?_
    refine GL.cond rfl (fun b42 => ?_) (fun b42 => ?_)
    · replace h41 := ite_t b42 h41
      refine GL.seq ?_
      refine GL.region ?_
      refine RL.asg rfl rfl rfl ?_
      refine RL.finG ?_
      have h41 := Option.some.inj h41
      subst h41
      exact GL.ret (Gx.ret (v := .bool false) (res1 rfl rfl) (fun a w st => st.toPostV))
    · replace h41 := ite_f b42 h41
      refine GL.skip ?_
      refine GL.seq ?_
      refine GL.region ?_
      refine RL.mv rfl rfl rfl ?_
      refine RL.mv rfl rfl rfl ?_
      obtain ⟨y46, e47, h41⟩ := bind_some h41
      refine RL.call (vs := [.int .i64 x0, v1]) Try_fit24 rfl rfl rfl rfl rfl (fun S f w hS hW hi => piles_Table_c S w hS x0 _ _ (hi 0 _ rfl) _ e47) ?_
      intro v48
      refine RL.mv rfl rfl rfl ?_
      refine RL.ext rfl rfl rfl rfl ?_
      refine RL.ext rfl rfl rfl rfl ?_
      refine RL.asg rfl rfl rfl ?_
      refine RL.asg rfl rfl rfl ?_
      refine RL.finG ?_
      refine GL.seq ?_
      refine GL.seq ?_
      obtain ⟨y52, K53, h54, h55, h56, h57, h58⟩ := bindR_K h41
      refine GL.join (ι := Bool) (fun (p : Bool) => [(1, v1), (7, v48), (8, .int .i64 y46.2), (46, .bool p)]) (fun (p : Bool) => [imm (TR.sl TR.int) v1 x1, own 3 TR.int v48 y46.1]) (fun (p : Bool) => K53 (.nx p)) ?_ ?_
      · skip
        refine GL.region ?_
        refine RL.mv rfl rfl rfl ?_
        refine RL.binI (v := .bool (y46.2 != (0 : Int))) rfl rfl rfl rfl rfl ?_
        refine RL.mv rfl rfl rfl ?_
        refine RL.split (t := 40) rfl (fun b59 => ?_) (fun b59 => ?_)
        · replace h54 := ite_t b59 h54
          refine RL.skip rfl rfl ?_
          refine RL.skip rfl rfl ?_
          refine RL.skip rfl rfl ?_
          refine RL.skip rfl rfl ?_
          refine RL.skip rfl rfl ?_
          refine RL.pickT rfl rfl rfl rfl ?_
          refine RL.fin ?_
          cases h54
          exact fun a w st => mid_intro true h55 (St.cut [0, 1] ⟨rfl, rfl, rfl, rfl, trivial⟩ (by decide) rfl st)
        · replace h54 := ite_f b59 h54
          refine RL.mv rfl rfl rfl ?_
          refine RL.lenS 1 Try.underlying27 rfl rfl rfl rfl SlOf.own ?_
          refine RL.mv rfl rfl rfl ?_
          refine RL.binI (v := .int .i64 (wadd x0 (1 : Int))) rfl rfl rfl rfl rfl ?_
          refine RL.binI (v := .bool (((y46.1).length : Int) != (wadd x0 (1 : Int)))) rfl rfl rfl rfl rfl ?_
          refine RL.pickF rfl rfl rfl rfl ?_
          refine RL.fin ?_
          cases h54
          exact fun a w st => mid_intro (((y46.1).length : Int) != (wadd x0 (1 : Int))) h55 (St.cut [0, 1] ⟨rfl, rfl, rfl, rfl, trivial⟩ (by decide) rfl st)
      · rintro x51 h60
        have h61 := h56 _ h60
        try dsimp only at h61
        refine GL.weak (env' := [(1, v1), (7, v48), (8, .int .i64 y46.2), (46, .bool x51)]) (L' := [imm (TR.sl TR.int) v1 x1, own 3 TR.int v48 y46.1]) (fun _ _ st => st) ?_
        refine GL.cond rfl (fun b62 => ?_) (fun b62 => ?_)
        · replace h61 := ite_t b62 h61
          refine GL.seq ?_
          obtain ⟨y66, K67, h68, h69, h70, h71, h72⟩ := bindR_K h61
          refine GL.join (ι := Bool) (fun (p : Bool) => [(4, .bool p)]) (fun (p : Bool) => []) (fun (p : Bool) => K67 (.nx p)) ?_ ?_
          · skip
            refine GL.region ?_
            refine RL.mv rfl rfl rfl ?_
            refine RL.binI (v := .bool (y46.2 != (0 : Int))) rfl rfl rfl rfl rfl ?_
            refine RL.mv rfl rfl rfl ?_
            refine RL.split (t := 49) rfl (fun b73 => ?_) (fun b73 => ?_)
            · replace h68 := ite_t b73 h68
              refine RL.mv rfl rfl rfl ?_
              refine RL.lenS 1 Try.underlying27 rfl rfl rfl rfl SlOf.own ?_
              refine RL.binI (v := .bool (((y46.1).length : Int) == (0 : Int))) rfl rfl rfl rfl rfl ?_
              refine RL.pickT rfl rfl rfl rfl ?_
              refine RL.asg rfl rfl rfl ?_
              refine RL.fin ?_
              cases h68
              exact fun a w st => mid_intro (((y46.1).length : Int) == (0 : Int)) h69 (St.cut [] ⟨rfl, trivial⟩ (by decide) rfl st)
            · replace h68 := ite_f b73 h68
              refine RL.skip rfl rfl ?_
              refine RL.skip rfl rfl ?_
              refine RL.skip rfl rfl ?_
              refine RL.pickF rfl rfl rfl rfl ?_
              refine RL.asg rfl rfl rfl ?_
              refine RL.fin ?_
              cases h68
              exact fun a w st => mid_intro false h69 (St.cut [] ⟨rfl, trivial⟩ (by decide) rfl st)
          · rintro x65 h74
            have h75 := h70 _ h74
            try dsimp only at h75
            refine GL.weak (env' := [(4, .bool x65)]) (L' := []) (fun _ _ st => st) ?_
            have h75 := Option.some.inj h75
            subst h75
            exact GL.ret (Gx.ret (v := .bool x65) (res1 rfl rfl) (fun a w st => st.toPostV))
        · replace h61 := ite_f b62 h61
          refine GL.skip ?_
          refine GL.seq ?_
          refine GL.seq ?_
          refine GL.region ?_
          refine RL.mv rfl rfl rfl ?_
          refine RL.lenS 1 Try.underlying27 rfl rfl rfl rfl SlOf.own ?_
          refine RL.mv rfl rfl rfl ?_
          refine RL.finG ?_
          refine GL.lenOwn 1 rfl (fun n174 => ?_)
          obtain ⟨y175, K176, h177, h178, h179, h180, h181⟩ := bindR_K h61
          refine GL.join (ι := Unit) (fun (p : Unit) => []) (fun (p : Unit) => []) (fun (p : Unit) => K176 (.nx ())) ?_ ?_
          · refine GL.block ?_
            refine GL.loop (ι := Nat × Nat) (fun (p : Nat × Nat) => [(1, v1), (7, v48), (54, v48), (55, .int .i64 ((y46.1).length : Int)), (56, .int .i64 (p.1 : Int))]) (fun (p : Nat × Nat) => [imm (TR.sl TR.int) v1 x1, own 3 TR.int v48 y46.1]) (fun (p : Nat × Nat) => p.1 + p.2 = (y46.1).length ∧ rangeN (pk_PilesTable_b1 y46 x1) p.2 p.1 () = some y175) (fun (p : Nat × Nat) => p.2) (0, (y46.1).length) ⟨by simp, h177⟩ (fun a w st => St.cut [0, 1] ⟨rfl, rfl, rfl, rfl, rfl, trivial⟩ (by decide) rfl st) ?_
            rintro ⟨i182, r183⟩ ⟨h188, h187⟩
            try dsimp only at h188 h187
            refine GL.weak (env' := [(1, v1), (7, v48), (54, v48), (55, .int .i64 ((y46.1).length : Int)), (56, .int .i64 (i182 : Int))]) (L' := [imm (TR.sl TR.int) v1 x1, own 3 TR.int v48 y46.1]) (fun _ _ st => st) ?_
            refine GL.seq ?_
            refine GL.region ?_
            refine RL.binI (v := .bool (decide ((i182 : Int) < ((y46.1).length : Int)))) rfl rfl rfl rfl rfl ?_
            refine RL.finG ?_
            refine GL.seq ?_
            refine GL.cond rfl (fun b190 => ?_) (fun b190 => ?_)
            · have h191 : i182 < (y46.1).length := by have := of_decide_eq_true b190; omega
              obtain ⟨r192, hr⟩ : ∃ m, r183 = m + 1 := ⟨r183 - 1, by omega⟩
              subst hr
              obtain ⟨z184, h185, h186⟩ := rangeN_some h187
              unfold pk_PilesTable_b1 at h185
              try dsimp only at h185
              refine GL.skip ?_
              refine GL.seq ?_
              refine GL.block ?_
              refine GL.seq ?_
              refine GL.region ?_
              refine RL.mv rfl rfl rfl ?_
              obtain ⟨y195, e196, h185⟩ := bind_some h185
              refine RL.idxS (sz := 1) 1 Try.underlying27 Try_ln3 rfl rfl rfl rfl rfl SlOf.own (idx_some e196).1 (idx_some e196).2.1 ?_
              refine RL.ldSx (i := i182) (e' := y195) 1 Ex.ik Try_ln3 rfl rfl rfl rfl SlOf.own (idx_some e196).2.2 Part.self ?_
              refine RL.asg rfl rfl rfl ?_
              refine RL.asg rfl rfl rfl ?_
              refine RL.finG ?_
              refine GL.seq ?_
              refine GL.region ?_
              refine RL.asg rfl rfl rfl ?_
              refine RL.finG ?_
              refine GL.seq ?_
              refine GL.seq ?_
              refine GL.region ?_
              refine RL.mv rfl rfl rfl ?_
              refine RL.lenS 0 Try.underlying27 rfl rfl rfl rfl SlOf.imm ?_
              refine RL.mv rfl rfl rfl ?_
              refine RL.finG ?_
              refine GL.weak (fun a w st => st.nilOwn 3 TR.int) ?_
              refine GL.open_ 0 rfl (fun S h => len_imm S h) (fun n216 => ?_)
              obtain ⟨y217, K218, h219, h220, h221, h222, h223⟩ := bindF_K h185
              refine GL.join (ι := (List Int) × Value) (fun (p : (List Int) × Value) => [(1, v1), (7, v48), (10, .int .i64 y195), (11, p.2), (54, v48), (55, .int .i64 ((y46.1).length : Int)), (56, .int .i64 (i182 : Int))]) (fun (p : (List Int) × Value) => [imm (TR.sl TR.int) v1 x1, own 3 TR.int v48 y46.1, own 3 TR.int p.2 p.1]) (fun (p : (List Int) × Value) => K218 (.nx p.1)) ?_ ?_
              · refine GL.block ?_
                refine GL.loop (ι := Nat × (List Int) × (List Int) × Value) (fun (p : Nat × (List Int) × (List Int) × Value) => [(1, v1), (7, v48), (9, .int .i64 (i182 : Int)), (10, .int .i64 y195), (11, p.2.2.2), (54, v48), (55, .int .i64 ((y46.1).length : Int)), (56, .int .i64 (i182 : Int)), (61, v1), (62, .int .i64 ((x1).length : Int)), (63, .int .i64 (p.1 : Int))]) (fun (p : Nat × (List Int) × (List Int) × Value) => [imm (TR.sl TR.int) v1 x1, own 3 TR.int v48 y46.1, own 3 TR.int p.2.2.2 p.2.2.1]) (fun (p : Nat × (List Int) × (List Int) × Value) => p.1 + p.2.1.length = (x1).length ∧ List.drop p.1 x1 = p.2.1 ∧ rangeL (pk_PilesTable_b2 i182 y46) p.2.1 p.1 p.2.2.1 = some y217) (fun (p : Nat × (List Int) × (List Int) × Value) => p.2.1.length) (0, x1, [], Value.slice none 0 0) ⟨by simp, by simp, h219⟩ (fun a w st => St.cut [0, 1, 2] ⟨rfl, rfl, rfl, rfl, rfl, rfl, rfl, rfl, rfl, rfl, rfl, trivial⟩ (by decide) rfl st) ?_
                rintro ⟨i224, r225, l197, v198⟩ ⟨h230, h231, h229⟩
                try dsimp only at h230 h231 h229
                refine GL.weak (env' := [(1, v1), (7, v48), (9, .int .i64 (i182 : Int)), (10, .int .i64 y195), (11, v198), (54, v48), (55, .int .i64 ((y46.1).length : Int)), (56, .int .i64 (i182 : Int)), (61, v1), (62, .int .i64 ((x1).length : Int)), (63, .int .i64 (i224 : Int))]) (L' := [imm (TR.sl TR.int) v1 x1, own 3 TR.int v48 y46.1, own 3 TR.int v198 l197]) (fun _ _ st => st) ?_
                refine GL.seq ?_
                refine GL.region ?_
                refine RL.binI (v := .bool (decide ((i224 : Int) < ((x1).length : Int)))) rfl rfl rfl rfl rfl ?_
                refine RL.finG ?_
                refine GL.seq ?_
                refine GL.cond rfl (fun b232 => ?_) (fun b232 => ?_)
                · have h233 : i224 < (x1).length := by have := of_decide_eq_true b232; omega
                  obtain ⟨y234, r236, hr, e235, h237⟩ := drop_cons h231 rfl h233
                  subst hr
                  obtain ⟨z226, h227, h228⟩ := rangeL_some h229
                  unfold pk_PilesTable_b2 at h227
                  try dsimp only at h227
                  refine GL.skip ?_
                  refine GL.seq ?_
                  refine GL.block ?_
                  refine GL.seq ?_
                  refine GL.region ?_
                  refine RL.idxS (sz := 1) 0 Try.underlying27 Try_ln3 rfl rfl rfl rfl rfl SlOf.imm (by omega) (by omega) ?_
                  refine RL.ldSx (i := i224) (e' := y234) 0 Ex.ik Try_ln3 rfl rfl rfl rfl SlOf.imm e235 Part.self ?_
                  refine RL.asg rfl rfl rfl ?_
                  refine RL.finG ?_
                  refine GL.seq ?_
                  refine GL.region ?_
                  refine RL.mv rfl rfl rfl ?_
                  refine RL.mv rfl rfl rfl ?_
                  refine RL.binI (v := .bool (decide (y234 ≤ (i182 : Int)))) rfl rfl rfl rfl rfl ?_
                  refine RL.finG ?_
                  refine GL.cond rfl (fun b238 => ?_) (fun b238 => ?_)
                  · replace h227 := ite_t b238 h227
                    refine GL.region ?_
                    refine RL.mv rfl rfl rfl ?_
                    refine RL.mv rfl rfl rfl ?_
                    refine RL.mv rfl rfl rfl ?_
                    refine RL.mv rfl rfl rfl ?_
                    refine RL.binI (v := .int .i64 (wsub (i182 : Int) y234)) rfl rfl rfl rfl rfl ?_
                    obtain ⟨y245, e246, h227⟩ := bind_some h227
                    refine RL.idxS (sz := 1) 1 Try.underlying27 Try_ln3 rfl rfl rfl rfl rfl SlOf.own (idx_some e246).1 (idx_some e246).2.1 ?_
                    refine RL.ldSx (i := (wsub (i182 : Int) y234).toNat) (e' := y245) 1 Ex.ik Try_ln3 rfl rfl rfl rfl SlOf.own (idx_some e246).2.2 Part.self ?_
                    refine RL.bS (t := TR.int) (vs := [.int .i64 y245]) ([y245] : (List Int)) Try.underlying27 Try_lo3 rfl rfl rfl rfl ⟨VR.int, trivial⟩ rfl (by decide) ?_
                    intro v247
                    obtain ⟨y248, e249, h227⟩ := bind_some h227
                    replace e249 := chk_some e249
                    refine RL.app 2 3 Try.underlying27 Try_lo3 rfl rfl rfl rfl rfl rfl rfl SlOf.own e249 ?_
                    intro v250
                    refine RL.asg rfl rfl rfl ?_
                    refine RL.finG ?_
                    refine GL.nilB ?_
                    refine GL.region ?_
                    refine RL.binI (v := .int .i64 ((i224 + 1 : Nat) : Int)) rfl rfl rfl rfl (binI_succ i224 (by omega)) ?_
                    refine RL.mv rfl rfl rfl ?_
                    refine RL.fin ?_
                    cases h227
                    exact fun a w st => lop_intro (i224 + 1, r236, (l197 ++ ([y245] : (List Int))), v250) ⟨by show i224 + 1 + r236.length = (x1).length; simp only [List.length_cons] at h230; omega, h237, h228⟩ (by simp) (St.cut [0, 1, 2] ⟨rfl, rfl, rfl, rfl, rfl, rfl, rfl, rfl, rfl, rfl, rfl, trivial⟩ (by decide) rfl st)
                  · replace h227 := ite_f b238 h227
                    refine GL.skip ?_
                    refine GL.nilB ?_
                    refine GL.region ?_
                    refine RL.binI (v := .int .i64 ((i224 + 1 : Nat) : Int)) rfl rfl rfl rfl (binI_succ i224 (by omega)) ?_
                    refine RL.mv rfl rfl rfl ?_
                    refine RL.fin ?_
                    cases h227
                    exact fun a w st => lop_intro (i224 + 1, r236, l197, v198) ⟨by show i224 + 1 + r236.length = (x1).length; simp only [List.length_cons] at h230; omega, h237, h228⟩ (by simp) (St.cut [0, 1, 2] ⟨rfl, rfl, rfl, rfl, rfl, rfl, rfl, rfl, rfl, rfl, rfl, trivial⟩ (by decide) rfl st)
                · have h233 : ¬ i224 < (x1).length := by have := of_decide_eq_false b232; omega
                  obtain rfl : r225 = [] := by rw [← h231]; exact List.drop_of_length_le (by omega)
                  replace h229 : some (Fl.nx _) = some y217 := h229
                  cases h229
                  exact GL.exit (fun a w st => mid_intro (l197, v198) h220 (St.cut [0, 1, 2] ⟨rfl, rfl, rfl, rfl, rfl, rfl, rfl, trivial⟩ (by decide) rfl st))
              · rintro ⟨l197, v198⟩ h251
                have h252 := h221 _ h251
                try dsimp only at h252
                refine GL.weak (env' := [(1, v1), (7, v48), (10, .int .i64 y195), (11, v198), (54, v48), (55, .int .i64 ((y46.1).length : Int)), (56, .int .i64 (i182 : Int))]) (L' := [imm (TR.sl TR.int) v1 x1, own 3 TR.int v48 y46.1, own 3 TR.int v198 l197]) (fun _ _ st => st) ?_
                refine GL.seq ?_
                refine GL.seq ?_
                refine GL.region ?_
                refine RL.mv rfl rfl rfl ?_
                refine RL.mv rfl rfl rfl ?_
                obtain ⟨y255, e256, h252⟩ := bind_some h252
                refine RL.callC (v := .bool y255) (vs := [v198, .int .i64 y195]) Try_fit27 rfl rfl rfl rfl (fun U w hU hW hL => slices_Contains_int_int_c U w hU _ _ (hL 2 _ _ rfl Seen.own) y195 _ e256) ?_
                refine RL.finG ?_
                refine GL.cond rfl (fun b257 => ?_) (fun b257 => ?_)
                · replace h252 := ite_t b257 h252
                  refine GL.seq ?_
                  refine GL.region ?_
                  refine RL.asg rfl rfl rfl ?_
                  refine RL.finG ?_
                  cases h252
                  replace h186 : some (Fl.rt _) = some y175 := h186
                  cases h186
                  have hh := h180 _ h178
                  subst hh
                  exact GL.ret (Gx.ret (v := .bool false) (res1 rfl rfl) (fun a w st => st.toPostV))
                · replace h252 := ite_f b257 h252
                  refine GL.skip ?_
                  refine GL.seq ?_
                  refine GL.region ?_
                  refine RL.mv rfl rfl rfl ?_
                  refine RL.mv rfl rfl rfl ?_
                  refine RL.finG ?_
                  obtain ⟨y264, e265, h252⟩ := bind_some h252
                  replace e265 := chk_some e265
                  obtain ⟨y266, K267, h268, h269, h270, h271, h272⟩ := bindF_K h252
                  refine GL.join (ι := Unit) (fun (p : Unit) => [(1, v1), (7, v48), (54, v48), (55, .int .i64 ((y46.1).length : Int)), (56, .int .i64 (i182 : Int))]) (fun (p : Unit) => [imm (TR.sl TR.int) v1 x1, own 3 TR.int v48 y46.1]) (fun (p : Unit) => K267 (.nx ())) ?_ ?_
                  · refine GL.block ?_
                    refine GL.loop (ι := Nat × Nat) (fun (p : Nat × Nat) => [(1, v1), (7, v48), (11, v198), (54, v48), (55, .int .i64 ((y46.1).length : Int)), (56, .int .i64 (i182 : Int)), (83, .int .i64 y195), (84, .int .i64 (p.1 : Int))]) (fun (p : Nat × Nat) => [imm (TR.sl TR.int) v1 x1, own 3 TR.int v48 y46.1, own 3 TR.int v198 l197]) (fun (p : Nat × Nat) => p.1 + p.2 = (y195).toNat ∧ rangeN (pk_PilesTable_b3 l197) p.2 p.1 () = some y266) (fun (p : Nat × Nat) => p.2) (0, (y195).toNat) ⟨by simp, h268⟩ (fun a w st => St.cut [0, 1, 2] ⟨rfl, rfl, rfl, rfl, rfl, rfl, rfl, rfl, trivial⟩ (by decide) rfl st) ?_
                    rintro ⟨i273, r274⟩ ⟨h279, h278⟩
                    try dsimp only at h279 h278
                    refine GL.weak (env' := [(1, v1), (7, v48), (11, v198), (54, v48), (55, .int .i64 ((y46.1).length : Int)), (56, .int .i64 (i182 : Int)), (83, .int .i64 y195), (84, .int .i64 (i273 : Int))]) (L' := [imm (TR.sl TR.int) v1 x1, own 3 TR.int v48 y46.1, own 3 TR.int v198 l197]) (fun _ _ st => st) ?_
                    refine GL.seq ?_
                    refine GL.region ?_
                    refine RL.binI (v := .bool (decide ((i273 : Int) < y195))) rfl rfl rfl rfl rfl ?_
                    refine RL.finG ?_
                    refine GL.seq ?_
                    refine GL.cond rfl (fun b281 => ?_) (fun b281 => ?_)
                    · have h282 : i273 < (y195).toNat := by have := of_decide_eq_true b281; omega
                      obtain ⟨r283, hr⟩ : ∃ m, r274 = m + 1 := ⟨r274 - 1, by omega⟩
                      subst hr
                      obtain ⟨z275, h276, h277⟩ := rangeN_some h278
                      unfold pk_PilesTable_b3 at h276
                      try dsimp only at h276
                      refine GL.skip ?_
                      refine GL.seq ?_
                      refine GL.block ?_
                      refine GL.seq ?_
                      refine GL.region ?_
                      refine RL.mv rfl rfl rfl ?_
                      refine RL.asg rfl rfl rfl ?_
                      refine RL.finG ?_
                      refine GL.seq ?_
                      refine GL.region ?_
                      refine RL.mv rfl rfl rfl ?_
                      refine RL.mv rfl rfl rfl ?_
                      obtain ⟨y286, e287, h276⟩ := bind_some h276
                      refine RL.callC (v := .bool y286) (vs := [v198, .int .i64 (i273 : Int)]) Try_fit27 rfl rfl rfl rfl (fun U w hU hW hL => slices_Contains_int_int_c U w hU _ _ (hL 2 _ _ rfl Seen.own) (i273 : Int) _ e287) ?_
                      refine RL.notB rfl rfl rfl ?_
                      refine RL.finG ?_
                      refine GL.cond rfl (fun b288 => ?_) (fun b288 => ?_)
                      · replace h276 := ite_t b288 h276
                        refine GL.seq ?_
                        refine GL.region ?_
                        refine RL.asg rfl rfl rfl ?_
                        refine RL.finG ?_
                        cases h276
                        replace h277 : some (Fl.rt _) = some y266 := h277
                        cases h277
                        have hh := h271 _ h269
                        subst hh
                        replace h186 : some (Fl.rt _) = some y175 := h186
                        cases h186
                        have hh := h180 _ h178
                        subst hh
                        exact GL.ret (Gx.ret (v := .bool false) (res1 rfl rfl) (fun a w st => st.toPostV))
                      · replace h276 := ite_f b288 h276
                        refine GL.skip ?_
                        refine GL.nilB ?_
                        refine GL.region ?_
                        refine RL.binI (v := .int .i64 ((i273 + 1 : Nat) : Int)) rfl rfl rfl rfl (binI_succ i273 (by omega)) ?_
                        refine RL.mv rfl rfl rfl ?_
                        refine RL.fin ?_
                        cases h276
                        exact fun a w st => lop_intro (i273 + 1, r283) ⟨by show i273 + 1 + r283 = (y195).toNat; omega, h277⟩ (by simp) (St.cut [0, 1, 2] ⟨rfl, rfl, rfl, rfl, rfl, rfl, rfl, rfl, trivial⟩ (by decide) rfl st)
                    · have h282 : ¬ i273 < (y195).toNat := by have := of_decide_eq_false b281; omega
                      obtain rfl : r274 = 0 := by omega
                      replace h278 : some (Fl.nx _) = some y266 := h278
                      cases h278
                      exact GL.exit (fun a w st => mid_intro () h269 (St.cut [0, 1] ⟨rfl, rfl, rfl, rfl, rfl, trivial⟩ (by decide) rfl st))
                  · rintro ⟨⟩ h289
                    have h290 := h270 _ h289
                    try dsimp only at h290
                    refine GL.weak (env' := [(1, v1), (7, v48), (54, v48), (55, .int .i64 ((y46.1).length : Int)), (56, .int .i64 (i182 : Int))]) (L' := [imm (TR.sl TR.int) v1 x1, own 3 TR.int v48 y46.1]) (fun _ _ st => st) ?_
                    refine GL.nilB ?_
                    refine GL.region ?_
                    refine RL.binI (v := .int .i64 ((i182 + 1 : Nat) : Int)) rfl rfl rfl rfl (binI_succ i182 (by omega)) ?_
                    refine RL.mv rfl rfl rfl ?_
                    refine RL.fin ?_
                    cases h290
                    exact fun a w st => lop_intro (i182 + 1, r192) ⟨by show i182 + 1 + r192 = (y46.1).length; omega, h186⟩ (by simp) (St.cut [0, 1] ⟨rfl, rfl, rfl, rfl, rfl, trivial⟩ (by decide) rfl st)
            · have h191 : ¬ i182 < (y46.1).length := by have := of_decide_eq_false b190; omega
              obtain rfl : r183 = 0 := by omega
              replace h187 : some (Fl.nx _) = some y175 := h187
              cases h187
              exact GL.exit (fun a w st => mid_intro () h178 (St.cut [] trivial (by decide) rfl st))
          · rintro ⟨⟩ h291
            have h292 := h179 _ h291
            try dsimp only at h292
            refine GL.weak (env' := []) (L' := []) (fun _ _ st => st) ?_
            refine GL.seq ?_
            refine GL.region ?_
            refine RL.asg rfl rfl rfl ?_
            refine RL.finG ?_
            have h292 := Option.some.inj h292
            subst h292
            exact GL.ret (Gx.ret (v := .bool true) (res1 rfl rfl) (fun a w st => st.toPostV))
end Go.Wk
