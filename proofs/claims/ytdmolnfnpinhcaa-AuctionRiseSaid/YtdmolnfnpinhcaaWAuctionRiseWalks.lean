/- Each function comes to what its model says; printed by a program of this repository. -/
import Derived.Test.YtdmolnfnpinhcaaProg
import Derived.Test.YtdmolnfnpinhcaaWAuctionRiseModels
namespace Go.Wk
open Go.Fw Go.Mo Go.Proofs Go.RowKit
set_option linter.unusedVariables false
set_option maxRecDepth 100000
theorem loopNx {ρ σ β γ : Type} {body : σ → Option (Fl ρ β σ)} {n : Nat} {s : σ} {y : Fl ρ γ β} (h : stepM body n (.nx s) = some y) : loopM body n s = some y := h
theorem Try_info3 : (Try.prog.info? 3).map (fun i => (i.zero, i.size, i.bytes)) = some (some (.int .i64 0), 1, 8) := by kernel_rfl
theorem Try_ln3 : Ln Try.prog 3 1 false := Ln.of Try_info3 Try.underlying3 rfl
theorem Try_lo3 : LnO Try.prog 3 1 [.int .i64 0] := LnO.of Try_info3 rfl rfl (by decide) (by decide)
theorem Try_info24 : (Try.prog.info? 24).map (fun i => (i.zero, i.size, i.bytes)) = some (some (.int .i64 0), 1, 8) := by kernel_rfl
theorem Try_ln24 : Ln Try.prog 24 1 false := Ln.of Try_info24 Try.underlying24 rfl
theorem Try_lo24 : LnO Try.prog 24 1 [.int .i64 0] := LnO.of Try_info24 rfl rfl (by decide) (by decide)
theorem Try_fit18 : Fit Try.prog 18 := Fit.of Try.func18 (by kernel_rfl) rfl
theorem Try_fit26 : Fit Try.prog 26 := Fit.of Try.func26 (by kernel_rfl) rfl
theorem Try_fit33 : Fit Try.prog 33 := Fit.of Try.func33 (by kernel_rfl) rfl
theorem Try_fit34 : Fit Try.prog 34 := Fit.of Try.func34 (by kernel_rfl) rfl
theorem Try_fit36 : Fit Try.prog 36 := Fit.of Try.func36 (by kernel_rfl) rfl
theorem Try_fit41 : Fit Try.prog 41 := Fit.of Try.func41 (by kernel_rfl) rfl
theorem Try_fit42 : Fit Try.prog 42 := Fit.of Try.func42 (by kernel_rfl) rfl
theorem Try_fit45 : Fit Try.prog 45 := Fit.of Try.func45 (by kernel_rfl) rfl
theorem Try_fit49 : Fit Try.prog 49 := Fit.of Try.func49 (by kernel_rfl) rfl
theorem Try_fit50 : Fit Try.prog 50 := Fit.of Try.func50 (by kernel_rfl) rfl
theorem Try_fit51 : Fit Try.prog 51 := Fit.of Try.func51 (by kernel_rfl) rfl
theorem Try_fit52 : Fit Try.prog 52 := Fit.of Try.func52 (by kernel_rfl) rfl
theorem Try_fit54 : Fit Try.prog 54 := Fit.of Try.func54 (by kernel_rfl) rfl
theorem Try_fit55 : Fit Try.prog 55 := Fit.of Try.func55 (by kernel_rfl) rfl

set_option maxHeartbeats 4000000 in
theorem auction_Check_c (S : Hp) (w : World) (hS : S.sub w) (v0 : Value) (x0 : (List Int)) (k0 : ((TR.sl TR.int)).vrep S v0 x0) (x1 : Int) (res : Int) (hm : auction_Check_m x0 x1 = some res) : Calls Try.prog 51 #[v0, .int .i64 x1] w (PostC w (.int .i64 res)) := by
  refine calls_enter 29 Try.func51 Try.ntmps51 rfl S true [(0, v0), (1, .int .i64 x1)] [imm (TR.sl TR.int) v0 x0] rfl ⟨rfl, ⟨rfl, trivial⟩⟩ hS ⟨k0, trivial⟩ ?_
  unfold auction_Check_m at hm
  refine GL.seq ?_
  refine GL.region ?_
  refine RL.asg rfl rfl rfl ?_
  refine RL.finG ?_
  refine GL.seq ?_
  refine GL.seq ?_
  refine GL.region ?_
  refine RL.mv rfl rfl rfl ?_
  refine RL.lenS 0 Try.underlying34 rfl rfl rfl rfl SlOf.imm ?_
  refine RL.binI (v := .bool (decide (((x0).length : Int) > (10 : Int)))) rfl rfl rfl rfl rfl ?_
  refine RL.finG ?_
  refine GL.cond rfl (fun b3 => ?_) (fun b3 => ?_)
  · replace hm := ite_t b3 hm
    refine GL.seq ?_
    refine GL.region ?_
    refine RL.asg rfl rfl rfl ?_
    refine RL.finG ?_
    have hm := Option.some.inj hm
    subst hm
    exact GL.ret (Gx.ret (v := .int .i64 (2 : Int)) (res1 rfl rfl) (fun a w st => st.toPostC rfl))
  · replace hm := ite_f b3 hm
    refine GL.skip ?_
    refine GL.seq ?_
    refine GL.seq ?_
    refine GL.region ?_
    refine RL.mv rfl rfl rfl ?_
    refine RL.lenS 0 Try.underlying34 rfl rfl rfl rfl SlOf.imm ?_
    refine RL.mv rfl rfl rfl ?_
    refine RL.finG ?_
    refine GL.open_ 0 rfl (fun S h => len_imm S h) (fun n22 => ?_)
    obtain ⟨y23, K24, h25, h26, h27, h28, h29⟩ := bindR_K hm
    refine GL.join (ι := Unit) (fun (p : Unit) => [(1, .int .i64 x1)]) (fun (p : Unit) => []) (fun (p : Unit) => K24 (.nx ())) ?_ ?_
    · refine GL.block ?_
      refine GL.loop (ι := Nat × (List Int)) (fun (p : Nat × (List Int)) => [(1, .int .i64 x1), (10, v0), (11, .int .i64 ((x0).length : Int)), (12, .int .i64 (p.1 : Int))]) (fun (p : Nat × (List Int)) => [imm (TR.sl TR.int) v0 x0]) (fun (p : Nat × (List Int)) => p.1 + p.2.length = (x0).length ∧ List.drop p.1 x0 = p.2 ∧ rangeL auction_Check_b1 p.2 p.1 () = some y23) (fun (p : Nat × (List Int)) => p.2.length) (0, x0) ⟨by simp, by simp, h25⟩ (fun a w st => St.cut [0] ⟨rfl, rfl, rfl, rfl, trivial⟩ (by decide) rfl st) ?_
      rintro ⟨i30, r31⟩ ⟨h36, h37, h35⟩
      try dsimp only at h36 h37 h35
      refine GL.weak (env' := [(1, .int .i64 x1), (10, v0), (11, .int .i64 ((x0).length : Int)), (12, .int .i64 (i30 : Int))]) (L' := [imm (TR.sl TR.int) v0 x0]) (fun _ _ st => st) ?_
      refine GL.seq ?_
      refine GL.region ?_
      refine RL.binI (v := .bool (decide ((i30 : Int) < ((x0).length : Int)))) rfl rfl rfl rfl rfl ?_
      refine RL.finG ?_
      refine GL.seq ?_
      refine GL.cond rfl (fun b38 => ?_) (fun b38 => ?_)
      · have h39 : i30 < (x0).length := by have := of_decide_eq_true b38; omega
        obtain ⟨y40, r42, hr, e41, h43⟩ := drop_cons h37 rfl h39
        subst hr
        obtain ⟨z32, h33, h34⟩ := rangeL_some h35
        unfold auction_Check_b1 at h33
        try dsimp only at h33
        refine GL.skip ?_
        refine GL.seq ?_
        refine GL.block ?_
        refine GL.seq ?_
        refine GL.region ?_
        refine RL.idxS (sz := 1) 0 Try.underlying34 Try_ln3 rfl rfl rfl rfl rfl SlOf.imm (by omega) (by omega) ?_
        refine RL.ldSx (i := i30) (e' := y40) 0 Ex.ik Try_ln3 rfl rfl rfl rfl SlOf.imm e41 Part.self ?_
        refine RL.asg rfl rfl rfl ?_
        refine RL.finG ?_
        refine GL.seq ?_
        obtain ⟨y47, K48, h49, h50, h51, h52, h53⟩ := bindF_K h33
        refine GL.join (ι := Bool) (fun (p : Bool) => [(1, .int .i64 x1), (10, v0), (11, .int .i64 ((x0).length : Int)), (12, .int .i64 (i30 : Int)), (21, .bool p)]) (fun (p : Bool) => [imm (TR.sl TR.int) v0 x0]) (fun (p : Bool) => K48 (.nx p)) ?_ ?_
        · skip
          refine GL.region ?_
          refine RL.mv rfl rfl rfl ?_
          refine RL.binI (v := .bool (decide (y40 < (0 : Int)))) rfl rfl rfl rfl rfl ?_
          refine RL.mv rfl rfl rfl ?_
          refine RL.split (t := 18) rfl (fun b54 => ?_) (fun b54 => ?_)
          · replace h49 := ite_t b54 h49
            refine RL.skip rfl rfl ?_
            refine RL.skip rfl rfl ?_
            refine RL.pickT rfl rfl rfl rfl ?_
            refine RL.fin ?_
            cases h49
            exact fun a w st => mid_intro true h50 (St.cut [0] ⟨rfl, rfl, rfl, rfl, rfl, trivial⟩ (by decide) rfl st)
          · replace h49 := ite_f b54 h49
            refine RL.mv rfl rfl rfl ?_
            refine RL.binI (v := .bool (decide (y40 > (1000000 : Int)))) rfl rfl rfl rfl rfl ?_
            refine RL.pickF rfl rfl rfl rfl ?_
            refine RL.fin ?_
            cases h49
            exact fun a w st => mid_intro (decide (y40 > (1000000 : Int))) h50 (St.cut [0] ⟨rfl, rfl, rfl, rfl, rfl, trivial⟩ (by decide) rfl st)
        · rintro x46 h55
          have h56 := h51 _ h55
          try dsimp only at h56
          refine GL.weak (env' := [(1, .int .i64 x1), (10, v0), (11, .int .i64 ((x0).length : Int)), (12, .int .i64 (i30 : Int)), (21, .bool x46)]) (L' := [imm (TR.sl TR.int) v0 x0]) (fun _ _ st => st) ?_
          refine GL.cond rfl (fun b57 => ?_) (fun b57 => ?_)
          · replace h56 := ite_t b57 h56
            refine GL.seq ?_
            refine GL.region ?_
            refine RL.asg rfl rfl rfl ?_
            refine RL.finG ?_
            cases h56
            replace h34 : some (Fl.rt _) = some y23 := h34
            cases h34
            have hh := h28 _ h26
            subst hh
            exact GL.ret (Gx.ret (v := .int .i64 (1 : Int)) (res1 rfl rfl) (fun a w st => st.toPostC rfl))
          · replace h56 := ite_f b57 h56
            refine GL.skip ?_
            refine GL.nilB ?_
            refine GL.region ?_
            refine RL.binI (v := .int .i64 ((i30 + 1 : Nat) : Int)) rfl rfl rfl rfl (binI_succ i30 (by omega)) ?_
            refine RL.mv rfl rfl rfl ?_
            refine RL.fin ?_
            cases h56
            exact fun a w st => lop_intro (i30 + 1, r42) ⟨by show i30 + 1 + r42.length = (x0).length; simp only [List.length_cons] at h36; omega, h43, h34⟩ (by simp) (St.cut [0] ⟨rfl, rfl, rfl, rfl, trivial⟩ (by decide) rfl st)
      · have h39 : ¬ i30 < (x0).length := by have := of_decide_eq_false b38; omega
        obtain rfl : r31 = [] := by rw [← h37]; exact List.drop_of_length_le (by omega)
        replace h35 : some (Fl.nx _) = some y23 := h35
        cases h35
        exact GL.exit (fun a w st => mid_intro () h26 (St.cut [] ⟨rfl, trivial⟩ (by decide) rfl st))
    · rintro ⟨⟩ h58
      have h59 := h27 _ h58
      try dsimp only at h59
      refine GL.weak (env' := [(1, .int .i64 x1)]) (L' := []) (fun _ _ st => st) ?_
      refine GL.seq ?_
      refine GL.seq ?_
      obtain ⟨y63, K64, h65, h66, h67, h68, h69⟩ := bindR_K h59
      refine GL.join (ι := Bool) (fun (p : Bool) => [(28, .bool p)]) (fun (p : Bool) => []) (fun (p : Bool) => K64 (.nx p)) ?_ ?_
      · skip
        refine GL.region ?_
        refine RL.mv rfl rfl rfl ?_
        refine RL.binI (v := .bool (decide (x1 < (0 : Int)))) rfl rfl rfl rfl rfl ?_
        refine RL.mv rfl rfl rfl ?_
        refine RL.split (t := 25) rfl (fun b70 => ?_) (fun b70 => ?_)
        · replace h65 := ite_t b70 h65
          refine RL.skip rfl rfl ?_
          refine RL.skip rfl rfl ?_
          refine RL.pickT rfl rfl rfl rfl ?_
          refine RL.fin ?_
          cases h65
          exact fun a w st => mid_intro true h66 (St.cut [] ⟨rfl, trivial⟩ (by decide) rfl st)
        · replace h65 := ite_f b70 h65
          refine RL.mv rfl rfl rfl ?_
          refine RL.binI (v := .bool (decide (x1 > (1000000 : Int)))) rfl rfl rfl rfl rfl ?_
          refine RL.pickF rfl rfl rfl rfl ?_
          refine RL.fin ?_
          cases h65
          exact fun a w st => mid_intro (decide (x1 > (1000000 : Int))) h66 (St.cut [] ⟨rfl, trivial⟩ (by decide) rfl st)
      · rintro x62 h71
        have h72 := h67 _ h71
        try dsimp only at h72
        refine GL.weak (env' := [(28, .bool x62)]) (L' := []) (fun _ _ st => st) ?_
        refine GL.cond rfl (fun b73 => ?_) (fun b73 => ?_)
        · replace h72 := ite_t b73 h72
          refine GL.seq ?_
          refine GL.region ?_
          refine RL.asg rfl rfl rfl ?_
          refine RL.finG ?_
          have h72 := Option.some.inj h72
          subst h72
          exact GL.ret (Gx.ret (v := .int .i64 (1 : Int)) (res1 rfl rfl) (fun a w st => st.toPostC rfl))
        · replace h72 := ite_f b73 h72
          refine GL.skip ?_
          refine GL.seq ?_
          refine GL.region ?_
          refine RL.asg rfl rfl rfl ?_
          refine RL.finG ?_
          have h72 := Option.some.inj h72
          subst h72
          exact GL.ret (Gx.ret (v := .int .i64 (0 : Int)) (res1 rfl rfl) (fun a w st => st.toPostC rfl))

set_option maxHeartbeats 4000000 in
theorem auction_two_c (S : Hp) (w : World) (hS : S.sub w) (v0 : Value) (x0 : (List Int)) (k0 : ((TR.sl TR.int)).vrep S v0 x0) (x1 : Int) (res : Int × Int) (hm : auction_two_m x0 x1 = some res) : Calls Try.prog 52 #[v0, .int .i64 x1] w (PostC w (.tuple #[.int .i64 res.1, .int .i64 res.2])) := by
  refine calls_enter 53 Try.func52 Try.ntmps52 rfl S true [(0, v0), (1, .int .i64 x1)] [imm (TR.sl TR.int) v0 x0] rfl ⟨rfl, ⟨rfl, trivial⟩⟩ hS ⟨k0, trivial⟩ ?_
  unfold auction_two_m at hm
  refine GL.seq ?_
  refine GL.region ?_
  refine RL.asg rfl rfl rfl ?_
  refine RL.asg rfl rfl rfl ?_
  refine RL.finG ?_
  refine GL.seq ?_
  refine GL.region ?_
  refine RL.asg rfl rfl rfl ?_
  refine RL.finG ?_
  refine GL.seq ?_
  refine GL.seq ?_
  refine GL.region ?_
  refine RL.mv rfl rfl rfl ?_
  refine RL.lenS 0 Try.underlying34 rfl rfl rfl rfl SlOf.imm ?_
  refine RL.mv rfl rfl rfl ?_
  refine RL.finG ?_
  refine GL.open_ 0 rfl (fun S h => len_imm S h) (fun n31 => ?_)
  obtain ⟨y32, K33, h34, h35, h36, h37, h38⟩ := bindR_K hm
  refine GL.join (ι := Int) (fun (p : Int) => [(0, v0), (1, .int .i64 x1), (6, .int .i64 p)]) (fun (p : Int) => [imm (TR.sl TR.int) v0 x0]) (fun (p : Int) => K33 (.nx p)) ?_ ?_
  · refine GL.block ?_
    refine GL.loop (ι := Nat × (List Int) × Int) (fun (p : Nat × (List Int) × Int) => [(0, v0), (1, .int .i64 x1), (6, .int .i64 p.2.2), (12, v0), (13, .int .i64 ((x0).length : Int)), (14, .int .i64 (p.1 : Int))]) (fun (p : Nat × (List Int) × Int) => [imm (TR.sl TR.int) v0 x0]) (fun (p : Nat × (List Int) × Int) => p.1 + p.2.1.length = (x0).length ∧ List.drop p.1 x0 = p.2.1 ∧ rangeL (auction_two_b1 x1 x0) p.2.1 p.1 p.2.2 = some y32) (fun (p : Nat × (List Int) × Int) => p.2.1.length) (0, x0, (-1 : Int)) ⟨by simp, by simp, h34⟩ (fun a w st => St.cut [0] ⟨rfl, rfl, rfl, rfl, rfl, rfl, trivial⟩ (by decide) rfl st) ?_
    rintro ⟨i39, r40, x3⟩ ⟨h45, h46, h44⟩
    try dsimp only at h45 h46 h44
    refine GL.weak (env' := [(0, v0), (1, .int .i64 x1), (6, .int .i64 x3), (12, v0), (13, .int .i64 ((x0).length : Int)), (14, .int .i64 (i39 : Int))]) (L' := [imm (TR.sl TR.int) v0 x0]) (fun _ _ st => st) ?_
    refine GL.seq ?_
    refine GL.region ?_
    refine RL.binI (v := .bool (decide ((i39 : Int) < ((x0).length : Int)))) rfl rfl rfl rfl rfl ?_
    refine RL.finG ?_
    refine GL.seq ?_
    refine GL.cond rfl (fun b47 => ?_) (fun b47 => ?_)
    · have h48 : i39 < (x0).length := by have := of_decide_eq_true b47; omega
      obtain ⟨y49, r51, hr, e50, h52⟩ := drop_cons h46 rfl h48
      subst hr
      obtain ⟨z41, h42, h43⟩ := rangeL_some h44
      unfold auction_two_b1 at h42
      try dsimp only at h42
      refine GL.skip ?_
      refine GL.seq ?_
      refine GL.block ?_
      refine GL.seq ?_
      refine GL.region ?_
      refine RL.mv rfl rfl rfl ?_
      refine RL.idxS (sz := 1) 0 Try.underlying34 Try_ln3 rfl rfl rfl rfl rfl SlOf.imm (by omega) (by omega) ?_
      refine RL.ldSx (i := i39) (e' := y49) 0 Ex.ik Try_ln3 rfl rfl rfl rfl SlOf.imm e50 Part.self ?_
      refine RL.asg rfl rfl rfl ?_
      refine RL.asg rfl rfl rfl ?_
      refine RL.finG ?_
      refine GL.seq ?_
      obtain ⟨y62, K63, h64, h65, h66, h67, h68⟩ := bindF_K h42
      refine GL.join (ι := Bool) (fun (p : Bool) => [(0, v0), (1, .int .i64 x1), (6, .int .i64 x3), (7, .int .i64 (i39 : Int)), (12, v0), (13, .int .i64 ((x0).length : Int)), (14, .int .i64 (i39 : Int)), (33, .bool p)]) (fun (p : Bool) => [imm (TR.sl TR.int) v0 x0]) (fun (p : Bool) => K63 (.nx p)) ?_ ?_
      · skip
        refine GL.region ?_
        refine RL.mv rfl rfl rfl ?_
        refine RL.mv rfl rfl rfl ?_
        refine RL.binI (v := .bool (decide (y49 ≥ x1))) rfl rfl rfl rfl rfl ?_
        refine RL.mv rfl rfl rfl ?_
        refine RL.split (t := 22) rfl (fun b69 => ?_) (fun b69 => ?_)
        · replace h64 := ite_t b69 h64
          refine RL.mv rfl rfl rfl ?_
          refine RL.binI (v := .bool (decide (x3 < (0 : Int)))) rfl rfl rfl rfl rfl ?_
          refine RL.mv rfl rfl rfl ?_
          refine RL.split (t := 25) rfl (fun b70 => ?_) (fun b70 => ?_)
          · replace h64 := ite_t b70 h64
            refine RL.skip rfl rfl ?_
            refine RL.skip rfl rfl ?_
            refine RL.skip rfl rfl ?_
            refine RL.skip rfl rfl ?_
            refine RL.skip rfl rfl ?_
            refine RL.skip rfl rfl ?_
            refine RL.pickT rfl rfl rfl rfl ?_
            refine RL.pickT rfl rfl rfl rfl ?_
            refine RL.fin ?_
            cases h64
            exact fun a w st => mid_intro true h65 (St.cut [0] ⟨rfl, rfl, rfl, rfl, rfl, rfl, rfl, rfl, trivial⟩ (by decide) rfl st)
          · replace h64 := ite_f b70 h64
            refine RL.mv rfl rfl rfl ?_
            refine RL.mv rfl rfl rfl ?_
            refine RL.mv rfl rfl rfl ?_
            obtain ⟨y71, e72, h64⟩ := bind_some h64
            refine RL.idxS (sz := 1) 0 Try.underlying34 Try_ln3 rfl rfl rfl rfl rfl SlOf.imm (idx_some e72).1 (idx_some e72).2.1 ?_
            refine RL.ldSx (i := (x3).toNat) (e' := y71) 0 Ex.ik Try_ln3 rfl rfl rfl rfl SlOf.imm (idx_some e72).2.2 Part.self ?_
            refine RL.binI (v := .bool (decide (y49 > y71))) rfl rfl rfl rfl rfl ?_
            refine RL.pickF rfl rfl rfl rfl ?_
            refine RL.pickT rfl rfl rfl rfl ?_
            refine RL.fin ?_
            cases h64
            exact fun a w st => mid_intro (decide (y49 > y71)) h65 (St.cut [0] ⟨rfl, rfl, rfl, rfl, rfl, rfl, rfl, rfl, trivial⟩ (by decide) rfl st)
        · replace h64 := ite_f b69 h64
          refine RL.skip rfl rfl ?_
          refine RL.skip rfl rfl ?_
          refine RL.skip rfl rfl ?_
          refine RL.skip rfl rfl ?_
          refine RL.skip rfl rfl ?_
          refine RL.skip rfl rfl ?_
          refine RL.skip rfl rfl ?_
          refine RL.skip rfl rfl ?_
          refine RL.skip rfl rfl ?_
          refine RL.skip rfl rfl ?_
          refine RL.pickF rfl rfl rfl rfl ?_
          refine RL.fin ?_
          cases h64
          exact fun a w st => mid_intro false h65 (St.cut [0] ⟨rfl, rfl, rfl, rfl, rfl, rfl, rfl, rfl, trivial⟩ (by decide) rfl st)
      · rintro x61 h73
        have h74 := h66 _ h73
        try dsimp only at h74
        refine GL.weak (env' := [(0, v0), (1, .int .i64 x1), (6, .int .i64 x3), (7, .int .i64 (i39 : Int)), (12, v0), (13, .int .i64 ((x0).length : Int)), (14, .int .i64 (i39 : Int)), (33, .bool x61)]) (L' := [imm (TR.sl TR.int) v0 x0]) (fun _ _ st => st) ?_
        refine GL.cond rfl (fun b75 => ?_) (fun b75 => ?_)
        · replace h74 := ite_t b75 h74
          refine GL.region ?_
          refine RL.mv rfl rfl rfl ?_
          refine RL.asg rfl rfl rfl ?_
          refine RL.finG ?_
          refine GL.nilB ?_
          refine GL.region ?_
          refine RL.binI (v := .int .i64 ((i39 + 1 : Nat) : Int)) rfl rfl rfl rfl (binI_succ i39 (by omega)) ?_
          refine RL.mv rfl rfl rfl ?_
          refine RL.fin ?_
          cases h74
          exact fun a w st => lop_intro (i39 + 1, r51, (i39 : Int)) ⟨by show i39 + 1 + r51.length = (x0).length; simp only [List.length_cons] at h45; omega, h52, h43⟩ (by simp) (St.cut [0] ⟨rfl, rfl, rfl, rfl, rfl, rfl, trivial⟩ (by decide) rfl st)
        · replace h74 := ite_f b75 h74
          refine GL.skip ?_
          refine GL.nilB ?_
          refine GL.region ?_
          refine RL.binI (v := .int .i64 ((i39 + 1 : Nat) : Int)) rfl rfl rfl rfl (binI_succ i39 (by omega)) ?_
          refine RL.mv rfl rfl rfl ?_
          refine RL.fin ?_
          cases h74
          exact fun a w st => lop_intro (i39 + 1, r51, x3) ⟨by show i39 + 1 + r51.length = (x0).length; simp only [List.length_cons] at h45; omega, h52, h43⟩ (by simp) (St.cut [0] ⟨rfl, rfl, rfl, rfl, rfl, rfl, trivial⟩ (by decide) rfl st)
    · have h48 : ¬ i39 < (x0).length := by have := of_decide_eq_false b47; omega
      obtain rfl : r40 = [] := by rw [← h46]; exact List.drop_of_length_le (by omega)
      replace h44 : some (Fl.nx _) = some y32 := h44
      cases h44
      exact GL.exit (fun a w st => mid_intro x3 h35 (St.cut [0] ⟨rfl, rfl, rfl, trivial⟩ (by decide) rfl st))
  · rintro x3 h76
    have h77 := h36 _ h76
    try dsimp only at h77
    refine GL.weak (env' := [(0, v0), (1, .int .i64 x1), (6, .int .i64 x3)]) (L' := [imm (TR.sl TR.int) v0 x0]) (fun _ _ st => st) ?_
    refine GL.seq ?_
    refine GL.region ?_
    refine RL.mv rfl rfl rfl ?_
    refine RL.asg rfl rfl rfl ?_
    refine RL.finG ?_
    refine GL.seq ?_
    refine GL.seq ?_
    refine GL.region ?_
    refine RL.mv rfl rfl rfl ?_
    refine RL.lenS 0 Try.underlying34 rfl rfl rfl rfl SlOf.imm ?_
    refine RL.mv rfl rfl rfl ?_
    refine RL.finG ?_
    refine GL.open_ 0 rfl (fun S h => len_imm S h) (fun n84 => ?_)
    obtain ⟨y85, K86, h87, h88, h89, h90, h91⟩ := bindR_K h77
    refine GL.join (ι := Int) (fun (p : Int) => [(6, .int .i64 x3), (9, .int .i64 p)]) (fun (p : Int) => []) (fun (p : Int) => K86 (.nx p)) ?_ ?_
    · refine GL.block ?_
      refine GL.loop (ι := Nat × (List Int) × Int) (fun (p : Nat × (List Int) × Int) => [(6, .int .i64 x3), (9, .int .i64 p.2.2), (37, v0), (38, .int .i64 ((x0).length : Int)), (39, .int .i64 (p.1 : Int))]) (fun (p : Nat × (List Int) × Int) => [imm (TR.sl TR.int) v0 x0]) (fun (p : Nat × (List Int) × Int) => p.1 + p.2.1.length = (x0).length ∧ List.drop p.1 x0 = p.2.1 ∧ rangeL (auction_two_b2 x3) p.2.1 p.1 p.2.2 = some y85) (fun (p : Nat × (List Int) × Int) => p.2.1.length) (0, x0, x1) ⟨by simp, by simp, h87⟩ (fun a w st => St.cut [0] ⟨rfl, rfl, rfl, rfl, rfl, trivial⟩ (by decide) rfl st) ?_
      rintro ⟨i92, r93, x78⟩ ⟨h98, h99, h97⟩
      try dsimp only at h98 h99 h97
      refine GL.weak (env' := [(6, .int .i64 x3), (9, .int .i64 x78), (37, v0), (38, .int .i64 ((x0).length : Int)), (39, .int .i64 (i92 : Int))]) (L' := [imm (TR.sl TR.int) v0 x0]) (fun _ _ st => st) ?_
      refine GL.seq ?_
      refine GL.region ?_
      refine RL.binI (v := .bool (decide ((i92 : Int) < ((x0).length : Int)))) rfl rfl rfl rfl rfl ?_
      refine RL.finG ?_
      refine GL.seq ?_
      refine GL.cond rfl (fun b100 => ?_) (fun b100 => ?_)
      · have h101 : i92 < (x0).length := by have := of_decide_eq_true b100; omega
        obtain ⟨y102, r104, hr, e103, h105⟩ := drop_cons h99 rfl h101
        subst hr
        obtain ⟨z94, h95, h96⟩ := rangeL_some h97
        unfold auction_two_b2 at h95
        try dsimp only at h95
        refine GL.skip ?_
        refine GL.seq ?_
        refine GL.block ?_
        refine GL.seq ?_
        refine GL.region ?_
        refine RL.mv rfl rfl rfl ?_
        refine RL.idxS (sz := 1) 0 Try.underlying34 Try_ln3 rfl rfl rfl rfl rfl SlOf.imm (by omega) (by omega) ?_
        refine RL.ldSx (i := i92) (e' := y102) 0 Ex.ik Try_ln3 rfl rfl rfl rfl SlOf.imm e103 Part.self ?_
        refine RL.asg rfl rfl rfl ?_
        refine RL.asg rfl rfl rfl ?_
        refine RL.finG ?_
        refine GL.seq ?_
        refine GL.region ?_
        refine RL.mv rfl rfl rfl ?_
        refine RL.mv rfl rfl rfl ?_
        refine RL.binI (v := .bool ((i92 : Int) != x3)) rfl rfl rfl rfl rfl ?_
        refine RL.finG ?_
        refine GL.cond rfl (fun b106 => ?_) (fun b106 => ?_)
        · replace h95 := ite_t b106 h95
          refine GL.region ?_
          refine RL.mv rfl rfl rfl ?_
          refine RL.mv rfl rfl rfl ?_
          refine RL.maxI rfl rfl rfl rfl ?_
          refine RL.asg rfl rfl rfl ?_
          refine RL.finG ?_
          refine GL.nilB ?_
          refine GL.region ?_
          refine RL.binI (v := .int .i64 ((i92 + 1 : Nat) : Int)) rfl rfl rfl rfl (binI_succ i92 (by omega)) ?_
          refine RL.mv rfl rfl rfl ?_
          refine RL.fin ?_
          cases h95
          exact fun a w st => lop_intro (i92 + 1, r104, if y102 > x78 then y102 else x78) ⟨by show i92 + 1 + r104.length = (x0).length; simp only [List.length_cons] at h98; omega, h105, h96⟩ (by simp) (St.cut [0] ⟨rfl, rfl, rfl, rfl, rfl, trivial⟩ (by decide) rfl st)
        · replace h95 := ite_f b106 h95
          refine GL.skip ?_
          refine GL.nilB ?_
          refine GL.region ?_
          refine RL.binI (v := .int .i64 ((i92 + 1 : Nat) : Int)) rfl rfl rfl rfl (binI_succ i92 (by omega)) ?_
          refine RL.mv rfl rfl rfl ?_
          refine RL.fin ?_
          cases h95
          exact fun a w st => lop_intro (i92 + 1, r104, x78) ⟨by show i92 + 1 + r104.length = (x0).length; simp only [List.length_cons] at h98; omega, h105, h96⟩ (by simp) (St.cut [0] ⟨rfl, rfl, rfl, rfl, rfl, trivial⟩ (by decide) rfl st)
      · have h101 : ¬ i92 < (x0).length := by have := of_decide_eq_false b100; omega
        obtain rfl : r93 = [] := by rw [← h99]; exact List.drop_of_length_le (by omega)
        replace h97 : some (Fl.nx _) = some y85 := h97
        cases h97
        exact GL.exit (fun a w st => mid_intro x78 h88 (St.cut [] ⟨rfl, rfl, trivial⟩ (by decide) rfl st))
    · rintro x78 h107
      have h108 := h89 _ h107
      try dsimp only at h108
      refine GL.weak (env' := [(6, .int .i64 x3), (9, .int .i64 x78)]) (L' := []) (fun _ _ st => st) ?_
      refine GL.seq ?_
      refine GL.region ?_
      refine RL.mv rfl rfl rfl ?_
      refine RL.mv rfl rfl rfl ?_
      refine RL.asg rfl rfl rfl ?_
      refine RL.asg rfl rfl rfl ?_
      refine RL.finG ?_
      have h108 := Option.some.inj h108
      subst h108
      exact GL.ret (Gx.ret (v := .tuple #[.int .i64 x3, .int .i64 x78]) (res2 rfl rfl rfl) (fun a w st => st.toPostC rfl))

set_option maxHeartbeats 4000000 in
theorem auction_Second_c (S : Hp) (w : World) (hS : S.sub w) (v0 : Value) (x0 : (List Int)) (k0 : ((TR.sl TR.int)).vrep S v0 x0) (x1 : Int) (res : Int × Int × Int) (hm : auction_Second_m x0 x1 = some res) : Calls Try.prog 36 #[v0, .int .i64 x1] w (PostC w (.tuple #[.int .i64 res.1, .int .i64 res.2.1, .int .i64 res.2.2])) := by
  refine calls_enter 26 Try.func36 Try.ntmps36 rfl S true [(0, v0), (1, .int .i64 x1)] [imm (TR.sl TR.int) v0 x0] rfl ⟨rfl, ⟨rfl, trivial⟩⟩ hS ⟨k0, trivial⟩ ?_
  unfold auction_Second_m at hm
  refine GL.seq ?_
  refine GL.region ?_
  refine RL.asg rfl rfl rfl ?_
  refine RL.asg rfl rfl rfl ?_
  refine RL.asg rfl rfl rfl ?_
  refine RL.finG ?_
  refine GL.seq ?_
  refine GL.seq ?_
  refine GL.region ?_
  refine RL.mv rfl rfl rfl ?_
  refine RL.mv rfl rfl rfl ?_
  obtain ⟨y5, e6, hm⟩ := bind_some hm
  refine RL.callC (v := .int .i64 y5) (vs := [v0, .int .i64 x1]) Try_fit51 rfl rfl rfl rfl (fun U w hU hW hL => auction_Check_c U w hU _ _ (hL 0 _ _ rfl Seen.imm) x1 _ e6) ?_
  refine RL.asg rfl rfl rfl ?_
  refine RL.finG ?_
  refine GL.seq ?_
  refine GL.region ?_
  refine RL.mv rfl rfl rfl ?_
  refine RL.binI (v := .bool (y5 != (0 : Int))) rfl rfl rfl rfl rfl ?_
  refine RL.finG ?_
  refine GL.cond rfl (fun b7 => ?_) (fun b7 => ?_)
  · replace hm := ite_t b7 hm
    refine GL.seq ?_
    refine GL.region ?_
    refine RL.mv rfl rfl rfl ?_
    refine RL.asg rfl rfl rfl ?_
    refine RL.asg rfl rfl rfl ?_
    refine RL.asg rfl rfl rfl ?_
    refine RL.finG ?_
    have hm := Option.some.inj hm
    subst hm
    exact GL.ret (Gx.ret (v := .tuple #[.int .i64 (0 : Int), .int .i64 (0 : Int), .int .i64 y5]) (res3 rfl rfl rfl rfl) (fun a w st => st.toPostC rfl))
  · replace hm := ite_f b7 hm
    refine GL.skip ?_
    refine GL.seq ?_
    refine GL.region ?_
    refine RL.mv rfl rfl rfl ?_
    refine RL.mv rfl rfl rfl ?_
    obtain ⟨y10, e11, hm⟩ := bind_some hm
    refine RL.callC (v := .tuple #[.int .i64 y10.1, .int .i64 y10.2]) (vs := [v0, .int .i64 x1]) Try_fit52 rfl rfl rfl rfl (fun U w hU hW hL => auction_two_c U w hU _ _ (hL 0 _ _ rfl Seen.imm) x1 _ e11) ?_
    refine RL.mv rfl rfl rfl ?_
    refine RL.ext rfl rfl rfl rfl ?_
    refine RL.ext rfl rfl rfl rfl ?_
    refine RL.asg rfl rfl rfl ?_
    refine RL.asg rfl rfl rfl ?_
    refine RL.finG ?_
    refine GL.seq ?_
    refine GL.seq ?_
    refine GL.region ?_
    refine RL.mv rfl rfl rfl ?_
    refine RL.binI (v := .bool (decide (y10.1 < (0 : Int)))) rfl rfl rfl rfl rfl ?_
    refine RL.finG ?_
    refine GL.cond rfl (fun b12 => ?_) (fun b12 => ?_)
    · replace hm := ite_t b12 hm
      refine GL.seq ?_
      refine GL.region ?_
      refine RL.asg rfl rfl rfl ?_
      refine RL.asg rfl rfl rfl ?_
      refine RL.asg rfl rfl rfl ?_
      refine RL.finG ?_
      have hm := Option.some.inj hm
      subst hm
      exact GL.ret (Gx.ret (v := .tuple #[.int .i64 (0 : Int), .int .i64 (0 : Int), .int .i64 (4 : Int)]) (res3 rfl rfl rfl rfl) (fun a w st => st.toPostC rfl))
    · replace hm := ite_f b12 hm
      refine GL.skip ?_
      refine GL.seq ?_
      refine GL.region ?_
      refine RL.mv rfl rfl rfl ?_
      refine RL.mv rfl rfl rfl ?_
      refine RL.asg rfl rfl rfl ?_
      refine RL.asg rfl rfl rfl ?_
      refine RL.asg rfl rfl rfl ?_
      refine RL.finG ?_
      have hm := Option.some.inj hm
      subst hm
      exact GL.ret (Gx.ret (v := .tuple #[.int .i64 y10.1, .int .i64 y10.2, .int .i64 (0 : Int)]) (res3 rfl rfl rfl rfl) (fun a w st => st.toPostC rfl))

set_option maxHeartbeats 4000000 in
theorem auction_first_c (S : Hp) (w : World) (hS : S.sub w) (v0 : Value) (x0 : (List Int)) (k0 : ((TR.sl TR.int)).vrep S v0 x0) (x1 : Int) (res : Int) (hm : auction_first_m x0 x1 = some res) : Calls Try.prog 54 #[v0, .int .i64 x1] w (PostC w (.int .i64 res)) := by
  refine calls_enter 19 Try.func54 Try.ntmps54 rfl S true [(0, v0), (1, .int .i64 x1)] [imm (TR.sl TR.int) v0 x0] rfl ⟨rfl, ⟨rfl, trivial⟩⟩ hS ⟨k0, trivial⟩ ?_
  unfold auction_first_m at hm
  refine GL.seq ?_
  refine GL.region ?_
  refine RL.asg rfl rfl rfl ?_
  refine RL.finG ?_
  refine GL.seq ?_
  refine GL.seq ?_
  refine GL.region ?_
  refine RL.mv rfl rfl rfl ?_
  refine RL.lenS 0 Try.underlying34 rfl rfl rfl rfl SlOf.imm ?_
  refine RL.mv rfl rfl rfl ?_
  refine RL.finG ?_
  refine GL.open_ 0 rfl (fun S h => len_imm S h) (fun n8 => ?_)
  obtain ⟨y9, K10, h11, h12, h13, h14, h15⟩ := bindR_K hm
  refine GL.join (ι := Unit) (fun (p : Unit) => []) (fun (p : Unit) => []) (fun (p : Unit) => K10 (.nx ())) ?_ ?_
  · refine GL.block ?_
    refine GL.loop (ι := Nat × (List Int)) (fun (p : Nat × (List Int)) => [(1, .int .i64 x1), (7, v0), (8, .int .i64 ((x0).length : Int)), (9, .int .i64 (p.1 : Int))]) (fun (p : Nat × (List Int)) => [imm (TR.sl TR.int) v0 x0]) (fun (p : Nat × (List Int)) => p.1 + p.2.length = (x0).length ∧ List.drop p.1 x0 = p.2 ∧ rangeL (auction_first_b1 x1) p.2 p.1 () = some y9) (fun (p : Nat × (List Int)) => p.2.length) (0, x0) ⟨by simp, by simp, h11⟩ (fun a w st => St.cut [0] ⟨rfl, rfl, rfl, rfl, trivial⟩ (by decide) rfl st) ?_
    rintro ⟨i16, r17⟩ ⟨h22, h23, h21⟩
    try dsimp only at h22 h23 h21
    refine GL.weak (env' := [(1, .int .i64 x1), (7, v0), (8, .int .i64 ((x0).length : Int)), (9, .int .i64 (i16 : Int))]) (L' := [imm (TR.sl TR.int) v0 x0]) (fun _ _ st => st) ?_
    refine GL.seq ?_
    refine GL.region ?_
    refine RL.binI (v := .bool (decide ((i16 : Int) < ((x0).length : Int)))) rfl rfl rfl rfl rfl ?_
    refine RL.finG ?_
    refine GL.seq ?_
    refine GL.cond rfl (fun b24 => ?_) (fun b24 => ?_)
    · have h25 : i16 < (x0).length := by have := of_decide_eq_true b24; omega
      obtain ⟨y26, r28, hr, e27, h29⟩ := drop_cons h23 rfl h25
      subst hr
      obtain ⟨z18, h19, h20⟩ := rangeL_some h21
      unfold auction_first_b1 at h19
      try dsimp only at h19
      refine GL.skip ?_
      refine GL.seq ?_
      refine GL.block ?_
      refine GL.seq ?_
      refine GL.region ?_
      refine RL.mv rfl rfl rfl ?_
      refine RL.idxS (sz := 1) 0 Try.underlying34 Try_ln3 rfl rfl rfl rfl rfl SlOf.imm (by omega) (by omega) ?_
      refine RL.ldSx (i := i16) (e' := y26) 0 Ex.ik Try_ln3 rfl rfl rfl rfl SlOf.imm e27 Part.self ?_
      refine RL.asg rfl rfl rfl ?_
      refine RL.asg rfl rfl rfl ?_
      refine RL.finG ?_
      refine GL.seq ?_
      refine GL.region ?_
      refine RL.mv rfl rfl rfl ?_
      refine RL.mv rfl rfl rfl ?_
      refine RL.binI (v := .bool (decide (y26 ≥ x1))) rfl rfl rfl rfl rfl ?_
      refine RL.finG ?_
      refine GL.cond rfl (fun b30 => ?_) (fun b30 => ?_)
      · replace h19 := ite_t b30 h19
        refine GL.seq ?_
        refine GL.region ?_
        refine RL.mv rfl rfl rfl ?_
        refine RL.asg rfl rfl rfl ?_
        refine RL.finG ?_
        cases h19
        replace h20 : some (Fl.rt _) = some y9 := h20
        cases h20
        have hh := h14 _ h12
        subst hh
        exact GL.ret (Gx.ret (v := .int .i64 (i16 : Int)) (res1 rfl rfl) (fun a w st => st.toPostC rfl))
      · replace h19 := ite_f b30 h19
        refine GL.skip ?_
        refine GL.nilB ?_
        refine GL.region ?_
        refine RL.binI (v := .int .i64 ((i16 + 1 : Nat) : Int)) rfl rfl rfl rfl (binI_succ i16 (by omega)) ?_
        refine RL.mv rfl rfl rfl ?_
        refine RL.fin ?_
        cases h19
        exact fun a w st => lop_intro (i16 + 1, r28) ⟨by show i16 + 1 + r28.length = (x0).length; simp only [List.length_cons] at h22; omega, h29, h20⟩ (by simp) (St.cut [0] ⟨rfl, rfl, rfl, rfl, trivial⟩ (by decide) rfl st)
    · have h25 : ¬ i16 < (x0).length := by have := of_decide_eq_false b24; omega
      obtain rfl : r17 = [] := by rw [← h23]; exact List.drop_of_length_le (by omega)
      replace h21 : some (Fl.nx _) = some y9 := h21
      cases h21
      exact GL.exit (fun a w st => mid_intro () h12 (St.cut [] trivial (by decide) rfl st))
  · rintro ⟨⟩ h31
    have h32 := h13 _ h31
    try dsimp only at h32
    refine GL.weak (env' := []) (L' := []) (fun _ _ st => st) ?_
    refine GL.seq ?_
    refine GL.region ?_
    refine RL.asg rfl rfl rfl ?_
    refine RL.finG ?_
    have h32 := Option.some.inj h32
    subst h32
    exact GL.ret (Gx.ret (v := .int .i64 (-1 : Int)) (res1 rfl rfl) (fun a w st => st.toPostC rfl))

set_option maxHeartbeats 4000000 in
theorem auction_Rise_c (S : Hp) (w : World) (hS : S.sub w) (v0 : Value) (x0 : (List Int)) (k0 : ((TR.sl TR.int)).vrep S v0 x0) (x1 : Int) (x2 : Int) (res : Int × Int × Int) (hm : auction_Rise_m x0 x1 x2 = some res) : Calls Try.prog 41 #[v0, .int .i64 x1, .int .i64 x2] w (PostC w (.tuple #[.int .i64 res.1, .int .i64 res.2.1, .int .i64 res.2.2])) := by
  refine calls_enter 83 Try.func41 Try.ntmps41 rfl S true [(0, v0), (1, .int .i64 x1), (2, .int .i64 x2)] [imm (TR.sl TR.int) v0 x0] rfl ⟨rfl, ⟨rfl, ⟨rfl, trivial⟩⟩⟩ hS ⟨k0, trivial⟩ ?_
  unfold auction_Rise_m at hm
  refine GL.seq ?_
  refine GL.region ?_
  refine RL.asg rfl rfl rfl ?_
  refine RL.asg rfl rfl rfl ?_
  refine RL.asg rfl rfl rfl ?_
  refine RL.finG ?_
  refine GL.seq ?_
  refine GL.seq ?_
  refine GL.region ?_
  refine RL.mv rfl rfl rfl ?_
  refine RL.mv rfl rfl rfl ?_
  obtain ⟨y6, e7, hm⟩ := bind_some hm
  refine RL.callC (v := .int .i64 y6) (vs := [v0, .int .i64 x1]) Try_fit51 rfl rfl rfl rfl (fun U w hU hW hL => auction_Check_c U w hU _ _ (hL 0 _ _ rfl Seen.imm) x1 _ e7) ?_
  refine RL.asg rfl rfl rfl ?_
  refine RL.finG ?_
  refine GL.seq ?_
  refine GL.region ?_
  refine RL.mv rfl rfl rfl ?_
  refine RL.binI (v := .bool (y6 != (0 : Int))) rfl rfl rfl rfl rfl ?_
  refine RL.finG ?_
  refine GL.cond rfl (fun b8 => ?_) (fun b8 => ?_)
  · replace hm := ite_t b8 hm
    refine GL.seq ?_
    refine GL.region ?_
    refine RL.mv rfl rfl rfl ?_
    refine RL.asg rfl rfl rfl ?_
    refine RL.asg rfl rfl rfl ?_
    refine RL.asg rfl rfl rfl ?_
    refine RL.finG ?_
    have hm := Option.some.inj hm
    subst hm
    exact GL.ret (Gx.ret (v := .tuple #[.int .i64 (0 : Int), .int .i64 (0 : Int), .int .i64 y6]) (res3 rfl rfl rfl rfl) (fun a w st => st.toPostC rfl))
  · replace hm := ite_f b8 hm
    refine GL.skip ?_
    refine GL.seq ?_
    refine GL.seq ?_
    obtain ⟨y12, K13, h14, h15, h16, h17, h18⟩ := bindR_K hm
    refine GL.join (ι := Bool) (fun (p : Bool) => [(0, v0), (1, .int .i64 x1), (2, .int .i64 x2), (29, .bool p)]) (fun (p : Bool) => [imm (TR.sl TR.int) v0 x0]) (fun (p : Bool) => K13 (.nx p)) ?_ ?_
    · skip
      refine GL.region ?_
      refine RL.mv rfl rfl rfl ?_
      refine RL.binI (v := .bool (decide (x2 < (1 : Int)))) rfl rfl rfl rfl rfl ?_
      refine RL.mv rfl rfl rfl ?_
      refine RL.split (t := 26) rfl (fun b19 => ?_) (fun b19 => ?_)
      · replace h14 := ite_t b19 h14
        refine RL.skip rfl rfl ?_
        refine RL.skip rfl rfl ?_
        refine RL.pickT rfl rfl rfl rfl ?_
        refine RL.fin ?_
        cases h14
        exact fun a w st => mid_intro true h15 (St.cut [0] ⟨rfl, rfl, rfl, rfl, trivial⟩ (by decide) rfl st)
      · replace h14 := ite_f b19 h14
        refine RL.mv rfl rfl rfl ?_
        refine RL.binI (v := .bool (decide (x2 > (1000000 : Int)))) rfl rfl rfl rfl rfl ?_
        refine RL.pickF rfl rfl rfl rfl ?_
        refine RL.fin ?_
        cases h14
        exact fun a w st => mid_intro (decide (x2 > (1000000 : Int))) h15 (St.cut [0] ⟨rfl, rfl, rfl, rfl, trivial⟩ (by decide) rfl st)
    · rintro x11 h20
      have h21 := h16 _ h20
      try dsimp only at h21
      refine GL.weak (env' := [(0, v0), (1, .int .i64 x1), (2, .int .i64 x2), (29, .bool x11)]) (L' := [imm (TR.sl TR.int) v0 x0]) (fun _ _ st => st) ?_
      refine GL.cond rfl (fun b22 => ?_) (fun b22 => ?_)
      · replace h21 := ite_t b22 h21
        refine GL.seq ?_
        refine GL.region ?_
        refine RL.asg rfl rfl rfl ?_
        refine RL.asg rfl rfl rfl ?_
        refine RL.asg rfl rfl rfl ?_
        refine RL.finG ?_
        have h21 := Option.some.inj h21
        subst h21
        exact GL.ret (Gx.ret (v := .tuple #[.int .i64 (0 : Int), .int .i64 (0 : Int), .int .i64 (1 : Int)]) (res3 rfl rfl rfl rfl) (fun a w st => st.toPostC rfl))
      · replace h21 := ite_f b22 h21
        refine GL.skip ?_
        refine GL.seq ?_
        refine GL.region ?_
        refine RL.mv rfl rfl rfl ?_
        refine RL.mv rfl rfl rfl ?_
        obtain ⟨y25, e26, h21⟩ := bind_some h21
        refine RL.callC (v := .tuple #[.int .i64 y25.1, .int .i64 y25.2]) (vs := [v0, .int .i64 x1]) Try_fit52 rfl rfl rfl rfl (fun U w hU hW hL => auction_two_c U w hU _ _ (hL 0 _ _ rfl Seen.imm) x1 _ e26) ?_
        refine RL.mv rfl rfl rfl ?_
        refine RL.ext rfl rfl rfl rfl ?_
        refine RL.ext rfl rfl rfl rfl ?_
        refine RL.asg rfl rfl rfl ?_
        refine RL.asg rfl rfl rfl ?_
        refine RL.finG ?_
        refine GL.seq ?_
        refine GL.seq ?_
        refine GL.region ?_
        refine RL.mv rfl rfl rfl ?_
        refine RL.binI (v := .bool (decide (y25.1 < (0 : Int)))) rfl rfl rfl rfl rfl ?_
        refine RL.finG ?_
        refine GL.cond rfl (fun b27 => ?_) (fun b27 => ?_)
        · replace h21 := ite_t b27 h21
          refine GL.seq ?_
          refine GL.region ?_
          refine RL.asg rfl rfl rfl ?_
          refine RL.asg rfl rfl rfl ?_
          refine RL.asg rfl rfl rfl ?_
          refine RL.finG ?_
          have h21 := Option.some.inj h21
          subst h21
          exact GL.ret (Gx.ret (v := .tuple #[.int .i64 (0 : Int), .int .i64 (0 : Int), .int .i64 (4 : Int)]) (res3 rfl rfl rfl rfl) (fun a w st => st.toPostC rfl))
        · replace h21 := ite_f b27 h21
          refine GL.skip ?_
          refine GL.seq ?_
          refine GL.region ?_
          refine RL.asg rfl rfl rfl ?_
          refine RL.finG ?_
          refine GL.seq ?_
          refine GL.seq ?_
          refine GL.region ?_
          refine RL.mv rfl rfl rfl ?_
          refine RL.mv rfl rfl rfl ?_
          refine RL.binI (v := .bool (decide (y25.2 > x1))) rfl rfl rfl rfl rfl ?_
          refine RL.finG ?_
          obtain ⟨y34, K35, h36, h37, h38, h39, h40⟩ := bindR_K h21
          refine GL.join (ι := Int) (fun (p : Int) => [(0, v0), (1, .int .i64 x1), (2, .int .i64 x2), (12, .int .i64 p)]) (fun (p : Int) => [imm (TR.sl TR.int) v0 x0]) (fun (p : Int) => K35 (.nx p)) ?_ ?_
          · skip
            refine GL.cond rfl (fun b41 => ?_) (fun b41 => ?_)
            · replace h36 := ite_t b41 h36
              refine GL.region ?_
              refine RL.mv rfl rfl rfl ?_
              refine RL.mv rfl rfl rfl ?_
              refine RL.binI (v := .int .i64 (wsub y25.2 x1)) rfl rfl rfl rfl rfl ?_
              refine RL.mv rfl rfl rfl ?_
              obtain ⟨y44, e45, h36⟩ := bind_some h36
              replace e45 := chk_some e45
              refine RL.quo rfl rfl rfl rfl e45 ?_
              refine RL.asg rfl rfl rfl ?_
              refine RL.finG ?_
              cases h36
              exact fun a w st => mid_intro (IntKind.wrap .i64 (Int.tdiv (wsub y25.2 x1) x2)) h37 (St.cut [0] ⟨rfl, rfl, rfl, rfl, trivial⟩ (by decide) rfl st)
            · replace h36 := ite_f b41 h36
              refine GL.skip ?_
              cases h36
              exact fun a w st => mid_intro (0 : Int) h37 (St.cut [0] ⟨rfl, rfl, rfl, rfl, trivial⟩ (by decide) rfl st)
          · rintro x33 h46
            have h47 := h38 _ h46
            try dsimp only at h47
            refine GL.weak (env' := [(0, v0), (1, .int .i64 x1), (2, .int .i64 x2), (12, .int .i64 x33)]) (L' := [imm (TR.sl TR.int) v0 x0]) (fun _ _ st => st) ?_
            obtain ⟨y89, K90, h91, h92, h93, h94, h95⟩ := bindR_K h47
            refine GL.join (ι := Int) (fun (p : Int) => []) (fun (p : Int) => []) (fun (p : Int) => K90 (.nx p)) ?_ ?_
            · refine GL.block ?_
              refine GL.loop (ι := Nat × Int) (fun (p : Nat × Int) => [(0, v0), (1, .int .i64 x1), (2, .int .i64 x2), (12, .int .i64 p.2)]) (fun (p : Nat × Int) => [imm (TR.sl TR.int) v0 x0]) (fun (p : Nat × Int) => loopM (auction_Rise_b1 x1 x2 x0) p.1 p.2 = some y89) (fun (p : Nat × Int) => p.1) (1048576, x33) h91 (fun a w st => St.cut [0] ⟨rfl, rfl, rfl, rfl, trivial⟩ (by decide) rfl st) ?_
              rintro ⟨r97, x48⟩ h101
              try dsimp only at h101
              refine GL.weak (env' := [(0, v0), (1, .int .i64 x1), (2, .int .i64 x2), (12, .int .i64 x48)]) (L' := [imm (TR.sl TR.int) v0 x0]) (fun _ _ st => st) ?_
              obtain ⟨r104, z98, hr, h99, h100⟩ := loopM_some h101
              subst hr
              unfold auction_Rise_b1 at h99
              try dsimp only at h99
              refine GL.seq ?_
              refine GL.block ?_
              refine GL.seq ?_
              refine GL.region ?_
              refine RL.mv rfl rfl rfl ?_
              refine RL.mv rfl rfl rfl ?_
              refine RL.mv rfl rfl rfl ?_
              refine RL.binI (v := .int .i64 (wmul x48 x2)) rfl rfl rfl rfl rfl ?_
              refine RL.binI (v := .int .i64 (wadd x1 (wmul x48 x2))) rfl rfl rfl rfl rfl ?_
              refine RL.asg rfl rfl rfl ?_
              refine RL.finG ?_
              refine GL.seq ?_
              refine GL.region ?_
              refine RL.asg rfl rfl rfl ?_
              refine RL.asg rfl rfl rfl ?_
              refine RL.finG ?_
              refine GL.seq ?_
              refine GL.seq ?_
              refine GL.region ?_
              refine RL.mv rfl rfl rfl ?_
              refine RL.lenS 0 Try.underlying34 rfl rfl rfl rfl SlOf.imm ?_
              refine RL.mv rfl rfl rfl ?_
              refine RL.finG ?_
              refine GL.open_ 0 rfl (fun S h => len_imm S h) (fun n113 => ?_)
              obtain ⟨y114, K115, h116, h117, h118, h119, h120⟩ := bindF_K h99
              refine GL.join (ι := Int × Int) (fun (p : Int × Int) => [(0, v0), (1, .int .i64 x1), (2, .int .i64 x2), (12, .int .i64 x48), (13, .int .i64 (wadd x1 (wmul x48 x2))), (14, .int .i64 p.1), (15, .int .i64 p.2)]) (fun (p : Int × Int) => [imm (TR.sl TR.int) v0 x0]) (fun (p : Int × Int) => K115 (.nx (p.1, p.2))) ?_ ?_
              · refine GL.block ?_
                refine GL.loop (ι := Nat × (List Int) × Int × Int) (fun (p : Nat × (List Int) × Int × Int) => [(0, v0), (1, .int .i64 x1), (2, .int .i64 x2), (12, .int .i64 x48), (13, .int .i64 (wadd x1 (wmul x48 x2))), (14, .int .i64 p.2.2.1), (15, .int .i64 p.2.2.2), (53, v0), (54, .int .i64 ((x0).length : Int)), (55, .int .i64 (p.1 : Int))]) (fun (p : Nat × (List Int) × Int × Int) => [imm (TR.sl TR.int) v0 x0]) (fun (p : Nat × (List Int) × Int × Int) => p.1 + p.2.1.length = (x0).length ∧ List.drop p.1 x0 = p.2.1 ∧ rangeL (auction_Rise_b2 x1 x48 x2) p.2.1 p.1 (p.2.2.1, p.2.2.2) = some y114) (fun (p : Nat × (List Int) × Int × Int) => p.2.1.length) (0, x0, (0 : Int), (-1 : Int)) ⟨by simp, by simp, h116⟩ (fun a w st => St.cut [0] ⟨rfl, rfl, rfl, rfl, rfl, rfl, rfl, rfl, rfl, rfl, trivial⟩ (by decide) rfl st) ?_
                rintro ⟨i121, r122, x105, x106⟩ ⟨h127, h128, h126⟩
                try dsimp only at h127 h128 h126
                refine GL.weak (env' := [(0, v0), (1, .int .i64 x1), (2, .int .i64 x2), (12, .int .i64 x48), (13, .int .i64 (wadd x1 (wmul x48 x2))), (14, .int .i64 x105), (15, .int .i64 x106), (53, v0), (54, .int .i64 ((x0).length : Int)), (55, .int .i64 (i121 : Int))]) (L' := [imm (TR.sl TR.int) v0 x0]) (fun _ _ st => st) ?_
                refine GL.seq ?_
                refine GL.region ?_
                refine RL.binI (v := .bool (decide ((i121 : Int) < ((x0).length : Int)))) rfl rfl rfl rfl rfl ?_
                refine RL.finG ?_
                refine GL.seq ?_
                refine GL.cond rfl (fun b129 => ?_) (fun b129 => ?_)
                · have h130 : i121 < (x0).length := by have := of_decide_eq_true b129; omega
                  obtain ⟨y131, r133, hr, e132, h134⟩ := drop_cons h128 rfl h130
                  subst hr
                  obtain ⟨z123, h124, h125⟩ := rangeL_some h126
                  unfold auction_Rise_b2 at h124
                  try dsimp only at h124
                  refine GL.skip ?_
                  refine GL.seq ?_
                  refine GL.block ?_
                  refine GL.seq ?_
                  refine GL.region ?_
                  refine RL.mv rfl rfl rfl ?_
                  refine RL.idxS (sz := 1) 0 Try.underlying34 Try_ln3 rfl rfl rfl rfl rfl SlOf.imm (by omega) (by omega) ?_
                  refine RL.ldSx (i := i121) (e' := y131) 0 Ex.ik Try_ln3 rfl rfl rfl rfl SlOf.imm e132 Part.self ?_
                  refine RL.asg rfl rfl rfl ?_
                  refine RL.asg rfl rfl rfl ?_
                  refine RL.finG ?_
                  refine GL.seq ?_
                  refine GL.region ?_
                  refine RL.mv rfl rfl rfl ?_
                  refine RL.mv rfl rfl rfl ?_
                  refine RL.binI (v := .bool (decide (y131 ≥ (wadd x1 (wmul x48 x2))))) rfl rfl rfl rfl rfl ?_
                  refine RL.finG ?_
                  refine GL.cond rfl (fun b135 => ?_) (fun b135 => ?_)
                  · replace h124 := ite_t b135 h124
                    refine GL.seq ?_
                    refine GL.region ?_
                    refine RL.mv rfl rfl rfl ?_
                    refine RL.binI (v := .int .i64 (wadd x105 (1 : Int))) rfl rfl rfl rfl rfl ?_
                    refine RL.asg rfl rfl rfl ?_
                    refine RL.finG ?_
                    refine GL.seq ?_
                    refine GL.region ?_
                    refine RL.mv rfl rfl rfl ?_
                    refine RL.binI (v := .bool (decide (x106 < (0 : Int)))) rfl rfl rfl rfl rfl ?_
                    refine RL.finG ?_
                    refine GL.cond rfl (fun b136 => ?_) (fun b136 => ?_)
                    · replace h124 := ite_t b136 h124
                      refine GL.region ?_
                      refine RL.mv rfl rfl rfl ?_
                      refine RL.asg rfl rfl rfl ?_
                      refine RL.finG ?_
                      refine GL.nilB ?_
                      refine GL.region ?_
                      refine RL.binI (v := .int .i64 ((i121 + 1 : Nat) : Int)) rfl rfl rfl rfl (binI_succ i121 (by omega)) ?_
                      refine RL.mv rfl rfl rfl ?_
                      refine RL.fin ?_
                      cases h124
                      exact fun a w st => lop_intro (i121 + 1, r133, wadd x105 (1 : Int), (i121 : Int)) ⟨by show i121 + 1 + r133.length = (x0).length; simp only [List.length_cons] at h127; omega, h134, h125⟩ (by simp) (St.cut [0] ⟨rfl, rfl, rfl, rfl, rfl, rfl, rfl, rfl, rfl, rfl, trivial⟩ (by decide) rfl st)
                    · replace h124 := ite_f b136 h124
                      refine GL.skip ?_
                      refine GL.nilB ?_
                      refine GL.region ?_
                      refine RL.binI (v := .int .i64 ((i121 + 1 : Nat) : Int)) rfl rfl rfl rfl (binI_succ i121 (by omega)) ?_
                      refine RL.mv rfl rfl rfl ?_
                      refine RL.fin ?_
                      cases h124
                      exact fun a w st => lop_intro (i121 + 1, r133, wadd x105 (1 : Int), x106) ⟨by show i121 + 1 + r133.length = (x0).length; simp only [List.length_cons] at h127; omega, h134, h125⟩ (by simp) (St.cut [0] ⟨rfl, rfl, rfl, rfl, rfl, rfl, rfl, rfl, rfl, rfl, trivial⟩ (by decide) rfl st)
                  · replace h124 := ite_f b135 h124
                    refine GL.skip ?_
                    refine GL.nilB ?_
                    refine GL.region ?_
                    refine RL.binI (v := .int .i64 ((i121 + 1 : Nat) : Int)) rfl rfl rfl rfl (binI_succ i121 (by omega)) ?_
                    refine RL.mv rfl rfl rfl ?_
                    refine RL.fin ?_
                    cases h124
                    exact fun a w st => lop_intro (i121 + 1, r133, x105, x106) ⟨by show i121 + 1 + r133.length = (x0).length; simp only [List.length_cons] at h127; omega, h134, h125⟩ (by simp) (St.cut [0] ⟨rfl, rfl, rfl, rfl, rfl, rfl, rfl, rfl, rfl, rfl, trivial⟩ (by decide) rfl st)
                · have h130 : ¬ i121 < (x0).length := by have := of_decide_eq_false b129; omega
                  obtain rfl : r122 = [] := by rw [← h128]; exact List.drop_of_length_le (by omega)
                  replace h126 : some (Fl.nx _) = some y114 := h126
                  cases h126
                  exact GL.exit (fun a w st => mid_intro (x105, x106) h117 (St.cut [0] ⟨rfl, rfl, rfl, rfl, rfl, rfl, rfl, trivial⟩ (by decide) rfl st))
              · rintro ⟨x105, x106⟩ h137
                have h138 := h118 _ h137
                try dsimp only at h138
                refine GL.weak (env' := [(0, v0), (1, .int .i64 x1), (2, .int .i64 x2), (12, .int .i64 x48), (13, .int .i64 (wadd x1 (wmul x48 x2))), (14, .int .i64 x105), (15, .int .i64 x106)]) (L' := [imm (TR.sl TR.int) v0 x0]) (fun _ _ st => st) ?_
                refine GL.seq ?_
                refine GL.seq ?_
                refine GL.region ?_
                refine RL.mv rfl rfl rfl ?_
                refine RL.binI (v := .bool (x105 == (1 : Int))) rfl rfl rfl rfl rfl ?_
                refine RL.finG ?_
                refine GL.cond rfl (fun b139 => ?_) (fun b139 => ?_)
                · replace h138 := ite_t b139 h138
                  refine GL.seq ?_
                  refine GL.region ?_
                  refine RL.mv rfl rfl rfl ?_
                  refine RL.mv rfl rfl rfl ?_
                  refine RL.asg rfl rfl rfl ?_
                  refine RL.asg rfl rfl rfl ?_
                  refine RL.asg rfl rfl rfl ?_
                  refine RL.finG ?_
                  cases h138
                  replace h100 : some (Fl.rt _) = some y89 := h100
                  cases h100
                  have hh := h94 _ h92
                  subst hh
                  exact GL.ret (Gx.ret (v := .tuple #[.int .i64 x106, .int .i64 (wadd x1 (wmul x48 x2)), .int .i64 (0 : Int)]) (res3 rfl rfl rfl rfl) (fun a w st => st.toPostC rfl))
                · replace h138 := ite_f b139 h138
                  refine GL.skip ?_
                  refine GL.seq ?_
                  refine GL.region ?_
                  refine RL.mv rfl rfl rfl ?_
                  refine RL.binI (v := .bool (x105 == (0 : Int))) rfl rfl rfl rfl rfl ?_
                  refine RL.finG ?_
                  refine GL.cond rfl (fun b140 => ?_) (fun b140 => ?_)
                  · replace h138 := ite_t b140 h138
                    refine GL.seq ?_
                    refine GL.region ?_
                    refine RL.mv rfl rfl rfl ?_
                    refine RL.mv rfl rfl rfl ?_
                    refine RL.mv rfl rfl rfl ?_
                    refine RL.binI (v := .int .i64 (wsub (wadd x1 (wmul x48 x2)) x2)) rfl rfl rfl rfl rfl ?_
                    obtain ⟨y143, e144, h138⟩ := bind_some h138
                    refine RL.callC (v := .int .i64 y143) (vs := [v0, .int .i64 (wsub (wadd x1 (wmul x48 x2)) x2)]) Try_fit54 rfl rfl rfl rfl (fun U w hU hW hL => auction_first_c U w hU _ _ (hL 0 _ _ rfl Seen.imm) (wsub (wadd x1 (wmul x48 x2)) x2) _ e144) ?_
                    refine RL.mv rfl rfl rfl ?_
                    refine RL.mv rfl rfl rfl ?_
                    refine RL.binI (v := .int .i64 (wsub (wadd x1 (wmul x48 x2)) x2)) rfl rfl rfl rfl rfl ?_
                    refine RL.asg rfl rfl rfl ?_
                    refine RL.asg rfl rfl rfl ?_
                    refine RL.asg rfl rfl rfl ?_
                    refine RL.finG ?_
                    cases h138
                    replace h100 : some (Fl.rt _) = some y89 := h100
                    cases h100
                    have hh := h94 _ h92
                    subst hh
                    exact GL.ret (Gx.ret (v := .tuple #[.int .i64 y143, .int .i64 (wsub (wadd x1 (wmul x48 x2)) x2), .int .i64 (0 : Int)]) (res3 rfl rfl rfl rfl) (fun a w st => st.toPostC rfl))
                  · replace h138 := ite_f b140 h138
                    refine GL.skip ?_
                    refine GL.nilB ?_
                    refine GL.region ?_
                    refine RL.mv rfl rfl rfl ?_
                    refine RL.binI (v := .int .i64 (wadd x48 (1 : Int))) rfl rfl rfl rfl rfl ?_
                    refine RL.asg rfl rfl rfl ?_
                    refine RL.finG ?_
                    cases h138
                    exact fun a w st => lop_intro (r104, wadd x48 (1 : Int)) (by exact h100) (by simp) (St.cut [0] ⟨rfl, rfl, rfl, rfl, trivial⟩ (by decide) rfl st)
            · rintro x48 h145
              have h146 := h93 _ h145
              try dsimp only at h146
              cases h146

set_option maxHeartbeats 4000000 in
theorem slices_IndexFunc_api_Errno_api_Errno_c (S : Hp) (w : World) (hS : S.sub w) (v0 : Value) (x0 : (List Int)) (k0 : ((TR.sl TR.int)).vrep S v0 x0) (f1 : FuncId) (c1 : Array Value) (t1 : Fit Try.prog f1) (g1 : Int → Option Bool) (k1 : ∀ (U : Hp) (w' : World), Hp.le S U → U.sub w' → ∀ (a0 : Int) (rr : Bool), g1 a0 = some rr → Calls Try.prog f1 (#[.int .i64 a0] ++ c1) w' (PostV w' (.bool rr))) (res : Int) (hm : slices_IndexFunc_api_Errno_api_Errno_m x0 g1 = some res) : Calls Try.prog 55 #[v0, .func (.func f1) #[] c1] w (PostV w (.int .i64 res)) := by
  refine calls_enter 19 Try.func55 Try.ntmps55 rfl S false [(0, v0), (1, .func (.func f1) #[] c1)] [imm (TR.sl TR.int) v0 x0] rfl ⟨rfl, ⟨rfl, trivial⟩⟩ hS ⟨k0, trivial⟩ ?_
  unfold slices_IndexFunc_api_Errno_api_Errno_m at hm
  refine GL.seq ?_
  refine GL.region ?_
  refine RL.asg rfl rfl rfl ?_
  refine RL.finG ?_
  refine GL.seq ?_
  refine GL.seq ?_
  refine GL.region ?_
  refine RL.mv rfl rfl rfl ?_
  refine RL.lenS 0 Try.underlying80 rfl rfl rfl rfl SlOf.imm ?_
  refine RL.mv rfl rfl rfl ?_
  refine RL.finG ?_
  refine GL.open_ 0 rfl (fun S h => len_imm S h) (fun n12 => ?_)
  obtain ⟨y13, K14, h15, h16, h17, h18, h19⟩ := bindR_K hm
  refine GL.join (ι := Unit) (fun (p : Unit) => []) (fun (p : Unit) => []) (fun (p : Unit) => K14 (.nx ())) ?_ ?_
  · refine GL.block ?_
    refine GL.loop (ι := Nat × (List Int)) (fun (p : Nat × (List Int)) => [(0, v0), (1, .func (.func f1) #[] c1), (7, .int .i64 ((x0).length : Int)), (8, .int .i64 (p.1 : Int))]) (fun (p : Nat × (List Int)) => [imm (TR.sl TR.int) v0 x0]) (fun (p : Nat × (List Int)) => p.1 + p.2.length = (x0).length ∧ List.drop p.1 x0 = p.2 ∧ rangeL (slices_IndexFunc_api_Errno_api_Errno_b1 g1) p.2 p.1 () = some y13) (fun (p : Nat × (List Int)) => p.2.length) (0, x0) ⟨by simp, by simp, h15⟩ (fun a w st => St.cut [0] ⟨rfl, rfl, rfl, rfl, trivial⟩ (by decide) rfl st) ?_
    rintro ⟨i20, r21⟩ ⟨h26, h27, h25⟩
    try dsimp only at h26 h27 h25
    refine GL.weak (env' := [(0, v0), (1, .func (.func f1) #[] c1), (7, .int .i64 ((x0).length : Int)), (8, .int .i64 (i20 : Int))]) (L' := [imm (TR.sl TR.int) v0 x0]) (fun _ _ st => st) ?_
    refine GL.seq ?_
    refine GL.region ?_
    refine RL.binI (v := .bool (decide ((i20 : Int) < ((x0).length : Int)))) rfl rfl rfl rfl rfl ?_
    refine RL.finG ?_
    refine GL.seq ?_
    refine GL.cond rfl (fun b28 => ?_) (fun b28 => ?_)
    · have h29 : i20 < (x0).length := by have := of_decide_eq_true b28; omega
      obtain ⟨y30, r32, hr, e31, h33⟩ := drop_cons h27 rfl h29
      subst hr
      obtain ⟨z22, h23, h24⟩ := rangeL_some h25
      unfold slices_IndexFunc_api_Errno_api_Errno_b1 at h23
      try dsimp only at h23
      refine GL.skip ?_
      refine GL.seq ?_
      refine GL.block ?_
      refine GL.seq ?_
      refine GL.region ?_
      refine RL.mv rfl rfl rfl ?_
      refine RL.asg rfl rfl rfl ?_
      refine RL.finG ?_
      refine GL.seq ?_
      refine GL.region ?_
      refine RL.mv rfl rfl rfl ?_
      refine RL.mv rfl rfl rfl ?_
      refine RL.mv rfl rfl rfl ?_
      refine RL.idxS (sz := 1) 0 Try.underlying80 Try_ln24 rfl rfl rfl rfl rfl SlOf.imm (by omega) (by omega) ?_
      refine RL.ldSx (i := i20) (e' := y30) 0 Ex.ik Try_ln24 rfl rfl rfl rfl SlOf.imm e31 Part.self ?_
      obtain ⟨y36, e37, h23⟩ := bind_some h23
      refine RL.callV (v := .bool y36) (vs := [.int .i64 y30]) t1 rfl (Or.inl rfl) rfl rfl rfl rfl (fun U w hU hW hL => k1 U w hW hU y30 _ e37) ?_
      refine RL.finG ?_
      refine GL.cond rfl (fun b38 => ?_) (fun b38 => ?_)
      · replace h23 := ite_t b38 h23
        refine GL.seq ?_
        refine GL.region ?_
        refine RL.mv rfl rfl rfl ?_
        refine RL.asg rfl rfl rfl ?_
        refine RL.finG ?_
        cases h23
        replace h24 : some (Fl.rt _) = some y13 := h24
        cases h24
        have hh := h18 _ h16
        subst hh
        exact GL.ret (Gx.ret (v := .int .i64 (i20 : Int)) (res1 rfl rfl) (fun a w st => st.toPostV))
      · replace h23 := ite_f b38 h23
        refine GL.skip ?_
        refine GL.nilB ?_
        refine GL.region ?_
        refine RL.binI (v := .int .i64 ((i20 + 1 : Nat) : Int)) rfl rfl rfl rfl (binI_succ i20 (by omega)) ?_
        refine RL.mv rfl rfl rfl ?_
        refine RL.fin ?_
        cases h23
        exact fun a w st => lop_intro (i20 + 1, r32) ⟨by show i20 + 1 + r32.length = (x0).length; simp only [List.length_cons] at h26; omega, h33, h24⟩ (by simp) (St.cut [0] ⟨rfl, rfl, rfl, rfl, trivial⟩ (by decide) rfl st)
    · have h29 : ¬ i20 < (x0).length := by have := of_decide_eq_false b28; omega
      obtain rfl : r21 = [] := by rw [← h27]; exact List.drop_of_length_le (by omega)
      replace h25 : some (Fl.nx _) = some y13 := h25
      cases h25
      exact GL.exit (fun a w st => mid_intro () h16 (St.cut [] trivial (by decide) rfl st))
  · rintro ⟨⟩ h39
    have h40 := h17 _ h39
    try dsimp only at h40
    refine GL.weak (env' := []) (L' := []) (fun _ _ st => st) ?_
    refine GL.seq ?_
    refine GL.region ?_
    refine RL.asg rfl rfl rfl ?_
    refine RL.finG ?_
    have h40 := Option.some.inj h40
    subst h40
    exact GL.ret (Gx.ret (v := .int .i64 (-1 : Int)) (res1 rfl rfl) (fun a w st => st.toPostV))

set_option maxHeartbeats 4000000 in
theorem slices_ContainsFunc_api_Errno_api_Errno_c (S : Hp) (w : World) (hS : S.sub w) (v0 : Value) (x0 : (List Int)) (k0 : ((TR.sl TR.int)).vrep S v0 x0) (f1 : FuncId) (c1 : Array Value) (t1 : Fit Try.prog f1) (g1 : Int → Option Bool) (k1 : ∀ (U : Hp) (w' : World), Hp.le S U → U.sub w' → ∀ (a0 : Int) (rr : Bool), g1 a0 = some rr → Calls Try.prog f1 (#[.int .i64 a0] ++ c1) w' (PostV w' (.bool rr))) (res : Bool) (hm : slices_ContainsFunc_api_Errno_api_Errno_m x0 g1 = some res) : Calls Try.prog 49 #[v0, .func (.func f1) #[] c1] w (PostV w (.bool res)) := by
  refine calls_enter 9 Try.func49 Try.ntmps49 rfl S false [(0, v0), (1, .func (.func f1) #[] c1)] [imm (TR.sl TR.int) v0 x0] rfl ⟨rfl, ⟨rfl, trivial⟩⟩ hS ⟨k0, trivial⟩ ?_
  unfold slices_ContainsFunc_api_Errno_api_Errno_m at hm
  refine GL.seq ?_
  refine GL.region ?_
  refine RL.asg rfl rfl rfl ?_
  refine RL.finG ?_
  refine GL.seq ?_
  refine GL.region ?_
  refine RL.mv rfl rfl rfl ?_
  refine RL.mv rfl rfl rfl ?_
  obtain ⟨y5, e6, hm⟩ := bind_some hm
  refine RL.callV (v := .int .i64 y5) (vs := [v0, .func (.func f1) #[] c1]) Try_fit55 rfl (Or.inl rfl) rfl rfl rfl rfl (fun U w hU hW hL => slices_IndexFunc_api_Errno_api_Errno_c U w hU _ _ (hL 0 _ _ rfl Seen.imm) f1 c1 t1 g1 (fun U' w' hle => k1 U' w' (Hp.le_trans hW hle)) _ e6) ?_
  refine RL.binI (v := .bool (decide (y5 ≥ (0 : Int)))) rfl rfl rfl rfl rfl ?_
  refine RL.asg rfl rfl rfl ?_
  refine RL.finG ?_
  have hm := Option.some.inj hm
  subst hm
  exact GL.ret (Gx.ret (v := .bool (decide (y5 ≥ (0 : Int)))) (res1 rfl rfl) (fun a w st => st.toPostV))

set_option maxHeartbeats 4000000 in
theorem pk_good_1_c (S : Hp) (w : World) (hS : S.sub w) (x0 : Int) (res : Bool) (hm : pk_good_1_m x0 = some res) : Calls Try.prog 50 #[.int .i64 x0] w (PostC w (.bool res)) := by
  refine calls_enter 5 Try.func50 Try.ntmps50 rfl S true [(0, .int .i64 x0)] [] rfl ⟨rfl, trivial⟩ hS trivial ?_
  unfold pk_good_1_m at hm
  refine GL.seq ?_
  refine GL.region ?_
  refine RL.asg rfl rfl rfl ?_
  refine RL.finG ?_
  refine GL.seq ?_
  refine GL.region ?_
  refine RL.mv rfl rfl rfl ?_
  refine RL.binI (v := .bool (x0 != (0 : Int))) rfl rfl rfl rfl rfl ?_
  refine RL.asg rfl rfl rfl ?_
  refine RL.finG ?_
  have hm := Option.some.inj hm
  subst hm
  exact GL.ret (Gx.ret (v := .bool (x0 != (0 : Int))) (res1 rfl rfl) (fun a w st => st.toPostC rfl))

set_option maxHeartbeats 4000000 in
theorem pk_good_c (S : Hp) (w : World) (hS : S.sub w) (v0 : Value) (x0 : (List Int)) (k0 : ((TR.sl TR.int)).vrep S v0 x0) (res : Bool) (hm : pk_good_m x0 = some res) : Calls Try.prog 26 #[v0] w (PostV w (.bool res)) := by
  refine calls_enter 6 Try.func26 Try.ntmps26 rfl S false [(0, v0)] [imm (TR.sl TR.int) v0 x0] rfl ⟨rfl, trivial⟩ hS ⟨k0, trivial⟩ ?_
  unfold pk_good_m at hm
  refine GL.seq ?_
  refine GL.region ?_
  refine RL.asg rfl rfl rfl ?_
  refine RL.finG ?_
  refine GL.seq ?_
  refine GL.region ?_
  refine RL.mv rfl rfl rfl ?_
  obtain ⟨y4, e5, hm⟩ := bind_some hm
  refine RL.callV (v := .bool y4) (vs := [v0, .func (.func 50) #[] #[]]) Try_fit49 rfl (Or.inl rfl) rfl rfl rfl rfl (fun U w hU hW hL => slices_ContainsFunc_api_Errno_api_Errno_c U w hU _ _ (hL 0 _ _ rfl Seen.imm) 50 #[] Try_fit50 (fun a0 => pk_good_1_m a0) (fun U' w' hle hU' a0 rr hr => (pk_good_1_c U' w' hU' a0 rr hr).mono (fun _ _ z => z.toV)) _ e5) ?_
  refine RL.notB rfl rfl rfl ?_
  refine RL.asg rfl rfl rfl ?_
  refine RL.finG ?_
  have hm := Option.some.inj hm
  subst hm
  exact GL.ret (Gx.ret (v := .bool (!y4)) (res1 rfl rfl) (fun a w st => st.toPostV))

set_option maxHeartbeats 4000000 in
theorem pk_auctions_c (S : Hp) (w : World) (hS : S.sub w)  (res : Bool) (hm : pk_auctions_m = some res) : Calls Try.prog 33 #[] w (PostV w (.bool res)) := by
  refine calls_enter 39 Try.func33 Try.ntmps33 rfl S false [] [] rfl trivial hS trivial ?_
  unfold pk_auctions_m at hm
  refine GL.seq ?_
  refine GL.region ?_
  refine RL.asg rfl rfl rfl ?_
  refine RL.finG ?_
  refine GL.seq ?_
  refine GL.region ?_
  refine RL.bS (t := TR.int) (vs := [.int .i64 (3 : Int), .int .i64 (9 : Int), .int .i64 (5 : Int)]) ([(3 : Int), (9 : Int), (5 : Int)] : (List Int)) Try.underlying34 Try_lo3 rfl rfl rfl rfl ⟨VR.int, ⟨VR.int, ⟨VR.int, trivial⟩⟩⟩ rfl (by decide) ?_
  intro v4
  obtain ⟨y5, e6, hm⟩ := bind_some hm
  refine RL.callC (v := .tuple #[.int .i64 y5.1, .int .i64 y5.2.1, .int .i64 y5.2.2]) (vs := [v4, .int .i64 (1 : Int)]) Try_fit36 rfl rfl rfl rfl (fun U w hU hW hL => auction_Second_c U w hU _ _ (hL 0 _ _ rfl Seen.own) (1 : Int) _ e6) ?_
  refine RL.mv rfl rfl rfl ?_
  refine RL.ext rfl rfl rfl rfl ?_
  refine RL.ext rfl rfl rfl rfl ?_
  refine RL.ext rfl rfl rfl rfl ?_
  refine RL.asg rfl rfl rfl ?_
  refine RL.asg rfl rfl rfl ?_
  refine RL.asg rfl rfl rfl ?_
  refine RL.finG ?_
  refine GL.seq ?_
  refine GL.region ?_
  refine RL.bS (t := TR.int) (vs := [.int .i64 (3 : Int), .int .i64 (9 : Int), .int .i64 (5 : Int)]) ([(3 : Int), (9 : Int), (5 : Int)] : (List Int)) Try.underlying34 Try_lo3 rfl rfl rfl rfl ⟨VR.int, ⟨VR.int, ⟨VR.int, trivial⟩⟩⟩ rfl (by decide) ?_
  intro v10
  refine RL.reL (L' := [own 3 TR.int v4 ([(3 : Int), (9 : Int), (5 : Int)] : (List Int)), own 3 TR.int v10 ([(3 : Int), (9 : Int), (5 : Int)] : (List Int))]) rfl ?_
  obtain ⟨y11, e12, hm⟩ := bind_some hm
  refine RL.callC (v := .tuple #[.int .i64 y11.1, .int .i64 y11.2.1, .int .i64 y11.2.2]) (vs := [v10, .int .i64 (1 : Int), .int .i64 (3 : Int)]) Try_fit41 rfl rfl rfl rfl (fun U w hU hW hL => auction_Rise_c U w hU _ _ (hL 1 _ _ rfl Seen.own) (1 : Int) (3 : Int) _ e12) ?_
  refine RL.mv rfl rfl rfl ?_
  refine RL.ext rfl rfl rfl rfl ?_
  refine RL.ext rfl rfl rfl rfl ?_
  refine RL.ext rfl rfl rfl rfl ?_
  refine RL.asg rfl rfl rfl ?_
  refine RL.asg rfl rfl rfl ?_
  refine RL.asg rfl rfl rfl ?_
  refine RL.finG ?_
  refine GL.seq ?_
  obtain ⟨y28, K29, h30, h31, h32, h33, h34⟩ := bindR_K hm
  refine GL.join (ι := Bool) (fun (p : Bool) => [(0, .bool p)]) (fun (p : Bool) => []) (fun (p : Bool) => K29 (.nx p)) ?_ ?_
  · skip
    refine GL.region ?_
    refine RL.mv rfl rfl rfl ?_
    refine RL.mv rfl rfl rfl ?_
    refine RL.bS (t := TR.int) (vs := [.int .i64 y5.2.2, .int .i64 y11.2.2]) ([y5.2.2, y11.2.2] : (List Int)) Try.underlying80 Try_lo24 rfl rfl rfl rfl ⟨VR.int, ⟨VR.int, trivial⟩⟩ rfl (by decide) ?_
    intro v35
    obtain ⟨y36, e37, h30⟩ := bind_some h30
    refine RL.callV (v := .bool y36) (vs := [v35]) Try_fit26 rfl (Or.inl rfl) rfl rfl rfl rfl (fun U w hU hW hL => pk_good_c U w hU _ _ (hL 2 _ _ rfl Seen.own) _ e37) ?_
    refine RL.mv rfl rfl rfl ?_
    refine RL.split (t := 23) rfl (fun b38 => ?_) (fun b38 => ?_)
    · replace h30 := ite_t b38 h30
      refine RL.mv rfl rfl rfl ?_
      refine RL.binI (v := .bool (y5.1 == (1 : Int))) rfl rfl rfl rfl rfl ?_
      refine RL.pickT rfl rfl rfl rfl ?_
      refine RL.mv rfl rfl rfl ?_
      refine RL.split (t := 27) rfl (fun b39 => ?_) (fun b39 => ?_)
      · replace h30 := ite_t b39 h30
        refine RL.mv rfl rfl rfl ?_
        refine RL.binI (v := .bool (y5.2.1 == (5 : Int))) rfl rfl rfl rfl rfl ?_
        refine RL.pickT rfl rfl rfl rfl ?_
        refine RL.mv rfl rfl rfl ?_
        refine RL.split (t := 31) rfl (fun b40 => ?_) (fun b40 => ?_)
        · replace h30 := ite_t b40 h30
          refine RL.mv rfl rfl rfl ?_
          refine RL.binI (v := .bool (y11.1 == (1 : Int))) rfl rfl rfl rfl rfl ?_
          refine RL.pickT rfl rfl rfl rfl ?_
          refine RL.mv rfl rfl rfl ?_
          refine RL.split (t := 35) rfl (fun b41 => ?_) (fun b41 => ?_)
          · replace h30 := ite_t b41 h30
            refine RL.mv rfl rfl rfl ?_
            refine RL.binI (v := .bool (y11.2.1 == (7 : Int))) rfl rfl rfl rfl rfl ?_
            refine RL.pickT rfl rfl rfl rfl ?_
            refine RL.asg rfl rfl rfl ?_
            refine RL.fin ?_
            cases h30
            exact fun a w st => mid_intro (y11.2.1 == (7 : Int)) h31 (St.cut [] ⟨rfl, trivial⟩ (by decide) rfl st)
          · replace h30 := ite_f b41 h30
            refine RL.skip rfl rfl ?_
            refine RL.skip rfl rfl ?_
            refine RL.pickF rfl rfl rfl rfl ?_
            refine RL.asg rfl rfl rfl ?_
            refine RL.fin ?_
            cases h30
            exact fun a w st => mid_intro false h31 (St.cut [] ⟨rfl, trivial⟩ (by decide) rfl st)
        · replace h30 := ite_f b40 h30
          refine RL.skip rfl rfl ?_
          refine RL.skip rfl rfl ?_
          refine RL.pickF rfl rfl rfl rfl ?_
          refine RL.mv rfl rfl rfl ?_
          refine RL.skip rfl rfl ?_
          refine RL.skip rfl rfl ?_
          refine RL.pickF rfl rfl rfl rfl ?_
          refine RL.asg rfl rfl rfl ?_
          refine RL.fin ?_
          cases h30
          exact fun a w st => mid_intro false h31 (St.cut [] ⟨rfl, trivial⟩ (by decide) rfl st)
      · replace h30 := ite_f b39 h30
        refine RL.skip rfl rfl ?_
        refine RL.skip rfl rfl ?_
        refine RL.pickF rfl rfl rfl rfl ?_
        refine RL.mv rfl rfl rfl ?_
        refine RL.skip rfl rfl ?_
        refine RL.skip rfl rfl ?_
        refine RL.pickF rfl rfl rfl rfl ?_
        refine RL.mv rfl rfl rfl ?_
        refine RL.skip rfl rfl ?_
        refine RL.skip rfl rfl ?_
        refine RL.pickF rfl rfl rfl rfl ?_
        refine RL.asg rfl rfl rfl ?_
        refine RL.fin ?_
        cases h30
        exact fun a w st => mid_intro false h31 (St.cut [] ⟨rfl, trivial⟩ (by decide) rfl st)
    · replace h30 := ite_f b38 h30
      refine RL.skip rfl rfl ?_
      refine RL.skip rfl rfl ?_
      refine RL.pickF rfl rfl rfl rfl ?_
      refine RL.mv rfl rfl rfl ?_
      refine RL.skip rfl rfl ?_
      refine RL.skip rfl rfl ?_
      refine RL.pickF rfl rfl rfl rfl ?_
      refine RL.mv rfl rfl rfl ?_
      refine RL.skip rfl rfl ?_
      refine RL.skip rfl rfl ?_
      refine RL.pickF rfl rfl rfl rfl ?_
      refine RL.mv rfl rfl rfl ?_
      refine RL.skip rfl rfl ?_
      refine RL.skip rfl rfl ?_
      refine RL.pickF rfl rfl rfl rfl ?_
      refine RL.asg rfl rfl rfl ?_
      refine RL.fin ?_
      cases h30
      exact fun a w st => mid_intro false h31 (St.cut [] ⟨rfl, trivial⟩ (by decide) rfl st)
  · rintro x27 h42
    have h43 := h32 _ h42
    try dsimp only at h43
    refine GL.weak (env' := [(0, .bool x27)]) (L' := []) (fun _ _ st => st) ?_
    have h43 := Option.some.inj h43
    subst h43
    exact GL.ret (Gx.ret (v := .bool x27) (res1 rfl rfl) (fun a w st => st.toPostV))

set_option maxHeartbeats 4000000 in
theorem ref_Rest_c (S : Hp) (w : World) (hS : S.sub w) (x0 : Int) (x1 : Int) (res : Int) (hm : ref_Rest_m x0 x1 = some res) : Calls Try.prog 45 #[.int .i64 x0, .int .i64 x1] w (PostC w (.int .i64 res)) := by
  refine calls_enter 14 Try.func45 Try.ntmps45 rfl S true [(0, .int .i64 x0), (1, .int .i64 x1)] [] rfl ⟨rfl, ⟨rfl, trivial⟩⟩ hS trivial ?_
  unfold ref_Rest_m at hm
  refine GL.seq ?_
  refine GL.region ?_
  refine RL.asg rfl rfl rfl ?_
  refine RL.finG ?_
  refine GL.seq ?_
  refine GL.region ?_
  refine RL.mv rfl rfl rfl ?_
  refine RL.mv rfl rfl rfl ?_
  obtain ⟨y5, e6, hm⟩ := bind_some hm
  replace e6 := chk_some e6
  refine RL.rem rfl rfl rfl rfl e6 ?_
  refine RL.asg rfl rfl rfl ?_
  refine RL.finG ?_
  refine GL.seq ?_
  refine GL.seq ?_
  refine GL.region ?_
  refine RL.mv rfl rfl rfl ?_
  refine RL.binI (v := .bool (decide ((Int.tmod x0 x1) < (0 : Int)))) rfl rfl rfl rfl rfl ?_
  refine RL.finG ?_
  obtain ⟨y9, K10, h11, h12, h13, h14, h15⟩ := bindR_K hm
  refine GL.join (ι := Int) (fun (p : Int) => [(0, .int .i64 p)]) (fun (p : Int) => []) (fun (p : Int) => K10 (.nx p)) ?_ ?_
  · skip
    refine GL.cond rfl (fun b16 => ?_) (fun b16 => ?_)
    · replace h11 := ite_t b16 h11
      refine GL.region ?_
      refine RL.mv rfl rfl rfl ?_
      refine RL.mv rfl rfl rfl ?_
      refine RL.binI (v := .int .i64 (wadd (Int.tmod x0 x1) x1)) rfl rfl rfl rfl rfl ?_
      refine RL.asg rfl rfl rfl ?_
      refine RL.finG ?_
      cases h11
      exact fun a w st => mid_intro (wadd (Int.tmod x0 x1) x1) h12 (St.cut [] ⟨rfl, trivial⟩ (by decide) rfl st)
    · replace h11 := ite_f b16 h11
      refine GL.skip ?_
      cases h11
      exact fun a w st => mid_intro (Int.tmod x0 x1) h12 (St.cut [] ⟨rfl, trivial⟩ (by decide) rfl st)
  · rintro x8 h17
    have h18 := h13 _ h17
    try dsimp only at h18
    refine GL.weak (env' := [(0, .int .i64 x8)]) (L' := []) (fun _ _ st => st) ?_
    refine GL.seq ?_
    refine GL.region ?_
    refine RL.mv rfl rfl rfl ?_
    refine RL.asg rfl rfl rfl ?_
    refine RL.finG ?_
    have h18 := Option.some.inj h18
    subst h18
    exact GL.ret (Gx.ret (v := .int .i64 x8) (res1 rfl rfl) (fun a w st => st.toPostC rfl))

set_option maxHeartbeats 4000000 in
theorem pk_Within_c (S : Hp) (w : World) (hS : S.sub w) (x0 : Int) (x1 : Int) (res : Int) (hm : pk_Within_m x0 x1 = some res) : Calls Try.prog 18 #[.int .i64 x0, .int .i64 x1] w (PostC w (.int .i64 res)) := by
  refine calls_enter 8 Try.func18 Try.ntmps18 rfl S true [(0, .int .i64 x0), (1, .int .i64 x1)] [] rfl ⟨rfl, ⟨rfl, trivial⟩⟩ hS trivial ?_
  unfold pk_Within_m at hm
  refine GL.seq ?_
  refine GL.region ?_
  refine RL.asg rfl rfl rfl ?_
  refine RL.finG ?_
  refine GL.seq ?_
  refine GL.region ?_
  refine RL.mv rfl rfl rfl ?_
  refine RL.mv rfl rfl rfl ?_
  obtain ⟨y5, e6, hm⟩ := bind_some hm
  refine RL.callC (v := .int .i64 y5) (vs := [.int .i64 x0, .int .i64 x1]) Try_fit45 rfl rfl rfl rfl (fun U w hU hW hL => ref_Rest_c U w hU x0 x1 _ e6) ?_
  refine RL.asg rfl rfl rfl ?_
  refine RL.finG ?_
  have hm := Option.some.inj hm
  subst hm
  exact GL.ret (Gx.ret (v := .int .i64 y5) (res1 rfl rfl) (fun a w st => st.toPostC rfl))

set_option maxHeartbeats 4000000 in
theorem pk_BidsOf_c (S : Hp) (w : World) (hS : S.sub w) (v0 : Value) (x0 : (List Int)) (k0 : ((TR.sl TR.int)).vrep S v0 x0) (res : (List Int)) (hm : pk_BidsOf_m x0 = some res) : Calls Try.prog 34 #[v0] w (Post w S (fun (o : Value) => o) (fun (o : Value) => [own 3 TR.int o res])) := by
  refine calls_enter 23 Try.func34 Try.ntmps34 rfl S false [(0, v0)] [imm (TR.sl TR.int) v0 x0] rfl ⟨rfl, trivial⟩ hS ⟨k0, trivial⟩ ?_
  unfold pk_BidsOf_m at hm
  refine GL.seq ?_
  refine GL.region ?_
  refine RL.asg rfl rfl rfl ?_
  refine RL.finG ?_
  refine GL.seq ?_
  refine GL.region ?_
  refine RL.asg rfl rfl rfl ?_
  refine RL.finG ?_
  refine GL.seq ?_
  refine GL.seq ?_
  refine GL.region ?_
  refine RL.mv rfl rfl rfl ?_
  refine RL.mv rfl rfl rfl ?_
  refine RL.lenS 0 Try.underlying34 rfl rfl rfl rfl SlOf.imm ?_
  refine RL.minI rfl rfl rfl rfl ?_
  obtain ⟨y5, e6, hm⟩ := bind_some hm
  replace e6 := chk_some e6
  refine RL.slc (t := TR.int) (i := 0) (j := (if (10 : Int) < ((x0).length : Int) then (10 : Int) else ((x0).length : Int)).toNat) (sz := 1) 0 Try.underlying34 Try_ln3 rfl rfl rfl rfl (Or.inl ⟨rfl, rfl⟩) (Or.inr ⟨_, _, rfl, by rw [Int.toNat_of_nonneg (by omega)]; rfl⟩) rfl (by omega) (by omega) ?_
  intro v7
  refine RL.lenS 1 Try.underlying34 rfl rfl rfl rfl SlOf.imm ?_
  refine RL.mv rfl rfl rfl ?_
  refine RL.finG ?_
  refine GL.weak (fun a w st => st.nilOwn 3 TR.int) ?_
  refine GL.open_ 1 rfl (fun S h => len_imm S h) (fun n26 => ?_)
  obtain ⟨y27, K28, h29, h30, h31, h32, h33⟩ := bindR_K hm
  refine GL.join (ι := (List Int) × Value) (fun (p : (List Int) × Value) => [(3, p.2)]) (fun (p : (List Int) × Value) => [own 3 TR.int p.2 p.1]) (fun (p : (List Int) × Value) => K28 (.nx p.1)) ?_ ?_
  · refine GL.block ?_
    refine GL.loop (ι := Nat × (List Int) × (List Int) × Value) (fun (p : Nat × (List Int) × (List Int) × Value) => [(3, p.2.2.2), (10, v7), (11, .int .i64 ((((List.take ((if (10 : Int) < ((x0).length : Int) then (10 : Int) else ((x0).length : Int)).toNat) x0).drop 0)).length : Int)), (12, .int .i64 (p.1 : Int))]) (fun (p : Nat × (List Int) × (List Int) × Value) => [own 3 TR.int p.2.2.2 p.2.2.1, imm (TR.sl TR.int) v7 ((List.take ((if (10 : Int) < ((x0).length : Int) then (10 : Int) else ((x0).length : Int)).toNat) x0).drop 0)]) (fun (p : Nat × (List Int) × (List Int) × Value) => p.1 + p.2.1.length = (((List.take ((if (10 : Int) < ((x0).length : Int) then (10 : Int) else ((x0).length : Int)).toNat) x0).drop 0)).length ∧ List.drop p.1 ((List.take ((if (10 : Int) < ((x0).length : Int) then (10 : Int) else ((x0).length : Int)).toNat) x0).drop 0) = p.2.1 ∧ rangeL pk_BidsOf_b1 p.2.1 p.1 p.2.2.1 = some y27) (fun (p : Nat × (List Int) × (List Int) × Value) => p.2.1.length) (0, ((List.take ((if (10 : Int) < ((x0).length : Int) then (10 : Int) else ((x0).length : Int)).toNat) x0).drop 0), [], Value.slice none 0 0) ⟨by simp, by simp, h29⟩ (fun a w st => St.cut [2, 1] ⟨rfl, rfl, rfl, rfl, trivial⟩ (by decide) rfl st) ?_
    rintro ⟨i34, r35, l8, v9⟩ ⟨h40, h41, h39⟩
    try dsimp only at h40 h41 h39
    refine GL.weak (env' := [(3, v9), (10, v7), (11, .int .i64 ((((List.take ((if (10 : Int) < ((x0).length : Int) then (10 : Int) else ((x0).length : Int)).toNat) x0).drop 0)).length : Int)), (12, .int .i64 (i34 : Int))]) (L' := [own 3 TR.int v9 l8, imm (TR.sl TR.int) v7 ((List.take ((if (10 : Int) < ((x0).length : Int) then (10 : Int) else ((x0).length : Int)).toNat) x0).drop 0)]) (fun _ _ st => st) ?_
    refine GL.seq ?_
    refine GL.region ?_
    refine RL.binI (v := .bool (decide ((i34 : Int) < ((((List.take ((if (10 : Int) < ((x0).length : Int) then (10 : Int) else ((x0).length : Int)).toNat) x0).drop 0)).length : Int)))) rfl rfl rfl rfl rfl ?_
    refine RL.finG ?_
    refine GL.seq ?_
    refine GL.cond rfl (fun b42 => ?_) (fun b42 => ?_)
    · have h43 : i34 < (((List.take ((if (10 : Int) < ((x0).length : Int) then (10 : Int) else ((x0).length : Int)).toNat) x0).drop 0)).length := by have := of_decide_eq_true b42; omega
      obtain ⟨y44, r46, hr, e45, h47⟩ := drop_cons h41 rfl h43
      subst hr
      obtain ⟨z36, h37, h38⟩ := rangeL_some h39
      unfold pk_BidsOf_b1 at h37
      try dsimp only at h37
      refine GL.skip ?_
      refine GL.seq ?_
      refine GL.block ?_
      refine GL.seq ?_
      refine GL.region ?_
      refine RL.idxS (sz := 1) 1 Try.underlying34 Try_ln3 rfl rfl rfl rfl rfl SlOf.imm (by omega) (by omega) ?_
      refine RL.ldSx (i := i34) (e' := y44) 1 Ex.ik Try_ln3 rfl rfl rfl rfl SlOf.imm e45 Part.self ?_
      refine RL.asg rfl rfl rfl ?_
      refine RL.finG ?_
      refine GL.region ?_
      refine RL.mv rfl rfl rfl ?_
      refine RL.mv rfl rfl rfl ?_
      obtain ⟨y54, e55, h37⟩ := bind_some h37
      refine RL.callC (v := .int .i64 y54) (vs := [.int .i64 y44, .int .i64 (101 : Int)]) Try_fit18 rfl rfl rfl rfl (fun U w hU hW hL => pk_Within_c U w hU y44 (101 : Int) _ e55) ?_
      refine RL.bS (t := TR.int) (vs := [.int .i64 y54]) ([y54] : (List Int)) Try.underlying34 Try_lo3 rfl rfl rfl rfl ⟨VR.int, trivial⟩ rfl (by decide) ?_
      intro v56
      obtain ⟨y57, e58, h37⟩ := bind_some h37
      replace e58 := chk_some e58
      refine RL.app 0 2 Try.underlying34 Try_lo3 rfl rfl rfl rfl rfl rfl rfl SlOf.own e58 ?_
      intro v59
      refine RL.reL (L' := [own 3 TR.int v59 (l8 ++ ([y54] : (List Int))), imm (TR.sl TR.int) v7 ((List.take ((if (10 : Int) < ((x0).length : Int) then (10 : Int) else ((x0).length : Int)).toNat) x0).drop 0), own 3 TR.int v56 ([y54] : (List Int))]) rfl ?_
      refine RL.asg rfl rfl rfl ?_
      refine RL.finG ?_
      refine GL.nilB ?_
      refine GL.region ?_
      refine RL.binI (v := .int .i64 ((i34 + 1 : Nat) : Int)) rfl rfl rfl rfl (binI_succ i34 (by omega)) ?_
      refine RL.mv rfl rfl rfl ?_
      refine RL.fin ?_
      cases h37
      exact fun a w st => lop_intro (i34 + 1, r46, (l8 ++ ([y54] : (List Int))), v59) ⟨by show i34 + 1 + r46.length = (((List.take ((if (10 : Int) < ((x0).length : Int) then (10 : Int) else ((x0).length : Int)).toNat) x0).drop 0)).length; simp only [List.length_cons] at h40; omega, h47, h38⟩ (by simp) (St.cut [0, 1] ⟨rfl, rfl, rfl, rfl, trivial⟩ (by decide) rfl st)
    · have h43 : ¬ i34 < (((List.take ((if (10 : Int) < ((x0).length : Int) then (10 : Int) else ((x0).length : Int)).toNat) x0).drop 0)).length := by have := of_decide_eq_false b42; omega
      obtain rfl : r35 = [] := by rw [← h41]; exact List.drop_of_length_le (by omega)
      replace h39 : some (Fl.nx _) = some y27 := h39
      cases h39
      exact GL.exit (fun a w st => mid_intro (l8, v9) h30 (St.cut [0] ⟨rfl, trivial⟩ (by decide) rfl st))
  · rintro ⟨l8, v9⟩ h60
    have h61 := h31 _ h60
    try dsimp only at h61
    refine GL.weak (env' := [(3, v9)]) (L' := [own 3 TR.int v9 l8]) (fun _ _ st => st) ?_
    refine GL.seq ?_
    refine GL.region ?_
    refine RL.mv rfl rfl rfl ?_
    refine RL.asg rfl rfl rfl ?_
    refine RL.finG ?_
    have h61 := Option.some.inj h61
    subst h61
    exact GL.ret (Gx.ret (v := v9) (res1 rfl rfl) (fun a w st => (st.pick [0] (by decide) rfl).toPost v9))

set_option maxHeartbeats 4000000 in
theorem slices_Max_int_int_c (S : Hp) (w : World) (hS : S.sub w) (v0 : Value) (x0 : (List Int)) (k0 : ((TR.sl TR.int)).vrep S v0 x0) (res : Int) (hm : slices_Max_int_int_m x0 = some res) : Calls Try.prog 42 #[v0] w (PostC w (.int .i64 res)) := by
  refine calls_enter 25 Try.func42 Try.ntmps42 rfl S true [(0, v0)] [imm (TR.sl TR.int) v0 x0] rfl ⟨rfl, trivial⟩ hS ⟨k0, trivial⟩ ?_
  unfold slices_Max_int_int_m at hm
  refine GL.seq ?_
  refine GL.region ?_
  refine RL.asg rfl rfl rfl ?_
  refine RL.finG ?_
  refine GL.seq ?_
  refine GL.seq ?_
  refine GL.region ?_
  refine RL.mv rfl rfl rfl ?_
  refine RL.lenS 0 Try.underlying34 rfl rfl rfl rfl SlOf.imm ?_
  refine RL.binI (v := .bool (decide (((x0).length : Int) < (1 : Int)))) rfl rfl rfl rfl rfl ?_
  refine RL.finG ?_
  obtain ⟨y3, K4, h5, h6, h7, h8, h9⟩ := bindR_K hm
  refine GL.join (ι := Unit) (fun (p : Unit) => [(0, v0)]) (fun (p : Unit) => [imm (TR.sl TR.int) v0 x0]) (fun (p : Unit) => K4 (.nx ())) ?_ ?_
  · skip
    refine GL.cond rfl (fun b10 => ?_) (fun b10 => ?_)
    · replace h5 := ite_t b10 h5
      refine GL.region ?_
      cases h5
    · replace h5 := ite_f b10 h5
      refine GL.skip ?_
      cases h5
      exact fun a w st => mid_intro () h6 (St.cut [0] ⟨rfl, trivial⟩ (by decide) rfl st)
  · rintro ⟨⟩ h11
    have h12 := h7 _ h11
    try dsimp only at h12
    refine GL.weak (env' := [(0, v0)]) (L' := [imm (TR.sl TR.int) v0 x0]) (fun _ _ st => st) ?_
    refine GL.seq ?_
    refine GL.region ?_
    refine RL.mv rfl rfl rfl ?_
    obtain ⟨y15, e16, h12⟩ := bind_some h12
    refine RL.idxS (sz := 1) 0 Try.underlying34 Try_ln3 rfl rfl rfl rfl rfl SlOf.imm (idx_some e16).1 (idx_some e16).2.1 ?_
    refine RL.ldSx (i := ((0 : Int)).toNat) (e' := y15) 0 Ex.ik Try_ln3 rfl rfl rfl rfl SlOf.imm (idx_some e16).2.2 Part.self ?_
    refine RL.asg rfl rfl rfl ?_
    refine RL.finG ?_
    refine GL.seq ?_
    refine GL.seq ?_
    refine GL.region ?_
    refine RL.asg rfl rfl rfl ?_
    refine RL.finG ?_
    obtain ⟨y24, K25, h26, h27, h28, h29, h30⟩ := bindR_K h12
    refine GL.join (ι := Int × Int) (fun (p : Int × Int) => [(3, .int .i64 p.1)]) (fun (p : Int × Int) => []) (fun (p : Int × Int) => K25 (.nx (p.1, p.2))) ?_ ?_
    · refine GL.block ?_
      refine GL.loop (ι := Nat × Int × Int) (fun (p : Nat × Int × Int) => [(0, v0), (3, .int .i64 p.2.1), (4, .int .i64 p.2.2)]) (fun (p : Nat × Int × Int) => [imm (TR.sl TR.int) v0 x0]) (fun (p : Nat × Int × Int) => loopM (slices_Max_int_int_b1 x0) p.1 (p.2.1, p.2.2) = some y24) (fun (p : Nat × Int × Int) => p.1) (1048576, y15, (1 : Int)) h26 (fun a w st => St.cut [0] ⟨rfl, rfl, rfl, trivial⟩ (by decide) rfl st) ?_
      rintro ⟨r32, x17, x18⟩ h36
      try dsimp only at h36
      refine GL.weak (env' := [(0, v0), (3, .int .i64 x17), (4, .int .i64 x18)]) (L' := [imm (TR.sl TR.int) v0 x0]) (fun _ _ st => st) ?_
      obtain ⟨r39, z33, hr, h34, h35⟩ := loopM_some h36
      subst hr
      unfold slices_Max_int_int_b1 at h34
      try dsimp only at h34
      refine GL.seq ?_
      refine GL.seq ?_
      refine GL.region ?_
      refine RL.mv rfl rfl rfl ?_
      refine RL.mv rfl rfl rfl ?_
      refine RL.lenS 0 Try.underlying34 rfl rfl rfl rfl SlOf.imm ?_
      refine RL.binI (v := .bool (decide (x18 < ((x0).length : Int)))) rfl rfl rfl rfl rfl ?_
      refine RL.finG ?_
      refine GL.cond rfl (fun b40 => ?_) (fun b40 => ?_)
      · replace h34 := ite_t b40 h34
        refine GL.skip ?_
        refine GL.seq ?_
        refine GL.block ?_
        refine GL.region ?_
        refine RL.mv rfl rfl rfl ?_
        refine RL.mv rfl rfl rfl ?_
        refine RL.mv rfl rfl rfl ?_
        obtain ⟨y43, e44, h34⟩ := bind_some h34
        refine RL.idxS (sz := 1) 0 Try.underlying34 Try_ln3 rfl rfl rfl rfl rfl SlOf.imm (idx_some e44).1 (idx_some e44).2.1 ?_
        refine RL.ldSx (i := (x18).toNat) (e' := y43) 0 Ex.ik Try_ln3 rfl rfl rfl rfl SlOf.imm (idx_some e44).2.2 Part.self ?_
        refine RL.maxI rfl rfl rfl rfl ?_
        refine RL.asg rfl rfl rfl ?_
        refine RL.finG ?_
        refine GL.nilB ?_
        refine GL.region ?_
        refine RL.mv rfl rfl rfl ?_
        refine RL.binI (v := .int .i64 (wadd x18 (1 : Int))) rfl rfl rfl rfl rfl ?_
        refine RL.asg rfl rfl rfl ?_
        refine RL.finG ?_
        cases h34
        exact fun a w st => lop_intro (r39, if y43 > x17 then y43 else x17, wadd x18 (1 : Int)) (by exact h35) (by simp) (St.cut [0] ⟨rfl, rfl, rfl, trivial⟩ (by decide) rfl st)
      · replace h34 := ite_f b40 h34
        cases h34
        replace h35 : some (Fl.nx _) = some y24 := h35
        cases h35
        exact GL.exit (fun a w st => mid_intro (x17, x18) h27 (St.cut [] ⟨rfl, trivial⟩ (by decide) rfl st))
    · rintro ⟨x17, x18⟩ h45
      have h46 := h28 _ h45
      try dsimp only at h46
      refine GL.weak (env' := [(3, .int .i64 x17)]) (L' := []) (fun _ _ st => st) ?_
      refine GL.seq ?_
      refine GL.region ?_
      refine RL.mv rfl rfl rfl ?_
      refine RL.asg rfl rfl rfl ?_
      refine RL.finG ?_
      have h46 := Option.some.inj h46
      subst h46
      exact GL.ret (Gx.ret (v := .int .i64 x17) (res1 rfl rfl) (fun a w st => st.toPostC rfl))

set_option maxHeartbeats 4000000 in
theorem pk_AuctionRise_c (S : Hp) (w : World) (hS : S.sub w) (v0 : Value) (x0 : (List Int)) (k0 : ((TR.sl TR.int)).vrep S v0 x0) (x1 : Int) (x2 : Int) (res : Bool) (hm : pk_AuctionRise_m x0 x1 x2 = some res) : Calls Try.prog 12 #[v0, .int .i64 x1, .int .i64 x2] w (PostV w (.bool res)) := by
  refine calls_enter 101 Try.func12 Try.ntmps12 rfl S false [(0, v0), (1, .int .i64 x1), (2, .int .i64 x2)] [imm (TR.sl TR.int) v0 x0] rfl ⟨rfl, ⟨rfl, ⟨rfl, trivial⟩⟩⟩ hS ⟨k0, trivial⟩ ?_
  unfold pk_AuctionRise_m at hm
  refine GL.seq ?_
  refine GL.region ?_
  refine RL.asg rfl rfl rfl ?_
  refine RL.finG ?_
  refine GL.seq ?_
  refine GL.seq ?_
  refine GL.region ?_
  obtain ⟨y6, e7, hm⟩ := bind_some hm
  refine RL.callV (v := .bool y6) (vs := []) Try_fit33 rfl (Or.inl rfl) rfl rfl rfl rfl (fun U w hU hW hL => pk_auctions_c U w hU  _ e7) ?_
  refine RL.notB rfl rfl rfl ?_
  refine RL.finG ?_
  refine GL.cond rfl (fun b8 => ?_) (fun b8 => ?_)
  · replace hm := ite_t b8 hm
    refine GL.seq ?_
    refine GL.region ?_
    refine RL.asg rfl rfl rfl ?_
    refine RL.finG ?_
    have hm := Option.some.inj hm
    subst hm
    exact GL.ret (Gx.ret (v := .bool false) (res1 rfl rfl) (fun a w st => st.toPostV))
  · replace hm := ite_f b8 hm
    refine GL.skip ?_
    refine GL.seq ?_
    refine GL.region ?_
    refine RL.mv rfl rfl rfl ?_
    obtain ⟨y12, e13, hm⟩ := bind_some hm
    refine RL.call (vs := [v0]) Try_fit34 rfl rfl rfl rfl rfl (fun S f w hS hW hi => pk_BidsOf_c S w hS _ _ (hi 0 _ rfl) _ e13) ?_
    intro v14
    refine RL.asg rfl rfl rfl ?_
    refine RL.finG ?_
    refine GL.seq ?_
    refine GL.region ?_
    refine RL.mv rfl rfl rfl ?_
    obtain ⟨y19, e20, hm⟩ := bind_some hm
    refine RL.callC (v := .int .i64 y19) (vs := [.int .i64 x1, .int .i64 (60 : Int)]) Try_fit18 rfl rfl rfl rfl (fun U w hU hW hL => pk_Within_c U w hU x1 (60 : Int) _ e20) ?_
    refine RL.mv rfl rfl rfl ?_
    obtain ⟨y21, e22, hm⟩ := bind_some hm
    refine RL.callC (v := .int .i64 y21) (vs := [.int .i64 x2, .int .i64 (20 : Int)]) Try_fit18 rfl rfl rfl rfl (fun U w hU hW hL => pk_Within_c U w hU x2 (20 : Int) _ e22) ?_
    refine RL.binI (v := .int .i64 (wadd (1 : Int) y21)) rfl rfl rfl rfl rfl ?_
    refine RL.asg rfl rfl rfl ?_
    refine RL.asg rfl rfl rfl ?_
    refine RL.finG ?_
    refine GL.seq ?_
    refine GL.region ?_
    refine RL.mv rfl rfl rfl ?_
    refine RL.mv rfl rfl rfl ?_
    refine RL.mv rfl rfl rfl ?_
    obtain ⟨y25, e26, hm⟩ := bind_some hm
    refine RL.callC (v := .tuple #[.int .i64 y25.1, .int .i64 y25.2.1, .int .i64 y25.2.2]) (vs := [v14, .int .i64 y19, .int .i64 (wadd (1 : Int) y21)]) Try_fit41 rfl rfl rfl rfl (fun U w hU hW hL => auction_Rise_c U w hU _ _ (hL 1 _ _ rfl Seen.own) y19 (wadd (1 : Int) y21) _ e26) ?_
    refine RL.mv rfl rfl rfl ?_
    refine RL.ext rfl rfl rfl rfl ?_
    refine RL.ext rfl rfl rfl rfl ?_
    refine RL.ext rfl rfl rfl rfl ?_
    refine RL.asg rfl rfl rfl ?_
    refine RL.asg rfl rfl rfl ?_
    refine RL.asg rfl rfl rfl ?_
    refine RL.finG ?_
    refine GL.seq ?_
    refine GL.region ?_
    refine RL.mv rfl rfl rfl ?_
    refine RL.mv rfl rfl rfl ?_
    obtain ⟨y29, e30, hm⟩ := bind_some hm
    refine RL.callC (v := .tuple #[.int .i64 y29.1, .int .i64 y29.2.1, .int .i64 y29.2.2]) (vs := [v14, .int .i64 y19]) Try_fit36 rfl rfl rfl rfl (fun U w hU hW hL => auction_Second_c U w hU _ _ (hL 1 _ _ rfl Seen.own) y19 _ e30) ?_
    refine RL.mv rfl rfl rfl ?_
    refine RL.ext rfl rfl rfl rfl ?_
    refine RL.ext rfl rfl rfl rfl ?_
    refine RL.ext rfl rfl rfl rfl ?_
    refine RL.asg rfl rfl rfl ?_
    refine RL.asg rfl rfl rfl ?_
    refine RL.asg rfl rfl rfl ?_
    refine RL.finG ?_
    refine GL.seq ?_
    refine GL.seq ?_
    obtain ⟨y34, K35, h36, h37, h38, h39, h40⟩ := bindR_K hm
    refine GL.join (ι := Bool) (fun (p : Bool) => [(1, .int .i64 y19), (2, .int .i64 (wadd (1 : Int) y21)), (7, v14), (8, .int .i64 y25.1), (9, .int .i64 y25.2.1), (10, .int .i64 y25.2.2), (12, .int .i64 y29.2.1), (13, .int .i64 y29.2.2), (43, .bool p)]) (fun (p : Bool) => [own 3 TR.int v14 y12]) (fun (p : Bool) => K35 (.nx p)) ?_ ?_
    · skip
      refine GL.region ?_
      refine RL.mv rfl rfl rfl ?_
      refine RL.binI (v := .bool (y25.2.2 != (0 : Int))) rfl rfl rfl rfl rfl ?_
      refine RL.mv rfl rfl rfl ?_
      refine RL.split (t := 40) rfl (fun b41 => ?_) (fun b41 => ?_)
      · replace h36 := ite_t b41 h36
        refine RL.skip rfl rfl ?_
        refine RL.skip rfl rfl ?_
        refine RL.pickT rfl rfl rfl rfl ?_
        refine RL.fin ?_
        cases h36
        exact fun a w st => mid_intro true h37 (St.cut [1] ⟨rfl, rfl, rfl, rfl, rfl, rfl, rfl, rfl, rfl, trivial⟩ (by decide) rfl st)
      · replace h36 := ite_f b41 h36
        refine RL.mv rfl rfl rfl ?_
        refine RL.binI (v := .bool (y29.2.2 != (0 : Int))) rfl rfl rfl rfl rfl ?_
        refine RL.pickF rfl rfl rfl rfl ?_
        refine RL.fin ?_
        cases h36
        exact fun a w st => mid_intro (y29.2.2 != (0 : Int)) h37 (St.cut [1] ⟨rfl, rfl, rfl, rfl, rfl, rfl, rfl, rfl, rfl, trivial⟩ (by decide) rfl st)
    · rintro x33 h42
      have h43 := h38 _ h42
      try dsimp only at h43
      refine GL.weak (env' := [(1, .int .i64 y19), (2, .int .i64 (wadd (1 : Int) y21)), (7, v14), (8, .int .i64 y25.1), (9, .int .i64 y25.2.1), (10, .int .i64 y25.2.2), (12, .int .i64 y29.2.1), (13, .int .i64 y29.2.2), (43, .bool x33)]) (L' := [own 3 TR.int v14 y12]) (fun _ _ st => st) ?_
      refine GL.cond rfl (fun b44 => ?_) (fun b44 => ?_)
      · replace h43 := ite_t b44 h43
        refine GL.seq ?_
        obtain ⟨y50, K51, h52, h53, h54, h55, h56⟩ := bindR_K h43
        refine GL.join (ι := Bool) (fun (p : Bool) => [(6, .bool p)]) (fun (p : Bool) => []) (fun (p : Bool) => K51 (.nx p)) ?_ ?_
        · skip
          refine GL.region ?_
          refine RL.mv rfl rfl rfl ?_
          refine RL.mv rfl rfl rfl ?_
          refine RL.binI (v := .bool (y25.2.2 == y29.2.2)) rfl rfl rfl rfl rfl ?_
          refine RL.mv rfl rfl rfl ?_
          refine RL.split (t := 47) rfl (fun b57 => ?_) (fun b57 => ?_)
          · replace h52 := ite_t b57 h52
            refine RL.mv rfl rfl rfl ?_
            refine RL.binI (v := .bool (y25.1 == (0 : Int))) rfl rfl rfl rfl rfl ?_
            refine RL.pickT rfl rfl rfl rfl ?_
            refine RL.mv rfl rfl rfl ?_
            refine RL.split (t := 51) rfl (fun b58 => ?_) (fun b58 => ?_)
            · replace h52 := ite_t b58 h52
              refine RL.mv rfl rfl rfl ?_
              refine RL.binI (v := .bool (y25.2.1 == (0 : Int))) rfl rfl rfl rfl rfl ?_
              refine RL.pickT rfl rfl rfl rfl ?_
              refine RL.asg rfl rfl rfl ?_
              refine RL.fin ?_
              cases h52
              exact fun a w st => mid_intro (y25.2.1 == (0 : Int)) h53 (St.cut [] ⟨rfl, trivial⟩ (by decide) rfl st)
            · replace h52 := ite_f b58 h52
              refine RL.skip rfl rfl ?_
              refine RL.skip rfl rfl ?_
              refine RL.pickF rfl rfl rfl rfl ?_
              refine RL.asg rfl rfl rfl ?_
              refine RL.fin ?_
              cases h52
              exact fun a w st => mid_intro false h53 (St.cut [] ⟨rfl, trivial⟩ (by decide) rfl st)
          · replace h52 := ite_f b57 h52
            refine RL.skip rfl rfl ?_
            refine RL.skip rfl rfl ?_
            refine RL.pickF rfl rfl rfl rfl ?_
            refine RL.mv rfl rfl rfl ?_
            refine RL.skip rfl rfl ?_
            refine RL.skip rfl rfl ?_
            refine RL.pickF rfl rfl rfl rfl ?_
            refine RL.asg rfl rfl rfl ?_
            refine RL.fin ?_
            cases h52
            exact fun a w st => mid_intro false h53 (St.cut [] ⟨rfl, trivial⟩ (by decide) rfl st)
        · rintro x49 h59
          have h60 := h54 _ h59
          try dsimp only at h60
          refine GL.weak (env' := [(6, .bool x49)]) (L' := []) (fun _ _ st => st) ?_
          have h60 := Option.some.inj h60
          subst h60
          exact GL.ret (Gx.ret (v := .bool x49) (res1 rfl rfl) (fun a w st => st.toPostV))
      · replace h43 := ite_f b44 h43
        refine GL.skip ?_
        refine GL.seq ?_
        refine GL.seq ?_
        obtain ⟨y76, K77, h78, h79, h80, h81, h82⟩ := bindR_K h43
        refine GL.join (ι := Bool) (fun (p : Bool) => [(2, .int .i64 (wadd (1 : Int) y21)), (7, v14), (8, .int .i64 y25.1), (89, .bool p)]) (fun (p : Bool) => [own 3 TR.int v14 y12]) (fun (p : Bool) => K77 (.nx p)) ?_ ?_
        · skip
          refine GL.region ?_
          refine RL.mv rfl rfl rfl ?_
          refine RL.binI (v := .bool (decide (y25.1 < (0 : Int)))) rfl rfl rfl rfl rfl ?_
          refine RL.mv rfl rfl rfl ?_
          refine RL.split (t := 57) rfl (fun b83 => ?_) (fun b83 => ?_)
          · replace h78 := ite_t b83 h78
            refine RL.skip rfl rfl ?_
            refine RL.skip rfl rfl ?_
            refine RL.skip rfl rfl ?_
            refine RL.skip rfl rfl ?_
            refine RL.pickT rfl rfl rfl rfl ?_
            refine RL.mv rfl rfl rfl ?_
            refine RL.skip rfl rfl ?_
            refine RL.skip rfl rfl ?_
            refine RL.skip rfl rfl ?_
            refine RL.skip rfl rfl ?_
            refine RL.skip rfl rfl ?_
            refine RL.skip rfl rfl ?_
            refine RL.pickT rfl rfl rfl rfl ?_
            refine RL.mv rfl rfl rfl ?_
            refine RL.skip rfl rfl ?_
            refine RL.skip rfl rfl ?_
            refine RL.skip rfl rfl ?_
            refine RL.pickT rfl rfl rfl rfl ?_
            refine RL.mv rfl rfl rfl ?_
            refine RL.skip rfl rfl ?_
            refine RL.skip rfl rfl ?_
            refine RL.skip rfl rfl ?_
            refine RL.skip rfl rfl ?_
            refine RL.skip rfl rfl ?_
            refine RL.pickT rfl rfl rfl rfl ?_
            refine RL.mv rfl rfl rfl ?_
            refine RL.skip rfl rfl ?_
            refine RL.skip rfl rfl ?_
            refine RL.skip rfl rfl ?_
            refine RL.skip rfl rfl ?_
            refine RL.skip rfl rfl ?_
            refine RL.pickT rfl rfl rfl rfl ?_
            refine RL.fin ?_
            cases h78
            exact fun a w st => mid_intro true h79 (St.cut [0] ⟨rfl, rfl, rfl, rfl, trivial⟩ (by decide) rfl st)
          · replace h78 := ite_f b83 h78
            refine RL.mv rfl rfl rfl ?_
            refine RL.mv rfl rfl rfl ?_
            refine RL.lenS 0 Try.underlying34 rfl rfl rfl rfl SlOf.own ?_
            refine RL.binI (v := .bool (decide (y25.1 ≥ ((y12).length : Int)))) rfl rfl rfl rfl rfl ?_
            refine RL.pickF rfl rfl rfl rfl ?_
            refine RL.mv rfl rfl rfl ?_
            refine RL.split (t := 63) rfl (fun b84 => ?_) (fun b84 => ?_)
            · replace h78 := ite_t b84 h78
              refine RL.skip rfl rfl ?_
              refine RL.skip rfl rfl ?_
              refine RL.skip rfl rfl ?_
              refine RL.skip rfl rfl ?_
              refine RL.skip rfl rfl ?_
              refine RL.skip rfl rfl ?_
              refine RL.pickT rfl rfl rfl rfl ?_
              refine RL.mv rfl rfl rfl ?_
              refine RL.skip rfl rfl ?_
              refine RL.skip rfl rfl ?_
              refine RL.skip rfl rfl ?_
              refine RL.pickT rfl rfl rfl rfl ?_
              refine RL.mv rfl rfl rfl ?_
              refine RL.skip rfl rfl ?_
              refine RL.skip rfl rfl ?_
              refine RL.skip rfl rfl ?_
              refine RL.skip rfl rfl ?_
              refine RL.skip rfl rfl ?_
              refine RL.pickT rfl rfl rfl rfl ?_
              refine RL.mv rfl rfl rfl ?_
              refine RL.skip rfl rfl ?_
              refine RL.skip rfl rfl ?_
              refine RL.skip rfl rfl ?_
              refine RL.skip rfl rfl ?_
              refine RL.skip rfl rfl ?_
              refine RL.pickT rfl rfl rfl rfl ?_
              refine RL.fin ?_
              cases h78
              exact fun a w st => mid_intro true h79 (St.cut [0] ⟨rfl, rfl, rfl, rfl, trivial⟩ (by decide) rfl st)
            · replace h78 := ite_f b84 h78
              refine RL.mv rfl rfl rfl ?_
              refine RL.mv rfl rfl rfl ?_
              obtain ⟨y85, e86, h78⟩ := bind_some h78
              refine RL.idxS (sz := 1) 0 Try.underlying34 Try_ln3 rfl rfl rfl rfl rfl SlOf.own (idx_some e86).1 (idx_some e86).2.1 ?_
              refine RL.ldSx (i := (y25.1).toNat) (e' := y85) 0 Ex.ik Try_ln3 rfl rfl rfl rfl SlOf.own (idx_some e86).2.2 Part.self ?_
              refine RL.mv rfl rfl rfl ?_
              refine RL.binI (v := .bool (decide (y85 < y25.2.1))) rfl rfl rfl rfl rfl ?_
              refine RL.pickF rfl rfl rfl rfl ?_
              refine RL.mv rfl rfl rfl ?_
              refine RL.split (t := 71) rfl (fun b87 => ?_) (fun b87 => ?_)
              · replace h78 := ite_t b87 h78
                refine RL.skip rfl rfl ?_
                refine RL.skip rfl rfl ?_
                refine RL.skip rfl rfl ?_
                refine RL.pickT rfl rfl rfl rfl ?_
                refine RL.mv rfl rfl rfl ?_
                refine RL.skip rfl rfl ?_
                refine RL.skip rfl rfl ?_
                refine RL.skip rfl rfl ?_
                refine RL.skip rfl rfl ?_
                refine RL.skip rfl rfl ?_
                refine RL.pickT rfl rfl rfl rfl ?_
                refine RL.mv rfl rfl rfl ?_
                refine RL.skip rfl rfl ?_
                refine RL.skip rfl rfl ?_
                refine RL.skip rfl rfl ?_
                refine RL.skip rfl rfl ?_
                refine RL.skip rfl rfl ?_
                refine RL.pickT rfl rfl rfl rfl ?_
                refine RL.fin ?_
                cases h78
                exact fun a w st => mid_intro true h79 (St.cut [0] ⟨rfl, rfl, rfl, rfl, trivial⟩ (by decide) rfl st)
              · replace h78 := ite_f b87 h78
                refine RL.mv rfl rfl rfl ?_
                refine RL.mv rfl rfl rfl ?_
                refine RL.binI (v := .bool (decide (y25.2.1 < y19))) rfl rfl rfl rfl rfl ?_
                refine RL.pickF rfl rfl rfl rfl ?_
                refine RL.mv rfl rfl rfl ?_
                refine RL.split (t := 76) rfl (fun b88 => ?_) (fun b88 => ?_)
                · replace h78 := ite_t b88 h78
                  refine RL.skip rfl rfl ?_
                  refine RL.skip rfl rfl ?_
                  refine RL.skip rfl rfl ?_
                  refine RL.skip rfl rfl ?_
                  refine RL.skip rfl rfl ?_
                  refine RL.pickT rfl rfl rfl rfl ?_
                  refine RL.mv rfl rfl rfl ?_
                  refine RL.skip rfl rfl ?_
                  refine RL.skip rfl rfl ?_
                  refine RL.skip rfl rfl ?_
                  refine RL.skip rfl rfl ?_
                  refine RL.skip rfl rfl ?_
                  refine RL.pickT rfl rfl rfl rfl ?_
                  refine RL.fin ?_
                  cases h78
                  exact fun a w st => mid_intro true h79 (St.cut [0] ⟨rfl, rfl, rfl, rfl, trivial⟩ (by decide) rfl st)
                · replace h78 := ite_f b88 h78
                  refine RL.mv rfl rfl rfl ?_
                  refine RL.mv rfl rfl rfl ?_
                  refine RL.mv rfl rfl rfl ?_
                  refine RL.binI (v := .int .i64 (wsub y29.2.1 (wadd (1 : Int) y21))) rfl rfl rfl rfl rfl ?_
                  refine RL.binI (v := .bool (decide (y25.2.1 < (wsub y29.2.1 (wadd (1 : Int) y21))))) rfl rfl rfl rfl rfl ?_
                  refine RL.pickF rfl rfl rfl rfl ?_
                  refine RL.mv rfl rfl rfl ?_
                  refine RL.split (t := 83) rfl (fun b89 => ?_) (fun b89 => ?_)
                  · replace h78 := ite_t b89 h78
                    refine RL.skip rfl rfl ?_
                    refine RL.skip rfl rfl ?_
                    refine RL.skip rfl rfl ?_
                    refine RL.skip rfl rfl ?_
                    refine RL.skip rfl rfl ?_
                    refine RL.pickT rfl rfl rfl rfl ?_
                    refine RL.fin ?_
                    cases h78
                    exact fun a w st => mid_intro true h79 (St.cut [0] ⟨rfl, rfl, rfl, rfl, trivial⟩ (by decide) rfl st)
                  · replace h78 := ite_f b89 h78
                    refine RL.mv rfl rfl rfl ?_
                    refine RL.mv rfl rfl rfl ?_
                    refine RL.mv rfl rfl rfl ?_
                    refine RL.binI (v := .int .i64 (wadd y29.2.1 (wadd (1 : Int) y21))) rfl rfl rfl rfl rfl ?_
                    refine RL.binI (v := .bool (decide (y25.2.1 > (wadd y29.2.1 (wadd (1 : Int) y21))))) rfl rfl rfl rfl rfl ?_
                    refine RL.pickF rfl rfl rfl rfl ?_
                    refine RL.fin ?_
                    cases h78
                    exact fun a w st => mid_intro (decide (y25.2.1 > (wadd y29.2.1 (wadd (1 : Int) y21)))) h79 (St.cut [0] ⟨rfl, rfl, rfl, rfl, trivial⟩ (by decide) rfl st)
        · rintro x75 h90
          have h91 := h80 _ h90
          try dsimp only at h91
          refine GL.weak (env' := [(2, .int .i64 (wadd (1 : Int) y21)), (7, v14), (8, .int .i64 y25.1), (89, .bool x75)]) (L' := [own 3 TR.int v14 y12]) (fun _ _ st => st) ?_
          refine GL.cond rfl (fun b92 => ?_) (fun b92 => ?_)
          · replace h91 := ite_t b92 h91
            refine GL.seq ?_
            refine GL.region ?_
            refine RL.asg rfl rfl rfl ?_
            refine RL.finG ?_
            have h91 := Option.some.inj h91
            subst h91
            exact GL.ret (Gx.ret (v := .bool false) (res1 rfl rfl) (fun a w st => st.toPostV))
          · replace h91 := ite_f b92 h91
            refine GL.skip ?_
            refine GL.seq ?_
            obtain ⟨y104, K105, h106, h107, h108, h109, h110⟩ := bindR_K h91
            refine GL.join (ι := Bool) (fun (p : Bool) => [(6, .bool p)]) (fun (p : Bool) => []) (fun (p : Bool) => K105 (.nx p)) ?_ ?_
            · skip
              refine GL.regionQ rfl rfl (by kernel_rfl) ?_
              refine RL.mv rfl rfl rfl ?_
              refine RL.binI (v := .bool (decide ((wadd (1 : Int) y21) > (1 : Int)))) rfl rfl rfl rfl rfl ?_
              refine RL.mv rfl rfl rfl ?_
              refine RL.split (t := 92) rfl (fun b111 => ?_) (fun b111 => ?_)
              · replace h106 := ite_t b111 h106
                refine RL.skip rfl rfl ?_
                refine RL.skip rfl rfl ?_
                refine RL.skip rfl rfl ?_
                refine RL.skip rfl rfl ?_
                refine RL.skip rfl rfl ?_
                refine RL.skip rfl rfl ?_
                refine RL.skip rfl rfl ?_
                refine RL.pickT rfl rfl rfl rfl ?_
                refine RL.asg rfl rfl rfl ?_
                refine RL.finQ ?_
                cases h106
                exact fun a w st => mid_intro true h107 (St.cut [] ⟨rfl, trivial⟩ (by decide) rfl st)
              · replace h106 := ite_f b111 h106
                refine RL.mv rfl rfl rfl ?_
                refine RL.mv rfl rfl rfl ?_
                obtain ⟨y112, e113, h106⟩ := bind_some h106
                refine RL.idxS (sz := 1) 0 Try.underlying34 Try_ln3 rfl rfl rfl rfl rfl SlOf.own (idx_some e113).1 (idx_some e113).2.1 ?_
                refine RL.ldSx (i := (y25.1).toNat) (e' := y112) 0 Ex.ik Try_ln3 rfl rfl rfl rfl SlOf.own (idx_some e113).2.2 Part.self ?_
                refine RL.mv rfl rfl rfl ?_
                obtain ⟨y114, e115, h106⟩ := bind_some h106
                refine RL.callC (v := .int .i64 y114) (vs := [v14]) Try_fit42 rfl rfl rfl rfl (fun U w hU hW hL => slices_Max_int_int_c U w hU _ _ (hL 0 _ _ rfl Seen.own) _ e115) ?_
                refine RL.binI (v := .bool (y112 == y114)) rfl rfl rfl rfl rfl ?_
                refine RL.pickF rfl rfl rfl rfl ?_
                refine RL.asg rfl rfl rfl ?_
                refine RL.finQ ?_
                cases h106
                exact fun a w st => mid_intro (y112 == y114) h107 (St.cut [] ⟨rfl, trivial⟩ (by decide) rfl st)
            · rintro x103 h116
              have h117 := h108 _ h116
              try dsimp only at h117
              refine GL.weak (env' := [(6, .bool x103)]) (L' := []) (fun _ _ st => st) ?_
              have h117 := Option.some.inj h117
              subst h117
              exact GL.ret (Gx.ret (v := .bool x103) (res1 rfl rfl) (fun a w st => st.toPostV))
end Go.Wk
