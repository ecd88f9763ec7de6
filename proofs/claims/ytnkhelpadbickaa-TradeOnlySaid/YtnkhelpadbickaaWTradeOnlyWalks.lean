/- Each function comes to what its model says; printed by a program of this repository. -/
import Derived.Test.YtnkhelpadbickaaProg
import Derived.Test.YtnkhelpadbickaaWTradeOnlyModels
namespace Go.Wk
open Go.Fw Go.Mo Go.Proofs Go.RowKit
set_option linter.all false
set_option maxRecDepth 100000
theorem loopNx {ρ σ β γ : Type} {body : σ → Option (Fl ρ β σ)} {n : Nat} {s : σ} {y : Fl ρ γ β} (h : stepM body n (.nx s) = some y) : loopM body n s = some y := h
theorem Try_info3 : (Try.prog.info? 3).map (fun i => (i.zero, i.size, i.bytes)) = some (some (.int .i64 0), 1, 8) := by kernel_rfl
theorem Try_ln3 : Ln Try.prog 3 1 false := Ln.of Try_info3 Try.underlying3 rfl
theorem Try_lo3 : LnO Try.prog 3 1 [.int .i64 0] := LnO.of Try_info3 rfl rfl (by decide) (by decide)
theorem Try_info4 : (Try.prog.info? 4).map (fun i => (i.zero, i.size, i.bytes)) = some (some (.bool false), 1, 1) := by kernel_rfl
theorem Try_ln4 : Ln Try.prog 4 1 false := Ln.of Try_info4 Try.underlying4 rfl
theorem Try_lo4 : LnO Try.prog 4 1 [.bool false] := LnO.of Try_info4 rfl rfl (by decide) (by decide)
theorem Try_info24 : (Try.prog.info? 24).map (fun i => (i.zero, i.size, i.bytes)) = some (some (.slice none 0 0), 1, 24) := by kernel_rfl
theorem Try_ln24 : Ln Try.prog 24 1 false := Ln.of Try_info24 Try.underlying24 rfl
theorem Try_lo24 : LnO Try.prog 24 1 [.slice none 0 0] := LnO.of Try_info24 rfl rfl (by decide) (by decide)
theorem Try_info25 : (Try.prog.info? 25).map (fun i => (i.zero, i.size, i.bytes)) = some (some (.slice none 0 0), 1, 24) := by kernel_rfl
theorem Try_ln25 : Ln Try.prog 25 1 false := Ln.of Try_info25 Try.underlying25 rfl
theorem Try_lo25 : LnO Try.prog 25 1 [.slice none 0 0] := LnO.of Try_info25 rfl rfl (by decide) (by decide)
theorem Try_info87 : (Try.prog.info? 87).map (fun i => (i.zero, i.size, i.bytes)) = some (some (.agg #[.bool false, .bool false, .bool false, .bool false, .bool false, .bool false]), 6, 6) := by kernel_rfl
theorem Try_ln87 : Ln Try.prog 87 6 true := Ln.of Try_info87 Try.underlying87 rfl
theorem Try_lo87 : LnO Try.prog 87 6 [.bool false, .bool false, .bool false, .bool false, .bool false, .bool false] := LnO.of Try_info87 rfl rfl (by decide) (by decide)
theorem Try_fit17 : Fit Try.prog 17 := Fit.of Try.func17 (by kernel_rfl) rfl
theorem Try_fit19 : Fit Try.prog 19 := Fit.of Try.func19 (by kernel_rfl) rfl
theorem Try_fit28 : Fit Try.prog 28 := Fit.of Try.func28 (by kernel_rfl) rfl
theorem Try_fit29 : Fit Try.prog 29 := Fit.of Try.func29 (by kernel_rfl) rfl
theorem Try_fit30 : Fit Try.prog 30 := Fit.of Try.func30 (by kernel_rfl) rfl
theorem Try_fit36 : Fit Try.prog 36 := Fit.of Try.func36 (by kernel_rfl) rfl
theorem Try_fit39 : Fit Try.prog 39 := Fit.of Try.func39 (by kernel_rfl) rfl
theorem Try_fit40 : Fit Try.prog 40 := Fit.of Try.func40 (by kernel_rfl) rfl
theorem Try_fit41 : Fit Try.prog 41 := Fit.of Try.func41 (by kernel_rfl) rfl
theorem Try_fit43 : Fit Try.prog 43 := Fit.of Try.func43 (by kernel_rfl) rfl
theorem Try_fit48 : Fit Try.prog 48 := Fit.of Try.func48 (by kernel_rfl) rfl
theorem Try_fit49 : Fit Try.prog 49 := Fit.of Try.func49 (by kernel_rfl) rfl
theorem Try_fit50 : Fit Try.prog 50 := Fit.of Try.func50 (by kernel_rfl) rfl
theorem Try_fit51 : Fit Try.prog 51 := Fit.of Try.func51 (by kernel_rfl) rfl
theorem Try_fit54 : Fit Try.prog 54 := Fit.of Try.func54 (by kernel_rfl) rfl

set_option maxHeartbeats 4000000 in
theorem order_Check_c (S : Hp) (w : World) (hS : S.sub w) (x0 : Int) (v1 : Value) (x1 : (List Int)) (k1 : ((TR.sl TR.int)).vrep S v1 x1) (res : Int) (hm : order_Check_m x0 x1 = some res) : Calls Try.prog 41 #[.int .i64 x0, v1] w (PostV w (.int .i64 res)) := by
 refine calls_enter 39 Try.func41 Try.ntmps41 rfl S false [(0, .int .i64 x0), (1, v1)] [imm (TR.sl TR.int) v1 x1] rfl ⟨rfl, ⟨rfl, trivial⟩⟩ hS ⟨k1, trivial⟩ ?_
 unfold order_Check_m at hm
 refine GL.seq ?_
 refine GL.region ?_
 refine RL.asg rfl rfl rfl ?_
 refine RL.finG ?_
 refine GL.seq ?_
 refine GL.seq ?_
 obtain ⟨y6, K7, h8, h9, h10, h11, h12⟩ := bindR_K hm
 refine GL.join (ι := Bool) (fun (p : Bool) => [(0, .int .i64 x0), (1, v1), (13, .bool p)]) (fun (p : Bool) => [imm (TR.sl TR.int) v1 x1]) (fun (p : Bool) => K7 (.nx p)) ?_ ?_
 ·skip
  refine GL.region ?_
  refine RL.mv rfl rfl rfl ?_
  refine RL.binI (v := .bool (decide (x0 < (1 : Int)))) rfl rfl rfl rfl rfl ?_
  refine RL.mv rfl rfl rfl ?_
  refine RL.split (t := 10) rfl (fun b13 => ?_) (fun b13 => ?_)
  ·replace h8 := ite_t b13 h8
   refine RL.skip rfl rfl ?_
   refine RL.skip rfl rfl ?_
   refine RL.pickT rfl rfl rfl rfl ?_
   refine RL.fin ?_
   cases h8
   exact fun a w st => mid_intro true h9 (St.cut [0] ⟨rfl, rfl, rfl, trivial⟩ (by decide) rfl st)
  replace h8 := ite_f b13 h8
  refine RL.mv rfl rfl rfl ?_
  refine RL.binI (v := .bool (decide (x0 > (6 : Int)))) rfl rfl rfl rfl rfl ?_
  refine RL.pickF rfl rfl rfl rfl ?_
  refine RL.fin ?_
  cases h8
  exact fun a w st => mid_intro (decide (x0 > (6 : Int))) h9 (St.cut [0] ⟨rfl, rfl, rfl, trivial⟩ (by decide) rfl st)
 rintro x5 h14
 have h15 := h10 _ h14
 try dsimp only at h15
 refine GL.weak (env' := [(0, .int .i64 x0), (1, v1), (13, .bool x5)]) (L' := [imm (TR.sl TR.int) v1 x1]) (fun _ _ st => st) ?_
 refine GL.cond rfl (fun b16 => ?_) (fun b16 => ?_)
 ·replace h15 := ite_t b16 h15
  refine GL.seq ?_
  refine GL.region ?_
  refine RL.asg rfl rfl rfl ?_
  refine RL.finG ?_
  have h15 := Option.some.inj h15
  subst h15
  exact GL.ret (Gx.ret (v := .int .i64 (1 : Int)) (res1 rfl rfl) (fun a w st => st.toPostV))
 replace h15 := ite_f b16 h15
 refine GL.skip ?_
 refine GL.seq ?_
 refine GL.region ?_
 refine RL.alloc (t := (TR.arr 6 TR.bool)) (z := (List.replicate 6 false)) Try_lo87 (fun S => ⟨rfl, ⟨_, _, rfl, rfl, ⟨_, _, rfl, rfl, ⟨_, _, rfl, rfl, ⟨_, _, rfl, rfl, ⟨_, _, rfl, rfl, ⟨_, _, rfl, rfl, rfl⟩⟩⟩⟩⟩⟩⟩) rfl rfl rfl ?_
 intro v18
 refine RL.finG ?_
 refine GL.seq ?_
 refine GL.seq ?_
 refine GL.region ?_
 refine RL.mv rfl rfl rfl ?_
 refine RL.lenS 0 Try.underlying24 rfl rfl rfl rfl SlOf.imm ?_
 refine RL.mv rfl rfl rfl ?_
 refine RL.finG ?_
 refine GL.open_ 0 rfl (fun S h => len_imm S h) (fun n82 => ?_)
 obtain ⟨y83, K84, h85, h86, h87, h88, h89⟩ := bindR_K h15
 refine GL.join (ι := (List Bool)) (fun (p : (List Bool)) => [(0, .int .i64 x0), (1, v1)]) (fun (p : (List Bool)) => [imm (TR.sl TR.int) v1 x1]) (fun (p : (List Bool)) => K84 (.nx p)) ?_ ?_
 ·refine GL.block ?_
  refine GL.loop (ι := Nat × (List Int) × (List Bool)) (fun (p : Nat × (List Int) × (List Bool)) => [(0, .int .i64 x0), (1, v1), (5, v18), (14, v1), (15, .int .i64 ((x1).length : Int)), (16, .int .i64 (p.1 : Int))]) (fun (p : Nat × (List Int) × (List Bool)) => [imm (TR.sl TR.int) v1 x1, obox 87 (TR.arr 6 TR.bool) v18 p.2.2]) (fun (p : Nat × (List Int) × (List Bool)) => p.1 + p.2.1.length = (x1).length ∧ List.drop p.1 x1 = p.2.1 ∧ rangeL (order_Check_b1 x0) p.2.1 p.1 p.2.2 = some y83) (fun (p : Nat × (List Int) × (List Bool)) => p.2.1.length) (0, x1, (List.replicate 6 false)) ⟨by simp, by simp, h85⟩ (fun a w st => St.cut [0, 1] ⟨rfl, rfl, rfl, rfl, rfl, rfl, trivial⟩ (by decide) rfl st) ?_
  rintro ⟨i90, r91, l50⟩ ⟨h96, h97, h95⟩
  try dsimp only at h96 h97 h95
  refine GL.weak (env' := [(0, .int .i64 x0), (1, v1), (5, v18), (14, v1), (15, .int .i64 ((x1).length : Int)), (16, .int .i64 (i90 : Int))]) (L' := [imm (TR.sl TR.int) v1 x1, obox 87 (TR.arr 6 TR.bool) v18 l50]) (fun _ _ st => st) ?_
  refine GL.seq ?_
  refine GL.region ?_
  refine RL.binI (v := .bool (decide ((i90 : Int) < ((x1).length : Int)))) rfl rfl rfl rfl rfl ?_
  refine RL.finG ?_
  refine GL.seq ?_
  refine GL.cond rfl (fun b98 => ?_) (fun b98 => ?_)
  ·have h99 : i90 < (x1).length := by have := of_decide_eq_true b98; omega
   obtain ⟨y100, r102, hr, e101, h103⟩ := drop_cons h97 rfl h99
   subst hr
   obtain ⟨z92, h93, h94⟩ := rangeL_some h95
   unfold order_Check_b1 at h93
   try dsimp only at h93
   refine GL.skip ?_
   refine GL.seq ?_
   refine GL.block ?_
   refine GL.seq ?_
   refine GL.region ?_
   refine RL.idxS (sz := 1) 0 Try.underlying24 Try_ln3 rfl rfl rfl rfl rfl SlOf.imm (by omega) (by omega) ?_
   refine RL.ldSx (i := i90) (e' := y100) 0 Ex.ik Try_ln3 rfl rfl rfl rfl SlOf.imm e101 Part.self ?_
   refine RL.asg rfl rfl rfl ?_
   refine RL.finG ?_
   refine GL.seq ?_
   refine GL.seq ?_
   obtain ⟨y113, K114, h115, h116, h117, h118, h119⟩ := bindF_K h93
   refine GL.join (ι := Bool) (fun (p : Bool) => [(0, .int .i64 x0), (1, v1), (5, v18), (7, .int .i64 y100), (14, v1), (15, .int .i64 ((x1).length : Int)), (16, .int .i64 (i90 : Int)), (31, .bool p)]) (fun (p : Bool) => [imm (TR.sl TR.int) v1 x1, obox 87 (TR.arr 6 TR.bool) v18 l50]) (fun (p : Bool) => K114 (.nx p)) ?_ ?_
   ·skip
    refine GL.region ?_
    refine RL.mv rfl rfl rfl ?_
    refine RL.binI (v := .bool (decide (y100 < (0 : Int)))) rfl rfl rfl rfl rfl ?_
    refine RL.mv rfl rfl rfl ?_
    refine RL.split (t := 22) rfl (fun b120 => ?_) (fun b120 => ?_)
    ·replace h115 := ite_t b120 h115
     refine RL.skip rfl rfl ?_
     refine RL.skip rfl rfl ?_
     refine RL.skip rfl rfl ?_
     refine RL.pickT rfl rfl rfl rfl ?_
     refine RL.mv rfl rfl rfl ?_
     refine RL.skip rfl rfl ?_
     refine RL.skip rfl rfl ?_
     refine RL.skip rfl rfl ?_
     refine RL.pickT rfl rfl rfl rfl ?_
     refine RL.fin ?_
     cases h115
     exact fun a w st => mid_intro true h116 (St.cut [0, 1] ⟨rfl, rfl, rfl, rfl, rfl, rfl, rfl, rfl, trivial⟩ (by decide) rfl st)
    replace h115 := ite_f b120 h115
    refine RL.mv rfl rfl rfl ?_
    refine RL.mv rfl rfl rfl ?_
    refine RL.binI (v := .bool (decide (y100 ≥ x0))) rfl rfl rfl rfl rfl ?_
    refine RL.pickF rfl rfl rfl rfl ?_
    refine RL.mv rfl rfl rfl ?_
    refine RL.split (t := 27) rfl (fun b121 => ?_) (fun b121 => ?_)
    ·replace h115 := ite_t b121 h115
     refine RL.skip rfl rfl ?_
     refine RL.skip rfl rfl ?_
     refine RL.skip rfl rfl ?_
     refine RL.pickT rfl rfl rfl rfl ?_
     refine RL.fin ?_
     cases h115
     exact fun a w st => mid_intro true h116 (St.cut [0, 1] ⟨rfl, rfl, rfl, rfl, rfl, rfl, rfl, rfl, trivial⟩ (by decide) rfl st)
    replace h115 := ite_f b121 h115
    refine RL.mv rfl rfl rfl ?_
    obtain ⟨y122, e123, h115⟩ := bind_some h115
    refine RL.idxA0 (sz := 1) (t' := TR.bool) 1 Try.underlying87 Try_ln4 rfl rfl rfl PtOf.obox rfl rfl Part.self (idx_some e123).1 (idx_some e123).2.1 ?_
    refine RL.ldPx (off := ((y100).toNat * 1)) (e' := y122) 1 Ex.bool Try_ln4 rfl rfl (Or.inl rfl) rfl PtOf.obox (Part.arr (idx_some e123).2.2 Part.self) ?_
    refine RL.pickF rfl rfl rfl rfl ?_
    refine RL.fin ?_
    cases h115
    exact fun a w st => mid_intro y122 h116 (St.cut [0, 1] ⟨rfl, rfl, rfl, rfl, rfl, rfl, rfl, rfl, trivial⟩ (by decide) rfl st)
   rintro x112 h124
   have h125 := h117 _ h124
   try dsimp only at h125
   refine GL.weak (env' := [(0, .int .i64 x0), (1, v1), (5, v18), (7, .int .i64 y100), (14, v1), (15, .int .i64 ((x1).length : Int)), (16, .int .i64 (i90 : Int)), (31, .bool x112)]) (L' := [imm (TR.sl TR.int) v1 x1, obox 87 (TR.arr 6 TR.bool) v18 l50]) (fun _ _ st => st) ?_
   refine GL.cond rfl (fun b126 => ?_) (fun b126 => ?_)
   ·replace h125 := ite_t b126 h125
    refine GL.seq ?_
    refine GL.region ?_
    refine RL.asg rfl rfl rfl ?_
    refine RL.finG ?_
    cases h125
    replace h94 : some (Fl.rt _) = some y83 := h94
    cases h94
    have hh := h88 _ h86
    subst hh
    exact GL.ret (Gx.ret (v := .int .i64 (3 : Int)) (res1 rfl rfl) (fun a w st => st.toPostV))
   replace h125 := ite_f b126 h125
   refine GL.skip ?_
   refine GL.region ?_
   refine RL.mv rfl rfl rfl ?_
   obtain ⟨y129, e130, h125⟩ := bind_some h125
   refine RL.idxA0 (sz := 1) (t' := TR.bool) 1 Try.underlying87 Try_ln4 rfl rfl rfl PtOf.obox rfl rfl Part.self (idx_some e130).1 (idx_some e130).2.1 ?_
   refine RL.stP (off := ((y100).toNat * 1)) (e' := true) (d1 := (List.set l50 ((y100).toNat) true)) (r := TR.bool) 1 Try_ln4 rfl rfl (Or.inl rfl) rfl VR.bool rfl (Upd.arr (idx_some e130).2.2 Upd.self) ?_
   refine RL.finG ?_
   refine GL.nilB ?_
   refine GL.region ?_
   refine RL.binI (v := .int .i64 ((i90 + 1 : Nat) : Int)) rfl rfl rfl rfl (binI_succ i90 (by omega)) ?_
   refine RL.mv rfl rfl rfl ?_
   refine RL.fin ?_
   cases h125
   exact fun a w st => lop_intro (i90 + 1, r102, (List.set l50 ((y100).toNat) true)) ⟨by show i90 + 1 + r102.length = (x1).length; simp only [List.length_cons] at h96; omega, h103, h94⟩ (by simp) (St.cut [0, 1] ⟨rfl, rfl, rfl, rfl, rfl, rfl, trivial⟩ (by decide) rfl st)
  have h99 : ¬ i90 < (x1).length := by have := of_decide_eq_false b98; omega
  obtain rfl : r91 = [] := by rw [← h97]; exact List.drop_of_length_le (by omega)
  replace h95 : some (Fl.nx _) = some y83 := h95
  cases h95
  exact GL.exit (fun a w st => mid_intro l50 h86 (St.cut [0] ⟨rfl, rfl, trivial⟩ (by decide) rfl st))
 rintro l50 h131
 have h132 := h87 _ h131
 try dsimp only at h132
 refine GL.weak (env' := [(0, .int .i64 x0), (1, v1)]) (L' := [imm (TR.sl TR.int) v1 x1]) (fun _ _ st => st) ?_
 refine GL.seq ?_
 refine GL.seq ?_
 refine GL.region ?_
 refine RL.mv rfl rfl rfl ?_
 refine RL.lenS 0 Try.underlying24 rfl rfl rfl rfl SlOf.imm ?_
 refine RL.mv rfl rfl rfl ?_
 refine RL.binI (v := .bool (((x1).length : Int) != x0)) rfl rfl rfl rfl rfl ?_
 refine RL.finG ?_
 refine GL.cond rfl (fun b133 => ?_) (fun b133 => ?_)
 ·replace h132 := ite_t b133 h132
  refine GL.seq ?_
  refine GL.region ?_
  refine RL.asg rfl rfl rfl ?_
  refine RL.finG ?_
  have h132 := Option.some.inj h132
  subst h132
  exact GL.ret (Gx.ret (v := .int .i64 (3 : Int)) (res1 rfl rfl) (fun a w st => st.toPostV))
 replace h132 := ite_f b133 h132
 refine GL.skip ?_
 refine GL.seq ?_
 refine GL.region ?_
 refine RL.asg rfl rfl rfl ?_
 refine RL.finG ?_
 have h132 := Option.some.inj h132
 subst h132
 exact GL.ret (Gx.ret (v := .int .i64 (0 : Int)) (res1 rfl rfl) (fun a w st => st.toPostV))

set_option maxHeartbeats 4000000 in
theorem trade_Check_c (S : Hp) (w : World) (hS : S.sub w) (v0 : Value) (x0 : (List (List Int))) (k0 : ((TR.sl (TR.sl TR.int))).vrep S v0 x0) (res : Int) (hm : trade_Check_m x0 = some res) : Calls Try.prog 50 #[v0] w (PostV w (.int .i64 res)) := by
 refine calls_enter 25 Try.func50 Try.ntmps50 rfl S false [(0, v0)] [imm (TR.sl (TR.sl TR.int)) v0 x0] rfl ⟨rfl, trivial⟩ hS ⟨k0, trivial⟩ ?_
 unfold trade_Check_m at hm
 refine GL.seq ?_
 refine GL.region ?_
 refine RL.asg rfl rfl rfl ?_
 refine RL.finG ?_
 refine GL.seq ?_
 refine GL.region ?_
 refine RL.mv rfl rfl rfl ?_
 refine RL.lenS 0 Try.underlying25 rfl rfl rfl rfl SlOf.imm ?_
 refine RL.asg rfl rfl rfl ?_
 refine RL.finG ?_
 refine GL.seq ?_
 refine GL.seq ?_
 obtain ⟨y5, K6, h7, h8, h9, h10, h11⟩ := bindR_K hm
 refine GL.join (ι := Bool) (fun (p : Bool) => [(0, v0), (3, .int .i64 ((x0).length : Int)), (13, .bool p)]) (fun (p : Bool) => [imm (TR.sl (TR.sl TR.int)) v0 x0]) (fun (p : Bool) => K6 (.nx p)) ?_ ?_
 ·skip
  refine GL.region ?_
  refine RL.mv rfl rfl rfl ?_
  refine RL.binI (v := .bool (decide (((x0).length : Int) < (1 : Int)))) rfl rfl rfl rfl rfl ?_
  refine RL.mv rfl rfl rfl ?_
  refine RL.split (t := 10) rfl (fun b12 => ?_) (fun b12 => ?_)
  ·replace h7 := ite_t b12 h7
   refine RL.skip rfl rfl ?_
   refine RL.skip rfl rfl ?_
   refine RL.pickT rfl rfl rfl rfl ?_
   refine RL.fin ?_
   cases h7
   exact fun a w st => mid_intro true h8 (St.cut [0] ⟨rfl, rfl, rfl, trivial⟩ (by decide) rfl st)
  replace h7 := ite_f b12 h7
  refine RL.mv rfl rfl rfl ?_
  refine RL.binI (v := .bool (decide (((x0).length : Int) > (6 : Int)))) rfl rfl rfl rfl rfl ?_
  refine RL.pickF rfl rfl rfl rfl ?_
  refine RL.fin ?_
  cases h7
  exact fun a w st => mid_intro (decide (((x0).length : Int) > (6 : Int))) h8 (St.cut [0] ⟨rfl, rfl, rfl, trivial⟩ (by decide) rfl st)
 rintro x4 h13
 have h14 := h9 _ h13
 try dsimp only at h14
 refine GL.weak (env' := [(0, v0), (3, .int .i64 ((x0).length : Int)), (13, .bool x4)]) (L' := [imm (TR.sl (TR.sl TR.int)) v0 x0]) (fun _ _ st => st) ?_
 refine GL.cond rfl (fun b15 => ?_) (fun b15 => ?_)
 ·replace h14 := ite_t b15 h14
  refine GL.seq ?_
  refine GL.region ?_
  refine RL.asg rfl rfl rfl ?_
  refine RL.finG ?_
  have h14 := Option.some.inj h14
  subst h14
  exact GL.ret (Gx.ret (v := .int .i64 (2 : Int)) (res1 rfl rfl) (fun a w st => st.toPostV))
 replace h14 := ite_f b15 h14
 refine GL.skip ?_
 refine GL.seq ?_
 refine GL.seq ?_
 refine GL.region ?_
 refine RL.mv rfl rfl rfl ?_
 refine RL.lenS 0 Try.underlying25 rfl rfl rfl rfl SlOf.imm ?_
 refine RL.mv rfl rfl rfl ?_
 refine RL.finG ?_
 refine GL.open_ 0 rfl (fun S h => len_imm S h) (fun n27 => ?_)
 obtain ⟨y28, K29, h30, h31, h32, h33, h34⟩ := bindR_K h14
 refine GL.join (ι := Unit) (fun (p : Unit) => []) (fun (p : Unit) => []) (fun (p : Unit) => K29 (.nx ())) ?_ ?_
 ·refine GL.block ?_
  refine GL.loop (ι := Nat × (List (List Int))) (fun (p : Nat × (List (List Int))) => [(3, .int .i64 ((x0).length : Int)), (14, v0), (15, .int .i64 ((x0).length : Int)), (16, .int .i64 (p.1 : Int))]) (fun (p : Nat × (List (List Int))) => [imm (TR.sl (TR.sl TR.int)) v0 x0]) (fun (p : Nat × (List (List Int))) => p.1 + p.2.length = (x0).length ∧ List.drop p.1 x0 = p.2 ∧ rangeL (trade_Check_b1 x0) p.2 p.1 () = some y28) (fun (p : Nat × (List (List Int))) => p.2.length) (0, x0) ⟨by simp, by simp, h30⟩ (fun a w st => St.cut [0] ⟨rfl, rfl, rfl, rfl, trivial⟩ (by decide) rfl st) ?_
  rintro ⟨i35, r36⟩ ⟨h41, h42, h40⟩
  try dsimp only at h41 h42 h40
  refine GL.weak (env' := [(3, .int .i64 ((x0).length : Int)), (14, v0), (15, .int .i64 ((x0).length : Int)), (16, .int .i64 (i35 : Int))]) (L' := [imm (TR.sl (TR.sl TR.int)) v0 x0]) (fun _ _ st => st) ?_
  refine GL.seq ?_
  refine GL.region ?_
  refine RL.binI (v := .bool (decide ((i35 : Int) < ((x0).length : Int)))) rfl rfl rfl rfl rfl ?_
  refine RL.finG ?_
  refine GL.seq ?_
  refine GL.cond rfl (fun b43 => ?_) (fun b43 => ?_)
  ·have h44 : i35 < (x0).length := by have := of_decide_eq_true b43; omega
   obtain ⟨y45, r47, hr, e46, h48⟩ := drop_cons h42 rfl h44
   subst hr
   obtain ⟨z37, h38, h39⟩ := rangeL_some h40
   unfold trade_Check_b1 at h38
   try dsimp only at h38
   refine GL.skip ?_
   refine GL.seq ?_
   refine GL.block ?_
   refine GL.seq ?_
   refine GL.region ?_
   refine RL.idxS (sz := 1) 0 Try.underlying25 Try_ln24 rfl rfl rfl rfl rfl SlOf.imm (by omega) (by omega) ?_
   refine RL.ldS (i := i35) (r := (TR.sl TR.int)) (e' := y45) 0 Try_ln24 rfl rfl rfl rfl SlOf.imm e46 Part.self ?_
   intro v50
   refine RL.asg rfl rfl rfl ?_
   refine RL.finG ?_
   refine GL.seq ?_
   refine GL.region ?_
   refine RL.mv rfl rfl rfl ?_
   refine RL.mv rfl rfl rfl ?_
   obtain ⟨y53, e54, h38⟩ := bind_some h38
   refine RL.callV (v := .int .i64 y53) (vs := [.int .i64 ((x0).length : Int), v50]) Try_fit41 rfl (Or.inl rfl) rfl rfl rfl rfl (fun U w hU hW hL => order_Check_c U w hU ((x0).length : Int) _ _ (hL 1 _ _ rfl Seen.imm) _ e54) ?_
   refine RL.binI (v := .bool (y53 != (0 : Int))) rfl rfl rfl rfl rfl ?_
   refine RL.finG ?_
   refine GL.cond rfl (fun b55 => ?_) (fun b55 => ?_)
   ·replace h38 := ite_t b55 h38
    refine GL.seq ?_
    refine GL.region ?_
    refine RL.asg rfl rfl rfl ?_
    refine RL.finG ?_
    cases h38
    replace h39 : some (Fl.rt _) = some y28 := h39
    cases h39
    have hh := h33 _ h31
    subst hh
    exact GL.ret (Gx.ret (v := .int .i64 (3 : Int)) (res1 rfl rfl) (fun a w st => st.toPostV))
   replace h38 := ite_f b55 h38
   refine GL.skip ?_
   refine GL.nilB ?_
   refine GL.region ?_
   refine RL.binI (v := .int .i64 ((i35 + 1 : Nat) : Int)) rfl rfl rfl rfl (binI_succ i35 (by omega)) ?_
   refine RL.mv rfl rfl rfl ?_
   refine RL.fin ?_
   cases h38
   exact fun a w st => lop_intro (i35 + 1, r47) ⟨by show i35 + 1 + r47.length = (x0).length; simp only [List.length_cons] at h41; omega, h48, h39⟩ (by simp) (St.cut [0] ⟨rfl, rfl, rfl, rfl, trivial⟩ (by decide) rfl st)
  have h44 : ¬ i35 < (x0).length := by have := of_decide_eq_false b43; omega
  obtain rfl : r36 = [] := by rw [← h42]; exact List.drop_of_length_le (by omega)
  replace h40 : some (Fl.nx _) = some y28 := h40
  cases h40
  exact GL.exit (fun a w st => mid_intro () h31 (St.cut [] trivial (by decide) rfl st))
 rintro ⟨⟩ h56
 have h57 := h32 _ h56
 try dsimp only at h57
 refine GL.weak (env' := []) (L' := []) (fun _ _ st => st) ?_
 refine GL.seq ?_
 refine GL.region ?_
 refine RL.asg rfl rfl rfl ?_
 refine RL.finG ?_
 have h57 := Option.some.inj h57
 subst h57
 exact GL.ret (Gx.ret (v := .int .i64 (0 : Int)) (res1 rfl rfl) (fun a w st => st.toPostV))

set_option maxHeartbeats 4000000 in
def trade_better_C (M : (List (List Int)) → (List Int) → Int → Int → Int → Option Bool) : Prop := ∀ (S : Hp) (w : World) (hS : S.sub w) (v0 : Value) (x0 : (List (List Int))) (k0 : ((TR.sl (TR.sl TR.int))).vrep S v0 x0) (v1 : Value) (x1 : (List Int)) (k1 : ((TR.sl TR.int)).vrep S v1 x1) (x2 : Int) (x3 : Int) (x4 : Int) (res : Bool) (hm : M x0 x1 x2 x3 x4 = some res), Calls Try.prog 54 #[v0, v1, .int .i64 x2, .int .i64 x3, .int .i64 x4] w (PostV w (.bool res))
theorem trade_better_cr (rcm : (List (List Int)) → (List Int) → Int → Int → Int → Option Bool) (rcm_c : trade_better_C rcm) : trade_better_C (trade_better_r rcm) := by
 intro S w hS v0 x0 k0 v1 x1 k1 x2 x3 x4 res hm
 refine calls_enter 78 Try.func54 Try.ntmps54 rfl S false [(0, v0), (1, v1), (2, .int .i64 x2), (3, .int .i64 x3), (4, .int .i64 x4)] [imm (TR.sl (TR.sl TR.int)) v0 x0, imm (TR.sl TR.int) v1 x1] rfl ⟨rfl, ⟨rfl, ⟨rfl, ⟨rfl, ⟨rfl, trivial⟩⟩⟩⟩⟩ hS ⟨k0, ⟨k1, trivial⟩⟩ ?_
 unfold trade_better_r at hm
 refine GL.seq ?_
 refine GL.region ?_
 refine RL.asg rfl rfl rfl ?_
 refine RL.finG ?_
 refine GL.seq ?_
 refine GL.seq ?_
 refine GL.region ?_
 refine RL.mv rfl rfl rfl ?_
 refine RL.mv rfl rfl rfl ?_
 refine RL.lenS 1 Try.underlying24 rfl rfl rfl rfl SlOf.imm ?_
 refine RL.binI (v := .bool (x3 == ((x1).length : Int))) rfl rfl rfl rfl rfl ?_
 refine RL.finG ?_
 refine GL.cond rfl (fun b6 => ?_) (fun b6 => ?_)
 ·replace hm := ite_t b6 hm
  refine GL.seq ?_
  refine GL.region ?_
  refine RL.asg rfl rfl rfl ?_
  refine RL.finG ?_
  have hm := Option.some.inj hm
  subst hm
  exact GL.ret (Gx.ret (v := .bool true) (res1 rfl rfl) (fun a w st => st.toPostV))
 replace hm := ite_f b6 hm
 refine GL.skip ?_
 refine GL.seq ?_
 refine GL.seq ?_
 refine GL.region ?_
 refine RL.mv rfl rfl rfl ?_
 refine RL.mv rfl rfl rfl ?_
 obtain ⟨y9, e10, hm⟩ := bind_some hm
 replace e10 := chk_some e10
 refine RL.sh (by simp) rfl rfl rfl rfl e10 ?_
 refine RL.binI (v := .int .i64 (bits .and .i64 (Int.fdiv x2 (2 ^ (min x3.toNat (IntKind.bits .i64)))) (1 : Int))) rfl rfl rfl rfl rfl ?_
 refine RL.binI (v := .bool ((bits .and .i64 (Int.fdiv x2 (2 ^ (min x3.toNat (IntKind.bits .i64)))) (1 : Int)) == (0 : Int))) rfl rfl rfl rfl rfl ?_
 refine RL.finG ?_
 refine GL.cond rfl (fun b11 => ?_) (fun b11 => ?_)
 ·replace hm := ite_t b11 hm
  refine GL.seq ?_
  refine GL.region ?_
  refine RL.mv rfl rfl rfl ?_
  refine RL.mv rfl rfl rfl ?_
  refine RL.mv rfl rfl rfl ?_
  refine RL.mv rfl rfl rfl ?_
  refine RL.binI (v := .int .i64 (wadd x3 (1 : Int))) rfl rfl rfl rfl rfl ?_
  refine RL.mv rfl rfl rfl ?_
  obtain ⟨y14, e15, hm⟩ := bind_some hm
  refine RL.callV (v := .bool y14) (vs := [v0, v1, .int .i64 x2, .int .i64 (wadd x3 (1 : Int)), .int .i64 x4]) Try_fit54 rfl (Or.inl rfl) rfl rfl rfl rfl (fun U w hU hW hL => rcm_c U w hU _ _ (hL 0 _ _ rfl Seen.imm) _ _ (hL 1 _ _ rfl Seen.imm) x2 (wadd x3 (1 : Int)) x4 _ e15) ?_
  refine RL.asg rfl rfl rfl ?_
  refine RL.finG ?_
  have hm := Option.some.inj hm
  subst hm
  exact GL.ret (Gx.ret (v := .bool y14) (res1 rfl rfl) (fun a w st => st.toPostV))
 replace hm := ite_f b11 hm
 refine GL.skip ?_
 refine GL.seq ?_
 refine GL.seq ?_
 refine GL.region ?_
 refine RL.mv rfl rfl rfl ?_
 refine RL.lenS 1 Try.underlying24 rfl rfl rfl rfl SlOf.imm ?_
 refine RL.mv rfl rfl rfl ?_
 refine RL.finG ?_
 refine GL.open_ 1 rfl (fun S h => len_imm S h) (fun n96 => ?_)
 obtain ⟨y97, K98, h99, h100, h101, h102, h103⟩ := bindR_K hm
 refine GL.join (ι := Unit) (fun (p : Unit) => []) (fun (p : Unit) => []) (fun (p : Unit) => K98 (.nx ())) ?_ ?_
 ·refine GL.block ?_
  refine GL.loop (ι := Nat × (List Int)) (fun (p : Nat × (List Int)) => [(0, v0), (1, v1), (2, .int .i64 x2), (3, .int .i64 x3), (4, .int .i64 x4), (29, .int .i64 ((x1).length : Int)), (30, .int .i64 (p.1 : Int))]) (fun (p : Nat × (List Int)) => [imm (TR.sl (TR.sl TR.int)) v0 x0, imm (TR.sl TR.int) v1 x1]) (fun (p : Nat × (List Int)) => p.1 + p.2.length = (x1).length ∧ List.drop p.1 x1 = p.2 ∧ rangeL (trade_better_b1 x2 x4 x0 x3 x1 rcm) p.2 p.1 () = some y97) (fun (p : Nat × (List Int)) => p.2.length) (0, x1) ⟨by simp, by simp, h99⟩ (fun a w st => St.cut [0, 1] ⟨rfl, rfl, rfl, rfl, rfl, rfl, rfl, trivial⟩ (by decide) rfl st) ?_
  rintro ⟨i104, r105⟩ ⟨h110, h111, h109⟩
  try dsimp only at h110 h111 h109
  refine GL.weak (env' := [(0, v0), (1, v1), (2, .int .i64 x2), (3, .int .i64 x3), (4, .int .i64 x4), (29, .int .i64 ((x1).length : Int)), (30, .int .i64 (i104 : Int))]) (L' := [imm (TR.sl (TR.sl TR.int)) v0 x0, imm (TR.sl TR.int) v1 x1]) (fun _ _ st => st) ?_
  refine GL.seq ?_
  refine GL.region ?_
  refine RL.binI (v := .bool (decide ((i104 : Int) < ((x1).length : Int)))) rfl rfl rfl rfl rfl ?_
  refine RL.finG ?_
  refine GL.seq ?_
  refine GL.cond rfl (fun b112 => ?_) (fun b112 => ?_)
  ·have h113 : i104 < (x1).length := by have := of_decide_eq_true b112; omega
   obtain ⟨y114, r116, hr, e115, h117⟩ := drop_cons h111 rfl h113
   subst hr
   obtain ⟨z106, h107, h108⟩ := rangeL_some h109
   unfold trade_better_b1 at h107
   try dsimp only at h107
   refine GL.skip ?_
   refine GL.seq ?_
   refine GL.block ?_
   refine GL.seq ?_
   refine GL.region ?_
   refine RL.mv rfl rfl rfl ?_
   refine RL.asg rfl rfl rfl ?_
   refine RL.finG ?_
   refine GL.seq ?_
   obtain ⟨y165, K166, h167, h168, h169, h170, h171⟩ := bindF_K h107
   refine GL.join (ι := Bool) (fun (p : Bool) => [(0, v0), (1, v1), (2, .int .i64 x2), (3, .int .i64 x3), (4, .int .i64 x4), (29, .int .i64 ((x1).length : Int)), (30, .int .i64 (i104 : Int)), (76, .bool p)]) (fun (p : Bool) => [imm (TR.sl (TR.sl TR.int)) v0 x0, imm (TR.sl TR.int) v1 x1]) (fun (p : Bool) => K166 (.nx p)) ?_ ?_
   ·skip
    refine GL.regionQ rfl rfl (by kernel_rfl) ?_
    refine RL.mv rfl rfl rfl ?_
    refine RL.mv rfl rfl rfl ?_
    obtain ⟨y172, e173, h167⟩ := bind_some h167
    replace e173 := chk_some e173
    refine RL.sh (by simp) rfl rfl rfl rfl e173 ?_
    refine RL.binI (v := .int .i64 (bits .and .i64 (Int.fdiv x2 (2 ^ (min (i104 : Int).toNat (IntKind.bits .i64)))) (1 : Int))) rfl rfl rfl rfl rfl ?_
    refine RL.binI (v := .bool ((bits .and .i64 (Int.fdiv x2 (2 ^ (min (i104 : Int).toNat (IntKind.bits .i64)))) (1 : Int)) == (1 : Int))) rfl rfl rfl rfl rfl ?_
    refine RL.mv rfl rfl rfl ?_
    refine RL.split (t := 38) rfl (fun b174 => ?_) (fun b174 => ?_)
    ·replace h167 := ite_t b174 h167
     refine RL.mv rfl rfl rfl ?_
     refine RL.mv rfl rfl rfl ?_
     obtain ⟨y175, e176, h167⟩ := bind_some h167
     replace e176 := chk_some e176
     refine RL.sh (by simp) rfl rfl rfl rfl e176 ?_
     refine RL.binI (v := .int .i64 (bits .and .i64 (Int.fdiv x4 (2 ^ (min (i104 : Int).toNat (IntKind.bits .i64)))) (1 : Int))) rfl rfl rfl rfl rfl ?_
     refine RL.binI (v := .bool ((bits .and .i64 (Int.fdiv x4 (2 ^ (min (i104 : Int).toNat (IntKind.bits .i64)))) (1 : Int)) == (0 : Int))) rfl rfl rfl rfl rfl ?_
     refine RL.pickT rfl rfl rfl rfl ?_
     refine RL.mv rfl rfl rfl ?_
     refine RL.split (t := 45) rfl (fun b177 => ?_) (fun b177 => ?_)
     ·replace h167 := ite_t b177 h167
      refine RL.mv rfl rfl rfl ?_
      refine RL.mv rfl rfl rfl ?_
      obtain ⟨y178, e179, h167⟩ := bind_some h167
      refine RL.idxS (sz := 1) 0 Try.underlying25 Try_ln24 rfl rfl rfl rfl rfl SlOf.imm (idx_some e179).1 (idx_some e179).2.1 ?_
      refine RL.ldS (i := (x3).toNat) (r := (TR.sl TR.int)) (e' := y178) 0 Try_ln24 rfl rfl rfl rfl SlOf.imm (idx_some e179).2.2 Part.self ?_
      intro v180
      refine RL.mv rfl rfl rfl ?_
      obtain ⟨y181, e182, h167⟩ := bind_some h167
      refine RL.idxS (sz := 1) 2 Try.underlying24 Try_ln3 rfl rfl rfl rfl rfl SlOf.imm (idx_some e182).1 (idx_some e182).2.1 ?_
      refine RL.ldSx (i := i104) (e' := y181) 2 Ex.ik Try_ln3 rfl rfl rfl rfl SlOf.imm (idx_some e182).2.2 Part.self ?_
      refine RL.mv rfl rfl rfl ?_
      refine RL.mv rfl rfl rfl ?_
      obtain ⟨y183, e184, h167⟩ := bind_some h167
      refine RL.idxS (sz := 1) 0 Try.underlying25 Try_ln24 rfl rfl rfl rfl rfl SlOf.imm (idx_some e184).1 (idx_some e184).2.1 ?_
      refine RL.ldS (i := (x3).toNat) (r := (TR.sl TR.int)) (e' := y183) 0 Try_ln24 rfl rfl rfl rfl SlOf.imm (idx_some e184).2.2 Part.self ?_
      intro v185
      refine RL.reL (L' := [imm (TR.sl (TR.sl TR.int)) v0 x0, imm (TR.sl TR.int) v1 x1, imm (TR.sl TR.int) v180 y178, imm (TR.sl TR.int) v185 y183]) rfl ?_
      refine RL.mv rfl rfl rfl ?_
      refine RL.mv rfl rfl rfl ?_
      obtain ⟨y186, e187, h167⟩ := bind_some h167
      refine RL.idxS (sz := 1) 1 Try.underlying24 Try_ln3 rfl rfl rfl rfl rfl SlOf.imm (idx_some e187).1 (idx_some e187).2.1 ?_
      refine RL.ldSx (i := (x3).toNat) (e' := y186) 1 Ex.ik Try_ln3 rfl rfl rfl rfl SlOf.imm (idx_some e187).2.2 Part.self ?_
      obtain ⟨y188, e189, h167⟩ := bind_some h167
      refine RL.idxS (sz := 1) 3 Try.underlying24 Try_ln3 rfl rfl rfl rfl rfl SlOf.imm (idx_some e189).1 (idx_some e189).2.1 ?_
      refine RL.ldSx (i := (y186).toNat) (e' := y188) 3 Ex.ik Try_ln3 rfl rfl rfl rfl SlOf.imm (idx_some e189).2.2 Part.self ?_
      refine RL.binI (v := .bool (decide (y181 < y188))) rfl rfl rfl rfl rfl ?_
      refine RL.pickT rfl rfl rfl rfl ?_
      refine RL.mv rfl rfl rfl ?_
      refine RL.split (t := 65) rfl (fun b190 => ?_) (fun b190 => ?_)
      ·replace h167 := ite_t b190 h167
       refine RL.mv rfl rfl rfl ?_
       refine RL.mv rfl rfl rfl ?_
       refine RL.mv rfl rfl rfl ?_
       refine RL.mv rfl rfl rfl ?_
       refine RL.binI (v := .int .i64 (wadd x3 (1 : Int))) rfl rfl rfl rfl rfl ?_
       refine RL.mv rfl rfl rfl ?_
       refine RL.mv rfl rfl rfl ?_
       obtain ⟨y191, e192, h167⟩ := bind_some h167
       replace e192 := chk_some e192
       refine RL.sh (by simp) rfl rfl rfl rfl e192 ?_
       refine RL.binI (v := .int .i64 (bits .or .i64 x4 (IntKind.wrap .i64 ((1 : Int) * 2 ^ (min (i104 : Int).toNat (IntKind.bits .i64)))))) rfl rfl rfl rfl rfl ?_
       obtain ⟨y193, e194, h167⟩ := bind_some h167
       refine RL.callV (v := .bool y193) (vs := [v0, v1, .int .i64 x2, .int .i64 (wadd x3 (1 : Int)), .int .i64 (bits .or .i64 x4 (IntKind.wrap .i64 ((1 : Int) * 2 ^ (min (i104 : Int).toNat (IntKind.bits .i64)))))]) Try_fit54 rfl (Or.inr ⟨_, rfl⟩) rfl rfl rfl rfl (fun U w hU hW hL => rcm_c U w hU _ _ (hL 0 _ _ rfl Seen.imm) _ _ (hL 1 _ _ rfl Seen.imm) x2 (wadd x3 (1 : Int)) (bits .or .i64 x4 (IntKind.wrap .i64 ((1 : Int) * 2 ^ (min (i104 : Int).toNat (IntKind.bits .i64))))) _ e194) ?_
       refine RL.pickT rfl rfl rfl rfl ?_
       refine RL.finQ ?_
       cases h167
       exact fun a w st => mid_intro y193 h168 (St.cut [0, 1] ⟨rfl, rfl, rfl, rfl, rfl, rfl, rfl, rfl, trivial⟩ (by decide) rfl st)
      replace h167 := ite_f b190 h167
      refine RL.skip rfl rfl ?_
      refine RL.skip rfl rfl ?_
      refine RL.skip rfl rfl ?_
      refine RL.skip rfl rfl ?_
      refine RL.skip rfl rfl ?_
      refine RL.skip rfl rfl ?_
      refine RL.skip rfl rfl ?_
      refine RL.skip rfl rfl ?_
      refine RL.skip rfl rfl ?_
      refine RL.skip rfl rfl ?_
      refine RL.pickF rfl rfl rfl rfl ?_
      refine RL.finQ ?_
      cases h167
      exact fun a w st => mid_intro false h168 (St.cut [0, 1] ⟨rfl, rfl, rfl, rfl, rfl, rfl, rfl, rfl, trivial⟩ (by decide) rfl st)
     replace h167 := ite_f b177 h167
     refine RL.skip rfl rfl ?_
     refine RL.skip rfl rfl ?_
     refine RL.skip rfl rfl ?_
     refine RL.skip rfl rfl ?_
     refine RL.skip rfl rfl ?_
     refine RL.skip rfl rfl ?_
     refine RL.skip rfl rfl ?_
     refine RL.skip rfl rfl ?_
     refine RL.skip rfl rfl ?_
     refine RL.skip rfl rfl ?_
     refine RL.skip rfl rfl ?_
     refine RL.skip rfl rfl ?_
     refine RL.skip rfl rfl ?_
     refine RL.skip rfl rfl ?_
     refine RL.skip rfl rfl ?_
     refine RL.skip rfl rfl ?_
     refine RL.skip rfl rfl ?_
     refine RL.skip rfl rfl ?_
     refine RL.pickF rfl rfl rfl rfl ?_
     refine RL.mv rfl rfl rfl ?_
     refine RL.skip rfl rfl ?_
     refine RL.skip rfl rfl ?_
     refine RL.skip rfl rfl ?_
     refine RL.skip rfl rfl ?_
     refine RL.skip rfl rfl ?_
     refine RL.skip rfl rfl ?_
     refine RL.skip rfl rfl ?_
     refine RL.skip rfl rfl ?_
     refine RL.skip rfl rfl ?_
     refine RL.skip rfl rfl ?_
     refine RL.pickF rfl rfl rfl rfl ?_
     refine RL.finQ ?_
     cases h167
     exact fun a w st => mid_intro false h168 (St.cut [0, 1] ⟨rfl, rfl, rfl, rfl, rfl, rfl, rfl, rfl, trivial⟩ (by decide) rfl st)
    replace h167 := ite_f b174 h167
    refine RL.skip rfl rfl ?_
    refine RL.skip rfl rfl ?_
    refine RL.skip rfl rfl ?_
    refine RL.skip rfl rfl ?_
    refine RL.skip rfl rfl ?_
    refine RL.pickF rfl rfl rfl rfl ?_
    refine RL.mv rfl rfl rfl ?_
    refine RL.skip rfl rfl ?_
    refine RL.skip rfl rfl ?_
    refine RL.skip rfl rfl ?_
    refine RL.skip rfl rfl ?_
    refine RL.skip rfl rfl ?_
    refine RL.skip rfl rfl ?_
    refine RL.skip rfl rfl ?_
    refine RL.skip rfl rfl ?_
    refine RL.skip rfl rfl ?_
    refine RL.skip rfl rfl ?_
    refine RL.skip rfl rfl ?_
    refine RL.skip rfl rfl ?_
    refine RL.skip rfl rfl ?_
    refine RL.skip rfl rfl ?_
    refine RL.skip rfl rfl ?_
    refine RL.skip rfl rfl ?_
    refine RL.skip rfl rfl ?_
    refine RL.skip rfl rfl ?_
    refine RL.pickF rfl rfl rfl rfl ?_
    refine RL.mv rfl rfl rfl ?_
    refine RL.skip rfl rfl ?_
    refine RL.skip rfl rfl ?_
    refine RL.skip rfl rfl ?_
    refine RL.skip rfl rfl ?_
    refine RL.skip rfl rfl ?_
    refine RL.skip rfl rfl ?_
    refine RL.skip rfl rfl ?_
    refine RL.skip rfl rfl ?_
    refine RL.skip rfl rfl ?_
    refine RL.skip rfl rfl ?_
    refine RL.pickF rfl rfl rfl rfl ?_
    refine RL.finQ ?_
    cases h167
    exact fun a w st => mid_intro false h168 (St.cut [0, 1] ⟨rfl, rfl, rfl, rfl, rfl, rfl, rfl, rfl, trivial⟩ (by decide) rfl st)
   rintro x164 h195
   have h196 := h169 _ h195
   try dsimp only at h196
   refine GL.weak (env' := [(0, v0), (1, v1), (2, .int .i64 x2), (3, .int .i64 x3), (4, .int .i64 x4), (29, .int .i64 ((x1).length : Int)), (30, .int .i64 (i104 : Int)), (76, .bool x164)]) (L' := [imm (TR.sl (TR.sl TR.int)) v0 x0, imm (TR.sl TR.int) v1 x1]) (fun _ _ st => st) ?_
   refine GL.cond rfl (fun b197 => ?_) (fun b197 => ?_)
   ·replace h196 := ite_t b197 h196
    refine GL.seq ?_
    refine GL.region ?_
    refine RL.asg rfl rfl rfl ?_
    refine RL.finG ?_
    cases h196
    replace h108 : some (Fl.rt _) = some y97 := h108
    cases h108
    have hh := h102 _ h100
    subst hh
    exact GL.ret (Gx.ret (v := .bool true) (res1 rfl rfl) (fun a w st => st.toPostV))
   replace h196 := ite_f b197 h196
   refine GL.skip ?_
   refine GL.nilB ?_
   refine GL.region ?_
   refine RL.binI (v := .int .i64 ((i104 + 1 : Nat) : Int)) rfl rfl rfl rfl (binI_succ i104 (by omega)) ?_
   refine RL.mv rfl rfl rfl ?_
   refine RL.fin ?_
   cases h196
   exact fun a w st => lop_intro (i104 + 1, r116) ⟨by show i104 + 1 + r116.length = (x1).length; simp only [List.length_cons] at h110; omega, h117, h108⟩ (by simp) (St.cut [0, 1] ⟨rfl, rfl, rfl, rfl, rfl, rfl, rfl, trivial⟩ (by decide) rfl st)
  have h113 : ¬ i104 < (x1).length := by have := of_decide_eq_false b112; omega
  obtain rfl : r105 = [] := by rw [← h111]; exact List.drop_of_length_le (by omega)
  replace h109 : some (Fl.nx _) = some y97 := h109
  cases h109
  exact GL.exit (fun a w st => mid_intro () h100 (St.cut [] trivial (by decide) rfl st))
 rintro ⟨⟩ h198
 have h199 := h101 _ h198
 try dsimp only at h199
 refine GL.weak (env' := []) (L' := []) (fun _ _ st => st) ?_
 refine GL.seq ?_
 refine GL.region ?_
 refine RL.asg rfl rfl rfl ?_
 refine RL.finG ?_
 have h199 := Option.some.inj h199
 subst h199
 exact GL.ret (Gx.ret (v := .bool false) (res1 rfl rfl) (fun a w st => st.toPostV))
theorem trade_better_cf : ∀ n, trade_better_C (trade_better_f n)
  | 0 => fun S w hS v0 x0 k0 v1 x1 k1 x2 x3 x4 res hm => by cases hm
  | n + 1 => trade_better_cr (trade_better_f n) (trade_better_cf n)
theorem trade_better_c (S : Hp) (w : World) (hS : S.sub w) (v0 : Value) (x0 : (List (List Int))) (k0 : ((TR.sl (TR.sl TR.int))).vrep S v0 x0) (v1 : Value) (x1 : (List Int)) (k1 : ((TR.sl TR.int)).vrep S v1 x1) (x2 : Int) (x3 : Int) (x4 : Int) (res : Bool) (hm : trade_better_m x0 x1 x2 x3 x4 = some res) : Calls Try.prog 54 #[v0, v1, .int .i64 x2, .int .i64 x3, .int .i64 x4] w (PostV w (.bool res)) := trade_better_cf 64 S w hS v0 x0 k0 v1 x1 k1 x2 x3 x4 res hm

set_option maxHeartbeats 4000000 in
theorem trade_Holds_c (S : Hp) (w : World) (hS : S.sub w) (v0 : Value) (x0 : (List (List Int))) (k0 : ((TR.sl (TR.sl TR.int))).vrep S v0 x0) (v1 : Value) (x1 : (List Int)) (k1 : ((TR.sl TR.int)).vrep S v1 x1) (res : Bool × Int) (hm : trade_Holds_m x0 x1 = some res) : Calls Try.prog 40 #[v0, v1] w (PostV w (.tuple #[.bool res.1, .int .i64 res.2])) := by
 refine calls_enter 65 Try.func40 Try.ntmps40 rfl S false [(0, v0), (1, v1)] [imm (TR.sl (TR.sl TR.int)) v0 x0, imm (TR.sl TR.int) v1 x1] rfl ⟨rfl, ⟨rfl, trivial⟩⟩ hS ⟨k0, ⟨k1, trivial⟩⟩ ?_
 unfold trade_Holds_m at hm
 refine GL.seq ?_
 refine GL.region ?_
 refine RL.asg rfl rfl rfl ?_
 refine RL.asg rfl rfl rfl ?_
 refine RL.finG ?_
 refine GL.seq ?_
 refine GL.seq ?_
 refine GL.region ?_
 refine RL.mv rfl rfl rfl ?_
 obtain ⟨y5, e6, hm⟩ := bind_some hm
 refine RL.callV (v := .int .i64 y5) (vs := [v0]) Try_fit50 rfl (Or.inl rfl) rfl rfl rfl rfl (fun U w hU hW hL => trade_Check_c U w hU _ _ (hL 0 _ _ rfl Seen.imm) _ e6) ?_
 refine RL.asg rfl rfl rfl ?_
 refine RL.finG ?_
 refine GL.seq ?_
 refine GL.region ?_
 refine RL.mv rfl rfl rfl ?_
 refine RL.binI (v := .bool (y5 != (0 : Int))) rfl rfl rfl rfl rfl ?_
 refine RL.finG ?_
 refine GL.cond rfl (fun b7 => ?_) (fun b7 => ?_)
 ·replace hm := ite_t b7 hm
  refine GL.seq ?_
  refine GL.region ?_
  refine RL.mv rfl rfl rfl ?_
  refine RL.asg rfl rfl rfl ?_
  refine RL.asg rfl rfl rfl ?_
  refine RL.finG ?_
  have hm := Option.some.inj hm
  subst hm
  exact GL.ret (Gx.ret (v := .tuple #[.bool false, .int .i64 y5]) (res2 rfl rfl rfl) (fun a w st => st.toPostV))
 replace hm := ite_f b7 hm
 refine GL.skip ?_
 refine GL.seq ?_
 refine GL.region ?_
 refine RL.mv rfl rfl rfl ?_
 refine RL.lenS 0 Try.underlying25 rfl rfl rfl rfl SlOf.imm ?_
 refine RL.asg rfl rfl rfl ?_
 refine RL.finG ?_
 refine GL.seq ?_
 refine GL.seq ?_
 refine GL.region ?_
 refine RL.mv rfl rfl rfl ?_
 refine RL.mv rfl rfl rfl ?_
 obtain ⟨y10, e11, hm⟩ := bind_some hm
 refine RL.callV (v := .int .i64 y10) (vs := [.int .i64 ((x0).length : Int), v1]) Try_fit41 rfl (Or.inl rfl) rfl rfl rfl rfl (fun U w hU hW hL => order_Check_c U w hU ((x0).length : Int) _ _ (hL 1 _ _ rfl Seen.imm) _ e11) ?_
 refine RL.binI (v := .bool (y10 != (0 : Int))) rfl rfl rfl rfl rfl ?_
 refine RL.finG ?_
 refine GL.cond rfl (fun b12 => ?_) (fun b12 => ?_)
 ·replace hm := ite_t b12 hm
  refine GL.seq ?_
  refine GL.region ?_
  refine RL.asg rfl rfl rfl ?_
  refine RL.asg rfl rfl rfl ?_
  refine RL.finG ?_
  have hm := Option.some.inj hm
  subst hm
  exact GL.ret (Gx.ret (v := .tuple #[.bool false, .int .i64 (3 : Int)]) (res2 rfl rfl rfl) (fun a w st => st.toPostV))
 replace hm := ite_f b12 hm
 refine GL.skip ?_
 refine GL.seq ?_
 refine GL.region ?_
 refine RL.mv rfl rfl rfl ?_
 obtain ⟨y16, e17, hm⟩ := bind_some hm
 replace e17 := chk_some e17
 refine RL.mkS (t := TR.raw) (z := .slice none 0 0) Try.underlying25 Try_lo24 (fun S => ⟨rfl, rfl⟩) rfl rfl rfl rfl e17.1 e17.2 ?_
 intro v18
 refine RL.weak (fun a w st => st.toRows 3 TR.int 2 rfl) ?_
 refine RL.reL (L' := [imm (TR.sl (TR.sl TR.int)) v0 x0, imm (TR.sl TR.int) v1 x1, own2 24 3 TR.int v18 (List.replicate (((x0).length : Int)).toNat (Value.slice none 0 0)) (List.replicate (((x0).length : Int)).toNat ([] : (List Int)))]) rfl ?_
 refine RL.asg rfl rfl rfl ?_
 refine RL.finG ?_
 refine GL.seq ?_
 refine GL.seq ?_
 refine GL.region ?_
 refine RL.mv rfl rfl rfl ?_
 refine RL.lenS 0 Try.underlying25 rfl rfl rfl rfl SlOf.imm ?_
 refine RL.mv rfl rfl rfl ?_
 refine RL.finG ?_
 refine GL.open_ 0 rfl (fun S h => len_imm S h) (fun n169 => ?_)
 obtain ⟨y170, K171, h172, h173, h174, h175, h176⟩ := bindR_K hm
 refine GL.join (ι := (List (List Int)) × (List Value)) (fun (p : (List (List Int)) × (List Value)) => [(1, v1), (7, .int .i64 ((x0).length : Int)), (8, v18)]) (fun (p : (List (List Int)) × (List Value)) => [imm (TR.sl TR.int) v1 x1, own2 24 3 TR.int v18 p.2 p.1]) (fun (p : (List (List Int)) × (List Value)) => K171 (.nx p.1)) ?_ ?_
 ·refine GL.block ?_
  refine GL.loop (ι := Nat × (List (List Int)) × (List (List Int)) × (List Value)) (fun (p : Nat × (List (List Int)) × (List (List Int)) × (List Value)) => [(1, v1), (7, .int .i64 ((x0).length : Int)), (8, v18), (27, v0), (28, .int .i64 ((x0).length : Int)), (29, .int .i64 (p.1 : Int))]) (fun (p : Nat × (List (List Int)) × (List (List Int)) × (List Value)) => [imm (TR.sl TR.int) v1 x1, own2 24 3 TR.int v18 p.2.2.2 p.2.2.1, imm (TR.sl (TR.sl TR.int)) v0 x0]) (fun (p : Nat × (List (List Int)) × (List (List Int)) × (List Value)) => p.1 + p.2.1.length = (x0).length ∧ List.drop p.1 x0 = p.2.1 ∧ rangeL (trade_Holds_b1 x0) p.2.1 p.1 p.2.2.1 = some y170) (fun (p : Nat × (List (List Int)) × (List (List Int)) × (List Value)) => p.2.1.length) (0, x0, (List.replicate (((x0).length : Int)).toNat ([] : (List Int))), (List.replicate (((x0).length : Int)).toNat (Value.slice none 0 0))) ⟨by simp, by simp, h172⟩ (fun a w st => St.cut [1, 2, 0] ⟨rfl, rfl, rfl, rfl, rfl, rfl, trivial⟩ (by decide) rfl st) ?_
  rintro ⟨i177, r178, l93, V94⟩ ⟨h183, h184, h182⟩
  try dsimp only at h183 h184 h182
  refine GL.weak (env' := [(1, v1), (7, .int .i64 ((x0).length : Int)), (8, v18), (27, v0), (28, .int .i64 ((x0).length : Int)), (29, .int .i64 (i177 : Int))]) (L' := [imm (TR.sl TR.int) v1 x1, own2 24 3 TR.int v18 V94 l93, imm (TR.sl (TR.sl TR.int)) v0 x0]) (fun _ _ st => st) ?_
  refine GL.seq ?_
  refine GL.region ?_
  refine RL.binI (v := .bool (decide ((i177 : Int) < ((x0).length : Int)))) rfl rfl rfl rfl rfl ?_
  refine RL.finG ?_
  refine GL.seq ?_
  refine GL.cond rfl (fun b185 => ?_) (fun b185 => ?_)
  ·have h186 : i177 < (x0).length := by have := of_decide_eq_true b185; omega
   obtain ⟨y187, r189, hr, e188, h190⟩ := drop_cons h184 rfl h186
   subst hr
   obtain ⟨z179, h180, h181⟩ := rangeL_some h182
   unfold trade_Holds_b1 at h180
   try dsimp only at h180
   refine GL.skip ?_
   refine GL.seq ?_
   refine GL.block ?_
   refine GL.seq ?_
   refine GL.region ?_
   refine RL.mv rfl rfl rfl ?_
   refine RL.idxS (sz := 1) 2 Try.underlying25 Try_ln24 rfl rfl rfl rfl rfl SlOf.imm (by omega) (by omega) ?_
   refine RL.ldS (i := i177) (r := (TR.sl TR.int)) (e' := y187) 2 Try_ln24 rfl rfl rfl rfl SlOf.imm e188 Part.self ?_
   intro v192
   refine RL.asg rfl rfl rfl ?_
   refine RL.asg rfl rfl rfl ?_
   refine RL.finG ?_
   refine GL.seq ?_
   refine GL.region ?_
   refine RL.mv rfl rfl rfl ?_
   refine RL.mv rfl rfl rfl ?_
   refine RL.mv rfl rfl rfl ?_
   obtain ⟨y198, e199, h180⟩ := bind_some h180
   replace e199 := chk_some e199
   refine RL.mkS (t := TR.int) (z := (0 : Int)) Try.underlying24 Try_lo3 (fun S => rfl) rfl rfl rfl rfl e199.1 e199.2 ?_
   intro v200
   refine RL.reL (L' := [imm (TR.sl TR.int) v1 x1, own2 24 3 TR.int v18 V94 l93, imm (TR.sl (TR.sl TR.int)) v0 x0, imm (TR.sl TR.int) v192 y187, own 3 TR.int v200 (List.replicate (((x0).length : Int)).toNat (0 : Int))]) rfl ?_
   obtain ⟨y201, e202, h180⟩ := bind_some h180
   refine RL.idxR 1 Try.underlying25 Try_ln24 rfl rfl rfl rfl rfl (idx_some e202).1 (idx_some e202).2.1 ?_
   refine RL.stSp (i := i177) (r0 := y201) 1 4 (by decide) Try_ln24 rfl rfl rfl rfl rfl rfl (idx_some e202).2.2 ?_
   refine RL.finG ?_
   refine GL.seq ?_
   refine GL.region ?_
   refine RL.mv rfl rfl rfl ?_
   refine RL.lenS 3 Try.underlying24 rfl rfl rfl rfl SlOf.imm ?_
   refine RL.mv rfl rfl rfl ?_
   refine RL.finG ?_
   refine GL.open_ 3 rfl (fun S h => len_imm S h) (fun n229 => ?_)
   obtain ⟨y230, K231, h232, h233, h234, h235, h236⟩ := bindF_K h180
   refine GL.join (ι := (List (List Int)) × (List Value)) (fun (p : (List (List Int)) × (List Value)) => [(1, v1), (7, .int .i64 ((x0).length : Int)), (8, v18), (27, v0), (28, .int .i64 ((x0).length : Int)), (29, .int .i64 (i177 : Int))]) (fun (p : (List (List Int)) × (List Value)) => [imm (TR.sl TR.int) v1 x1, own2 24 3 TR.int v18 p.2 p.1, imm (TR.sl (TR.sl TR.int)) v0 x0]) (fun (p : (List (List Int)) × (List Value)) => K231 (.nx p.1)) ?_ ?_
   ·refine GL.block ?_
    refine GL.loop (ι := Nat × (List Int) × (List (List Int)) × (List Value)) (fun (p : Nat × (List Int) × (List (List Int)) × (List Value)) => [(1, v1), (7, .int .i64 ((x0).length : Int)), (8, v18), (9, .int .i64 (i177 : Int)), (27, v0), (28, .int .i64 ((x0).length : Int)), (29, .int .i64 (i177 : Int)), (39, v192), (40, .int .i64 ((y187).length : Int)), (41, .int .i64 (p.1 : Int))]) (fun (p : Nat × (List Int) × (List (List Int)) × (List Value)) => [imm (TR.sl TR.int) v1 x1, own2 24 3 TR.int v18 p.2.2.2 p.2.2.1, imm (TR.sl (TR.sl TR.int)) v0 x0, imm (TR.sl TR.int) v192 y187]) (fun (p : Nat × (List Int) × (List (List Int)) × (List Value)) => p.1 + p.2.1.length = (y187).length ∧ List.drop p.1 y187 = p.2.1 ∧ rangeL (trade_Holds_b2 i177) p.2.1 p.1 p.2.2.1 = some y230) (fun (p : Nat × (List Int) × (List (List Int)) × (List Value)) => p.2.1.length) (0, y187, (List.set l93 i177 (List.replicate (((x0).length : Int)).toNat (0 : Int))), (List.set V94 i177 v200)) ⟨by simp, by simp, h232⟩ (fun a w st => St.cut [0, 1, 2, 3] ⟨rfl, rfl, rfl, rfl, rfl, rfl, rfl, rfl, rfl, rfl, trivial⟩ (by decide) rfl st) ?_
    rintro ⟨i237, r238, l215, V216⟩ ⟨h243, h244, h242⟩
    try dsimp only at h243 h244 h242
    refine GL.weak (env' := [(1, v1), (7, .int .i64 ((x0).length : Int)), (8, v18), (9, .int .i64 (i177 : Int)), (27, v0), (28, .int .i64 ((x0).length : Int)), (29, .int .i64 (i177 : Int)), (39, v192), (40, .int .i64 ((y187).length : Int)), (41, .int .i64 (i237 : Int))]) (L' := [imm (TR.sl TR.int) v1 x1, own2 24 3 TR.int v18 V216 l215, imm (TR.sl (TR.sl TR.int)) v0 x0, imm (TR.sl TR.int) v192 y187]) (fun _ _ st => st) ?_
    refine GL.seq ?_
    refine GL.region ?_
    refine RL.binI (v := .bool (decide ((i237 : Int) < ((y187).length : Int)))) rfl rfl rfl rfl rfl ?_
    refine RL.finG ?_
    refine GL.seq ?_
    refine GL.cond rfl (fun b245 => ?_) (fun b245 => ?_)
    ·have h246 : i237 < (y187).length := by have := of_decide_eq_true b245; omega
     obtain ⟨y247, r249, hr, e248, h250⟩ := drop_cons h244 rfl h246
     subst hr
     obtain ⟨z239, h240, h241⟩ := rangeL_some h242
     unfold trade_Holds_b2 at h240
     try dsimp only at h240
     refine GL.skip ?_
     refine GL.seq ?_
     refine GL.block ?_
     refine GL.seq ?_
     refine GL.region ?_
     refine RL.mv rfl rfl rfl ?_
     refine RL.idxS (sz := 1) 3 Try.underlying24 Try_ln3 rfl rfl rfl rfl rfl SlOf.imm (by omega) (by omega) ?_
     refine RL.ldSx (i := i237) (e' := y247) 3 Ex.ik Try_ln3 rfl rfl rfl rfl SlOf.imm e248 Part.self ?_
     refine RL.asg rfl rfl rfl ?_
     refine RL.asg rfl rfl rfl ?_
     refine RL.finG ?_
     refine GL.region ?_
     refine RL.mv rfl rfl rfl ?_
     refine RL.mv rfl rfl rfl ?_
     obtain ⟨y255, e256, h240⟩ := bind_some h240
     refine RL.idxR 1 Try.underlying25 Try_ln24 rfl rfl rfl rfl rfl (idx_some e256).1 (idx_some e256).2.1 ?_
     refine RL.ldR (i := i177) (r := y255) 1 Try_ln24 rfl rfl rfl rfl (idx_some e256).2.2 ?_
     refine RL.mv rfl rfl rfl ?_
     refine RL.mv rfl rfl rfl ?_
     obtain ⟨y257, e258, h240⟩ := bind_some h240
     refine RL.idxS (sz := 1) 1 Try.underlying24 Try_ln3 rfl rfl rfl rfl rfl (SlOf.row (idx_some e256).2.2) (idx_some e258).1 (idx_some e258).2.1 ?_
     refine RL.stR (i := i177) (j := (y247).toNat) (row := y255) (e' := (i237 : Int)) (e1 := (i237 : Int)) (r := TR.int) 1 Try_ln3 rfl rfl rfl rfl VR.int rfl (idx_some e256).2.2 (idx_some e258).2.2 Upd.self ?_
     refine RL.finG ?_
     refine GL.nilB ?_
     refine GL.region ?_
     refine RL.binI (v := .int .i64 ((i237 + 1 : Nat) : Int)) rfl rfl rfl rfl (binI_succ i237 (by omega)) ?_
     refine RL.mv rfl rfl rfl ?_
     refine RL.fin ?_
     cases h240
     exact fun a w st => lop_intro (i237 + 1, r249, (List.set l215 i177 (List.set y255 ((y247).toNat) (i237 : Int))), V216) ⟨by show i237 + 1 + r249.length = (y187).length; simp only [List.length_cons] at h243; omega, h250, h241⟩ (by simp) (St.cut [0, 1, 2, 3] ⟨rfl, rfl, rfl, rfl, rfl, rfl, rfl, rfl, rfl, rfl, trivial⟩ (by decide) rfl st)
    have h246 : ¬ i237 < (y187).length := by have := of_decide_eq_false b245; omega
    obtain rfl : r238 = [] := by rw [← h244]; exact List.drop_of_length_le (by omega)
    replace h242 : some (Fl.nx _) = some y230 := h242
    cases h242
    exact GL.exit (fun a w st => mid_intro (l215, V216) h233 (St.cut [0, 1, 2] ⟨rfl, rfl, rfl, rfl, rfl, rfl, trivial⟩ (by decide) rfl st))
   rintro ⟨l215, V216⟩ h259
   have h260 := h234 _ h259
   try dsimp only at h260
   refine GL.weak (env' := [(1, v1), (7, .int .i64 ((x0).length : Int)), (8, v18), (27, v0), (28, .int .i64 ((x0).length : Int)), (29, .int .i64 (i177 : Int))]) (L' := [imm (TR.sl TR.int) v1 x1, own2 24 3 TR.int v18 V216 l215, imm (TR.sl (TR.sl TR.int)) v0 x0]) (fun _ _ st => st) ?_
   refine GL.nilB ?_
   refine GL.region ?_
   refine RL.binI (v := .int .i64 ((i177 + 1 : Nat) : Int)) rfl rfl rfl rfl (binI_succ i177 (by omega)) ?_
   refine RL.mv rfl rfl rfl ?_
   refine RL.fin ?_
   cases h260
   exact fun a w st => lop_intro (i177 + 1, r189, l215, V216) ⟨by show i177 + 1 + r189.length = (x0).length; simp only [List.length_cons] at h183; omega, h190, h181⟩ (by simp) (St.cut [0, 1, 2] ⟨rfl, rfl, rfl, rfl, rfl, rfl, trivial⟩ (by decide) rfl st)
  have h186 : ¬ i177 < (x0).length := by have := of_decide_eq_false b185; omega
  obtain rfl : r178 = [] := by rw [← h184]; exact List.drop_of_length_le (by omega)
  replace h182 : some (Fl.nx _) = some y170 := h182
  cases h182
  exact GL.exit (fun a w st => mid_intro (l93, V94) h173 (St.cut [0, 1] ⟨rfl, rfl, rfl, trivial⟩ (by decide) rfl st))
 rintro ⟨l93, V94⟩ h261
 have h262 := h174 _ h261
 try dsimp only at h262
 refine GL.weak (env' := [(1, v1), (7, .int .i64 ((x0).length : Int)), (8, v18)]) (L' := [imm (TR.sl TR.int) v1 x1, own2 24 3 TR.int v18 V94 l93]) (fun _ _ st => st) ?_
 refine GL.seq ?_
 refine GL.seq ?_
 refine GL.region ?_
 refine RL.asg rfl rfl rfl ?_
 refine RL.finG ?_
 obtain ⟨y274, K275, h276, h277, h278, h279, h280⟩ := bindR_K h262
 refine GL.join (ι := Int) (fun (p : Int) => []) (fun (p : Int) => []) (fun (p : Int) => K275 (.nx p)) ?_ ?_
 ·refine GL.block ?_
  refine GL.loop (ι := Nat × Int) (fun (p : Nat × Int) => [(1, v1), (7, .int .i64 ((x0).length : Int)), (8, v18), (13, .int .i64 p.2)]) (fun (p : Nat × Int) => [imm (TR.sl TR.int) v1 x1, own2 24 3 TR.int v18 V94 l93]) (fun (p : Nat × Int) => loopM (trade_Holds_b3 x0 l93 x1) p.1 p.2 = some y274) (fun (p : Nat × Int) => p.1) (1048576, (1 : Int)) h276 (fun a w st => St.cut [0, 1] ⟨rfl, rfl, rfl, rfl, trivial⟩ (by decide) rfl st) ?_
  rintro ⟨r282, x263⟩ h286
  try dsimp only at h286
  refine GL.weak (env' := [(1, v1), (7, .int .i64 ((x0).length : Int)), (8, v18), (13, .int .i64 x263)]) (L' := [imm (TR.sl TR.int) v1 x1, own2 24 3 TR.int v18 V94 l93]) (fun _ _ st => st) ?_
  obtain ⟨r289, z283, hr, h284, h285⟩ := loopM_some h286
  subst hr
  unfold trade_Holds_b3 at h284
  try dsimp only at h284
  refine GL.seq ?_
  refine GL.seq ?_
  refine GL.region ?_
  refine RL.mv rfl rfl rfl ?_
  refine RL.mv rfl rfl rfl ?_
  obtain ⟨y292, e293, h284⟩ := bind_some h284
  replace e293 := chk_some e293
  refine RL.sh (by simp) rfl rfl rfl rfl e293 ?_
  refine RL.binI (v := .bool (decide (x263 < (IntKind.wrap .i64 ((1 : Int) * 2 ^ (min ((x0).length : Int).toNat (IntKind.bits .i64))))))) rfl rfl rfl rfl rfl ?_
  refine RL.finG ?_
  refine GL.cond rfl (fun b294 => ?_) (fun b294 => ?_)
  ·replace h284 := ite_t b294 h284
   refine GL.skip ?_
   refine GL.seq ?_
   refine GL.block ?_
   refine GL.seq ?_
   refine GL.region ?_
   refine RL.mv rfl rfl rfl ?_
   refine RL.mv rfl rfl rfl ?_
   refine RL.mv rfl rfl rfl ?_
   obtain ⟨y297, e298, h284⟩ := bind_some h284
   refine RL.callV (v := .bool y297) (vs := [v18, v1, .int .i64 x263, .int .i64 (0 : Int), .int .i64 (0 : Int)]) Try_fit54 rfl (Or.inl rfl) rfl rfl rfl rfl (fun U w hU hW hL => trade_better_c U w hU _ _ (hL 1 _ _ rfl Seen.own2) _ _ (hL 0 _ _ rfl Seen.imm) x263 (0 : Int) (0 : Int) _ e298) ?_
   refine RL.finG ?_
   refine GL.cond rfl (fun b299 => ?_) (fun b299 => ?_)
   ·replace h284 := ite_t b299 h284
    refine GL.seq ?_
    refine GL.region ?_
    refine RL.asg rfl rfl rfl ?_
    refine RL.asg rfl rfl rfl ?_
    refine RL.finG ?_
    cases h284
    replace h285 : some (Fl.rt _) = some y274 := h285
    cases h285
    have hh := h279 _ h277
    subst hh
    exact GL.ret (Gx.ret (v := .tuple #[.bool false, .int .i64 (0 : Int)]) (res2 rfl rfl rfl) (fun a w st => st.toPostV))
   replace h284 := ite_f b299 h284
   refine GL.skip ?_
   refine GL.nilB ?_
   refine GL.region ?_
   refine RL.mv rfl rfl rfl ?_
   refine RL.binI (v := .int .i64 (wadd x263 (1 : Int))) rfl rfl rfl rfl rfl ?_
   refine RL.asg rfl rfl rfl ?_
   refine RL.finG ?_
   cases h284
   exact fun a w st => lop_intro (r289, wadd x263 (1 : Int)) (by exact h285) (by simp) (St.cut [0, 1] ⟨rfl, rfl, rfl, rfl, trivial⟩ (by decide) rfl st)
  replace h284 := ite_f b294 h284
  cases h284
  replace h285 : some (Fl.nx _) = some y274 := h285
  cases h285
  exact GL.exit (fun a w st => mid_intro x263 h277 (St.cut [] trivial (by decide) rfl st))
 rintro x263 h300
 have h301 := h278 _ h300
 try dsimp only at h301
 refine GL.weak (env' := []) (L' := []) (fun _ _ st => st) ?_
 refine GL.seq ?_
 refine GL.region ?_
 refine RL.asg rfl rfl rfl ?_
 refine RL.asg rfl rfl rfl ?_
 refine RL.finG ?_
 have h301 := Option.some.inj h301
 subst h301
 exact GL.ret (Gx.ret (v := .tuple #[.bool true, .int .i64 (0 : Int)]) (res2 rfl rfl rfl) (fun a w st => st.toPostV))

set_option maxHeartbeats 4000000 in
theorem trade_Swap_1_c (S : Hp) (w : World) (hS : S.sub w) (x0 : Int) (v1 : Value) (x1 : (List (List Int))) (k1 : ((TR.ptr (TR.sl (TR.sl TR.int)))).vrep S v1 x1) (v2 : Value) (x2 : (List Int)) (k2 : ((TR.ptr (TR.sl TR.int))).vrep S v2 x2) (res : Int) (hm : trade_Swap_1_m x0 x1 x2 = some res) : Calls Try.prog 51 #[.int .i64 x0, v1, v2] w (PostC w (.int .i64 res)) := by
 refine calls_enter 24 Try.func51 Try.ntmps51 rfl S true [(0, .int .i64 x0), (1, v1), (2, v2)] [imm (TR.ptr (TR.sl (TR.sl TR.int))) v1 x1, imm (TR.ptr (TR.sl TR.int)) v2 x2] rfl ⟨rfl, ⟨rfl, ⟨rfl, trivial⟩⟩⟩ hS ⟨k1, ⟨k2, trivial⟩⟩ ?_
 unfold trade_Swap_1_m at hm
 refine GL.seq ?_
 refine GL.region ?_
 refine RL.asg rfl rfl rfl ?_
 refine RL.finG ?_
 refine GL.seq ?_
 refine GL.seq ?_
 refine GL.region ?_
 refine RL.ldP (off := 0) (r := (TR.sl (TR.sl TR.int))) (e' := x1) 0 Try_ln25 rfl rfl (Or.inr ⟨rfl, rfl⟩) rfl PtOf.imm Part.self ?_
 intro v8
 refine RL.mv rfl rfl rfl ?_
 obtain ⟨y9, e10, hm⟩ := bind_some hm
 refine RL.idxS (sz := 1) 2 Try.underlying25 Try_ln24 rfl rfl rfl rfl rfl SlOf.imm (idx_some e10).1 (idx_some e10).2.1 ?_
 refine RL.ldS (i := (x0).toNat) (r := (TR.sl TR.int)) (e' := y9) 2 Try_ln24 rfl rfl rfl rfl SlOf.imm (idx_some e10).2.2 Part.self ?_
 intro v11
 refine RL.reL (L' := [imm (TR.ptr (TR.sl (TR.sl TR.int))) v1 x1, imm (TR.ptr (TR.sl TR.int)) v2 x2, imm (TR.sl (TR.sl TR.int)) v8 x1, imm (TR.sl TR.int) v11 y9]) rfl ?_
 refine RL.lenS 3 Try.underlying24 rfl rfl rfl rfl SlOf.imm ?_
 refine RL.mv rfl rfl rfl ?_
 refine RL.finG ?_
 refine GL.open_ 3 rfl (fun S h => len_imm S h) (fun n23 => ?_)
 obtain ⟨y24, K25, h26, h27, h28, h29, h30⟩ := bindR_K hm
 refine GL.join (ι := Unit) (fun (p : Unit) => [(0, .int .i64 x0)]) (fun (p : Unit) => []) (fun (p : Unit) => K25 (.nx ())) ?_ ?_
 ·refine GL.block ?_
  refine GL.loop (ι := Nat × (List Int)) (fun (p : Nat × (List Int)) => [(0, .int .i64 x0), (2, v2), (10, v11), (11, .int .i64 ((y9).length : Int)), (12, .int .i64 (p.1 : Int))]) (fun (p : Nat × (List Int)) => [imm (TR.ptr (TR.sl TR.int)) v2 x2, imm (TR.sl TR.int) v11 y9]) (fun (p : Nat × (List Int)) => p.1 + p.2.length = (y9).length ∧ List.drop p.1 y9 = p.2 ∧ rangeL (trade_Swap_1_b1 x2) p.2 p.1 () = some y24) (fun (p : Nat × (List Int)) => p.2.length) (0, y9) ⟨by simp, by simp, h26⟩ (fun a w st => St.cut [1, 3] ⟨rfl, rfl, rfl, rfl, rfl, trivial⟩ (by decide) rfl st) ?_
  rintro ⟨i31, r32⟩ ⟨h37, h38, h36⟩
  try dsimp only at h37 h38 h36
  refine GL.weak (env' := [(0, .int .i64 x0), (2, v2), (10, v11), (11, .int .i64 ((y9).length : Int)), (12, .int .i64 (i31 : Int))]) (L' := [imm (TR.ptr (TR.sl TR.int)) v2 x2, imm (TR.sl TR.int) v11 y9]) (fun _ _ st => st) ?_
  refine GL.seq ?_
  refine GL.region ?_
  refine RL.binI (v := .bool (decide ((i31 : Int) < ((y9).length : Int)))) rfl rfl rfl rfl rfl ?_
  refine RL.finG ?_
  refine GL.seq ?_
  refine GL.cond rfl (fun b39 => ?_) (fun b39 => ?_)
  ·have h40 : i31 < (y9).length := by have := of_decide_eq_true b39; omega
   obtain ⟨y41, r43, hr, e42, h44⟩ := drop_cons h38 rfl h40
   subst hr
   obtain ⟨z33, h34, h35⟩ := rangeL_some h36
   unfold trade_Swap_1_b1 at h34
   try dsimp only at h34
   refine GL.skip ?_
   refine GL.seq ?_
   refine GL.block ?_
   refine GL.seq ?_
   refine GL.region ?_
   refine RL.idxS (sz := 1) 1 Try.underlying24 Try_ln3 rfl rfl rfl rfl rfl SlOf.imm (by omega) (by omega) ?_
   refine RL.ldSx (i := i31) (e' := y41) 1 Ex.ik Try_ln3 rfl rfl rfl rfl SlOf.imm e42 Part.self ?_
   refine RL.asg rfl rfl rfl ?_
   refine RL.finG ?_
   refine GL.seq ?_
   refine GL.region ?_
   refine RL.ldP (off := 0) (r := (TR.sl TR.int)) (e' := x2) 0 Try_ln24 rfl rfl (Or.inr ⟨rfl, rfl⟩) rfl PtOf.imm Part.self ?_
   intro v48
   refine RL.mv rfl rfl rfl ?_
   obtain ⟨y49, e50, h34⟩ := bind_some h34
   refine RL.idxS (sz := 1) 2 Try.underlying24 Try_ln3 rfl rfl rfl rfl rfl SlOf.imm (idx_some e50).1 (idx_some e50).2.1 ?_
   refine RL.ldSx (i := (y41).toNat) (e' := y49) 2 Ex.ik Try_ln3 rfl rfl rfl rfl SlOf.imm (idx_some e50).2.2 Part.self ?_
   refine RL.binI (v := .bool (y49 == (0 : Int))) rfl rfl rfl rfl rfl ?_
   refine RL.finG ?_
   refine GL.cond rfl (fun b51 => ?_) (fun b51 => ?_)
   ·replace h34 := ite_t b51 h34
    refine GL.seq ?_
    refine GL.region ?_
    refine RL.mv rfl rfl rfl ?_
    refine RL.asg rfl rfl rfl ?_
    refine RL.finG ?_
    cases h34
    replace h35 : some (Fl.rt _) = some y24 := h35
    cases h35
    have hh := h29 _ h27
    subst hh
    exact GL.ret (Gx.ret (v := .int .i64 y41) (res1 rfl rfl) (fun a w st => st.toPostC rfl))
   replace h34 := ite_f b51 h34
   refine GL.skip ?_
   refine GL.nilB ?_
   refine GL.region ?_
   refine RL.binI (v := .int .i64 ((i31 + 1 : Nat) : Int)) rfl rfl rfl rfl (binI_succ i31 (by omega)) ?_
   refine RL.mv rfl rfl rfl ?_
   refine RL.fin ?_
   cases h34
   exact fun a w st => lop_intro (i31 + 1, r43) ⟨by show i31 + 1 + r43.length = (y9).length; simp only [List.length_cons] at h37; omega, h44, h35⟩ (by simp) (St.cut [0, 1] ⟨rfl, rfl, rfl, rfl, rfl, trivial⟩ (by decide) rfl st)
  have h40 : ¬ i31 < (y9).length := by have := of_decide_eq_false b39; omega
  obtain rfl : r32 = [] := by rw [← h38]; exact List.drop_of_length_le (by omega)
  replace h36 : some (Fl.nx _) = some y24 := h36
  cases h36
  exact GL.exit (fun a w st => mid_intro () h27 (St.cut [] ⟨rfl, trivial⟩ (by decide) rfl st))
 rintro ⟨⟩ h52
 have h53 := h28 _ h52
 try dsimp only at h53
 refine GL.weak (env' := [(0, .int .i64 x0)]) (L' := []) (fun _ _ st => st) ?_
 refine GL.seq ?_
 refine GL.region ?_
 refine RL.mv rfl rfl rfl ?_
 refine RL.asg rfl rfl rfl ?_
 refine RL.finG ?_
 have h53 := Option.some.inj h53
 subst h53
 exact GL.ret (Gx.ret (v := .int .i64 x0) (res1 rfl rfl) (fun a w st => st.toPostC rfl))

set_option maxHeartbeats 4000000 in
theorem trade_Swap_c (S : Hp) (w : World) (hS : S.sub w) (v0 : Value) (x0 : (List (List Int))) (k0 : ((TR.sl (TR.sl TR.int))).vrep S v0 x0) (res : (List Int) × (List (List Int)) × Int) (hm : trade_Swap_m x0 = some res) : Calls Try.prog 30 #[v0] w (Post w S (fun (o : Value × Value) => .tuple #[o.1, o.2, .int .i64 res.2.2]) (fun (o : Value × Value) => [own 3 TR.int o.1 res.1, own 24 (TR.sl TR.int) o.2 res.2.1])) := by
 refine calls_enter 110 Try.func30 Try.ntmps30 rfl S false [(0, v0)] [imm (TR.sl (TR.sl TR.int)) v0 x0] rfl ⟨rfl, trivial⟩ hS ⟨k0, trivial⟩ ?_
 unfold trade_Swap_m at hm
 refine GL.seq ?_
 refine GL.region ?_
 refine RL.box (t := (TR.sl (TR.sl TR.int))) (e := x0) rfl rfl rfl rfl (VR.item 0 rfl) ?_
 intro v3
 refine RL.asg rfl rfl rfl ?_
 refine RL.asg rfl rfl rfl ?_
 refine RL.asg rfl rfl rfl ?_
 refine RL.finG ?_
 refine GL.seq ?_
 refine GL.seq ?_
 refine GL.region ?_
 refine RL.ldP (off := 0) (r := (TR.sl (TR.sl TR.int))) (e' := x0) 1 Try_ln25 rfl rfl (Or.inr ⟨rfl, rfl⟩) rfl PtOf.obox Part.self ?_
 intro v7
 refine RL.reL (L' := [imm (TR.sl (TR.sl TR.int)) v0 x0, obox 25 (TR.sl (TR.sl TR.int)) v3 x0, imm (TR.sl (TR.sl TR.int)) v7 x0]) rfl ?_
 obtain ⟨y8, e9, hm⟩ := bind_some hm
 refine RL.callV (v := .int .i64 y8) (vs := [v7]) Try_fit50 rfl (Or.inl rfl) rfl rfl rfl rfl (fun U w hU hW hL => trade_Check_c U w hU _ _ (hL 2 _ _ rfl Seen.imm) _ e9) ?_
 refine RL.asg rfl rfl rfl ?_
 refine RL.finG ?_
 refine GL.seq ?_
 refine GL.region ?_
 refine RL.mv rfl rfl rfl ?_
 refine RL.binI (v := .bool (y8 != (0 : Int))) rfl rfl rfl rfl rfl ?_
 refine RL.finG ?_
 refine GL.cond rfl (fun b10 => ?_) (fun b10 => ?_)
 ·replace hm := ite_t b10 hm
  refine GL.seq ?_
  refine GL.region ?_
  refine RL.mv rfl rfl rfl ?_
  refine RL.asg rfl rfl rfl ?_
  refine RL.asg rfl rfl rfl ?_
  refine RL.asg rfl rfl rfl ?_
  refine RL.finG ?_
  refine GL.weak (fun a w st => st.nilOwn 3 TR.int) ?_
  refine GL.weak (fun a w st => st.nilOwn 24 (TR.sl TR.int)) ?_
  have hm := Option.some.inj hm
  subst hm
  exact GL.ret (Gx.ret (v := .tuple #[Value.slice none 0 0, Value.slice none 0 0, .int .i64 y8]) (res3 rfl rfl rfl rfl) (fun a w st => (st.pick [3, 4] (by decide) rfl).toPost (Value.slice none 0 0, Value.slice none 0 0)))
 replace hm := ite_f b10 hm
 refine GL.skip ?_
 refine GL.seq ?_
 refine GL.region ?_
 refine RL.ldP (off := 0) (r := (TR.sl (TR.sl TR.int))) (e' := x0) 1 Try_ln25 rfl rfl (Or.inr ⟨rfl, rfl⟩) rfl PtOf.obox Part.self ?_
 intro v12
 refine RL.lenS 3 Try.underlying25 rfl rfl rfl rfl SlOf.imm ?_
 refine RL.asg rfl rfl rfl ?_
 refine RL.finG ?_
 refine GL.seq ?_
 refine GL.region ?_
 refine RL.mv rfl rfl rfl ?_
 obtain ⟨y16, e17, hm⟩ := bind_some hm
 replace e17 := chk_some e17
 refine RL.mkS (t := TR.int) (z := (0 : Int)) Try.underlying24 Try_lo3 (fun S => rfl) rfl rfl rfl rfl e17.1 e17.2 ?_
 intro v18
 refine RL.reL (L' := [imm (TR.sl (TR.sl TR.int)) v0 x0, obox 25 (TR.sl (TR.sl TR.int)) v3 x0, imm (TR.sl (TR.sl TR.int)) v7 x0, imm (TR.sl (TR.sl TR.int)) v12 x0, own 3 TR.int v18 (List.replicate (((x0).length : Int)).toNat (0 : Int))]) rfl ?_
 refine RL.asg rfl rfl rfl ?_
 refine RL.finG ?_
 refine GL.seq ?_
 refine GL.seq ?_
 refine GL.region ?_
 refine RL.mv rfl rfl rfl ?_
 refine RL.lenS 4 Try.underlying24 rfl rfl rfl rfl SlOf.own ?_
 refine RL.mv rfl rfl rfl ?_
 refine RL.finG ?_
 refine GL.lenOwn 4 rfl (fun n28 => ?_)
 obtain ⟨y29, K30, h31, h32, h33, h34, h35⟩ := bindR_K hm
 refine GL.join (ι := (List Int)) (fun (p : (List Int)) => [(1, v3), (6, .int .i64 ((x0).length : Int)), (7, v18)]) (fun (p : (List Int)) => [obox 25 (TR.sl (TR.sl TR.int)) v3 x0, own 3 TR.int v18 p]) (fun (p : (List Int)) => K30 (.nx p)) ?_ ?_
 ·refine GL.block ?_
  refine GL.loop (ι := Nat × Nat × (List Int)) (fun (p : Nat × Nat × (List Int)) => [(1, v3), (6, .int .i64 ((x0).length : Int)), (7, v18), (30, .int .i64 (((List.replicate (((x0).length : Int)).toNat (0 : Int))).length : Int)), (31, .int .i64 (p.1 : Int))]) (fun (p : Nat × Nat × (List Int)) => [obox 25 (TR.sl (TR.sl TR.int)) v3 x0, own 3 TR.int v18 p.2.2]) (fun (p : Nat × Nat × (List Int)) => p.1 + p.2.1 = ((List.replicate (((x0).length : Int)).toNat (0 : Int))).length ∧ rangeN trade_Swap_b1 p.2.1 p.1 p.2.2 = some y29) (fun (p : Nat × Nat × (List Int)) => p.2.1) (0, ((List.replicate (((x0).length : Int)).toNat (0 : Int))).length, (List.replicate (((x0).length : Int)).toNat (0 : Int))) ⟨by simp, h31⟩ (fun a w st => St.cut [1, 4] ⟨rfl, rfl, rfl, rfl, rfl, trivial⟩ (by decide) rfl st) ?_
  rintro ⟨i36, r37, l23⟩ ⟨h42, h41⟩
  try dsimp only at h42 h41
  refine GL.weak (env' := [(1, v3), (6, .int .i64 ((x0).length : Int)), (7, v18), (30, .int .i64 (((List.replicate (((x0).length : Int)).toNat (0 : Int))).length : Int)), (31, .int .i64 (i36 : Int))]) (L' := [obox 25 (TR.sl (TR.sl TR.int)) v3 x0, own 3 TR.int v18 l23]) (fun _ _ st => st) ?_
  refine GL.seq ?_
  refine GL.region ?_
  refine RL.binI (v := .bool (decide ((i36 : Int) < (((List.replicate (((x0).length : Int)).toNat (0 : Int))).length : Int)))) rfl rfl rfl rfl rfl ?_
  refine RL.finG ?_
  refine GL.seq ?_
  refine GL.cond rfl (fun b44 => ?_) (fun b44 => ?_)
  ·have h45 : i36 < ((List.replicate (((x0).length : Int)).toNat (0 : Int))).length := by have := of_decide_eq_true b44; omega
   obtain ⟨r46, hr⟩ : ∃ m, r37 = m + 1 := ⟨r37 - 1, by omega⟩
   subst hr
   obtain ⟨z38, h39, h40⟩ := rangeN_some h41
   unfold trade_Swap_b1 at h39
   try dsimp only at h39
   refine GL.skip ?_
   refine GL.seq ?_
   refine GL.block ?_
   refine GL.seq ?_
   refine GL.region ?_
   refine RL.mv rfl rfl rfl ?_
   refine RL.asg rfl rfl rfl ?_
   refine RL.finG ?_
   refine GL.region ?_
   refine RL.mv rfl rfl rfl ?_
   refine RL.mv rfl rfl rfl ?_
   obtain ⟨y49, e50, h39⟩ := bind_some h39
   refine RL.idxS (sz := 1) 1 Try.underlying24 Try_ln3 rfl rfl rfl rfl rfl SlOf.own (idx_some e50).1 (idx_some e50).2.1 ?_
   refine RL.stS (i := i36) (e' := (-1 : Int)) (e1 := (-1 : Int)) (r := TR.int) 1 Try_ln3 rfl rfl rfl rfl VR.int rfl (idx_some e50).2.2 Upd.self ?_
   refine RL.finG ?_
   refine GL.nilB ?_
   refine GL.region ?_
   refine RL.binI (v := .int .i64 ((i36 + 1 : Nat) : Int)) rfl rfl rfl rfl (binI_succ i36 (by omega)) ?_
   refine RL.mv rfl rfl rfl ?_
   refine RL.fin ?_
   cases h39
   exact fun a w st => lop_intro (i36 + 1, r46, (List.set l23 i36 (-1 : Int))) ⟨by show i36 + 1 + r46 = ((List.replicate (((x0).length : Int)).toNat (0 : Int))).length; omega, h40⟩ (by simp) (St.cut [0, 1] ⟨rfl, rfl, rfl, rfl, rfl, trivial⟩ (by decide) rfl st)
  have h45 : ¬ i36 < ((List.replicate (((x0).length : Int)).toNat (0 : Int))).length := by have := of_decide_eq_false b44; omega
  obtain rfl : r37 = 0 := by omega
  replace h41 : some (Fl.nx _) = some y29 := h41
  cases h41
  exact GL.exit (fun a w st => mid_intro l23 h32 (St.cut [0, 1] ⟨rfl, rfl, rfl, trivial⟩ (by decide) rfl st))
 rintro l23 h51
 have h52 := h33 _ h51
 try dsimp only at h52
 refine GL.weak (env' := [(1, v3), (6, .int .i64 ((x0).length : Int)), (7, v18)]) (L' := [obox 25 (TR.sl (TR.sl TR.int)) v3 x0, own 3 TR.int v18 l23]) (fun _ _ st => st) ?_
 refine GL.seq ?_
 refine GL.region ?_
 refine RL.mv rfl rfl rfl ?_
 obtain ⟨y57, e58, h52⟩ := bind_some h52
 replace e58 := chk_some e58
 refine RL.mkS (t := TR.int) (z := (0 : Int)) Try.underlying24 Try_lo3 (fun S => rfl) rfl rfl rfl rfl e58.1 e58.2 ?_
 intro v59
 refine RL.alloc (t := TR.raw) (z := .slice none 0 0) Try_lo24 (fun S => ⟨rfl, rfl⟩) rfl rfl rfl ?_
 intro v60
 refine RL.reL (L' := [obox 25 (TR.sl (TR.sl TR.int)) v3 x0, own 3 TR.int v18 l23, own 3 TR.int v59 (List.replicate (((x0).length : Int)).toNat (0 : Int)), obox 24 TR.raw v60 (Value.slice none 0 0)]) rfl ?_
 refine RL.stP (off := 0) (e' := v59) (d1 := v59) (r := TR.raw) 3 Try_ln24 rfl rfl (Or.inr ⟨rfl, rfl⟩) rfl (VR.rawOf 2 rfl SlOf.own) rfl Upd.self ?_
 refine RL.finG ?_
 refine GL.seq ?_
 refine GL.region ?_
 refine RL.mkF (vs := [v3, v60]) rfl rfl rfl ?_
 refine RL.asg rfl rfl rfl ?_
 refine RL.finG ?_
 refine GL.seq ?_
 refine GL.region ?_
 refine RL.asg rfl rfl rfl ?_
 refine RL.finG ?_
 refine GL.seq ?_
 refine GL.seq ?_
 refine GL.region ?_
 refine RL.mv rfl rfl rfl ?_
 refine RL.asg rfl rfl rfl ?_
 refine RL.finG ?_
 refine GL.weak (fun a w st => st.nilOwn 24 (TR.sl TR.int)) ?_
 obtain ⟨y577, K578, h579, h580, h581, h582, h583⟩ := bindR_K h52
 refine GL.join (ι := (List Int) × (List Int) × (List (List Int)) × Int × Value) (fun (p : (List Int) × (List Int) × (List (List Int)) × Int × Value) => [(7, v18), (11, p.2.2.2.2)]) (fun (p : (List Int) × (List Int) × (List (List Int)) × Int × Value) => [own 3 TR.int v18 p.1, own 24 (TR.sl TR.int) p.2.2.2.2 p.2.2.1]) (fun (p : (List Int) × (List Int) × (List (List Int)) × Int × Value) => K578 (.nx (p.1, p.2.1, p.2.2.1, p.2.2.2.1))) ?_ ?_
 ·refine GL.block ?_
  refine GL.loop (ι := Nat × (List Int) × (List Int) × (List (List Int)) × Int × Value) (fun (p : Nat × (List Int) × (List Int) × (List (List Int)) × Int × Value) => [(6, .int .i64 ((x0).length : Int)), (7, v18), (9, v60), (10, .func (.func 51) #[] #[v3, v60]), (11, p.2.2.2.2.2), (12, .int .i64 p.2.2.2.2.1)]) (fun (p : Nat × (List Int) × (List Int) × (List (List Int)) × Int × Value) => [own 3 TR.int v18 p.2.1, own 3 TR.int v59 p.2.2.1, obox 24 TR.raw v60 v59, obox 25 (TR.sl (TR.sl TR.int)) v3 x0, own 24 (TR.sl TR.int) p.2.2.2.2.2 p.2.2.2.1]) (fun (p : Nat × (List Int) × (List Int) × (List (List Int)) × Int × Value) => loopM (trade_Swap_b2 x0) p.1 (p.2.1, p.2.2.1, p.2.2.2.1, p.2.2.2.2.1) = some y577) (fun (p : Nat × (List Int) × (List Int) × (List (List Int)) × Int × Value) => p.1) (1048576, l23, (List.replicate (((x0).length : Int)).toNat (0 : Int)), [], ((x0).length : Int), Value.slice none 0 0) h579 (fun a w st => St.cut [1, 2, 3, 0, 4] ⟨rfl, rfl, rfl, rfl, rfl, rfl, trivial⟩ (by decide) rfl st) ?_
  rintro ⟨r585, l318, l319, l320, x322, v321⟩ h589
  try dsimp only at h589
  refine GL.weak (env' := [(6, .int .i64 ((x0).length : Int)), (7, v18), (9, v60), (10, .func (.func 51) #[] #[v3, v60]), (11, v321), (12, .int .i64 x322)]) (L' := [own 3 TR.int v18 l318, own 3 TR.int v59 l319, obox 24 TR.raw v60 v59, obox 25 (TR.sl (TR.sl TR.int)) v3 x0, own 24 (TR.sl TR.int) v321 l320]) (fun _ _ st => st) ?_
  obtain ⟨r592, z586, hr, h587, h588⟩ := loopM_some h589
  subst hr
  unfold trade_Swap_b2 at h587
  try dsimp only at h587
  refine GL.seq ?_
  refine GL.seq ?_
  refine GL.region ?_
  refine RL.mv rfl rfl rfl ?_
  refine RL.binI (v := .bool (decide (x322 > (0 : Int)))) rfl rfl rfl rfl rfl ?_
  refine RL.finG ?_
  refine GL.cond rfl (fun b593 => ?_) (fun b593 => ?_)
  ·replace h587 := ite_t b593 h587
   refine GL.skip ?_
   refine GL.block ?_
   refine GL.seq ?_
   refine GL.region ?_
   refine RL.asg rfl rfl rfl ?_
   refine RL.finG ?_
   refine GL.seq ?_
   refine GL.seq ?_
   refine GL.region ?_
   refine RL.mv rfl rfl rfl ?_
   refine RL.mv rfl rfl rfl ?_
   refine RL.finG ?_
   refine GL.weak (fun a w st => st.nilOwn 3 TR.int) ?_
   obtain ⟨y649, e650, h587⟩ := bind_some h587
   replace e650 := chk_some e650
   obtain ⟨y651, K652, h653, h654, h655, h656, h657⟩ := bindF_K h587
   refine GL.join (ι := (List Int) × Value) (fun (p : (List Int) × Value) => [(6, .int .i64 ((x0).length : Int)), (7, v18), (9, v60), (10, .func (.func 51) #[] #[v3, v60]), (11, v321), (12, .int .i64 x322), (13, p.2)]) (fun (p : (List Int) × Value) => [own 3 TR.int v18 l318, obox 24 TR.raw v60 v59, own 3 TR.int v59 l319, obox 25 (TR.sl (TR.sl TR.int)) v3 x0, own 24 (TR.sl TR.int) v321 l320, own 3 TR.int p.2 p.1]) (fun (p : (List Int) × Value) => K652 (.nx p.1)) ?_ ?_
   ·refine GL.block ?_
    refine GL.loop (ι := Nat × Nat × (List Int) × Value) (fun (p : Nat × Nat × (List Int) × Value) => [(6, .int .i64 ((x0).length : Int)), (7, v18), (9, v60), (10, .func (.func 51) #[] #[v3, v60]), (11, v321), (12, .int .i64 x322), (13, p.2.2.2), (44, .int .i64 ((x0).length : Int)), (45, .int .i64 (p.1 : Int))]) (fun (p : Nat × Nat × (List Int) × Value) => [own 3 TR.int v18 l318, own 3 TR.int v59 l319, obox 24 TR.raw v60 v59, obox 25 (TR.sl (TR.sl TR.int)) v3 x0, own 24 (TR.sl TR.int) v321 l320, own 3 TR.int p.2.2.2 p.2.2.1]) (fun (p : Nat × Nat × (List Int) × Value) => p.1 + p.2.1 = (((x0).length : Int)).toNat ∧ rangeN (trade_Swap_b3 l318 x0 l319) p.2.1 p.1 p.2.2.1 = some y651) (fun (p : Nat × Nat × (List Int) × Value) => p.2.1) (0, (((x0).length : Int)).toNat, [], Value.slice none 0 0) ⟨by simp, h653⟩ (fun a w st => St.cut [0, 1, 2, 3, 4, 5] ⟨rfl, rfl, rfl, rfl, rfl, rfl, rfl, rfl, rfl, trivial⟩ (by decide) rfl st) ?_
    rintro ⟨i658, r659, l594, v595⟩ ⟨h664, h663⟩
    try dsimp only at h664 h663
    refine GL.weak (env' := [(6, .int .i64 ((x0).length : Int)), (7, v18), (9, v60), (10, .func (.func 51) #[] #[v3, v60]), (11, v321), (12, .int .i64 x322), (13, v595), (44, .int .i64 ((x0).length : Int)), (45, .int .i64 (i658 : Int))]) (L' := [own 3 TR.int v18 l318, own 3 TR.int v59 l319, obox 24 TR.raw v60 v59, obox 25 (TR.sl (TR.sl TR.int)) v3 x0, own 24 (TR.sl TR.int) v321 l320, own 3 TR.int v595 l594]) (fun _ _ st => st) ?_
    refine GL.seq ?_
    refine GL.region ?_
    refine RL.binI (v := .bool (decide ((i658 : Int) < ((x0).length : Int)))) rfl rfl rfl rfl rfl ?_
    refine RL.finG ?_
    refine GL.seq ?_
    refine GL.cond rfl (fun b666 => ?_) (fun b666 => ?_)
    ·have h667 : i658 < (((x0).length : Int)).toNat := by have := of_decide_eq_true b666; omega
     obtain ⟨r668, hr⟩ : ∃ m, r659 = m + 1 := ⟨r659 - 1, by omega⟩
     subst hr
     obtain ⟨z660, h661, h662⟩ := rangeN_some h663
     unfold trade_Swap_b3 at h661
     try dsimp only at h661
     refine GL.skip ?_
     refine GL.seq ?_
     refine GL.block ?_
     refine GL.seq ?_
     refine GL.region ?_
     refine RL.mv rfl rfl rfl ?_
     refine RL.asg rfl rfl rfl ?_
     refine RL.finG ?_
     refine GL.seq ?_
     refine GL.seq ?_
     refine GL.region ?_
     refine RL.mv rfl rfl rfl ?_
     refine RL.mv rfl rfl rfl ?_
     obtain ⟨y671, e672, h661⟩ := bind_some h661
     refine RL.idxS (sz := 1) 0 Try.underlying24 Try_ln3 rfl rfl rfl rfl rfl SlOf.own (idx_some e672).1 (idx_some e672).2.1 ?_
     refine RL.ldSx (i := i658) (e' := y671) 0 Ex.ik Try_ln3 rfl rfl rfl rfl SlOf.own (idx_some e672).2.2 Part.self ?_
     refine RL.binI (v := .bool (decide (y671 ≥ (0 : Int)))) rfl rfl rfl rfl rfl ?_
     refine RL.finG ?_
     refine GL.cond rfl (fun b673 => ?_) (fun b673 => ?_)
     ·replace h661 := ite_t b673 h661
      refine GL.exit ?_
      refine Gx.here ?_
      refine GL.region ?_
      refine RL.binI (v := .int .i64 ((i658 + 1 : Nat) : Int)) rfl rfl rfl rfl (binI_succ i658 (by omega)) ?_
      refine RL.mv rfl rfl rfl ?_
      refine RL.fin ?_
      cases h661
      exact fun a w st => lop_intro (i658 + 1, r668, l594, v595) ⟨by show i658 + 1 + r668 = (((x0).length : Int)).toNat; omega, h662⟩ (by simp) (St.cut [0, 1, 2, 3, 4, 5] ⟨rfl, rfl, rfl, rfl, rfl, rfl, rfl, rfl, rfl, trivial⟩ (by decide) rfl st)
     replace h661 := ite_f b673 h661
     refine GL.skip ?_
     refine GL.seq ?_
     refine GL.region ?_
     refine RL.mv rfl rfl rfl ?_
     refine RL.mv rfl rfl rfl ?_
     obtain ⟨y676, e677, h661⟩ := bind_some h661
     refine RL.callC (v := .int .i64 y676) (vs := [.int .i64 (i658 : Int)]) Try_fit51 rfl rfl rfl rfl (fun U w hU hW hL => trade_Swap_1_c U w hU (i658 : Int) _ _ (hL 3 _ _ rfl Seen.obox) _ _ (ptr_raw (hL 2 _ _ rfl Seen.obox) rfl (hL 1 _ _ rfl Seen.own)) _ e677) ?_
     refine RL.asg rfl rfl rfl ?_
     refine RL.finG ?_
     refine GL.seq ?_
     refine GL.seq ?_
     refine GL.region ?_
     refine RL.mv rfl rfl rfl ?_
     refine RL.mv rfl rfl rfl ?_
     refine RL.finG ?_
     obtain ⟨y685, e686, h661⟩ := bind_some h661
     replace e686 := chk_some e686
     obtain ⟨y687, K688, h689, h690, h691, h692, h693⟩ := bindF_K h661
     refine GL.join (ι := Int) (fun (p : Int) => [(6, .int .i64 ((x0).length : Int)), (7, v18), (9, v60), (10, .func (.func 51) #[] #[v3, v60]), (11, v321), (12, .int .i64 x322), (13, v595), (14, .int .i64 (i658 : Int)), (15, .int .i64 p), (44, .int .i64 ((x0).length : Int)), (45, .int .i64 (i658 : Int))]) (fun (p : Int) => [own 3 TR.int v18 l318, obox 24 TR.raw v60 v59, own 3 TR.int v59 l319, obox 25 (TR.sl (TR.sl TR.int)) v3 x0, own 24 (TR.sl TR.int) v321 l320, own 3 TR.int v595 l594]) (fun (p : Int) => K688 (.nx p)) ?_ ?_
     ·refine GL.block ?_
      refine GL.loop (ι := Nat × Nat × Int) (fun (p : Nat × Nat × Int) => [(6, .int .i64 ((x0).length : Int)), (7, v18), (9, v60), (10, .func (.func 51) #[] #[v3, v60]), (11, v321), (12, .int .i64 x322), (13, v595), (14, .int .i64 (i658 : Int)), (15, .int .i64 p.2.2), (44, .int .i64 ((x0).length : Int)), (45, .int .i64 (i658 : Int)), (56, .int .i64 ((x0).length : Int)), (57, .int .i64 (p.1 : Int))]) (fun (p : Nat × Nat × Int) => [own 3 TR.int v18 l318, own 3 TR.int v59 l319, obox 24 TR.raw v60 v59, obox 25 (TR.sl (TR.sl TR.int)) v3 x0, own 24 (TR.sl TR.int) v321 l320, own 3 TR.int v595 l594]) (fun (p : Nat × Nat × Int) => p.1 + p.2.1 = (((x0).length : Int)).toNat ∧ rangeN (trade_Swap_b4 i658 x0 l319) p.2.1 p.1 p.2.2 = some y687) (fun (p : Nat × Nat × Int) => p.2.1) (0, (((x0).length : Int)).toNat, y676) ⟨by simp, h689⟩ (fun a w st => St.cut [0, 1, 2, 3, 4, 5] ⟨rfl, rfl, rfl, rfl, rfl, rfl, rfl, rfl, rfl, rfl, rfl, rfl, rfl, trivial⟩ (by decide) rfl st) ?_
      rintro ⟨i694, r695, x678⟩ ⟨h700, h699⟩
      try dsimp only at h700 h699
      refine GL.weak (env' := [(6, .int .i64 ((x0).length : Int)), (7, v18), (9, v60), (10, .func (.func 51) #[] #[v3, v60]), (11, v321), (12, .int .i64 x322), (13, v595), (14, .int .i64 (i658 : Int)), (15, .int .i64 x678), (44, .int .i64 ((x0).length : Int)), (45, .int .i64 (i658 : Int)), (56, .int .i64 ((x0).length : Int)), (57, .int .i64 (i694 : Int))]) (L' := [own 3 TR.int v18 l318, own 3 TR.int v59 l319, obox 24 TR.raw v60 v59, obox 25 (TR.sl (TR.sl TR.int)) v3 x0, own 24 (TR.sl TR.int) v321 l320, own 3 TR.int v595 l594]) (fun _ _ st => st) ?_
      refine GL.seq ?_
      refine GL.region ?_
      refine RL.binI (v := .bool (decide ((i694 : Int) < ((x0).length : Int)))) rfl rfl rfl rfl rfl ?_
      refine RL.finG ?_
      refine GL.seq ?_
      refine GL.cond rfl (fun b702 => ?_) (fun b702 => ?_)
      ·have h703 : i694 < (((x0).length : Int)).toNat := by have := of_decide_eq_true b702; omega
       obtain ⟨r704, hr⟩ : ∃ m, r695 = m + 1 := ⟨r695 - 1, by omega⟩
       subst hr
       obtain ⟨z696, h697, h698⟩ := rangeN_some h699
       unfold trade_Swap_b4 at h697
       try dsimp only at h697
       refine GL.skip ?_
       refine GL.seq ?_
       refine GL.block ?_
       refine GL.seq ?_
       refine GL.region ?_
       refine RL.mv rfl rfl rfl ?_
       refine RL.mv rfl rfl rfl ?_
       refine RL.binI (v := .bool (x678 != (i658 : Int))) rfl rfl rfl rfl rfl ?_
       refine RL.finG ?_
       refine GL.cond rfl (fun b705 => ?_) (fun b705 => ?_)
       ·replace h697 := ite_t b705 h697
        refine GL.region ?_
        refine RL.mv rfl rfl rfl ?_
        refine RL.mv rfl rfl rfl ?_
        obtain ⟨y708, e709, h697⟩ := bind_some h697
        refine RL.callC (v := .int .i64 y708) (vs := [.int .i64 x678]) Try_fit51 rfl rfl rfl rfl (fun U w hU hW hL => trade_Swap_1_c U w hU x678 _ _ (hL 3 _ _ rfl Seen.obox) _ _ (ptr_raw (hL 2 _ _ rfl Seen.obox) rfl (hL 1 _ _ rfl Seen.own)) _ e709) ?_
        refine RL.asg rfl rfl rfl ?_
        refine RL.finG ?_
        refine GL.nilB ?_
        refine GL.region ?_
        refine RL.binI (v := .int .i64 ((i694 + 1 : Nat) : Int)) rfl rfl rfl rfl (binI_succ i694 (by omega)) ?_
        refine RL.mv rfl rfl rfl ?_
        refine RL.fin ?_
        cases h697
        exact fun a w st => lop_intro (i694 + 1, r704, y708) ⟨by show i694 + 1 + r704 = (((x0).length : Int)).toNat; omega, h698⟩ (by simp) (St.cut [0, 1, 2, 3, 4, 5] ⟨rfl, rfl, rfl, rfl, rfl, rfl, rfl, rfl, rfl, rfl, rfl, rfl, rfl, trivial⟩ (by decide) rfl st)
       replace h697 := ite_f b705 h697
       refine GL.skip ?_
       refine GL.nilB ?_
       refine GL.region ?_
       refine RL.binI (v := .int .i64 ((i694 + 1 : Nat) : Int)) rfl rfl rfl rfl (binI_succ i694 (by omega)) ?_
       refine RL.mv rfl rfl rfl ?_
       refine RL.fin ?_
       cases h697
       exact fun a w st => lop_intro (i694 + 1, r704, x678) ⟨by show i694 + 1 + r704 = (((x0).length : Int)).toNat; omega, h698⟩ (by simp) (St.cut [0, 1, 2, 3, 4, 5] ⟨rfl, rfl, rfl, rfl, rfl, rfl, rfl, rfl, rfl, rfl, rfl, rfl, rfl, trivial⟩ (by decide) rfl st)
      have h703 : ¬ i694 < (((x0).length : Int)).toNat := by have := of_decide_eq_false b702; omega
      obtain rfl : r695 = 0 := by omega
      replace h699 : some (Fl.nx _) = some y687 := h699
      cases h699
      exact GL.exit (fun a w st => mid_intro x678 h690 (St.cut [0, 2, 1, 3, 4, 5] ⟨rfl, rfl, rfl, rfl, rfl, rfl, rfl, rfl, rfl, rfl, rfl, trivial⟩ (by decide) rfl st))
     rintro x678 h710
     have h711 := h691 _ h710
     try dsimp only at h711
     refine GL.weak (env' := [(6, .int .i64 ((x0).length : Int)), (7, v18), (9, v60), (10, .func (.func 51) #[] #[v3, v60]), (11, v321), (12, .int .i64 x322), (13, v595), (14, .int .i64 (i658 : Int)), (15, .int .i64 x678), (44, .int .i64 ((x0).length : Int)), (45, .int .i64 (i658 : Int))]) (L' := [own 3 TR.int v18 l318, obox 24 TR.raw v60 v59, own 3 TR.int v59 l319, obox 25 (TR.sl (TR.sl TR.int)) v3 x0, own 24 (TR.sl TR.int) v321 l320, own 3 TR.int v595 l594]) (fun _ _ st => st) ?_
     refine GL.seq ?_
     refine GL.region ?_
     refine RL.mv rfl rfl rfl ?_
     refine RL.mv rfl rfl rfl ?_
     refine RL.binI (v := .bool (x678 == (i658 : Int))) rfl rfl rfl rfl rfl ?_
     refine RL.finG ?_
     refine GL.cond rfl (fun b712 => ?_) (fun b712 => ?_)
     ·replace h711 := ite_t b712 h711
      refine GL.region ?_
      refine RL.mv rfl rfl rfl ?_
      refine RL.mv rfl rfl rfl ?_
      refine RL.bS (t := TR.int) (vs := [.int .i64 (i658 : Int)]) ([(i658 : Int)] : (List Int)) Try.underlying24 Try_lo3 rfl rfl rfl rfl ⟨VR.int, trivial⟩ rfl (by decide) ?_
      intro v717
      obtain ⟨y718, e719, h711⟩ := bind_some h711
      replace e719 := chk_some e719
      refine RL.app 5 6 Try.underlying24 Try_lo3 rfl rfl rfl rfl rfl rfl rfl SlOf.own e719 ?_
      intro v720
      refine RL.reL (L' := [own 3 TR.int v18 l318, obox 24 TR.raw v60 v59, own 3 TR.int v59 l319, obox 25 (TR.sl (TR.sl TR.int)) v3 x0, own 24 (TR.sl TR.int) v321 l320, own 3 TR.int v720 (l594 ++ ([(i658 : Int)] : (List Int))), own 3 TR.int v717 ([(i658 : Int)] : (List Int))]) rfl ?_
      refine RL.asg rfl rfl rfl ?_
      refine RL.finG ?_
      refine GL.nilB ?_
      refine GL.region ?_
      refine RL.binI (v := .int .i64 ((i658 + 1 : Nat) : Int)) rfl rfl rfl rfl (binI_succ i658 (by omega)) ?_
      refine RL.mv rfl rfl rfl ?_
      refine RL.fin ?_
      cases h711
      exact fun a w st => lop_intro (i658 + 1, r668, (l594 ++ ([(i658 : Int)] : (List Int))), v720) ⟨by show i658 + 1 + r668 = (((x0).length : Int)).toNat; omega, h662⟩ (by simp) (St.cut [0, 2, 1, 3, 4, 5] ⟨rfl, rfl, rfl, rfl, rfl, rfl, rfl, rfl, rfl, trivial⟩ (by decide) rfl st)
     replace h711 := ite_f b712 h711
     refine GL.skip ?_
     refine GL.nilB ?_
     refine GL.region ?_
     refine RL.binI (v := .int .i64 ((i658 + 1 : Nat) : Int)) rfl rfl rfl rfl (binI_succ i658 (by omega)) ?_
     refine RL.mv rfl rfl rfl ?_
     refine RL.fin ?_
     cases h711
     exact fun a w st => lop_intro (i658 + 1, r668, l594, v595) ⟨by show i658 + 1 + r668 = (((x0).length : Int)).toNat; omega, h662⟩ (by simp) (St.cut [0, 2, 1, 3, 4, 5] ⟨rfl, rfl, rfl, rfl, rfl, rfl, rfl, rfl, rfl, trivial⟩ (by decide) rfl st)
    have h667 : ¬ i658 < (((x0).length : Int)).toNat := by have := of_decide_eq_false b666; omega
    obtain rfl : r659 = 0 := by omega
    replace h663 : some (Fl.nx _) = some y651 := h663
    cases h663
    exact GL.exit (fun a w st => mid_intro (l594, v595) h654 (St.cut [0, 2, 1, 3, 4, 5] ⟨rfl, rfl, rfl, rfl, rfl, rfl, rfl, trivial⟩ (by decide) rfl st))
   rintro ⟨l594, v595⟩ h721
   have h722 := h655 _ h721
   try dsimp only at h722
   refine GL.weak (env' := [(6, .int .i64 ((x0).length : Int)), (7, v18), (9, v60), (10, .func (.func 51) #[] #[v3, v60]), (11, v321), (12, .int .i64 x322), (13, v595)]) (L' := [own 3 TR.int v18 l318, obox 24 TR.raw v60 v59, own 3 TR.int v59 l319, obox 25 (TR.sl (TR.sl TR.int)) v3 x0, own 24 (TR.sl TR.int) v321 l320, own 3 TR.int v595 l594]) (fun _ _ st => st) ?_
   refine GL.seq ?_
   refine GL.seq ?_
   refine GL.region ?_
   refine RL.mv rfl rfl rfl ?_
   refine RL.lenS 5 Try.underlying24 rfl rfl rfl rfl SlOf.own ?_
   refine RL.mv rfl rfl rfl ?_
   refine RL.finG ?_
   refine GL.lenOwn 5 rfl (fun n748 => ?_)
   obtain ⟨y749, K750, h751, h752, h753, h754, h755⟩ := bindF_K h722
   refine GL.join (ι := (List Int)) (fun (p : (List Int)) => [(6, .int .i64 ((x0).length : Int)), (7, v18), (9, v60), (10, .func (.func 51) #[] #[v3, v60]), (11, v321), (12, .int .i64 x322), (13, v595)]) (fun (p : (List Int)) => [own 3 TR.int v18 p, obox 24 TR.raw v60 v59, own 3 TR.int v59 l319, obox 25 (TR.sl (TR.sl TR.int)) v3 x0, own 24 (TR.sl TR.int) v321 l320, own 3 TR.int v595 l594]) (fun (p : (List Int)) => K750 (.nx p)) ?_ ?_
   ·refine GL.block ?_
    refine GL.loop (ι := Nat × Nat × (List Int)) (fun (p : Nat × Nat × (List Int)) => [(6, .int .i64 ((x0).length : Int)), (7, v18), (9, v60), (10, .func (.func 51) #[] #[v3, v60]), (11, v321), (12, .int .i64 x322), (13, v595), (74, v595), (75, .int .i64 ((l594).length : Int)), (76, .int .i64 (p.1 : Int))]) (fun (p : Nat × Nat × (List Int)) => [own 3 TR.int v18 p.2.2, own 3 TR.int v59 l319, obox 24 TR.raw v60 v59, obox 25 (TR.sl (TR.sl TR.int)) v3 x0, own 24 (TR.sl TR.int) v321 l320, own 3 TR.int v595 l594]) (fun (p : Nat × Nat × (List Int)) => p.1 + p.2.1 = (l594).length ∧ rangeN (trade_Swap_b5 l594 x0 l319) p.2.1 p.1 p.2.2 = some y749) (fun (p : Nat × Nat × (List Int)) => p.2.1) (0, (l594).length, l318) ⟨by simp, h751⟩ (fun a w st => St.cut [0, 2, 1, 3, 4, 5] ⟨rfl, rfl, rfl, rfl, rfl, rfl, rfl, rfl, rfl, rfl, trivial⟩ (by decide) rfl st) ?_
    rintro ⟨i756, r757, l735⟩ ⟨h762, h761⟩
    try dsimp only at h762 h761
    refine GL.weak (env' := [(6, .int .i64 ((x0).length : Int)), (7, v18), (9, v60), (10, .func (.func 51) #[] #[v3, v60]), (11, v321), (12, .int .i64 x322), (13, v595), (74, v595), (75, .int .i64 ((l594).length : Int)), (76, .int .i64 (i756 : Int))]) (L' := [own 3 TR.int v18 l735, own 3 TR.int v59 l319, obox 24 TR.raw v60 v59, obox 25 (TR.sl (TR.sl TR.int)) v3 x0, own 24 (TR.sl TR.int) v321 l320, own 3 TR.int v595 l594]) (fun _ _ st => st) ?_
    refine GL.seq ?_
    refine GL.region ?_
    refine RL.binI (v := .bool (decide ((i756 : Int) < ((l594).length : Int)))) rfl rfl rfl rfl rfl ?_
    refine RL.finG ?_
    refine GL.seq ?_
    refine GL.cond rfl (fun b764 => ?_) (fun b764 => ?_)
    ·have h765 : i756 < (l594).length := by have := of_decide_eq_true b764; omega
     obtain ⟨r766, hr⟩ : ∃ m, r757 = m + 1 := ⟨r757 - 1, by omega⟩
     subst hr
     obtain ⟨z758, h759, h760⟩ := rangeN_some h761
     unfold trade_Swap_b5 at h759
     try dsimp only at h759
     refine GL.skip ?_
     refine GL.seq ?_
     refine GL.block ?_
     refine GL.seq ?_
     refine GL.region ?_
     obtain ⟨y769, e770, h759⟩ := bind_some h759
     refine RL.idxS (sz := 1) 5 Try.underlying24 Try_ln3 rfl rfl rfl rfl rfl SlOf.own (idx_some e770).1 (idx_some e770).2.1 ?_
     refine RL.ldSx (i := i756) (e' := y769) 5 Ex.ik Try_ln3 rfl rfl rfl rfl SlOf.own (idx_some e770).2.2 Part.self ?_
     refine RL.asg rfl rfl rfl ?_
     refine RL.finG ?_
     refine GL.region ?_
     refine RL.mv rfl rfl rfl ?_
     refine RL.mv rfl rfl rfl ?_
     refine RL.mv rfl rfl rfl ?_
     refine RL.mv rfl rfl rfl ?_
     obtain ⟨y775, e776, h759⟩ := bind_some h759
     refine RL.callC (v := .int .i64 y775) (vs := [.int .i64 y769]) Try_fit51 rfl rfl rfl rfl (fun U w hU hW hL => trade_Swap_1_c U w hU y769 _ _ (hL 3 _ _ rfl Seen.obox) _ _ (ptr_raw (hL 2 _ _ rfl Seen.obox) rfl (hL 1 _ _ rfl Seen.own)) _ e776) ?_
     obtain ⟨y777, e778, h759⟩ := bind_some h759
     refine RL.idxS (sz := 1) 0 Try.underlying24 Try_ln3 rfl rfl rfl rfl rfl SlOf.own (idx_some e778).1 (idx_some e778).2.1 ?_
     refine RL.stS (i := (y769).toNat) (e' := y775) (e1 := y775) (r := TR.int) 0 Try_ln3 rfl rfl rfl rfl VR.int rfl (idx_some e778).2.2 Upd.self ?_
     refine RL.finG ?_
     refine GL.nilB ?_
     refine GL.region ?_
     refine RL.binI (v := .int .i64 ((i756 + 1 : Nat) : Int)) rfl rfl rfl rfl (binI_succ i756 (by omega)) ?_
     refine RL.mv rfl rfl rfl ?_
     refine RL.fin ?_
     cases h759
     exact fun a w st => lop_intro (i756 + 1, r766, (List.set l735 ((y769).toNat) y775)) ⟨by show i756 + 1 + r766 = (l594).length; omega, h760⟩ (by simp) (St.cut [0, 1, 2, 3, 4, 5] ⟨rfl, rfl, rfl, rfl, rfl, rfl, rfl, rfl, rfl, rfl, trivial⟩ (by decide) rfl st)
    have h765 : ¬ i756 < (l594).length := by have := of_decide_eq_false b764; omega
    obtain rfl : r757 = 0 := by omega
    replace h761 : some (Fl.nx _) = some y749 := h761
    cases h761
    exact GL.exit (fun a w st => mid_intro l735 h752 (St.cut [0, 2, 1, 3, 4, 5] ⟨rfl, rfl, rfl, rfl, rfl, rfl, rfl, trivial⟩ (by decide) rfl st))
   rintro l735 h779
   have h780 := h753 _ h779
   try dsimp only at h780
   refine GL.weak (env' := [(6, .int .i64 ((x0).length : Int)), (7, v18), (9, v60), (10, .func (.func 51) #[] #[v3, v60]), (11, v321), (12, .int .i64 x322), (13, v595)]) (L' := [own 3 TR.int v18 l735, obox 24 TR.raw v60 v59, own 3 TR.int v59 l319, obox 25 (TR.sl (TR.sl TR.int)) v3 x0, own 24 (TR.sl TR.int) v321 l320, own 3 TR.int v595 l594]) (fun _ _ st => st) ?_
   refine GL.seq ?_
   refine GL.seq ?_
   refine GL.region ?_
   refine RL.mv rfl rfl rfl ?_
   refine RL.lenS 5 Try.underlying24 rfl rfl rfl rfl SlOf.own ?_
   refine RL.mv rfl rfl rfl ?_
   refine RL.finG ?_
   refine GL.lenOwn 5 rfl (fun n806 => ?_)
   obtain ⟨y807, K808, h809, h810, h811, h812, h813⟩ := bindF_K h780
   refine GL.join (ι := (List Int)) (fun (p : (List Int)) => [(6, .int .i64 ((x0).length : Int)), (7, v18), (9, v60), (10, .func (.func 51) #[] #[v3, v60]), (11, v321), (12, .int .i64 x322), (13, v595)]) (fun (p : (List Int)) => [own 3 TR.int v18 l735, obox 24 TR.raw v60 v59, own 3 TR.int v59 p, obox 25 (TR.sl (TR.sl TR.int)) v3 x0, own 24 (TR.sl TR.int) v321 l320, own 3 TR.int v595 l594]) (fun (p : (List Int)) => K808 (.nx p)) ?_ ?_
   ·refine GL.block ?_
    refine GL.loop (ι := Nat × Nat × (List Int)) (fun (p : Nat × Nat × (List Int)) => [(6, .int .i64 ((x0).length : Int)), (7, v18), (9, v60), (10, .func (.func 51) #[] #[v3, v60]), (11, v321), (12, .int .i64 x322), (13, v595), (87, v595), (88, .int .i64 ((l594).length : Int)), (89, .int .i64 (p.1 : Int))]) (fun (p : Nat × Nat × (List Int)) => [own 3 TR.int v18 l735, own 3 TR.int v59 p.2.2, obox 24 TR.raw v60 v59, obox 25 (TR.sl (TR.sl TR.int)) v3 x0, own 24 (TR.sl TR.int) v321 l320, own 3 TR.int v595 l594]) (fun (p : Nat × Nat × (List Int)) => p.1 + p.2.1 = (l594).length ∧ rangeN (trade_Swap_b6 l594 l735) p.2.1 p.1 p.2.2 = some y807) (fun (p : Nat × Nat × (List Int)) => p.2.1) (0, (l594).length, l319) ⟨by simp, h809⟩ (fun a w st => St.cut [0, 2, 1, 3, 4, 5] ⟨rfl, rfl, rfl, rfl, rfl, rfl, rfl, rfl, rfl, rfl, trivial⟩ (by decide) rfl st) ?_
    rintro ⟨i814, r815, l793⟩ ⟨h820, h819⟩
    try dsimp only at h820 h819
    refine GL.weak (env' := [(6, .int .i64 ((x0).length : Int)), (7, v18), (9, v60), (10, .func (.func 51) #[] #[v3, v60]), (11, v321), (12, .int .i64 x322), (13, v595), (87, v595), (88, .int .i64 ((l594).length : Int)), (89, .int .i64 (i814 : Int))]) (L' := [own 3 TR.int v18 l735, own 3 TR.int v59 l793, obox 24 TR.raw v60 v59, obox 25 (TR.sl (TR.sl TR.int)) v3 x0, own 24 (TR.sl TR.int) v321 l320, own 3 TR.int v595 l594]) (fun _ _ st => st) ?_
    refine GL.seq ?_
    refine GL.region ?_
    refine RL.binI (v := .bool (decide ((i814 : Int) < ((l594).length : Int)))) rfl rfl rfl rfl rfl ?_
    refine RL.finG ?_
    refine GL.seq ?_
    refine GL.cond rfl (fun b822 => ?_) (fun b822 => ?_)
    ·have h823 : i814 < (l594).length := by have := of_decide_eq_true b822; omega
     obtain ⟨r824, hr⟩ : ∃ m, r815 = m + 1 := ⟨r815 - 1, by omega⟩
     subst hr
     obtain ⟨z816, h817, h818⟩ := rangeN_some h819
     unfold trade_Swap_b6 at h817
     try dsimp only at h817
     refine GL.skip ?_
     refine GL.seq ?_
     refine GL.block ?_
     refine GL.seq ?_
     refine GL.region ?_
     obtain ⟨y827, e828, h817⟩ := bind_some h817
     refine RL.idxS (sz := 1) 5 Try.underlying24 Try_ln3 rfl rfl rfl rfl rfl SlOf.own (idx_some e828).1 (idx_some e828).2.1 ?_
     refine RL.ldSx (i := i814) (e' := y827) 5 Ex.ik Try_ln3 rfl rfl rfl rfl SlOf.own (idx_some e828).2.2 Part.self ?_
     refine RL.asg rfl rfl rfl ?_
     refine RL.finG ?_
     refine GL.regionH 6 rfl rfl (by kernel_rfl) ?_
     simp only [List.take_succ_cons, List.take_zero, List.drop_succ_cons, List.drop_zero]
     refine RL.ldPx (off := 0) (e' := v59) 2 Ex.raw Try_ln24 rfl rfl (Or.inr ⟨rfl, rfl⟩) rfl PtOf.obox Part.self ?_
     refine RL.mv rfl rfl rfl ?_
     refine RL.mv rfl rfl rfl ?_
     obtain ⟨y833, e834, h817⟩ := bind_some h817
     refine RL.idxS (sz := 1) 0 Try.underlying24 Try_ln3 rfl rfl rfl rfl rfl SlOf.own (idx_some e834).1 (idx_some e834).2.1 ?_
     refine RL.ldSx (i := (y827).toNat) (e' := y833) 0 Ex.ik Try_ln3 rfl rfl rfl rfl SlOf.own (idx_some e834).2.2 Part.self ?_
     obtain ⟨y835, e836, h817⟩ := bind_some h817
     refine RL.idxS (sz := 1) 1 Try.underlying24 Try_ln3 rfl rfl rfl rfl rfl SlOf.own (idx_some e836).1 (idx_some e836).2.1 ?_
     refine RL.finH ?_
     refine RL.stS (i := (y833).toNat) (e' := (1 : Int)) (e1 := (1 : Int)) (r := TR.int) 1 Try_ln3 rfl rfl rfl rfl VR.int rfl (idx_some e836).2.2 Upd.self ?_
     refine RL.finG ?_
     refine GL.nilB ?_
     refine GL.region ?_
     refine RL.binI (v := .int .i64 ((i814 + 1 : Nat) : Int)) rfl rfl rfl rfl (binI_succ i814 (by omega)) ?_
     refine RL.mv rfl rfl rfl ?_
     refine RL.fin ?_
     cases h817
     exact fun a w st => lop_intro (i814 + 1, r824, (List.set l793 ((y833).toNat) (1 : Int))) ⟨by show i814 + 1 + r824 = (l594).length; omega, h818⟩ (by simp) (St.cut [0, 1, 2, 3, 4, 5] ⟨rfl, rfl, rfl, rfl, rfl, rfl, rfl, rfl, rfl, rfl, trivial⟩ (by decide) rfl st)
    have h823 : ¬ i814 < (l594).length := by have := of_decide_eq_false b822; omega
    obtain rfl : r815 = 0 := by omega
    replace h819 : some (Fl.nx _) = some y807 := h819
    cases h819
    exact GL.exit (fun a w st => mid_intro l793 h810 (St.cut [0, 2, 1, 3, 4, 5] ⟨rfl, rfl, rfl, rfl, rfl, rfl, rfl, trivial⟩ (by decide) rfl st))
   rintro l793 h837
   have h838 := h811 _ h837
   try dsimp only at h838
   refine GL.weak (env' := [(6, .int .i64 ((x0).length : Int)), (7, v18), (9, v60), (10, .func (.func 51) #[] #[v3, v60]), (11, v321), (12, .int .i64 x322), (13, v595)]) (L' := [own 3 TR.int v18 l735, obox 24 TR.raw v60 v59, own 3 TR.int v59 l793, obox 25 (TR.sl (TR.sl TR.int)) v3 x0, own 24 (TR.sl TR.int) v321 l320, own 3 TR.int v595 l594]) (fun _ _ st => st) ?_
   refine GL.seq ?_
   refine GL.region ?_
   refine RL.mv rfl rfl rfl ?_
   refine RL.mv rfl rfl rfl ?_
   refine RL.lenS 5 Try.underlying24 rfl rfl rfl rfl SlOf.own ?_
   refine RL.binI (v := .int .i64 (wsub x322 ((l594).length : Int))) rfl rfl rfl rfl rfl ?_
   refine RL.asg rfl rfl rfl ?_
   refine RL.finG ?_
   refine GL.region ?_
   refine RL.mv rfl rfl rfl ?_
   refine RL.mv rfl rfl rfl ?_
   refine RL.weak (fun a w st => st.freeze 5 rfl) ?_
   refine RL.bS (t := (TR.sl TR.int)) (vs := [v595]) ([l594] : (List (List Int))) Try.underlying25 Try_lo24 rfl rfl rfl rfl ⟨(VR.item 5 rfl), trivial⟩ rfl (by decide) ?_
   intro v843
   refine RL.reL (L' := [own 3 TR.int v18 l735, obox 24 TR.raw v60 v59, own 3 TR.int v59 l793, obox 25 (TR.sl (TR.sl TR.int)) v3 x0, own 24 (TR.sl TR.int) v321 l320, imm (TR.sl TR.int) v595 l594, own 24 (TR.sl TR.int) v843 ([l594] : (List (List Int)))]) rfl ?_
   obtain ⟨y844, e845, h838⟩ := bind_some h838
   replace e845 := chk_some e845
   refine RL.app 4 6 Try.underlying25 Try_lo24 rfl rfl rfl rfl rfl rfl rfl SlOf.own e845 ?_
   intro v846
   refine RL.asg rfl rfl rfl ?_
   refine RL.finG ?_
   refine GL.nilB ?_
   cases h838
   exact fun a w st => lop_intro (r592, l735, l793, (l320 ++ ([l594] : (List (List Int)))), wsub x322 ((l594).length : Int), v846) (by exact h588) (by simp) (St.cut [0, 2, 1, 3, 4] ⟨rfl, rfl, rfl, rfl, rfl, rfl, trivial⟩ (by decide) rfl st)
  replace h587 := ite_f b593 h587
  cases h587
  replace h588 : some (Fl.nx _) = some y577 := h588
  cases h588
  exact GL.exit (fun a w st => mid_intro (l318, l319, l320, x322, v321) h580 (St.cut [0, 4] ⟨rfl, rfl, trivial⟩ (by decide) rfl st))
 rintro ⟨l318, l319, l320, x322, v321⟩ h847
 have h848 := h581 _ h847
 try dsimp only at h848
 refine GL.weak (env' := [(7, v18), (11, v321)]) (L' := [own 3 TR.int v18 l318, own 24 (TR.sl TR.int) v321 l320]) (fun _ _ st => st) ?_
 refine GL.seq ?_
 refine GL.region ?_
 refine RL.mv rfl rfl rfl ?_
 refine RL.mv rfl rfl rfl ?_
 refine RL.asg rfl rfl rfl ?_
 refine RL.asg rfl rfl rfl ?_
 refine RL.asg rfl rfl rfl ?_
 refine RL.finG ?_
 have h848 := Option.some.inj h848
 subst h848
 exact GL.ret (Gx.ret (v := .tuple #[v18, v321, .int .i64 (0 : Int)]) (res3 rfl rfl rfl rfl) (fun a w st => (st.pick [0, 1] (by decide) rfl).toPost (v18, v321)))

set_option maxHeartbeats 4000000 in
theorem slices_Equal_int_int_c (S : Hp) (w : World) (hS : S.sub w) (v0 : Value) (x0 : (List Int)) (k0 : ((TR.sl TR.int)).vrep S v0 x0) (v1 : Value) (x1 : (List Int)) (k1 : ((TR.sl TR.int)).vrep S v1 x1) (res : Bool) (hm : slices_Equal_int_int_m x0 x1 = some res) : Calls Try.prog 19 #[v0, v1] w (PostV w (.bool res)) := by
 refine calls_enter 26 Try.func19 Try.ntmps19 rfl S false [(0, v0), (1, v1)] [imm (TR.sl TR.int) v0 x0, imm (TR.sl TR.int) v1 x1] rfl ⟨rfl, ⟨rfl, trivial⟩⟩ hS ⟨k0, ⟨k1, trivial⟩⟩ ?_
 unfold slices_Equal_int_int_m at hm
 refine GL.seq ?_
 refine GL.region ?_
 refine RL.asg rfl rfl rfl ?_
 refine RL.finG ?_
 refine GL.seq ?_
 refine GL.seq ?_
 refine GL.region ?_
 refine RL.mv rfl rfl rfl ?_
 refine RL.lenS 0 Try.underlying24 rfl rfl rfl rfl SlOf.imm ?_
 refine RL.mv rfl rfl rfl ?_
 refine RL.lenS 1 Try.underlying24 rfl rfl rfl rfl SlOf.imm ?_
 refine RL.binI (v := .bool (((x0).length : Int) != ((x1).length : Int))) rfl rfl rfl rfl rfl ?_
 refine RL.finG ?_
 refine GL.cond rfl (fun b3 => ?_) (fun b3 => ?_)
 ·replace hm := ite_t b3 hm
  refine GL.seq ?_
  refine GL.region ?_
  refine RL.asg rfl rfl rfl ?_
  refine RL.finG ?_
  have hm := Option.some.inj hm
  subst hm
  exact GL.ret (Gx.ret (v := .bool false) (res1 rfl rfl) (fun a w st => st.toPostV))
 replace hm := ite_f b3 hm
 refine GL.skip ?_
 refine GL.seq ?_
 refine GL.seq ?_
 refine GL.region ?_
 refine RL.mv rfl rfl rfl ?_
 refine RL.lenS 0 Try.underlying24 rfl rfl rfl rfl SlOf.imm ?_
 refine RL.mv rfl rfl rfl ?_
 refine RL.finG ?_
 refine GL.open_ 0 rfl (fun S h => len_imm S h) (fun n13 => ?_)
 obtain ⟨y14, K15, h16, h17, h18, h19, h20⟩ := bindR_K hm
 refine GL.join (ι := Unit) (fun (p : Unit) => []) (fun (p : Unit) => []) (fun (p : Unit) => K15 (.nx ())) ?_ ?_
 ·refine GL.block ?_
  refine GL.loop (ι := Nat × (List Int)) (fun (p : Nat × (List Int)) => [(0, v0), (1, v1), (12, .int .i64 ((x0).length : Int)), (13, .int .i64 (p.1 : Int))]) (fun (p : Nat × (List Int)) => [imm (TR.sl TR.int) v0 x0, imm (TR.sl TR.int) v1 x1]) (fun (p : Nat × (List Int)) => p.1 + p.2.length = (x0).length ∧ List.drop p.1 x0 = p.2 ∧ rangeL (slices_Equal_int_int_b1 x1) p.2 p.1 () = some y14) (fun (p : Nat × (List Int)) => p.2.length) (0, x0) ⟨by simp, by simp, h16⟩ (fun a w st => St.cut [0, 1] ⟨rfl, rfl, rfl, rfl, trivial⟩ (by decide) rfl st) ?_
  rintro ⟨i21, r22⟩ ⟨h27, h28, h26⟩
  try dsimp only at h27 h28 h26
  refine GL.weak (env' := [(0, v0), (1, v1), (12, .int .i64 ((x0).length : Int)), (13, .int .i64 (i21 : Int))]) (L' := [imm (TR.sl TR.int) v0 x0, imm (TR.sl TR.int) v1 x1]) (fun _ _ st => st) ?_
  refine GL.seq ?_
  refine GL.region ?_
  refine RL.binI (v := .bool (decide ((i21 : Int) < ((x0).length : Int)))) rfl rfl rfl rfl rfl ?_
  refine RL.finG ?_
  refine GL.seq ?_
  refine GL.cond rfl (fun b29 => ?_) (fun b29 => ?_)
  ·have h30 : i21 < (x0).length := by have := of_decide_eq_true b29; omega
   obtain ⟨y31, r33, hr, e32, h34⟩ := drop_cons h28 rfl h30
   subst hr
   obtain ⟨z23, h24, h25⟩ := rangeL_some h26
   unfold slices_Equal_int_int_b1 at h24
   try dsimp only at h24
   refine GL.skip ?_
   refine GL.seq ?_
   refine GL.block ?_
   refine GL.seq ?_
   refine GL.region ?_
   refine RL.mv rfl rfl rfl ?_
   refine RL.asg rfl rfl rfl ?_
   refine RL.finG ?_
   refine GL.seq ?_
   refine GL.regionQ rfl rfl (by kernel_rfl) ?_
   refine RL.mv rfl rfl rfl ?_
   refine RL.mv rfl rfl rfl ?_
   refine RL.idxS (sz := 1) 0 Try.underlying24 Try_ln3 rfl rfl rfl rfl rfl SlOf.imm (by omega) (by omega) ?_
   refine RL.ldSx (i := i21) (e' := y31) 0 Ex.ik Try_ln3 rfl rfl rfl rfl SlOf.imm e32 Part.self ?_
   refine RL.mv rfl rfl rfl ?_
   refine RL.mv rfl rfl rfl ?_
   obtain ⟨y37, e38, h24⟩ := bind_some h24
   refine RL.idxS (sz := 1) 1 Try.underlying24 Try_ln3 rfl rfl rfl rfl rfl SlOf.imm (idx_some e38).1 (idx_some e38).2.1 ?_
   refine RL.ldSx (i := i21) (e' := y37) 1 Ex.ik Try_ln3 rfl rfl rfl rfl SlOf.imm (idx_some e38).2.2 Part.self ?_
   refine RL.binI (v := .bool (y31 != y37)) rfl rfl rfl rfl rfl ?_
   refine RL.finQG ?_
   refine GL.cond rfl (fun b39 => ?_) (fun b39 => ?_)
   ·replace h24 := ite_t b39 h24
    refine GL.seq ?_
    refine GL.region ?_
    refine RL.asg rfl rfl rfl ?_
    refine RL.finG ?_
    cases h24
    replace h25 : some (Fl.rt _) = some y14 := h25
    cases h25
    have hh := h19 _ h17
    subst hh
    exact GL.ret (Gx.ret (v := .bool false) (res1 rfl rfl) (fun a w st => st.toPostV))
   replace h24 := ite_f b39 h24
   refine GL.skip ?_
   refine GL.nilB ?_
   refine GL.region ?_
   refine RL.binI (v := .int .i64 ((i21 + 1 : Nat) : Int)) rfl rfl rfl rfl (binI_succ i21 (by omega)) ?_
   refine RL.mv rfl rfl rfl ?_
   refine RL.fin ?_
   cases h24
   exact fun a w st => lop_intro (i21 + 1, r33) ⟨by show i21 + 1 + r33.length = (x0).length; simp only [List.length_cons] at h27; omega, h34, h25⟩ (by simp) (St.cut [0, 1] ⟨rfl, rfl, rfl, rfl, trivial⟩ (by decide) rfl st)
  have h30 : ¬ i21 < (x0).length := by have := of_decide_eq_false b29; omega
  obtain rfl : r22 = [] := by rw [← h28]; exact List.drop_of_length_le (by omega)
  replace h26 : some (Fl.nx _) = some y14 := h26
  cases h26
  exact GL.exit (fun a w st => mid_intro () h17 (St.cut [] trivial (by decide) rfl st))
 rintro ⟨⟩ h40
 have h41 := h18 _ h40
 try dsimp only at h41
 refine GL.weak (env' := []) (L' := []) (fun _ _ st => st) ?_
 refine GL.seq ?_
 refine GL.region ?_
 refine RL.asg rfl rfl rfl ?_
 refine RL.finG ?_
 have h41 := Option.some.inj h41
 subst h41
 exact GL.ret (Gx.ret (v := .bool true) (res1 rfl rfl) (fun a w st => st.toPostV))

set_option maxHeartbeats 4000000 in
theorem pk_trades_c (S : Hp) (w : World) (hS : S.sub w)  (res : Bool) (hm : pk_trades_m = some res) : Calls Try.prog 28 #[] w (PostV w (.bool res)) := by
 refine calls_enter 25 Try.func28 Try.ntmps28 rfl S false [] [] rfl trivial hS trivial ?_
 unfold pk_trades_m at hm
 refine GL.seq ?_
 refine GL.region ?_
 refine RL.asg rfl rfl rfl ?_
 refine RL.finG ?_
 refine GL.seq ?_
 refine GL.region ?_
 refine RL.bS (t := TR.int) (vs := [.int .i64 (1 : Int), .int .i64 (0 : Int), .int .i64 (2 : Int)]) ([(1 : Int), (0 : Int), (2 : Int)] : (List Int)) Try.underlying24 Try_lo3 rfl rfl rfl rfl ⟨VR.int, ⟨VR.int, ⟨VR.int, trivial⟩⟩⟩ rfl (by decide) ?_
 intro v9
 refine RL.bS (t := TR.int) (vs := [.int .i64 (2 : Int), .int .i64 (0 : Int), .int .i64 (1 : Int)]) ([(2 : Int), (0 : Int), (1 : Int)] : (List Int)) Try.underlying24 Try_lo3 rfl rfl rfl rfl ⟨VR.int, ⟨VR.int, ⟨VR.int, trivial⟩⟩⟩ rfl (by decide) ?_
 intro v10
 refine RL.reL (L' := [own 3 TR.int v9 ([(1 : Int), (0 : Int), (2 : Int)] : (List Int)), own 3 TR.int v10 ([(2 : Int), (0 : Int), (1 : Int)] : (List Int))]) rfl ?_
 refine RL.bS (t := TR.int) (vs := [.int .i64 (0 : Int), .int .i64 (1 : Int), .int .i64 (2 : Int)]) ([(0 : Int), (1 : Int), (2 : Int)] : (List Int)) Try.underlying24 Try_lo3 rfl rfl rfl rfl ⟨VR.int, ⟨VR.int, ⟨VR.int, trivial⟩⟩⟩ rfl (by decide) ?_
 intro v11
 refine RL.weak (fun a w st => st.freeze 0 rfl) ?_
 refine RL.weak (fun a w st => st.freeze 1 rfl) ?_
 refine RL.weak (fun a w st => st.freeze 2 rfl) ?_
 refine RL.bS (t := (TR.sl TR.int)) (vs := [v9, v10, v11]) ([([(1 : Int), (0 : Int), (2 : Int)] : (List Int)), ([(2 : Int), (0 : Int), (1 : Int)] : (List Int)), ([(0 : Int), (1 : Int), (2 : Int)] : (List Int))] : (List (List Int))) Try.underlying25 Try_lo24 rfl rfl rfl rfl ⟨(VR.item 0 rfl), ⟨(VR.item 1 rfl), ⟨(VR.item 2 rfl), trivial⟩⟩⟩ rfl (by decide) ?_
 intro v12
 refine RL.reL (L' := [imm (TR.sl TR.int) v9 ([(1 : Int), (0 : Int), (2 : Int)] : (List Int)), imm (TR.sl TR.int) v10 ([(2 : Int), (0 : Int), (1 : Int)] : (List Int)), imm (TR.sl TR.int) v11 ([(0 : Int), (1 : Int), (2 : Int)] : (List Int)), own 24 (TR.sl TR.int) v12 ([([(1 : Int), (0 : Int), (2 : Int)] : (List Int)), ([(2 : Int), (0 : Int), (1 : Int)] : (List Int)), ([(0 : Int), (1 : Int), (2 : Int)] : (List Int))] : (List (List Int)))]) rfl ?_
 refine RL.weak (fun a w st => st.freeze 3 rfl) ?_
 obtain ⟨y13, e14, hm⟩ := bind_some hm
 refine RL.call (vs := [v12]) Try_fit30 rfl rfl rfl rfl rfl (fun S f w hS hW hi => trade_Swap_c S w hS _ _ (hi 3 _ rfl) _ e14) ?_
 intro ⟨v15, v16⟩
 refine RL.reL (L' := [imm (TR.sl TR.int) v9 ([(1 : Int), (0 : Int), (2 : Int)] : (List Int)), imm (TR.sl TR.int) v10 ([(2 : Int), (0 : Int), (1 : Int)] : (List Int)), imm (TR.sl TR.int) v11 ([(0 : Int), (1 : Int), (2 : Int)] : (List Int)), imm (TR.sl (TR.sl TR.int)) v12 ([([(1 : Int), (0 : Int), (2 : Int)] : (List Int)), ([(2 : Int), (0 : Int), (1 : Int)] : (List Int)), ([(0 : Int), (1 : Int), (2 : Int)] : (List Int))] : (List (List Int))), own 3 TR.int v15 y13.1, own 24 (TR.sl TR.int) v16 y13.2.1]) rfl ?_
 refine RL.mv rfl rfl rfl ?_
 refine RL.ext rfl rfl rfl rfl ?_
 refine RL.ext rfl rfl rfl rfl ?_
 refine RL.ext rfl rfl rfl rfl ?_
 refine RL.asg rfl rfl rfl ?_
 refine RL.asg rfl rfl rfl ?_
 refine RL.asg rfl rfl rfl ?_
 refine RL.finG ?_
 refine GL.seq ?_
 obtain ⟨y28, K29, h30, h31, h32, h33, h34⟩ := bindR_K hm
 refine GL.join (ι := Bool) (fun (p : Bool) => [(0, .bool p)]) (fun (p : Bool) => []) (fun (p : Bool) => K29 (.nx p)) ?_ ?_
 ·skip
  refine GL.region ?_
  refine RL.mv rfl rfl rfl ?_
  refine RL.binI (v := .bool (y13.2.2 == (0 : Int))) rfl rfl rfl rfl rfl ?_
  refine RL.mv rfl rfl rfl ?_
  refine RL.split (t := 15) rfl (fun b35 => ?_) (fun b35 => ?_)
  ·replace h30 := ite_t b35 h30
   refine RL.mv rfl rfl rfl ?_
   refine RL.bS (t := TR.int) (vs := [.int .i64 (1 : Int), .int .i64 (2 : Int), .int .i64 (0 : Int)]) ([(1 : Int), (2 : Int), (0 : Int)] : (List Int)) Try.underlying24 Try_lo3 rfl rfl rfl rfl ⟨VR.int, ⟨VR.int, ⟨VR.int, trivial⟩⟩⟩ rfl (by decide) ?_
   intro v36
   obtain ⟨y37, e38, h30⟩ := bind_some h30
   refine RL.callV (v := .bool y37) (vs := [v15, v36]) Try_fit19 rfl (Or.inl rfl) rfl rfl rfl rfl (fun U w hU hW hL => slices_Equal_int_int_c U w hU _ _ (hL 4 _ _ rfl Seen.own) _ _ (hL 6 _ _ rfl Seen.own) _ e38) ?_
   refine RL.pickT rfl rfl rfl rfl ?_
   refine RL.mv rfl rfl rfl ?_
   refine RL.split (t := 20) rfl (fun b39 => ?_) (fun b39 => ?_)
   ·replace h30 := ite_t b39 h30
    refine RL.mv rfl rfl rfl ?_
    refine RL.lenS 5 Try.underlying25 rfl rfl rfl rfl SlOf.own ?_
    refine RL.binI (v := .bool (((y13.2.1).length : Int) == (1 : Int))) rfl rfl rfl rfl rfl ?_
    refine RL.pickT rfl rfl rfl rfl ?_
    refine RL.asg rfl rfl rfl ?_
    refine RL.fin ?_
    cases h30
    exact fun a w st => mid_intro (((y13.2.1).length : Int) == (1 : Int)) h31 (St.cut [] ⟨rfl, trivial⟩ (by decide) rfl st)
   replace h30 := ite_f b39 h30
   refine RL.skip rfl rfl ?_
   refine RL.skip rfl rfl ?_
   refine RL.skip rfl rfl ?_
   refine RL.pickF rfl rfl rfl rfl ?_
   refine RL.asg rfl rfl rfl ?_
   refine RL.fin ?_
   cases h30
   exact fun a w st => mid_intro false h31 (St.cut [] ⟨rfl, trivial⟩ (by decide) rfl st)
  replace h30 := ite_f b35 h30
  refine RL.skip rfl rfl ?_
  refine RL.skip rfl rfl ?_
  refine RL.skip rfl rfl ?_
  refine RL.pickF rfl rfl rfl rfl ?_
  refine RL.mv rfl rfl rfl ?_
  refine RL.skip rfl rfl ?_
  refine RL.skip rfl rfl ?_
  refine RL.skip rfl rfl ?_
  refine RL.pickF rfl rfl rfl rfl ?_
  refine RL.asg rfl rfl rfl ?_
  refine RL.fin ?_
  cases h30
  exact fun a w st => mid_intro false h31 (St.cut [] ⟨rfl, trivial⟩ (by decide) rfl st)
 rintro x27 h40
 have h41 := h32 _ h40
 try dsimp only at h41
 refine GL.weak (env' := [(0, .bool x27)]) (L' := []) (fun _ _ st => st) ?_
 have h41 := Option.some.inj h41
 subst h41
 exact GL.ret (Gx.ret (v := .bool x27) (res1 rfl rfl) (fun a w st => st.toPostV))

set_option maxHeartbeats 4000000 in
theorem ref_Rest_c (S : Hp) (w : World) (hS : S.sub w) (x0 : Int) (x1 : Int) (res : Int) (hm : ref_Rest_m x0 x1 = some res) : Calls Try.prog 43 #[.int .i64 x0, .int .i64 x1] w (PostC w (.int .i64 res)) := by
 refine calls_enter 14 Try.func43 Try.ntmps43 rfl S true [(0, .int .i64 x0), (1, .int .i64 x1)] [] rfl ⟨rfl, ⟨rfl, trivial⟩⟩ hS trivial ?_
 unfold ref_Rest_m at hm
 refine GL.seq ?_
 refine GL.region ?_
 refine RL.asg rfl rfl rfl ?_
 refine RL.finG ?_
 refine GL.seq ?_
 refine GL.region ?_
 refine RL.mv rfl rfl rfl ?_
 refine RL.mv rfl rfl rfl ?_
 obtain ⟨y5, e6, hm⟩ := bind_some hm
 replace e6 := chk_some e6
 refine RL.rem rfl rfl rfl rfl e6 ?_
 refine RL.asg rfl rfl rfl ?_
 refine RL.finG ?_
 refine GL.seq ?_
 refine GL.seq ?_
 refine GL.region ?_
 refine RL.mv rfl rfl rfl ?_
 refine RL.binI (v := .bool (decide ((Int.tmod x0 x1) < (0 : Int)))) rfl rfl rfl rfl rfl ?_
 refine RL.finG ?_
 obtain ⟨y9, K10, h11, h12, h13, h14, h15⟩ := bindR_K hm
 refine GL.join (ι := Int) (fun (p : Int) => [(0, .int .i64 p)]) (fun (p : Int) => []) (fun (p : Int) => K10 (.nx p)) ?_ ?_
 ·skip
  refine GL.cond rfl (fun b16 => ?_) (fun b16 => ?_)
  ·replace h11 := ite_t b16 h11
   refine GL.region ?_
   refine RL.mv rfl rfl rfl ?_
   refine RL.mv rfl rfl rfl ?_
   refine RL.binI (v := .int .i64 (wadd (Int.tmod x0 x1) x1)) rfl rfl rfl rfl rfl ?_
   refine RL.asg rfl rfl rfl ?_
   refine RL.finG ?_
   cases h11
   exact fun a w st => mid_intro (wadd (Int.tmod x0 x1) x1) h12 (St.cut [] ⟨rfl, trivial⟩ (by decide) rfl st)
  replace h11 := ite_f b16 h11
  refine GL.skip ?_
  cases h11
  exact fun a w st => mid_intro (Int.tmod x0 x1) h12 (St.cut [] ⟨rfl, trivial⟩ (by decide) rfl st)
 rintro x8 h17
 have h18 := h13 _ h17
 try dsimp only at h18
 refine GL.weak (env' := [(0, .int .i64 x8)]) (L' := []) (fun _ _ st => st) ?_
 refine GL.seq ?_
 refine GL.region ?_
 refine RL.mv rfl rfl rfl ?_
 refine RL.asg rfl rfl rfl ?_
 refine RL.finG ?_
 have h18 := Option.some.inj h18
 subst h18
 exact GL.ret (Gx.ret (v := .int .i64 x8) (res1 rfl rfl) (fun a w st => st.toPostC rfl))

set_option maxHeartbeats 4000000 in
theorem pk_Within_c (S : Hp) (w : World) (hS : S.sub w) (x0 : Int) (x1 : Int) (res : Int) (hm : pk_Within_m x0 x1 = some res) : Calls Try.prog 17 #[.int .i64 x0, .int .i64 x1] w (PostC w (.int .i64 res)) := by
 refine calls_enter 8 Try.func17 Try.ntmps17 rfl S true [(0, .int .i64 x0), (1, .int .i64 x1)] [] rfl ⟨rfl, ⟨rfl, trivial⟩⟩ hS trivial ?_
 unfold pk_Within_m at hm
 refine GL.seq ?_
 refine GL.region ?_
 refine RL.asg rfl rfl rfl ?_
 refine RL.finG ?_
 refine GL.seq ?_
 refine GL.region ?_
 refine RL.mv rfl rfl rfl ?_
 refine RL.mv rfl rfl rfl ?_
 obtain ⟨y5, e6, hm⟩ := bind_some hm
 refine RL.callC (v := .int .i64 y5) (vs := [.int .i64 x0, .int .i64 x1]) Try_fit43 rfl rfl rfl rfl (fun U w hU hW hL => ref_Rest_c U w hU x0 x1 _ e6) ?_
 refine RL.asg rfl rfl rfl ?_
 refine RL.finG ?_
 have hm := Option.some.inj hm
 subst hm
 exact GL.ret (Gx.ret (v := .int .i64 y5) (res1 rfl rfl) (fun a w st => st.toPostC rfl))

set_option maxHeartbeats 4000000 in
theorem ref_Sides_c (S : Hp) (w : World) (hS : S.sub w) (x0 : Int) (res : (List Int)) (hm : ref_Sides_m x0 = some res) : Calls Try.prog 48 #[.int .i64 x0] w (Post w S (fun (o : Value) => o) (fun (o : Value) => [own 3 TR.int o res])) := by
 refine calls_enter 15 Try.func48 Try.ntmps48 rfl S false [(0, .int .i64 x0)] [] rfl ⟨rfl, trivial⟩ hS trivial ?_
 unfold ref_Sides_m at hm
 refine GL.seq ?_
 refine GL.region ?_
 refine RL.asg rfl rfl rfl ?_
 refine RL.finG ?_
 refine GL.seq ?_
 refine GL.region ?_
 refine RL.asg rfl rfl rfl ?_
 refine RL.finG ?_
 refine GL.seq ?_
 refine GL.seq ?_
 refine GL.region ?_
 refine RL.mv rfl rfl rfl ?_
 refine RL.mv rfl rfl rfl ?_
 refine RL.finG ?_
 refine GL.weak (fun a w st => st.nilOwn 3 TR.int) ?_
 obtain ⟨y13, e14, hm⟩ := bind_some hm
 replace e14 := chk_some e14
 obtain ⟨y15, K16, h17, h18, h19, h20, h21⟩ := bindR_K hm
 refine GL.join (ι := (List Int) × Value) (fun (p : (List Int) × Value) => [(3, p.2)]) (fun (p : (List Int) × Value) => [own 3 TR.int p.2 p.1]) (fun (p : (List Int) × Value) => K16 (.nx p.1)) ?_ ?_
 ·refine GL.block ?_
  refine GL.loop (ι := Nat × Nat × (List Int) × Value) (fun (p : Nat × Nat × (List Int) × Value) => [(3, p.2.2.2), (5, .int .i64 x0), (6, .int .i64 (p.1 : Int))]) (fun (p : Nat × Nat × (List Int) × Value) => [own 3 TR.int p.2.2.2 p.2.2.1]) (fun (p : Nat × Nat × (List Int) × Value) => p.1 + p.2.1 = (x0).toNat ∧ rangeN ref_Sides_b1 p.2.1 p.1 p.2.2.1 = some y15) (fun (p : Nat × Nat × (List Int) × Value) => p.2.1) (0, (x0).toNat, [], Value.slice none 0 0) ⟨by simp, h17⟩ (fun a w st => St.cut [0] ⟨rfl, rfl, rfl, trivial⟩ (by decide) rfl st) ?_
  rintro ⟨i22, r23, l2, v3⟩ ⟨h28, h27⟩
  try dsimp only at h28 h27
  refine GL.weak (env' := [(3, v3), (5, .int .i64 x0), (6, .int .i64 (i22 : Int))]) (L' := [own 3 TR.int v3 l2]) (fun _ _ st => st) ?_
  refine GL.seq ?_
  refine GL.region ?_
  refine RL.binI (v := .bool (decide ((i22 : Int) < x0))) rfl rfl rfl rfl rfl ?_
  refine RL.finG ?_
  refine GL.seq ?_
  refine GL.cond rfl (fun b30 => ?_) (fun b30 => ?_)
  ·have h31 : i22 < (x0).toNat := by have := of_decide_eq_true b30; omega
   obtain ⟨r32, hr⟩ : ∃ m, r23 = m + 1 := ⟨r23 - 1, by omega⟩
   subst hr
   obtain ⟨z24, h25, h26⟩ := rangeN_some h27
   unfold ref_Sides_b1 at h25
   try dsimp only at h25
   refine GL.skip ?_
   refine GL.seq ?_
   refine GL.block ?_
   refine GL.seq ?_
   refine GL.region ?_
   refine RL.mv rfl rfl rfl ?_
   refine RL.asg rfl rfl rfl ?_
   refine RL.finG ?_
   refine GL.region ?_
   refine RL.mv rfl rfl rfl ?_
   refine RL.mv rfl rfl rfl ?_
   refine RL.bS (t := TR.int) (vs := [.int .i64 (i22 : Int)]) ([(i22 : Int)] : (List Int)) Try.underlying24 Try_lo3 rfl rfl rfl rfl ⟨VR.int, trivial⟩ rfl (by decide) ?_
   intro v37
   obtain ⟨y38, e39, h25⟩ := bind_some h25
   replace e39 := chk_some e39
   refine RL.app 0 1 Try.underlying24 Try_lo3 rfl rfl rfl rfl rfl rfl rfl SlOf.own e39 ?_
   intro v40
   refine RL.reL (L' := [own 3 TR.int v40 (l2 ++ ([(i22 : Int)] : (List Int))), own 3 TR.int v37 ([(i22 : Int)] : (List Int))]) rfl ?_
   refine RL.asg rfl rfl rfl ?_
   refine RL.finG ?_
   refine GL.nilB ?_
   refine GL.region ?_
   refine RL.binI (v := .int .i64 ((i22 + 1 : Nat) : Int)) rfl rfl rfl rfl (binI_succ i22 (by omega)) ?_
   refine RL.mv rfl rfl rfl ?_
   refine RL.fin ?_
   cases h25
   exact fun a w st => lop_intro (i22 + 1, r32, (l2 ++ ([(i22 : Int)] : (List Int))), v40) ⟨by show i22 + 1 + r32 = (x0).toNat; omega, h26⟩ (by simp) (St.cut [0] ⟨rfl, rfl, rfl, trivial⟩ (by decide) rfl st)
  have h31 : ¬ i22 < (x0).toNat := by have := of_decide_eq_false b30; omega
  obtain rfl : r23 = 0 := by omega
  replace h27 : some (Fl.nx _) = some y15 := h27
  cases h27
  exact GL.exit (fun a w st => mid_intro (l2, v3) h18 (St.cut [0] ⟨rfl, trivial⟩ (by decide) rfl st))
 rintro ⟨l2, v3⟩ h41
 have h42 := h19 _ h41
 try dsimp only at h42
 refine GL.weak (env' := [(3, v3)]) (L' := [own 3 TR.int v3 l2]) (fun _ _ st => st) ?_
 refine GL.seq ?_
 refine GL.region ?_
 refine RL.mv rfl rfl rfl ?_
 refine RL.asg rfl rfl rfl ?_
 refine RL.finG ?_
 have h42 := Option.some.inj h42
 subst h42
 exact GL.ret (Gx.ret (v := v3) (res1 rfl rfl) (fun a w st => (st.pick [0] (by decide) rfl).toPost v3))

set_option maxHeartbeats 4000000 in
theorem slices_Delete_int_int_c (B : World) (S X : Hp) (f : Nat → Hp) (w : World) (v0 : Value) (x0 : List Int) (hO : HeapOk B.heap.size S f [own 3 TR.int v0 x0, keep X].length w) (hB : Below B.heap.size B w) (hI : Its [own 3 TR.int v0 x0, keep X] S f) (x1 x2 : Int) (res : List Int) (hm : slices_Delete_int_int_m x0 x1 x2 = some res) : Calls Try.prog 49 #[v0, .int .i64 x1, .int .i64 x2] w (PostM B S (fun (o : Value) => o) (fun (o : Value) => [own 3 TR.int o res, keep X])) := by
  refine calls_enterM 33 Try.func49 Try.ntmps49 rfl B S f [(0, v0), (1, .int .i64 x1), (2, .int .i64 x2)] [own 3 TR.int v0 x0, keep X] [] rfl ⟨rfl, rfl, rfl, trivial⟩ hB hO hI trivial ?_
  unfold slices_Delete_int_int_m at hm
  obtain ⟨_, hc, hm⟩ := bind_some hm
  replace hc := chk_some hc
  have hm := Option.some.inj hm
  subst hm
  obtain ⟨i, rfl⟩ : ∃ i : Nat, x1 = (i : Int) := ⟨x1.toNat, by omega⟩
  obtain ⟨j, rfl⟩ : ∃ j : Nat, x2 = (j : Int) := ⟨x2.toNat, by omega⟩
  simp only [Int.toNat_natCast]
  refine GL.capO 0 rfl (fun hcap hmax hrl hcr => ?_)
  repeat refine GL.seq ?_
  refine GL.region ?_
  refine RL.asg rfl rfl rfl ?_
  refine RL.finG ?_
  repeat refine GL.seq ?_
  refine GL.region ?_
  refine RL.mv rfl rfl rfl ?_
  refine RL.mv rfl rfl rfl ?_
  refine RL.mv rfl rfl rfl ?_
  refine RL.mv rfl rfl rfl ?_
  refine RL.lenS 0 Try.underlying24 rfl rfl rfl rfl SlOf.own ?_
  refine RL.cut3 (i := i) (j := j) (m := x0.length) 0 Try.underlying24 Try_ln3 rfl rfl rfl rfl rfl rfl rfl (by omega) (by omega) (by omega) ?_
  intro u
  refine RL.finG ?_
  repeat refine GL.seq ?_
  refine GL.region ?_
  refine RL.mv rfl rfl rfl ?_
  refine RL.mv rfl rfl rfl ?_
  refine RL.binI (v := .bool ((i : Int) == (j : Int))) rfl rfl rfl rfl rfl ?_
  refine RL.finG ?_
  repeat refine GL.seq ?_
  refine GL.cond rfl (fun h => ?_) (fun h => ?_)
  · have hij : i = j := by have := of_decide_eq_true (p := (i : Int) = (j : Int)) (by simpa using h); omega
    subst hij
    repeat refine GL.seq ?_
    refine GL.region ?_
    refine RL.mv rfl rfl rfl ?_
    refine RL.asg rfl rfl rfl ?_
    refine RL.finG ?_
    have hx : x0.take i ++ x0.drop i = x0 := List.take_append_drop _ _
    rw [hx]
    exact GL.ret (Gx.ret (v := v0) (res1 rfl rfl) (fun a w st => (st.pick [0, 1] (by decide) rfl).toPostM (LR := fun (o : Value) => [own 3 TR.int o x0, keep X]) v0))
  · have hij : i ≠ j := fun e => by subst e; simp at h
    have hll : (x0.take i ++ x0.drop j).length = i + (x0.length - j) := by rw [List.length_append, List.length_take, List.length_drop]; omega
    refine GL.skip ?_
    repeat refine GL.seq ?_
    refine GL.region ?_
    refine RL.mv rfl rfl rfl ?_
    refine RL.lenS 0 Try.underlying24 rfl rfl rfl rfl SlOf.own ?_
    refine RL.asg rfl rfl rfl ?_
    refine RL.finG ?_
    repeat refine GL.seq ?_
    refine GL.regionH 6 rfl rfl (by kernel_rfl) ?_
    simp only [List.take_succ_cons, List.take_zero, List.drop_succ_cons, List.drop_zero]
    refine RL.mv rfl rfl rfl ?_
    refine RL.mv rfl rfl rfl ?_
    refine RL.cutO (i := 0) (j := i) 0 Try.underlying24 Try_ln3 rfl rfl rfl (Or.inl ⟨rfl, rfl⟩) (Or.inr ⟨_, _, rfl, rfl⟩) rfl (by omega) (by show i ≤ capv v0; omega) ?_
    refine RL.mv rfl rfl rfl ?_
    refine RL.mv rfl rfl rfl ?_
    refine RL.cutO (i := j) (j := x0.length) 0 Try.underlying24 Try_ln3 rfl rfl rfl (Or.inr ⟨_, _, rfl, rfl⟩) (Or.inl ⟨rfl, rfl⟩) rfl (by omega) hcap ?_
    refine RL.finH ?_
    refine RL.del (i := i) (j := j) 0 Try.underlying24 Try_lo3 rfl rfl rfl rfl rfl rfl (by omega) (by omega) ?_
    refine RL.asg rfl rfl rfl ?_
    refine RL.finG ?_
    repeat refine GL.seq ?_
    refine GL.region ?_
    refine RL.mv rfl rfl rfl ?_
    refine RL.mv rfl rfl rfl ?_
    refine RL.lenS 0 Try.underlying24 rfl rfl rfl rfl SlOf.own ?_
    refine RL.mv rfl rfl rfl ?_
    refine RL.cutO (i := (x0.take i ++ x0.drop j).length) (j := x0.length) 0 Try.underlying24 Try_ln3 rfl rfl rfl (Or.inr ⟨_, _, rfl, rfl⟩) (Or.inr ⟨_, _, rfl, rfl⟩) rfl (by omega) (by rw [hcr]; exact hcap) ?_
    refine RL.clr (j := x0.length) 0 Try.underlying24 Try_lo3 (by decide) rfl rfl rfl rfl (by omega) (by rw [hcr]; exact hcap) ?_
    refine RL.finG ?_
    repeat refine GL.seq ?_
    refine GL.region ?_
    refine RL.mv rfl rfl rfl ?_
    refine RL.asg rfl rfl rfl ?_
    refine RL.finG ?_
    exact GL.ret (Gx.ret (v := relen v0 (i + (x0.length - j))) (res1 rfl rfl) (fun a w st => (st.pick [0, 1] (by decide) rfl).toPostM (LR := fun (o : Value) => [own 3 TR.int o (x0.take i ++ x0.drop j), keep X]) (relen v0 (i + (x0.length - j)))))

set_option maxHeartbeats 4000000 in
theorem pk_OrderOf_c (S : Hp) (w : World) (hS : S.sub w) (x0 : Int) (v1 : Value) (x1 : (List Int)) (k1 : ((TR.sl TR.int)).vrep S v1 x1) (res : (List Int)) (hm : pk_OrderOf_m x0 x1 = some res) : Calls Try.prog 29 #[.int .i64 x0, v1] w (Post w S (fun (o : Value) => o) (fun (o : Value) => [own 3 TR.int o res])) := by
 refine calls_enter 40 Try.func29 Try.ntmps29 rfl S false [(0, .int .i64 x0), (1, v1)] [imm (TR.sl TR.int) v1 x1] rfl ⟨rfl, ⟨rfl, trivial⟩⟩ hS ⟨k1, trivial⟩ ?_
 unfold pk_OrderOf_m at hm
 refine GL.seq ?_
 refine GL.region ?_
 refine RL.asg rfl rfl rfl ?_
 refine RL.finG ?_
 refine GL.seq ?_
 refine GL.region ?_
 refine RL.mv rfl rfl rfl ?_
 obtain ⟨y6, e7, hm⟩ := bind_some hm
 refine RL.call (vs := [.int .i64 x0]) Try_fit48 rfl rfl rfl rfl rfl (fun S f w hS hW hi => ref_Sides_c S w hS x0 _ e7) ?_
 intro v8
 refine RL.asg rfl rfl rfl ?_
 refine RL.finG ?_
 refine GL.seq ?_
 refine GL.region ?_
 refine RL.asg rfl rfl rfl ?_
 refine RL.finG ?_
 refine GL.seq ?_
 refine GL.seq ?_
 refine GL.region ?_
 refine RL.mv rfl rfl rfl ?_
 refine RL.mv rfl rfl rfl ?_
 refine RL.finG ?_
 refine GL.weak (fun a w st => st.nilOwn 3 TR.int) ?_
 obtain ⟨y60, e61, hm⟩ := bind_some hm
 replace e61 := chk_some e61
 obtain ⟨y62, K63, h64, h65, h66, h67, h68⟩ := bindR_K hm
 refine GL.join (ι := (List Int) × (List Int) × Value) (fun (p : (List Int) × (List Int) × Value) => [(6, p.2.2)]) (fun (p : (List Int) × (List Int) × Value) => [own 3 TR.int p.2.2 p.2.1]) (fun (p : (List Int) × (List Int) × Value) => K63 (.nx (p.1, p.2.1))) ?_ ?_
 ·refine GL.block ?_
  refine GL.loop (ι := Nat × Nat × (List Int) × (List Int) × Value × Value) (fun (p : Nat × Nat × (List Int) × (List Int) × Value × Value) => [(1, v1), (5, p.2.2.2.2.1), (6, p.2.2.2.2.2), (11, .int .i64 x0), (12, .int .i64 (p.1 : Int))]) (fun (p : Nat × Nat × (List Int) × (List Int) × Value × Value) => [imm (TR.sl TR.int) v1 x1, own 3 TR.int p.2.2.2.2.1 p.2.2.1, own 3 TR.int p.2.2.2.2.2 p.2.2.2.1]) (fun (p : Nat × Nat × (List Int) × (List Int) × Value × Value) => p.1 + p.2.1 = (x0).toNat ∧ rangeN (pk_OrderOf_b1 x1) p.2.1 p.1 (p.2.2.1, p.2.2.2.1) = some y62) (fun (p : Nat × Nat × (List Int) × (List Int) × Value × Value) => p.2.1) (0, (x0).toNat, y6, [], v8, Value.slice none 0 0) ⟨by simp, h64⟩ (fun a w st => St.cut [0, 1, 2] ⟨rfl, rfl, rfl, rfl, rfl, trivial⟩ (by decide) rfl st) ?_
  rintro ⟨i69, r70, l9, l11, v10, v12⟩ ⟨h75, h74⟩
  try dsimp only at h75 h74
  refine GL.weak (env' := [(1, v1), (5, v10), (6, v12), (11, .int .i64 x0), (12, .int .i64 (i69 : Int))]) (L' := [imm (TR.sl TR.int) v1 x1, own 3 TR.int v10 l9, own 3 TR.int v12 l11]) (fun _ _ st => st) ?_
  refine GL.seq ?_
  refine GL.region ?_
  refine RL.binI (v := .bool (decide ((i69 : Int) < x0))) rfl rfl rfl rfl rfl ?_
  refine RL.finG ?_
  refine GL.seq ?_
  refine GL.cond rfl (fun b77 => ?_) (fun b77 => ?_)
  ·have h78 : i69 < (x0).toNat := by have := of_decide_eq_true b77; omega
   obtain ⟨r79, hr⟩ : ∃ m, r70 = m + 1 := ⟨r70 - 1, by omega⟩
   subst hr
   obtain ⟨z71, h72, h73⟩ := rangeN_some h74
   unfold pk_OrderOf_b1 at h72
   try dsimp only at h72
   refine GL.skip ?_
   refine GL.seq ?_
   refine GL.block ?_
   refine GL.seq ?_
   refine GL.region ?_
   refine RL.mv rfl rfl rfl ?_
   refine RL.asg rfl rfl rfl ?_
   refine RL.finG ?_
   refine GL.seq ?_
   refine GL.region ?_
   refine RL.asg rfl rfl rfl ?_
   refine RL.finG ?_
   refine GL.seq ?_
   refine GL.seq ?_
   refine GL.region ?_
   refine RL.mv rfl rfl rfl ?_
   refine RL.mv rfl rfl rfl ?_
   refine RL.lenS 0 Try.underlying24 rfl rfl rfl rfl SlOf.imm ?_
   refine RL.binI (v := .bool (decide ((i69 : Int) < ((x1).length : Int)))) rfl rfl rfl rfl rfl ?_
   refine RL.finG ?_
   obtain ⟨y90, K91, h92, h93, h94, h95, h96⟩ := bindF_K h72
   refine GL.join (ι := Int) (fun (p : Int) => [(1, v1), (5, v10), (6, v12), (8, .int .i64 p), (11, .int .i64 x0), (12, .int .i64 (i69 : Int))]) (fun (p : Int) => [imm (TR.sl TR.int) v1 x1, own 3 TR.int v10 l9, own 3 TR.int v12 l11]) (fun (p : Int) => K91 (.nx p)) ?_ ?_
   ·skip
    refine GL.cond rfl (fun b97 => ?_) (fun b97 => ?_)
    ·replace h92 := ite_t b97 h92
     refine GL.region ?_
     refine RL.mv rfl rfl rfl ?_
     refine RL.mv rfl rfl rfl ?_
     obtain ⟨y102, e103, h92⟩ := bind_some h92
     refine RL.idxS (sz := 1) 0 Try.underlying24 Try_ln3 rfl rfl rfl rfl rfl SlOf.imm (idx_some e103).1 (idx_some e103).2.1 ?_
     refine RL.ldSx (i := i69) (e' := y102) 0 Ex.ik Try_ln3 rfl rfl rfl rfl SlOf.imm (idx_some e103).2.2 Part.self ?_
     refine RL.mv rfl rfl rfl ?_
     refine RL.lenS 1 Try.underlying24 rfl rfl rfl rfl SlOf.own ?_
     obtain ⟨y104, e105, h92⟩ := bind_some h92
     refine RL.callC (v := .int .i64 y104) (vs := [.int .i64 y102, .int .i64 ((l9).length : Int)]) Try_fit17 rfl rfl rfl rfl (fun U w hU hW hL => pk_Within_c U w hU y102 ((l9).length : Int) _ e105) ?_
     refine RL.asg rfl rfl rfl ?_
     refine RL.finG ?_
     cases h92
     exact fun a w st => mid_intro y104 h93 (St.cut [0, 1, 2] ⟨rfl, rfl, rfl, rfl, rfl, rfl, trivial⟩ (by decide) rfl st)
    replace h92 := ite_f b97 h92
    refine GL.skip ?_
    cases h92
    exact fun a w st => mid_intro (0 : Int) h93 (St.cut [0, 1, 2] ⟨rfl, rfl, rfl, rfl, rfl, rfl, trivial⟩ (by decide) rfl st)
   rintro x89 h106
   have h107 := h94 _ h106
   try dsimp only at h107
   refine GL.weak (env' := [(1, v1), (5, v10), (6, v12), (8, .int .i64 x89), (11, .int .i64 x0), (12, .int .i64 (i69 : Int))]) (L' := [imm (TR.sl TR.int) v1 x1, own 3 TR.int v10 l9, own 3 TR.int v12 l11]) (fun _ _ st => st) ?_
   refine GL.seq ?_
   refine GL.region ?_
   refine RL.mv rfl rfl rfl ?_
   refine RL.mv rfl rfl rfl ?_
   refine RL.mv rfl rfl rfl ?_
   obtain ⟨y114, e115, h107⟩ := bind_some h107
   refine RL.idxS (sz := 1) 1 Try.underlying24 Try_ln3 rfl rfl rfl rfl rfl SlOf.own (idx_some e115).1 (idx_some e115).2.1 ?_
   refine RL.ldSx (i := (x89).toNat) (e' := y114) 1 Ex.ik Try_ln3 rfl rfl rfl rfl SlOf.own (idx_some e115).2.2 Part.self ?_
   refine RL.bS (t := TR.int) (vs := [.int .i64 y114]) ([y114] : (List Int)) Try.underlying24 Try_lo3 rfl rfl rfl rfl ⟨VR.int, trivial⟩ rfl (by decide) ?_
   intro v116
   obtain ⟨y117, e118, h107⟩ := bind_some h107
   replace e118 := chk_some e118
   refine RL.app 2 3 Try.underlying24 Try_lo3 rfl rfl rfl rfl rfl rfl rfl SlOf.own e118 ?_
   intro v119
   refine RL.reL (L' := [imm (TR.sl TR.int) v1 x1, own 3 TR.int v10 l9, own 3 TR.int v119 (l11 ++ ([y114] : (List Int))), own 3 TR.int v116 ([y114] : (List Int))]) rfl ?_
   refine RL.asg rfl rfl rfl ?_
   refine RL.finG ?_
   refine GL.region ?_
   refine RL.mv rfl rfl rfl ?_
   refine RL.mv rfl rfl rfl ?_
   refine RL.mv rfl rfl rfl ?_
   refine RL.binI (v := .int .i64 (wadd x89 (1 : Int))) rfl rfl rfl rfl rfl ?_
   obtain ⟨y123, e124, h107⟩ := bind_some h107
   refine RL.callK (vs := [v10, .int .i64 x89, .int .i64 (wadd x89 (1 : Int))]) (V := fun (o : Value) => o) (LR := fun (o : Value) => [own 3 TR.int o y123]) (Ls := [own 3 TR.int v10 l9]) [1] (by decide) Try_fit49 rfl rfl rfl rfl rfl rfl (fun S f X w hO hB hW hI hL => slices_Delete_int_int_c _ S X f w _ _ hO hB hI x89 (wadd x89 (1 : Int)) _ e124) ?_
   intro v125
   refine RL.reL (L' := [imm (TR.sl TR.int) v1 x1, gone, own 3 TR.int v119 (l11 ++ ([y114] : (List Int))), own 3 TR.int v116 ([y114] : (List Int)), own 3 TR.int v125 y123]) rfl ?_
   refine RL.asg rfl rfl rfl ?_
   refine RL.finG ?_
   refine GL.nilB ?_
   refine GL.region ?_
   refine RL.binI (v := .int .i64 ((i69 + 1 : Nat) : Int)) rfl rfl rfl rfl (binI_succ i69 (by omega)) ?_
   refine RL.mv rfl rfl rfl ?_
   refine RL.fin ?_
   cases h107
   exact fun a w st => lop_intro (i69 + 1, r79, y123, (l11 ++ ([y114] : (List Int))), v125, v119) ⟨by show i69 + 1 + r79 = (x0).toNat; omega, h73⟩ (by simp) (St.cut [0, 4, 2] ⟨rfl, rfl, rfl, rfl, rfl, trivial⟩ (by decide) rfl st)
  have h78 : ¬ i69 < (x0).toNat := by have := of_decide_eq_false b77; omega
  obtain rfl : r70 = 0 := by omega
  replace h74 : some (Fl.nx _) = some y62 := h74
  cases h74
  exact GL.exit (fun a w st => mid_intro (l9, l11, v12) h65 (St.cut [2] ⟨rfl, trivial⟩ (by decide) rfl st))
 rintro ⟨l9, l11, v12⟩ h126
 have h127 := h66 _ h126
 try dsimp only at h127
 refine GL.weak (env' := [(6, v12)]) (L' := [own 3 TR.int v12 l11]) (fun _ _ st => st) ?_
 refine GL.seq ?_
 refine GL.region ?_
 refine RL.mv rfl rfl rfl ?_
 refine RL.asg rfl rfl rfl ?_
 refine RL.finG ?_
 have h127 := Option.some.inj h127
 subst h127
 exact GL.ret (Gx.ret (v := v12) (res1 rfl rfl) (fun a w st => (st.pick [0] (by decide) rfl).toPost v12))

set_option maxHeartbeats 4000000 in
theorem pk_LikesOf_c (S : Hp) (w : World) (hS : S.sub w) (x0 : Int) (v1 : Value) (x1 : (List (List Int))) (k1 : ((TR.sl (TR.sl TR.int))).vrep S v1 x1) (res : (List (List Int))) (hm : pk_LikesOf_m x0 x1 = some res) : Calls Try.prog 36 #[.int .i64 x0, v1] w (Post w S (fun (o : Value) => o) (fun (o : Value) => [own 24 (TR.sl TR.int) o res])) := by
 refine calls_enter 28 Try.func36 Try.ntmps36 rfl S false [(0, .int .i64 x0), (1, v1)] [imm (TR.sl (TR.sl TR.int)) v1 x1] rfl ⟨rfl, ⟨rfl, trivial⟩⟩ hS ⟨k1, trivial⟩ ?_
 unfold pk_LikesOf_m at hm
 refine GL.seq ?_
 refine GL.region ?_
 refine RL.asg rfl rfl rfl ?_
 refine RL.finG ?_
 refine GL.seq ?_
 refine GL.region ?_
 refine RL.asg rfl rfl rfl ?_
 refine RL.finG ?_
 refine GL.seq ?_
 refine GL.seq ?_
 refine GL.region ?_
 refine RL.mv rfl rfl rfl ?_
 refine RL.mv rfl rfl rfl ?_
 refine RL.finG ?_
 refine GL.weak (fun a w st => st.nilOwn 24 (TR.sl TR.int)) ?_
 obtain ⟨y52, e53, hm⟩ := bind_some hm
 replace e53 := chk_some e53
 obtain ⟨y54, K55, h56, h57, h58, h59, h60⟩ := bindR_K hm
 refine GL.join (ι := (List (List Int)) × Value) (fun (p : (List (List Int)) × Value) => [(5, p.2)]) (fun (p : (List (List Int)) × Value) => [own 24 (TR.sl TR.int) p.2 p.1]) (fun (p : (List (List Int)) × Value) => K55 (.nx p.1)) ?_ ?_
 ·refine GL.block ?_
  refine GL.loop (ι := Nat × Nat × (List (List Int)) × Value) (fun (p : Nat × Nat × (List (List Int)) × Value) => [(0, .int .i64 x0), (1, v1), (5, p.2.2.2), (8, .int .i64 x0), (9, .int .i64 (p.1 : Int))]) (fun (p : Nat × Nat × (List (List Int)) × Value) => [imm (TR.sl (TR.sl TR.int)) v1 x1, own 24 (TR.sl TR.int) p.2.2.2 p.2.2.1]) (fun (p : Nat × Nat × (List (List Int)) × Value) => p.1 + p.2.1 = (x0).toNat ∧ rangeN (pk_LikesOf_b1 x1 x0) p.2.1 p.1 p.2.2.1 = some y54) (fun (p : Nat × Nat × (List (List Int)) × Value) => p.2.1) (0, (x0).toNat, [], Value.slice none 0 0) ⟨by simp, h56⟩ (fun a w st => St.cut [0, 1] ⟨rfl, rfl, rfl, rfl, rfl, trivial⟩ (by decide) rfl st) ?_
  rintro ⟨i61, r62, l3, v4⟩ ⟨h67, h66⟩
  try dsimp only at h67 h66
  refine GL.weak (env' := [(0, .int .i64 x0), (1, v1), (5, v4), (8, .int .i64 x0), (9, .int .i64 (i61 : Int))]) (L' := [imm (TR.sl (TR.sl TR.int)) v1 x1, own 24 (TR.sl TR.int) v4 l3]) (fun _ _ st => st) ?_
  refine GL.seq ?_
  refine GL.region ?_
  refine RL.binI (v := .bool (decide ((i61 : Int) < x0))) rfl rfl rfl rfl rfl ?_
  refine RL.finG ?_
  refine GL.seq ?_
  refine GL.cond rfl (fun b69 => ?_) (fun b69 => ?_)
  ·have h70 : i61 < (x0).toNat := by have := of_decide_eq_true b69; omega
   obtain ⟨r71, hr⟩ : ∃ m, r62 = m + 1 := ⟨r62 - 1, by omega⟩
   subst hr
   obtain ⟨z63, h64, h65⟩ := rangeN_some h66
   unfold pk_LikesOf_b1 at h64
   try dsimp only at h64
   refine GL.skip ?_
   refine GL.seq ?_
   refine GL.block ?_
   refine GL.seq ?_
   refine GL.region ?_
   refine RL.mv rfl rfl rfl ?_
   refine RL.asg rfl rfl rfl ?_
   refine RL.finG ?_
   refine GL.seq ?_
   refine GL.region ?_
   refine RL.asg rfl rfl rfl ?_
   refine RL.finG ?_
   refine GL.seq ?_
   refine GL.seq ?_
   refine GL.region ?_
   refine RL.mv rfl rfl rfl ?_
   refine RL.mv rfl rfl rfl ?_
   refine RL.lenS 0 Try.underlying25 rfl rfl rfl rfl SlOf.imm ?_
   refine RL.binI (v := .bool (decide ((i61 : Int) < ((x1).length : Int)))) rfl rfl rfl rfl rfl ?_
   refine RL.finG ?_
   refine GL.weak (fun a w st => st.nilOwn 3 TR.int) ?_
   obtain ⟨y88, K89, h90, h91, h92, h93, h94⟩ := bindF_K h64
   refine GL.join (ι := (List Int) × Value) (fun (p : (List Int) × Value) => [(0, .int .i64 x0), (1, v1), (5, v4), (7, p.2), (8, .int .i64 x0), (9, .int .i64 (i61 : Int))]) (fun (p : (List Int) × Value) => [imm (TR.sl (TR.sl TR.int)) v1 x1, own 24 (TR.sl TR.int) v4 l3, imm (TR.sl TR.int) p.2 p.1]) (fun (p : (List Int) × Value) => K89 (.nx p.1)) ?_ ?_
   ·skip
    refine GL.cond rfl (fun b95 => ?_) (fun b95 => ?_)
    ·replace h90 := ite_t b95 h90
     refine GL.region ?_
     refine RL.mv rfl rfl rfl ?_
     refine RL.mv rfl rfl rfl ?_
     obtain ⟨y99, e100, h90⟩ := bind_some h90
     refine RL.idxS (sz := 1) 0 Try.underlying25 Try_ln24 rfl rfl rfl rfl rfl SlOf.imm (idx_some e100).1 (idx_some e100).2.1 ?_
     refine RL.ldS (i := i61) (r := (TR.sl TR.int)) (e' := y99) 0 Try_ln24 rfl rfl rfl rfl SlOf.imm (idx_some e100).2.2 Part.self ?_
     intro v101
     refine RL.asg rfl rfl rfl ?_
     refine RL.finG ?_
     cases h90
     exact fun a w st => mid_intro (y99, v101) h91 (St.cut [0, 1, 3] ⟨rfl, rfl, rfl, rfl, rfl, rfl, trivial⟩ (by decide) rfl st)
    replace h90 := ite_f b95 h90
    refine GL.skip ?_
    refine GL.weak (fun a w st => st.freeze 2 rfl) ?_
    cases h90
    exact fun a w st => mid_intro ([], Value.slice none 0 0) h91 (St.cut [0, 1, 2] ⟨rfl, rfl, rfl, rfl, rfl, rfl, trivial⟩ (by decide) rfl st)
   rintro ⟨l86, v87⟩ h102
   have h103 := h92 _ h102
   try dsimp only at h103
   refine GL.weak (env' := [(0, .int .i64 x0), (1, v1), (5, v4), (7, v87), (8, .int .i64 x0), (9, .int .i64 (i61 : Int))]) (L' := [imm (TR.sl (TR.sl TR.int)) v1 x1, own 24 (TR.sl TR.int) v4 l3, imm (TR.sl TR.int) v87 l86]) (fun _ _ st => st) ?_
   refine GL.region ?_
   refine RL.mv rfl rfl rfl ?_
   refine RL.mv rfl rfl rfl ?_
   refine RL.mv rfl rfl rfl ?_
   obtain ⟨y111, e112, h103⟩ := bind_some h103
   refine RL.call (vs := [.int .i64 x0, v87]) Try_fit29 rfl rfl rfl rfl rfl (fun S f w hS hW hi => pk_OrderOf_c S w hS x0 _ _ (hi 2 _ rfl) _ e112) ?_
   intro v113
   refine RL.weak (fun a w st => st.freeze 3 rfl) ?_
   refine RL.bS (t := (TR.sl TR.int)) (vs := [v113]) ([y111] : (List (List Int))) Try.underlying25 Try_lo24 rfl rfl rfl rfl ⟨(VR.item 3 rfl), trivial⟩ rfl (by decide) ?_
   intro v114
   refine RL.reL (L' := [imm (TR.sl (TR.sl TR.int)) v1 x1, own 24 (TR.sl TR.int) v4 l3, imm (TR.sl TR.int) v87 l86, imm (TR.sl TR.int) v113 y111, own 24 (TR.sl TR.int) v114 ([y111] : (List (List Int)))]) rfl ?_
   obtain ⟨y115, e116, h103⟩ := bind_some h103
   replace e116 := chk_some e116
   refine RL.app 1 4 Try.underlying25 Try_lo24 rfl rfl rfl rfl rfl rfl rfl SlOf.own e116 ?_
   intro v117
   refine RL.asg rfl rfl rfl ?_
   refine RL.finG ?_
   refine GL.nilB ?_
   refine GL.region ?_
   refine RL.binI (v := .int .i64 ((i61 + 1 : Nat) : Int)) rfl rfl rfl rfl (binI_succ i61 (by omega)) ?_
   refine RL.mv rfl rfl rfl ?_
   refine RL.fin ?_
   cases h103
   exact fun a w st => lop_intro (i61 + 1, r71, (l3 ++ ([y111] : (List (List Int)))), v117) ⟨by show i61 + 1 + r71 = (x0).toNat; omega, h65⟩ (by simp) (St.cut [0, 1] ⟨rfl, rfl, rfl, rfl, rfl, trivial⟩ (by decide) rfl st)
  have h70 : ¬ i61 < (x0).toNat := by have := of_decide_eq_false b69; omega
  obtain rfl : r62 = 0 := by omega
  replace h66 : some (Fl.nx _) = some y54 := h66
  cases h66
  exact GL.exit (fun a w st => mid_intro (l3, v4) h57 (St.cut [1] ⟨rfl, trivial⟩ (by decide) rfl st))
 rintro ⟨l3, v4⟩ h118
 have h119 := h58 _ h118
 try dsimp only at h119
 refine GL.weak (env' := [(5, v4)]) (L' := [own 24 (TR.sl TR.int) v4 l3]) (fun _ _ st => st) ?_
 refine GL.seq ?_
 refine GL.region ?_
 refine RL.mv rfl rfl rfl ?_
 refine RL.asg rfl rfl rfl ?_
 refine RL.finG ?_
 have h119 := Option.some.inj h119
 subst h119
 exact GL.ret (Gx.ret (v := v4) (res1 rfl rfl) (fun a w st => (st.pick [0] (by decide) rfl).toPost v4))

set_option maxHeartbeats 4000000 in
theorem slices_Index_int_int_c (S : Hp) (w : World) (hS : S.sub w) (v0 : Value) (x0 : (List Int)) (k0 : ((TR.sl TR.int)).vrep S v0 x0) (x1 : Int) (res : Int) (hm : slices_Index_int_int_m x0 x1 = some res) : Calls Try.prog 39 #[v0, .int .i64 x1] w (PostC w (.int .i64 res)) := by
 refine calls_enter 19 Try.func39 Try.ntmps39 rfl S true [(0, v0), (1, .int .i64 x1)] [imm (TR.sl TR.int) v0 x0] rfl ⟨rfl, ⟨rfl, trivial⟩⟩ hS ⟨k0, trivial⟩ ?_
 unfold slices_Index_int_int_m at hm
 refine GL.seq ?_
 refine GL.region ?_
 refine RL.asg rfl rfl rfl ?_
 refine RL.finG ?_
 refine GL.seq ?_
 refine GL.seq ?_
 refine GL.region ?_
 refine RL.mv rfl rfl rfl ?_
 refine RL.lenS 0 Try.underlying24 rfl rfl rfl rfl SlOf.imm ?_
 refine RL.mv rfl rfl rfl ?_
 refine RL.finG ?_
 refine GL.open_ 0 rfl (fun S h => len_imm S h) (fun n8 => ?_)
 obtain ⟨y9, K10, h11, h12, h13, h14, h15⟩ := bindR_K hm
 refine GL.join (ι := Unit) (fun (p : Unit) => []) (fun (p : Unit) => []) (fun (p : Unit) => K10 (.nx ())) ?_ ?_
 ·refine GL.block ?_
  refine GL.loop (ι := Nat × (List Int)) (fun (p : Nat × (List Int)) => [(0, v0), (1, .int .i64 x1), (7, .int .i64 ((x0).length : Int)), (8, .int .i64 (p.1 : Int))]) (fun (p : Nat × (List Int)) => [imm (TR.sl TR.int) v0 x0]) (fun (p : Nat × (List Int)) => p.1 + p.2.length = (x0).length ∧ List.drop p.1 x0 = p.2 ∧ rangeL (slices_Index_int_int_b1 x1) p.2 p.1 () = some y9) (fun (p : Nat × (List Int)) => p.2.length) (0, x0) ⟨by simp, by simp, h11⟩ (fun a w st => St.cut [0] ⟨rfl, rfl, rfl, rfl, trivial⟩ (by decide) rfl st) ?_
  rintro ⟨i17, r18⟩ ⟨h23, h24, h22⟩
  try dsimp only at h23 h24 h22
  refine GL.weak (env' := [(0, v0), (1, .int .i64 x1), (7, .int .i64 ((x0).length : Int)), (8, .int .i64 (i17 : Int))]) (L' := [imm (TR.sl TR.int) v0 x0]) (fun _ _ st => st) ?_
  refine GL.seq ?_
  refine GL.region ?_
  refine RL.binI (v := .bool (decide ((i17 : Int) < ((x0).length : Int)))) rfl rfl rfl rfl rfl ?_
  refine RL.finG ?_
  refine GL.seq ?_
  refine GL.cond rfl (fun b25 => ?_) (fun b25 => ?_)
  ·have h26 : i17 < (x0).length := by have := of_decide_eq_true b25; omega
   obtain ⟨y27, r29, hr, e28, h30⟩ := drop_cons h24 rfl h26
   subst hr
   obtain ⟨z19, h20, h21⟩ := rangeL_some h22
   unfold slices_Index_int_int_b1 at h20
   try dsimp only at h20
   refine GL.skip ?_
   refine GL.seq ?_
   refine GL.block ?_
   refine GL.seq ?_
   refine GL.region ?_
   refine RL.mv rfl rfl rfl ?_
   refine RL.asg rfl rfl rfl ?_
   refine RL.finG ?_
   refine GL.seq ?_
   refine GL.region ?_
   refine RL.mv rfl rfl rfl ?_
   refine RL.mv rfl rfl rfl ?_
   refine RL.mv rfl rfl rfl ?_
   refine RL.idxS (sz := 1) 0 Try.underlying24 Try_ln3 rfl rfl rfl rfl rfl SlOf.imm (by omega) (by omega) ?_
   refine RL.ldSx (i := i17) (e' := y27) 0 Ex.ik Try_ln3 rfl rfl rfl rfl SlOf.imm e28 Part.self ?_
   refine RL.binI (v := .bool (x1 == y27)) rfl rfl rfl rfl rfl ?_
   refine RL.finG ?_
   refine GL.cond rfl (fun b31 => ?_) (fun b31 => ?_)
   ·replace h20 := ite_t b31 h20
    refine GL.seq ?_
    refine GL.region ?_
    refine RL.mv rfl rfl rfl ?_
    refine RL.asg rfl rfl rfl ?_
    refine RL.finG ?_
    cases h20
    replace h21 : some (Fl.rt _) = some y9 := h21
    cases h21
    have hh := h14 _ h12
    subst hh
    exact GL.ret (Gx.ret (v := .int .i64 (i17 : Int)) (res1 rfl rfl) (fun a w st => st.toPostC rfl))
   replace h20 := ite_f b31 h20
   refine GL.skip ?_
   refine GL.nilB ?_
   refine GL.region ?_
   refine RL.binI (v := .int .i64 ((i17 + 1 : Nat) : Int)) rfl rfl rfl rfl (binI_succ i17 (by omega)) ?_
   refine RL.mv rfl rfl rfl ?_
   refine RL.fin ?_
   cases h20
   exact fun a w st => lop_intro (i17 + 1, r29) ⟨by show i17 + 1 + r29.length = (x0).length; simp only [List.length_cons] at h23; omega, h30, h21⟩ (by simp) (St.cut [0] ⟨rfl, rfl, rfl, rfl, trivial⟩ (by decide) rfl st)
  have h26 : ¬ i17 < (x0).length := by have := of_decide_eq_false b25; omega
  obtain rfl : r18 = [] := by rw [← h24]; exact List.drop_of_length_le (by omega)
  replace h22 : some (Fl.nx _) = some y9 := h22
  cases h22
  exact GL.exit (fun a w st => mid_intro () h12 (St.cut [] trivial (by decide) rfl st))
 rintro ⟨⟩ h32
 have h33 := h13 _ h32
 try dsimp only at h33
 refine GL.weak (env' := []) (L' := []) (fun _ _ st => st) ?_
 refine GL.seq ?_
 refine GL.region ?_
 refine RL.asg rfl rfl rfl ?_
 refine RL.finG ?_
 have h33 := Option.some.inj h33
 subst h33
 exact GL.ret (Gx.ret (v := .int .i64 (-1 : Int)) (res1 rfl rfl) (fun a w st => st.toPostC rfl))

set_option maxHeartbeats 4000000 in
theorem pk_TradeOnly_c (S : Hp) (w : World) (hS : S.sub w) (x0 : Int) (v1 : Value) (x1 : (List (List Int))) (k1 : ((TR.sl (TR.sl TR.int))).vrep S v1 x1) (v2 : Value) (x2 : (List Int)) (k2 : ((TR.sl TR.int)).vrep S v2 x2) (res : Bool) (hm : pk_TradeOnly_m x0 x1 x2 = some res) : Calls Try.prog 13 #[.int .i64 x0, v1, v2] w (PostV w (.bool res)) := by
 refine calls_enter 98 Try.func13 Try.ntmps13 rfl S false [(0, .int .i64 x0), (1, v1), (2, v2)] [imm (TR.sl (TR.sl TR.int)) v1 x1, imm (TR.sl TR.int) v2 x2] rfl ⟨rfl, ⟨rfl, ⟨rfl, trivial⟩⟩⟩ hS ⟨k1, ⟨k2, trivial⟩⟩ ?_
 unfold pk_TradeOnly_m at hm
 refine GL.seq ?_
 refine GL.region ?_
 refine RL.asg rfl rfl rfl ?_
 refine RL.finG ?_
 refine GL.seq ?_
 refine GL.seq ?_
 refine GL.region ?_
 refine RL.bS (t := TR.int) (vs := [.int .i64 (1 : Int), .int .i64 (0 : Int)]) ([(1 : Int), (0 : Int)] : (List Int)) Try.underlying24 Try_lo3 rfl rfl rfl rfl ⟨VR.int, ⟨VR.int, trivial⟩⟩ rfl (by decide) ?_
 intro v10
 refine RL.bS (t := TR.int) (vs := [.int .i64 (0 : Int), .int .i64 (1 : Int)]) ([(0 : Int), (1 : Int)] : (List Int)) Try.underlying24 Try_lo3 rfl rfl rfl rfl ⟨VR.int, ⟨VR.int, trivial⟩⟩ rfl (by decide) ?_
 intro v11
 refine RL.reL (L' := [imm (TR.sl (TR.sl TR.int)) v1 x1, imm (TR.sl TR.int) v2 x2, own 3 TR.int v10 ([(1 : Int), (0 : Int)] : (List Int)), own 3 TR.int v11 ([(0 : Int), (1 : Int)] : (List Int))]) rfl ?_
 refine RL.weak (fun a w st => st.freeze 2 rfl) ?_
 refine RL.weak (fun a w st => st.freeze 3 rfl) ?_
 refine RL.bS (t := (TR.sl TR.int)) (vs := [v10, v11]) ([([(1 : Int), (0 : Int)] : (List Int)), ([(0 : Int), (1 : Int)] : (List Int))] : (List (List Int))) Try.underlying25 Try_lo24 rfl rfl rfl rfl ⟨(VR.item 2 rfl), ⟨(VR.item 3 rfl), trivial⟩⟩ rfl (by decide) ?_
 intro v12
 refine RL.reL (L' := [imm (TR.sl (TR.sl TR.int)) v1 x1, imm (TR.sl TR.int) v2 x2, imm (TR.sl TR.int) v10 ([(1 : Int), (0 : Int)] : (List Int)), imm (TR.sl TR.int) v11 ([(0 : Int), (1 : Int)] : (List Int)), own 24 (TR.sl TR.int) v12 ([([(1 : Int), (0 : Int)] : (List Int)), ([(0 : Int), (1 : Int)] : (List Int))] : (List (List Int)))]) rfl ?_
 refine RL.bS (t := TR.int) (vs := [.int .i64 (0 : Int), .int .i64 (1 : Int)]) ([(0 : Int), (1 : Int)] : (List Int)) Try.underlying24 Try_lo3 rfl rfl rfl rfl ⟨VR.int, ⟨VR.int, trivial⟩⟩ rfl (by decide) ?_
 intro v13
 obtain ⟨y14, e15, hm⟩ := bind_some hm
 refine RL.callV (v := .tuple #[.bool y14.1, .int .i64 y14.2]) (vs := [v12, v13]) Try_fit40 rfl (Or.inl rfl) rfl rfl rfl rfl (fun U w hU hW hL => trade_Holds_c U w hU _ _ (hL 4 _ _ rfl Seen.own) _ _ (hL 5 _ _ rfl Seen.own) _ e15) ?_
 refine RL.mv rfl rfl rfl ?_
 refine RL.ext rfl rfl rfl rfl ?_
 refine RL.ext rfl rfl rfl rfl ?_
 refine RL.asg rfl rfl rfl ?_
 refine RL.asg rfl rfl rfl ?_
 refine RL.finG ?_
 refine GL.seq ?_
 obtain ⟨y25, K26, h27, h28, h29, h30, h31⟩ := bindR_K hm
 refine GL.join (ι := Bool) (fun (p : Bool) => [(0, .int .i64 x0), (1, v1), (2, v2), (33, .bool p)]) (fun (p : Bool) => [imm (TR.sl (TR.sl TR.int)) v1 x1, imm (TR.sl TR.int) v2 x2]) (fun (p : Bool) => K26 (.nx p)) ?_ ?_
 ·skip
  refine GL.region ?_
  refine RL.mv rfl rfl rfl ?_
  refine RL.binI (v := .bool (y14.2 != (0 : Int))) rfl rfl rfl rfl rfl ?_
  refine RL.mv rfl rfl rfl ?_
  refine RL.split (t := 27) rfl (fun b32 => ?_) (fun b32 => ?_)
  ·replace h27 := ite_t b32 h27
   refine RL.skip rfl rfl ?_
   refine RL.pickT rfl rfl rfl rfl ?_
   refine RL.mv rfl rfl rfl ?_
   refine RL.skip rfl rfl ?_
   refine RL.skip rfl rfl ?_
   refine RL.pickT rfl rfl rfl rfl ?_
   refine RL.fin ?_
   cases h27
   exact fun a w st => mid_intro true h28 (St.cut [0, 1] ⟨rfl, rfl, rfl, rfl, trivial⟩ (by decide) rfl st)
  replace h27 := ite_f b32 h27
  refine RL.mv rfl rfl rfl ?_
  refine RL.pickF rfl rfl rfl rfl ?_
  refine RL.mv rfl rfl rfl ?_
  refine RL.split (t := 30) rfl (fun b33 => ?_) (fun b33 => ?_)
  ·replace h27 := ite_t b33 h27
   refine RL.skip rfl rfl ?_
   refine RL.skip rfl rfl ?_
   refine RL.pickT rfl rfl rfl rfl ?_
   refine RL.fin ?_
   cases h27
   exact fun a w st => mid_intro true h28 (St.cut [0, 1] ⟨rfl, rfl, rfl, rfl, trivial⟩ (by decide) rfl st)
  replace h27 := ite_f b33 h27
  obtain ⟨y34, e35, h27⟩ := bind_some h27
  refine RL.callV (v := .bool y34) (vs := []) Try_fit28 rfl (Or.inl rfl) rfl rfl rfl rfl (fun U w hU hW hL => pk_trades_c U w hU  _ e35) ?_
  refine RL.notB rfl rfl rfl ?_
  refine RL.pickF rfl rfl rfl rfl ?_
  refine RL.fin ?_
  cases h27
  exact fun a w st => mid_intro (!y34) h28 (St.cut [0, 1] ⟨rfl, rfl, rfl, rfl, trivial⟩ (by decide) rfl st)
 rintro x24 h36
 have h37 := h29 _ h36
 try dsimp only at h37
 refine GL.weak (env' := [(0, .int .i64 x0), (1, v1), (2, v2), (33, .bool x24)]) (L' := [imm (TR.sl (TR.sl TR.int)) v1 x1, imm (TR.sl TR.int) v2 x2]) (fun _ _ st => st) ?_
 refine GL.cond rfl (fun b38 => ?_) (fun b38 => ?_)
 ·replace h37 := ite_t b38 h37
  refine GL.seq ?_
  refine GL.region ?_
  refine RL.asg rfl rfl rfl ?_
  refine RL.finG ?_
  have h37 := Option.some.inj h37
  subst h37
  exact GL.ret (Gx.ret (v := .bool false) (res1 rfl rfl) (fun a w st => st.toPostV))
 replace h37 := ite_f b38 h37
 refine GL.skip ?_
 refine GL.seq ?_
 refine GL.region ?_
 refine RL.mv rfl rfl rfl ?_
 obtain ⟨y41, e42, h37⟩ := bind_some h37
 refine RL.callC (v := .int .i64 y41) (vs := [.int .i64 x0, .int .i64 (6 : Int)]) Try_fit17 rfl rfl rfl rfl (fun U w hU hW hL => pk_Within_c U w hU x0 (6 : Int) _ e42) ?_
 refine RL.binI (v := .int .i64 (wadd (1 : Int) y41)) rfl rfl rfl rfl rfl ?_
 refine RL.asg rfl rfl rfl ?_
 refine RL.finG ?_
 refine GL.seq ?_
 refine GL.region ?_
 refine RL.mv rfl rfl rfl ?_
 refine RL.mv rfl rfl rfl ?_
 obtain ⟨y49, e50, h37⟩ := bind_some h37
 refine RL.call (vs := [.int .i64 (wadd (1 : Int) y41), v1]) Try_fit36 rfl rfl rfl rfl rfl (fun S f w hS hW hi => pk_LikesOf_c S w hS (wadd (1 : Int) y41) _ _ (hi 0 _ rfl) _ e50) ?_
 intro v51
 refine RL.mv rfl rfl rfl ?_
 refine RL.mv rfl rfl rfl ?_
 obtain ⟨y52, e53, h37⟩ := bind_some h37
 refine RL.call (vs := [.int .i64 (wadd (1 : Int) y41), v2]) Try_fit29 rfl rfl rfl rfl rfl (fun S f w hS hW hi => pk_OrderOf_c S w hS (wadd (1 : Int) y41) _ _ (hi 1 _ rfl) _ e53) ?_
 intro v54
 refine RL.reL (L' := [imm (TR.sl (TR.sl TR.int)) v1 x1, imm (TR.sl TR.int) v2 x2, own 24 (TR.sl TR.int) v51 y49, own 3 TR.int v54 y52]) rfl ?_
 refine RL.asg rfl rfl rfl ?_
 refine RL.asg rfl rfl rfl ?_
 refine RL.finG ?_
 refine GL.seq ?_
 refine GL.region ?_
 refine RL.mv rfl rfl rfl ?_
 refine RL.mv rfl rfl rfl ?_
 obtain ⟨y57, e58, h37⟩ := bind_some h37
 refine RL.callV (v := .tuple #[.bool y57.1, .int .i64 y57.2]) (vs := [v51, v54]) Try_fit40 rfl (Or.inl rfl) rfl rfl rfl rfl (fun U w hU hW hL => trade_Holds_c U w hU _ _ (hL 2 _ _ rfl Seen.own) _ _ (hL 3 _ _ rfl Seen.own) _ e58) ?_
 refine RL.mv rfl rfl rfl ?_
 refine RL.ext rfl rfl rfl rfl ?_
 refine RL.ext rfl rfl rfl rfl ?_
 refine RL.asg rfl rfl rfl ?_
 refine RL.asg rfl rfl rfl ?_
 refine RL.finG ?_
 refine GL.seq ?_
 refine GL.seq ?_
 refine GL.region ?_
 refine RL.mv rfl rfl rfl ?_
 refine RL.binI (v := .bool (y57.2 != (0 : Int))) rfl rfl rfl rfl rfl ?_
 refine RL.finG ?_
 refine GL.cond rfl (fun b59 => ?_) (fun b59 => ?_)
 ·replace h37 := ite_t b59 h37
  refine GL.seq ?_
  refine GL.region ?_
  refine RL.asg rfl rfl rfl ?_
  refine RL.finG ?_
  have h37 := Option.some.inj h37
  subst h37
  exact GL.ret (Gx.ret (v := .bool false) (res1 rfl rfl) (fun a w st => st.toPostV))
 replace h37 := ite_f b59 h37
 refine GL.skip ?_
 refine GL.seq ?_
 refine GL.region ?_
 refine RL.asg rfl rfl rfl ?_
 refine RL.asg rfl rfl rfl ?_
 refine RL.finG ?_
 refine GL.seq ?_
 refine GL.seq ?_
 refine GL.region ?_
 refine RL.mv rfl rfl rfl ?_
 refine RL.lenS 3 Try.underlying24 rfl rfl rfl rfl SlOf.own ?_
 refine RL.mv rfl rfl rfl ?_
 refine RL.finG ?_
 refine GL.lenOwn 3 rfl (fun n137 => ?_)
 obtain ⟨y138, K139, h140, h141, h142, h143, h144⟩ := bindR_K h37
 refine GL.join (ι := Bool × Bool) (fun (p : Bool × Bool) => [(11, .bool y57.1), (13, .bool p.1), (14, .bool p.2)]) (fun (p : Bool × Bool) => []) (fun (p : Bool × Bool) => K139 (.nx (p.1, p.2))) ?_ ?_
 ·refine GL.block ?_
  refine GL.loop (ι := Nat × Nat × Bool × Bool) (fun (p : Nat × Nat × Bool × Bool) => [(9, v51), (11, .bool y57.1), (13, .bool p.2.2.1), (14, .bool p.2.2.2), (51, v54), (52, .int .i64 ((y52).length : Int)), (53, .int .i64 (p.1 : Int))]) (fun (p : Nat × Nat × Bool × Bool) => [own 24 (TR.sl TR.int) v51 y49, own 3 TR.int v54 y52]) (fun (p : Nat × Nat × Bool × Bool) => p.1 + p.2.1 = (y52).length ∧ rangeN (pk_TradeOnly_b1 y52 y49) p.2.1 p.1 (p.2.2.1, p.2.2.2) = some y138) (fun (p : Nat × Nat × Bool × Bool) => p.2.1) (0, (y52).length, true, true) ⟨by simp, h140⟩ (fun a w st => St.cut [2, 3] ⟨rfl, rfl, rfl, rfl, rfl, rfl, rfl, trivial⟩ (by decide) rfl st) ?_
  rintro ⟨i145, r146, x60, x61⟩ ⟨h151, h150⟩
  try dsimp only at h151 h150
  refine GL.weak (env' := [(9, v51), (11, .bool y57.1), (13, .bool x60), (14, .bool x61), (51, v54), (52, .int .i64 ((y52).length : Int)), (53, .int .i64 (i145 : Int))]) (L' := [own 24 (TR.sl TR.int) v51 y49, own 3 TR.int v54 y52]) (fun _ _ st => st) ?_
  refine GL.seq ?_
  refine GL.region ?_
  refine RL.binI (v := .bool (decide ((i145 : Int) < ((y52).length : Int)))) rfl rfl rfl rfl rfl ?_
  refine RL.finG ?_
  refine GL.seq ?_
  refine GL.cond rfl (fun b153 => ?_) (fun b153 => ?_)
  ·have h154 : i145 < (y52).length := by have := of_decide_eq_true b153; omega
   obtain ⟨r155, hr⟩ : ∃ m, r146 = m + 1 := ⟨r146 - 1, by omega⟩
   subst hr
   obtain ⟨z147, h148, h149⟩ := rangeN_some h150
   unfold pk_TradeOnly_b1 at h148
   try dsimp only at h148
   refine GL.skip ?_
   refine GL.seq ?_
   refine GL.block ?_
   refine GL.seq ?_
   refine GL.region ?_
   refine RL.mv rfl rfl rfl ?_
   obtain ⟨y158, e159, h148⟩ := bind_some h148
   refine RL.idxS (sz := 1) 1 Try.underlying24 Try_ln3 rfl rfl rfl rfl rfl SlOf.own (idx_some e159).1 (idx_some e159).2.1 ?_
   refine RL.ldSx (i := i145) (e' := y158) 1 Ex.ik Try_ln3 rfl rfl rfl rfl SlOf.own (idx_some e159).2.2 Part.self ?_
   refine RL.asg rfl rfl rfl ?_
   refine RL.asg rfl rfl rfl ?_
   refine RL.finG ?_
   refine GL.seq ?_
   obtain ⟨y173, K174, h175, h176, h177, h178, h179⟩ := bindF_K h148
   refine GL.join (ι := Bool) (fun (p : Bool) => [(9, v51), (11, .bool y57.1), (13, .bool p), (14, .bool x61), (15, .int .i64 (i145 : Int)), (16, .int .i64 y158), (51, v54), (52, .int .i64 ((y52).length : Int)), (53, .int .i64 (i145 : Int))]) (fun (p : Bool) => [own 24 (TR.sl TR.int) v51 y49, own 3 TR.int v54 y52]) (fun (p : Bool) => K174 (.nx p)) ?_ ?_
   ·skip
    refine GL.region ?_
    refine RL.mv rfl rfl rfl ?_
    refine RL.mv rfl rfl rfl ?_
    refine RL.split (t := 59) rfl (fun b180 => ?_) (fun b180 => ?_)
    ·replace h175 := ite_t b180 h175
     refine RL.mv rfl rfl rfl ?_
     refine RL.mv rfl rfl rfl ?_
     obtain ⟨y181, e182, h175⟩ := bind_some h175
     refine RL.idxS (sz := 1) 0 Try.underlying25 Try_ln24 rfl rfl rfl rfl rfl SlOf.own (idx_some e182).1 (idx_some e182).2.1 ?_
     refine RL.ldS (i := i145) (r := (TR.sl TR.int)) (e' := y181) 0 Try_ln24 rfl rfl rfl rfl SlOf.own (idx_some e182).2.2 Part.self ?_
     intro v183
     obtain ⟨y184, e185, h175⟩ := bind_some h175
     refine RL.idxS (sz := 1) 2 Try.underlying24 Try_ln3 rfl rfl rfl rfl rfl SlOf.imm (idx_some e185).1 (idx_some e185).2.1 ?_
     refine RL.ldSx (i := ((0 : Int)).toNat) (e' := y184) 2 Ex.ik Try_ln3 rfl rfl rfl rfl SlOf.imm (idx_some e185).2.2 Part.self ?_
     refine RL.mv rfl rfl rfl ?_
     refine RL.binI (v := .bool (y184 == y158)) rfl rfl rfl rfl rfl ?_
     refine RL.pickT rfl rfl rfl rfl ?_
     refine RL.asg rfl rfl rfl ?_
     refine RL.fin ?_
     cases h175
     exact fun a w st => mid_intro (y184 == y158) h176 (St.cut [0, 1] ⟨rfl, rfl, rfl, rfl, rfl, rfl, rfl, rfl, rfl, trivial⟩ (by decide) rfl st)
    replace h175 := ite_f b180 h175
    refine RL.skip rfl rfl ?_
    refine RL.skip rfl rfl ?_
    refine RL.skip rfl rfl ?_
    refine RL.skip rfl rfl ?_
    refine RL.skip rfl rfl ?_
    refine RL.skip rfl rfl ?_
    refine RL.skip rfl rfl ?_
    refine RL.skip rfl rfl ?_
    refine RL.pickF rfl rfl rfl rfl ?_
    refine RL.asg rfl rfl rfl ?_
    refine RL.fin ?_
    cases h175
    exact fun a w st => mid_intro false h176 (St.cut [0, 1] ⟨rfl, rfl, rfl, rfl, rfl, rfl, rfl, rfl, rfl, trivial⟩ (by decide) rfl st)
   rintro x172 h186
   have h187 := h177 _ h186
   try dsimp only at h187
   refine GL.weak (env' := [(9, v51), (11, .bool y57.1), (13, .bool x172), (14, .bool x61), (15, .int .i64 (i145 : Int)), (16, .int .i64 y158), (51, v54), (52, .int .i64 ((y52).length : Int)), (53, .int .i64 (i145 : Int))]) (L' := [own 24 (TR.sl TR.int) v51 y49, own 3 TR.int v54 y52]) (fun _ _ st => st) ?_
   obtain ⟨y211, K212, h213, h214, h215, h216, h217⟩ := bindF_K h187
   refine GL.join (ι := Bool) (fun (p : Bool) => [(9, v51), (11, .bool y57.1), (13, .bool x172), (14, .bool p), (51, v54), (52, .int .i64 ((y52).length : Int)), (53, .int .i64 (i145 : Int))]) (fun (p : Bool) => [own 24 (TR.sl TR.int) v51 y49, own 3 TR.int v54 y52]) (fun (p : Bool) => K212 (.nx p)) ?_ ?_
   ·skip
    refine GL.regionQ rfl rfl (by kernel_rfl) ?_
    refine RL.mv rfl rfl rfl ?_
    refine RL.mv rfl rfl rfl ?_
    refine RL.split (t := 70) rfl (fun b218 => ?_) (fun b218 => ?_)
    ·replace h213 := ite_t b218 h213
     refine RL.mv rfl rfl rfl ?_
     refine RL.mv rfl rfl rfl ?_
     obtain ⟨y219, e220, h213⟩ := bind_some h213
     refine RL.idxS (sz := 1) 0 Try.underlying25 Try_ln24 rfl rfl rfl rfl rfl SlOf.own (idx_some e220).1 (idx_some e220).2.1 ?_
     refine RL.ldS (i := i145) (r := (TR.sl TR.int)) (e' := y219) 0 Try_ln24 rfl rfl rfl rfl SlOf.own (idx_some e220).2.2 Part.self ?_
     intro v221
     refine RL.mv rfl rfl rfl ?_
     obtain ⟨y222, e223, h213⟩ := bind_some h213
     refine RL.callC (v := .int .i64 y222) (vs := [v221, .int .i64 y158]) Try_fit39 rfl rfl rfl rfl (fun U w hU hW hL => slices_Index_int_int_c U w hU _ _ (hL 2 _ _ rfl Seen.imm) y158 _ e223) ?_
     refine RL.mv rfl rfl rfl ?_
     refine RL.mv rfl rfl rfl ?_
     obtain ⟨y224, e225, h213⟩ := bind_some h213
     refine RL.idxS (sz := 1) 0 Try.underlying25 Try_ln24 rfl rfl rfl rfl rfl SlOf.own (idx_some e225).1 (idx_some e225).2.1 ?_
     refine RL.ldS (i := i145) (r := (TR.sl TR.int)) (e' := y224) 0 Try_ln24 rfl rfl rfl rfl SlOf.own (idx_some e225).2.2 Part.self ?_
     intro v226
     refine RL.reL (L' := [own 24 (TR.sl TR.int) v51 y49, own 3 TR.int v54 y52, imm (TR.sl TR.int) v221 y219, imm (TR.sl TR.int) v226 y224]) rfl ?_
     refine RL.mv rfl rfl rfl ?_
     obtain ⟨y227, e228, h213⟩ := bind_some h213
     refine RL.callC (v := .int .i64 y227) (vs := [v226, .int .i64 (i145 : Int)]) Try_fit39 rfl rfl rfl rfl (fun U w hU hW hL => slices_Index_int_int_c U w hU _ _ (hL 3 _ _ rfl Seen.imm) (i145 : Int) _ e228) ?_
     refine RL.binI (v := .bool (decide (y222 ≤ y227))) rfl rfl rfl rfl rfl ?_
     refine RL.pickT rfl rfl rfl rfl ?_
     refine RL.asg rfl rfl rfl ?_
     refine RL.finQ ?_
     cases h213
     exact fun a w st => mid_intro (decide (y222 ≤ y227)) h214 (St.cut [0, 1] ⟨rfl, rfl, rfl, rfl, rfl, rfl, rfl, trivial⟩ (by decide) rfl st)
    replace h213 := ite_f b218 h213
    refine RL.skip rfl rfl ?_
    refine RL.skip rfl rfl ?_
    refine RL.skip rfl rfl ?_
    refine RL.skip rfl rfl ?_
    refine RL.skip rfl rfl ?_
    refine RL.skip rfl rfl ?_
    refine RL.skip rfl rfl ?_
    refine RL.skip rfl rfl ?_
    refine RL.skip rfl rfl ?_
    refine RL.skip rfl rfl ?_
    refine RL.skip rfl rfl ?_
    refine RL.skip rfl rfl ?_
    refine RL.skip rfl rfl ?_
    refine RL.pickF rfl rfl rfl rfl ?_
    refine RL.asg rfl rfl rfl ?_
    refine RL.finQ ?_
    cases h213
    exact fun a w st => mid_intro false h214 (St.cut [0, 1] ⟨rfl, rfl, rfl, rfl, rfl, rfl, rfl, trivial⟩ (by decide) rfl st)
   rintro x210 h229
   have h230 := h215 _ h229
   try dsimp only at h230
   refine GL.weak (env' := [(9, v51), (11, .bool y57.1), (13, .bool x172), (14, .bool x210), (51, v54), (52, .int .i64 ((y52).length : Int)), (53, .int .i64 (i145 : Int))]) (L' := [own 24 (TR.sl TR.int) v51 y49, own 3 TR.int v54 y52]) (fun _ _ st => st) ?_
   refine GL.nilB ?_
   refine GL.region ?_
   refine RL.binI (v := .int .i64 ((i145 + 1 : Nat) : Int)) rfl rfl rfl rfl (binI_succ i145 (by omega)) ?_
   refine RL.mv rfl rfl rfl ?_
   refine RL.fin ?_
   cases h230
   exact fun a w st => lop_intro (i145 + 1, r155, x172, x210) ⟨by show i145 + 1 + r155 = (y52).length; omega, h149⟩ (by simp) (St.cut [0, 1] ⟨rfl, rfl, rfl, rfl, rfl, rfl, rfl, trivial⟩ (by decide) rfl st)
  have h154 : ¬ i145 < (y52).length := by have := of_decide_eq_false b153; omega
  obtain rfl : r146 = 0 := by omega
  replace h150 : some (Fl.nx _) = some y138 := h150
  cases h150
  exact GL.exit (fun a w st => mid_intro (x60, x61) h141 (St.cut [] ⟨rfl, rfl, rfl, trivial⟩ (by decide) rfl st))
 rintro ⟨x60, x61⟩ h231
 have h232 := h142 _ h231
 try dsimp only at h232
 refine GL.weak (env' := [(11, .bool y57.1), (13, .bool x60), (14, .bool x61)]) (L' := []) (fun _ _ st => st) ?_
 refine GL.seq ?_
 obtain ⟨y242, K243, h244, h245, h246, h247, h248⟩ := bindR_K h232
 refine GL.join (ι := Bool) (fun (p : Bool) => [(6, .bool p)]) (fun (p : Bool) => []) (fun (p : Bool) => K243 (.nx p)) ?_ ?_
 ·skip
  refine GL.region ?_
  refine RL.mv rfl rfl rfl ?_
  refine RL.notB rfl rfl rfl ?_
  refine RL.mv rfl rfl rfl ?_
  refine RL.split (t := 88) rfl (fun b249 => ?_) (fun b249 => ?_)
  ·replace h244 := ite_t b249 h244
   refine RL.skip rfl rfl ?_
   refine RL.pickT rfl rfl rfl rfl ?_
   refine RL.mv rfl rfl rfl ?_
   refine RL.mv rfl rfl rfl ?_
   refine RL.mv rfl rfl rfl ?_
   refine RL.split (t := 93) rfl (fun b250 => ?_) (fun b250 => ?_)
   ·replace h244 := ite_t b250 h244
    refine RL.skip rfl rfl ?_
    refine RL.skip rfl rfl ?_
    refine RL.pickT rfl rfl rfl rfl ?_
    refine RL.pickT rfl rfl rfl rfl ?_
    refine RL.asg rfl rfl rfl ?_
    refine RL.fin ?_
    cases h244
    exact fun a w st => mid_intro true h245 (St.cut [] ⟨rfl, trivial⟩ (by decide) rfl st)
   replace h244 := ite_f b250 h244
   refine RL.mv rfl rfl rfl ?_
   refine RL.notB rfl rfl rfl ?_
   refine RL.pickF rfl rfl rfl rfl ?_
   refine RL.pickT rfl rfl rfl rfl ?_
   refine RL.asg rfl rfl rfl ?_
   refine RL.fin ?_
   cases h244
   exact fun a w st => mid_intro (!y57.1) h245 (St.cut [] ⟨rfl, trivial⟩ (by decide) rfl st)
  replace h244 := ite_f b249 h244
  refine RL.mv rfl rfl rfl ?_
  refine RL.pickF rfl rfl rfl rfl ?_
  refine RL.mv rfl rfl rfl ?_
  refine RL.split (t := 91) rfl (fun b251 => ?_) (fun b251 => ?_)
  ·replace h244 := ite_t b251 h244
   refine RL.mv rfl rfl rfl ?_
   refine RL.mv rfl rfl rfl ?_
   refine RL.split (t := 93) rfl (fun b252 => ?_) (fun b252 => ?_)
   ·replace h244 := ite_t b252 h244
    refine RL.skip rfl rfl ?_
    refine RL.skip rfl rfl ?_
    refine RL.pickT rfl rfl rfl rfl ?_
    refine RL.pickT rfl rfl rfl rfl ?_
    refine RL.asg rfl rfl rfl ?_
    refine RL.fin ?_
    cases h244
    exact fun a w st => mid_intro true h245 (St.cut [] ⟨rfl, trivial⟩ (by decide) rfl st)
   replace h244 := ite_f b252 h244
   refine RL.mv rfl rfl rfl ?_
   refine RL.notB rfl rfl rfl ?_
   refine RL.pickF rfl rfl rfl rfl ?_
   refine RL.pickT rfl rfl rfl rfl ?_
   refine RL.asg rfl rfl rfl ?_
   refine RL.fin ?_
   cases h244
   exact fun a w st => mid_intro (!y57.1) h245 (St.cut [] ⟨rfl, trivial⟩ (by decide) rfl st)
  replace h244 := ite_f b251 h244
  refine RL.skip rfl rfl ?_
  refine RL.skip rfl rfl ?_
  refine RL.skip rfl rfl ?_
  refine RL.skip rfl rfl ?_
  refine RL.skip rfl rfl ?_
  refine RL.pickF rfl rfl rfl rfl ?_
  refine RL.asg rfl rfl rfl ?_
  refine RL.fin ?_
  cases h244
  exact fun a w st => mid_intro false h245 (St.cut [] ⟨rfl, trivial⟩ (by decide) rfl st)
 rintro x241 h253
 have h254 := h246 _ h253
 try dsimp only at h254
 refine GL.weak (env' := [(6, .bool x241)]) (L' := []) (fun _ _ st => st) ?_
 have h254 := Option.some.inj h254
 subst h254
 exact GL.ret (Gx.ret (v := .bool x241) (res1 rfl rfl) (fun a w st => st.toPostV))
end Go.Wk
