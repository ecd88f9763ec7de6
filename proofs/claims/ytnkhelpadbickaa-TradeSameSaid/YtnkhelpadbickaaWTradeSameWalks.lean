/- Each function comes to what its model says; printed by a program of this repository. -/
import Derived.Test.YtnkhelpadbickaaProg
import Derived.Test.YtnkhelpadbickaaWTradeSameModels
namespace Go.Wk
open Go.Fw Go.Mo Go.Proofs Go.RowKit
set_option linter.all false
set_option maxRecDepth 100000
theorem loopNx {ρ σ β γ : Type} {body : σ → Option (Fl ρ β σ)} {n : Nat} {s : σ} {y : Fl ρ γ β} (h : stepM body n (.nx s) = some y) : loopM body n s = some y := h
theorem Try_info3 : (Try.prog.info? 3).map (fun i => (i.zero, i.size, i.bytes)) = some (some (.int .i64 0), 1, 8) := by kernel_rfl
theorem Try_ln3 : Ln Try.prog 3 1 false := Ln.of Try_info3 Try.underlying3 rfl
theorem Try_lo3 : LnO Try.prog 3 1 [.int .i64 0] := LnO.of Try_info3 rfl rfl (by decide) (by decide)
theorem Try_info4 : (Try.prog.info? 4).map (fun i => (i.zero, i.size, i.bytes)) = some (some (.bool false), 1, 1) := by kernel_rfl
theorem Try_ln4 : Ln Try.prog 4 1 false := Ln.of Try_info4 Try.underlying4 rfl
theorem Try_lo4 : LnO Try.prog 4 1 [.bool false] := LnO.of Try_info4 rfl rfl (by decide) (by decide)
theorem Try_info24 : (Try.prog.info? 24).map (fun i => (i.zero, i.size, i.bytes)) = some (some (.slice none 0 0), 1, 24) := by kernel_rfl
theorem Try_ln24 : Ln Try.prog 24 1 false := Ln.of Try_info24 Try.underlying24 rfl
theorem Try_lo24 : LnO Try.prog 24 1 [.slice none 0 0] := LnO.of Try_info24 rfl rfl (by decide) (by decide)
theorem Try_info25 : (Try.prog.info? 25).map (fun i => (i.zero, i.size, i.bytes)) = some (some (.slice none 0 0), 1, 24) := by kernel_rfl
theorem Try_ln25 : Ln Try.prog 25 1 false := Ln.of Try_info25 Try.underlying25 rfl
theorem Try_lo25 : LnO Try.prog 25 1 [.slice none 0 0] := LnO.of Try_info25 rfl rfl (by decide) (by decide)
theorem Try_info26 : (Try.prog.info? 26).map (fun i => (i.zero, i.size, i.bytes)) = some (some (.int .i64 0), 1, 8) := by kernel_rfl
theorem Try_ln26 : Ln Try.prog 26 1 false := Ln.of Try_info26 Try.underlying26 rfl
theorem Try_lo26 : LnO Try.prog 26 1 [.int .i64 0] := LnO.of Try_info26 rfl rfl (by decide) (by decide)
theorem Try_info87 : (Try.prog.info? 87).map (fun i => (i.zero, i.size, i.bytes)) = some (some (.agg #[.bool false, .bool false, .bool false, .bool false, .bool false, .bool false]), 6, 6) := by kernel_rfl
theorem Try_ln87 : Ln Try.prog 87 6 true := Ln.of Try_info87 Try.underlying87 rfl
theorem Try_lo87 : LnO Try.prog 87 6 [.bool false, .bool false, .bool false, .bool false, .bool false, .bool false] := LnO.of Try_info87 rfl rfl (by decide) (by decide)
theorem Try_fit17 : Fit Try.prog 17 := Fit.of Try.func17 (by kernel_rfl) rfl
theorem Try_fit19 : Fit Try.prog 19 := Fit.of Try.func19 (by kernel_rfl) rfl
theorem Try_fit26 : Fit Try.prog 26 := Fit.of Try.func26 (by kernel_rfl) rfl
theorem Try_fit28 : Fit Try.prog 28 := Fit.of Try.func28 (by kernel_rfl) rfl
theorem Try_fit29 : Fit Try.prog 29 := Fit.of Try.func29 (by kernel_rfl) rfl
theorem Try_fit30 : Fit Try.prog 30 := Fit.of Try.func30 (by kernel_rfl) rfl
theorem Try_fit41 : Fit Try.prog 41 := Fit.of Try.func41 (by kernel_rfl) rfl
theorem Try_fit43 : Fit Try.prog 43 := Fit.of Try.func43 (by kernel_rfl) rfl
theorem Try_fit46 : Fit Try.prog 46 := Fit.of Try.func46 (by kernel_rfl) rfl
theorem Try_fit47 : Fit Try.prog 47 := Fit.of Try.func47 (by kernel_rfl) rfl
theorem Try_fit48 : Fit Try.prog 48 := Fit.of Try.func48 (by kernel_rfl) rfl
theorem Try_fit49 : Fit Try.prog 49 := Fit.of Try.func49 (by kernel_rfl) rfl
theorem Try_fit50 : Fit Try.prog 50 := Fit.of Try.func50 (by kernel_rfl) rfl
theorem Try_fit51 : Fit Try.prog 51 := Fit.of Try.func51 (by kernel_rfl) rfl
theorem Try_fit55 : Fit Try.prog 55 := Fit.of Try.func55 (by kernel_rfl) rfl

set_option maxHeartbeats 4000000 in
theorem order_Check_c (S : Hp) (w : World) (hS : S.sub w) (x0 : Int) (v1 : Value) (x1 : (List Int)) (k1 : ((TR.sl TR.int)).vrep S v1 x1) (res : Int) (hm : order_Check_m x0 x1 = some res) : Calls Try.prog 41 #[.int .i64 x0, v1] w (PostV w (.int .i64 res)) := by
 refine calls_enter 39 Try.func41 Try.ntmps41 rfl S false [(0, .int .i64 x0), (1, v1)] [imm (TR.sl TR.int) v1 x1] rfl ⟨rfl, ⟨rfl, trivial⟩⟩ hS ⟨k1, trivial⟩ ?_
 unfold order_Check_m at hm
 refine GL.seq ?_
 refine GL.region ?_
 refine RL.asg rfl rfl rfl ?_
 refine RL.finG ?_
 refine GL.seq ?_
 refine GL.seq ?_
 obtain ⟨y6, K7, h8, h9, h10, h11, h12⟩ := bindR_K hm
 refine GL.join (ι := Bool) (fun (p : Bool) => [(0, .int .i64 x0), (1, v1), (13, .bool p)]) (fun (p : Bool) => [imm (TR.sl TR.int) v1 x1]) (fun (p : Bool) => K7 (.nx p)) ?_ ?_
 ·skip
  refine GL.region ?_
  refine RL.mv rfl rfl rfl ?_
  refine RL.binI (v := .bool (decide (x0 < (1 : Int)))) rfl rfl rfl rfl rfl ?_
  refine RL.mv rfl rfl rfl ?_
  refine RL.split (t := 10) rfl (fun b13 => ?_) (fun b13 => ?_)
  ·replace h8 := ite_t b13 h8
   refine RL.skip rfl rfl ?_
   refine RL.skip rfl rfl ?_
   refine RL.pickT rfl rfl rfl rfl ?_
   refine RL.fin ?_
   cases h8
   exact fun a w st => mid_intro true h9 (St.cut [0] ⟨rfl, rfl, rfl, trivial⟩ (by decide) rfl st)
  replace h8 := ite_f b13 h8
  refine RL.mv rfl rfl rfl ?_
  refine RL.binI (v := .bool (decide (x0 > (6 : Int)))) rfl rfl rfl rfl rfl ?_
  refine RL.pickF rfl rfl rfl rfl ?_
  refine RL.fin ?_
  cases h8
  exact fun a w st => mid_intro (decide (x0 > (6 : Int))) h9 (St.cut [0] ⟨rfl, rfl, rfl, trivial⟩ (by decide) rfl st)
 rintro x5 h14
 have h15 := h10 _ h14
 try dsimp only at h15
 refine GL.weak (env' := [(0, .int .i64 x0), (1, v1), (13, .bool x5)]) (L' := [imm (TR.sl TR.int) v1 x1]) (fun _ _ st => st) ?_
 refine GL.cond rfl (fun b16 => ?_) (fun b16 => ?_)
 ·replace h15 := ite_t b16 h15
  refine GL.seq ?_
  refine GL.region ?_
  refine RL.asg rfl rfl rfl ?_
  refine RL.finG ?_
  have h15 := Option.some.inj h15
  subst h15
  exact GL.ret (Gx.ret (v := .int .i64 (1 : Int)) (res1 rfl rfl) (fun a w st => st.toPostV))
 replace h15 := ite_f b16 h15
 refine GL.skip ?_
 refine GL.seq ?_
 refine GL.region ?_
 refine RL.alloc (t := (TR.arr 6 TR.bool)) (z := (List.replicate 6 false)) Try_lo87 (fun S => ⟨rfl, ⟨_, _, rfl, rfl, ⟨_, _, rfl, rfl, ⟨_, _, rfl, rfl, ⟨_, _, rfl, rfl, ⟨_, _, rfl, rfl, ⟨_, _, rfl, rfl, rfl⟩⟩⟩⟩⟩⟩⟩) rfl rfl rfl ?_
 intro v18
 refine RL.finG ?_
 refine GL.seq ?_
 refine GL.seq ?_
 refine GL.region ?_
 refine RL.mv rfl rfl rfl ?_
 refine RL.lenS 0 Try.underlying24 rfl rfl rfl rfl SlOf.imm ?_
 refine RL.mv rfl rfl rfl ?_
 refine RL.finG ?_
 refine GL.open_ 0 rfl (fun S h => len_imm S h) (fun n82 => ?_)
 obtain ⟨y83, K84, h85, h86, h87, h88, h89⟩ := bindR_K h15
 refine GL.join (ι := (List Bool)) (fun (p : (List Bool)) => [(0, .int .i64 x0), (1, v1)]) (fun (p : (List Bool)) => [imm (TR.sl TR.int) v1 x1]) (fun (p : (List Bool)) => K84 (.nx p)) ?_ ?_
 ·refine GL.block ?_
  refine GL.loop (ι := Nat × (List Int) × (List Bool)) (fun (p : Nat × (List Int) × (List Bool)) => [(0, .int .i64 x0), (1, v1), (5, v18), (14, v1), (15, .int .i64 ((x1).length : Int)), (16, .int .i64 (p.1 : Int))]) (fun (p : Nat × (List Int) × (List Bool)) => [imm (TR.sl TR.int) v1 x1, obox 87 (TR.arr 6 TR.bool) v18 p.2.2]) (fun (p : Nat × (List Int) × (List Bool)) => p.1 + p.2.1.length = (x1).length ∧ List.drop p.1 x1 = p.2.1 ∧ rangeL (order_Check_b1 x0) p.2.1 p.1 p.2.2 = some y83) (fun (p : Nat × (List Int) × (List Bool)) => p.2.1.length) (0, x1, (List.replicate 6 false)) ⟨by simp, by simp, h85⟩ (fun a w st => St.cut [0, 1] ⟨rfl, rfl, rfl, rfl, rfl, rfl, trivial⟩ (by decide) rfl st) ?_
  rintro ⟨i90, r91, l50⟩ ⟨h96, h97, h95⟩
  try dsimp only at h96 h97 h95
  refine GL.weak (env' := [(0, .int .i64 x0), (1, v1), (5, v18), (14, v1), (15, .int .i64 ((x1).length : Int)), (16, .int .i64 (i90 : Int))]) (L' := [imm (TR.sl TR.int) v1 x1, obox 87 (TR.arr 6 TR.bool) v18 l50]) (fun _ _ st => st) ?_
  refine GL.seq ?_
  refine GL.region ?_
  refine RL.binI (v := .bool (decide ((i90 : Int) < ((x1).length : Int)))) rfl rfl rfl rfl rfl ?_
  refine RL.finG ?_
  refine GL.seq ?_
  refine GL.cond rfl (fun b98 => ?_) (fun b98 => ?_)
  ·have h99 : i90 < (x1).length := by have := of_decide_eq_true b98; omega
   obtain ⟨y100, r102, hr, e101, h103⟩ := drop_cons h97 rfl h99
   subst hr
   obtain ⟨z92, h93, h94⟩ := rangeL_some h95
   unfold order_Check_b1 at h93
   try dsimp only at h93
   refine GL.skip ?_
   refine GL.seq ?_
   refine GL.block ?_
   refine GL.seq ?_
   refine GL.region ?_
   refine RL.idxS (sz := 1) 0 Try.underlying24 Try_ln3 rfl rfl rfl rfl rfl SlOf.imm (by omega) (by omega) ?_
   refine RL.ldSx (i := i90) (e' := y100) 0 Ex.ik Try_ln3 rfl rfl rfl rfl SlOf.imm e101 Part.self ?_
   refine RL.asg rfl rfl rfl ?_
   refine RL.finG ?_
   refine GL.seq ?_
   refine GL.seq ?_
   obtain ⟨y113, K114, h115, h116, h117, h118, h119⟩ := bindF_K h93
   refine GL.join (ι := Bool) (fun (p : Bool) => [(0, .int .i64 x0), (1, v1), (5, v18), (7, .int .i64 y100), (14, v1), (15, .int .i64 ((x1).length : Int)), (16, .int .i64 (i90 : Int)), (31, .bool p)]) (fun (p : Bool) => [imm (TR.sl TR.int) v1 x1, obox 87 (TR.arr 6 TR.bool) v18 l50]) (fun (p : Bool) => K114 (.nx p)) ?_ ?_
   ·skip
    refine GL.region ?_
    refine RL.mv rfl rfl rfl ?_
    refine RL.binI (v := .bool (decide (y100 < (0 : Int)))) rfl rfl rfl rfl rfl ?_
    refine RL.mv rfl rfl rfl ?_
    refine RL.split (t := 22) rfl (fun b120 => ?_) (fun b120 => ?_)
    ·replace h115 := ite_t b120 h115
     refine RL.skip rfl rfl ?_
     refine RL.skip rfl rfl ?_
     refine RL.skip rfl rfl ?_
     refine RL.pickT rfl rfl rfl rfl ?_
     refine RL.mv rfl rfl rfl ?_
     refine RL.skip rfl rfl ?_
     refine RL.skip rfl rfl ?_
     refine RL.skip rfl rfl ?_
     refine RL.pickT rfl rfl rfl rfl ?_
     refine RL.fin ?_
     cases h115
     exact fun a w st => mid_intro true h116 (St.cut [0, 1] ⟨rfl, rfl, rfl, rfl, rfl, rfl, rfl, rfl, trivial⟩ (by decide) rfl st)
    replace h115 := ite_f b120 h115
    refine RL.mv rfl rfl rfl ?_
    refine RL.mv rfl rfl rfl ?_
    refine RL.binI (v := .bool (decide (y100 ≥ x0))) rfl rfl rfl rfl rfl ?_
    refine RL.pickF rfl rfl rfl rfl ?_
    refine RL.mv rfl rfl rfl ?_
    refine RL.split (t := 27) rfl (fun b121 => ?_) (fun b121 => ?_)
    ·replace h115 := ite_t b121 h115
     refine RL.skip rfl rfl ?_
     refine RL.skip rfl rfl ?_
     refine RL.skip rfl rfl ?_
     refine RL.pickT rfl rfl rfl rfl ?_
     refine RL.fin ?_
     cases h115
     exact fun a w st => mid_intro true h116 (St.cut [0, 1] ⟨rfl, rfl, rfl, rfl, rfl, rfl, rfl, rfl, trivial⟩ (by decide) rfl st)
    replace h115 := ite_f b121 h115
    refine RL.mv rfl rfl rfl ?_
    obtain ⟨y122, e123, h115⟩ := bind_some h115
    refine RL.idxA0 (sz := 1) (t' := TR.bool) 1 Try.underlying87 Try_ln4 rfl rfl rfl PtOf.obox rfl rfl Part.self (idx_some e123).1 (idx_some e123).2.1 ?_
    refine RL.ldPx (off := ((y100).toNat * 1)) (e' := y122) 1 Ex.bool Try_ln4 rfl rfl (Or.inl rfl) rfl PtOf.obox (Part.arr (idx_some e123).2.2 Part.self) ?_
    refine RL.pickF rfl rfl rfl rfl ?_
    refine RL.fin ?_
    cases h115
    exact fun a w st => mid_intro y122 h116 (St.cut [0, 1] ⟨rfl, rfl, rfl, rfl, rfl, rfl, rfl, rfl, trivial⟩ (by decide) rfl st)
   rintro x112 h124
   have h125 := h117 _ h124
   try dsimp only at h125
   refine GL.weak (env' := [(0, .int .i64 x0), (1, v1), (5, v18), (7, .int .i64 y100), (14, v1), (15, .int .i64 ((x1).length : Int)), (16, .int .i64 (i90 : Int)), (31, .bool x112)]) (L' := [imm (TR.sl TR.int) v1 x1, obox 87 (TR.arr 6 TR.bool) v18 l50]) (fun _ _ st => st) ?_
   refine GL.cond rfl (fun b126 => ?_) (fun b126 => ?_)
   ·replace h125 := ite_t b126 h125
    refine GL.seq ?_
    refine GL.region ?_
    refine RL.asg rfl rfl rfl ?_
    refine RL.finG ?_
    cases h125
    replace h94 : some (Fl.rt _) = some y83 := h94
    cases h94
    have hh := h88 _ h86
    subst hh
    exact GL.ret (Gx.ret (v := .int .i64 (3 : Int)) (res1 rfl rfl) (fun a w st => st.toPostV))
   replace h125 := ite_f b126 h125
   refine GL.skip ?_
   refine GL.region ?_
   refine RL.mv rfl rfl rfl ?_
   obtain ⟨y129, e130, h125⟩ := bind_some h125
   refine RL.idxA0 (sz := 1) (t' := TR.bool) 1 Try.underlying87 Try_ln4 rfl rfl rfl PtOf.obox rfl rfl Part.self (idx_some e130).1 (idx_some e130).2.1 ?_
   refine RL.stP (off := ((y100).toNat * 1)) (e' := true) (d1 := (List.set l50 ((y100).toNat) true)) (r := TR.bool) 1 Try_ln4 rfl rfl (Or.inl rfl) rfl VR.bool rfl (Upd.arr (idx_some e130).2.2 Upd.self) ?_
   refine RL.finG ?_
   refine GL.nilB ?_
   refine GL.region ?_
   refine RL.binI (v := .int .i64 ((i90 + 1 : Nat) : Int)) rfl rfl rfl rfl (binI_succ i90 (by omega)) ?_
   refine RL.mv rfl rfl rfl ?_
   refine RL.fin ?_
   cases h125
   exact fun a w st => lop_intro (i90 + 1, r102, (List.set l50 ((y100).toNat) true)) ⟨by show i90 + 1 + r102.length = (x1).length; simp only [List.length_cons] at h96; omega, h103, h94⟩ (by simp) (St.cut [0, 1] ⟨rfl, rfl, rfl, rfl, rfl, rfl, trivial⟩ (by decide) rfl st)
  have h99 : ¬ i90 < (x1).length := by have := of_decide_eq_false b98; omega
  obtain rfl : r91 = [] := by rw [← h97]; exact List.drop_of_length_le (by omega)
  replace h95 : some (Fl.nx _) = some y83 := h95
  cases h95
  exact GL.exit (fun a w st => mid_intro l50 h86 (St.cut [0] ⟨rfl, rfl, trivial⟩ (by decide) rfl st))
 rintro l50 h131
 have h132 := h87 _ h131
 try dsimp only at h132
 refine GL.weak (env' := [(0, .int .i64 x0), (1, v1)]) (L' := [imm (TR.sl TR.int) v1 x1]) (fun _ _ st => st) ?_
 refine GL.seq ?_
 refine GL.seq ?_
 refine GL.region ?_
 refine RL.mv rfl rfl rfl ?_
 refine RL.lenS 0 Try.underlying24 rfl rfl rfl rfl SlOf.imm ?_
 refine RL.mv rfl rfl rfl ?_
 refine RL.binI (v := .bool (((x1).length : Int) != x0)) rfl rfl rfl rfl rfl ?_
 refine RL.finG ?_
 refine GL.cond rfl (fun b133 => ?_) (fun b133 => ?_)
 ·replace h132 := ite_t b133 h132
  refine GL.seq ?_
  refine GL.region ?_
  refine RL.asg rfl rfl rfl ?_
  refine RL.finG ?_
  have h132 := Option.some.inj h132
  subst h132
  exact GL.ret (Gx.ret (v := .int .i64 (3 : Int)) (res1 rfl rfl) (fun a w st => st.toPostV))
 replace h132 := ite_f b133 h132
 refine GL.skip ?_
 refine GL.seq ?_
 refine GL.region ?_
 refine RL.asg rfl rfl rfl ?_
 refine RL.finG ?_
 have h132 := Option.some.inj h132
 subst h132
 exact GL.ret (Gx.ret (v := .int .i64 (0 : Int)) (res1 rfl rfl) (fun a w st => st.toPostV))

set_option maxHeartbeats 4000000 in
theorem trade_Check_c (S : Hp) (w : World) (hS : S.sub w) (v0 : Value) (x0 : (List (List Int))) (k0 : ((TR.sl (TR.sl TR.int))).vrep S v0 x0) (res : Int) (hm : trade_Check_m x0 = some res) : Calls Try.prog 50 #[v0] w (PostV w (.int .i64 res)) := by
 refine calls_enter 25 Try.func50 Try.ntmps50 rfl S false [(0, v0)] [imm (TR.sl (TR.sl TR.int)) v0 x0] rfl ⟨rfl, trivial⟩ hS ⟨k0, trivial⟩ ?_
 unfold trade_Check_m at hm
 refine GL.seq ?_
 refine GL.region ?_
 refine RL.asg rfl rfl rfl ?_
 refine RL.finG ?_
 refine GL.seq ?_
 refine GL.region ?_
 refine RL.mv rfl rfl rfl ?_
 refine RL.lenS 0 Try.underlying25 rfl rfl rfl rfl SlOf.imm ?_
 refine RL.asg rfl rfl rfl ?_
 refine RL.finG ?_
 refine GL.seq ?_
 refine GL.seq ?_
 obtain ⟨y5, K6, h7, h8, h9, h10, h11⟩ := bindR_K hm
 refine GL.join (ι := Bool) (fun (p : Bool) => [(0, v0), (3, .int .i64 ((x0).length : Int)), (13, .bool p)]) (fun (p : Bool) => [imm (TR.sl (TR.sl TR.int)) v0 x0]) (fun (p : Bool) => K6 (.nx p)) ?_ ?_
 ·skip
  refine GL.region ?_
  refine RL.mv rfl rfl rfl ?_
  refine RL.binI (v := .bool (decide (((x0).length : Int) < (1 : Int)))) rfl rfl rfl rfl rfl ?_
  refine RL.mv rfl rfl rfl ?_
  refine RL.split (t := 10) rfl (fun b12 => ?_) (fun b12 => ?_)
  ·replace h7 := ite_t b12 h7
   refine RL.skip rfl rfl ?_
   refine RL.skip rfl rfl ?_
   refine RL.pickT rfl rfl rfl rfl ?_
   refine RL.fin ?_
   cases h7
   exact fun a w st => mid_intro true h8 (St.cut [0] ⟨rfl, rfl, rfl, trivial⟩ (by decide) rfl st)
  replace h7 := ite_f b12 h7
  refine RL.mv rfl rfl rfl ?_
  refine RL.binI (v := .bool (decide (((x0).length : Int) > (6 : Int)))) rfl rfl rfl rfl rfl ?_
  refine RL.pickF rfl rfl rfl rfl ?_
  refine RL.fin ?_
  cases h7
  exact fun a w st => mid_intro (decide (((x0).length : Int) > (6 : Int))) h8 (St.cut [0] ⟨rfl, rfl, rfl, trivial⟩ (by decide) rfl st)
 rintro x4 h13
 have h14 := h9 _ h13
 try dsimp only at h14
 refine GL.weak (env' := [(0, v0), (3, .int .i64 ((x0).length : Int)), (13, .bool x4)]) (L' := [imm (TR.sl (TR.sl TR.int)) v0 x0]) (fun _ _ st => st) ?_
 refine GL.cond rfl (fun b15 => ?_) (fun b15 => ?_)
 ·replace h14 := ite_t b15 h14
  refine GL.seq ?_
  refine GL.region ?_
  refine RL.asg rfl rfl rfl ?_
  refine RL.finG ?_
  have h14 := Option.some.inj h14
  subst h14
  exact GL.ret (Gx.ret (v := .int .i64 (2 : Int)) (res1 rfl rfl) (fun a w st => st.toPostV))
 replace h14 := ite_f b15 h14
 refine GL.skip ?_
 refine GL.seq ?_
 refine GL.seq ?_
 refine GL.region ?_
 refine RL.mv rfl rfl rfl ?_
 refine RL.lenS 0 Try.underlying25 rfl rfl rfl rfl SlOf.imm ?_
 refine RL.mv rfl rfl rfl ?_
 refine RL.finG ?_
 refine GL.open_ 0 rfl (fun S h => len_imm S h) (fun n27 => ?_)
 obtain ⟨y28, K29, h30, h31, h32, h33, h34⟩ := bindR_K h14
 refine GL.join (ι := Unit) (fun (p : Unit) => []) (fun (p : Unit) => []) (fun (p : Unit) => K29 (.nx ())) ?_ ?_
 ·refine GL.block ?_
  refine GL.loop (ι := Nat × (List (List Int))) (fun (p : Nat × (List (List Int))) => [(3, .int .i64 ((x0).length : Int)), (14, v0), (15, .int .i64 ((x0).length : Int)), (16, .int .i64 (p.1 : Int))]) (fun (p : Nat × (List (List Int))) => [imm (TR.sl (TR.sl TR.int)) v0 x0]) (fun (p : Nat × (List (List Int))) => p.1 + p.2.length = (x0).length ∧ List.drop p.1 x0 = p.2 ∧ rangeL (trade_Check_b1 x0) p.2 p.1 () = some y28) (fun (p : Nat × (List (List Int))) => p.2.length) (0, x0) ⟨by simp, by simp, h30⟩ (fun a w st => St.cut [0] ⟨rfl, rfl, rfl, rfl, trivial⟩ (by decide) rfl st) ?_
  rintro ⟨i35, r36⟩ ⟨h41, h42, h40⟩
  try dsimp only at h41 h42 h40
  refine GL.weak (env' := [(3, .int .i64 ((x0).length : Int)), (14, v0), (15, .int .i64 ((x0).length : Int)), (16, .int .i64 (i35 : Int))]) (L' := [imm (TR.sl (TR.sl TR.int)) v0 x0]) (fun _ _ st => st) ?_
  refine GL.seq ?_
  refine GL.region ?_
  refine RL.binI (v := .bool (decide ((i35 : Int) < ((x0).length : Int)))) rfl rfl rfl rfl rfl ?_
  refine RL.finG ?_
  refine GL.seq ?_
  refine GL.cond rfl (fun b43 => ?_) (fun b43 => ?_)
  ·have h44 : i35 < (x0).length := by have := of_decide_eq_true b43; omega
   obtain ⟨y45, r47, hr, e46, h48⟩ := drop_cons h42 rfl h44
   subst hr
   obtain ⟨z37, h38, h39⟩ := rangeL_some h40
   unfold trade_Check_b1 at h38
   try dsimp only at h38
   refine GL.skip ?_
   refine GL.seq ?_
   refine GL.block ?_
   refine GL.seq ?_
   refine GL.region ?_
   refine RL.idxS (sz := 1) 0 Try.underlying25 Try_ln24 rfl rfl rfl rfl rfl SlOf.imm (by omega) (by omega) ?_
   refine RL.ldS (i := i35) (r := (TR.sl TR.int)) (e' := y45) 0 Try_ln24 rfl rfl rfl rfl SlOf.imm e46 Part.self ?_
   intro v50
   refine RL.asg rfl rfl rfl ?_
   refine RL.finG ?_
   refine GL.seq ?_
   refine GL.region ?_
   refine RL.mv rfl rfl rfl ?_
   refine RL.mv rfl rfl rfl ?_
   obtain ⟨y53, e54, h38⟩ := bind_some h38
   refine RL.callV (v := .int .i64 y53) (vs := [.int .i64 ((x0).length : Int), v50]) Try_fit41 rfl (Or.inl rfl) rfl rfl rfl rfl (fun U w hU hW hL => order_Check_c U w hU ((x0).length : Int) _ _ (hL 1 _ _ rfl Seen.imm) _ e54) ?_
   refine RL.binI (v := .bool (y53 != (0 : Int))) rfl rfl rfl rfl rfl ?_
   refine RL.finG ?_
   refine GL.cond rfl (fun b55 => ?_) (fun b55 => ?_)
   ·replace h38 := ite_t b55 h38
    refine GL.seq ?_
    refine GL.region ?_
    refine RL.asg rfl rfl rfl ?_
    refine RL.finG ?_
    cases h38
    replace h39 : some (Fl.rt _) = some y28 := h39
    cases h39
    have hh := h33 _ h31
    subst hh
    exact GL.ret (Gx.ret (v := .int .i64 (3 : Int)) (res1 rfl rfl) (fun a w st => st.toPostV))
   replace h38 := ite_f b55 h38
   refine GL.skip ?_
   refine GL.nilB ?_
   refine GL.region ?_
   refine RL.binI (v := .int .i64 ((i35 + 1 : Nat) : Int)) rfl rfl rfl rfl (binI_succ i35 (by omega)) ?_
   refine RL.mv rfl rfl rfl ?_
   refine RL.fin ?_
   cases h38
   exact fun a w st => lop_intro (i35 + 1, r47) ⟨by show i35 + 1 + r47.length = (x0).length; simp only [List.length_cons] at h41; omega, h48, h39⟩ (by simp) (St.cut [0] ⟨rfl, rfl, rfl, rfl, trivial⟩ (by decide) rfl st)
  have h44 : ¬ i35 < (x0).length := by have := of_decide_eq_false b43; omega
  obtain rfl : r36 = [] := by rw [← h42]; exact List.drop_of_length_le (by omega)
  replace h40 : some (Fl.nx _) = some y28 := h40
  cases h40
  exact GL.exit (fun a w st => mid_intro () h31 (St.cut [] trivial (by decide) rfl st))
 rintro ⟨⟩ h56
 have h57 := h32 _ h56
 try dsimp only at h57
 refine GL.weak (env' := []) (L' := []) (fun _ _ st => st) ?_
 refine GL.seq ?_
 refine GL.region ?_
 refine RL.asg rfl rfl rfl ?_
 refine RL.finG ?_
 have h57 := Option.some.inj h57
 subst h57
 exact GL.ret (Gx.ret (v := .int .i64 (0 : Int)) (res1 rfl rfl) (fun a w st => st.toPostV))

set_option maxHeartbeats 4000000 in
theorem trade_Swap_1_c (S : Hp) (w : World) (hS : S.sub w) (x0 : Int) (v1 : Value) (x1 : (List (List Int))) (k1 : ((TR.ptr (TR.sl (TR.sl TR.int)))).vrep S v1 x1) (v2 : Value) (x2 : (List Int)) (k2 : ((TR.ptr (TR.sl TR.int))).vrep S v2 x2) (res : Int) (hm : trade_Swap_1_m x0 x1 x2 = some res) : Calls Try.prog 51 #[.int .i64 x0, v1, v2] w (PostC w (.int .i64 res)) := by
 refine calls_enter 24 Try.func51 Try.ntmps51 rfl S true [(0, .int .i64 x0), (1, v1), (2, v2)] [imm (TR.ptr (TR.sl (TR.sl TR.int))) v1 x1, imm (TR.ptr (TR.sl TR.int)) v2 x2] rfl ⟨rfl, ⟨rfl, ⟨rfl, trivial⟩⟩⟩ hS ⟨k1, ⟨k2, trivial⟩⟩ ?_
 unfold trade_Swap_1_m at hm
 refine GL.seq ?_
 refine GL.region ?_
 refine RL.asg rfl rfl rfl ?_
 refine RL.finG ?_
 refine GL.seq ?_
 refine GL.seq ?_
 refine GL.region ?_
 refine RL.ldP (off := 0) (r := (TR.sl (TR.sl TR.int))) (e' := x1) 0 Try_ln25 rfl rfl (Or.inr ⟨rfl, rfl⟩) rfl PtOf.imm Part.self ?_
 intro v8
 refine RL.mv rfl rfl rfl ?_
 obtain ⟨y9, e10, hm⟩ := bind_some hm
 refine RL.idxS (sz := 1) 2 Try.underlying25 Try_ln24 rfl rfl rfl rfl rfl SlOf.imm (idx_some e10).1 (idx_some e10).2.1 ?_
 refine RL.ldS (i := (x0).toNat) (r := (TR.sl TR.int)) (e' := y9) 2 Try_ln24 rfl rfl rfl rfl SlOf.imm (idx_some e10).2.2 Part.self ?_
 intro v11
 refine RL.reL (L' := [imm (TR.ptr (TR.sl (TR.sl TR.int))) v1 x1, imm (TR.ptr (TR.sl TR.int)) v2 x2, imm (TR.sl (TR.sl TR.int)) v8 x1, imm (TR.sl TR.int) v11 y9]) rfl ?_
 refine RL.lenS 3 Try.underlying24 rfl rfl rfl rfl SlOf.imm ?_
 refine RL.mv rfl rfl rfl ?_
 refine RL.finG ?_
 refine GL.open_ 3 rfl (fun S h => len_imm S h) (fun n23 => ?_)
 obtain ⟨y24, K25, h26, h27, h28, h29, h30⟩ := bindR_K hm
 refine GL.join (ι := Unit) (fun (p : Unit) => [(0, .int .i64 x0)]) (fun (p : Unit) => []) (fun (p : Unit) => K25 (.nx ())) ?_ ?_
 ·refine GL.block ?_
  refine GL.loop (ι := Nat × (List Int)) (fun (p : Nat × (List Int)) => [(0, .int .i64 x0), (2, v2), (10, v11), (11, .int .i64 ((y9).length : Int)), (12, .int .i64 (p.1 : Int))]) (fun (p : Nat × (List Int)) => [imm (TR.ptr (TR.sl TR.int)) v2 x2, imm (TR.sl TR.int) v11 y9]) (fun (p : Nat × (List Int)) => p.1 + p.2.length = (y9).length ∧ List.drop p.1 y9 = p.2 ∧ rangeL (trade_Swap_1_b1 x2) p.2 p.1 () = some y24) (fun (p : Nat × (List Int)) => p.2.length) (0, y9) ⟨by simp, by simp, h26⟩ (fun a w st => St.cut [1, 3] ⟨rfl, rfl, rfl, rfl, rfl, trivial⟩ (by decide) rfl st) ?_
  rintro ⟨i31, r32⟩ ⟨h37, h38, h36⟩
  try dsimp only at h37 h38 h36
  refine GL.weak (env' := [(0, .int .i64 x0), (2, v2), (10, v11), (11, .int .i64 ((y9).length : Int)), (12, .int .i64 (i31 : Int))]) (L' := [imm (TR.ptr (TR.sl TR.int)) v2 x2, imm (TR.sl TR.int) v11 y9]) (fun _ _ st => st) ?_
  refine GL.seq ?_
  refine GL.region ?_
  refine RL.binI (v := .bool (decide ((i31 : Int) < ((y9).length : Int)))) rfl rfl rfl rfl rfl ?_
  refine RL.finG ?_
  refine GL.seq ?_
  refine GL.cond rfl (fun b39 => ?_) (fun b39 => ?_)
  ·have h40 : i31 < (y9).length := by have := of_decide_eq_true b39; omega
   obtain ⟨y41, r43, hr, e42, h44⟩ := drop_cons h38 rfl h40
   subst hr
   obtain ⟨z33, h34, h35⟩ := rangeL_some h36
   unfold trade_Swap_1_b1 at h34
   try dsimp only at h34
   refine GL.skip ?_
   refine GL.seq ?_
   refine GL.block ?_
   refine GL.seq ?_
   refine GL.region ?_
   refine RL.idxS (sz := 1) 1 Try.underlying24 Try_ln3 rfl rfl rfl rfl rfl SlOf.imm (by omega) (by omega) ?_
   refine RL.ldSx (i := i31) (e' := y41) 1 Ex.ik Try_ln3 rfl rfl rfl rfl SlOf.imm e42 Part.self ?_
   refine RL.asg rfl rfl rfl ?_
   refine RL.finG ?_
   refine GL.seq ?_
   refine GL.region ?_
   refine RL.ldP (off := 0) (r := (TR.sl TR.int)) (e' := x2) 0 Try_ln24 rfl rfl (Or.inr ⟨rfl, rfl⟩) rfl PtOf.imm Part.self ?_
   intro v48
   refine RL.mv rfl rfl rfl ?_
   obtain ⟨y49, e50, h34⟩ := bind_some h34
   refine RL.idxS (sz := 1) 2 Try.underlying24 Try_ln3 rfl rfl rfl rfl rfl SlOf.imm (idx_some e50).1 (idx_some e50).2.1 ?_
   refine RL.ldSx (i := (y41).toNat) (e' := y49) 2 Ex.ik Try_ln3 rfl rfl rfl rfl SlOf.imm (idx_some e50).2.2 Part.self ?_
   refine RL.binI (v := .bool (y49 == (0 : Int))) rfl rfl rfl rfl rfl ?_
   refine RL.finG ?_
   refine GL.cond rfl (fun b51 => ?_) (fun b51 => ?_)
   ·replace h34 := ite_t b51 h34
    refine GL.seq ?_
    refine GL.region ?_
    refine RL.mv rfl rfl rfl ?_
    refine RL.asg rfl rfl rfl ?_
    refine RL.finG ?_
    cases h34
    replace h35 : some (Fl.rt _) = some y24 := h35
    cases h35
    have hh := h29 _ h27
    subst hh
    exact GL.ret (Gx.ret (v := .int .i64 y41) (res1 rfl rfl) (fun a w st => st.toPostC rfl))
   replace h34 := ite_f b51 h34
   refine GL.skip ?_
   refine GL.nilB ?_
   refine GL.region ?_
   refine RL.binI (v := .int .i64 ((i31 + 1 : Nat) : Int)) rfl rfl rfl rfl (binI_succ i31 (by omega)) ?_
   refine RL.mv rfl rfl rfl ?_
   refine RL.fin ?_
   cases h34
   exact fun a w st => lop_intro (i31 + 1, r43) ⟨by show i31 + 1 + r43.length = (y9).length; simp only [List.length_cons] at h37; omega, h44, h35⟩ (by simp) (St.cut [0, 1] ⟨rfl, rfl, rfl, rfl, rfl, trivial⟩ (by decide) rfl st)
  have h40 : ¬ i31 < (y9).length := by have := of_decide_eq_false b39; omega
  obtain rfl : r32 = [] := by rw [← h38]; exact List.drop_of_length_le (by omega)
  replace h36 : some (Fl.nx _) = some y24 := h36
  cases h36
  exact GL.exit (fun a w st => mid_intro () h27 (St.cut [] ⟨rfl, trivial⟩ (by decide) rfl st))
 rintro ⟨⟩ h52
 have h53 := h28 _ h52
 try dsimp only at h53
 refine GL.weak (env' := [(0, .int .i64 x0)]) (L' := []) (fun _ _ st => st) ?_
 refine GL.seq ?_
 refine GL.region ?_
 refine RL.mv rfl rfl rfl ?_
 refine RL.asg rfl rfl rfl ?_
 refine RL.finG ?_
 have h53 := Option.some.inj h53
 subst h53
 exact GL.ret (Gx.ret (v := .int .i64 x0) (res1 rfl rfl) (fun a w st => st.toPostC rfl))

set_option maxHeartbeats 4000000 in
theorem trade_Swap_c (S : Hp) (w : World) (hS : S.sub w) (v0 : Value) (x0 : (List (List Int))) (k0 : ((TR.sl (TR.sl TR.int))).vrep S v0 x0) (res : (List Int) × (List (List Int)) × Int) (hm : trade_Swap_m x0 = some res) : Calls Try.prog 30 #[v0] w (Post w S (fun (o : Value × Value) => .tuple #[o.1, o.2, .int .i64 res.2.2]) (fun (o : Value × Value) => [own 3 TR.int o.1 res.1, own 24 (TR.sl TR.int) o.2 res.2.1])) := by
 refine calls_enter 110 Try.func30 Try.ntmps30 rfl S false [(0, v0)] [imm (TR.sl (TR.sl TR.int)) v0 x0] rfl ⟨rfl, trivial⟩ hS ⟨k0, trivial⟩ ?_
 unfold trade_Swap_m at hm
 refine GL.seq ?_
 refine GL.region ?_
 refine RL.box (t := (TR.sl (TR.sl TR.int))) (e := x0) rfl rfl rfl rfl (VR.item 0 rfl) ?_
 intro v3
 refine RL.asg rfl rfl rfl ?_
 refine RL.asg rfl rfl rfl ?_
 refine RL.asg rfl rfl rfl ?_
 refine RL.finG ?_
 refine GL.seq ?_
 refine GL.seq ?_
 refine GL.region ?_
 refine RL.ldP (off := 0) (r := (TR.sl (TR.sl TR.int))) (e' := x0) 1 Try_ln25 rfl rfl (Or.inr ⟨rfl, rfl⟩) rfl PtOf.obox Part.self ?_
 intro v7
 refine RL.reL (L' := [imm (TR.sl (TR.sl TR.int)) v0 x0, obox 25 (TR.sl (TR.sl TR.int)) v3 x0, imm (TR.sl (TR.sl TR.int)) v7 x0]) rfl ?_
 obtain ⟨y8, e9, hm⟩ := bind_some hm
 refine RL.callV (v := .int .i64 y8) (vs := [v7]) Try_fit50 rfl (Or.inl rfl) rfl rfl rfl rfl (fun U w hU hW hL => trade_Check_c U w hU _ _ (hL 2 _ _ rfl Seen.imm) _ e9) ?_
 refine RL.asg rfl rfl rfl ?_
 refine RL.finG ?_
 refine GL.seq ?_
 refine GL.region ?_
 refine RL.mv rfl rfl rfl ?_
 refine RL.binI (v := .bool (y8 != (0 : Int))) rfl rfl rfl rfl rfl ?_
 refine RL.finG ?_
 refine GL.cond rfl (fun b10 => ?_) (fun b10 => ?_)
 ·replace hm := ite_t b10 hm
  refine GL.seq ?_
  refine GL.region ?_
  refine RL.mv rfl rfl rfl ?_
  refine RL.asg rfl rfl rfl ?_
  refine RL.asg rfl rfl rfl ?_
  refine RL.asg rfl rfl rfl ?_
  refine RL.finG ?_
  refine GL.weak (fun a w st => st.nilOwn 3 TR.int) ?_
  refine GL.weak (fun a w st => st.nilOwn 24 (TR.sl TR.int)) ?_
  have hm := Option.some.inj hm
  subst hm
  exact GL.ret (Gx.ret (v := .tuple #[Value.slice none 0 0, Value.slice none 0 0, .int .i64 y8]) (res3 rfl rfl rfl rfl) (fun a w st => (st.pick [3, 4] (by decide) rfl).toPost (Value.slice none 0 0, Value.slice none 0 0)))
 replace hm := ite_f b10 hm
 refine GL.skip ?_
 refine GL.seq ?_
 refine GL.region ?_
 refine RL.ldP (off := 0) (r := (TR.sl (TR.sl TR.int))) (e' := x0) 1 Try_ln25 rfl rfl (Or.inr ⟨rfl, rfl⟩) rfl PtOf.obox Part.self ?_
 intro v12
 refine RL.lenS 3 Try.underlying25 rfl rfl rfl rfl SlOf.imm ?_
 refine RL.asg rfl rfl rfl ?_
 refine RL.finG ?_
 refine GL.seq ?_
 refine GL.region ?_
 refine RL.mv rfl rfl rfl ?_
 obtain ⟨y16, e17, hm⟩ := bind_some hm
 replace e17 := chk_some e17
 refine RL.mkS (t := TR.int) (z := (0 : Int)) Try.underlying24 Try_lo3 (fun S => rfl) rfl rfl rfl rfl e17.1 e17.2 ?_
 intro v18
 refine RL.reL (L' := [imm (TR.sl (TR.sl TR.int)) v0 x0, obox 25 (TR.sl (TR.sl TR.int)) v3 x0, imm (TR.sl (TR.sl TR.int)) v7 x0, imm (TR.sl (TR.sl TR.int)) v12 x0, own 3 TR.int v18 (List.replicate (((x0).length : Int)).toNat (0 : Int))]) rfl ?_
 refine RL.asg rfl rfl rfl ?_
 refine RL.finG ?_
 refine GL.seq ?_
 refine GL.seq ?_
 refine GL.region ?_
 refine RL.mv rfl rfl rfl ?_
 refine RL.lenS 4 Try.underlying24 rfl rfl rfl rfl SlOf.own ?_
 refine RL.mv rfl rfl rfl ?_
 refine RL.finG ?_
 refine GL.lenOwn 4 rfl (fun n28 => ?_)
 obtain ⟨y29, K30, h31, h32, h33, h34, h35⟩ := bindR_K hm
 refine GL.join (ι := (List Int)) (fun (p : (List Int)) => [(1, v3), (6, .int .i64 ((x0).length : Int)), (7, v18)]) (fun (p : (List Int)) => [obox 25 (TR.sl (TR.sl TR.int)) v3 x0, own 3 TR.int v18 p]) (fun (p : (List Int)) => K30 (.nx p)) ?_ ?_
 ·refine GL.block ?_
  refine GL.loop (ι := Nat × Nat × (List Int)) (fun (p : Nat × Nat × (List Int)) => [(1, v3), (6, .int .i64 ((x0).length : Int)), (7, v18), (30, .int .i64 (((List.replicate (((x0).length : Int)).toNat (0 : Int))).length : Int)), (31, .int .i64 (p.1 : Int))]) (fun (p : Nat × Nat × (List Int)) => [obox 25 (TR.sl (TR.sl TR.int)) v3 x0, own 3 TR.int v18 p.2.2]) (fun (p : Nat × Nat × (List Int)) => p.1 + p.2.1 = ((List.replicate (((x0).length : Int)).toNat (0 : Int))).length ∧ rangeN trade_Swap_b1 p.2.1 p.1 p.2.2 = some y29) (fun (p : Nat × Nat × (List Int)) => p.2.1) (0, ((List.replicate (((x0).length : Int)).toNat (0 : Int))).length, (List.replicate (((x0).length : Int)).toNat (0 : Int))) ⟨by simp, h31⟩ (fun a w st => St.cut [1, 4] ⟨rfl, rfl, rfl, rfl, rfl, trivial⟩ (by decide) rfl st) ?_
  rintro ⟨i36, r37, l23⟩ ⟨h42, h41⟩
  try dsimp only at h42 h41
  refine GL.weak (env' := [(1, v3), (6, .int .i64 ((x0).length : Int)), (7, v18), (30, .int .i64 (((List.replicate (((x0).length : Int)).toNat (0 : Int))).length : Int)), (31, .int .i64 (i36 : Int))]) (L' := [obox 25 (TR.sl (TR.sl TR.int)) v3 x0, own 3 TR.int v18 l23]) (fun _ _ st => st) ?_
  refine GL.seq ?_
  refine GL.region ?_
  refine RL.binI (v := .bool (decide ((i36 : Int) < (((List.replicate (((x0).length : Int)).toNat (0 : Int))).length : Int)))) rfl rfl rfl rfl rfl ?_
  refine RL.finG ?_
  refine GL.seq ?_
  refine GL.cond rfl (fun b44 => ?_) (fun b44 => ?_)
  ·have h45 : i36 < ((List.replicate (((x0).length : Int)).toNat (0 : Int))).length := by have := of_decide_eq_true b44; omega
   obtain ⟨r46, hr⟩ : ∃ m, r37 = m + 1 := ⟨r37 - 1, by omega⟩
   subst hr
   obtain ⟨z38, h39, h40⟩ := rangeN_some h41
   unfold trade_Swap_b1 at h39
   try dsimp only at h39
   refine GL.skip ?_
   refine GL.seq ?_
   refine GL.block ?_
   refine GL.seq ?_
   refine GL.region ?_
   refine RL.mv rfl rfl rfl ?_
   refine RL.asg rfl rfl rfl ?_
   refine RL.finG ?_
   refine GL.region ?_
   refine RL.mv rfl rfl rfl ?_
   refine RL.mv rfl rfl rfl ?_
   obtain ⟨y49, e50, h39⟩ := bind_some h39
   refine RL.idxS (sz := 1) 1 Try.underlying24 Try_ln3 rfl rfl rfl rfl rfl SlOf.own (idx_some e50).1 (idx_some e50).2.1 ?_
   refine RL.stS (i := i36) (e' := (-1 : Int)) (e1 := (-1 : Int)) (r := TR.int) 1 Try_ln3 rfl rfl rfl rfl VR.int rfl (idx_some e50).2.2 Upd.self ?_
   refine RL.finG ?_
   refine GL.nilB ?_
   refine GL.region ?_
   refine RL.binI (v := .int .i64 ((i36 + 1 : Nat) : Int)) rfl rfl rfl rfl (binI_succ i36 (by omega)) ?_
   refine RL.mv rfl rfl rfl ?_
   refine RL.fin ?_
   cases h39
   exact fun a w st => lop_intro (i36 + 1, r46, (List.set l23 i36 (-1 : Int))) ⟨by show i36 + 1 + r46 = ((List.replicate (((x0).length : Int)).toNat (0 : Int))).length; omega, h40⟩ (by simp) (St.cut [0, 1] ⟨rfl, rfl, rfl, rfl, rfl, trivial⟩ (by decide) rfl st)
  have h45 : ¬ i36 < ((List.replicate (((x0).length : Int)).toNat (0 : Int))).length := by have := of_decide_eq_false b44; omega
  obtain rfl : r37 = 0 := by omega
  replace h41 : some (Fl.nx _) = some y29 := h41
  cases h41
  exact GL.exit (fun a w st => mid_intro l23 h32 (St.cut [0, 1] ⟨rfl, rfl, rfl, trivial⟩ (by decide) rfl st))
 rintro l23 h51
 have h52 := h33 _ h51
 try dsimp only at h52
 refine GL.weak (env' := [(1, v3), (6, .int .i64 ((x0).length : Int)), (7, v18)]) (L' := [obox 25 (TR.sl (TR.sl TR.int)) v3 x0, own 3 TR.int v18 l23]) (fun _ _ st => st) ?_
 refine GL.seq ?_
 refine GL.region ?_
 refine RL.mv rfl rfl rfl ?_
 obtain ⟨y57, e58, h52⟩ := bind_some h52
 replace e58 := chk_some e58
 refine RL.mkS (t := TR.int) (z := (0 : Int)) Try.underlying24 Try_lo3 (fun S => rfl) rfl rfl rfl rfl e58.1 e58.2 ?_
 intro v59
 refine RL.alloc (t := TR.raw) (z := .slice none 0 0) Try_lo24 (fun S => ⟨rfl, rfl⟩) rfl rfl rfl ?_
 intro v60
 refine RL.reL (L' := [obox 25 (TR.sl (TR.sl TR.int)) v3 x0, own 3 TR.int v18 l23, own 3 TR.int v59 (List.replicate (((x0).length : Int)).toNat (0 : Int)), obox 24 TR.raw v60 (Value.slice none 0 0)]) rfl ?_
 refine RL.stP (off := 0) (e' := v59) (d1 := v59) (r := TR.raw) 3 Try_ln24 rfl rfl (Or.inr ⟨rfl, rfl⟩) rfl (VR.rawOf 2 rfl SlOf.own) rfl Upd.self ?_
 refine RL.finG ?_
 refine GL.seq ?_
 refine GL.region ?_
 refine RL.mkF (vs := [v3, v60]) rfl rfl rfl ?_
 refine RL.asg rfl rfl rfl ?_
 refine RL.finG ?_
 refine GL.seq ?_
 refine GL.region ?_
 refine RL.asg rfl rfl rfl ?_
 refine RL.finG ?_
 refine GL.seq ?_
 refine GL.seq ?_
 refine GL.region ?_
 refine RL.mv rfl rfl rfl ?_
 refine RL.asg rfl rfl rfl ?_
 refine RL.finG ?_
 refine GL.weak (fun a w st => st.nilOwn 24 (TR.sl TR.int)) ?_
 obtain ⟨y577, K578, h579, h580, h581, h582, h583⟩ := bindR_K h52
 refine GL.join (ι := (List Int) × (List Int) × (List (List Int)) × Int × Value) (fun (p : (List Int) × (List Int) × (List (List Int)) × Int × Value) => [(7, v18), (11, p.2.2.2.2)]) (fun (p : (List Int) × (List Int) × (List (List Int)) × Int × Value) => [own 3 TR.int v18 p.1, own 24 (TR.sl TR.int) p.2.2.2.2 p.2.2.1]) (fun (p : (List Int) × (List Int) × (List (List Int)) × Int × Value) => K578 (.nx (p.1, p.2.1, p.2.2.1, p.2.2.2.1))) ?_ ?_
 ·refine GL.block ?_
  refine GL.loop (ι := Nat × (List Int) × (List Int) × (List (List Int)) × Int × Value) (fun (p : Nat × (List Int) × (List Int) × (List (List Int)) × Int × Value) => [(6, .int .i64 ((x0).length : Int)), (7, v18), (9, v60), (10, .func (.func 51) #[] #[v3, v60]), (11, p.2.2.2.2.2), (12, .int .i64 p.2.2.2.2.1)]) (fun (p : Nat × (List Int) × (List Int) × (List (List Int)) × Int × Value) => [own 3 TR.int v18 p.2.1, own 3 TR.int v59 p.2.2.1, obox 24 TR.raw v60 v59, obox 25 (TR.sl (TR.sl TR.int)) v3 x0, own 24 (TR.sl TR.int) p.2.2.2.2.2 p.2.2.2.1]) (fun (p : Nat × (List Int) × (List Int) × (List (List Int)) × Int × Value) => loopM (trade_Swap_b2 x0) p.1 (p.2.1, p.2.2.1, p.2.2.2.1, p.2.2.2.2.1) = some y577) (fun (p : Nat × (List Int) × (List Int) × (List (List Int)) × Int × Value) => p.1) (1048576, l23, (List.replicate (((x0).length : Int)).toNat (0 : Int)), [], ((x0).length : Int), Value.slice none 0 0) h579 (fun a w st => St.cut [1, 2, 3, 0, 4] ⟨rfl, rfl, rfl, rfl, rfl, rfl, trivial⟩ (by decide) rfl st) ?_
  rintro ⟨r585, l318, l319, l320, x322, v321⟩ h589
  try dsimp only at h589
  refine GL.weak (env' := [(6, .int .i64 ((x0).length : Int)), (7, v18), (9, v60), (10, .func (.func 51) #[] #[v3, v60]), (11, v321), (12, .int .i64 x322)]) (L' := [own 3 TR.int v18 l318, own 3 TR.int v59 l319, obox 24 TR.raw v60 v59, obox 25 (TR.sl (TR.sl TR.int)) v3 x0, own 24 (TR.sl TR.int) v321 l320]) (fun _ _ st => st) ?_
  obtain ⟨r592, z586, hr, h587, h588⟩ := loopM_some h589
  subst hr
  unfold trade_Swap_b2 at h587
  try dsimp only at h587
  refine GL.seq ?_
  refine GL.seq ?_
  refine GL.region ?_
  refine RL.mv rfl rfl rfl ?_
  refine RL.binI (v := .bool (decide (x322 > (0 : Int)))) rfl rfl rfl rfl rfl ?_
  refine RL.finG ?_
  refine GL.cond rfl (fun b593 => ?_) (fun b593 => ?_)
  ·replace h587 := ite_t b593 h587
   refine GL.skip ?_
   refine GL.block ?_
   refine GL.seq ?_
   refine GL.region ?_
   refine RL.asg rfl rfl rfl ?_
   refine RL.finG ?_
   refine GL.seq ?_
   refine GL.seq ?_
   refine GL.region ?_
   refine RL.mv rfl rfl rfl ?_
   refine RL.mv rfl rfl rfl ?_
   refine RL.finG ?_
   refine GL.weak (fun a w st => st.nilOwn 3 TR.int) ?_
   obtain ⟨y649, e650, h587⟩ := bind_some h587
   replace e650 := chk_some e650
   obtain ⟨y651, K652, h653, h654, h655, h656, h657⟩ := bindF_K h587
   refine GL.join (ι := (List Int) × Value) (fun (p : (List Int) × Value) => [(6, .int .i64 ((x0).length : Int)), (7, v18), (9, v60), (10, .func (.func 51) #[] #[v3, v60]), (11, v321), (12, .int .i64 x322), (13, p.2)]) (fun (p : (List Int) × Value) => [own 3 TR.int v18 l318, obox 24 TR.raw v60 v59, own 3 TR.int v59 l319, obox 25 (TR.sl (TR.sl TR.int)) v3 x0, own 24 (TR.sl TR.int) v321 l320, own 3 TR.int p.2 p.1]) (fun (p : (List Int) × Value) => K652 (.nx p.1)) ?_ ?_
   ·refine GL.block ?_
    refine GL.loop (ι := Nat × Nat × (List Int) × Value) (fun (p : Nat × Nat × (List Int) × Value) => [(6, .int .i64 ((x0).length : Int)), (7, v18), (9, v60), (10, .func (.func 51) #[] #[v3, v60]), (11, v321), (12, .int .i64 x322), (13, p.2.2.2), (44, .int .i64 ((x0).length : Int)), (45, .int .i64 (p.1 : Int))]) (fun (p : Nat × Nat × (List Int) × Value) => [own 3 TR.int v18 l318, own 3 TR.int v59 l319, obox 24 TR.raw v60 v59, obox 25 (TR.sl (TR.sl TR.int)) v3 x0, own 24 (TR.sl TR.int) v321 l320, own 3 TR.int p.2.2.2 p.2.2.1]) (fun (p : Nat × Nat × (List Int) × Value) => p.1 + p.2.1 = (((x0).length : Int)).toNat ∧ rangeN (trade_Swap_b3 l318 x0 l319) p.2.1 p.1 p.2.2.1 = some y651) (fun (p : Nat × Nat × (List Int) × Value) => p.2.1) (0, (((x0).length : Int)).toNat, [], Value.slice none 0 0) ⟨by simp, h653⟩ (fun a w st => St.cut [0, 1, 2, 3, 4, 5] ⟨rfl, rfl, rfl, rfl, rfl, rfl, rfl, rfl, rfl, trivial⟩ (by decide) rfl st) ?_
    rintro ⟨i658, r659, l594, v595⟩ ⟨h664, h663⟩
    try dsimp only at h664 h663
    refine GL.weak (env' := [(6, .int .i64 ((x0).length : Int)), (7, v18), (9, v60), (10, .func (.func 51) #[] #[v3, v60]), (11, v321), (12, .int .i64 x322), (13, v595), (44, .int .i64 ((x0).length : Int)), (45, .int .i64 (i658 : Int))]) (L' := [own 3 TR.int v18 l318, own 3 TR.int v59 l319, obox 24 TR.raw v60 v59, obox 25 (TR.sl (TR.sl TR.int)) v3 x0, own 24 (TR.sl TR.int) v321 l320, own 3 TR.int v595 l594]) (fun _ _ st => st) ?_
    refine GL.seq ?_
    refine GL.region ?_
    refine RL.binI (v := .bool (decide ((i658 : Int) < ((x0).length : Int)))) rfl rfl rfl rfl rfl ?_
    refine RL.finG ?_
    refine GL.seq ?_
    refine GL.cond rfl (fun b666 => ?_) (fun b666 => ?_)
    ·have h667 : i658 < (((x0).length : Int)).toNat := by have := of_decide_eq_true b666; omega
     obtain ⟨r668, hr⟩ : ∃ m, r659 = m + 1 := ⟨r659 - 1, by omega⟩
     subst hr
     obtain ⟨z660, h661, h662⟩ := rangeN_some h663
     unfold trade_Swap_b3 at h661
     try dsimp only at h661
     refine GL.skip ?_
     refine GL.seq ?_
     refine GL.block ?_
     refine GL.seq ?_
     refine GL.region ?_
     refine RL.mv rfl rfl rfl ?_
     refine RL.asg rfl rfl rfl ?_
     refine RL.finG ?_
     refine GL.seq ?_
     refine GL.seq ?_
     refine GL.region ?_
     refine RL.mv rfl rfl rfl ?_
     refine RL.mv rfl rfl rfl ?_
     obtain ⟨y671, e672, h661⟩ := bind_some h661
     refine RL.idxS (sz := 1) 0 Try.underlying24 Try_ln3 rfl rfl rfl rfl rfl SlOf.own (idx_some e672).1 (idx_some e672).2.1 ?_
     refine RL.ldSx (i := i658) (e' := y671) 0 Ex.ik Try_ln3 rfl rfl rfl rfl SlOf.own (idx_some e672).2.2 Part.self ?_
     refine RL.binI (v := .bool (decide (y671 ≥ (0 : Int)))) rfl rfl rfl rfl rfl ?_
     refine RL.finG ?_
     refine GL.cond rfl (fun b673 => ?_) (fun b673 => ?_)
     ·replace h661 := ite_t b673 h661
      refine GL.exit ?_
      refine Gx.here ?_
      refine GL.region ?_
      refine RL.binI (v := .int .i64 ((i658 + 1 : Nat) : Int)) rfl rfl rfl rfl (binI_succ i658 (by omega)) ?_
      refine RL.mv rfl rfl rfl ?_
      refine RL.fin ?_
      cases h661
      exact fun a w st => lop_intro (i658 + 1, r668, l594, v595) ⟨by show i658 + 1 + r668 = (((x0).length : Int)).toNat; omega, h662⟩ (by simp) (St.cut [0, 1, 2, 3, 4, 5] ⟨rfl, rfl, rfl, rfl, rfl, rfl, rfl, rfl, rfl, trivial⟩ (by decide) rfl st)
     replace h661 := ite_f b673 h661
     refine GL.skip ?_
     refine GL.seq ?_
     refine GL.region ?_
     refine RL.mv rfl rfl rfl ?_
     refine RL.mv rfl rfl rfl ?_
     obtain ⟨y676, e677, h661⟩ := bind_some h661
     refine RL.callC (v := .int .i64 y676) (vs := [.int .i64 (i658 : Int)]) Try_fit51 rfl rfl rfl rfl (fun U w hU hW hL => trade_Swap_1_c U w hU (i658 : Int) _ _ (hL 3 _ _ rfl Seen.obox) _ _ (ptr_raw (hL 2 _ _ rfl Seen.obox) rfl (hL 1 _ _ rfl Seen.own)) _ e677) ?_
     refine RL.asg rfl rfl rfl ?_
     refine RL.finG ?_
     refine GL.seq ?_
     refine GL.seq ?_
     refine GL.region ?_
     refine RL.mv rfl rfl rfl ?_
     refine RL.mv rfl rfl rfl ?_
     refine RL.finG ?_
     obtain ⟨y685, e686, h661⟩ := bind_some h661
     replace e686 := chk_some e686
     obtain ⟨y687, K688, h689, h690, h691, h692, h693⟩ := bindF_K h661
     refine GL.join (ι := Int) (fun (p : Int) => [(6, .int .i64 ((x0).length : Int)), (7, v18), (9, v60), (10, .func (.func 51) #[] #[v3, v60]), (11, v321), (12, .int .i64 x322), (13, v595), (14, .int .i64 (i658 : Int)), (15, .int .i64 p), (44, .int .i64 ((x0).length : Int)), (45, .int .i64 (i658 : Int))]) (fun (p : Int) => [own 3 TR.int v18 l318, obox 24 TR.raw v60 v59, own 3 TR.int v59 l319, obox 25 (TR.sl (TR.sl TR.int)) v3 x0, own 24 (TR.sl TR.int) v321 l320, own 3 TR.int v595 l594]) (fun (p : Int) => K688 (.nx p)) ?_ ?_
     ·refine GL.block ?_
      refine GL.loop (ι := Nat × Nat × Int) (fun (p : Nat × Nat × Int) => [(6, .int .i64 ((x0).length : Int)), (7, v18), (9, v60), (10, .func (.func 51) #[] #[v3, v60]), (11, v321), (12, .int .i64 x322), (13, v595), (14, .int .i64 (i658 : Int)), (15, .int .i64 p.2.2), (44, .int .i64 ((x0).length : Int)), (45, .int .i64 (i658 : Int)), (56, .int .i64 ((x0).length : Int)), (57, .int .i64 (p.1 : Int))]) (fun (p : Nat × Nat × Int) => [own 3 TR.int v18 l318, own 3 TR.int v59 l319, obox 24 TR.raw v60 v59, obox 25 (TR.sl (TR.sl TR.int)) v3 x0, own 24 (TR.sl TR.int) v321 l320, own 3 TR.int v595 l594]) (fun (p : Nat × Nat × Int) => p.1 + p.2.1 = (((x0).length : Int)).toNat ∧ rangeN (trade_Swap_b4 i658 x0 l319) p.2.1 p.1 p.2.2 = some y687) (fun (p : Nat × Nat × Int) => p.2.1) (0, (((x0).length : Int)).toNat, y676) ⟨by simp, h689⟩ (fun a w st => St.cut [0, 1, 2, 3, 4, 5] ⟨rfl, rfl, rfl, rfl, rfl, rfl, rfl, rfl, rfl, rfl, rfl, rfl, rfl, trivial⟩ (by decide) rfl st) ?_
      rintro ⟨i694, r695, x678⟩ ⟨h700, h699⟩
      try dsimp only at h700 h699
      refine GL.weak (env' := [(6, .int .i64 ((x0).length : Int)), (7, v18), (9, v60), (10, .func (.func 51) #[] #[v3, v60]), (11, v321), (12, .int .i64 x322), (13, v595), (14, .int .i64 (i658 : Int)), (15, .int .i64 x678), (44, .int .i64 ((x0).length : Int)), (45, .int .i64 (i658 : Int)), (56, .int .i64 ((x0).length : Int)), (57, .int .i64 (i694 : Int))]) (L' := [own 3 TR.int v18 l318, own 3 TR.int v59 l319, obox 24 TR.raw v60 v59, obox 25 (TR.sl (TR.sl TR.int)) v3 x0, own 24 (TR.sl TR.int) v321 l320, own 3 TR.int v595 l594]) (fun _ _ st => st) ?_
      refine GL.seq ?_
      refine GL.region ?_
      refine RL.binI (v := .bool (decide ((i694 : Int) < ((x0).length : Int)))) rfl rfl rfl rfl rfl ?_
      refine RL.finG ?_
      refine GL.seq ?_
      refine GL.cond rfl (fun b702 => ?_) (fun b702 => ?_)
      ·have h703 : i694 < (((x0).length : Int)).toNat := by have := of_decide_eq_true b702; omega
       obtain ⟨r704, hr⟩ : ∃ m, r695 = m + 1 := ⟨r695 - 1, by omega⟩
       subst hr
       obtain ⟨z696, h697, h698⟩ := rangeN_some h699
       unfold trade_Swap_b4 at h697
       try dsimp only at h697
       refine GL.skip ?_
       refine GL.seq ?_
       refine GL.block ?_
       refine GL.seq ?_
       refine GL.region ?_
       refine RL.mv rfl rfl rfl ?_
       refine RL.mv rfl rfl rfl ?_
       refine RL.binI (v := .bool (x678 != (i658 : Int))) rfl rfl rfl rfl rfl ?_
       refine RL.finG ?_
       refine GL.cond rfl (fun b705 => ?_) (fun b705 => ?_)
       ·replace h697 := ite_t b705 h697
        refine GL.region ?_
        refine RL.mv rfl rfl rfl ?_
        refine RL.mv rfl rfl rfl ?_
        obtain ⟨y708, e709, h697⟩ := bind_some h697
        refine RL.callC (v := .int .i64 y708) (vs := [.int .i64 x678]) Try_fit51 rfl rfl rfl rfl (fun U w hU hW hL => trade_Swap_1_c U w hU x678 _ _ (hL 3 _ _ rfl Seen.obox) _ _ (ptr_raw (hL 2 _ _ rfl Seen.obox) rfl (hL 1 _ _ rfl Seen.own)) _ e709) ?_
        refine RL.asg rfl rfl rfl ?_
        refine RL.finG ?_
        refine GL.nilB ?_
        refine GL.region ?_
        refine RL.binI (v := .int .i64 ((i694 + 1 : Nat) : Int)) rfl rfl rfl rfl (binI_succ i694 (by omega)) ?_
        refine RL.mv rfl rfl rfl ?_
        refine RL.fin ?_
        cases h697
        exact fun a w st => lop_intro (i694 + 1, r704, y708) ⟨by show i694 + 1 + r704 = (((x0).length : Int)).toNat; omega, h698⟩ (by simp) (St.cut [0, 1, 2, 3, 4, 5] ⟨rfl, rfl, rfl, rfl, rfl, rfl, rfl, rfl, rfl, rfl, rfl, rfl, rfl, trivial⟩ (by decide) rfl st)
       replace h697 := ite_f b705 h697
       refine GL.skip ?_
       refine GL.nilB ?_
       refine GL.region ?_
       refine RL.binI (v := .int .i64 ((i694 + 1 : Nat) : Int)) rfl rfl rfl rfl (binI_succ i694 (by omega)) ?_
       refine RL.mv rfl rfl rfl ?_
       refine RL.fin ?_
       cases h697
       exact fun a w st => lop_intro (i694 + 1, r704, x678) ⟨by show i694 + 1 + r704 = (((x0).length : Int)).toNat; omega, h698⟩ (by simp) (St.cut [0, 1, 2, 3, 4, 5] ⟨rfl, rfl, rfl, rfl, rfl, rfl, rfl, rfl, rfl, rfl, rfl, rfl, rfl, trivial⟩ (by decide) rfl st)
      have h703 : ¬ i694 < (((x0).length : Int)).toNat := by have := of_decide_eq_false b702; omega
      obtain rfl : r695 = 0 := by omega
      replace h699 : some (Fl.nx _) = some y687 := h699
      cases h699
      exact GL.exit (fun a w st => mid_intro x678 h690 (St.cut [0, 2, 1, 3, 4, 5] ⟨rfl, rfl, rfl, rfl, rfl, rfl, rfl, rfl, rfl, rfl, rfl, trivial⟩ (by decide) rfl st))
     rintro x678 h710
     have h711 := h691 _ h710
     try dsimp only at h711
     refine GL.weak (env' := [(6, .int .i64 ((x0).length : Int)), (7, v18), (9, v60), (10, .func (.func 51) #[] #[v3, v60]), (11, v321), (12, .int .i64 x322), (13, v595), (14, .int .i64 (i658 : Int)), (15, .int .i64 x678), (44, .int .i64 ((x0).length : Int)), (45, .int .i64 (i658 : Int))]) (L' := [own 3 TR.int v18 l318, obox 24 TR.raw v60 v59, own 3 TR.int v59 l319, obox 25 (TR.sl (TR.sl TR.int)) v3 x0, own 24 (TR.sl TR.int) v321 l320, own 3 TR.int v595 l594]) (fun _ _ st => st) ?_
     refine GL.seq ?_
     refine GL.region ?_
     refine RL.mv rfl rfl rfl ?_
     refine RL.mv rfl rfl rfl ?_
     refine RL.binI (v := .bool (x678 == (i658 : Int))) rfl rfl rfl rfl rfl ?_
     refine RL.finG ?_
     refine GL.cond rfl (fun b712 => ?_) (fun b712 => ?_)
     ·replace h711 := ite_t b712 h711
      refine GL.region ?_
      refine RL.mv rfl rfl rfl ?_
      refine RL.mv rfl rfl rfl ?_
      refine RL.bS (t := TR.int) (vs := [.int .i64 (i658 : Int)]) ([(i658 : Int)] : (List Int)) Try.underlying24 Try_lo3 rfl rfl rfl rfl ⟨VR.int, trivial⟩ rfl (by decide) ?_
      intro v717
      obtain ⟨y718, e719, h711⟩ := bind_some h711
      replace e719 := chk_some e719
      refine RL.app 5 6 Try.underlying24 Try_lo3 rfl rfl rfl rfl rfl rfl rfl SlOf.own e719 ?_
      intro v720
      refine RL.reL (L' := [own 3 TR.int v18 l318, obox 24 TR.raw v60 v59, own 3 TR.int v59 l319, obox 25 (TR.sl (TR.sl TR.int)) v3 x0, own 24 (TR.sl TR.int) v321 l320, own 3 TR.int v720 (l594 ++ ([(i658 : Int)] : (List Int))), own 3 TR.int v717 ([(i658 : Int)] : (List Int))]) rfl ?_
      refine RL.asg rfl rfl rfl ?_
      refine RL.finG ?_
      refine GL.nilB ?_
      refine GL.region ?_
      refine RL.binI (v := .int .i64 ((i658 + 1 : Nat) : Int)) rfl rfl rfl rfl (binI_succ i658 (by omega)) ?_
      refine RL.mv rfl rfl rfl ?_
      refine RL.fin ?_
      cases h711
      exact fun a w st => lop_intro (i658 + 1, r668, (l594 ++ ([(i658 : Int)] : (List Int))), v720) ⟨by show i658 + 1 + r668 = (((x0).length : Int)).toNat; omega, h662⟩ (by simp) (St.cut [0, 2, 1, 3, 4, 5] ⟨rfl, rfl, rfl, rfl, rfl, rfl, rfl, rfl, rfl, trivial⟩ (by decide) rfl st)
     replace h711 := ite_f b712 h711
     refine GL.skip ?_
     refine GL.nilB ?_
     refine GL.region ?_
     refine RL.binI (v := .int .i64 ((i658 + 1 : Nat) : Int)) rfl rfl rfl rfl (binI_succ i658 (by omega)) ?_
     refine RL.mv rfl rfl rfl ?_
     refine RL.fin ?_
     cases h711
     exact fun a w st => lop_intro (i658 + 1, r668, l594, v595) ⟨by show i658 + 1 + r668 = (((x0).length : Int)).toNat; omega, h662⟩ (by simp) (St.cut [0, 2, 1, 3, 4, 5] ⟨rfl, rfl, rfl, rfl, rfl, rfl, rfl, rfl, rfl, trivial⟩ (by decide) rfl st)
    have h667 : ¬ i658 < (((x0).length : Int)).toNat := by have := of_decide_eq_false b666; omega
    obtain rfl : r659 = 0 := by omega
    replace h663 : some (Fl.nx _) = some y651 := h663
    cases h663
    exact GL.exit (fun a w st => mid_intro (l594, v595) h654 (St.cut [0, 2, 1, 3, 4, 5] ⟨rfl, rfl, rfl, rfl, rfl, rfl, rfl, trivial⟩ (by decide) rfl st))
   rintro ⟨l594, v595⟩ h721
   have h722 := h655 _ h721
   try dsimp only at h722
   refine GL.weak (env' := [(6, .int .i64 ((x0).length : Int)), (7, v18), (9, v60), (10, .func (.func 51) #[] #[v3, v60]), (11, v321), (12, .int .i64 x322), (13, v595)]) (L' := [own 3 TR.int v18 l318, obox 24 TR.raw v60 v59, own 3 TR.int v59 l319, obox 25 (TR.sl (TR.sl TR.int)) v3 x0, own 24 (TR.sl TR.int) v321 l320, own 3 TR.int v595 l594]) (fun _ _ st => st) ?_
   refine GL.seq ?_
   refine GL.seq ?_
   refine GL.region ?_
   refine RL.mv rfl rfl rfl ?_
   refine RL.lenS 5 Try.underlying24 rfl rfl rfl rfl SlOf.own ?_
   refine RL.mv rfl rfl rfl ?_
   refine RL.finG ?_
   refine GL.lenOwn 5 rfl (fun n748 => ?_)
   obtain ⟨y749, K750, h751, h752, h753, h754, h755⟩ := bindF_K h722
   refine GL.join (ι := (List Int)) (fun (p : (List Int)) => [(6, .int .i64 ((x0).length : Int)), (7, v18), (9, v60), (10, .func (.func 51) #[] #[v3, v60]), (11, v321), (12, .int .i64 x322), (13, v595)]) (fun (p : (List Int)) => [own 3 TR.int v18 p, obox 24 TR.raw v60 v59, own 3 TR.int v59 l319, obox 25 (TR.sl (TR.sl TR.int)) v3 x0, own 24 (TR.sl TR.int) v321 l320, own 3 TR.int v595 l594]) (fun (p : (List Int)) => K750 (.nx p)) ?_ ?_
   ·refine GL.block ?_
    refine GL.loop (ι := Nat × Nat × (List Int)) (fun (p : Nat × Nat × (List Int)) => [(6, .int .i64 ((x0).length : Int)), (7, v18), (9, v60), (10, .func (.func 51) #[] #[v3, v60]), (11, v321), (12, .int .i64 x322), (13, v595), (74, v595), (75, .int .i64 ((l594).length : Int)), (76, .int .i64 (p.1 : Int))]) (fun (p : Nat × Nat × (List Int)) => [own 3 TR.int v18 p.2.2, own 3 TR.int v59 l319, obox 24 TR.raw v60 v59, obox 25 (TR.sl (TR.sl TR.int)) v3 x0, own 24 (TR.sl TR.int) v321 l320, own 3 TR.int v595 l594]) (fun (p : Nat × Nat × (List Int)) => p.1 + p.2.1 = (l594).length ∧ rangeN (trade_Swap_b5 l594 x0 l319) p.2.1 p.1 p.2.2 = some y749) (fun (p : Nat × Nat × (List Int)) => p.2.1) (0, (l594).length, l318) ⟨by simp, h751⟩ (fun a w st => St.cut [0, 2, 1, 3, 4, 5] ⟨rfl, rfl, rfl, rfl, rfl, rfl, rfl, rfl, rfl, rfl, trivial⟩ (by decide) rfl st) ?_
    rintro ⟨i756, r757, l735⟩ ⟨h762, h761⟩
    try dsimp only at h762 h761
    refine GL.weak (env' := [(6, .int .i64 ((x0).length : Int)), (7, v18), (9, v60), (10, .func (.func 51) #[] #[v3, v60]), (11, v321), (12, .int .i64 x322), (13, v595), (74, v595), (75, .int .i64 ((l594).length : Int)), (76, .int .i64 (i756 : Int))]) (L' := [own 3 TR.int v18 l735, own 3 TR.int v59 l319, obox 24 TR.raw v60 v59, obox 25 (TR.sl (TR.sl TR.int)) v3 x0, own 24 (TR.sl TR.int) v321 l320, own 3 TR.int v595 l594]) (fun _ _ st => st) ?_
    refine GL.seq ?_
    refine GL.region ?_
    refine RL.binI (v := .bool (decide ((i756 : Int) < ((l594).length : Int)))) rfl rfl rfl rfl rfl ?_
    refine RL.finG ?_
    refine GL.seq ?_
    refine GL.cond rfl (fun b764 => ?_) (fun b764 => ?_)
    ·have h765 : i756 < (l594).length := by have := of_decide_eq_true b764; omega
     obtain ⟨r766, hr⟩ : ∃ m, r757 = m + 1 := ⟨r757 - 1, by omega⟩
     subst hr
     obtain ⟨z758, h759, h760⟩ := rangeN_some h761
     unfold trade_Swap_b5 at h759
     try dsimp only at h759
     refine GL.skip ?_
     refine GL.seq ?_
     refine GL.block ?_
     refine GL.seq ?_
     refine GL.region ?_
     obtain ⟨y769, e770, h759⟩ := bind_some h759
     refine RL.idxS (sz := 1) 5 Try.underlying24 Try_ln3 rfl rfl rfl rfl rfl SlOf.own (idx_some e770).1 (idx_some e770).2.1 ?_
     refine RL.ldSx (i := i756) (e' := y769) 5 Ex.ik Try_ln3 rfl rfl rfl rfl SlOf.own (idx_some e770).2.2 Part.self ?_
     refine RL.asg rfl rfl rfl ?_
     refine RL.finG ?_
     refine GL.region ?_
     refine RL.mv rfl rfl rfl ?_
     refine RL.mv rfl rfl rfl ?_
     refine RL.mv rfl rfl rfl ?_
     refine RL.mv rfl rfl rfl ?_
     obtain ⟨y775, e776, h759⟩ := bind_some h759
     refine RL.callC (v := .int .i64 y775) (vs := [.int .i64 y769]) Try_fit51 rfl rfl rfl rfl (fun U w hU hW hL => trade_Swap_1_c U w hU y769 _ _ (hL 3 _ _ rfl Seen.obox) _ _ (ptr_raw (hL 2 _ _ rfl Seen.obox) rfl (hL 1 _ _ rfl Seen.own)) _ e776) ?_
     obtain ⟨y777, e778, h759⟩ := bind_some h759
     refine RL.idxS (sz := 1) 0 Try.underlying24 Try_ln3 rfl rfl rfl rfl rfl SlOf.own (idx_some e778).1 (idx_some e778).2.1 ?_
     refine RL.stS (i := (y769).toNat) (e' := y775) (e1 := y775) (r := TR.int) 0 Try_ln3 rfl rfl rfl rfl VR.int rfl (idx_some e778).2.2 Upd.self ?_
     refine RL.finG ?_
     refine GL.nilB ?_
     refine GL.region ?_
     refine RL.binI (v := .int .i64 ((i756 + 1 : Nat) : Int)) rfl rfl rfl rfl (binI_succ i756 (by omega)) ?_
     refine RL.mv rfl rfl rfl ?_
     refine RL.fin ?_
     cases h759
     exact fun a w st => lop_intro (i756 + 1, r766, (List.set l735 ((y769).toNat) y775)) ⟨by show i756 + 1 + r766 = (l594).length; omega, h760⟩ (by simp) (St.cut [0, 1, 2, 3, 4, 5] ⟨rfl, rfl, rfl, rfl, rfl, rfl, rfl, rfl, rfl, rfl, trivial⟩ (by decide) rfl st)
    have h765 : ¬ i756 < (l594).length := by have := of_decide_eq_false b764; omega
    obtain rfl : r757 = 0 := by omega
    replace h761 : some (Fl.nx _) = some y749 := h761
    cases h761
    exact GL.exit (fun a w st => mid_intro l735 h752 (St.cut [0, 2, 1, 3, 4, 5] ⟨rfl, rfl, rfl, rfl, rfl, rfl, rfl, trivial⟩ (by decide) rfl st))
   rintro l735 h779
   have h780 := h753 _ h779
   try dsimp only at h780
   refine GL.weak (env' := [(6, .int .i64 ((x0).length : Int)), (7, v18), (9, v60), (10, .func (.func 51) #[] #[v3, v60]), (11, v321), (12, .int .i64 x322), (13, v595)]) (L' := [own 3 TR.int v18 l735, obox 24 TR.raw v60 v59, own 3 TR.int v59 l319, obox 25 (TR.sl (TR.sl TR.int)) v3 x0, own 24 (TR.sl TR.int) v321 l320, own 3 TR.int v595 l594]) (fun _ _ st => st) ?_
   refine GL.seq ?_
   refine GL.seq ?_
   refine GL.region ?_
   refine RL.mv rfl rfl rfl ?_
   refine RL.lenS 5 Try.underlying24 rfl rfl rfl rfl SlOf.own ?_
   refine RL.mv rfl rfl rfl ?_
   refine RL.finG ?_
   refine GL.lenOwn 5 rfl (fun n806 => ?_)
   obtain ⟨y807, K808, h809, h810, h811, h812, h813⟩ := bindF_K h780
   refine GL.join (ι := (List Int)) (fun (p : (List Int)) => [(6, .int .i64 ((x0).length : Int)), (7, v18), (9, v60), (10, .func (.func 51) #[] #[v3, v60]), (11, v321), (12, .int .i64 x322), (13, v595)]) (fun (p : (List Int)) => [own 3 TR.int v18 l735, obox 24 TR.raw v60 v59, own 3 TR.int v59 p, obox 25 (TR.sl (TR.sl TR.int)) v3 x0, own 24 (TR.sl TR.int) v321 l320, own 3 TR.int v595 l594]) (fun (p : (List Int)) => K808 (.nx p)) ?_ ?_
   ·refine GL.block ?_
    refine GL.loop (ι := Nat × Nat × (List Int)) (fun (p : Nat × Nat × (List Int)) => [(6, .int .i64 ((x0).length : Int)), (7, v18), (9, v60), (10, .func (.func 51) #[] #[v3, v60]), (11, v321), (12, .int .i64 x322), (13, v595), (87, v595), (88, .int .i64 ((l594).length : Int)), (89, .int .i64 (p.1 : Int))]) (fun (p : Nat × Nat × (List Int)) => [own 3 TR.int v18 l735, own 3 TR.int v59 p.2.2, obox 24 TR.raw v60 v59, obox 25 (TR.sl (TR.sl TR.int)) v3 x0, own 24 (TR.sl TR.int) v321 l320, own 3 TR.int v595 l594]) (fun (p : Nat × Nat × (List Int)) => p.1 + p.2.1 = (l594).length ∧ rangeN (trade_Swap_b6 l594 l735) p.2.1 p.1 p.2.2 = some y807) (fun (p : Nat × Nat × (List Int)) => p.2.1) (0, (l594).length, l319) ⟨by simp, h809⟩ (fun a w st => St.cut [0, 2, 1, 3, 4, 5] ⟨rfl, rfl, rfl, rfl, rfl, rfl, rfl, rfl, rfl, rfl, trivial⟩ (by decide) rfl st) ?_
    rintro ⟨i814, r815, l793⟩ ⟨h820, h819⟩
    try dsimp only at h820 h819
    refine GL.weak (env' := [(6, .int .i64 ((x0).length : Int)), (7, v18), (9, v60), (10, .func (.func 51) #[] #[v3, v60]), (11, v321), (12, .int .i64 x322), (13, v595), (87, v595), (88, .int .i64 ((l594).length : Int)), (89, .int .i64 (i814 : Int))]) (L' := [own 3 TR.int v18 l735, own 3 TR.int v59 l793, obox 24 TR.raw v60 v59, obox 25 (TR.sl (TR.sl TR.int)) v3 x0, own 24 (TR.sl TR.int) v321 l320, own 3 TR.int v595 l594]) (fun _ _ st => st) ?_
    refine GL.seq ?_
    refine GL.region ?_
    refine RL.binI (v := .bool (decide ((i814 : Int) < ((l594).length : Int)))) rfl rfl rfl rfl rfl ?_
    refine RL.finG ?_
    refine GL.seq ?_
    refine GL.cond rfl (fun b822 => ?_) (fun b822 => ?_)
    ·have h823 : i814 < (l594).length := by have := of_decide_eq_true b822; omega
     obtain ⟨r824, hr⟩ : ∃ m, r815 = m + 1 := ⟨r815 - 1, by omega⟩
     subst hr
     obtain ⟨z816, h817, h818⟩ := rangeN_some h819
     unfold trade_Swap_b6 at h817
     try dsimp only at h817
     refine GL.skip ?_
     refine GL.seq ?_
     refine GL.block ?_
     refine GL.seq ?_
     refine GL.region ?_
     obtain ⟨y827, e828, h817⟩ := bind_some h817
     refine RL.idxS (sz := 1) 5 Try.underlying24 Try_ln3 rfl rfl rfl rfl rfl SlOf.own (idx_some e828).1 (idx_some e828).2.1 ?_
     refine RL.ldSx (i := i814) (e' := y827) 5 Ex.ik Try_ln3 rfl rfl rfl rfl SlOf.own (idx_some e828).2.2 Part.self ?_
     refine RL.asg rfl rfl rfl ?_
     refine RL.finG ?_
     refine GL.regionH 6 rfl rfl (by kernel_rfl) ?_
     simp only [List.take_succ_cons, List.take_zero, List.drop_succ_cons, List.drop_zero]
     refine RL.ldPx (off := 0) (e' := v59) 2 Ex.raw Try_ln24 rfl rfl (Or.inr ⟨rfl, rfl⟩) rfl PtOf.obox Part.self ?_
     refine RL.mv rfl rfl rfl ?_
     refine RL.mv rfl rfl rfl ?_
     obtain ⟨y833, e834, h817⟩ := bind_some h817
     refine RL.idxS (sz := 1) 0 Try.underlying24 Try_ln3 rfl rfl rfl rfl rfl SlOf.own (idx_some e834).1 (idx_some e834).2.1 ?_
     refine RL.ldSx (i := (y827).toNat) (e' := y833) 0 Ex.ik Try_ln3 rfl rfl rfl rfl SlOf.own (idx_some e834).2.2 Part.self ?_
     obtain ⟨y835, e836, h817⟩ := bind_some h817
     refine RL.idxS (sz := 1) 1 Try.underlying24 Try_ln3 rfl rfl rfl rfl rfl SlOf.own (idx_some e836).1 (idx_some e836).2.1 ?_
     refine RL.finH ?_
     refine RL.stS (i := (y833).toNat) (e' := (1 : Int)) (e1 := (1 : Int)) (r := TR.int) 1 Try_ln3 rfl rfl rfl rfl VR.int rfl (idx_some e836).2.2 Upd.self ?_
     refine RL.finG ?_
     refine GL.nilB ?_
     refine GL.region ?_
     refine RL.binI (v := .int .i64 ((i814 + 1 : Nat) : Int)) rfl rfl rfl rfl (binI_succ i814 (by omega)) ?_
     refine RL.mv rfl rfl rfl ?_
     refine RL.fin ?_
     cases h817
     exact fun a w st => lop_intro (i814 + 1, r824, (List.set l793 ((y833).toNat) (1 : Int))) ⟨by show i814 + 1 + r824 = (l594).length; omega, h818⟩ (by simp) (St.cut [0, 1, 2, 3, 4, 5] ⟨rfl, rfl, rfl, rfl, rfl, rfl, rfl, rfl, rfl, rfl, trivial⟩ (by decide) rfl st)
    have h823 : ¬ i814 < (l594).length := by have := of_decide_eq_false b822; omega
    obtain rfl : r815 = 0 := by omega
    replace h819 : some (Fl.nx _) = some y807 := h819
    cases h819
    exact GL.exit (fun a w st => mid_intro l793 h810 (St.cut [0, 2, 1, 3, 4, 5] ⟨rfl, rfl, rfl, rfl, rfl, rfl, rfl, trivial⟩ (by decide) rfl st))
   rintro l793 h837
   have h838 := h811 _ h837
   try dsimp only at h838
   refine GL.weak (env' := [(6, .int .i64 ((x0).length : Int)), (7, v18), (9, v60), (10, .func (.func 51) #[] #[v3, v60]), (11, v321), (12, .int .i64 x322), (13, v595)]) (L' := [own 3 TR.int v18 l735, obox 24 TR.raw v60 v59, own 3 TR.int v59 l793, obox 25 (TR.sl (TR.sl TR.int)) v3 x0, own 24 (TR.sl TR.int) v321 l320, own 3 TR.int v595 l594]) (fun _ _ st => st) ?_
   refine GL.seq ?_
   refine GL.region ?_
   refine RL.mv rfl rfl rfl ?_
   refine RL.mv rfl rfl rfl ?_
   refine RL.lenS 5 Try.underlying24 rfl rfl rfl rfl SlOf.own ?_
   refine RL.binI (v := .int .i64 (wsub x322 ((l594).length : Int))) rfl rfl rfl rfl rfl ?_
   refine RL.asg rfl rfl rfl ?_
   refine RL.finG ?_
   refine GL.region ?_
   refine RL.mv rfl rfl rfl ?_
   refine RL.mv rfl rfl rfl ?_
   refine RL.weak (fun a w st => st.freeze 5 rfl) ?_
   refine RL.bS (t := (TR.sl TR.int)) (vs := [v595]) ([l594] : (List (List Int))) Try.underlying25 Try_lo24 rfl rfl rfl rfl ⟨(VR.item 5 rfl), trivial⟩ rfl (by decide) ?_
   intro v843
   refine RL.reL (L' := [own 3 TR.int v18 l735, obox 24 TR.raw v60 v59, own 3 TR.int v59 l793, obox 25 (TR.sl (TR.sl TR.int)) v3 x0, own 24 (TR.sl TR.int) v321 l320, imm (TR.sl TR.int) v595 l594, own 24 (TR.sl TR.int) v843 ([l594] : (List (List Int)))]) rfl ?_
   obtain ⟨y844, e845, h838⟩ := bind_some h838
   replace e845 := chk_some e845
   refine RL.app 4 6 Try.underlying25 Try_lo24 rfl rfl rfl rfl rfl rfl rfl SlOf.own e845 ?_
   intro v846
   refine RL.asg rfl rfl rfl ?_
   refine RL.finG ?_
   refine GL.nilB ?_
   cases h838
   exact fun a w st => lop_intro (r592, l735, l793, (l320 ++ ([l594] : (List (List Int)))), wsub x322 ((l594).length : Int), v846) (by exact h588) (by simp) (St.cut [0, 2, 1, 3, 4] ⟨rfl, rfl, rfl, rfl, rfl, rfl, trivial⟩ (by decide) rfl st)
  replace h587 := ite_f b593 h587
  cases h587
  replace h588 : some (Fl.nx _) = some y577 := h588
  cases h588
  exact GL.exit (fun a w st => mid_intro (l318, l319, l320, x322, v321) h580 (St.cut [0, 4] ⟨rfl, rfl, trivial⟩ (by decide) rfl st))
 rintro ⟨l318, l319, l320, x322, v321⟩ h847
 have h848 := h581 _ h847
 try dsimp only at h848
 refine GL.weak (env' := [(7, v18), (11, v321)]) (L' := [own 3 TR.int v18 l318, own 24 (TR.sl TR.int) v321 l320]) (fun _ _ st => st) ?_
 refine GL.seq ?_
 refine GL.region ?_
 refine RL.mv rfl rfl rfl ?_
 refine RL.mv rfl rfl rfl ?_
 refine RL.asg rfl rfl rfl ?_
 refine RL.asg rfl rfl rfl ?_
 refine RL.asg rfl rfl rfl ?_
 refine RL.finG ?_
 have h848 := Option.some.inj h848
 subst h848
 exact GL.ret (Gx.ret (v := .tuple #[v18, v321, .int .i64 (0 : Int)]) (res3 rfl rfl rfl rfl) (fun a w st => (st.pick [0, 1] (by decide) rfl).toPost (v18, v321)))

set_option maxHeartbeats 4000000 in
theorem slices_Equal_int_int_c (S : Hp) (w : World) (hS : S.sub w) (v0 : Value) (x0 : (List Int)) (k0 : ((TR.sl TR.int)).vrep S v0 x0) (v1 : Value) (x1 : (List Int)) (k1 : ((TR.sl TR.int)).vrep S v1 x1) (res : Bool) (hm : slices_Equal_int_int_m x0 x1 = some res) : Calls Try.prog 19 #[v0, v1] w (PostV w (.bool res)) := by
 refine calls_enter 26 Try.func19 Try.ntmps19 rfl S false [(0, v0), (1, v1)] [imm (TR.sl TR.int) v0 x0, imm (TR.sl TR.int) v1 x1] rfl ⟨rfl, ⟨rfl, trivial⟩⟩ hS ⟨k0, ⟨k1, trivial⟩⟩ ?_
 unfold slices_Equal_int_int_m at hm
 refine GL.seq ?_
 refine GL.region ?_
 refine RL.asg rfl rfl rfl ?_
 refine RL.finG ?_
 refine GL.seq ?_
 refine GL.seq ?_
 refine GL.region ?_
 refine RL.mv rfl rfl rfl ?_
 refine RL.lenS 0 Try.underlying24 rfl rfl rfl rfl SlOf.imm ?_
 refine RL.mv rfl rfl rfl ?_
 refine RL.lenS 1 Try.underlying24 rfl rfl rfl rfl SlOf.imm ?_
 refine RL.binI (v := .bool (((x0).length : Int) != ((x1).length : Int))) rfl rfl rfl rfl rfl ?_
 refine RL.finG ?_
 refine GL.cond rfl (fun b3 => ?_) (fun b3 => ?_)
 ·replace hm := ite_t b3 hm
  refine GL.seq ?_
  refine GL.region ?_
  refine RL.asg rfl rfl rfl ?_
  refine RL.finG ?_
  have hm := Option.some.inj hm
  subst hm
  exact GL.ret (Gx.ret (v := .bool false) (res1 rfl rfl) (fun a w st => st.toPostV))
 replace hm := ite_f b3 hm
 refine GL.skip ?_
 refine GL.seq ?_
 refine GL.seq ?_
 refine GL.region ?_
 refine RL.mv rfl rfl rfl ?_
 refine RL.lenS 0 Try.underlying24 rfl rfl rfl rfl SlOf.imm ?_
 refine RL.mv rfl rfl rfl ?_
 refine RL.finG ?_
 refine GL.open_ 0 rfl (fun S h => len_imm S h) (fun n13 => ?_)
 obtain ⟨y14, K15, h16, h17, h18, h19, h20⟩ := bindR_K hm
 refine GL.join (ι := Unit) (fun (p : Unit) => []) (fun (p : Unit) => []) (fun (p : Unit) => K15 (.nx ())) ?_ ?_
 ·refine GL.block ?_
  refine GL.loop (ι := Nat × (List Int)) (fun (p : Nat × (List Int)) => [(0, v0), (1, v1), (12, .int .i64 ((x0).length : Int)), (13, .int .i64 (p.1 : Int))]) (fun (p : Nat × (List Int)) => [imm (TR.sl TR.int) v0 x0, imm (TR.sl TR.int) v1 x1]) (fun (p : Nat × (List Int)) => p.1 + p.2.length = (x0).length ∧ List.drop p.1 x0 = p.2 ∧ rangeL (slices_Equal_int_int_b1 x1) p.2 p.1 () = some y14) (fun (p : Nat × (List Int)) => p.2.length) (0, x0) ⟨by simp, by simp, h16⟩ (fun a w st => St.cut [0, 1] ⟨rfl, rfl, rfl, rfl, trivial⟩ (by decide) rfl st) ?_
  rintro ⟨i21, r22⟩ ⟨h27, h28, h26⟩
  try dsimp only at h27 h28 h26
  refine GL.weak (env' := [(0, v0), (1, v1), (12, .int .i64 ((x0).length : Int)), (13, .int .i64 (i21 : Int))]) (L' := [imm (TR.sl TR.int) v0 x0, imm (TR.sl TR.int) v1 x1]) (fun _ _ st => st) ?_
  refine GL.seq ?_
  refine GL.region ?_
  refine RL.binI (v := .bool (decide ((i21 : Int) < ((x0).length : Int)))) rfl rfl rfl rfl rfl ?_
  refine RL.finG ?_
  refine GL.seq ?_
  refine GL.cond rfl (fun b29 => ?_) (fun b29 => ?_)
  ·have h30 : i21 < (x0).length := by have := of_decide_eq_true b29; omega
   obtain ⟨y31, r33, hr, e32, h34⟩ := drop_cons h28 rfl h30
   subst hr
   obtain ⟨z23, h24, h25⟩ := rangeL_some h26
   unfold slices_Equal_int_int_b1 at h24
   try dsimp only at h24
   refine GL.skip ?_
   refine GL.seq ?_
   refine GL.block ?_
   refine GL.seq ?_
   refine GL.region ?_
   refine RL.mv rfl rfl rfl ?_
   refine RL.asg rfl rfl rfl ?_
   refine RL.finG ?_
   refine GL.seq ?_
   refine GL.regionQ rfl rfl (by kernel_rfl) ?_
   refine RL.mv rfl rfl rfl ?_
   refine RL.mv rfl rfl rfl ?_
   refine RL.idxS (sz := 1) 0 Try.underlying24 Try_ln3 rfl rfl rfl rfl rfl SlOf.imm (by omega) (by omega) ?_
   refine RL.ldSx (i := i21) (e' := y31) 0 Ex.ik Try_ln3 rfl rfl rfl rfl SlOf.imm e32 Part.self ?_
   refine RL.mv rfl rfl rfl ?_
   refine RL.mv rfl rfl rfl ?_
   obtain ⟨y37, e38, h24⟩ := bind_some h24
   refine RL.idxS (sz := 1) 1 Try.underlying24 Try_ln3 rfl rfl rfl rfl rfl SlOf.imm (idx_some e38).1 (idx_some e38).2.1 ?_
   refine RL.ldSx (i := i21) (e' := y37) 1 Ex.ik Try_ln3 rfl rfl rfl rfl SlOf.imm (idx_some e38).2.2 Part.self ?_
   refine RL.binI (v := .bool (y31 != y37)) rfl rfl rfl rfl rfl ?_
   refine RL.finQG ?_
   refine GL.cond rfl (fun b39 => ?_) (fun b39 => ?_)
   ·replace h24 := ite_t b39 h24
    refine GL.seq ?_
    refine GL.region ?_
    refine RL.asg rfl rfl rfl ?_
    refine RL.finG ?_
    cases h24
    replace h25 : some (Fl.rt _) = some y14 := h25
    cases h25
    have hh := h19 _ h17
    subst hh
    exact GL.ret (Gx.ret (v := .bool false) (res1 rfl rfl) (fun a w st => st.toPostV))
   replace h24 := ite_f b39 h24
   refine GL.skip ?_
   refine GL.nilB ?_
   refine GL.region ?_
   refine RL.binI (v := .int .i64 ((i21 + 1 : Nat) : Int)) rfl rfl rfl rfl (binI_succ i21 (by omega)) ?_
   refine RL.mv rfl rfl rfl ?_
   refine RL.fin ?_
   cases h24
   exact fun a w st => lop_intro (i21 + 1, r33) ⟨by show i21 + 1 + r33.length = (x0).length; simp only [List.length_cons] at h27; omega, h34, h25⟩ (by simp) (St.cut [0, 1] ⟨rfl, rfl, rfl, rfl, trivial⟩ (by decide) rfl st)
  have h30 : ¬ i21 < (x0).length := by have := of_decide_eq_false b29; omega
  obtain rfl : r22 = [] := by rw [← h28]; exact List.drop_of_length_le (by omega)
  replace h26 : some (Fl.nx _) = some y14 := h26
  cases h26
  exact GL.exit (fun a w st => mid_intro () h17 (St.cut [] trivial (by decide) rfl st))
 rintro ⟨⟩ h40
 have h41 := h18 _ h40
 try dsimp only at h41
 refine GL.weak (env' := []) (L' := []) (fun _ _ st => st) ?_
 refine GL.seq ?_
 refine GL.region ?_
 refine RL.asg rfl rfl rfl ?_
 refine RL.finG ?_
 have h41 := Option.some.inj h41
 subst h41
 exact GL.ret (Gx.ret (v := .bool true) (res1 rfl rfl) (fun a w st => st.toPostV))

set_option maxHeartbeats 4000000 in
theorem pk_trades_c (S : Hp) (w : World) (hS : S.sub w)  (res : Bool) (hm : pk_trades_m = some res) : Calls Try.prog 28 #[] w (PostV w (.bool res)) := by
 refine calls_enter 25 Try.func28 Try.ntmps28 rfl S false [] [] rfl trivial hS trivial ?_
 unfold pk_trades_m at hm
 refine GL.seq ?_
 refine GL.region ?_
 refine RL.asg rfl rfl rfl ?_
 refine RL.finG ?_
 refine GL.seq ?_
 refine GL.region ?_
 refine RL.bS (t := TR.int) (vs := [.int .i64 (1 : Int), .int .i64 (0 : Int), .int .i64 (2 : Int)]) ([(1 : Int), (0 : Int), (2 : Int)] : (List Int)) Try.underlying24 Try_lo3 rfl rfl rfl rfl ⟨VR.int, ⟨VR.int, ⟨VR.int, trivial⟩⟩⟩ rfl (by decide) ?_
 intro v9
 refine RL.bS (t := TR.int) (vs := [.int .i64 (2 : Int), .int .i64 (0 : Int), .int .i64 (1 : Int)]) ([(2 : Int), (0 : Int), (1 : Int)] : (List Int)) Try.underlying24 Try_lo3 rfl rfl rfl rfl ⟨VR.int, ⟨VR.int, ⟨VR.int, trivial⟩⟩⟩ rfl (by decide) ?_
 intro v10
 refine RL.reL (L' := [own 3 TR.int v9 ([(1 : Int), (0 : Int), (2 : Int)] : (List Int)), own 3 TR.int v10 ([(2 : Int), (0 : Int), (1 : Int)] : (List Int))]) rfl ?_
 refine RL.bS (t := TR.int) (vs := [.int .i64 (0 : Int), .int .i64 (1 : Int), .int .i64 (2 : Int)]) ([(0 : Int), (1 : Int), (2 : Int)] : (List Int)) Try.underlying24 Try_lo3 rfl rfl rfl rfl ⟨VR.int, ⟨VR.int, ⟨VR.int, trivial⟩⟩⟩ rfl (by decide) ?_
 intro v11
 refine RL.weak (fun a w st => st.freeze 0 rfl) ?_
 refine RL.weak (fun a w st => st.freeze 1 rfl) ?_
 refine RL.weak (fun a w st => st.freeze 2 rfl) ?_
 refine RL.bS (t := (TR.sl TR.int)) (vs := [v9, v10, v11]) ([([(1 : Int), (0 : Int), (2 : Int)] : (List Int)), ([(2 : Int), (0 : Int), (1 : Int)] : (List Int)), ([(0 : Int), (1 : Int), (2 : Int)] : (List Int))] : (List (List Int))) Try.underlying25 Try_lo24 rfl rfl rfl rfl ⟨(VR.item 0 rfl), ⟨(VR.item 1 rfl), ⟨(VR.item 2 rfl), trivial⟩⟩⟩ rfl (by decide) ?_
 intro v12
 refine RL.reL (L' := [imm (TR.sl TR.int) v9 ([(1 : Int), (0 : Int), (2 : Int)] : (List Int)), imm (TR.sl TR.int) v10 ([(2 : Int), (0 : Int), (1 : Int)] : (List Int)), imm (TR.sl TR.int) v11 ([(0 : Int), (1 : Int), (2 : Int)] : (List Int)), own 24 (TR.sl TR.int) v12 ([([(1 : Int), (0 : Int), (2 : Int)] : (List Int)), ([(2 : Int), (0 : Int), (1 : Int)] : (List Int)), ([(0 : Int), (1 : Int), (2 : Int)] : (List Int))] : (List (List Int)))]) rfl ?_
 refine RL.weak (fun a w st => st.freeze 3 rfl) ?_
 obtain ⟨y13, e14, hm⟩ := bind_some hm
 refine RL.call (vs := [v12]) Try_fit30 rfl rfl rfl rfl rfl (fun S f w hS hW hi => trade_Swap_c S w hS _ _ (hi 3 _ rfl) _ e14) ?_
 intro ⟨v15, v16⟩
 refine RL.reL (L' := [imm (TR.sl TR.int) v9 ([(1 : Int), (0 : Int), (2 : Int)] : (List Int)), imm (TR.sl TR.int) v10 ([(2 : Int), (0 : Int), (1 : Int)] : (List Int)), imm (TR.sl TR.int) v11 ([(0 : Int), (1 : Int), (2 : Int)] : (List Int)), imm (TR.sl (TR.sl TR.int)) v12 ([([(1 : Int), (0 : Int), (2 : Int)] : (List Int)), ([(2 : Int), (0 : Int), (1 : Int)] : (List Int)), ([(0 : Int), (1 : Int), (2 : Int)] : (List Int))] : (List (List Int))), own 3 TR.int v15 y13.1, own 24 (TR.sl TR.int) v16 y13.2.1]) rfl ?_
 refine RL.mv rfl rfl rfl ?_
 refine RL.ext rfl rfl rfl rfl ?_
 refine RL.ext rfl rfl rfl rfl ?_
 refine RL.ext rfl rfl rfl rfl ?_
 refine RL.asg rfl rfl rfl ?_
 refine RL.asg rfl rfl rfl ?_
 refine RL.asg rfl rfl rfl ?_
 refine RL.finG ?_
 refine GL.seq ?_
 obtain ⟨y28, K29, h30, h31, h32, h33, h34⟩ := bindR_K hm
 refine GL.join (ι := Bool) (fun (p : Bool) => [(0, .bool p)]) (fun (p : Bool) => []) (fun (p : Bool) => K29 (.nx p)) ?_ ?_
 ·skip
  refine GL.region ?_
  refine RL.mv rfl rfl rfl ?_
  refine RL.binI (v := .bool (y13.2.2 == (0 : Int))) rfl rfl rfl rfl rfl ?_
  refine RL.mv rfl rfl rfl ?_
  refine RL.split (t := 15) rfl (fun b35 => ?_) (fun b35 => ?_)
  ·replace h30 := ite_t b35 h30
   refine RL.mv rfl rfl rfl ?_
   refine RL.bS (t := TR.int) (vs := [.int .i64 (1 : Int), .int .i64 (2 : Int), .int .i64 (0 : Int)]) ([(1 : Int), (2 : Int), (0 : Int)] : (List Int)) Try.underlying24 Try_lo3 rfl rfl rfl rfl ⟨VR.int, ⟨VR.int, ⟨VR.int, trivial⟩⟩⟩ rfl (by decide) ?_
   intro v36
   obtain ⟨y37, e38, h30⟩ := bind_some h30
   refine RL.callV (v := .bool y37) (vs := [v15, v36]) Try_fit19 rfl (Or.inl rfl) rfl rfl rfl rfl (fun U w hU hW hL => slices_Equal_int_int_c U w hU _ _ (hL 4 _ _ rfl Seen.own) _ _ (hL 6 _ _ rfl Seen.own) _ e38) ?_
   refine RL.pickT rfl rfl rfl rfl ?_
   refine RL.mv rfl rfl rfl ?_
   refine RL.split (t := 20) rfl (fun b39 => ?_) (fun b39 => ?_)
   ·replace h30 := ite_t b39 h30
    refine RL.mv rfl rfl rfl ?_
    refine RL.lenS 5 Try.underlying25 rfl rfl rfl rfl SlOf.own ?_
    refine RL.binI (v := .bool (((y13.2.1).length : Int) == (1 : Int))) rfl rfl rfl rfl rfl ?_
    refine RL.pickT rfl rfl rfl rfl ?_
    refine RL.asg rfl rfl rfl ?_
    refine RL.fin ?_
    cases h30
    exact fun a w st => mid_intro (((y13.2.1).length : Int) == (1 : Int)) h31 (St.cut [] ⟨rfl, trivial⟩ (by decide) rfl st)
   replace h30 := ite_f b39 h30
   refine RL.skip rfl rfl ?_
   refine RL.skip rfl rfl ?_
   refine RL.skip rfl rfl ?_
   refine RL.pickF rfl rfl rfl rfl ?_
   refine RL.asg rfl rfl rfl ?_
   refine RL.fin ?_
   cases h30
   exact fun a w st => mid_intro false h31 (St.cut [] ⟨rfl, trivial⟩ (by decide) rfl st)
  replace h30 := ite_f b35 h30
  refine RL.skip rfl rfl ?_
  refine RL.skip rfl rfl ?_
  refine RL.skip rfl rfl ?_
  refine RL.pickF rfl rfl rfl rfl ?_
  refine RL.mv rfl rfl rfl ?_
  refine RL.skip rfl rfl ?_
  refine RL.skip rfl rfl ?_
  refine RL.skip rfl rfl ?_
  refine RL.pickF rfl rfl rfl rfl ?_
  refine RL.asg rfl rfl rfl ?_
  refine RL.fin ?_
  cases h30
  exact fun a w st => mid_intro false h31 (St.cut [] ⟨rfl, trivial⟩ (by decide) rfl st)
 rintro x27 h40
 have h41 := h32 _ h40
 try dsimp only at h41
 refine GL.weak (env' := [(0, .bool x27)]) (L' := []) (fun _ _ st => st) ?_
 have h41 := Option.some.inj h41
 subst h41
 exact GL.ret (Gx.ret (v := .bool x27) (res1 rfl rfl) (fun a w st => st.toPostV))

set_option maxHeartbeats 4000000 in
theorem ref_Rest_c (S : Hp) (w : World) (hS : S.sub w) (x0 : Int) (x1 : Int) (res : Int) (hm : ref_Rest_m x0 x1 = some res) : Calls Try.prog 43 #[.int .i64 x0, .int .i64 x1] w (PostC w (.int .i64 res)) := by
 refine calls_enter 14 Try.func43 Try.ntmps43 rfl S true [(0, .int .i64 x0), (1, .int .i64 x1)] [] rfl ⟨rfl, ⟨rfl, trivial⟩⟩ hS trivial ?_
 unfold ref_Rest_m at hm
 refine GL.seq ?_
 refine GL.region ?_
 refine RL.asg rfl rfl rfl ?_
 refine RL.finG ?_
 refine GL.seq ?_
 refine GL.region ?_
 refine RL.mv rfl rfl rfl ?_
 refine RL.mv rfl rfl rfl ?_
 obtain ⟨y5, e6, hm⟩ := bind_some hm
 replace e6 := chk_some e6
 refine RL.rem rfl rfl rfl rfl e6 ?_
 refine RL.asg rfl rfl rfl ?_
 refine RL.finG ?_
 refine GL.seq ?_
 refine GL.seq ?_
 refine GL.region ?_
 refine RL.mv rfl rfl rfl ?_
 refine RL.binI (v := .bool (decide ((Int.tmod x0 x1) < (0 : Int)))) rfl rfl rfl rfl rfl ?_
 refine RL.finG ?_
 obtain ⟨y9, K10, h11, h12, h13, h14, h15⟩ := bindR_K hm
 refine GL.join (ι := Int) (fun (p : Int) => [(0, .int .i64 p)]) (fun (p : Int) => []) (fun (p : Int) => K10 (.nx p)) ?_ ?_
 ·skip
  refine GL.cond rfl (fun b16 => ?_) (fun b16 => ?_)
  ·replace h11 := ite_t b16 h11
   refine GL.region ?_
   refine RL.mv rfl rfl rfl ?_
   refine RL.mv rfl rfl rfl ?_
   refine RL.binI (v := .int .i64 (wadd (Int.tmod x0 x1) x1)) rfl rfl rfl rfl rfl ?_
   refine RL.asg rfl rfl rfl ?_
   refine RL.finG ?_
   cases h11
   exact fun a w st => mid_intro (wadd (Int.tmod x0 x1) x1) h12 (St.cut [] ⟨rfl, trivial⟩ (by decide) rfl st)
  replace h11 := ite_f b16 h11
  refine GL.skip ?_
  cases h11
  exact fun a w st => mid_intro (Int.tmod x0 x1) h12 (St.cut [] ⟨rfl, trivial⟩ (by decide) rfl st)
 rintro x8 h17
 have h18 := h13 _ h17
 try dsimp only at h18
 refine GL.weak (env' := [(0, .int .i64 x8)]) (L' := []) (fun _ _ st => st) ?_
 refine GL.seq ?_
 refine GL.region ?_
 refine RL.mv rfl rfl rfl ?_
 refine RL.asg rfl rfl rfl ?_
 refine RL.finG ?_
 have h18 := Option.some.inj h18
 subst h18
 exact GL.ret (Gx.ret (v := .int .i64 x8) (res1 rfl rfl) (fun a w st => st.toPostC rfl))

set_option maxHeartbeats 4000000 in
theorem pk_Within_c (S : Hp) (w : World) (hS : S.sub w) (x0 : Int) (x1 : Int) (res : Int) (hm : pk_Within_m x0 x1 = some res) : Calls Try.prog 17 #[.int .i64 x0, .int .i64 x1] w (PostC w (.int .i64 res)) := by
 refine calls_enter 8 Try.func17 Try.ntmps17 rfl S true [(0, .int .i64 x0), (1, .int .i64 x1)] [] rfl ⟨rfl, ⟨rfl, trivial⟩⟩ hS trivial ?_
 unfold pk_Within_m at hm
 refine GL.seq ?_
 refine GL.region ?_
 refine RL.asg rfl rfl rfl ?_
 refine RL.finG ?_
 refine GL.seq ?_
 refine GL.region ?_
 refine RL.mv rfl rfl rfl ?_
 refine RL.mv rfl rfl rfl ?_
 obtain ⟨y5, e6, hm⟩ := bind_some hm
 refine RL.callC (v := .int .i64 y5) (vs := [.int .i64 x0, .int .i64 x1]) Try_fit43 rfl rfl rfl rfl (fun U w hU hW hL => ref_Rest_c U w hU x0 x1 _ e6) ?_
 refine RL.asg rfl rfl rfl ?_
 refine RL.finG ?_
 have hm := Option.some.inj hm
 subst hm
 exact GL.ret (Gx.ret (v := .int .i64 y5) (res1 rfl rfl) (fun a w st => st.toPostC rfl))

set_option maxHeartbeats 4000000 in
theorem ref_Sides_c (S : Hp) (w : World) (hS : S.sub w) (x0 : Int) (res : (List Int)) (hm : ref_Sides_m x0 = some res) : Calls Try.prog 48 #[.int .i64 x0] w (Post w S (fun (o : Value) => o) (fun (o : Value) => [own 3 TR.int o res])) := by
 refine calls_enter 15 Try.func48 Try.ntmps48 rfl S false [(0, .int .i64 x0)] [] rfl ⟨rfl, trivial⟩ hS trivial ?_
 unfold ref_Sides_m at hm
 refine GL.seq ?_
 refine GL.region ?_
 refine RL.asg rfl rfl rfl ?_
 refine RL.finG ?_
 refine GL.seq ?_
 refine GL.region ?_
 refine RL.asg rfl rfl rfl ?_
 refine RL.finG ?_
 refine GL.seq ?_
 refine GL.seq ?_
 refine GL.region ?_
 refine RL.mv rfl rfl rfl ?_
 refine RL.mv rfl rfl rfl ?_
 refine RL.finG ?_
 refine GL.weak (fun a w st => st.nilOwn 3 TR.int) ?_
 obtain ⟨y13, e14, hm⟩ := bind_some hm
 replace e14 := chk_some e14
 obtain ⟨y15, K16, h17, h18, h19, h20, h21⟩ := bindR_K hm
 refine GL.join (ι := (List Int) × Value) (fun (p : (List Int) × Value) => [(3, p.2)]) (fun (p : (List Int) × Value) => [own 3 TR.int p.2 p.1]) (fun (p : (List Int) × Value) => K16 (.nx p.1)) ?_ ?_
 ·refine GL.block ?_
  refine GL.loop (ι := Nat × Nat × (List Int) × Value) (fun (p : Nat × Nat × (List Int) × Value) => [(3, p.2.2.2), (5, .int .i64 x0), (6, .int .i64 (p.1 : Int))]) (fun (p : Nat × Nat × (List Int) × Value) => [own 3 TR.int p.2.2.2 p.2.2.1]) (fun (p : Nat × Nat × (List Int) × Value) => p.1 + p.2.1 = (x0).toNat ∧ rangeN ref_Sides_b1 p.2.1 p.1 p.2.2.1 = some y15) (fun (p : Nat × Nat × (List Int) × Value) => p.2.1) (0, (x0).toNat, [], Value.slice none 0 0) ⟨by simp, h17⟩ (fun a w st => St.cut [0] ⟨rfl, rfl, rfl, trivial⟩ (by decide) rfl st) ?_
  rintro ⟨i22, r23, l2, v3⟩ ⟨h28, h27⟩
  try dsimp only at h28 h27
  refine GL.weak (env' := [(3, v3), (5, .int .i64 x0), (6, .int .i64 (i22 : Int))]) (L' := [own 3 TR.int v3 l2]) (fun _ _ st => st) ?_
  refine GL.seq ?_
  refine GL.region ?_
  refine RL.binI (v := .bool (decide ((i22 : Int) < x0))) rfl rfl rfl rfl rfl ?_
  refine RL.finG ?_
  refine GL.seq ?_
  refine GL.cond rfl (fun b30 => ?_) (fun b30 => ?_)
  ·have h31 : i22 < (x0).toNat := by have := of_decide_eq_true b30; omega
   obtain ⟨r32, hr⟩ : ∃ m, r23 = m + 1 := ⟨r23 - 1, by omega⟩
   subst hr
   obtain ⟨z24, h25, h26⟩ := rangeN_some h27
   unfold ref_Sides_b1 at h25
   try dsimp only at h25
   refine GL.skip ?_
   refine GL.seq ?_
   refine GL.block ?_
   refine GL.seq ?_
   refine GL.region ?_
   refine RL.mv rfl rfl rfl ?_
   refine RL.asg rfl rfl rfl ?_
   refine RL.finG ?_
   refine GL.region ?_
   refine RL.mv rfl rfl rfl ?_
   refine RL.mv rfl rfl rfl ?_
   refine RL.bS (t := TR.int) (vs := [.int .i64 (i22 : Int)]) ([(i22 : Int)] : (List Int)) Try.underlying24 Try_lo3 rfl rfl rfl rfl ⟨VR.int, trivial⟩ rfl (by decide) ?_
   intro v37
   obtain ⟨y38, e39, h25⟩ := bind_some h25
   replace e39 := chk_some e39
   refine RL.app 0 1 Try.underlying24 Try_lo3 rfl rfl rfl rfl rfl rfl rfl SlOf.own e39 ?_
   intro v40
   refine RL.reL (L' := [own 3 TR.int v40 (l2 ++ ([(i22 : Int)] : (List Int))), own 3 TR.int v37 ([(i22 : Int)] : (List Int))]) rfl ?_
   refine RL.asg rfl rfl rfl ?_
   refine RL.finG ?_
   refine GL.nilB ?_
   refine GL.region ?_
   refine RL.binI (v := .int .i64 ((i22 + 1 : Nat) : Int)) rfl rfl rfl rfl (binI_succ i22 (by omega)) ?_
   refine RL.mv rfl rfl rfl ?_
   refine RL.fin ?_
   cases h25
   exact fun a w st => lop_intro (i22 + 1, r32, (l2 ++ ([(i22 : Int)] : (List Int))), v40) ⟨by show i22 + 1 + r32 = (x0).toNat; omega, h26⟩ (by simp) (St.cut [0] ⟨rfl, rfl, rfl, trivial⟩ (by decide) rfl st)
  have h31 : ¬ i22 < (x0).toNat := by have := of_decide_eq_false b30; omega
  obtain rfl : r23 = 0 := by omega
  replace h27 : some (Fl.nx _) = some y15 := h27
  cases h27
  exact GL.exit (fun a w st => mid_intro (l2, v3) h18 (St.cut [0] ⟨rfl, trivial⟩ (by decide) rfl st))
 rintro ⟨l2, v3⟩ h41
 have h42 := h19 _ h41
 try dsimp only at h42
 refine GL.weak (env' := [(3, v3)]) (L' := [own 3 TR.int v3 l2]) (fun _ _ st => st) ?_
 refine GL.seq ?_
 refine GL.region ?_
 refine RL.mv rfl rfl rfl ?_
 refine RL.asg rfl rfl rfl ?_
 refine RL.finG ?_
 have h42 := Option.some.inj h42
 subst h42
 exact GL.ret (Gx.ret (v := v3) (res1 rfl rfl) (fun a w st => (st.pick [0] (by decide) rfl).toPost v3))

set_option maxHeartbeats 4000000 in
theorem slices_Delete_int_int_c (B : World) (S X : Hp) (f : Nat → Hp) (w : World) (v0 : Value) (x0 : List Int) (hO : HeapOk B.heap.size S f [own 3 TR.int v0 x0, keep X].length w) (hB : Below B.heap.size B w) (hI : Its [own 3 TR.int v0 x0, keep X] S f) (x1 x2 : Int) (res : List Int) (hm : slices_Delete_int_int_m x0 x1 x2 = some res) : Calls Try.prog 49 #[v0, .int .i64 x1, .int .i64 x2] w (PostM B S (fun (o : Value) => o) (fun (o : Value) => [own 3 TR.int o res, keep X])) := by
  refine calls_enterM 33 Try.func49 Try.ntmps49 rfl B S f [(0, v0), (1, .int .i64 x1), (2, .int .i64 x2)] [own 3 TR.int v0 x0, keep X] [] rfl ⟨rfl, rfl, rfl, trivial⟩ hB hO hI trivial ?_
  unfold slices_Delete_int_int_m at hm
  obtain ⟨_, hc, hm⟩ := bind_some hm
  replace hc := chk_some hc
  have hm := Option.some.inj hm
  subst hm
  obtain ⟨i, rfl⟩ : ∃ i : Nat, x1 = (i : Int) := ⟨x1.toNat, by omega⟩
  obtain ⟨j, rfl⟩ : ∃ j : Nat, x2 = (j : Int) := ⟨x2.toNat, by omega⟩
  simp only [Int.toNat_natCast]
  refine GL.capO 0 rfl (fun hcap hmax hrl hcr => ?_)
  repeat refine GL.seq ?_
  refine GL.region ?_
  refine RL.asg rfl rfl rfl ?_
  refine RL.finG ?_
  repeat refine GL.seq ?_
  refine GL.region ?_
  refine RL.mv rfl rfl rfl ?_
  refine RL.mv rfl rfl rfl ?_
  refine RL.mv rfl rfl rfl ?_
  refine RL.mv rfl rfl rfl ?_
  refine RL.lenS 0 Try.underlying24 rfl rfl rfl rfl SlOf.own ?_
  refine RL.cut3 (i := i) (j := j) (m := x0.length) 0 Try.underlying24 Try_ln3 rfl rfl rfl rfl rfl rfl rfl (by omega) (by omega) (by omega) ?_
  intro u
  refine RL.finG ?_
  repeat refine GL.seq ?_
  refine GL.region ?_
  refine RL.mv rfl rfl rfl ?_
  refine RL.mv rfl rfl rfl ?_
  refine RL.binI (v := .bool ((i : Int) == (j : Int))) rfl rfl rfl rfl rfl ?_
  refine RL.finG ?_
  repeat refine GL.seq ?_
  refine GL.cond rfl (fun h => ?_) (fun h => ?_)
  · have hij : i = j := by have := of_decide_eq_true (p := (i : Int) = (j : Int)) (by simpa using h); omega
    subst hij
    repeat refine GL.seq ?_
    refine GL.region ?_
    refine RL.mv rfl rfl rfl ?_
    refine RL.asg rfl rfl rfl ?_
    refine RL.finG ?_
    have hx : x0.take i ++ x0.drop i = x0 := List.take_append_drop _ _
    rw [hx]
    exact GL.ret (Gx.ret (v := v0) (res1 rfl rfl) (fun a w st => (st.pick [0, 1] (by decide) rfl).toPostM (LR := fun (o : Value) => [own 3 TR.int o x0, keep X]) v0))
  · have hij : i ≠ j := fun e => by subst e; simp at h
    have hll : (x0.take i ++ x0.drop j).length = i + (x0.length - j) := by rw [List.length_append, List.length_take, List.length_drop]; omega
    refine GL.skip ?_
    repeat refine GL.seq ?_
    refine GL.region ?_
    refine RL.mv rfl rfl rfl ?_
    refine RL.lenS 0 Try.underlying24 rfl rfl rfl rfl SlOf.own ?_
    refine RL.asg rfl rfl rfl ?_
    refine RL.finG ?_
    repeat refine GL.seq ?_
    refine GL.regionH 6 rfl rfl (by kernel_rfl) ?_
    simp only [List.take_succ_cons, List.take_zero, List.drop_succ_cons, List.drop_zero]
    refine RL.mv rfl rfl rfl ?_
    refine RL.mv rfl rfl rfl ?_
    refine RL.cutO (i := 0) (j := i) 0 Try.underlying24 Try_ln3 rfl rfl rfl (Or.inl ⟨rfl, rfl⟩) (Or.inr ⟨_, _, rfl, rfl⟩) rfl (by omega) (by show i ≤ capv v0; omega) ?_
    refine RL.mv rfl rfl rfl ?_
    refine RL.mv rfl rfl rfl ?_
    refine RL.cutO (i := j) (j := x0.length) 0 Try.underlying24 Try_ln3 rfl rfl rfl (Or.inr ⟨_, _, rfl, rfl⟩) (Or.inl ⟨rfl, rfl⟩) rfl (by omega) hcap ?_
    refine RL.finH ?_
    refine RL.del (i := i) (j := j) 0 Try.underlying24 Try_lo3 rfl rfl rfl rfl rfl rfl (by omega) (by omega) ?_
    refine RL.asg rfl rfl rfl ?_
    refine RL.finG ?_
    repeat refine GL.seq ?_
    refine GL.region ?_
    refine RL.mv rfl rfl rfl ?_
    refine RL.mv rfl rfl rfl ?_
    refine RL.lenS 0 Try.underlying24 rfl rfl rfl rfl SlOf.own ?_
    refine RL.mv rfl rfl rfl ?_
    refine RL.cutO (i := (x0.take i ++ x0.drop j).length) (j := x0.length) 0 Try.underlying24 Try_ln3 rfl rfl rfl (Or.inr ⟨_, _, rfl, rfl⟩) (Or.inr ⟨_, _, rfl, rfl⟩) rfl (by omega) (by rw [hcr]; exact hcap) ?_
    refine RL.clr (j := x0.length) 0 Try.underlying24 Try_lo3 (by decide) rfl rfl rfl rfl (by omega) (by rw [hcr]; exact hcap) ?_
    refine RL.finG ?_
    repeat refine GL.seq ?_
    refine GL.region ?_
    refine RL.mv rfl rfl rfl ?_
    refine RL.asg rfl rfl rfl ?_
    refine RL.finG ?_
    exact GL.ret (Gx.ret (v := relen v0 (i + (x0.length - j))) (res1 rfl rfl) (fun a w st => (st.pick [0, 1] (by decide) rfl).toPostM (LR := fun (o : Value) => [own 3 TR.int o (x0.take i ++ x0.drop j), keep X]) (relen v0 (i + (x0.length - j)))))

set_option maxHeartbeats 4000000 in
theorem pk_OrderOf_c (S : Hp) (w : World) (hS : S.sub w) (x0 : Int) (v1 : Value) (x1 : (List Int)) (k1 : ((TR.sl TR.int)).vrep S v1 x1) (res : (List Int)) (hm : pk_OrderOf_m x0 x1 = some res) : Calls Try.prog 29 #[.int .i64 x0, v1] w (Post w S (fun (o : Value) => o) (fun (o : Value) => [own 3 TR.int o res])) := by
 refine calls_enter 40 Try.func29 Try.ntmps29 rfl S false [(0, .int .i64 x0), (1, v1)] [imm (TR.sl TR.int) v1 x1] rfl ⟨rfl, ⟨rfl, trivial⟩⟩ hS ⟨k1, trivial⟩ ?_
 unfold pk_OrderOf_m at hm
 refine GL.seq ?_
 refine GL.region ?_
 refine RL.asg rfl rfl rfl ?_
 refine RL.finG ?_
 refine GL.seq ?_
 refine GL.region ?_
 refine RL.mv rfl rfl rfl ?_
 obtain ⟨y6, e7, hm⟩ := bind_some hm
 refine RL.call (vs := [.int .i64 x0]) Try_fit48 rfl rfl rfl rfl rfl (fun S f w hS hW hi => ref_Sides_c S w hS x0 _ e7) ?_
 intro v8
 refine RL.asg rfl rfl rfl ?_
 refine RL.finG ?_
 refine GL.seq ?_
 refine GL.region ?_
 refine RL.asg rfl rfl rfl ?_
 refine RL.finG ?_
 refine GL.seq ?_
 refine GL.seq ?_
 refine GL.region ?_
 refine RL.mv rfl rfl rfl ?_
 refine RL.mv rfl rfl rfl ?_
 refine RL.finG ?_
 refine GL.weak (fun a w st => st.nilOwn 3 TR.int) ?_
 obtain ⟨y60, e61, hm⟩ := bind_some hm
 replace e61 := chk_some e61
 obtain ⟨y62, K63, h64, h65, h66, h67, h68⟩ := bindR_K hm
 refine GL.join (ι := (List Int) × (List Int) × Value) (fun (p : (List Int) × (List Int) × Value) => [(6, p.2.2)]) (fun (p : (List Int) × (List Int) × Value) => [own 3 TR.int p.2.2 p.2.1]) (fun (p : (List Int) × (List Int) × Value) => K63 (.nx (p.1, p.2.1))) ?_ ?_
 ·refine GL.block ?_
  refine GL.loop (ι := Nat × Nat × (List Int) × (List Int) × Value × Value) (fun (p : Nat × Nat × (List Int) × (List Int) × Value × Value) => [(1, v1), (5, p.2.2.2.2.1), (6, p.2.2.2.2.2), (11, .int .i64 x0), (12, .int .i64 (p.1 : Int))]) (fun (p : Nat × Nat × (List Int) × (List Int) × Value × Value) => [imm (TR.sl TR.int) v1 x1, own 3 TR.int p.2.2.2.2.1 p.2.2.1, own 3 TR.int p.2.2.2.2.2 p.2.2.2.1]) (fun (p : Nat × Nat × (List Int) × (List Int) × Value × Value) => p.1 + p.2.1 = (x0).toNat ∧ rangeN (pk_OrderOf_b1 x1) p.2.1 p.1 (p.2.2.1, p.2.2.2.1) = some y62) (fun (p : Nat × Nat × (List Int) × (List Int) × Value × Value) => p.2.1) (0, (x0).toNat, y6, [], v8, Value.slice none 0 0) ⟨by simp, h64⟩ (fun a w st => St.cut [0, 1, 2] ⟨rfl, rfl, rfl, rfl, rfl, trivial⟩ (by decide) rfl st) ?_
  rintro ⟨i69, r70, l9, l11, v10, v12⟩ ⟨h75, h74⟩
  try dsimp only at h75 h74
  refine GL.weak (env' := [(1, v1), (5, v10), (6, v12), (11, .int .i64 x0), (12, .int .i64 (i69 : Int))]) (L' := [imm (TR.sl TR.int) v1 x1, own 3 TR.int v10 l9, own 3 TR.int v12 l11]) (fun _ _ st => st) ?_
  refine GL.seq ?_
  refine GL.region ?_
  refine RL.binI (v := .bool (decide ((i69 : Int) < x0))) rfl rfl rfl rfl rfl ?_
  refine RL.finG ?_
  refine GL.seq ?_
  refine GL.cond rfl (fun b77 => ?_) (fun b77 => ?_)
  ·have h78 : i69 < (x0).toNat := by have := of_decide_eq_true b77; omega
   obtain ⟨r79, hr⟩ : ∃ m, r70 = m + 1 := ⟨r70 - 1, by omega⟩
   subst hr
   obtain ⟨z71, h72, h73⟩ := rangeN_some h74
   unfold pk_OrderOf_b1 at h72
   try dsimp only at h72
   refine GL.skip ?_
   refine GL.seq ?_
   refine GL.block ?_
   refine GL.seq ?_
   refine GL.region ?_
   refine RL.mv rfl rfl rfl ?_
   refine RL.asg rfl rfl rfl ?_
   refine RL.finG ?_
   refine GL.seq ?_
   refine GL.region ?_
   refine RL.asg rfl rfl rfl ?_
   refine RL.finG ?_
   refine GL.seq ?_
   refine GL.seq ?_
   refine GL.region ?_
   refine RL.mv rfl rfl rfl ?_
   refine RL.mv rfl rfl rfl ?_
   refine RL.lenS 0 Try.underlying24 rfl rfl rfl rfl SlOf.imm ?_
   refine RL.binI (v := .bool (decide ((i69 : Int) < ((x1).length : Int)))) rfl rfl rfl rfl rfl ?_
   refine RL.finG ?_
   obtain ⟨y90, K91, h92, h93, h94, h95, h96⟩ := bindF_K h72
   refine GL.join (ι := Int) (fun (p : Int) => [(1, v1), (5, v10), (6, v12), (8, .int .i64 p), (11, .int .i64 x0), (12, .int .i64 (i69 : Int))]) (fun (p : Int) => [imm (TR.sl TR.int) v1 x1, own 3 TR.int v10 l9, own 3 TR.int v12 l11]) (fun (p : Int) => K91 (.nx p)) ?_ ?_
   ·skip
    refine GL.cond rfl (fun b97 => ?_) (fun b97 => ?_)
    ·replace h92 := ite_t b97 h92
     refine GL.region ?_
     refine RL.mv rfl rfl rfl ?_
     refine RL.mv rfl rfl rfl ?_
     obtain ⟨y102, e103, h92⟩ := bind_some h92
     refine RL.idxS (sz := 1) 0 Try.underlying24 Try_ln3 rfl rfl rfl rfl rfl SlOf.imm (idx_some e103).1 (idx_some e103).2.1 ?_
     refine RL.ldSx (i := i69) (e' := y102) 0 Ex.ik Try_ln3 rfl rfl rfl rfl SlOf.imm (idx_some e103).2.2 Part.self ?_
     refine RL.mv rfl rfl rfl ?_
     refine RL.lenS 1 Try.underlying24 rfl rfl rfl rfl SlOf.own ?_
     obtain ⟨y104, e105, h92⟩ := bind_some h92
     refine RL.callC (v := .int .i64 y104) (vs := [.int .i64 y102, .int .i64 ((l9).length : Int)]) Try_fit17 rfl rfl rfl rfl (fun U w hU hW hL => pk_Within_c U w hU y102 ((l9).length : Int) _ e105) ?_
     refine RL.asg rfl rfl rfl ?_
     refine RL.finG ?_
     cases h92
     exact fun a w st => mid_intro y104 h93 (St.cut [0, 1, 2] ⟨rfl, rfl, rfl, rfl, rfl, rfl, trivial⟩ (by decide) rfl st)
    replace h92 := ite_f b97 h92
    refine GL.skip ?_
    cases h92
    exact fun a w st => mid_intro (0 : Int) h93 (St.cut [0, 1, 2] ⟨rfl, rfl, rfl, rfl, rfl, rfl, trivial⟩ (by decide) rfl st)
   rintro x89 h106
   have h107 := h94 _ h106
   try dsimp only at h107
   refine GL.weak (env' := [(1, v1), (5, v10), (6, v12), (8, .int .i64 x89), (11, .int .i64 x0), (12, .int .i64 (i69 : Int))]) (L' := [imm (TR.sl TR.int) v1 x1, own 3 TR.int v10 l9, own 3 TR.int v12 l11]) (fun _ _ st => st) ?_
   refine GL.seq ?_
   refine GL.region ?_
   refine RL.mv rfl rfl rfl ?_
   refine RL.mv rfl rfl rfl ?_
   refine RL.mv rfl rfl rfl ?_
   obtain ⟨y114, e115, h107⟩ := bind_some h107
   refine RL.idxS (sz := 1) 1 Try.underlying24 Try_ln3 rfl rfl rfl rfl rfl SlOf.own (idx_some e115).1 (idx_some e115).2.1 ?_
   refine RL.ldSx (i := (x89).toNat) (e' := y114) 1 Ex.ik Try_ln3 rfl rfl rfl rfl SlOf.own (idx_some e115).2.2 Part.self ?_
   refine RL.bS (t := TR.int) (vs := [.int .i64 y114]) ([y114] : (List Int)) Try.underlying24 Try_lo3 rfl rfl rfl rfl ⟨VR.int, trivial⟩ rfl (by decide) ?_
   intro v116
   obtain ⟨y117, e118, h107⟩ := bind_some h107
   replace e118 := chk_some e118
   refine RL.app 2 3 Try.underlying24 Try_lo3 rfl rfl rfl rfl rfl rfl rfl SlOf.own e118 ?_
   intro v119
   refine RL.reL (L' := [imm (TR.sl TR.int) v1 x1, own 3 TR.int v10 l9, own 3 TR.int v119 (l11 ++ ([y114] : (List Int))), own 3 TR.int v116 ([y114] : (List Int))]) rfl ?_
   refine RL.asg rfl rfl rfl ?_
   refine RL.finG ?_
   refine GL.region ?_
   refine RL.mv rfl rfl rfl ?_
   refine RL.mv rfl rfl rfl ?_
   refine RL.mv rfl rfl rfl ?_
   refine RL.binI (v := .int .i64 (wadd x89 (1 : Int))) rfl rfl rfl rfl rfl ?_
   obtain ⟨y123, e124, h107⟩ := bind_some h107
   refine RL.callK (vs := [v10, .int .i64 x89, .int .i64 (wadd x89 (1 : Int))]) (V := fun (o : Value) => o) (LR := fun (o : Value) => [own 3 TR.int o y123]) (Ls := [own 3 TR.int v10 l9]) [1] (by decide) Try_fit49 rfl rfl rfl rfl rfl rfl (fun S f X w hO hB hW hI hL => slices_Delete_int_int_c _ S X f w _ _ hO hB hI x89 (wadd x89 (1 : Int)) _ e124) ?_
   intro v125
   refine RL.reL (L' := [imm (TR.sl TR.int) v1 x1, gone, own 3 TR.int v119 (l11 ++ ([y114] : (List Int))), own 3 TR.int v116 ([y114] : (List Int)), own 3 TR.int v125 y123]) rfl ?_
   refine RL.asg rfl rfl rfl ?_
   refine RL.finG ?_
   refine GL.nilB ?_
   refine GL.region ?_
   refine RL.binI (v := .int .i64 ((i69 + 1 : Nat) : Int)) rfl rfl rfl rfl (binI_succ i69 (by omega)) ?_
   refine RL.mv rfl rfl rfl ?_
   refine RL.fin ?_
   cases h107
   exact fun a w st => lop_intro (i69 + 1, r79, y123, (l11 ++ ([y114] : (List Int))), v125, v119) ⟨by show i69 + 1 + r79 = (x0).toNat; omega, h73⟩ (by simp) (St.cut [0, 4, 2] ⟨rfl, rfl, rfl, rfl, rfl, trivial⟩ (by decide) rfl st)
  have h78 : ¬ i69 < (x0).toNat := by have := of_decide_eq_false b77; omega
  obtain rfl : r70 = 0 := by omega
  replace h74 : some (Fl.nx _) = some y62 := h74
  cases h74
  exact GL.exit (fun a w st => mid_intro (l9, l11, v12) h65 (St.cut [2] ⟨rfl, trivial⟩ (by decide) rfl st))
 rintro ⟨l9, l11, v12⟩ h126
 have h127 := h66 _ h126
 try dsimp only at h127
 refine GL.weak (env' := [(6, v12)]) (L' := [own 3 TR.int v12 l11]) (fun _ _ st => st) ?_
 refine GL.seq ?_
 refine GL.region ?_
 refine RL.mv rfl rfl rfl ?_
 refine RL.asg rfl rfl rfl ?_
 refine RL.finG ?_
 have h127 := Option.some.inj h127
 subst h127
 exact GL.ret (Gx.ret (v := v12) (res1 rfl rfl) (fun a w st => (st.pick [0] (by decide) rfl).toPost v12))

set_option maxHeartbeats 4000000 in
theorem slices_IndexFunc_api_Errno_api_Errno_c (S : Hp) (w : World) (hS : S.sub w) (v0 : Value) (x0 : (List Int)) (k0 : ((TR.sl TR.int)).vrep S v0 x0) (f1 : FuncId) (c1 : Array Value) (t1 : Fit Try.prog f1) (g1 : Int → Option Bool) (k1 : ∀ (U : Hp) (w' : World), Hp.le S U → U.sub w' → ∀ (a0 : Int) (rr : Bool), g1 a0 = some rr → Calls Try.prog f1 (#[.int .i64 a0] ++ c1) w' (PostV w' (.bool rr))) (res : Int) (hm : slices_IndexFunc_api_Errno_api_Errno_m x0 g1 = some res) : Calls Try.prog 55 #[v0, .func (.func f1) #[] c1] w (PostV w (.int .i64 res)) := by
 refine calls_enter 19 Try.func55 Try.ntmps55 rfl S false [(0, v0), (1, .func (.func f1) #[] c1)] [imm (TR.sl TR.int) v0 x0] rfl ⟨rfl, ⟨rfl, trivial⟩⟩ hS ⟨k0, trivial⟩ ?_
 unfold slices_IndexFunc_api_Errno_api_Errno_m at hm
 refine GL.seq ?_
 refine GL.region ?_
 refine RL.asg rfl rfl rfl ?_
 refine RL.finG ?_
 refine GL.seq ?_
 refine GL.seq ?_
 refine GL.region ?_
 refine RL.mv rfl rfl rfl ?_
 refine RL.lenS 0 Try.underlying77 rfl rfl rfl rfl SlOf.imm ?_
 refine RL.mv rfl rfl rfl ?_
 refine RL.finG ?_
 refine GL.open_ 0 rfl (fun S h => len_imm S h) (fun n12 => ?_)
 obtain ⟨y13, K14, h15, h16, h17, h18, h19⟩ := bindR_K hm
 refine GL.join (ι := Unit) (fun (p : Unit) => []) (fun (p : Unit) => []) (fun (p : Unit) => K14 (.nx ())) ?_ ?_
 ·refine GL.block ?_
  refine GL.loop (ι := Nat × (List Int)) (fun (p : Nat × (List Int)) => [(0, v0), (1, .func (.func f1) #[] c1), (7, .int .i64 ((x0).length : Int)), (8, .int .i64 (p.1 : Int))]) (fun (p : Nat × (List Int)) => [imm (TR.sl TR.int) v0 x0]) (fun (p : Nat × (List Int)) => p.1 + p.2.length = (x0).length ∧ List.drop p.1 x0 = p.2 ∧ rangeL (slices_IndexFunc_api_Errno_api_Errno_b1 g1) p.2 p.1 () = some y13) (fun (p : Nat × (List Int)) => p.2.length) (0, x0) ⟨by simp, by simp, h15⟩ (fun a w st => St.cut [0] ⟨rfl, rfl, rfl, rfl, trivial⟩ (by decide) rfl st) ?_
  rintro ⟨i20, r21⟩ ⟨h26, h27, h25⟩
  try dsimp only at h26 h27 h25
  refine GL.weak (env' := [(0, v0), (1, .func (.func f1) #[] c1), (7, .int .i64 ((x0).length : Int)), (8, .int .i64 (i20 : Int))]) (L' := [imm (TR.sl TR.int) v0 x0]) (fun _ _ st => st) ?_
  refine GL.seq ?_
  refine GL.region ?_
  refine RL.binI (v := .bool (decide ((i20 : Int) < ((x0).length : Int)))) rfl rfl rfl rfl rfl ?_
  refine RL.finG ?_
  refine GL.seq ?_
  refine GL.cond rfl (fun b28 => ?_) (fun b28 => ?_)
  ·have h29 : i20 < (x0).length := by have := of_decide_eq_true b28; omega
   obtain ⟨y30, r32, hr, e31, h33⟩ := drop_cons h27 rfl h29
   subst hr
   obtain ⟨z22, h23, h24⟩ := rangeL_some h25
   unfold slices_IndexFunc_api_Errno_api_Errno_b1 at h23
   try dsimp only at h23
   refine GL.skip ?_
   refine GL.seq ?_
   refine GL.block ?_
   refine GL.seq ?_
   refine GL.region ?_
   refine RL.mv rfl rfl rfl ?_
   refine RL.asg rfl rfl rfl ?_
   refine RL.finG ?_
   refine GL.seq ?_
   refine GL.region ?_
   refine RL.mv rfl rfl rfl ?_
   refine RL.mv rfl rfl rfl ?_
   refine RL.mv rfl rfl rfl ?_
   refine RL.idxS (sz := 1) 0 Try.underlying77 Try_ln26 rfl rfl rfl rfl rfl SlOf.imm (by omega) (by omega) ?_
   refine RL.ldSx (i := i20) (e' := y30) 0 Ex.ik Try_ln26 rfl rfl rfl rfl SlOf.imm e31 Part.self ?_
   obtain ⟨y36, e37, h23⟩ := bind_some h23
   refine RL.callV (v := .bool y36) (vs := [.int .i64 y30]) t1 rfl (Or.inl rfl) rfl rfl rfl rfl (fun U w hU hW hL => k1 U w hW hU y30 _ e37) ?_
   refine RL.finG ?_
   refine GL.cond rfl (fun b38 => ?_) (fun b38 => ?_)
   ·replace h23 := ite_t b38 h23
    refine GL.seq ?_
    refine GL.region ?_
    refine RL.mv rfl rfl rfl ?_
    refine RL.asg rfl rfl rfl ?_
    refine RL.finG ?_
    cases h23
    replace h24 : some (Fl.rt _) = some y13 := h24
    cases h24
    have hh := h18 _ h16
    subst hh
    exact GL.ret (Gx.ret (v := .int .i64 (i20 : Int)) (res1 rfl rfl) (fun a w st => st.toPostV))
   replace h23 := ite_f b38 h23
   refine GL.skip ?_
   refine GL.nilB ?_
   refine GL.region ?_
   refine RL.binI (v := .int .i64 ((i20 + 1 : Nat) : Int)) rfl rfl rfl rfl (binI_succ i20 (by omega)) ?_
   refine RL.mv rfl rfl rfl ?_
   refine RL.fin ?_
   cases h23
   exact fun a w st => lop_intro (i20 + 1, r32) ⟨by show i20 + 1 + r32.length = (x0).length; simp only [List.length_cons] at h26; omega, h33, h24⟩ (by simp) (St.cut [0] ⟨rfl, rfl, rfl, rfl, trivial⟩ (by decide) rfl st)
  have h29 : ¬ i20 < (x0).length := by have := of_decide_eq_false b28; omega
  obtain rfl : r21 = [] := by rw [← h27]; exact List.drop_of_length_le (by omega)
  replace h25 : some (Fl.nx _) = some y13 := h25
  cases h25
  exact GL.exit (fun a w st => mid_intro () h16 (St.cut [] trivial (by decide) rfl st))
 rintro ⟨⟩ h39
 have h40 := h17 _ h39
 try dsimp only at h40
 refine GL.weak (env' := []) (L' := []) (fun _ _ st => st) ?_
 refine GL.seq ?_
 refine GL.region ?_
 refine RL.asg rfl rfl rfl ?_
 refine RL.finG ?_
 have h40 := Option.some.inj h40
 subst h40
 exact GL.ret (Gx.ret (v := .int .i64 (-1 : Int)) (res1 rfl rfl) (fun a w st => st.toPostV))

set_option maxHeartbeats 4000000 in
theorem slices_ContainsFunc_api_Errno_api_Errno_c (S : Hp) (w : World) (hS : S.sub w) (v0 : Value) (x0 : (List Int)) (k0 : ((TR.sl TR.int)).vrep S v0 x0) (f1 : FuncId) (c1 : Array Value) (t1 : Fit Try.prog f1) (g1 : Int → Option Bool) (k1 : ∀ (U : Hp) (w' : World), Hp.le S U → U.sub w' → ∀ (a0 : Int) (rr : Bool), g1 a0 = some rr → Calls Try.prog f1 (#[.int .i64 a0] ++ c1) w' (PostV w' (.bool rr))) (res : Bool) (hm : slices_ContainsFunc_api_Errno_api_Errno_m x0 g1 = some res) : Calls Try.prog 46 #[v0, .func (.func f1) #[] c1] w (PostV w (.bool res)) := by
 refine calls_enter 9 Try.func46 Try.ntmps46 rfl S false [(0, v0), (1, .func (.func f1) #[] c1)] [imm (TR.sl TR.int) v0 x0] rfl ⟨rfl, ⟨rfl, trivial⟩⟩ hS ⟨k0, trivial⟩ ?_
 unfold slices_ContainsFunc_api_Errno_api_Errno_m at hm
 refine GL.seq ?_
 refine GL.region ?_
 refine RL.asg rfl rfl rfl ?_
 refine RL.finG ?_
 refine GL.seq ?_
 refine GL.region ?_
 refine RL.mv rfl rfl rfl ?_
 refine RL.mv rfl rfl rfl ?_
 obtain ⟨y5, e6, hm⟩ := bind_some hm
 refine RL.callV (v := .int .i64 y5) (vs := [v0, .func (.func f1) #[] c1]) Try_fit55 rfl (Or.inl rfl) rfl rfl rfl rfl (fun U w hU hW hL => slices_IndexFunc_api_Errno_api_Errno_c U w hU _ _ (hL 0 _ _ rfl Seen.imm) f1 c1 t1 g1 (fun U' w' hle => k1 U' w' (Hp.le_trans hW hle)) _ e6) ?_
 refine RL.binI (v := .bool (decide (y5 ≥ (0 : Int)))) rfl rfl rfl rfl rfl ?_
 refine RL.asg rfl rfl rfl ?_
 refine RL.finG ?_
 have hm := Option.some.inj hm
 subst hm
 exact GL.ret (Gx.ret (v := .bool (decide (y5 ≥ (0 : Int)))) (res1 rfl rfl) (fun a w st => st.toPostV))

set_option maxHeartbeats 4000000 in
theorem pk_good_1_c (S : Hp) (w : World) (hS : S.sub w) (x0 : Int) (res : Bool) (hm : pk_good_1_m x0 = some res) : Calls Try.prog 47 #[.int .i64 x0] w (PostC w (.bool res)) := by
 refine calls_enter 5 Try.func47 Try.ntmps47 rfl S true [(0, .int .i64 x0)] [] rfl ⟨rfl, trivial⟩ hS trivial ?_
 unfold pk_good_1_m at hm
 refine GL.seq ?_
 refine GL.region ?_
 refine RL.asg rfl rfl rfl ?_
 refine RL.finG ?_
 refine GL.seq ?_
 refine GL.region ?_
 refine RL.mv rfl rfl rfl ?_
 refine RL.binI (v := .bool (x0 != (0 : Int))) rfl rfl rfl rfl rfl ?_
 refine RL.asg rfl rfl rfl ?_
 refine RL.finG ?_
 have hm := Option.some.inj hm
 subst hm
 exact GL.ret (Gx.ret (v := .bool (x0 != (0 : Int))) (res1 rfl rfl) (fun a w st => st.toPostC rfl))

set_option maxHeartbeats 4000000 in
theorem pk_good_c (S : Hp) (w : World) (hS : S.sub w) (v0 : Value) (x0 : (List Int)) (k0 : ((TR.sl TR.int)).vrep S v0 x0) (res : Bool) (hm : pk_good_m x0 = some res) : Calls Try.prog 26 #[v0] w (PostV w (.bool res)) := by
 refine calls_enter 6 Try.func26 Try.ntmps26 rfl S false [(0, v0)] [imm (TR.sl TR.int) v0 x0] rfl ⟨rfl, trivial⟩ hS ⟨k0, trivial⟩ ?_
 unfold pk_good_m at hm
 refine GL.seq ?_
 refine GL.region ?_
 refine RL.asg rfl rfl rfl ?_
 refine RL.finG ?_
 refine GL.seq ?_
 refine GL.region ?_
 refine RL.mv rfl rfl rfl ?_
 obtain ⟨y4, e5, hm⟩ := bind_some hm
 refine RL.callV (v := .bool y4) (vs := [v0, .func (.func 47) #[] #[]]) Try_fit46 rfl (Or.inl rfl) rfl rfl rfl rfl (fun U w hU hW hL => slices_ContainsFunc_api_Errno_api_Errno_c U w hU _ _ (hL 0 _ _ rfl Seen.imm) 47 #[] Try_fit47 (fun a0 => pk_good_1_m a0) (fun U' w' hle hU' a0 rr hr => (pk_good_1_c U' w' hU' a0 rr hr).mono (fun _ _ z => z.toV)) _ e5) ?_
 refine RL.notB rfl rfl rfl ?_
 refine RL.asg rfl rfl rfl ?_
 refine RL.finG ?_
 have hm := Option.some.inj hm
 subst hm
 exact GL.ret (Gx.ret (v := .bool (!y4)) (res1 rfl rfl) (fun a w st => st.toPostV))

set_option maxHeartbeats 4000000 in
theorem pk_TradeSame_c (S : Hp) (w : World) (hS : S.sub w) (x0 : Int) (v1 : Value) (x1 : (List Int)) (k1 : ((TR.sl TR.int)).vrep S v1 x1) (res : Bool) (hm : pk_TradeSame_m x0 x1 = some res) : Calls Try.prog 7 #[.int .i64 x0, v1] w (PostV w (.bool res)) := by
 refine calls_enter 128 Try.func7 Try.ntmps7 rfl S false [(0, .int .i64 x0), (1, v1)] [imm (TR.sl TR.int) v1 x1] rfl ⟨rfl, ⟨rfl, trivial⟩⟩ hS ⟨k1, trivial⟩ ?_
 unfold pk_TradeSame_m at hm
 refine GL.seq ?_
 refine GL.region ?_
 refine RL.asg rfl rfl rfl ?_
 refine RL.finG ?_
 refine GL.seq ?_
 refine GL.seq ?_
 refine GL.region ?_
 obtain ⟨y5, e6, hm⟩ := bind_some hm
 refine RL.callV (v := .bool y5) (vs := []) Try_fit28 rfl (Or.inl rfl) rfl rfl rfl rfl (fun U w hU hW hL => pk_trades_c U w hU  _ e6) ?_
 refine RL.notB rfl rfl rfl ?_
 refine RL.finG ?_
 refine GL.cond rfl (fun b7 => ?_) (fun b7 => ?_)
 ·replace hm := ite_t b7 hm
  refine GL.seq ?_
  refine GL.region ?_
  refine RL.asg rfl rfl rfl ?_
  refine RL.finG ?_
  have hm := Option.some.inj hm
  subst hm
  exact GL.ret (Gx.ret (v := .bool false) (res1 rfl rfl) (fun a w st => st.toPostV))
 replace hm := ite_f b7 hm
 refine GL.skip ?_
 refine GL.seq ?_
 refine GL.region ?_
 refine RL.mv rfl rfl rfl ?_
 obtain ⟨y10, e11, hm⟩ := bind_some hm
 refine RL.callC (v := .int .i64 y10) (vs := [.int .i64 x0, .int .i64 (6 : Int)]) Try_fit17 rfl rfl rfl rfl (fun U w hU hW hL => pk_Within_c U w hU x0 (6 : Int) _ e11) ?_
 refine RL.binI (v := .int .i64 (wadd (1 : Int) y10)) rfl rfl rfl rfl rfl ?_
 refine RL.asg rfl rfl rfl ?_
 refine RL.finG ?_
 refine GL.seq ?_
 refine GL.region ?_
 refine RL.mv rfl rfl rfl ?_
 refine RL.mv rfl rfl rfl ?_
 obtain ⟨y15, e16, hm⟩ := bind_some hm
 refine RL.call (vs := [.int .i64 (wadd (1 : Int) y10), v1]) Try_fit29 rfl rfl rfl rfl rfl (fun S f w hS hW hi => pk_OrderOf_c S w hS (wadd (1 : Int) y10) _ _ (hi 0 _ rfl) _ e16) ?_
 intro v17
 refine RL.asg rfl rfl rfl ?_
 refine RL.finG ?_
 refine GL.seq ?_
 refine GL.region ?_
 refine RL.asg rfl rfl rfl ?_
 refine RL.asg rfl rfl rfl ?_
 refine RL.finG ?_
 refine GL.seq ?_
 refine GL.seq ?_
 refine GL.region ?_
 refine RL.mv rfl rfl rfl ?_
 refine RL.mv rfl rfl rfl ?_
 refine RL.finG ?_
 refine GL.weak (fun a w st => st.nilOwn 24 (TR.sl TR.int)) ?_
 refine GL.weak (fun a w st => st.nilOwn 24 (TR.sl TR.int)) ?_
 refine GL.weak (fun a w st => st.freeze 1 rfl) ?_
 obtain ⟨y159, e160, hm⟩ := bind_some hm
 replace e160 := chk_some e160
 obtain ⟨y161, K162, h163, h164, h165, h166, h167⟩ := bindR_K hm
 refine GL.join (ι := (List (List Int)) × (List (List Int)) × Value × Value) (fun (p : (List (List Int)) × (List (List Int)) × Value × Value) => [(0, .int .i64 (wadd (1 : Int) y10)), (5, v17), (6, p.2.2.1), (7, p.2.2.2)]) (fun (p : (List (List Int)) × (List (List Int)) × Value × Value) => [imm (TR.sl TR.int) v17 y15, own 24 (TR.sl TR.int) p.2.2.1 p.1, own 24 (TR.sl TR.int) p.2.2.2 p.2.1]) (fun (p : (List (List Int)) × (List (List Int)) × Value × Value) => K162 (.nx (p.1, p.2.1))) ?_ ?_
 ·refine GL.block ?_
  refine GL.loop (ι := Nat × Nat × (List (List Int)) × (List (List Int)) × Value × Value) (fun (p : Nat × Nat × (List (List Int)) × (List (List Int)) × Value × Value) => [(0, .int .i64 (wadd (1 : Int) y10)), (5, v17), (6, p.2.2.2.2.1), (7, p.2.2.2.2.2), (27, .int .i64 (wadd (1 : Int) y10)), (28, .int .i64 (p.1 : Int))]) (fun (p : Nat × Nat × (List (List Int)) × (List (List Int)) × Value × Value) => [imm (TR.sl TR.int) v17 y15, own 24 (TR.sl TR.int) p.2.2.2.2.1 p.2.2.1, own 24 (TR.sl TR.int) p.2.2.2.2.2 p.2.2.2.1]) (fun (p : Nat × Nat × (List (List Int)) × (List (List Int)) × Value × Value) => p.1 + p.2.1 = (wadd (1 : Int) y10).toNat ∧ rangeN (pk_TradeSame_b1 y15) p.2.1 p.1 (p.2.2.1, p.2.2.2.1) = some y161) (fun (p : Nat × Nat × (List (List Int)) × (List (List Int)) × Value × Value) => p.2.1) (0, (wadd (1 : Int) y10).toNat, [], [], Value.slice none 0 0, Value.slice none 0 0) ⟨by simp, h163⟩ (fun a w st => St.cut [1, 2, 3] ⟨rfl, rfl, rfl, rfl, rfl, rfl, trivial⟩ (by decide) rfl st) ?_
  rintro ⟨i168, r169, l88, l90, v89, v91⟩ ⟨h174, h173⟩
  try dsimp only at h174 h173
  refine GL.weak (env' := [(0, .int .i64 (wadd (1 : Int) y10)), (5, v17), (6, v89), (7, v91), (27, .int .i64 (wadd (1 : Int) y10)), (28, .int .i64 (i168 : Int))]) (L' := [imm (TR.sl TR.int) v17 y15, own 24 (TR.sl TR.int) v89 l88, own 24 (TR.sl TR.int) v91 l90]) (fun _ _ st => st) ?_
  refine GL.seq ?_
  refine GL.region ?_
  refine RL.binI (v := .bool (decide ((i168 : Int) < wadd (1 : Int) y10))) rfl rfl rfl rfl rfl ?_
  refine RL.finG ?_
  refine GL.seq ?_
  refine GL.cond rfl (fun b176 => ?_) (fun b176 => ?_)
  ·have h177 : i168 < (wadd (1 : Int) y10).toNat := by have := of_decide_eq_true b176; omega
   obtain ⟨r178, hr⟩ : ∃ m, r169 = m + 1 := ⟨r169 - 1, by omega⟩
   subst hr
   obtain ⟨z170, h171, h172⟩ := rangeN_some h173
   unfold pk_TradeSame_b1 at h171
   try dsimp only at h171
   refine GL.skip ?_
   refine GL.seq ?_
   refine GL.block ?_
   refine GL.seq ?_
   refine GL.region ?_
   refine RL.mv rfl rfl rfl ?_
   refine RL.asg rfl rfl rfl ?_
   refine RL.finG ?_
   refine GL.seq ?_
   refine GL.region ?_
   refine RL.mv rfl rfl rfl ?_
   refine RL.mv rfl rfl rfl ?_
   refine RL.bS (t := (TR.sl TR.int)) (vs := [v17]) ([y15] : (List (List Int))) Try.underlying25 Try_lo24 rfl rfl rfl rfl ⟨(VR.item 0 rfl), trivial⟩ rfl (by decide) ?_
   intro v183
   obtain ⟨y184, e185, h171⟩ := bind_some h171
   replace e185 := chk_some e185
   refine RL.app 1 3 Try.underlying25 Try_lo24 rfl rfl rfl rfl rfl rfl rfl SlOf.own e185 ?_
   intro v186
   refine RL.reL (L' := [imm (TR.sl TR.int) v17 y15, own 24 (TR.sl TR.int) v186 (l88 ++ ([y15] : (List (List Int)))), own 24 (TR.sl TR.int) v91 l90, own 24 (TR.sl TR.int) v183 ([y15] : (List (List Int)))]) rfl ?_
   refine RL.asg rfl rfl rfl ?_
   refine RL.finG ?_
   refine GL.seq ?_
   refine GL.region ?_
   refine RL.mv rfl rfl rfl ?_
   refine RL.bS (t := TR.int) (vs := [.int .i64 (i168 : Int)]) ([(i168 : Int)] : (List Int)) Try.underlying24 Try_lo3 rfl rfl rfl rfl ⟨VR.int, trivial⟩ rfl (by decide) ?_
   intro v188
   refine RL.asg rfl rfl rfl ?_
   refine RL.finG ?_
   refine GL.seq ?_
   refine GL.seq ?_
   refine GL.region ?_
   refine RL.mv rfl rfl rfl ?_
   refine RL.lenS 0 Try.underlying24 rfl rfl rfl rfl SlOf.imm ?_
   refine RL.mv rfl rfl rfl ?_
   refine RL.finG ?_
   refine GL.open_ 0 rfl (fun S h => len_imm S h) (fun n204 => ?_)
   obtain ⟨y205, K206, h207, h208, h209, h210, h211⟩ := bindF_K h171
   refine GL.join (ι := (List Int) × Value) (fun (p : (List Int) × Value) => [(0, .int .i64 (wadd (1 : Int) y10)), (5, v17), (6, v186), (7, v91), (9, p.2), (27, .int .i64 (wadd (1 : Int) y10)), (28, .int .i64 (i168 : Int))]) (fun (p : (List Int) × Value) => [imm (TR.sl TR.int) v17 y15, own 24 (TR.sl TR.int) v186 (l88 ++ ([y15] : (List (List Int)))), own 24 (TR.sl TR.int) v91 l90, own 3 TR.int p.2 p.1]) (fun (p : (List Int) × Value) => K206 (.nx p.1)) ?_ ?_
   ·refine GL.block ?_
    refine GL.loop (ι := Nat × (List Int) × (List Int) × Value) (fun (p : Nat × (List Int) × (List Int) × Value) => [(0, .int .i64 (wadd (1 : Int) y10)), (5, v17), (6, v186), (7, v91), (8, .int .i64 (i168 : Int)), (9, p.2.2.2), (27, .int .i64 (wadd (1 : Int) y10)), (28, .int .i64 (i168 : Int)), (37, v17), (38, .int .i64 ((y15).length : Int)), (39, .int .i64 (p.1 : Int))]) (fun (p : Nat × (List Int) × (List Int) × Value) => [imm (TR.sl TR.int) v17 y15, own 24 (TR.sl TR.int) v186 (l88 ++ ([y15] : (List (List Int)))), own 24 (TR.sl TR.int) v91 l90, own 3 TR.int p.2.2.2 p.2.2.1]) (fun (p : Nat × (List Int) × (List Int) × Value) => p.1 + p.2.1.length = (y15).length ∧ List.drop p.1 y15 = p.2.1 ∧ rangeL (pk_TradeSame_b2 i168) p.2.1 p.1 p.2.2.1 = some y205) (fun (p : Nat × (List Int) × (List Int) × Value) => p.2.1.length) (0, y15, ([(i168 : Int)] : (List Int)), v188) ⟨by simp, by simp, h207⟩ (fun a w st => St.cut [0, 1, 2, 4] ⟨rfl, rfl, rfl, rfl, rfl, rfl, rfl, rfl, rfl, rfl, rfl, trivial⟩ (by decide) rfl st) ?_
    rintro ⟨i212, r213, l189, v190⟩ ⟨h218, h219, h217⟩
    try dsimp only at h218 h219 h217
    refine GL.weak (env' := [(0, .int .i64 (wadd (1 : Int) y10)), (5, v17), (6, v186), (7, v91), (8, .int .i64 (i168 : Int)), (9, v190), (27, .int .i64 (wadd (1 : Int) y10)), (28, .int .i64 (i168 : Int)), (37, v17), (38, .int .i64 ((y15).length : Int)), (39, .int .i64 (i212 : Int))]) (L' := [imm (TR.sl TR.int) v17 y15, own 24 (TR.sl TR.int) v186 (l88 ++ ([y15] : (List (List Int)))), own 24 (TR.sl TR.int) v91 l90, own 3 TR.int v190 l189]) (fun _ _ st => st) ?_
    refine GL.seq ?_
    refine GL.region ?_
    refine RL.binI (v := .bool (decide ((i212 : Int) < ((y15).length : Int)))) rfl rfl rfl rfl rfl ?_
    refine RL.finG ?_
    refine GL.seq ?_
    refine GL.cond rfl (fun b220 => ?_) (fun b220 => ?_)
    ·have h221 : i212 < (y15).length := by have := of_decide_eq_true b220; omega
     obtain ⟨y222, r224, hr, e223, h225⟩ := drop_cons h219 rfl h221
     subst hr
     obtain ⟨z214, h215, h216⟩ := rangeL_some h217
     unfold pk_TradeSame_b2 at h215
     try dsimp only at h215
     refine GL.skip ?_
     refine GL.seq ?_
     refine GL.block ?_
     refine GL.seq ?_
     refine GL.region ?_
     refine RL.idxS (sz := 1) 0 Try.underlying24 Try_ln3 rfl rfl rfl rfl rfl SlOf.imm (by omega) (by omega) ?_
     refine RL.ldSx (i := i212) (e' := y222) 0 Ex.ik Try_ln3 rfl rfl rfl rfl SlOf.imm e223 Part.self ?_
     refine RL.asg rfl rfl rfl ?_
     refine RL.finG ?_
     refine GL.seq ?_
     refine GL.region ?_
     refine RL.mv rfl rfl rfl ?_
     refine RL.mv rfl rfl rfl ?_
     refine RL.binI (v := .bool (y222 != (i168 : Int))) rfl rfl rfl rfl rfl ?_
     refine RL.finG ?_
     refine GL.cond rfl (fun b226 => ?_) (fun b226 => ?_)
     ·replace h215 := ite_t b226 h215
      refine GL.region ?_
      refine RL.mv rfl rfl rfl ?_
      refine RL.mv rfl rfl rfl ?_
      refine RL.bS (t := TR.int) (vs := [.int .i64 y222]) ([y222] : (List Int)) Try.underlying24 Try_lo3 rfl rfl rfl rfl ⟨VR.int, trivial⟩ rfl (by decide) ?_
      intro v231
      obtain ⟨y232, e233, h215⟩ := bind_some h215
      replace e233 := chk_some e233
      refine RL.app 3 4 Try.underlying24 Try_lo3 rfl rfl rfl rfl rfl rfl rfl SlOf.own e233 ?_
      intro v234
      refine RL.reL (L' := [imm (TR.sl TR.int) v17 y15, own 24 (TR.sl TR.int) v186 (l88 ++ ([y15] : (List (List Int)))), own 24 (TR.sl TR.int) v91 l90, own 3 TR.int v234 (l189 ++ ([y222] : (List Int))), own 3 TR.int v231 ([y222] : (List Int))]) rfl ?_
      refine RL.asg rfl rfl rfl ?_
      refine RL.finG ?_
      refine GL.nilB ?_
      refine GL.region ?_
      refine RL.binI (v := .int .i64 ((i212 + 1 : Nat) : Int)) rfl rfl rfl rfl (binI_succ i212 (by omega)) ?_
      refine RL.mv rfl rfl rfl ?_
      refine RL.fin ?_
      cases h215
      exact fun a w st => lop_intro (i212 + 1, r224, (l189 ++ ([y222] : (List Int))), v234) ⟨by show i212 + 1 + r224.length = (y15).length; simp only [List.length_cons] at h218; omega, h225, h216⟩ (by simp) (St.cut [0, 1, 2, 3] ⟨rfl, rfl, rfl, rfl, rfl, rfl, rfl, rfl, rfl, rfl, rfl, trivial⟩ (by decide) rfl st)
     replace h215 := ite_f b226 h215
     refine GL.skip ?_
     refine GL.nilB ?_
     refine GL.region ?_
     refine RL.binI (v := .int .i64 ((i212 + 1 : Nat) : Int)) rfl rfl rfl rfl (binI_succ i212 (by omega)) ?_
     refine RL.mv rfl rfl rfl ?_
     refine RL.fin ?_
     cases h215
     exact fun a w st => lop_intro (i212 + 1, r224, l189, v190) ⟨by show i212 + 1 + r224.length = (y15).length; simp only [List.length_cons] at h218; omega, h225, h216⟩ (by simp) (St.cut [0, 1, 2, 3] ⟨rfl, rfl, rfl, rfl, rfl, rfl, rfl, rfl, rfl, rfl, rfl, trivial⟩ (by decide) rfl st)
    have h221 : ¬ i212 < (y15).length := by have := of_decide_eq_false b220; omega
    obtain rfl : r213 = [] := by rw [← h219]; exact List.drop_of_length_le (by omega)
    replace h217 : some (Fl.nx _) = some y205 := h217
    cases h217
    exact GL.exit (fun a w st => mid_intro (l189, v190) h208 (St.cut [0, 1, 2, 3] ⟨rfl, rfl, rfl, rfl, rfl, rfl, rfl, trivial⟩ (by decide) rfl st))
   rintro ⟨l189, v190⟩ h235
   have h236 := h209 _ h235
   try dsimp only at h236
   refine GL.weak (env' := [(0, .int .i64 (wadd (1 : Int) y10)), (5, v17), (6, v186), (7, v91), (9, v190), (27, .int .i64 (wadd (1 : Int) y10)), (28, .int .i64 (i168 : Int))]) (L' := [imm (TR.sl TR.int) v17 y15, own 24 (TR.sl TR.int) v186 (l88 ++ ([y15] : (List (List Int)))), own 24 (TR.sl TR.int) v91 l90, own 3 TR.int v190 l189]) (fun _ _ st => st) ?_
   refine GL.region ?_
   refine RL.mv rfl rfl rfl ?_
   refine RL.mv rfl rfl rfl ?_
   refine RL.weak (fun a w st => st.freeze 3 rfl) ?_
   refine RL.bS (t := (TR.sl TR.int)) (vs := [v190]) ([l189] : (List (List Int))) Try.underlying25 Try_lo24 rfl rfl rfl rfl ⟨(VR.item 3 rfl), trivial⟩ rfl (by decide) ?_
   intro v241
   refine RL.reL (L' := [imm (TR.sl TR.int) v17 y15, own 24 (TR.sl TR.int) v186 (l88 ++ ([y15] : (List (List Int)))), own 24 (TR.sl TR.int) v91 l90, imm (TR.sl TR.int) v190 l189, own 24 (TR.sl TR.int) v241 ([l189] : (List (List Int)))]) rfl ?_
   obtain ⟨y242, e243, h236⟩ := bind_some h236
   replace e243 := chk_some e243
   refine RL.app 2 4 Try.underlying25 Try_lo24 rfl rfl rfl rfl rfl rfl rfl SlOf.own e243 ?_
   intro v244
   refine RL.asg rfl rfl rfl ?_
   refine RL.finG ?_
   refine GL.nilB ?_
   refine GL.region ?_
   refine RL.binI (v := .int .i64 ((i168 + 1 : Nat) : Int)) rfl rfl rfl rfl (binI_succ i168 (by omega)) ?_
   refine RL.mv rfl rfl rfl ?_
   refine RL.fin ?_
   cases h236
   exact fun a w st => lop_intro (i168 + 1, r178, (l88 ++ ([y15] : (List (List Int)))), (l90 ++ ([l189] : (List (List Int)))), v186, v244) ⟨by show i168 + 1 + r178 = (wadd (1 : Int) y10).toNat; omega, h172⟩ (by simp) (St.cut [0, 1, 2] ⟨rfl, rfl, rfl, rfl, rfl, rfl, trivial⟩ (by decide) rfl st)
  have h177 : ¬ i168 < (wadd (1 : Int) y10).toNat := by have := of_decide_eq_false b176; omega
  obtain rfl : r169 = 0 := by omega
  replace h173 : some (Fl.nx _) = some y161 := h173
  cases h173
  exact GL.exit (fun a w st => mid_intro (l88, l90, v89, v91) h164 (St.cut [0, 1, 2] ⟨rfl, rfl, rfl, rfl, trivial⟩ (by decide) rfl st))
 rintro ⟨l88, l90, v89, v91⟩ h245
 have h246 := h165 _ h245
 try dsimp only at h246
 refine GL.weak (env' := [(0, .int .i64 (wadd (1 : Int) y10)), (5, v17), (6, v89), (7, v91)]) (L' := [imm (TR.sl TR.int) v17 y15, own 24 (TR.sl TR.int) v89 l88, own 24 (TR.sl TR.int) v91 l90]) (fun _ _ st => st) ?_
 refine GL.seq ?_
 refine GL.region ?_
 refine RL.mv rfl rfl rfl ?_
 refine RL.weak (fun a w st => st.freeze 1 rfl) ?_
 obtain ⟨y251, e252, h246⟩ := bind_some h246
 refine RL.call (vs := [v89]) Try_fit30 rfl rfl rfl rfl rfl (fun S f w hS hW hi => trade_Swap_c S w hS _ _ (hi 1 _ rfl) _ e252) ?_
 intro ⟨v253, v254⟩
 refine RL.reL (L' := [imm (TR.sl TR.int) v17 y15, imm (TR.sl (TR.sl TR.int)) v89 l88, own 24 (TR.sl TR.int) v91 l90, own 3 TR.int v253 y251.1, own 24 (TR.sl TR.int) v254 y251.2.1]) rfl ?_
 refine RL.mv rfl rfl rfl ?_
 refine RL.ext rfl rfl rfl rfl ?_
 refine RL.ext rfl rfl rfl rfl ?_
 refine RL.ext rfl rfl rfl rfl ?_
 refine RL.asg rfl rfl rfl ?_
 refine RL.asg rfl rfl rfl ?_
 refine RL.asg rfl rfl rfl ?_
 refine RL.finG ?_
 refine GL.seq ?_
 refine GL.region ?_
 refine RL.mv rfl rfl rfl ?_
 refine RL.weak (fun a w st => st.freeze 2 rfl) ?_
 obtain ⟨y259, e260, h246⟩ := bind_some h246
 refine RL.call (vs := [v91]) Try_fit30 rfl rfl rfl rfl rfl (fun S f w hS hW hi => trade_Swap_c S w hS _ _ (hi 2 _ rfl) _ e260) ?_
 intro ⟨v261, v262⟩
 refine RL.reL (L' := [imm (TR.sl TR.int) v17 y15, imm (TR.sl (TR.sl TR.int)) v89 l88, imm (TR.sl (TR.sl TR.int)) v91 l90, own 3 TR.int v253 y251.1, own 24 (TR.sl TR.int) v254 y251.2.1, own 3 TR.int v261 y259.1, own 24 (TR.sl TR.int) v262 y259.2.1]) rfl ?_
 refine RL.mv rfl rfl rfl ?_
 refine RL.ext rfl rfl rfl rfl ?_
 refine RL.ext rfl rfl rfl rfl ?_
 refine RL.ext rfl rfl rfl rfl ?_
 refine RL.asg rfl rfl rfl ?_
 refine RL.asg rfl rfl rfl ?_
 refine RL.asg rfl rfl rfl ?_
 refine RL.finG ?_
 refine GL.seq ?_
 refine GL.seq ?_
 obtain ⟨y278, K279, h280, h281, h282, h283, h284⟩ := bindR_K h246
 refine GL.join (ι := Bool) (fun (p : Bool) => [(0, .int .i64 (wadd (1 : Int) y10)), (5, v17), (12, v253), (13, v254), (15, v261), (95, .bool p)]) (fun (p : Bool) => [imm (TR.sl TR.int) v17 y15, own 3 TR.int v253 y251.1, own 24 (TR.sl TR.int) v254 y251.2.1, own 3 TR.int v261 y259.1]) (fun (p : Bool) => K279 (.nx p)) ?_ ?_
 ·skip
  refine GL.region ?_
  refine RL.mv rfl rfl rfl ?_
  refine RL.mv rfl rfl rfl ?_
  refine RL.bS (t := TR.int) (vs := [.int .i64 y251.2.2, .int .i64 y259.2.2]) ([y251.2.2, y259.2.2] : (List Int)) Try.underlying77 Try_lo26 rfl rfl rfl rfl ⟨VR.int, ⟨VR.int, trivial⟩⟩ rfl (by decide) ?_
  intro v285
  obtain ⟨y286, e287, h280⟩ := bind_some h280
  refine RL.callV (v := .bool y286) (vs := [v285]) Try_fit26 rfl (Or.inl rfl) rfl rfl rfl rfl (fun U w hU hW hL => pk_good_c U w hU _ _ (hL 7 _ _ rfl Seen.own) _ e287) ?_
  refine RL.notB rfl rfl rfl ?_
  refine RL.mv rfl rfl rfl ?_
  refine RL.split (t := 73) rfl (fun b288 => ?_) (fun b288 => ?_)
  ·replace h280 := ite_t b288 h280
   refine RL.skip rfl rfl ?_
   refine RL.skip rfl rfl ?_
   refine RL.skip rfl rfl ?_
   refine RL.skip rfl rfl ?_
   refine RL.pickT rfl rfl rfl rfl ?_
   refine RL.mv rfl rfl rfl ?_
   refine RL.skip rfl rfl ?_
   refine RL.skip rfl rfl ?_
   refine RL.skip rfl rfl ?_
   refine RL.skip rfl rfl ?_
   refine RL.pickT rfl rfl rfl rfl ?_
   refine RL.mv rfl rfl rfl ?_
   refine RL.skip rfl rfl ?_
   refine RL.skip rfl rfl ?_
   refine RL.skip rfl rfl ?_
   refine RL.skip rfl rfl ?_
   refine RL.pickT rfl rfl rfl rfl ?_
   refine RL.mv rfl rfl rfl ?_
   refine RL.skip rfl rfl ?_
   refine RL.skip rfl rfl ?_
   refine RL.skip rfl rfl ?_
   refine RL.pickT rfl rfl rfl rfl ?_
   refine RL.fin ?_
   cases h280
   exact fun a w st => mid_intro true h281 (St.cut [0, 3, 4, 5] ⟨rfl, rfl, rfl, rfl, rfl, rfl, trivial⟩ (by decide) rfl st)
  replace h280 := ite_f b288 h280
  refine RL.mv rfl rfl rfl ?_
  refine RL.lenS 3 Try.underlying24 rfl rfl rfl rfl SlOf.own ?_
  refine RL.mv rfl rfl rfl ?_
  refine RL.binI (v := .bool (((y251.1).length : Int) != (wadd (1 : Int) y10))) rfl rfl rfl rfl rfl ?_
  refine RL.pickF rfl rfl rfl rfl ?_
  refine RL.mv rfl rfl rfl ?_
  refine RL.split (t := 79) rfl (fun b289 => ?_) (fun b289 => ?_)
  ·replace h280 := ite_t b289 h280
   refine RL.skip rfl rfl ?_
   refine RL.skip rfl rfl ?_
   refine RL.skip rfl rfl ?_
   refine RL.skip rfl rfl ?_
   refine RL.pickT rfl rfl rfl rfl ?_
   refine RL.mv rfl rfl rfl ?_
   refine RL.skip rfl rfl ?_
   refine RL.skip rfl rfl ?_
   refine RL.skip rfl rfl ?_
   refine RL.skip rfl rfl ?_
   refine RL.pickT rfl rfl rfl rfl ?_
   refine RL.mv rfl rfl rfl ?_
   refine RL.skip rfl rfl ?_
   refine RL.skip rfl rfl ?_
   refine RL.skip rfl rfl ?_
   refine RL.pickT rfl rfl rfl rfl ?_
   refine RL.fin ?_
   cases h280
   exact fun a w st => mid_intro true h281 (St.cut [0, 3, 4, 5] ⟨rfl, rfl, rfl, rfl, rfl, rfl, trivial⟩ (by decide) rfl st)
  replace h280 := ite_f b289 h280
  refine RL.mv rfl rfl rfl ?_
  refine RL.lenS 5 Try.underlying24 rfl rfl rfl rfl SlOf.own ?_
  refine RL.mv rfl rfl rfl ?_
  refine RL.binI (v := .bool (((y259.1).length : Int) != (wadd (1 : Int) y10))) rfl rfl rfl rfl rfl ?_
  refine RL.pickF rfl rfl rfl rfl ?_
  refine RL.mv rfl rfl rfl ?_
  refine RL.split (t := 85) rfl (fun b290 => ?_) (fun b290 => ?_)
  ·replace h280 := ite_t b290 h280
   refine RL.skip rfl rfl ?_
   refine RL.skip rfl rfl ?_
   refine RL.skip rfl rfl ?_
   refine RL.skip rfl rfl ?_
   refine RL.pickT rfl rfl rfl rfl ?_
   refine RL.mv rfl rfl rfl ?_
   refine RL.skip rfl rfl ?_
   refine RL.skip rfl rfl ?_
   refine RL.skip rfl rfl ?_
   refine RL.pickT rfl rfl rfl rfl ?_
   refine RL.fin ?_
   cases h280
   exact fun a w st => mid_intro true h281 (St.cut [0, 3, 4, 5] ⟨rfl, rfl, rfl, rfl, rfl, rfl, trivial⟩ (by decide) rfl st)
  replace h280 := ite_f b290 h280
  refine RL.mv rfl rfl rfl ?_
  refine RL.lenS 4 Try.underlying25 rfl rfl rfl rfl SlOf.own ?_
  refine RL.mv rfl rfl rfl ?_
  refine RL.binI (v := .bool (((y251.2.1).length : Int) != (wadd (1 : Int) y10))) rfl rfl rfl rfl rfl ?_
  refine RL.pickF rfl rfl rfl rfl ?_
  refine RL.mv rfl rfl rfl ?_
  refine RL.split (t := 91) rfl (fun b291 => ?_) (fun b291 => ?_)
  ·replace h280 := ite_t b291 h280
   refine RL.skip rfl rfl ?_
   refine RL.skip rfl rfl ?_
   refine RL.skip rfl rfl ?_
   refine RL.pickT rfl rfl rfl rfl ?_
   refine RL.fin ?_
   cases h280
   exact fun a w st => mid_intro true h281 (St.cut [0, 3, 4, 5] ⟨rfl, rfl, rfl, rfl, rfl, rfl, trivial⟩ (by decide) rfl st)
  replace h280 := ite_f b291 h280
  refine RL.mv rfl rfl rfl ?_
  refine RL.lenS 6 Try.underlying25 rfl rfl rfl rfl SlOf.own ?_
  refine RL.binI (v := .bool (((y259.2.1).length : Int) != (1 : Int))) rfl rfl rfl rfl rfl ?_
  refine RL.pickF rfl rfl rfl rfl ?_
  refine RL.fin ?_
  cases h280
  exact fun a w st => mid_intro (((y259.2.1).length : Int) != (1 : Int)) h281 (St.cut [0, 3, 4, 5] ⟨rfl, rfl, rfl, rfl, rfl, rfl, trivial⟩ (by decide) rfl st)
 rintro x277 h292
 have h293 := h282 _ h292
 try dsimp only at h293
 refine GL.weak (env' := [(0, .int .i64 (wadd (1 : Int) y10)), (5, v17), (12, v253), (13, v254), (15, v261), (95, .bool x277)]) (L' := [imm (TR.sl TR.int) v17 y15, own 3 TR.int v253 y251.1, own 24 (TR.sl TR.int) v254 y251.2.1, own 3 TR.int v261 y259.1]) (fun _ _ st => st) ?_
 refine GL.cond rfl (fun b294 => ?_) (fun b294 => ?_)
 ·replace h293 := ite_t b294 h293
  refine GL.seq ?_
  refine GL.region ?_
  refine RL.asg rfl rfl rfl ?_
  refine RL.finG ?_
  have h293 := Option.some.inj h293
  subst h293
  exact GL.ret (Gx.ret (v := .bool false) (res1 rfl rfl) (fun a w st => st.toPostV))
 replace h293 := ite_f b294 h293
 refine GL.skip ?_
 refine GL.seq ?_
 refine GL.seq ?_
 refine GL.region ?_
 refine RL.mv rfl rfl rfl ?_
 refine RL.mv rfl rfl rfl ?_
 refine RL.finG ?_
 obtain ⟨y391, e392, h293⟩ := bind_some h293
 replace e392 := chk_some e392
 obtain ⟨y393, K394, h395, h396, h397, h398, h399⟩ := bindR_K h293
 refine GL.join (ι := Unit) (fun (p : Unit) => []) (fun (p : Unit) => []) (fun (p : Unit) => K394 (.nx ())) ?_ ?_
 ·refine GL.block ?_
  refine GL.loop (ι := Nat × Nat) (fun (p : Nat × Nat) => [(5, v17), (12, v253), (13, v254), (15, v261), (96, .int .i64 (wadd (1 : Int) y10)), (97, .int .i64 (p.1 : Int))]) (fun (p : Nat × Nat) => [imm (TR.sl TR.int) v17 y15, own 3 TR.int v253 y251.1, own 24 (TR.sl TR.int) v254 y251.2.1, own 3 TR.int v261 y259.1]) (fun (p : Nat × Nat) => p.1 + p.2 = (wadd (1 : Int) y10).toNat ∧ rangeN (pk_TradeSame_b3 y251 y259 y15) p.2 p.1 () = some y393) (fun (p : Nat × Nat) => p.2) (0, (wadd (1 : Int) y10).toNat) ⟨by simp, h395⟩ (fun a w st => St.cut [0, 1, 2, 3] ⟨rfl, rfl, rfl, rfl, rfl, rfl, trivial⟩ (by decide) rfl st) ?_
  rintro ⟨i400, r401⟩ ⟨h406, h405⟩
  try dsimp only at h406 h405
  refine GL.weak (env' := [(5, v17), (12, v253), (13, v254), (15, v261), (96, .int .i64 (wadd (1 : Int) y10)), (97, .int .i64 (i400 : Int))]) (L' := [imm (TR.sl TR.int) v17 y15, own 3 TR.int v253 y251.1, own 24 (TR.sl TR.int) v254 y251.2.1, own 3 TR.int v261 y259.1]) (fun _ _ st => st) ?_
  refine GL.seq ?_
  refine GL.region ?_
  refine RL.binI (v := .bool (decide ((i400 : Int) < wadd (1 : Int) y10))) rfl rfl rfl rfl rfl ?_
  refine RL.finG ?_
  refine GL.seq ?_
  refine GL.cond rfl (fun b408 => ?_) (fun b408 => ?_)
  ·have h409 : i400 < (wadd (1 : Int) y10).toNat := by have := of_decide_eq_true b408; omega
   obtain ⟨r410, hr⟩ : ∃ m, r401 = m + 1 := ⟨r401 - 1, by omega⟩
   subst hr
   obtain ⟨z402, h403, h404⟩ := rangeN_some h405
   unfold pk_TradeSame_b3 at h403
   try dsimp only at h403
   refine GL.skip ?_
   refine GL.seq ?_
   refine GL.block ?_
   refine GL.seq ?_
   refine GL.region ?_
   refine RL.mv rfl rfl rfl ?_
   refine RL.asg rfl rfl rfl ?_
   refine RL.finG ?_
   refine GL.seq ?_
   obtain ⟨y468, K469, h470, h471, h472, h473, h474⟩ := bindF_K h403
   refine GL.join (ι := Bool) (fun (p : Bool) => [(5, v17), (12, v253), (13, v254), (15, v261), (96, .int .i64 (wadd (1 : Int) y10)), (97, .int .i64 (i400 : Int)), (126, .bool p)]) (fun (p : Bool) => [imm (TR.sl TR.int) v17 y15, own 3 TR.int v253 y251.1, own 24 (TR.sl TR.int) v254 y251.2.1, own 3 TR.int v261 y259.1]) (fun (p : Bool) => K469 (.nx p)) ?_ ?_
   ·skip
    refine GL.regionA rfl rfl ?_
    refine RA.mv 0 rfl (by kernel_rfl) rfl rfl rfl ?_
    refine RA.mv 1 rfl (by kernel_rfl) rfl rfl rfl ?_
    obtain ⟨y475, e476, h470⟩ := bind_some h470
    refine RA.idxS (sz := 1) 1 Try.underlying24 Try_ln3 2 rfl (by kernel_rfl) rfl rfl rfl rfl rfl SlOf.own (idx_some e476).1 (idx_some e476).2.1 ?_
    refine RA.mv 4 rfl (by kernel_rfl) rfl rfl rfl ?_
    refine RA.seq 3 rfl (by kernel_rfl) ?_
    refine RL.ldSx (i := i400) (e' := y475) 1 Ex.ik Try_ln3 rfl rfl rfl rfl SlOf.own (idx_some e476).2.2 Part.self ?_
    refine RL.fin ?_
    refine RA.next ?_
    refine RA.binI (v := .bool (y475 != (i400 : Int))) 5 rfl (by kernel_rfl) rfl rfl rfl rfl rfl ?_
    refine RA.mv 6 rfl (by kernel_rfl) rfl rfl rfl ?_
    refine RA.split (t := 106) rfl (fun b477 => ?_) (fun b477 => ?_)
    ·replace h470 := ite_t b477 h470
     refine RA.skip 7 rfl (by kernel_rfl) rfl rfl ?_
     refine RA.skip 8 rfl (by kernel_rfl) rfl rfl ?_
     refine RA.skip 9 rfl (by kernel_rfl) rfl rfl ?_
     refine RA.skip 10 rfl (by kernel_rfl) rfl rfl ?_
     refine RA.skip 11 rfl (by kernel_rfl) rfl rfl ?_
     refine RA.skip 12 rfl (by kernel_rfl) rfl rfl ?_
     refine RA.seq 13 rfl (by kernel_rfl) ?_
     refine RL.pickT rfl rfl rfl rfl ?_
     refine RL.fin ?_
     refine RA.next ?_
     refine RA.mv 14 rfl (by kernel_rfl) rfl rfl rfl ?_
     refine RA.skip 15 rfl (by kernel_rfl) rfl rfl ?_
     refine RA.skip 16 rfl (by kernel_rfl) rfl rfl ?_
     refine RA.skip 17 rfl (by kernel_rfl) rfl rfl ?_
     refine RA.skip 18 rfl (by kernel_rfl) rfl rfl ?_
     refine RA.skip 19 rfl (by kernel_rfl) rfl rfl ?_
     refine RA.skip 20 rfl (by kernel_rfl) rfl rfl ?_
     refine RA.skip 21 rfl (by kernel_rfl) rfl rfl ?_
     refine RA.skip 22 rfl (by kernel_rfl) rfl rfl ?_
     refine RA.skip 23 rfl (by kernel_rfl) rfl rfl ?_
     refine RA.quiet 24 rfl rfl (by kernel_rfl) ?_
     simp only [List.drop_succ_cons, List.drop_zero]
     refine RL.skip rfl rfl ?_
     refine RL.skip rfl rfl ?_
     refine RL.pickT rfl rfl rfl rfl ?_
     refine RL.finQ ?_
     refine RA.outQ ?_
     refine GL.nil ?_
     cases h470
     exact fun a w st => mid_intro true h471 (St.cut [0, 1, 2, 3] ⟨rfl, rfl, rfl, rfl, rfl, rfl, rfl, trivial⟩ (by decide) rfl st)
    replace h470 := ite_f b477 h470
    refine RA.mv 7 rfl (by kernel_rfl) rfl rfl rfl ?_
    refine RA.mv 8 rfl (by kernel_rfl) rfl rfl rfl ?_
    obtain ⟨y478, e479, h470⟩ := bind_some h470
    refine RA.idxS (sz := 1) 3 Try.underlying24 Try_ln3 9 rfl (by kernel_rfl) rfl rfl rfl rfl rfl SlOf.own (idx_some e479).1 (idx_some e479).2.1 ?_
    refine RA.mv 11 rfl (by kernel_rfl) rfl rfl rfl ?_
    refine RA.seq 10 rfl (by kernel_rfl) ?_
    refine RL.ldSx (i := i400) (e' := y478) 3 Ex.ik Try_ln3 rfl rfl rfl rfl SlOf.own (idx_some e479).2.2 Part.self ?_
    refine RL.fin ?_
    refine RA.next ?_
    refine RA.binI (v := .bool (y478 != (i400 : Int))) 12 rfl (by kernel_rfl) rfl rfl rfl rfl rfl ?_
    refine RA.seq 13 rfl (by kernel_rfl) ?_
    refine RL.pickF rfl rfl rfl rfl ?_
    refine RL.fin ?_
    refine RA.next ?_
    refine RA.mv 14 rfl (by kernel_rfl) rfl rfl rfl ?_
    refine RA.split (t := 114) rfl (fun b480 => ?_) (fun b480 => ?_)
    ·replace h470 := ite_t b480 h470
     refine RA.skip 15 rfl (by kernel_rfl) rfl rfl ?_
     refine RA.skip 16 rfl (by kernel_rfl) rfl rfl ?_
     refine RA.skip 17 rfl (by kernel_rfl) rfl rfl ?_
     refine RA.skip 18 rfl (by kernel_rfl) rfl rfl ?_
     refine RA.skip 19 rfl (by kernel_rfl) rfl rfl ?_
     refine RA.skip 20 rfl (by kernel_rfl) rfl rfl ?_
     refine RA.skip 21 rfl (by kernel_rfl) rfl rfl ?_
     refine RA.skip 22 rfl (by kernel_rfl) rfl rfl ?_
     refine RA.skip 23 rfl (by kernel_rfl) rfl rfl ?_
     refine RA.quiet 24 rfl rfl (by kernel_rfl) ?_
     simp only [List.drop_succ_cons, List.drop_zero]
     refine RL.skip rfl rfl ?_
     refine RL.skip rfl rfl ?_
     refine RL.pickT rfl rfl rfl rfl ?_
     refine RL.finQ ?_
     refine RA.outQ ?_
     refine GL.nil ?_
     cases h470
     exact fun a w st => mid_intro true h471 (St.cut [0, 1, 2, 3] ⟨rfl, rfl, rfl, rfl, rfl, rfl, rfl, trivial⟩ (by decide) rfl st)
    replace h470 := ite_f b480 h470
    refine RA.mv 15 rfl (by kernel_rfl) rfl rfl rfl ?_
    refine RA.mv 16 rfl (by kernel_rfl) rfl rfl rfl ?_
    obtain ⟨y481, e482, h470⟩ := bind_some h470
    refine RA.idxS (sz := 1) 2 Try.underlying25 Try_ln24 17 rfl (by kernel_rfl) rfl rfl rfl rfl rfl SlOf.own (idx_some e482).1 (idx_some e482).2.1 ?_
    refine RA.mv 19 rfl (by kernel_rfl) rfl rfl rfl ?_
    refine RA.mv 20 rfl (by kernel_rfl) rfl rfl rfl ?_
    obtain ⟨y483, e484, h470⟩ := bind_some h470
    refine RA.idxS (sz := 1) 0 Try.underlying24 Try_ln3 21 rfl (by kernel_rfl) rfl rfl rfl rfl rfl SlOf.imm (idx_some e484).1 (idx_some e484).2.1 ?_
    refine RA.meet (ι := Value × Value) (fun (p : Value × Value) => [(5, v17), (12, v253), (13, v254), (15, v261), (96, .int .i64 (wadd (1 : Int) y10)), (97, .int .i64 (i400 : Int)), (114, .bool false), (118, p.1), (123, p.2)]) (fun (p : Value × Value) => [imm (TR.sl TR.int) v17 y15, own 3 TR.int v253 y251.1, own 24 (TR.sl TR.int) v254 y251.2.1, own 3 TR.int v261 y259.1, imm (TR.sl TR.int) p.1 y481, own 3 TR.int p.2 ([y483] : (List Int))]) 3 #[true, true, true, true, true, true, true, true, true, true, true, true, true, true, true, true, true, true, true, true, true, true, true, true, false, false, false] (fun h491 => ?_) ?_
    ·skip
     refine RA.meet (ι := Value) (fun (p : Value) => [(5, v17), (12, v253), (13, v254), (15, v261), (96, .int .i64 (wadd (1 : Int) y10)), (97, .int .i64 (i400 : Int)), (114, .bool false), (118, p), (122, .int .i64 y483)]) (fun (p : Value) => [imm (TR.sl TR.int) v17 y15, own 3 TR.int v253 y251.1, own 24 (TR.sl TR.int) v254 y251.2.1, own 3 TR.int v261 y259.1, imm (TR.sl TR.int) p y481]) 4 #[true, true, true, true, true, true, true, true, true, true, true, true, true, true, true, true, true, true, true, true, true, true, true, false, false, false, false] (fun h492 => ?_) ?_
     rotate_left
     ·rintro v488
      refine RA.weak (env' := [(5, v17), (12, v253), (13, v254), (15, v261), (96, .int .i64 (wadd (1 : Int) y10)), (97, .int .i64 (i400 : Int)), (114, .bool false), (118, v488), (122, .int .i64 y483)]) (L' := [imm (TR.sl TR.int) v17 y15, own 3 TR.int v253 y251.1, own 24 (TR.sl TR.int) v254 y251.2.1, own 3 TR.int v261 y259.1, imm (TR.sl TR.int) v488 y481]) (fun _ _ st => st) ?_
      refine RA.seq 23 rfl (by kernel_rfl) ?_
      refine RL.bS (t := TR.int) (vs := [.int .i64 y483]) ([y483] : (List Int)) Try.underlying24 Try_lo3 rfl rfl rfl rfl ⟨VR.int, trivial⟩ rfl (by decide) ?_
      intro v500
      refine RL.fin ?_
      refine RA.next ?_
      refine RA.relist 3 #[true, true, true, true, true, true, true, true, true, true, true, true, true, true, true, true, true, true, true, true, true, true, true, true, false, false, false] rfl (by kernel_rfl) ?_
      exact fun a w st => h491 (v488, v500) a w (St.cut [0, 1, 2, 3, 4, 5] ⟨rfl, rfl, rfl, rfl, rfl, rfl, rfl, rfl, rfl, trivial⟩ (by decide) rfl st)
     refine RA.meet (ι := Value) (fun (p : Value) => [(5, v17), (12, v253), (13, v254), (15, v261), (96, .int .i64 (wadd (1 : Int) y10)), (97, .int .i64 (i400 : Int)), (114, .bool false), (117, adr v254 (i400 * 1)), (123, p)]) (fun (p : Value) => [imm (TR.sl TR.int) v17 y15, own 3 TR.int v253 y251.1, own 24 (TR.sl TR.int) v254 y251.2.1, own 3 TR.int v261 y259.1, own 3 TR.int p ([y483] : (List Int))]) 4 #[true, true, true, true, true, true, true, true, true, true, true, true, true, true, true, true, true, true, false, true, true, true, true, true, false, false, false] (fun h493 => ?_) ?_
     rotate_left
     ·rintro v489
      refine RA.weak (env' := [(5, v17), (12, v253), (13, v254), (15, v261), (96, .int .i64 (wadd (1 : Int) y10)), (97, .int .i64 (i400 : Int)), (114, .bool false), (117, adr v254 (i400 * 1)), (123, v489)]) (L' := [imm (TR.sl TR.int) v17 y15, own 3 TR.int v253 y251.1, own 24 (TR.sl TR.int) v254 y251.2.1, own 3 TR.int v261 y259.1, own 3 TR.int v489 ([y483] : (List Int))]) (fun _ _ st => st) ?_
      refine RA.seq 18 rfl (by kernel_rfl) ?_
      refine RL.ldS (i := i400) (r := (TR.sl TR.int)) (e' := y481) 2 Try_ln24 rfl rfl rfl rfl SlOf.own (idx_some e482).2.2 Part.self ?_
      intro v499
      refine RL.fin ?_
      refine RA.next ?_
      refine RA.relist 3 #[true, true, true, true, true, true, true, true, true, true, true, true, true, true, true, true, true, true, true, true, true, true, true, true, false, false, false] rfl (by kernel_rfl) ?_
      exact fun a w st => h491 (v499, v489) a w (St.cut [0, 1, 2, 3, 5, 4] ⟨rfl, rfl, rfl, rfl, rfl, rfl, rfl, rfl, rfl, trivial⟩ (by decide) rfl st)
     refine RA.meet (ι := Unit) (fun (p : Unit) => [(5, v17), (12, v253), (13, v254), (15, v261), (96, .int .i64 (wadd (1 : Int) y10)), (97, .int .i64 (i400 : Int)), (114, .bool false), (117, adr v254 (i400 * 1)), (122, .int .i64 y483)]) (fun (p : Unit) => [imm (TR.sl TR.int) v17 y15, own 3 TR.int v253 y251.1, own 24 (TR.sl TR.int) v254 y251.2.1, own 3 TR.int v261 y259.1]) 5 #[true, true, true, true, true, true, true, true, true, true, true, true, true, true, true, true, true, true, false, true, true, true, true, false, false, false, false] (fun h494 => ?_) ?_
     rotate_left
     ·rintro ⟨⟩
      refine RA.weak (env' := [(5, v17), (12, v253), (13, v254), (15, v261), (96, .int .i64 (wadd (1 : Int) y10)), (97, .int .i64 (i400 : Int)), (114, .bool false), (117, adr v254 (i400 * 1)), (122, .int .i64 y483)]) (L' := [imm (TR.sl TR.int) v17 y15, own 3 TR.int v253 y251.1, own 24 (TR.sl TR.int) v254 y251.2.1, own 3 TR.int v261 y259.1]) (fun _ _ st => st) ?_
      refine RA.many [18, 23] (by kernel_rfl) ⟨⟨_, rfl, ?_⟩, ⟨_, rfl, ?_⟩, trivial⟩
      ·skip
       refine RL.ldS (i := i400) (r := (TR.sl TR.int)) (e' := y481) 2 Try_ln24 rfl rfl rfl rfl SlOf.own (idx_some e482).2.2 Part.self ?_
       intro v497
       refine RL.fin ?_
       refine RA.next ?_
       refine RA.relist 4 #[true, true, true, true, true, true, true, true, true, true, true, true, true, true, true, true, true, true, true, true, true, true, true, false, false, false, false] rfl (by kernel_rfl) ?_
       exact fun a w st => h492 v497 a w (St.cut [0, 1, 2, 3, 4] ⟨rfl, rfl, rfl, rfl, rfl, rfl, rfl, rfl, rfl, trivial⟩ (by decide) rfl st)
      refine RL.bS (t := TR.int) (vs := [.int .i64 y483]) ([y483] : (List Int)) Try.underlying24 Try_lo3 rfl rfl rfl rfl ⟨VR.int, trivial⟩ rfl (by decide) ?_
      intro v498
      refine RL.fin ?_
      refine RA.next ?_
      refine RA.relist 4 #[true, true, true, true, true, true, true, true, true, true, true, true, true, true, true, true, true, true, false, true, true, true, true, true, false, false, false] rfl (by kernel_rfl) ?_
      exact fun a w st => h493 v498 a w (St.cut [0, 1, 2, 3, 4] ⟨rfl, rfl, rfl, rfl, rfl, rfl, rfl, rfl, rfl, trivial⟩ (by decide) rfl st)
     refine RA.meet (ι := Value) (fun (p : Value) => [(5, v17), (12, v253), (13, v254), (15, v261), (96, .int .i64 (wadd (1 : Int) y10)), (97, .int .i64 (i400 : Int)), (114, .bool false), (118, p), (121, adr v17 (i400 * 1))]) (fun (p : Value) => [imm (TR.sl TR.int) v17 y15, own 3 TR.int v253 y251.1, own 24 (TR.sl TR.int) v254 y251.2.1, own 3 TR.int v261 y259.1, imm (TR.sl TR.int) p y481]) 5 #[true, true, true, true, true, true, true, true, true, true, true, true, true, true, true, true, true, true, true, true, true, true, false, false, false, false, false] (fun h495 => ?_) ?_
     rotate_left
     ·rintro v487
      refine RA.weak (env' := [(5, v17), (12, v253), (13, v254), (15, v261), (96, .int .i64 (wadd (1 : Int) y10)), (97, .int .i64 (i400 : Int)), (114, .bool false), (118, v487), (121, adr v17 (i400 * 1))]) (L' := [imm (TR.sl TR.int) v17 y15, own 3 TR.int v253 y251.1, own 24 (TR.sl TR.int) v254 y251.2.1, own 3 TR.int v261 y259.1, imm (TR.sl TR.int) v487 y481]) (fun _ _ st => st) ?_
      refine RA.seq 22 rfl (by kernel_rfl) ?_
      refine RL.ldSx (i := i400) (e' := y483) 0 Ex.ik Try_ln3 rfl rfl rfl rfl SlOf.imm (idx_some e484).2.2 Part.self ?_
      refine RL.fin ?_
      refine RA.next ?_
      refine RA.relist 4 #[true, true, true, true, true, true, true, true, true, true, true, true, true, true, true, true, true, true, true, true, true, true, true, false, false, false, false] rfl (by kernel_rfl) ?_
      exact fun a w st => h492 v487 a w (St.cut [0, 1, 2, 3, 4] ⟨rfl, rfl, rfl, rfl, rfl, rfl, rfl, rfl, rfl, trivial⟩ (by decide) rfl st)
     refine RA.many [18, 22] (by kernel_rfl) ⟨⟨_, rfl, ?_⟩, ⟨_, rfl, ?_⟩, trivial⟩
     ·skip
      refine RL.ldS (i := i400) (r := (TR.sl TR.int)) (e' := y481) 2 Try_ln24 rfl rfl rfl rfl SlOf.own (idx_some e482).2.2 Part.self ?_
      intro v496
      refine RL.fin ?_
      refine RA.next ?_
      refine RA.relist 5 #[true, true, true, true, true, true, true, true, true, true, true, true, true, true, true, true, true, true, true, true, true, true, false, false, false, false, false] rfl (by kernel_rfl) ?_
      exact fun a w st => h495 v496 a w (St.cut [0, 1, 2, 3, 4] ⟨rfl, rfl, rfl, rfl, rfl, rfl, rfl, rfl, rfl, trivial⟩ (by decide) rfl st)
     refine RL.ldSx (i := i400) (e' := y483) 0 Ex.ik Try_ln3 rfl rfl rfl rfl SlOf.imm (idx_some e484).2.2 Part.self ?_
     refine RL.fin ?_
     refine RA.next ?_
     refine RA.relist 5 #[true, true, true, true, true, true, true, true, true, true, true, true, true, true, true, true, true, true, false, true, true, true, true, false, false, false, false] rfl (by kernel_rfl) ?_
     exact fun a w st => h494 () a w (St.cut [0, 1, 2, 3] ⟨rfl, rfl, rfl, rfl, rfl, rfl, rfl, rfl, rfl, trivial⟩ (by decide) rfl st)
    rintro ⟨v488, v490⟩
    refine RA.weak (env' := [(5, v17), (12, v253), (13, v254), (15, v261), (96, .int .i64 (wadd (1 : Int) y10)), (97, .int .i64 (i400 : Int)), (114, .bool false), (118, v488), (123, v490)]) (L' := [imm (TR.sl TR.int) v17 y15, own 3 TR.int v253 y251.1, own 24 (TR.sl TR.int) v254 y251.2.1, own 3 TR.int v261 y259.1, imm (TR.sl TR.int) v488 y481, own 3 TR.int v490 ([y483] : (List Int))]) (fun _ _ st => st) ?_
    refine RA.quiet 24 rfl rfl (by kernel_rfl) ?_
    simp only [List.drop_succ_cons, List.drop_zero]
    obtain ⟨y501, e502, h470⟩ := bind_some h470
    refine RL.callV (v := .bool y501) (vs := [v488, v490]) Try_fit19 rfl (Or.inr ⟨_, rfl⟩) rfl rfl rfl rfl (fun U w hU hW hL => slices_Equal_int_int_c U w hU _ _ (hL 4 _ _ rfl Seen.imm) _ _ (hL 5 _ _ rfl Seen.own) _ e502) ?_
    refine RL.notB rfl rfl rfl ?_
    refine RL.pickF rfl rfl rfl rfl ?_
    refine RL.finQ ?_
    refine RA.outQ ?_
    refine GL.nil ?_
    cases h470
    exact fun a w st => mid_intro (!y501) h471 (St.cut [0, 1, 2, 3] ⟨rfl, rfl, rfl, rfl, rfl, rfl, rfl, trivial⟩ (by decide) rfl st)
   rintro x467 h503
   have h504 := h472 _ h503
   try dsimp only at h504
   refine GL.weak (env' := [(5, v17), (12, v253), (13, v254), (15, v261), (96, .int .i64 (wadd (1 : Int) y10)), (97, .int .i64 (i400 : Int)), (126, .bool x467)]) (L' := [imm (TR.sl TR.int) v17 y15, own 3 TR.int v253 y251.1, own 24 (TR.sl TR.int) v254 y251.2.1, own 3 TR.int v261 y259.1]) (fun _ _ st => st) ?_
   refine GL.cond rfl (fun b505 => ?_) (fun b505 => ?_)
   ·replace h504 := ite_t b505 h504
    refine GL.seq ?_
    refine GL.region ?_
    refine RL.asg rfl rfl rfl ?_
    refine RL.finG ?_
    cases h504
    replace h404 : some (Fl.rt _) = some y393 := h404
    cases h404
    have hh := h398 _ h396
    subst hh
    exact GL.ret (Gx.ret (v := .bool false) (res1 rfl rfl) (fun a w st => st.toPostV))
   replace h504 := ite_f b505 h504
   refine GL.skip ?_
   refine GL.nilB ?_
   refine GL.region ?_
   refine RL.binI (v := .int .i64 ((i400 + 1 : Nat) : Int)) rfl rfl rfl rfl (binI_succ i400 (by omega)) ?_
   refine RL.mv rfl rfl rfl ?_
   refine RL.fin ?_
   cases h504
   exact fun a w st => lop_intro (i400 + 1, r410) ⟨by show i400 + 1 + r410 = (wadd (1 : Int) y10).toNat; omega, h404⟩ (by simp) (St.cut [0, 1, 2, 3] ⟨rfl, rfl, rfl, rfl, rfl, rfl, trivial⟩ (by decide) rfl st)
  have h409 : ¬ i400 < (wadd (1 : Int) y10).toNat := by have := of_decide_eq_false b408; omega
  obtain rfl : r401 = 0 := by omega
  replace h405 : some (Fl.nx _) = some y393 := h405
  cases h405
  exact GL.exit (fun a w st => mid_intro () h396 (St.cut [] trivial (by decide) rfl st))
 rintro ⟨⟩ h506
 have h507 := h397 _ h506
 try dsimp only at h507
 refine GL.weak (env' := []) (L' := []) (fun _ _ st => st) ?_
 refine GL.seq ?_
 refine GL.region ?_
 refine RL.asg rfl rfl rfl ?_
 refine RL.finG ?_
 have h507 := Option.some.inj h507
 subst h507
 exact GL.ret (Gx.ret (v := .bool true) (res1 rfl rfl) (fun a w st => st.toPostV))
end Go.Wk
