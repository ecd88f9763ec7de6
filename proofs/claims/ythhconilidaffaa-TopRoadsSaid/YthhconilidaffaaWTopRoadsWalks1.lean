/- Each function comes to what its model says; printed by a program of this repository. -/
import Derived.Test.YthhconilidaffaaProg
import Derived.Test.YthhconilidaffaaWTopRoadsModels
namespace Go.Wk
open Go.Fw Go.Mo Go.Proofs Go.RowKit
set_option linter.all false
set_option maxRecDepth 100000
theorem loopNx {ρ σ β γ : Type} {body : σ → Option (Fl ρ β σ)} {n : Nat} {s : σ} {y : Fl ρ γ β} (h : stepM body n (.nx s) = some y) : loopM body n s = some y := h
theorem Try_info3 : (Try.prog.info? 3).map (fun i => (i.zero, i.size, i.bytes)) = some (some (.int .i64 0), 1, 8) := by kernel_rfl
theorem Try_ln3 : Ln Try.prog 3 1 false := Ln.of Try_info3 Try.underlying3 rfl
theorem Try_lo3 : LnO Try.prog 3 1 [.int .i64 0] := LnO.of Try_info3 rfl rfl (by decide) (by decide)
theorem Try_info4 : (Try.prog.info? 4).map (fun i => (i.zero, i.size, i.bytes)) = some (some (.bool false), 1, 1) := by kernel_rfl
theorem Try_ln4 : Ln Try.prog 4 1 false := Ln.of Try_info4 Try.underlying4 rfl
theorem Try_lo4 : LnO Try.prog 4 1 [.bool false] := LnO.of Try_info4 rfl rfl (by decide) (by decide)
theorem Try_info22 : (Try.prog.info? 22).map (fun i => (i.zero, i.size, i.bytes)) = some (some (.slice none 0 0), 1, 24) := by kernel_rfl
theorem Try_ln22 : Ln Try.prog 22 1 false := Ln.of Try_info22 Try.underlying22 rfl
theorem Try_lo22 : LnO Try.prog 22 1 [.slice none 0 0] := LnO.of Try_info22 rfl rfl (by decide) (by decide)
theorem Try_info37 : (Try.prog.info? 37).map (fun i => (i.zero, i.size, i.bytes)) = some (some (.agg #[.int .i64 0, .int .i64 0]), 2, 16) := by kernel_rfl
theorem Try_ln37 : Ln Try.prog 37 2 true := Ln.of Try_info37 Try.underlying37 rfl
theorem Try_lo37 : LnO Try.prog 37 2 [.int .i64 0, .int .i64 0] := LnO.of Try_info37 rfl rfl (by decide) (by decide)
theorem Try_info74 : (Try.prog.info? 74).map (fun i => (i.zero, i.size, i.bytes)) = some (some (.agg #[.slice none 0 0]), 1, 24) := by kernel_rfl
theorem Try_ln74 : Ln Try.prog 74 1 true := Ln.of Try_info74 Try.underlying74 rfl
theorem Try_lo74 : LnO Try.prog 74 1 [.slice none 0 0] := LnO.of Try_info74 rfl rfl (by decide) (by decide)
theorem Try_info97 : (Try.prog.info? 97).map (fun i => (i.zero, i.size, i.bytes)) = some (some (.agg #[.bool false, .bool false, .bool false, .bool false, .bool false, .bool false]), 6, 6) := by kernel_rfl
theorem Try_ln97 : Ln Try.prog 97 6 true := Ln.of Try_info97 Try.underlying97 rfl
theorem Try_lo97 : LnO Try.prog 97 6 [.bool false, .bool false, .bool false, .bool false, .bool false, .bool false] := LnO.of Try_info97 rfl rfl (by decide) (by decide)
theorem Try_bld37 (pv : List (Nat × Value)) : Try.prog.built 37 pv = Instr.fill (fun i => some (i * 1, 1)) (List.flatten [[.int .i64 0], [.int .i64 0]]).toArray pv := by kernel_rfl
theorem Try_eq37 : EqT Try.prog 37 (TR.arr 2 TR.int) 2 := (EqT.arr Try.underlying37 Try_ln3 (EqT.int Try.underlying3) (by kernel_rfl))
theorem Try_fit10 : Fit Try.prog 10 := Fit.of Try.func10 (by kernel_rfl) rfl
theorem Try_fit12 : Fit Try.prog 12 := Fit.of Try.func12 (by kernel_rfl) rfl
theorem Try_fit13 : Fit Try.prog 13 := Fit.of Try.func13 (by kernel_rfl) rfl
theorem Try_fit14 : Fit Try.prog 14 := Fit.of Try.func14 (by kernel_rfl) rfl
theorem Try_fit15 : Fit Try.prog 15 := Fit.of Try.func15 (by kernel_rfl) rfl
theorem Try_fit27 : Fit Try.prog 27 := Fit.of Try.func27 (by kernel_rfl) rfl
theorem Try_fit28 : Fit Try.prog 28 := Fit.of Try.func28 (by kernel_rfl) rfl
theorem Try_fit30 : Fit Try.prog 30 := Fit.of Try.func30 (by kernel_rfl) rfl
theorem Try_fit31 : Fit Try.prog 31 := Fit.of Try.func31 (by kernel_rfl) rfl
theorem Try_fit34 : Fit Try.prog 34 := Fit.of Try.func34 (by kernel_rfl) rfl
theorem Try_fit35 : Fit Try.prog 35 := Fit.of Try.func35 (by kernel_rfl) rfl
theorem Try_fit36 : Fit Try.prog 36 := Fit.of Try.func36 (by kernel_rfl) rfl
theorem Try_fit37 : Fit Try.prog 37 := Fit.of Try.func37 (by kernel_rfl) rfl
theorem Try_fit38 : Fit Try.prog 38 := Fit.of Try.func38 (by kernel_rfl) rfl
theorem Try_fit39 : Fit Try.prog 39 := Fit.of Try.func39 (by kernel_rfl) rfl
theorem Try_fit48 : Fit Try.prog 48 := Fit.of Try.func48 (by kernel_rfl) rfl
theorem Try_fit50 : Fit Try.prog 50 := Fit.of Try.func50 (by kernel_rfl) rfl
theorem Try_fit61 : Fit Try.prog 61 := Fit.of Try.func61 (by kernel_rfl) rfl
theorem Try_fit62 : Fit Try.prog 62 := Fit.of Try.func62 (by kernel_rfl) rfl
theorem Try_fit63 : Fit Try.prog 63 := Fit.of Try.func63 (by kernel_rfl) rfl
theorem Try_fit65 : Fit Try.prog 65 := Fit.of Try.func65 (by kernel_rfl) rfl
theorem Try_fit7 : Fit Try.prog 7 := Fit.of Try.func7 (by kernel_rfl) rfl
theorem Try_fld74_0 (ad : Addr) (w : World) : (Instr.fieldAt 74 (.pointer (some ad)) 0).run Try.prog w = .ok (.pointer (some (ad.add 0))) w := by
  simp [Instr.fieldAt, run_underlying Try.underlying74, Instr.sureAddr, fieldPlace, Fw.run_sizeOf Try_ln22]

set_option maxHeartbeats 4000000 in
theorem order_Check_c (S : Hp) (w : World) (hS : S.sub w) (x0 : Int) (v1 : Value) (x1 : (List Int)) (k1 : ((TR.sl TR.int)).vrep S v1 x1) (res : Int) (hm : order_Check_m x0 x1 = some res) : Calls Try.prog 48 #[.int .i64 x0, v1] w (PostV w (.int .i64 res)) := by
 refine calls_enter 39 Try.func48 Try.ntmps48 rfl S false [(0, .int .i64 x0), (1, v1)] [imm (TR.sl TR.int) v1 x1] rfl ⟨rfl, ⟨rfl, trivial⟩⟩ hS ⟨k1, trivial⟩ ?_
 unfold order_Check_m at hm
 refine GL.seq ?_
 refine GL.region ?_
 refine RL.asg rfl rfl rfl ?_
 refine RL.finG ?_
 refine GL.seq ?_
 refine GL.seq ?_
 obtain ⟨y6, K7, h8, h9, h10, h11, h12⟩ := bindR_K hm
 refine GL.join (ι := Bool) (fun (p : Bool) => [(0, .int .i64 x0), (1, v1), (13, .bool p)]) (fun (p : Bool) => [imm (TR.sl TR.int) v1 x1]) (fun (p : Bool) => K7 (.nx p)) ?_ ?_
 ·skip
  refine GL.region ?_
  refine RL.mv rfl rfl rfl ?_
  refine RL.binI (v := .bool (decide (x0 < (1 : Int)))) rfl rfl rfl rfl rfl ?_
  refine RL.mv rfl rfl rfl ?_
  refine RL.split (t := 10) rfl (fun b13 => ?_) (fun b13 => ?_)
  ·replace h8 := ite_t b13 h8
   refine RL.skip rfl rfl ?_
   refine RL.skip rfl rfl ?_
   refine RL.pickT rfl rfl rfl rfl ?_
   refine RL.fin ?_
   cases h8
   exact fun a w st => mid_intro true h9 (St.cut [0] ⟨rfl, rfl, rfl, trivial⟩ (by decide) rfl st)
  replace h8 := ite_f b13 h8
  refine RL.mv rfl rfl rfl ?_
  refine RL.binI (v := .bool (decide (x0 > (6 : Int)))) rfl rfl rfl rfl rfl ?_
  refine RL.pickF rfl rfl rfl rfl ?_
  refine RL.fin ?_
  cases h8
  exact fun a w st => mid_intro (decide (x0 > (6 : Int))) h9 (St.cut [0] ⟨rfl, rfl, rfl, trivial⟩ (by decide) rfl st)
 rintro x5 h14
 have h15 := h10 _ h14
 try dsimp only at h15
 refine GL.weak (env' := [(0, .int .i64 x0), (1, v1), (13, .bool x5)]) (L' := [imm (TR.sl TR.int) v1 x1]) (fun _ _ st => st) ?_
 refine GL.cond rfl (fun b16 => ?_) (fun b16 => ?_)
 ·replace h15 := ite_t b16 h15
  refine GL.seq ?_
  refine GL.region ?_
  refine RL.asg rfl rfl rfl ?_
  refine RL.finG ?_
  have h15 := Option.some.inj h15
  subst h15
  exact GL.ret (Gx.ret (v := .int .i64 (1 : Int)) (res1 rfl rfl) (fun a w st => st.toPostV))
 replace h15 := ite_f b16 h15
 refine GL.skip ?_
 refine GL.seq ?_
 refine GL.region ?_
 refine RL.alloc (t := (TR.arr 6 TR.bool)) (z := (List.replicate 6 false)) Try_lo97 (fun S => ⟨rfl, ⟨_, _, rfl, rfl, ⟨_, _, rfl, rfl, ⟨_, _, rfl, rfl, ⟨_, _, rfl, rfl, ⟨_, _, rfl, rfl, ⟨_, _, rfl, rfl, rfl⟩⟩⟩⟩⟩⟩⟩) rfl rfl rfl ?_
 intro v18
 refine RL.finG ?_
 refine GL.seq ?_
 refine GL.seq ?_
 refine GL.region ?_
 refine RL.mv rfl rfl rfl ?_
 refine RL.lenS 0 Try.underlying22 rfl rfl rfl rfl SlOf.imm ?_
 refine RL.mv rfl rfl rfl ?_
 refine RL.finG ?_
 refine GL.open_ 0 rfl (fun S h => len_imm S h) (fun n82 => ?_)
 obtain ⟨y83, K84, h85, h86, h87, h88, h89⟩ := bindR_K h15
 refine GL.join (ι := (List Bool)) (fun (p : (List Bool)) => [(0, .int .i64 x0), (1, v1)]) (fun (p : (List Bool)) => [imm (TR.sl TR.int) v1 x1]) (fun (p : (List Bool)) => K84 (.nx p)) ?_ ?_
 ·refine GL.block ?_
  refine GL.loop (ι := Nat × (List Int) × (List Bool)) (fun (p : Nat × (List Int) × (List Bool)) => [(0, .int .i64 x0), (1, v1), (5, v18), (14, v1), (15, .int .i64 ((x1).length : Int)), (16, .int .i64 (p.1 : Int))]) (fun (p : Nat × (List Int) × (List Bool)) => [imm (TR.sl TR.int) v1 x1, obox 97 (TR.arr 6 TR.bool) v18 p.2.2]) (fun (p : Nat × (List Int) × (List Bool)) => p.1 + p.2.1.length = (x1).length ∧ List.drop p.1 x1 = p.2.1 ∧ rangeL (order_Check_b1 x0) p.2.1 p.1 p.2.2 = some y83) (fun (p : Nat × (List Int) × (List Bool)) => p.2.1.length) (0, x1, (List.replicate 6 false)) ⟨by simp, by simp, h85⟩ (fun a w st => St.cut [0, 1] ⟨rfl, rfl, rfl, rfl, rfl, rfl, trivial⟩ (by decide) rfl st) ?_
  rintro ⟨i90, r91, l50⟩ ⟨h96, h97, h95⟩
  try dsimp only at h96 h97 h95
  refine GL.weak (env' := [(0, .int .i64 x0), (1, v1), (5, v18), (14, v1), (15, .int .i64 ((x1).length : Int)), (16, .int .i64 (i90 : Int))]) (L' := [imm (TR.sl TR.int) v1 x1, obox 97 (TR.arr 6 TR.bool) v18 l50]) (fun _ _ st => st) ?_
  refine GL.seq ?_
  refine GL.region ?_
  refine RL.binI (v := .bool (decide ((i90 : Int) < ((x1).length : Int)))) rfl rfl rfl rfl rfl ?_
  refine RL.finG ?_
  refine GL.seq ?_
  refine GL.cond rfl (fun b98 => ?_) (fun b98 => ?_)
  ·have h99 : i90 < (x1).length := by have := of_decide_eq_true b98; omega
   obtain ⟨y100, r102, hr, e101, h103⟩ := drop_cons h97 rfl h99
   subst hr
   obtain ⟨z92, h93, h94⟩ := rangeL_some h95
   unfold order_Check_b1 at h93
   try dsimp only at h93
   refine GL.skip ?_
   refine GL.seq ?_
   refine GL.block ?_
   refine GL.seq ?_
   refine GL.region ?_
   refine RL.idxS (sz := 1) 0 Try.underlying22 Try_ln3 rfl rfl rfl rfl rfl SlOf.imm (by omega) (by omega) ?_
   refine RL.ldSx (i := i90) (e' := y100) 0 Ex.ik Try_ln3 rfl rfl rfl rfl SlOf.imm e101 Part.self ?_
   refine RL.asg rfl rfl rfl ?_
   refine RL.finG ?_
   refine GL.seq ?_
   refine GL.seq ?_
   obtain ⟨y113, K114, h115, h116, h117, h118, h119⟩ := bindF_K h93
   refine GL.join (ι := Bool) (fun (p : Bool) => [(0, .int .i64 x0), (1, v1), (5, v18), (7, .int .i64 y100), (14, v1), (15, .int .i64 ((x1).length : Int)), (16, .int .i64 (i90 : Int)), (31, .bool p)]) (fun (p : Bool) => [imm (TR.sl TR.int) v1 x1, obox 97 (TR.arr 6 TR.bool) v18 l50]) (fun (p : Bool) => K114 (.nx p)) ?_ ?_
   ·skip
    refine GL.region ?_
    refine RL.mv rfl rfl rfl ?_
    refine RL.binI (v := .bool (decide (y100 < (0 : Int)))) rfl rfl rfl rfl rfl ?_
    refine RL.mv rfl rfl rfl ?_
    refine RL.split (t := 22) rfl (fun b120 => ?_) (fun b120 => ?_)
    ·replace h115 := ite_t b120 h115
     refine RL.skip rfl rfl ?_
     refine RL.skip rfl rfl ?_
     refine RL.skip rfl rfl ?_
     refine RL.pickT rfl rfl rfl rfl ?_
     refine RL.mv rfl rfl rfl ?_
     refine RL.skip rfl rfl ?_
     refine RL.skip rfl rfl ?_
     refine RL.skip rfl rfl ?_
     refine RL.pickT rfl rfl rfl rfl ?_
     refine RL.fin ?_
     cases h115
     exact fun a w st => mid_intro true h116 (St.cut [0, 1] ⟨rfl, rfl, rfl, rfl, rfl, rfl, rfl, rfl, trivial⟩ (by decide) rfl st)
    replace h115 := ite_f b120 h115
    refine RL.mv rfl rfl rfl ?_
    refine RL.mv rfl rfl rfl ?_
    refine RL.binI (v := .bool (decide (y100 ≥ x0))) rfl rfl rfl rfl rfl ?_
    refine RL.pickF rfl rfl rfl rfl ?_
    refine RL.mv rfl rfl rfl ?_
    refine RL.split (t := 27) rfl (fun b121 => ?_) (fun b121 => ?_)
    ·replace h115 := ite_t b121 h115
     refine RL.skip rfl rfl ?_
     refine RL.skip rfl rfl ?_
     refine RL.skip rfl rfl ?_
     refine RL.pickT rfl rfl rfl rfl ?_
     refine RL.fin ?_
     cases h115
     exact fun a w st => mid_intro true h116 (St.cut [0, 1] ⟨rfl, rfl, rfl, rfl, rfl, rfl, rfl, rfl, trivial⟩ (by decide) rfl st)
    replace h115 := ite_f b121 h115
    refine RL.mv rfl rfl rfl ?_
    obtain ⟨y122, e123, h115⟩ := bind_some h115
    refine RL.idxA0 (sz := 1) (t' := TR.bool) 1 Try.underlying97 Try_ln4 rfl rfl rfl PtOf.obox rfl rfl Part.self (idx_some e123).1 (idx_some e123).2.1 ?_
    refine RL.ldPx (off := ((y100).toNat * 1)) (e' := y122) 1 Ex.bool Try_ln4 rfl rfl (Or.inl rfl) rfl PtOf.obox (Part.arr (idx_some e123).2.2 Part.self) ?_
    refine RL.pickF rfl rfl rfl rfl ?_
    refine RL.fin ?_
    cases h115
    exact fun a w st => mid_intro y122 h116 (St.cut [0, 1] ⟨rfl, rfl, rfl, rfl, rfl, rfl, rfl, rfl, trivial⟩ (by decide) rfl st)
   rintro x112 h124
   have h125 := h117 _ h124
   try dsimp only at h125
   refine GL.weak (env' := [(0, .int .i64 x0), (1, v1), (5, v18), (7, .int .i64 y100), (14, v1), (15, .int .i64 ((x1).length : Int)), (16, .int .i64 (i90 : Int)), (31, .bool x112)]) (L' := [imm (TR.sl TR.int) v1 x1, obox 97 (TR.arr 6 TR.bool) v18 l50]) (fun _ _ st => st) ?_
   refine GL.cond rfl (fun b126 => ?_) (fun b126 => ?_)
   ·replace h125 := ite_t b126 h125
    refine GL.seq ?_
    refine GL.region ?_
    refine RL.asg rfl rfl rfl ?_
    refine RL.finG ?_
    cases h125
    replace h94 : some (Fl.rt _) = some y83 := h94
    cases h94
    have hh := h88 _ h86
    subst hh
    exact GL.ret (Gx.ret (v := .int .i64 (3 : Int)) (res1 rfl rfl) (fun a w st => st.toPostV))
   replace h125 := ite_f b126 h125
   refine GL.skip ?_
   refine GL.region ?_
   refine RL.mv rfl rfl rfl ?_
   obtain ⟨y129, e130, h125⟩ := bind_some h125
   refine RL.idxA0 (sz := 1) (t' := TR.bool) 1 Try.underlying97 Try_ln4 rfl rfl rfl PtOf.obox rfl rfl Part.self (idx_some e130).1 (idx_some e130).2.1 ?_
   refine RL.stP (off := ((y100).toNat * 1)) (e' := true) (d1 := (List.set l50 ((y100).toNat) true)) (r := TR.bool) 1 Try_ln4 rfl rfl (Or.inl rfl) rfl VR.bool rfl (Upd.arr (idx_some e130).2.2 Upd.self) ?_
   refine RL.finG ?_
   refine GL.nilB ?_
   refine GL.region ?_
   refine RL.binI (v := .int .i64 ((i90 + 1 : Nat) : Int)) rfl rfl rfl rfl (binI_succ i90 (by omega)) ?_
   refine RL.mv rfl rfl rfl ?_
   refine RL.fin ?_
   cases h125
   exact fun a w st => lop_intro (i90 + 1, r102, (List.set l50 ((y100).toNat) true)) ⟨by show i90 + 1 + r102.length = (x1).length; simp only [List.length_cons] at h96; omega, h103, h94⟩ (by simp) (St.cut [0, 1] ⟨rfl, rfl, rfl, rfl, rfl, rfl, trivial⟩ (by decide) rfl st)
  have h99 : ¬ i90 < (x1).length := by have := of_decide_eq_false b98; omega
  obtain rfl : r91 = [] := by rw [← h97]; exact List.drop_of_length_le (by omega)
  replace h95 : some (Fl.nx _) = some y83 := h95
  cases h95
  exact GL.exit (fun a w st => mid_intro l50 h86 (St.cut [0] ⟨rfl, rfl, trivial⟩ (by decide) rfl st))
 rintro l50 h131
 have h132 := h87 _ h131
 try dsimp only at h132
 refine GL.weak (env' := [(0, .int .i64 x0), (1, v1)]) (L' := [imm (TR.sl TR.int) v1 x1]) (fun _ _ st => st) ?_
 refine GL.seq ?_
 refine GL.seq ?_
 refine GL.region ?_
 refine RL.mv rfl rfl rfl ?_
 refine RL.lenS 0 Try.underlying22 rfl rfl rfl rfl SlOf.imm ?_
 refine RL.mv rfl rfl rfl ?_
 refine RL.binI (v := .bool (((x1).length : Int) != x0)) rfl rfl rfl rfl rfl ?_
 refine RL.finG ?_
 refine GL.cond rfl (fun b133 => ?_) (fun b133 => ?_)
 ·replace h132 := ite_t b133 h132
  refine GL.seq ?_
  refine GL.region ?_
  refine RL.asg rfl rfl rfl ?_
  refine RL.finG ?_
  have h132 := Option.some.inj h132
  subst h132
  exact GL.ret (Gx.ret (v := .int .i64 (3 : Int)) (res1 rfl rfl) (fun a w st => st.toPostV))
 replace h132 := ite_f b133 h132
 refine GL.skip ?_
 refine GL.seq ?_
 refine GL.region ?_
 refine RL.asg rfl rfl rfl ?_
 refine RL.finG ?_
 have h132 := Option.some.inj h132
 subst h132
 exact GL.ret (Gx.ret (v := .int .i64 (0 : Int)) (res1 rfl rfl) (fun a w st => st.toPostV))

set_option maxHeartbeats 4000000 in
theorem slices_Index_int_int_c (S : Hp) (w : World) (hS : S.sub w) (v0 : Value) (x0 : (List Int)) (k0 : ((TR.sl TR.int)).vrep S v0 x0) (x1 : Int) (res : Int) (hm : slices_Index_int_int_m x0 x1 = some res) : Calls Try.prog 50 #[v0, .int .i64 x1] w (PostC w (.int .i64 res)) := by
 refine calls_enter 19 Try.func50 Try.ntmps50 rfl S true [(0, v0), (1, .int .i64 x1)] [imm (TR.sl TR.int) v0 x0] rfl ⟨rfl, ⟨rfl, trivial⟩⟩ hS ⟨k0, trivial⟩ ?_
 unfold slices_Index_int_int_m at hm
 refine GL.seq ?_
 refine GL.region ?_
 refine RL.asg rfl rfl rfl ?_
 refine RL.finG ?_
 refine GL.seq ?_
 refine GL.seq ?_
 refine GL.region ?_
 refine RL.mv rfl rfl rfl ?_
 refine RL.lenS 0 Try.underlying22 rfl rfl rfl rfl SlOf.imm ?_
 refine RL.mv rfl rfl rfl ?_
 refine RL.finG ?_
 refine GL.open_ 0 rfl (fun S h => len_imm S h) (fun n8 => ?_)
 obtain ⟨y9, K10, h11, h12, h13, h14, h15⟩ := bindR_K hm
 refine GL.join (ι := Unit) (fun (p : Unit) => []) (fun (p : Unit) => []) (fun (p : Unit) => K10 (.nx ())) ?_ ?_
 ·refine GL.block ?_
  refine GL.loop (ι := Nat × (List Int)) (fun (p : Nat × (List Int)) => [(0, v0), (1, .int .i64 x1), (7, .int .i64 ((x0).length : Int)), (8, .int .i64 (p.1 : Int))]) (fun (p : Nat × (List Int)) => [imm (TR.sl TR.int) v0 x0]) (fun (p : Nat × (List Int)) => p.1 + p.2.length = (x0).length ∧ List.drop p.1 x0 = p.2 ∧ rangeL (slices_Index_int_int_b1 x1) p.2 p.1 () = some y9) (fun (p : Nat × (List Int)) => p.2.length) (0, x0) ⟨by simp, by simp, h11⟩ (fun a w st => St.cut [0] ⟨rfl, rfl, rfl, rfl, trivial⟩ (by decide) rfl st) ?_
  rintro ⟨i17, r18⟩ ⟨h23, h24, h22⟩
  try dsimp only at h23 h24 h22
  refine GL.weak (env' := [(0, v0), (1, .int .i64 x1), (7, .int .i64 ((x0).length : Int)), (8, .int .i64 (i17 : Int))]) (L' := [imm (TR.sl TR.int) v0 x0]) (fun _ _ st => st) ?_
  refine GL.seq ?_
  refine GL.region ?_
  refine RL.binI (v := .bool (decide ((i17 : Int) < ((x0).length : Int)))) rfl rfl rfl rfl rfl ?_
  refine RL.finG ?_
  refine GL.seq ?_
  refine GL.cond rfl (fun b25 => ?_) (fun b25 => ?_)
  ·have h26 : i17 < (x0).length := by have := of_decide_eq_true b25; omega
   obtain ⟨y27, r29, hr, e28, h30⟩ := drop_cons h24 rfl h26
   subst hr
   obtain ⟨z19, h20, h21⟩ := rangeL_some h22
   unfold slices_Index_int_int_b1 at h20
   try dsimp only at h20
   refine GL.skip ?_
   refine GL.seq ?_
   refine GL.block ?_
   refine GL.seq ?_
   refine GL.region ?_
   refine RL.mv rfl rfl rfl ?_
   refine RL.asg rfl rfl rfl ?_
   refine RL.finG ?_
   refine GL.seq ?_
   refine GL.region ?_
   refine RL.mv rfl rfl rfl ?_
   refine RL.mv rfl rfl rfl ?_
   refine RL.mv rfl rfl rfl ?_
   refine RL.idxS (sz := 1) 0 Try.underlying22 Try_ln3 rfl rfl rfl rfl rfl SlOf.imm (by omega) (by omega) ?_
   refine RL.ldSx (i := i17) (e' := y27) 0 Ex.ik Try_ln3 rfl rfl rfl rfl SlOf.imm e28 Part.self ?_
   refine RL.binI (v := .bool (x1 == y27)) rfl rfl rfl rfl rfl ?_
   refine RL.finG ?_
   refine GL.cond rfl (fun b31 => ?_) (fun b31 => ?_)
   ·replace h20 := ite_t b31 h20
    refine GL.seq ?_
    refine GL.region ?_
    refine RL.mv rfl rfl rfl ?_
    refine RL.asg rfl rfl rfl ?_
    refine RL.finG ?_
    cases h20
    replace h21 : some (Fl.rt _) = some y9 := h21
    cases h21
    have hh := h14 _ h12
    subst hh
    exact GL.ret (Gx.ret (v := .int .i64 (i17 : Int)) (res1 rfl rfl) (fun a w st => st.toPostC rfl))
   replace h20 := ite_f b31 h20
   refine GL.skip ?_
   refine GL.nilB ?_
   refine GL.region ?_
   refine RL.binI (v := .int .i64 ((i17 + 1 : Nat) : Int)) rfl rfl rfl rfl (binI_succ i17 (by omega)) ?_
   refine RL.mv rfl rfl rfl ?_
   refine RL.fin ?_
   cases h20
   exact fun a w st => lop_intro (i17 + 1, r29) ⟨by show i17 + 1 + r29.length = (x0).length; simp only [List.length_cons] at h23; omega, h30, h21⟩ (by simp) (St.cut [0] ⟨rfl, rfl, rfl, rfl, trivial⟩ (by decide) rfl st)
  have h26 : ¬ i17 < (x0).length := by have := of_decide_eq_false b25; omega
  obtain rfl : r18 = [] := by rw [← h24]; exact List.drop_of_length_le (by omega)
  replace h22 : some (Fl.nx _) = some y9 := h22
  cases h22
  exact GL.exit (fun a w st => mid_intro () h12 (St.cut [] trivial (by decide) rfl st))
 rintro ⟨⟩ h32
 have h33 := h13 _ h32
 try dsimp only at h33
 refine GL.weak (env' := []) (L' := []) (fun _ _ st => st) ?_
 refine GL.seq ?_
 refine GL.region ?_
 refine RL.asg rfl rfl rfl ?_
 refine RL.finG ?_
 have h33 := Option.some.inj h33
 subst h33
 exact GL.ret (Gx.ret (v := .int .i64 (-1 : Int)) (res1 rfl rfl) (fun a w st => st.toPostC rfl))

set_option maxHeartbeats 4000000 in
theorem order_Far_c (S : Hp) (w : World) (hS : S.sub w) (v0 : Value) (x0 : (List Int)) (k0 : ((TR.sl TR.int)).vrep S v0 x0) (v1 : Value) (x1 : (List Int)) (k1 : ((TR.sl TR.int)).vrep S v1 x1) (res : Int × Int) (hm : order_Far_m x0 x1 = some res) : Calls Try.prog 30 #[v0, v1] w (PostV w (.tuple #[.int .i64 res.1, .int .i64 res.2])) := by
 refine calls_enter 55 Try.func30 Try.ntmps30 rfl S false [(0, v0), (1, v1)] [imm (TR.sl TR.int) v0 x0, imm (TR.sl TR.int) v1 x1] rfl ⟨rfl, ⟨rfl, trivial⟩⟩ hS ⟨k0, ⟨k1, trivial⟩⟩ ?_
 unfold order_Far_m at hm
 refine GL.seq ?_
 refine GL.region ?_
 refine RL.asg rfl rfl rfl ?_
 refine RL.asg rfl rfl rfl ?_
 refine RL.finG ?_
 refine GL.seq ?_
 refine GL.seq ?_
 refine GL.region ?_
 refine RL.mv rfl rfl rfl ?_
 refine RL.lenS 0 Try.underlying22 rfl rfl rfl rfl SlOf.imm ?_
 refine RL.mv rfl rfl rfl ?_
 obtain ⟨y5, e6, hm⟩ := bind_some hm
 refine RL.callV (v := .int .i64 y5) (vs := [.int .i64 ((x0).length : Int), v0]) Try_fit48 rfl (Or.inl rfl) rfl rfl rfl rfl (fun U w hU hW hL => order_Check_c U w hU ((x0).length : Int) _ _ (hL 0 _ _ rfl Seen.imm) _ e6) ?_
 refine RL.asg rfl rfl rfl ?_
 refine RL.finG ?_
 refine GL.seq ?_
 refine GL.region ?_
 refine RL.mv rfl rfl rfl ?_
 refine RL.binI (v := .bool (y5 != (0 : Int))) rfl rfl rfl rfl rfl ?_
 refine RL.finG ?_
 refine GL.cond rfl (fun b7 => ?_) (fun b7 => ?_)
 ·replace hm := ite_t b7 hm
  refine GL.seq ?_
  refine GL.region ?_
  refine RL.mv rfl rfl rfl ?_
  refine RL.asg rfl rfl rfl ?_
  refine RL.asg rfl rfl rfl ?_
  refine RL.finG ?_
  have hm := Option.some.inj hm
  subst hm
  exact GL.ret (Gx.ret (v := .tuple #[.int .i64 (0 : Int), .int .i64 y5]) (res2 rfl rfl rfl) (fun a w st => st.toPostV))
 replace hm := ite_f b7 hm
 refine GL.skip ?_
 refine GL.seq ?_
 refine GL.seq ?_
 refine GL.region ?_
 refine RL.mv rfl rfl rfl ?_
 refine RL.lenS 0 Try.underlying22 rfl rfl rfl rfl SlOf.imm ?_
 refine RL.mv rfl rfl rfl ?_
 obtain ⟨y10, e11, hm⟩ := bind_some hm
 refine RL.callV (v := .int .i64 y10) (vs := [.int .i64 ((x0).length : Int), v1]) Try_fit48 rfl (Or.inl rfl) rfl rfl rfl rfl (fun U w hU hW hL => order_Check_c U w hU ((x0).length : Int) _ _ (hL 1 _ _ rfl Seen.imm) _ e11) ?_
 refine RL.asg rfl rfl rfl ?_
 refine RL.finG ?_
 refine GL.seq ?_
 refine GL.region ?_
 refine RL.mv rfl rfl rfl ?_
 refine RL.binI (v := .bool (y10 != (0 : Int))) rfl rfl rfl rfl rfl ?_
 refine RL.finG ?_
 refine GL.cond rfl (fun b12 => ?_) (fun b12 => ?_)
 ·replace hm := ite_t b12 hm
  refine GL.seq ?_
  refine GL.region ?_
  refine RL.mv rfl rfl rfl ?_
  refine RL.asg rfl rfl rfl ?_
  refine RL.asg rfl rfl rfl ?_
  refine RL.finG ?_
  have hm := Option.some.inj hm
  subst hm
  exact GL.ret (Gx.ret (v := .tuple #[.int .i64 (0 : Int), .int .i64 y10]) (res2 rfl rfl rfl) (fun a w st => st.toPostV))
 replace hm := ite_f b12 hm
 refine GL.skip ?_
 refine GL.seq ?_
 refine GL.region ?_
 refine RL.asg rfl rfl rfl ?_
 refine RL.finG ?_
 refine GL.seq ?_
 refine GL.seq ?_
 refine GL.region ?_
 refine RL.mv rfl rfl rfl ?_
 refine RL.lenS 0 Try.underlying22 rfl rfl rfl rfl SlOf.imm ?_
 refine RL.mv rfl rfl rfl ?_
 refine RL.finG ?_
 refine GL.open_ 0 rfl (fun S h => len_imm S h) (fun n71 => ?_)
 obtain ⟨y72, K73, h74, h75, h76, h77, h78⟩ := bindR_K hm
 refine GL.join (ι := Int) (fun (p : Int) => [(8, .int .i64 p)]) (fun (p : Int) => []) (fun (p : Int) => K73 (.nx p)) ?_ ?_
 ·refine GL.block ?_
  refine GL.loop (ι := Nat × (List Int) × Int) (fun (p : Nat × (List Int) × Int) => [(0, v0), (1, v1), (8, .int .i64 p.2.2), (27, v0), (28, .int .i64 ((x0).length : Int)), (29, .int .i64 (p.1 : Int))]) (fun (p : Nat × (List Int) × Int) => [imm (TR.sl TR.int) v0 x0, imm (TR.sl TR.int) v1 x1]) (fun (p : Nat × (List Int) × Int) => p.1 + p.2.1.length = (x0).length ∧ List.drop p.1 x0 = p.2.1 ∧ rangeL (order_Far_b1 x0 x1) p.2.1 p.1 p.2.2 = some y72) (fun (p : Nat × (List Int) × Int) => p.2.1.length) (0, x0, (0 : Int)) ⟨by simp, by simp, h74⟩ (fun a w st => St.cut [0, 1] ⟨rfl, rfl, rfl, rfl, rfl, rfl, trivial⟩ (by decide) rfl st) ?_
  rintro ⟨i79, r80, x13⟩ ⟨h85, h86, h84⟩
  try dsimp only at h85 h86 h84
  refine GL.weak (env' := [(0, v0), (1, v1), (8, .int .i64 x13), (27, v0), (28, .int .i64 ((x0).length : Int)), (29, .int .i64 (i79 : Int))]) (L' := [imm (TR.sl TR.int) v0 x0, imm (TR.sl TR.int) v1 x1]) (fun _ _ st => st) ?_
  refine GL.seq ?_
  refine GL.region ?_
  refine RL.binI (v := .bool (decide ((i79 : Int) < ((x0).length : Int)))) rfl rfl rfl rfl rfl ?_
  refine RL.finG ?_
  refine GL.seq ?_
  refine GL.cond rfl (fun b87 => ?_) (fun b87 => ?_)
  ·have h88 : i79 < (x0).length := by have := of_decide_eq_true b87; omega
   obtain ⟨y89, r91, hr, e90, h92⟩ := drop_cons h86 rfl h88
   subst hr
   obtain ⟨z81, h82, h83⟩ := rangeL_some h84
   unfold order_Far_b1 at h82
   try dsimp only at h82
   refine GL.skip ?_
   refine GL.seq ?_
   refine GL.block ?_
   refine GL.seq ?_
   refine GL.region ?_
   refine RL.mv rfl rfl rfl ?_
   refine RL.idxS (sz := 1) 0 Try.underlying22 Try_ln3 rfl rfl rfl rfl rfl SlOf.imm (by omega) (by omega) ?_
   refine RL.ldSx (i := i79) (e' := y89) 0 Ex.ik Try_ln3 rfl rfl rfl rfl SlOf.imm e90 Part.self ?_
   refine RL.asg rfl rfl rfl ?_
   refine RL.asg rfl rfl rfl ?_
   refine RL.finG ?_
   refine GL.seq ?_
   refine GL.region ?_
   refine RL.mv rfl rfl rfl ?_
   refine RL.mv rfl rfl rfl ?_
   refine RL.binI (v := .int .i64 (wadd (i79 : Int) (1 : Int))) rfl rfl rfl rfl rfl ?_
   obtain ⟨y96, e97, h82⟩ := bind_some h82
   replace e97 := chk_some e97
   refine RL.slc (t := TR.int) (i := (wadd (i79 : Int) (1 : Int)).toNat) (j := (x0).length) (sz := 1) 0 Try.underlying22 Try_ln3 rfl rfl rfl rfl (Or.inr ⟨_, _, rfl, by rw [Int.toNat_of_nonneg (by omega)]; rfl⟩) (Or.inl ⟨rfl, rfl⟩) rfl (by omega) (by omega) ?_
   intro v98
   refine RL.lenS 2 Try.underlying22 rfl rfl rfl rfl SlOf.imm ?_
   refine RL.mv rfl rfl rfl ?_
   refine RL.finG ?_
   refine GL.open_ 2 rfl (fun S h => len_imm S h) (fun n113 => ?_)
   obtain ⟨y114, K115, h116, h117, h118, h119, h120⟩ := bindF_K h82
   refine GL.join (ι := Int) (fun (p : Int) => [(0, v0), (1, v1), (8, .int .i64 p), (27, v0), (28, .int .i64 ((x0).length : Int)), (29, .int .i64 (i79 : Int))]) (fun (p : Int) => [imm (TR.sl TR.int) v0 x0, imm (TR.sl TR.int) v1 x1]) (fun (p : Int) => K115 (.nx p)) ?_ ?_
   ·refine GL.block ?_
    refine GL.loop (ι := Nat × (List Int) × Int) (fun (p : Nat × (List Int) × Int) => [(0, v0), (1, v1), (8, .int .i64 p.2.2), (10, .int .i64 y89), (27, v0), (28, .int .i64 ((x0).length : Int)), (29, .int .i64 (i79 : Int)), (37, v98), (38, .int .i64 ((((List.take ((x0).length) x0).drop ((wadd (i79 : Int) (1 : Int)).toNat))).length : Int)), (39, .int .i64 (p.1 : Int))]) (fun (p : Nat × (List Int) × Int) => [imm (TR.sl TR.int) v0 x0, imm (TR.sl TR.int) v1 x1, imm (TR.sl TR.int) v98 ((List.take ((x0).length) x0).drop ((wadd (i79 : Int) (1 : Int)).toNat))]) (fun (p : Nat × (List Int) × Int) => p.1 + p.2.1.length = (((List.take ((x0).length) x0).drop ((wadd (i79 : Int) (1 : Int)).toNat))).length ∧ List.drop p.1 ((List.take ((x0).length) x0).drop ((wadd (i79 : Int) (1 : Int)).toNat)) = p.2.1 ∧ rangeL (order_Far_b2 x1 y89) p.2.1 p.1 p.2.2 = some y114) (fun (p : Nat × (List Int) × Int) => p.2.1.length) (0, ((List.take ((x0).length) x0).drop ((wadd (i79 : Int) (1 : Int)).toNat)), x13) ⟨by simp, by simp, h116⟩ (fun a w st => St.cut [0, 1, 2] ⟨rfl, rfl, rfl, rfl, rfl, rfl, rfl, rfl, rfl, rfl, trivial⟩ (by decide) rfl st) ?_
    rintro ⟨i121, r122, x99⟩ ⟨h127, h128, h126⟩
    try dsimp only at h127 h128 h126
    refine GL.weak (env' := [(0, v0), (1, v1), (8, .int .i64 x99), (10, .int .i64 y89), (27, v0), (28, .int .i64 ((x0).length : Int)), (29, .int .i64 (i79 : Int)), (37, v98), (38, .int .i64 ((((List.take ((x0).length) x0).drop ((wadd (i79 : Int) (1 : Int)).toNat))).length : Int)), (39, .int .i64 (i121 : Int))]) (L' := [imm (TR.sl TR.int) v0 x0, imm (TR.sl TR.int) v1 x1, imm (TR.sl TR.int) v98 ((List.take ((x0).length) x0).drop ((wadd (i79 : Int) (1 : Int)).toNat))]) (fun _ _ st => st) ?_
    refine GL.seq ?_
    refine GL.region ?_
    refine RL.binI (v := .bool (decide ((i121 : Int) < ((((List.take ((x0).length) x0).drop ((wadd (i79 : Int) (1 : Int)).toNat))).length : Int)))) rfl rfl rfl rfl rfl ?_
    refine RL.finG ?_
    refine GL.seq ?_
    refine GL.cond rfl (fun b129 => ?_) (fun b129 => ?_)
    ·have h130 : i121 < (((List.take ((x0).length) x0).drop ((wadd (i79 : Int) (1 : Int)).toNat))).length := by have := of_decide_eq_true b129; omega
     obtain ⟨y131, r133, hr, e132, h134⟩ := drop_cons h128 rfl h130
     subst hr
     obtain ⟨z123, h124, h125⟩ := rangeL_some h126
     unfold order_Far_b2 at h124
     try dsimp only at h124
     refine GL.skip ?_
     refine GL.seq ?_
     refine GL.block ?_
     refine GL.seq ?_
     refine GL.region ?_
     refine RL.idxS (sz := 1) 2 Try.underlying22 Try_ln3 rfl rfl rfl rfl rfl SlOf.imm (by omega) (by omega) ?_
     refine RL.ldSx (i := i121) (e' := y131) 2 Ex.ik Try_ln3 rfl rfl rfl rfl SlOf.imm e132 Part.self ?_
     refine RL.asg rfl rfl rfl ?_
     refine RL.finG ?_
     refine GL.seq ?_
     refine GL.region ?_
     refine RL.mv rfl rfl rfl ?_
     refine RL.mv rfl rfl rfl ?_
     obtain ⟨y139, e140, h124⟩ := bind_some h124
     refine RL.callC (v := .int .i64 y139) (vs := [v1, .int .i64 y89]) Try_fit50 rfl rfl rfl rfl (fun U w hU hW hL => slices_Index_int_int_c U w hU _ _ (hL 1 _ _ rfl Seen.imm) y89 _ e140) ?_
     refine RL.mv rfl rfl rfl ?_
     refine RL.mv rfl rfl rfl ?_
     obtain ⟨y141, e142, h124⟩ := bind_some h124
     refine RL.callC (v := .int .i64 y141) (vs := [v1, .int .i64 y131]) Try_fit50 rfl rfl rfl rfl (fun U w hU hW hL => slices_Index_int_int_c U w hU _ _ (hL 1 _ _ rfl Seen.imm) y131 _ e142) ?_
     refine RL.binI (v := .bool (decide (y139 > y141))) rfl rfl rfl rfl rfl ?_
     refine RL.finG ?_
     refine GL.cond rfl (fun b143 => ?_) (fun b143 => ?_)
     ·replace h124 := ite_t b143 h124
      refine GL.region ?_
      refine RL.mv rfl rfl rfl ?_
      refine RL.binI (v := .int .i64 (wadd x99 (1 : Int))) rfl rfl rfl rfl rfl ?_
      refine RL.asg rfl rfl rfl ?_
      refine RL.finG ?_
      refine GL.nilB ?_
      refine GL.region ?_
      refine RL.binI (v := .int .i64 ((i121 + 1 : Nat) : Int)) rfl rfl rfl rfl (binI_succ i121 (by omega)) ?_
      refine RL.mv rfl rfl rfl ?_
      refine RL.fin ?_
      cases h124
      exact fun a w st => lop_intro (i121 + 1, r133, wadd x99 (1 : Int)) ⟨by show i121 + 1 + r133.length = (((List.take ((x0).length) x0).drop ((wadd (i79 : Int) (1 : Int)).toNat))).length; simp only [List.length_cons] at h127; omega, h134, h125⟩ (by simp) (St.cut [0, 1, 2] ⟨rfl, rfl, rfl, rfl, rfl, rfl, rfl, rfl, rfl, rfl, trivial⟩ (by decide) rfl st)
     replace h124 := ite_f b143 h124
     refine GL.skip ?_
     refine GL.nilB ?_
     refine GL.region ?_
     refine RL.binI (v := .int .i64 ((i121 + 1 : Nat) : Int)) rfl rfl rfl rfl (binI_succ i121 (by omega)) ?_
     refine RL.mv rfl rfl rfl ?_
     refine RL.fin ?_
     cases h124
     exact fun a w st => lop_intro (i121 + 1, r133, x99) ⟨by show i121 + 1 + r133.length = (((List.take ((x0).length) x0).drop ((wadd (i79 : Int) (1 : Int)).toNat))).length; simp only [List.length_cons] at h127; omega, h134, h125⟩ (by simp) (St.cut [0, 1, 2] ⟨rfl, rfl, rfl, rfl, rfl, rfl, rfl, rfl, rfl, rfl, trivial⟩ (by decide) rfl st)
    have h130 : ¬ i121 < (((List.take ((x0).length) x0).drop ((wadd (i79 : Int) (1 : Int)).toNat))).length := by have := of_decide_eq_false b129; omega
    obtain rfl : r122 = [] := by rw [← h128]; exact List.drop_of_length_le (by omega)
    replace h126 : some (Fl.nx _) = some y114 := h126
    cases h126
    exact GL.exit (fun a w st => mid_intro x99 h117 (St.cut [0, 1] ⟨rfl, rfl, rfl, rfl, rfl, rfl, trivial⟩ (by decide) rfl st))
   rintro x99 h144
   have h145 := h118 _ h144
   try dsimp only at h145
   refine GL.weak (env' := [(0, v0), (1, v1), (8, .int .i64 x99), (27, v0), (28, .int .i64 ((x0).length : Int)), (29, .int .i64 (i79 : Int))]) (L' := [imm (TR.sl TR.int) v0 x0, imm (TR.sl TR.int) v1 x1]) (fun _ _ st => st) ?_
   refine GL.nilB ?_
   refine GL.region ?_
   refine RL.binI (v := .int .i64 ((i79 + 1 : Nat) : Int)) rfl rfl rfl rfl (binI_succ i79 (by omega)) ?_
   refine RL.mv rfl rfl rfl ?_
   refine RL.fin ?_
   cases h145
   exact fun a w st => lop_intro (i79 + 1, r91, x99) ⟨by show i79 + 1 + r91.length = (x0).length; simp only [List.length_cons] at h85; omega, h92, h83⟩ (by simp) (St.cut [0, 1] ⟨rfl, rfl, rfl, rfl, rfl, rfl, trivial⟩ (by decide) rfl st)
  have h88 : ¬ i79 < (x0).length := by have := of_decide_eq_false b87; omega
  obtain rfl : r80 = [] := by rw [← h86]; exact List.drop_of_length_le (by omega)
  replace h84 : some (Fl.nx _) = some y72 := h84
  cases h84
  exact GL.exit (fun a w st => mid_intro x13 h75 (St.cut [] ⟨rfl, trivial⟩ (by decide) rfl st))
 rintro x13 h146
 have h147 := h76 _ h146
 try dsimp only at h147
 refine GL.weak (env' := [(8, .int .i64 x13)]) (L' := []) (fun _ _ st => st) ?_
 refine GL.seq ?_
 refine GL.region ?_
 refine RL.mv rfl rfl rfl ?_
 refine RL.asg rfl rfl rfl ?_
 refine RL.asg rfl rfl rfl ?_
 refine RL.finG ?_
 have h147 := Option.some.inj h147
 subst h147
 exact GL.ret (Gx.ret (v := .tuple #[.int .i64 x13, .int .i64 (0 : Int)]) (res2 rfl rfl rfl) (fun a w st => st.toPostV))

set_option maxHeartbeats 4000000 in
theorem worth_Check_c (S : Hp) (w : World) (hS : S.sub w) (x0 : Int) (v1 : Value) (x1 : (List Int)) (k1 : ((TR.sl TR.int)).vrep S v1 x1) (res : Int) (hm : worth_Check_m x0 x1 = some res) : Calls Try.prog 61 #[.int .i64 x0, v1] w (PostC w (.int .i64 res)) := by
 refine calls_enter 35 Try.func61 Try.ntmps61 rfl S true [(0, .int .i64 x0), (1, v1)] [imm (TR.sl TR.int) v1 x1] rfl ⟨rfl, ⟨rfl, trivial⟩⟩ hS ⟨k1, trivial⟩ ?_
 unfold worth_Check_m at hm
 refine GL.seq ?_
 refine GL.region ?_
 refine RL.asg rfl rfl rfl ?_
 refine RL.finG ?_
 refine GL.seq ?_
 refine GL.seq ?_
 obtain ⟨y6, K7, h8, h9, h10, h11, h12⟩ := bindR_K hm
 refine GL.join (ι := Bool) (fun (p : Bool) => [(0, .int .i64 x0), (1, v1), (12, .bool p)]) (fun (p : Bool) => [imm (TR.sl TR.int) v1 x1]) (fun (p : Bool) => K7 (.nx p)) ?_ ?_
 ·skip
  refine GL.region ?_
  refine RL.mv rfl rfl rfl ?_
  refine RL.binI (v := .bool (decide (x0 < (1 : Int)))) rfl rfl rfl rfl rfl ?_
  refine RL.mv rfl rfl rfl ?_
  refine RL.split (t := 9) rfl (fun b13 => ?_) (fun b13 => ?_)
  ·replace h8 := ite_t b13 h8
   refine RL.skip rfl rfl ?_
   refine RL.skip rfl rfl ?_
   refine RL.pickT rfl rfl rfl rfl ?_
   refine RL.fin ?_
   cases h8
   exact fun a w st => mid_intro true h9 (St.cut [0] ⟨rfl, rfl, rfl, trivial⟩ (by decide) rfl st)
  replace h8 := ite_f b13 h8
  refine RL.mv rfl rfl rfl ?_
  refine RL.binI (v := .bool (decide (x0 > (6 : Int)))) rfl rfl rfl rfl rfl ?_
  refine RL.pickF rfl rfl rfl rfl ?_
  refine RL.fin ?_
  cases h8
  exact fun a w st => mid_intro (decide (x0 > (6 : Int))) h9 (St.cut [0] ⟨rfl, rfl, rfl, trivial⟩ (by decide) rfl st)
 rintro x5 h14
 have h15 := h10 _ h14
 try dsimp only at h15
 refine GL.weak (env' := [(0, .int .i64 x0), (1, v1), (12, .bool x5)]) (L' := [imm (TR.sl TR.int) v1 x1]) (fun _ _ st => st) ?_
 refine GL.cond rfl (fun b16 => ?_) (fun b16 => ?_)
 ·replace h15 := ite_t b16 h15
  refine GL.seq ?_
  refine GL.region ?_
  refine RL.asg rfl rfl rfl ?_
  refine RL.finG ?_
  have h15 := Option.some.inj h15
  subst h15
  exact GL.ret (Gx.ret (v := .int .i64 (1 : Int)) (res1 rfl rfl) (fun a w st => st.toPostC rfl))
 replace h15 := ite_f b16 h15
 refine GL.skip ?_
 refine GL.seq ?_
 refine GL.seq ?_
 refine GL.region ?_
 refine RL.mv rfl rfl rfl ?_
 refine RL.lenS 0 Try.underlying22 rfl rfl rfl rfl SlOf.imm ?_
 refine RL.mv rfl rfl rfl ?_
 obtain ⟨y19, e20, h15⟩ := bind_some h15
 replace e20 := chk_some e20
 refine RL.sh (by simp) rfl rfl rfl rfl e20 ?_
 refine RL.binI (v := .bool (((x1).length : Int) != (IntKind.wrap .i64 ((1 : Int) * 2 ^ (min x0.toNat (IntKind.bits .i64)))))) rfl rfl rfl rfl rfl ?_
 refine RL.finG ?_
 refine GL.cond rfl (fun b21 => ?_) (fun b21 => ?_)
 ·replace h15 := ite_t b21 h15
  refine GL.seq ?_
  refine GL.region ?_
  refine RL.asg rfl rfl rfl ?_
  refine RL.finG ?_
  have h15 := Option.some.inj h15
  subst h15
  exact GL.ret (Gx.ret (v := .int .i64 (3 : Int)) (res1 rfl rfl) (fun a w st => st.toPostC rfl))
 replace h15 := ite_f b21 h15
 refine GL.skip ?_
 refine GL.seq ?_
 refine GL.seq ?_
 refine GL.region ?_
 refine RL.mv rfl rfl rfl ?_
 refine RL.lenS 0 Try.underlying22 rfl rfl rfl rfl SlOf.imm ?_
 refine RL.mv rfl rfl rfl ?_
 refine RL.finG ?_
 refine GL.open_ 0 rfl (fun S h => len_imm S h) (fun n40 => ?_)
 obtain ⟨y41, K42, h43, h44, h45, h46, h47⟩ := bindR_K h15
 refine GL.join (ι := Unit) (fun (p : Unit) => [(1, v1)]) (fun (p : Unit) => [imm (TR.sl TR.int) v1 x1]) (fun (p : Unit) => K42 (.nx ())) ?_ ?_
 ·refine GL.block ?_
  refine GL.loop (ι := Nat × (List Int)) (fun (p : Nat × (List Int)) => [(1, v1), (18, v1), (19, .int .i64 ((x1).length : Int)), (20, .int .i64 (p.1 : Int))]) (fun (p : Nat × (List Int)) => [imm (TR.sl TR.int) v1 x1]) (fun (p : Nat × (List Int)) => p.1 + p.2.length = (x1).length ∧ List.drop p.1 x1 = p.2 ∧ rangeL worth_Check_b1 p.2 p.1 () = some y41) (fun (p : Nat × (List Int)) => p.2.length) (0, x1) ⟨by simp, by simp, h43⟩ (fun a w st => St.cut [0] ⟨rfl, rfl, rfl, rfl, trivial⟩ (by decide) rfl st) ?_
  rintro ⟨i48, r49⟩ ⟨h54, h55, h53⟩
  try dsimp only at h54 h55 h53
  refine GL.weak (env' := [(1, v1), (18, v1), (19, .int .i64 ((x1).length : Int)), (20, .int .i64 (i48 : Int))]) (L' := [imm (TR.sl TR.int) v1 x1]) (fun _ _ st => st) ?_
  refine GL.seq ?_
  refine GL.region ?_
  refine RL.binI (v := .bool (decide ((i48 : Int) < ((x1).length : Int)))) rfl rfl rfl rfl rfl ?_
  refine RL.finG ?_
  refine GL.seq ?_
  refine GL.cond rfl (fun b56 => ?_) (fun b56 => ?_)
  ·have h57 : i48 < (x1).length := by have := of_decide_eq_true b56; omega
   obtain ⟨y58, r60, hr, e59, h61⟩ := drop_cons h55 rfl h57
   subst hr
   obtain ⟨z50, h51, h52⟩ := rangeL_some h53
   unfold worth_Check_b1 at h51
   try dsimp only at h51
   refine GL.skip ?_
   refine GL.seq ?_
   refine GL.block ?_
   refine GL.seq ?_
   refine GL.region ?_
   refine RL.idxS (sz := 1) 0 Try.underlying22 Try_ln3 rfl rfl rfl rfl rfl SlOf.imm (by omega) (by omega) ?_
   refine RL.ldSx (i := i48) (e' := y58) 0 Ex.ik Try_ln3 rfl rfl rfl rfl SlOf.imm e59 Part.self ?_
   refine RL.asg rfl rfl rfl ?_
   refine RL.finG ?_
   refine GL.seq ?_
   obtain ⟨y65, K66, h67, h68, h69, h70, h71⟩ := bindF_K h51
   refine GL.join (ι := Bool) (fun (p : Bool) => [(1, v1), (18, v1), (19, .int .i64 ((x1).length : Int)), (20, .int .i64 (i48 : Int)), (29, .bool p)]) (fun (p : Bool) => [imm (TR.sl TR.int) v1 x1]) (fun (p : Bool) => K66 (.nx p)) ?_ ?_
   ·skip
    refine GL.region ?_
    refine RL.mv rfl rfl rfl ?_
    refine RL.binI (v := .bool (decide (y58 < (-1000000 : Int)))) rfl rfl rfl rfl rfl ?_
    refine RL.mv rfl rfl rfl ?_
    refine RL.split (t := 26) rfl (fun b72 => ?_) (fun b72 => ?_)
    ·replace h67 := ite_t b72 h67
     refine RL.skip rfl rfl ?_
     refine RL.skip rfl rfl ?_
     refine RL.pickT rfl rfl rfl rfl ?_
     refine RL.fin ?_
     cases h67
     exact fun a w st => mid_intro true h68 (St.cut [0] ⟨rfl, rfl, rfl, rfl, rfl, trivial⟩ (by decide) rfl st)
    replace h67 := ite_f b72 h67
    refine RL.mv rfl rfl rfl ?_
    refine RL.binI (v := .bool (decide (y58 > (1000000 : Int)))) rfl rfl rfl rfl rfl ?_
    refine RL.pickF rfl rfl rfl rfl ?_
    refine RL.fin ?_
    cases h67
    exact fun a w st => mid_intro (decide (y58 > (1000000 : Int))) h68 (St.cut [0] ⟨rfl, rfl, rfl, rfl, rfl, trivial⟩ (by decide) rfl st)
   rintro x64 h73
   have h74 := h69 _ h73
   try dsimp only at h74
   refine GL.weak (env' := [(1, v1), (18, v1), (19, .int .i64 ((x1).length : Int)), (20, .int .i64 (i48 : Int)), (29, .bool x64)]) (L' := [imm (TR.sl TR.int) v1 x1]) (fun _ _ st => st) ?_
   refine GL.cond rfl (fun b75 => ?_) (fun b75 => ?_)
   ·replace h74 := ite_t b75 h74
    refine GL.seq ?_
    refine GL.region ?_
    refine RL.asg rfl rfl rfl ?_
    refine RL.finG ?_
    cases h74
    replace h52 : some (Fl.rt _) = some y41 := h52
    cases h52
    have hh := h46 _ h44
    subst hh
    exact GL.ret (Gx.ret (v := .int .i64 (1 : Int)) (res1 rfl rfl) (fun a w st => st.toPostC rfl))
   replace h74 := ite_f b75 h74
   refine GL.skip ?_
   refine GL.nilB ?_
   refine GL.region ?_
   refine RL.binI (v := .int .i64 ((i48 + 1 : Nat) : Int)) rfl rfl rfl rfl (binI_succ i48 (by omega)) ?_
   refine RL.mv rfl rfl rfl ?_
   refine RL.fin ?_
   cases h74
   exact fun a w st => lop_intro (i48 + 1, r60) ⟨by show i48 + 1 + r60.length = (x1).length; simp only [List.length_cons] at h54; omega, h61, h52⟩ (by simp) (St.cut [0] ⟨rfl, rfl, rfl, rfl, trivial⟩ (by decide) rfl st)
  have h57 : ¬ i48 < (x1).length := by have := of_decide_eq_false b56; omega
  obtain rfl : r49 = [] := by rw [← h55]; exact List.drop_of_length_le (by omega)
  replace h53 : some (Fl.nx _) = some y41 := h53
  cases h53
  exact GL.exit (fun a w st => mid_intro () h44 (St.cut [0] ⟨rfl, trivial⟩ (by decide) rfl st))
 rintro ⟨⟩ h76
 have h77 := h45 _ h76
 try dsimp only at h77
 refine GL.weak (env' := [(1, v1)]) (L' := [imm (TR.sl TR.int) v1 x1]) (fun _ _ st => st) ?_
 refine GL.seq ?_
 refine GL.seq ?_
 refine GL.region ?_
 refine RL.mv rfl rfl rfl ?_
 obtain ⟨y80, e81, h77⟩ := bind_some h77
 refine RL.idxS (sz := 1) 0 Try.underlying22 Try_ln3 rfl rfl rfl rfl rfl SlOf.imm (idx_some e81).1 (idx_some e81).2.1 ?_
 refine RL.ldSx (i := ((0 : Int)).toNat) (e' := y80) 0 Ex.ik Try_ln3 rfl rfl rfl rfl SlOf.imm (idx_some e81).2.2 Part.self ?_
 refine RL.binI (v := .bool (y80 != (0 : Int))) rfl rfl rfl rfl rfl ?_
 refine RL.finG ?_
 refine GL.cond rfl (fun b82 => ?_) (fun b82 => ?_)
 ·replace h77 := ite_t b82 h77
  refine GL.seq ?_
  refine GL.region ?_
  refine RL.asg rfl rfl rfl ?_
  refine RL.finG ?_
  have h77 := Option.some.inj h77
  subst h77
  exact GL.ret (Gx.ret (v := .int .i64 (3 : Int)) (res1 rfl rfl) (fun a w st => st.toPostC rfl))
 replace h77 := ite_f b82 h77
 refine GL.skip ?_
 refine GL.seq ?_
 refine GL.region ?_
 refine RL.asg rfl rfl rfl ?_
 refine RL.finG ?_
 have h77 := Option.some.inj h77
 subst h77
 exact GL.ret (Gx.ret (v := .int .i64 (0 : Int)) (res1 rfl rfl) (fun a w st => st.toPostC rfl))

set_option maxHeartbeats 4000000 in
theorem worth_size_c (S : Hp) (w : World) (hS : S.sub w) (x0 : Int) (res : Int) (hm : worth_size_m x0 = some res) : Calls Try.prog 62 #[.int .i64 x0] w (PostC w (.int .i64 res)) := by
 refine calls_enter 13 Try.func62 Try.ntmps62 rfl S true [(0, .int .i64 x0)] [] rfl ⟨rfl, trivial⟩ hS trivial ?_
 unfold worth_size_m at hm
 refine GL.seq ?_
 refine GL.region ?_
 refine RL.asg rfl rfl rfl ?_
 refine RL.finG ?_
 refine GL.seq ?_
 refine GL.region ?_
 refine RL.asg rfl rfl rfl ?_
 refine RL.finG ?_
 refine GL.seq ?_
 obtain ⟨y13, K14, h15, h16, h17, h18, h19⟩ := bindR_K hm
 refine GL.join (ι := Int × Int) (fun (p : Int × Int) => [(3, .int .i64 p.2)]) (fun (p : Int × Int) => []) (fun (p : Int × Int) => K14 (.nx (p.1, p.2))) ?_ ?_
 ·refine GL.block ?_
  refine GL.loop (ι := Nat × Int × Int) (fun (p : Nat × Int × Int) => [(0, .int .i64 p.2.1), (3, .int .i64 p.2.2)]) (fun (p : Nat × Int × Int) => []) (fun (p : Nat × Int × Int) => loopM worth_size_b1 p.1 (p.2.1, p.2.2) = some y13) (fun (p : Nat × Int × Int) => p.1) (1048576, x0, (0 : Int)) h15 (fun a w st => St.cut [] ⟨rfl, rfl, trivial⟩ (by decide) rfl st) ?_
  rintro ⟨r21, x2, x3⟩ h25
  try dsimp only at h25
  refine GL.weak (env' := [(0, .int .i64 x2), (3, .int .i64 x3)]) (L' := []) (fun _ _ st => st) ?_
  obtain ⟨r28, z22, hr, h23, h24⟩ := loopM_some h25
  subst hr
  unfold worth_size_b1 at h23
  try dsimp only at h23
  refine GL.seq ?_
  refine GL.seq ?_
  refine GL.region ?_
  refine RL.mv rfl rfl rfl ?_
  refine RL.binI (v := .bool (decide (x2 > (0 : Int)))) rfl rfl rfl rfl rfl ?_
  refine RL.finG ?_
  refine GL.cond rfl (fun b29 => ?_) (fun b29 => ?_)
  ·replace h23 := ite_t b29 h23
   refine GL.skip ?_
   refine GL.seq ?_
   refine GL.block ?_
   refine GL.region ?_
   refine RL.mv rfl rfl rfl ?_
   refine RL.mv rfl rfl rfl ?_
   obtain ⟨y32, e33, h23⟩ := bind_some h23
   replace e33 := chk_some e33
   refine RL.rem rfl rfl rfl rfl e33 ?_
   refine RL.binI (v := .int .i64 (wadd x3 (Int.tmod x2 (2 : Int)))) rfl rfl rfl rfl rfl ?_
   refine RL.asg rfl rfl rfl ?_
   refine RL.finG ?_
   refine GL.nilB ?_
   refine GL.region ?_
   refine RL.mv rfl rfl rfl ?_
   obtain ⟨y36, e37, h23⟩ := bind_some h23
   replace e37 := chk_some e37
   refine RL.quo rfl rfl rfl rfl e37 ?_
   refine RL.asg rfl rfl rfl ?_
   refine RL.finG ?_
   cases h23
   exact fun a w st => lop_intro (r28, IntKind.wrap .i64 (Int.tdiv x2 (2 : Int)), wadd x3 (Int.tmod x2 (2 : Int))) (by exact h24) (by simp) (St.cut [] ⟨rfl, rfl, trivial⟩ (by decide) rfl st)
  replace h23 := ite_f b29 h23
  cases h23
  replace h24 : some (Fl.nx _) = some y13 := h24
  cases h24
  exact GL.exit (fun a w st => mid_intro (x2, x3) h16 (St.cut [] ⟨rfl, trivial⟩ (by decide) rfl st))
 rintro ⟨x2, x3⟩ h38
 have h39 := h17 _ h38
 try dsimp only at h39
 refine GL.weak (env' := [(3, .int .i64 x3)]) (L' := []) (fun _ _ st => st) ?_
 refine GL.seq ?_
 refine GL.region ?_
 refine RL.mv rfl rfl rfl ?_
 refine RL.asg rfl rfl rfl ?_
 refine RL.finG ?_
 have h39 := Option.some.inj h39
 subst h39
 exact GL.ret (Gx.ret (v := .int .i64 x3) (res1 rfl rfl) (fun a w st => st.toPostC rfl))

set_option maxHeartbeats 4000000 in
theorem worth_factorial_c (S : Hp) (w : World) (hS : S.sub w) (x0 : Int) (res : Int) (hm : worth_factorial_m x0 = some res) : Calls Try.prog 63 #[.int .i64 x0] w (PostC w (.int .i64 res)) := by
 refine calls_enter 14 Try.func63 Try.ntmps63 rfl S true [(0, .int .i64 x0)] [] rfl ⟨rfl, trivial⟩ hS trivial ?_
 unfold worth_factorial_m at hm
 refine GL.seq ?_
 refine GL.region ?_
 refine RL.asg rfl rfl rfl ?_
 refine RL.finG ?_
 refine GL.seq ?_
 refine GL.region ?_
 refine RL.asg rfl rfl rfl ?_
 refine RL.finG ?_
 refine GL.seq ?_
 refine GL.seq ?_
 refine GL.region ?_
 refine RL.asg rfl rfl rfl ?_
 refine RL.finG ?_
 obtain ⟨y5, K6, h7, h8, h9, h10, h11⟩ := bindR_K hm
 refine GL.join (ι := Int × Int) (fun (p : Int × Int) => [(3, .int .i64 p.1)]) (fun (p : Int × Int) => []) (fun (p : Int × Int) => K6 (.nx (p.1, p.2))) ?_ ?_
 ·refine GL.block ?_
  refine GL.loop (ι := Nat × Int × Int) (fun (p : Nat × Int × Int) => [(0, .int .i64 x0), (3, .int .i64 p.2.1), (4, .int .i64 p.2.2)]) (fun (p : Nat × Int × Int) => []) (fun (p : Nat × Int × Int) => loopM (worth_factorial_b1 x0) p.1 (p.2.1, p.2.2) = some y5) (fun (p : Nat × Int × Int) => p.1) (1048576, (1 : Int), (2 : Int)) h7 (fun a w st => St.cut [] ⟨rfl, rfl, rfl, trivial⟩ (by decide) rfl st) ?_
  rintro ⟨r13, x2, x3⟩ h17
  try dsimp only at h17
  refine GL.weak (env' := [(0, .int .i64 x0), (3, .int .i64 x2), (4, .int .i64 x3)]) (L' := []) (fun _ _ st => st) ?_
  obtain ⟨r20, z14, hr, h15, h16⟩ := loopM_some h17
  subst hr
  unfold worth_factorial_b1 at h15
  try dsimp only at h15
  refine GL.seq ?_
  refine GL.seq ?_
  refine GL.region ?_
  refine RL.mv rfl rfl rfl ?_
  refine RL.mv rfl rfl rfl ?_
  refine RL.binI (v := .bool (decide (x3 ≤ x0))) rfl rfl rfl rfl rfl ?_
  refine RL.finG ?_
  refine GL.cond rfl (fun b21 => ?_) (fun b21 => ?_)
  ·replace h15 := ite_t b21 h15
   refine GL.skip ?_
   refine GL.seq ?_
   refine GL.block ?_
   refine GL.region ?_
   refine RL.mv rfl rfl rfl ?_
   refine RL.mv rfl rfl rfl ?_
   refine RL.binI (v := .int .i64 (wmul x2 x3)) rfl rfl rfl rfl rfl ?_
   refine RL.asg rfl rfl rfl ?_
   refine RL.finG ?_
   refine GL.nilB ?_
   refine GL.region ?_
   refine RL.mv rfl rfl rfl ?_
   refine RL.binI (v := .int .i64 (wadd x3 (1 : Int))) rfl rfl rfl rfl rfl ?_
   refine RL.asg rfl rfl rfl ?_
   refine RL.finG ?_
   cases h15
   exact fun a w st => lop_intro (r20, wmul x2 x3, wadd x3 (1 : Int)) (by exact h16) (by simp) (St.cut [] ⟨rfl, rfl, rfl, trivial⟩ (by decide) rfl st)
  replace h15 := ite_f b21 h15
  cases h15
  replace h16 : some (Fl.nx _) = some y5 := h16
  cases h16
  exact GL.exit (fun a w st => mid_intro (x2, x3) h8 (St.cut [] ⟨rfl, trivial⟩ (by decide) rfl st))
 rintro ⟨x2, x3⟩ h22
 have h23 := h9 _ h22
 try dsimp only at h23
 refine GL.weak (env' := [(3, .int .i64 x2)]) (L' := []) (fun _ _ st => st) ?_
 refine GL.seq ?_
 refine GL.region ?_
 refine RL.mv rfl rfl rfl ?_
 refine RL.asg rfl rfl rfl ?_
 refine RL.finG ?_
 have h23 := Option.some.inj h23
 subst h23
 exact GL.ret (Gx.ret (v := .int .i64 x2) (res1 rfl rfl) (fun a w st => st.toPostC rfl))

set_option maxHeartbeats 4000000 in
theorem worth_Share_c (S : Hp) (w : World) (hS : S.sub w) (x0 : Int) (v1 : Value) (x1 : (List Int)) (k1 : ((TR.sl TR.int)).vrep S v1 x1) (res : (List Int) × Int) (hm : worth_Share_m x0 x1 = some res) : Calls Try.prog 31 #[.int .i64 x0, v1] w (Post w S (fun (o : Value) => .tuple #[o, .int .i64 res.2]) (fun (o : Value) => [own 3 TR.int o res.1])) := by
 refine calls_enter 65 Try.func31 Try.ntmps31 rfl S false [(0, .int .i64 x0), (1, v1)] [imm (TR.sl TR.int) v1 x1] rfl ⟨rfl, ⟨rfl, trivial⟩⟩ hS ⟨k1, trivial⟩ ?_
 unfold worth_Share_m at hm
 refine GL.seq ?_
 refine GL.region ?_
 refine RL.asg rfl rfl rfl ?_
 refine RL.asg rfl rfl rfl ?_
 refine RL.finG ?_
 refine GL.seq ?_
 refine GL.seq ?_
 refine GL.region ?_
 refine RL.mv rfl rfl rfl ?_
 refine RL.mv rfl rfl rfl ?_
 obtain ⟨y5, e6, hm⟩ := bind_some hm
 refine RL.callC (v := .int .i64 y5) (vs := [.int .i64 x0, v1]) Try_fit61 rfl rfl rfl rfl (fun U w hU hW hL => worth_Check_c U w hU x0 _ _ (hL 0 _ _ rfl Seen.imm) _ e6) ?_
 refine RL.asg rfl rfl rfl ?_
 refine RL.finG ?_
 refine GL.seq ?_
 refine GL.region ?_
 refine RL.mv rfl rfl rfl ?_
 refine RL.binI (v := .bool (y5 != (0 : Int))) rfl rfl rfl rfl rfl ?_
 refine RL.finG ?_
 refine GL.cond rfl (fun b7 => ?_) (fun b7 => ?_)
 ·replace hm := ite_t b7 hm
  refine GL.seq ?_
  refine GL.region ?_
  refine RL.mv rfl rfl rfl ?_
  refine RL.asg rfl rfl rfl ?_
  refine RL.asg rfl rfl rfl ?_
  refine RL.finG ?_
  refine GL.weak (fun a w st => st.nilOwn 3 TR.int) ?_
  have hm := Option.some.inj hm
  subst hm
  exact GL.ret (Gx.ret (v := .tuple #[Value.slice none 0 0, .int .i64 y5]) (res2 rfl rfl rfl) (fun a w st => (st.pick [1] (by decide) rfl).toPost (Value.slice none 0 0)))
 replace hm := ite_f b7 hm
 refine GL.skip ?_
 refine GL.seq ?_
 refine GL.region ?_
 refine RL.mv rfl rfl rfl ?_
 obtain ⟨y11, e12, hm⟩ := bind_some hm
 replace e12 := chk_some e12
 refine RL.mkS (t := TR.int) (z := (0 : Int)) Try.underlying22 Try_lo3 (fun S => rfl) rfl rfl rfl rfl e12.1 e12.2 ?_
 intro v13
 refine RL.asg rfl rfl rfl ?_
 refine RL.finG ?_
 refine GL.seq ?_
 refine GL.seq ?_
 refine GL.region ?_
 refine RL.mv rfl rfl rfl ?_
 refine RL.lenS 0 Try.underlying22 rfl rfl rfl rfl SlOf.imm ?_
 refine RL.mv rfl rfl rfl ?_
 refine RL.finG ?_
 refine GL.open_ 0 rfl (fun S h => len_imm S h) (fun n285 => ?_)
 obtain ⟨y286, K287, h288, h289, h290, h291, h292⟩ := bindR_K hm
 refine GL.join (ι := (List Int)) (fun (p : (List Int)) => [(7, v13)]) (fun (p : (List Int)) => [own 3 TR.int v13 p]) (fun (p : (List Int)) => K287 (.nx p)) ?_ ?_
 ·refine GL.block ?_
  refine GL.loop (ι := Nat × (List Int) × (List Int)) (fun (p : Nat × (List Int) × (List Int)) => [(0, .int .i64 x0), (1, v1), (7, v13), (20, .int .i64 ((x1).length : Int)), (21, .int .i64 (p.1 : Int))]) (fun (p : Nat × (List Int) × (List Int)) => [imm (TR.sl TR.int) v1 x1, own 3 TR.int v13 p.2.2]) (fun (p : Nat × (List Int) × (List Int)) => p.1 + p.2.1.length = (x1).length ∧ List.drop p.1 x1 = p.2.1 ∧ rangeL (worth_Share_b1 x0 x1) p.2.1 p.1 p.2.2 = some y286) (fun (p : Nat × (List Int) × (List Int)) => p.2.1.length) (0, x1, (List.replicate (x0).toNat (0 : Int))) ⟨by simp, by simp, h288⟩ (fun a w st => St.cut [0, 1] ⟨rfl, rfl, rfl, rfl, rfl, trivial⟩ (by decide) rfl st) ?_
  rintro ⟨i293, r294, l149⟩ ⟨h299, h300, h298⟩
  try dsimp only at h299 h300 h298
  refine GL.weak (env' := [(0, .int .i64 x0), (1, v1), (7, v13), (20, .int .i64 ((x1).length : Int)), (21, .int .i64 (i293 : Int))]) (L' := [imm (TR.sl TR.int) v1 x1, own 3 TR.int v13 l149]) (fun _ _ st => st) ?_
  refine GL.seq ?_
  refine GL.region ?_
  refine RL.binI (v := .bool (decide ((i293 : Int) < ((x1).length : Int)))) rfl rfl rfl rfl rfl ?_
  refine RL.finG ?_
  refine GL.seq ?_
  refine GL.cond rfl (fun b301 => ?_) (fun b301 => ?_)
  ·have h302 : i293 < (x1).length := by have := of_decide_eq_true b301; omega
   obtain ⟨y303, r305, hr, e304, h306⟩ := drop_cons h300 rfl h302
   subst hr
   obtain ⟨z295, h296, h297⟩ := rangeL_some h298
   unfold worth_Share_b1 at h296
   try dsimp only at h296
   refine GL.skip ?_
   refine GL.seq ?_
   refine GL.block ?_
   refine GL.seq ?_
   refine GL.region ?_
   refine RL.mv rfl rfl rfl ?_
   refine RL.asg rfl rfl rfl ?_
   refine RL.finG ?_
   refine GL.seq ?_
   refine GL.region ?_
   refine RL.mv rfl rfl rfl ?_
   refine RL.mv rfl rfl rfl ?_
   refine RL.finG ?_
   obtain ⟨y375, e376, h296⟩ := bind_some h296
   replace e376 := chk_some e376
   obtain ⟨y377, K378, h379, h380, h381, h382, h383⟩ := bindF_K h296
   refine GL.join (ι := (List Int)) (fun (p : (List Int)) => [(0, .int .i64 x0), (1, v1), (7, v13), (20, .int .i64 ((x1).length : Int)), (21, .int .i64 (i293 : Int))]) (fun (p : (List Int)) => [imm (TR.sl TR.int) v1 x1, own 3 TR.int v13 p]) (fun (p : (List Int)) => K378 (.nx p)) ?_ ?_
   ·refine GL.block ?_
    refine GL.loop (ι := Nat × Nat × (List Int)) (fun (p : Nat × Nat × (List Int)) => [(0, .int .i64 x0), (1, v1), (7, v13), (8, .int .i64 (i293 : Int)), (20, .int .i64 ((x1).length : Int)), (21, .int .i64 (i293 : Int)), (24, .int .i64 x0), (25, .int .i64 (p.1 : Int))]) (fun (p : Nat × Nat × (List Int)) => [imm (TR.sl TR.int) v1 x1, own 3 TR.int v13 p.2.2]) (fun (p : Nat × Nat × (List Int)) => p.1 + p.2.1 = (x0).toNat ∧ rangeN (worth_Share_b2 i293 x0 x1 y303) p.2.1 p.1 p.2.2 = some y377) (fun (p : Nat × Nat × (List Int)) => p.2.1) (0, (x0).toNat, l149) ⟨by simp, h379⟩ (fun a w st => St.cut [0, 1] ⟨rfl, rfl, rfl, rfl, rfl, rfl, rfl, rfl, trivial⟩ (by decide) rfl st) ?_
    rintro ⟨i384, r385, l340⟩ ⟨h390, h389⟩
    try dsimp only at h390 h389
    refine GL.weak (env' := [(0, .int .i64 x0), (1, v1), (7, v13), (8, .int .i64 (i293 : Int)), (20, .int .i64 ((x1).length : Int)), (21, .int .i64 (i293 : Int)), (24, .int .i64 x0), (25, .int .i64 (i384 : Int))]) (L' := [imm (TR.sl TR.int) v1 x1, own 3 TR.int v13 l340]) (fun _ _ st => st) ?_
    refine GL.seq ?_
    refine GL.region ?_
    refine RL.binI (v := .bool (decide ((i384 : Int) < x0))) rfl rfl rfl rfl rfl ?_
    refine RL.finG ?_
    refine GL.seq ?_
    refine GL.cond rfl (fun b392 => ?_) (fun b392 => ?_)
    ·have h393 : i384 < (x0).toNat := by have := of_decide_eq_true b392; omega
     obtain ⟨r394, hr⟩ : ∃ m, r385 = m + 1 := ⟨r385 - 1, by omega⟩
     subst hr
     obtain ⟨z386, h387, h388⟩ := rangeN_some h389
     unfold worth_Share_b2 at h387
     try dsimp only at h387
     refine GL.skip ?_
     refine GL.seq ?_
     refine GL.block ?_
     refine GL.seq ?_
     refine GL.region ?_
     refine RL.mv rfl rfl rfl ?_
     refine RL.asg rfl rfl rfl ?_
     refine RL.finG ?_
     refine GL.seq ?_
     refine GL.region ?_
     refine RL.mv rfl rfl rfl ?_
     refine RL.mv rfl rfl rfl ?_
     obtain ⟨y397, e398, h387⟩ := bind_some h387
     replace e398 := chk_some e398
     refine RL.sh (by simp) rfl rfl rfl rfl e398 ?_
     refine RL.binI (v := .int .i64 (bits .and .i64 (Int.fdiv (i293 : Int) (2 ^ (min (i384 : Int).toNat (IntKind.bits .i64)))) (1 : Int))) rfl rfl rfl rfl rfl ?_
     refine RL.binI (v := .bool ((bits .and .i64 (Int.fdiv (i293 : Int) (2 ^ (min (i384 : Int).toNat (IntKind.bits .i64)))) (1 : Int)) == (0 : Int))) rfl rfl rfl rfl rfl ?_
     refine RL.finG ?_
     refine GL.cond rfl (fun b399 => ?_) (fun b399 => ?_)
     ·replace h387 := ite_t b399 h387
      refine GL.seq ?_
      refine GL.region ?_
      refine RL.mv rfl rfl rfl ?_
      obtain ⟨y402, e403, h387⟩ := bind_some h387
      refine RL.callC (v := .int .i64 y402) (vs := [.int .i64 (i293 : Int)]) Try_fit62 rfl rfl rfl rfl (fun U w hU hW hL => worth_size_c U w hU (i293 : Int) _ e403) ?_
      refine RL.asg rfl rfl rfl ?_
      refine RL.finG ?_
      refine GL.regionH 27 rfl rfl (by kernel_rfl) ?_
      simp only [List.take_succ_cons, List.take_zero, List.drop_succ_cons, List.drop_zero]
      refine RL.mv rfl rfl rfl ?_
      refine RL.mv rfl rfl rfl ?_
      obtain ⟨y416, e417, h387⟩ := bind_some h387
      refine RL.idxS (sz := 1) 1 Try.underlying22 Try_ln3 rfl rfl rfl rfl rfl SlOf.own (idx_some e417).1 (idx_some e417).2.1 ?_
      refine RL.ldSx (i := i384) (e' := y416) 1 Ex.ik Try_ln3 rfl rfl rfl rfl SlOf.own (idx_some e417).2.2 Part.self ?_
      refine RL.mv rfl rfl rfl ?_
      obtain ⟨y418, e419, h387⟩ := bind_some h387
      refine RL.callC (v := .int .i64 y418) (vs := [.int .i64 y402]) Try_fit63 rfl rfl rfl rfl (fun U w hU hW hL => worth_factorial_c U w hU y402 _ e419) ?_
      refine RL.mv rfl rfl rfl ?_
      refine RL.binI (v := .int .i64 (wsub x0 (1 : Int))) rfl rfl rfl rfl rfl ?_
      refine RL.mv rfl rfl rfl ?_
      refine RL.binI (v := .int .i64 (wsub (wsub x0 (1 : Int)) y402)) rfl rfl rfl rfl rfl ?_
      obtain ⟨y420, e421, h387⟩ := bind_some h387
      refine RL.callC (v := .int .i64 y420) (vs := [.int .i64 (wsub (wsub x0 (1 : Int)) y402)]) Try_fit63 rfl rfl rfl rfl (fun U w hU hW hL => worth_factorial_c U w hU (wsub (wsub x0 (1 : Int)) y402) _ e421) ?_
      refine RL.binI (v := .int .i64 (wmul y418 y420)) rfl rfl rfl rfl rfl ?_
      refine RL.mv rfl rfl rfl ?_
      refine RL.mv rfl rfl rfl ?_
      refine RL.mv rfl rfl rfl ?_
      obtain ⟨y422, e423, h387⟩ := bind_some h387
      replace e423 := chk_some e423
      refine RL.sh (by simp) rfl rfl rfl rfl e423 ?_
      refine RL.binI (v := .int .i64 (bits .or .i64 (i293 : Int) (IntKind.wrap .i64 ((1 : Int) * 2 ^ (min (i384 : Int).toNat (IntKind.bits .i64)))))) rfl rfl rfl rfl rfl ?_
      obtain ⟨y424, e425, h387⟩ := bind_some h387
      refine RL.idxS (sz := 1) 0 Try.underlying22 Try_ln3 rfl rfl rfl rfl rfl SlOf.imm (idx_some e425).1 (idx_some e425).2.1 ?_
      refine RL.ldSx (i := (bits .or .i64 (i293 : Int) (IntKind.wrap .i64 ((1 : Int) * 2 ^ (min (i384 : Int).toNat (IntKind.bits .i64))))).toNat) (e' := y424) 0 Ex.ik Try_ln3 rfl rfl rfl rfl SlOf.imm (idx_some e425).2.2 Part.self ?_
      refine RL.mv rfl rfl rfl ?_
      refine RL.mv rfl rfl rfl ?_
      refine RL.idxS (sz := 1) 0 Try.underlying22 Try_ln3 rfl rfl rfl rfl rfl SlOf.imm (by omega) (by omega) ?_
      refine RL.ldSx (i := i293) (e' := y303) 0 Ex.ik Try_ln3 rfl rfl rfl rfl SlOf.imm e304 Part.self ?_
      refine RL.binI (v := .int .i64 (wsub y424 y303)) rfl rfl rfl rfl rfl ?_
      refine RL.binI (v := .int .i64 (wmul (wmul y418 y420) (wsub y424 y303))) rfl rfl rfl rfl rfl ?_
      refine RL.binI (v := .int .i64 (wadd y416 (wmul (wmul y418 y420) (wsub y424 y303)))) rfl rfl rfl rfl rfl ?_
      obtain ⟨y426, e427, h387⟩ := bind_some h387
      refine RL.idxS (sz := 1) 1 Try.underlying22 Try_ln3 rfl rfl rfl rfl rfl SlOf.own (idx_some e427).1 (idx_some e427).2.1 ?_
      refine RL.finH ?_
      refine RL.stS (i := i384) (e' := wadd y416 (wmul (wmul y418 y420) (wsub y424 y303))) (e1 := wadd y416 (wmul (wmul y418 y420) (wsub y424 y303))) (r := TR.int) 1 Try_ln3 rfl rfl rfl rfl VR.int rfl (idx_some e427).2.2 Upd.self ?_
      refine RL.finG ?_
      refine GL.weak (env' := [(0, .int .i64 x0), (1, v1), (7, v13), (8, .int .i64 (i293 : Int)), (20, .int .i64 ((x1).length : Int)), (21, .int .i64 (i293 : Int)), (24, .int .i64 x0), (25, .int .i64 (i384 : Int))]) (L' := [imm (TR.sl TR.int) v1 x1, own 3 TR.int v13 (List.set l340 i384 (wadd y416 (wmul (wmul y418 y420) (wsub y424 y303))))]) (fun a w st => St.cut [0, 1] ⟨rfl, rfl, rfl, rfl, rfl, rfl, rfl, rfl, trivial⟩ (by decide) rfl st) ?_
      refine GL.nilB ?_
      refine GL.region ?_
      refine RL.binI (v := .int .i64 ((i384 + 1 : Nat) : Int)) rfl rfl rfl rfl (binI_succ i384 (by omega)) ?_
      refine RL.mv rfl rfl rfl ?_
      refine RL.fin ?_
      cases h387
      exact fun a w st => lop_intro (i384 + 1, r394, (List.set l340 i384 (wadd y416 (wmul (wmul y418 y420) (wsub y424 y303))))) ⟨by show i384 + 1 + r394 = (x0).toNat; omega, h388⟩ (by simp) (St.cut [0, 1] ⟨rfl, rfl, rfl, rfl, rfl, rfl, rfl, rfl, trivial⟩ (by decide) rfl st)
     replace h387 := ite_f b399 h387
     refine GL.skip ?_
     refine GL.nilB ?_
     refine GL.region ?_
     refine RL.binI (v := .int .i64 ((i384 + 1 : Nat) : Int)) rfl rfl rfl rfl (binI_succ i384 (by omega)) ?_
     refine RL.mv rfl rfl rfl ?_
     refine RL.fin ?_
     cases h387
     exact fun a w st => lop_intro (i384 + 1, r394, l340) ⟨by show i384 + 1 + r394 = (x0).toNat; omega, h388⟩ (by simp) (St.cut [0, 1] ⟨rfl, rfl, rfl, rfl, rfl, rfl, rfl, rfl, trivial⟩ (by decide) rfl st)
    have h393 : ¬ i384 < (x0).toNat := by have := of_decide_eq_false b392; omega
    obtain rfl : r385 = 0 := by omega
    replace h389 : some (Fl.nx _) = some y377 := h389
    cases h389
    exact GL.exit (fun a w st => mid_intro l340 h380 (St.cut [0, 1] ⟨rfl, rfl, rfl, rfl, rfl, trivial⟩ (by decide) rfl st))
   rintro l340 h428
   have h429 := h381 _ h428
   try dsimp only at h429
   refine GL.weak (env' := [(0, .int .i64 x0), (1, v1), (7, v13), (20, .int .i64 ((x1).length : Int)), (21, .int .i64 (i293 : Int))]) (L' := [imm (TR.sl TR.int) v1 x1, own 3 TR.int v13 l340]) (fun _ _ st => st) ?_
   refine GL.nilB ?_
   refine GL.region ?_
   refine RL.binI (v := .int .i64 ((i293 + 1 : Nat) : Int)) rfl rfl rfl rfl (binI_succ i293 (by omega)) ?_
   refine RL.mv rfl rfl rfl ?_
   refine RL.fin ?_
   cases h429
   exact fun a w st => lop_intro (i293 + 1, r305, l340) ⟨by show i293 + 1 + r305.length = (x1).length; simp only [List.length_cons] at h299; omega, h306, h297⟩ (by simp) (St.cut [0, 1] ⟨rfl, rfl, rfl, rfl, rfl, trivial⟩ (by decide) rfl st)
  have h302 : ¬ i293 < (x1).length := by have := of_decide_eq_false b301; omega
  obtain rfl : r294 = [] := by rw [← h300]; exact List.drop_of_length_le (by omega)
  replace h298 : some (Fl.nx _) = some y286 := h298
  cases h298
  exact GL.exit (fun a w st => mid_intro l149 h289 (St.cut [1] ⟨rfl, trivial⟩ (by decide) rfl st))
 rintro l149 h430
 have h431 := h290 _ h430
 try dsimp only at h431
 refine GL.weak (env' := [(7, v13)]) (L' := [own 3 TR.int v13 l149]) (fun _ _ st => st) ?_
 refine GL.seq ?_
 refine GL.region ?_
 refine RL.mv rfl rfl rfl ?_
 refine RL.asg rfl rfl rfl ?_
 refine RL.asg rfl rfl rfl ?_
 refine RL.finG ?_
 have h431 := Option.some.inj h431
 subst h431
 exact GL.ret (Gx.ret (v := .tuple #[v13, .int .i64 (0 : Int)]) (res2 rfl rfl rfl) (fun a w st => (st.pick [0] (by decide) rfl).toPost v13))

set_option maxHeartbeats 4000000 in
theorem slices_Equal_int_int_c (S : Hp) (w : World) (hS : S.sub w) (v0 : Value) (x0 : (List Int)) (k0 : ((TR.sl TR.int)).vrep S v0 x0) (v1 : Value) (x1 : (List Int)) (k1 : ((TR.sl TR.int)).vrep S v1 x1) (res : Bool) (hm : slices_Equal_int_int_m x0 x1 = some res) : Calls Try.prog 27 #[v0, v1] w (PostV w (.bool res)) := by
 refine calls_enter 26 Try.func27 Try.ntmps27 rfl S false [(0, v0), (1, v1)] [imm (TR.sl TR.int) v0 x0, imm (TR.sl TR.int) v1 x1] rfl ⟨rfl, ⟨rfl, trivial⟩⟩ hS ⟨k0, ⟨k1, trivial⟩⟩ ?_
 unfold slices_Equal_int_int_m at hm
 refine GL.seq ?_
 refine GL.region ?_
 refine RL.asg rfl rfl rfl ?_
 refine RL.finG ?_
 refine GL.seq ?_
 refine GL.seq ?_
 refine GL.region ?_
 refine RL.mv rfl rfl rfl ?_
 refine RL.lenS 0 Try.underlying22 rfl rfl rfl rfl SlOf.imm ?_
 refine RL.mv rfl rfl rfl ?_
 refine RL.lenS 1 Try.underlying22 rfl rfl rfl rfl SlOf.imm ?_
 refine RL.binI (v := .bool (((x0).length : Int) != ((x1).length : Int))) rfl rfl rfl rfl rfl ?_
 refine RL.finG ?_
 refine GL.cond rfl (fun b3 => ?_) (fun b3 => ?_)
 ·replace hm := ite_t b3 hm
  refine GL.seq ?_
  refine GL.region ?_
  refine RL.asg rfl rfl rfl ?_
  refine RL.finG ?_
  have hm := Option.some.inj hm
  subst hm
  exact GL.ret (Gx.ret (v := .bool false) (res1 rfl rfl) (fun a w st => st.toPostV))
 replace hm := ite_f b3 hm
 refine GL.skip ?_
 refine GL.seq ?_
 refine GL.seq ?_
 refine GL.region ?_
 refine RL.mv rfl rfl rfl ?_
 refine RL.lenS 0 Try.underlying22 rfl rfl rfl rfl SlOf.imm ?_
 refine RL.mv rfl rfl rfl ?_
 refine RL.finG ?_
 refine GL.open_ 0 rfl (fun S h => len_imm S h) (fun n13 => ?_)
 obtain ⟨y14, K15, h16, h17, h18, h19, h20⟩ := bindR_K hm
 refine GL.join (ι := Unit) (fun (p : Unit) => []) (fun (p : Unit) => []) (fun (p : Unit) => K15 (.nx ())) ?_ ?_
 ·refine GL.block ?_
  refine GL.loop (ι := Nat × (List Int)) (fun (p : Nat × (List Int)) => [(0, v0), (1, v1), (12, .int .i64 ((x0).length : Int)), (13, .int .i64 (p.1 : Int))]) (fun (p : Nat × (List Int)) => [imm (TR.sl TR.int) v0 x0, imm (TR.sl TR.int) v1 x1]) (fun (p : Nat × (List Int)) => p.1 + p.2.length = (x0).length ∧ List.drop p.1 x0 = p.2 ∧ rangeL (slices_Equal_int_int_b1 x1) p.2 p.1 () = some y14) (fun (p : Nat × (List Int)) => p.2.length) (0, x0) ⟨by simp, by simp, h16⟩ (fun a w st => St.cut [0, 1] ⟨rfl, rfl, rfl, rfl, trivial⟩ (by decide) rfl st) ?_
  rintro ⟨i21, r22⟩ ⟨h27, h28, h26⟩
  try dsimp only at h27 h28 h26
  refine GL.weak (env' := [(0, v0), (1, v1), (12, .int .i64 ((x0).length : Int)), (13, .int .i64 (i21 : Int))]) (L' := [imm (TR.sl TR.int) v0 x0, imm (TR.sl TR.int) v1 x1]) (fun _ _ st => st) ?_
  refine GL.seq ?_
  refine GL.region ?_
  refine RL.binI (v := .bool (decide ((i21 : Int) < ((x0).length : Int)))) rfl rfl rfl rfl rfl ?_
  refine RL.finG ?_
  refine GL.seq ?_
  refine GL.cond rfl (fun b29 => ?_) (fun b29 => ?_)
  ·have h30 : i21 < (x0).length := by have := of_decide_eq_true b29; omega
   obtain ⟨y31, r33, hr, e32, h34⟩ := drop_cons h28 rfl h30
   subst hr
   obtain ⟨z23, h24, h25⟩ := rangeL_some h26
   unfold slices_Equal_int_int_b1 at h24
   try dsimp only at h24
   refine GL.skip ?_
   refine GL.seq ?_
   refine GL.block ?_
   refine GL.seq ?_
   refine GL.region ?_
   refine RL.mv rfl rfl rfl ?_
   refine RL.asg rfl rfl rfl ?_
   refine RL.finG ?_
   refine GL.seq ?_
   refine GL.regionQ rfl rfl (by kernel_rfl) ?_
   refine RL.mv rfl rfl rfl ?_
   refine RL.mv rfl rfl rfl ?_
   refine RL.idxS (sz := 1) 0 Try.underlying22 Try_ln3 rfl rfl rfl rfl rfl SlOf.imm (by omega) (by omega) ?_
   refine RL.ldSx (i := i21) (e' := y31) 0 Ex.ik Try_ln3 rfl rfl rfl rfl SlOf.imm e32 Part.self ?_
   refine RL.mv rfl rfl rfl ?_
   refine RL.mv rfl rfl rfl ?_
   obtain ⟨y37, e38, h24⟩ := bind_some h24
   refine RL.idxS (sz := 1) 1 Try.underlying22 Try_ln3 rfl rfl rfl rfl rfl SlOf.imm (idx_some e38).1 (idx_some e38).2.1 ?_
   refine RL.ldSx (i := i21) (e' := y37) 1 Ex.ik Try_ln3 rfl rfl rfl rfl SlOf.imm (idx_some e38).2.2 Part.self ?_
   refine RL.binI (v := .bool (y31 != y37)) rfl rfl rfl rfl rfl ?_
   refine RL.finQG ?_
   refine GL.cond rfl (fun b39 => ?_) (fun b39 => ?_)
   ·replace h24 := ite_t b39 h24
    refine GL.seq ?_
    refine GL.region ?_
    refine RL.asg rfl rfl rfl ?_
    refine RL.finG ?_
    cases h24
    replace h25 : some (Fl.rt _) = some y14 := h25
    cases h25
    have hh := h19 _ h17
    subst hh
    exact GL.ret (Gx.ret (v := .bool false) (res1 rfl rfl) (fun a w st => st.toPostV))
   replace h24 := ite_f b39 h24
   refine GL.skip ?_
   refine GL.nilB ?_
   refine GL.region ?_
   refine RL.binI (v := .int .i64 ((i21 + 1 : Nat) : Int)) rfl rfl rfl rfl (binI_succ i21 (by omega)) ?_
   refine RL.mv rfl rfl rfl ?_
   refine RL.fin ?_
   cases h24
   exact fun a w st => lop_intro (i21 + 1, r33) ⟨by show i21 + 1 + r33.length = (x0).length; simp only [List.length_cons] at h27; omega, h34, h25⟩ (by simp) (St.cut [0, 1] ⟨rfl, rfl, rfl, rfl, trivial⟩ (by decide) rfl st)
  have h30 : ¬ i21 < (x0).length := by have := of_decide_eq_false b29; omega
  obtain rfl : r22 = [] := by rw [← h28]; exact List.drop_of_length_le (by omega)
  replace h26 : some (Fl.nx _) = some y14 := h26
  cases h26
  exact GL.exit (fun a w st => mid_intro () h17 (St.cut [] trivial (by decide) rfl st))
 rintro ⟨⟩ h40
 have h41 := h18 _ h40
 try dsimp only at h41
 refine GL.weak (env' := []) (L' := []) (fun _ _ st => st) ?_
 refine GL.seq ?_
 refine GL.region ?_
 refine RL.asg rfl rfl rfl ?_
 refine RL.finG ?_
 have h41 := Option.some.inj h41
 subst h41
 exact GL.ret (Gx.ret (v := .bool true) (res1 rfl rfl) (fun a w st => st.toPostV))

set_option maxHeartbeats 4000000 in
theorem top_works_c (S : Hp) (w : World) (hS : S.sub w)  (res : Bool) (hm : top_works_m = some res) : Calls Try.prog 10 #[] w (PostV w (.bool res)) := by
 refine calls_enter 31 Try.func10 Try.ntmps10 rfl S false [] [] rfl trivial hS trivial ?_
 unfold top_works_m at hm
 refine GL.seq ?_
 refine GL.region ?_
 refine RL.asg rfl rfl rfl ?_
 refine RL.finG ?_
 refine GL.seq ?_
 refine GL.region ?_
 refine RL.bS (t := TR.int) (vs := [.int .i64 (0 : Int), .int .i64 (1 : Int), .int .i64 (2 : Int)]) ([(0 : Int), (1 : Int), (2 : Int)] : (List Int)) Try.underlying22 Try_lo3 rfl rfl rfl rfl ⟨VR.int, ⟨VR.int, ⟨VR.int, trivial⟩⟩⟩ rfl (by decide) ?_
 intro v5
 refine RL.bS (t := TR.int) (vs := [.int .i64 (2 : Int), .int .i64 (0 : Int), .int .i64 (1 : Int)]) ([(2 : Int), (0 : Int), (1 : Int)] : (List Int)) Try.underlying22 Try_lo3 rfl rfl rfl rfl ⟨VR.int, ⟨VR.int, ⟨VR.int, trivial⟩⟩⟩ rfl (by decide) ?_
 intro v6
 refine RL.reL (L' := [own 3 TR.int v5 ([(0 : Int), (1 : Int), (2 : Int)] : (List Int)), own 3 TR.int v6 ([(2 : Int), (0 : Int), (1 : Int)] : (List Int))]) rfl ?_
 obtain ⟨y7, e8, hm⟩ := bind_some hm
 refine RL.callV (v := .tuple #[.int .i64 y7.1, .int .i64 y7.2]) (vs := [v5, v6]) Try_fit30 rfl (Or.inl rfl) rfl rfl rfl rfl (fun U w hU hW hL => order_Far_c U w hU _ _ (hL 0 _ _ rfl Seen.own) _ _ (hL 1 _ _ rfl Seen.own) _ e8) ?_
 refine RL.mv rfl rfl rfl ?_
 refine RL.ext rfl rfl rfl rfl ?_
 refine RL.ext rfl rfl rfl rfl ?_
 refine RL.asg rfl rfl rfl ?_
 refine RL.asg rfl rfl rfl ?_
 refine RL.finG ?_
 refine GL.seq ?_
 refine GL.region ?_
 refine RL.bS (t := TR.int) (vs := [.int .i64 (0 : Int), .int .i64 (0 : Int), .int .i64 (2 : Int), .int .i64 (6 : Int)]) ([(0 : Int), (0 : Int), (2 : Int), (6 : Int)] : (List Int)) Try.underlying22 Try_lo3 rfl rfl rfl rfl ⟨VR.int, ⟨VR.int, ⟨VR.int, ⟨VR.int, trivial⟩⟩⟩⟩ rfl (by decide) ?_
 intro v13
 obtain ⟨y14, e15, hm⟩ := bind_some hm
 refine RL.callU (vs := [.int .i64 (2 : Int), v13]) (LR := fun (o : Value) => [own 3 TR.int o y14.1]) (fun o => ⟨Loc.own TR.flatT_ik, trivial⟩) Try_fit31 rfl rfl rfl rfl rfl (fun U w hU hW hL => worth_Share_c U w hU (2 : Int) _ _ (hL 2 _ _ rfl Seen.own) _ e15) ?_
 intro v16
 refine RL.mv rfl rfl rfl ?_
 refine RL.ext rfl rfl rfl rfl ?_
 refine RL.ext rfl rfl rfl rfl ?_
 refine RL.asg rfl rfl rfl ?_
 refine RL.asg rfl rfl rfl ?_
 refine RL.finG ?_
 refine GL.seq ?_
 obtain ⟨y30, K31, h32, h33, h34, h35, h36⟩ := bindR_K hm
 refine GL.join (ι := Bool) (fun (p : Bool) => [(0, .bool p)]) (fun (p : Bool) => []) (fun (p : Bool) => K31 (.nx p)) ?_ ?_
 ·skip
  refine GL.region ?_
  refine RL.mv rfl rfl rfl ?_
  refine RL.binI (v := .bool (y7.2 == (0 : Int))) rfl rfl rfl rfl rfl ?_
  refine RL.mv rfl rfl rfl ?_
  refine RL.split (t := 18) rfl (fun b37 => ?_) (fun b37 => ?_)
  ·replace h32 := ite_t b37 h32
   refine RL.mv rfl rfl rfl ?_
   refine RL.binI (v := .bool (y14.2 == (0 : Int))) rfl rfl rfl rfl rfl ?_
   refine RL.pickT rfl rfl rfl rfl ?_
   refine RL.mv rfl rfl rfl ?_
   refine RL.split (t := 22) rfl (fun b38 => ?_) (fun b38 => ?_)
   ·replace h32 := ite_t b38 h32
    refine RL.mv rfl rfl rfl ?_
    refine RL.binI (v := .bool (y7.1 == (2 : Int))) rfl rfl rfl rfl rfl ?_
    refine RL.pickT rfl rfl rfl rfl ?_
    refine RL.mv rfl rfl rfl ?_
    refine RL.split (t := 26) rfl (fun b39 => ?_) (fun b39 => ?_)
    ·replace h32 := ite_t b39 h32
     refine RL.mv rfl rfl rfl ?_
     refine RL.bS (t := TR.int) (vs := [.int .i64 (4 : Int), .int .i64 (8 : Int)]) ([(4 : Int), (8 : Int)] : (List Int)) Try.underlying22 Try_lo3 rfl rfl rfl rfl ⟨VR.int, ⟨VR.int, trivial⟩⟩ rfl (by decide) ?_
     intro v40
     refine RL.reL (L' := [own 3 TR.int v5 ([(0 : Int), (1 : Int), (2 : Int)] : (List Int)), own 3 TR.int v6 ([(2 : Int), (0 : Int), (1 : Int)] : (List Int)), own 3 TR.int v13 ([(0 : Int), (0 : Int), (2 : Int), (6 : Int)] : (List Int)), own 3 TR.int v16 y14.1, own 3 TR.int v40 ([(4 : Int), (8 : Int)] : (List Int))]) rfl ?_
     obtain ⟨y41, e42, h32⟩ := bind_some h32
     refine RL.callV (v := .bool y41) (vs := [v16, v40]) Try_fit27 rfl (Or.inl rfl) rfl rfl rfl rfl (fun U w hU hW hL => slices_Equal_int_int_c U w hU _ _ (hL 3 _ _ rfl Seen.own) _ _ (hL 4 _ _ rfl Seen.own) _ e42) ?_
     refine RL.pickT rfl rfl rfl rfl ?_
     refine RL.asg rfl rfl rfl ?_
     refine RL.fin ?_
     cases h32
     exact fun a w st => mid_intro y41 h33 (St.cut [] ⟨rfl, trivial⟩ (by decide) rfl st)
    replace h32 := ite_f b39 h32
    refine RL.skip rfl rfl ?_
    refine RL.skip rfl rfl ?_
    refine RL.skip rfl rfl ?_
    refine RL.pickF rfl rfl rfl rfl ?_
    refine RL.asg rfl rfl rfl ?_
    refine RL.fin ?_
    cases h32
    exact fun a w st => mid_intro false h33 (St.cut [] ⟨rfl, trivial⟩ (by decide) rfl st)
   replace h32 := ite_f b38 h32
   refine RL.skip rfl rfl ?_
   refine RL.skip rfl rfl ?_
   refine RL.pickF rfl rfl rfl rfl ?_
   refine RL.mv rfl rfl rfl ?_
   refine RL.skip rfl rfl ?_
   refine RL.skip rfl rfl ?_
   refine RL.skip rfl rfl ?_
   refine RL.pickF rfl rfl rfl rfl ?_
   refine RL.asg rfl rfl rfl ?_
   refine RL.fin ?_
   cases h32
   exact fun a w st => mid_intro false h33 (St.cut [] ⟨rfl, trivial⟩ (by decide) rfl st)
  replace h32 := ite_f b37 h32
  refine RL.skip rfl rfl ?_
  refine RL.skip rfl rfl ?_
  refine RL.pickF rfl rfl rfl rfl ?_
  refine RL.mv rfl rfl rfl ?_
  refine RL.skip rfl rfl ?_
  refine RL.skip rfl rfl ?_
  refine RL.pickF rfl rfl rfl rfl ?_
  refine RL.mv rfl rfl rfl ?_
  refine RL.skip rfl rfl ?_
  refine RL.skip rfl rfl ?_
  refine RL.skip rfl rfl ?_
  refine RL.pickF rfl rfl rfl rfl ?_
  refine RL.asg rfl rfl rfl ?_
  refine RL.fin ?_
  cases h32
  exact fun a w st => mid_intro false h33 (St.cut [] ⟨rfl, trivial⟩ (by decide) rfl st)
 rintro x29 h43
 have h44 := h34 _ h43
 try dsimp only at h44
 refine GL.weak (env' := [(0, .bool x29)]) (L' := []) (fun _ _ st => st) ?_
 have h44 := Option.some.inj h44
 subst h44
 exact GL.ret (Gx.ret (v := .bool x29) (res1 rfl rfl) (fun a w st => st.toPostV))

set_option maxHeartbeats 4000000 in
theorem ref_Rest_c (S : Hp) (w : World) (hS : S.sub w) (x0 : Int) (x1 : Int) (res : Int) (hm : ref_Rest_m x0 x1 = some res) : Calls Try.prog 28 #[.int .i64 x0, .int .i64 x1] w (PostC w (.int .i64 res)) := by
 refine calls_enter 14 Try.func28 Try.ntmps28 rfl S true [(0, .int .i64 x0), (1, .int .i64 x1)] [] rfl ⟨rfl, ⟨rfl, trivial⟩⟩ hS trivial ?_
 unfold ref_Rest_m at hm
 refine GL.seq ?_
 refine GL.region ?_
 refine RL.asg rfl rfl rfl ?_
 refine RL.finG ?_
 refine GL.seq ?_
 refine GL.region ?_
 refine RL.mv rfl rfl rfl ?_
 refine RL.mv rfl rfl rfl ?_
 obtain ⟨y5, e6, hm⟩ := bind_some hm
 replace e6 := chk_some e6
 refine RL.rem rfl rfl rfl rfl e6 ?_
 refine RL.asg rfl rfl rfl ?_
 refine RL.finG ?_
 refine GL.seq ?_
 refine GL.seq ?_
 refine GL.region ?_
 refine RL.mv rfl rfl rfl ?_
 refine RL.binI (v := .bool (decide ((Int.tmod x0 x1) < (0 : Int)))) rfl rfl rfl rfl rfl ?_
 refine RL.finG ?_
 obtain ⟨y9, K10, h11, h12, h13, h14, h15⟩ := bindR_K hm
 refine GL.join (ι := Int) (fun (p : Int) => [(0, .int .i64 p)]) (fun (p : Int) => []) (fun (p : Int) => K10 (.nx p)) ?_ ?_
 ·skip
  refine GL.cond rfl (fun b16 => ?_) (fun b16 => ?_)
  ·replace h11 := ite_t b16 h11
   refine GL.region ?_
   refine RL.mv rfl rfl rfl ?_
   refine RL.mv rfl rfl rfl ?_
   refine RL.binI (v := .int .i64 (wadd (Int.tmod x0 x1) x1)) rfl rfl rfl rfl rfl ?_
   refine RL.asg rfl rfl rfl ?_
   refine RL.finG ?_
   cases h11
   exact fun a w st => mid_intro (wadd (Int.tmod x0 x1) x1) h12 (St.cut [] ⟨rfl, trivial⟩ (by decide) rfl st)
  replace h11 := ite_f b16 h11
  refine GL.skip ?_
  cases h11
  exact fun a w st => mid_intro (Int.tmod x0 x1) h12 (St.cut [] ⟨rfl, trivial⟩ (by decide) rfl st)
 rintro x8 h17
 have h18 := h13 _ h17
 try dsimp only at h18
 refine GL.weak (env' := [(0, .int .i64 x8)]) (L' := []) (fun _ _ st => st) ?_
 refine GL.seq ?_
 refine GL.region ?_
 refine RL.mv rfl rfl rfl ?_
 refine RL.asg rfl rfl rfl ?_
 refine RL.finG ?_
 have h18 := Option.some.inj h18
 subst h18
 exact GL.ret (Gx.ret (v := .int .i64 x8) (res1 rfl rfl) (fun a w st => st.toPostC rfl))

set_option maxHeartbeats 4000000 in
theorem pk_Within_c (S : Hp) (w : World) (hS : S.sub w) (x0 : Int) (x1 : Int) (res : Int) (hm : pk_Within_m x0 x1 = some res) : Calls Try.prog 7 #[.int .i64 x0, .int .i64 x1] w (PostC w (.int .i64 res)) := by
 refine calls_enter 8 Try.func7 Try.ntmps7 rfl S true [(0, .int .i64 x0), (1, .int .i64 x1)] [] rfl ⟨rfl, ⟨rfl, trivial⟩⟩ hS trivial ?_
 unfold pk_Within_m at hm
 refine GL.seq ?_
 refine GL.region ?_
 refine RL.asg rfl rfl rfl ?_
 refine RL.finG ?_
 refine GL.seq ?_
 refine GL.region ?_
 refine RL.mv rfl rfl rfl ?_
 refine RL.mv rfl rfl rfl ?_
 obtain ⟨y5, e6, hm⟩ := bind_some hm
 refine RL.callC (v := .int .i64 y5) (vs := [.int .i64 x0, .int .i64 x1]) Try_fit28 rfl rfl rfl rfl (fun U w hU hW hL => ref_Rest_c U w hU x0 x1 _ e6) ?_
 refine RL.asg rfl rfl rfl ?_
 refine RL.finG ?_
 have hm := Option.some.inj hm
 subst hm
 exact GL.ret (Gx.ret (v := .int .i64 y5) (res1 rfl rfl) (fun a w st => st.toPostC rfl))

set_option maxHeartbeats 4000000 in
theorem roads_Check_c (S : Hp) (w : World) (hS : S.sub w) (v0 : Value) (x0 : (List (List Int))) (k0 : ((TR.sl (TR.rec1 (TR.sl TR.int)))).vrep S v0 x0) (v1 : Value) (x1 : (List Int)) (k1 : ((TR.sl TR.int)).vrep S v1 x1) (res : Int) (hm : roads_Check_m x0 x1 = some res) : Calls Try.prog 34 #[v0, v1] w (PostV w (.int .i64 res)) := by
 refine calls_enter 79 Try.func34 Try.ntmps34 rfl S false [(0, v0), (1, v1)] [imm (TR.sl (TR.rec1 (TR.sl TR.int))) v0 x0, imm (TR.sl TR.int) v1 x1] rfl ⟨rfl, ⟨rfl, trivial⟩⟩ hS ⟨k0, ⟨k1, trivial⟩⟩ ?_
 unfold roads_Check_m at hm
 refine GL.seq ?_
 refine GL.region ?_
 refine RL.asg rfl rfl rfl ?_
 refine RL.finG ?_
 refine GL.seq ?_
 refine GL.seq ?_
 obtain ⟨y8, K9, h10, h11, h12, h13, h14⟩ := bindR_K hm
 refine GL.join (ι := Bool) (fun (p : Bool) => [(0, v0), (1, v1), (23, .bool p)]) (fun (p : Bool) => [imm (TR.sl (TR.rec1 (TR.sl TR.int))) v0 x0, imm (TR.sl TR.int) v1 x1]) (fun (p : Bool) => K9 (.nx p)) ?_ ?_
 ·skip
  refine GL.region ?_
  refine RL.mv rfl rfl rfl ?_
  refine RL.lenS 0 Try.underlying36 rfl rfl rfl rfl SlOf.imm ?_
  refine RL.binI (v := .bool (decide (((x0).length : Int) < (1 : Int)))) rfl rfl rfl rfl rfl ?_
  refine RL.mv rfl rfl rfl ?_
  refine RL.split (t := 14) rfl (fun b15 => ?_) (fun b15 => ?_)
  ·replace h10 := ite_t b15 h10
   refine RL.skip rfl rfl ?_
   refine RL.skip rfl rfl ?_
   refine RL.skip rfl rfl ?_
   refine RL.pickT rfl rfl rfl rfl ?_
   refine RL.mv rfl rfl rfl ?_
   refine RL.skip rfl rfl ?_
   refine RL.skip rfl rfl ?_
   refine RL.skip rfl rfl ?_
   refine RL.pickT rfl rfl rfl rfl ?_
   refine RL.fin ?_
   cases h10
   exact fun a w st => mid_intro true h11 (St.cut [0, 1] ⟨rfl, rfl, rfl, trivial⟩ (by decide) rfl st)
  replace h10 := ite_f b15 h10
  refine RL.mv rfl rfl rfl ?_
  refine RL.lenS 0 Try.underlying36 rfl rfl rfl rfl SlOf.imm ?_
  refine RL.binI (v := .bool (decide (((x0).length : Int) > (4 : Int)))) rfl rfl rfl rfl rfl ?_
  refine RL.pickF rfl rfl rfl rfl ?_
  refine RL.mv rfl rfl rfl ?_
  refine RL.split (t := 19) rfl (fun b16 => ?_) (fun b16 => ?_)
  ·replace h10 := ite_t b16 h10
   refine RL.skip rfl rfl ?_
   refine RL.skip rfl rfl ?_
   refine RL.skip rfl rfl ?_
   refine RL.pickT rfl rfl rfl rfl ?_
   refine RL.fin ?_
   cases h10
   exact fun a w st => mid_intro true h11 (St.cut [0, 1] ⟨rfl, rfl, rfl, trivial⟩ (by decide) rfl st)
  replace h10 := ite_f b16 h10
  refine RL.mv rfl rfl rfl ?_
  refine RL.lenS 1 Try.underlying22 rfl rfl rfl rfl SlOf.imm ?_
  refine RL.binI (v := .bool (decide (((x1).length : Int) > (6 : Int)))) rfl rfl rfl rfl rfl ?_
  refine RL.pickF rfl rfl rfl rfl ?_
  refine RL.fin ?_
  cases h10
  exact fun a w st => mid_intro (decide (((x1).length : Int) > (6 : Int))) h11 (St.cut [0, 1] ⟨rfl, rfl, rfl, trivial⟩ (by decide) rfl st)
 rintro x7 h17
 have h18 := h12 _ h17
 try dsimp only at h18
 refine GL.weak (env' := [(0, v0), (1, v1), (23, .bool x7)]) (L' := [imm (TR.sl (TR.rec1 (TR.sl TR.int))) v0 x0, imm (TR.sl TR.int) v1 x1]) (fun _ _ st => st) ?_
 refine GL.cond rfl (fun b19 => ?_) (fun b19 => ?_)
 ·replace h18 := ite_t b19 h18
  refine GL.seq ?_
  refine GL.region ?_
  refine RL.asg rfl rfl rfl ?_
  refine RL.finG ?_
  have h18 := Option.some.inj h18
  subst h18
  exact GL.ret (Gx.ret (v := .int .i64 (2 : Int)) (res1 rfl rfl) (fun a w st => st.toPostV))
 replace h18 := ite_f b19 h18
 refine GL.skip ?_
 refine GL.seq ?_
 refine GL.seq ?_
 refine GL.region ?_
 refine RL.mv rfl rfl rfl ?_
 refine RL.lenS 0 Try.underlying36 rfl rfl rfl rfl SlOf.imm ?_
 refine RL.mv rfl rfl rfl ?_
 refine RL.finG ?_
 refine GL.open_ 0 rfl (fun S h => len_imm S h) (fun n135 => ?_)
 obtain ⟨y136, K137, h138, h139, h140, h141, h142⟩ := bindR_K h18
 refine GL.join (ι := Unit) (fun (p : Unit) => [(0, v0), (1, v1)]) (fun (p : Unit) => [imm (TR.sl (TR.rec1 (TR.sl TR.int))) v0 x0, imm (TR.sl TR.int) v1 x1]) (fun (p : Unit) => K137 (.nx ())) ?_ ?_
 ·refine GL.block ?_
  refine GL.loop (ι := Nat × (List (List Int))) (fun (p : Nat × (List (List Int))) => [(0, v0), (1, v1), (24, v0), (25, .int .i64 ((x0).length : Int)), (26, .int .i64 (p.1 : Int))]) (fun (p : Nat × (List (List Int))) => [imm (TR.sl (TR.rec1 (TR.sl TR.int))) v0 x0, imm (TR.sl TR.int) v1 x1]) (fun (p : Nat × (List (List Int))) => p.1 + p.2.length = (x0).length ∧ List.drop p.1 x0 = p.2 ∧ rangeL (roads_Check_b1 x1) p.2 p.1 () = some y136) (fun (p : Nat × (List (List Int))) => p.2.length) (0, x0) ⟨by simp, by simp, h138⟩ (fun a w st => St.cut [0, 1] ⟨rfl, rfl, rfl, rfl, rfl, trivial⟩ (by decide) rfl st) ?_
  rintro ⟨i143, r144⟩ ⟨h149, h150, h148⟩
  try dsimp only at h149 h150 h148
  refine GL.weak (env' := [(0, v0), (1, v1), (24, v0), (25, .int .i64 ((x0).length : Int)), (26, .int .i64 (i143 : Int))]) (L' := [imm (TR.sl (TR.rec1 (TR.sl TR.int))) v0 x0, imm (TR.sl TR.int) v1 x1]) (fun _ _ st => st) ?_
  refine GL.seq ?_
  refine GL.region ?_
  refine RL.binI (v := .bool (decide ((i143 : Int) < ((x0).length : Int)))) rfl rfl rfl rfl rfl ?_
  refine RL.finG ?_
  refine GL.seq ?_
  refine GL.cond rfl (fun b151 => ?_) (fun b151 => ?_)
  ·have h152 : i143 < (x0).length := by have := of_decide_eq_true b151; omega
   obtain ⟨y153, r155, hr, e154, h156⟩ := drop_cons h150 rfl h152
   subst hr
   obtain ⟨z145, h146, h147⟩ := rangeL_some h148
   unfold roads_Check_b1 at h146
   try dsimp only at h146
   refine GL.skip ?_
   refine GL.seq ?_
   refine GL.block ?_
   refine GL.seq ?_
   refine GL.region ?_
   refine RL.idxS (sz := 1) 0 Try.underlying36 Try_ln74 rfl rfl rfl rfl rfl SlOf.imm (by omega) (by omega) ?_
   refine RL.ldS (i := i143) (r := (TR.rec1 (TR.sl TR.int))) (e' := y153) 0 Try_ln74 rfl rfl rfl rfl SlOf.imm e154 Part.self ?_
   intro v159
   refine RL.alloc (t := (TR.rec1 (TR.sl TR.int))) (z := ([] : (List Int))) Try_lo74 (fun S => ⟨_, [], rfl, ⟨none, 0, rfl, Nat.le_refl _, Nat.zero_le _, Or.inl ⟨rfl, rfl⟩⟩, rfl⟩) rfl rfl rfl ?_
   intro v160
   refine RL.reL (L' := [imm (TR.sl (TR.rec1 (TR.sl TR.int))) v0 x0, imm (TR.sl TR.int) v1 x1, imm (TR.rec1 (TR.sl TR.int)) v159 y153, obox 74 (TR.rec1 (TR.sl TR.int)) v160 ([] : (List Int))]) rfl ?_
   refine RL.stP (off := 0) (e' := y153) (d1 := y153) (r := (TR.rec1 (TR.sl TR.int))) 3 Try_ln74 rfl rfl (Or.inr ⟨rfl, rfl⟩) rfl (VR.item 2 rfl) rfl Upd.self ?_
   refine RL.finG ?_
   refine GL.seq ?_
   refine GL.seq ?_
   refine GL.region ?_
   refine RL.fadr (off := 0) (fo := 0) 3 Try_fld74_0 rfl rfl rfl PtOf.obox (Or.inr ⟨rfl, rfl⟩) ?_
   refine RL.ldP (off := (0 + 0)) (r := (TR.sl TR.int)) (e' := y153) 3 Try_ln22 rfl rfl (Or.inl rfl) rfl PtOf.obox (Part.rec1 Part.self) ?_
   intro v162
   refine RL.reL (L' := [imm (TR.sl (TR.rec1 (TR.sl TR.int))) v0 x0, imm (TR.sl TR.int) v1 x1, imm (TR.rec1 (TR.sl TR.int)) v159 y153, obox 74 (TR.rec1 (TR.sl TR.int)) v160 y153, imm (TR.sl TR.int) v162 y153]) rfl ?_
   refine RL.lenS 4 Try.underlying22 rfl rfl rfl rfl SlOf.imm ?_
   refine RL.mv rfl rfl rfl ?_
   refine RL.lenS 1 Try.underlying22 rfl rfl rfl rfl SlOf.imm ?_
   refine RL.binI (v := .bool (((y153).length : Int) != ((x1).length : Int))) rfl rfl rfl rfl rfl ?_
   refine RL.finG ?_
   refine GL.cond rfl (fun b163 => ?_) (fun b163 => ?_)
   ·replace h146 := ite_t b163 h146
    refine GL.seq ?_
    refine GL.region ?_
    refine RL.asg rfl rfl rfl ?_
    refine RL.finG ?_
    cases h146
    replace h147 : some (Fl.rt _) = some y136 := h147
    cases h147
    have hh := h141 _ h139
    subst hh
    exact GL.ret (Gx.ret (v := .int .i64 (3 : Int)) (res1 rfl rfl) (fun a w st => st.toPostV))
   replace h146 := ite_f b163 h146
   refine GL.skip ?_
   refine GL.seq ?_
   refine GL.region ?_
   refine RL.fadr (off := 0) (fo := 0) 3 Try_fld74_0 rfl rfl rfl PtOf.obox (Or.inr ⟨rfl, rfl⟩) ?_
   refine RL.ldP (off := (0 + 0)) (r := (TR.sl TR.int)) (e' := y153) 3 Try_ln22 rfl rfl (Or.inl rfl) rfl PtOf.obox (Part.rec1 Part.self) ?_
   intro v165
   refine RL.lenS 5 Try.underlying22 rfl rfl rfl rfl SlOf.imm ?_
   refine RL.mv rfl rfl rfl ?_
   refine RL.finG ?_
   refine GL.open_ 5 rfl (fun S h => len_imm S h) (fun n207 => ?_)
   obtain ⟨y208, K209, h210, h211, h212, h213, h214⟩ := bindF_K h146
   refine GL.join (ι := Unit) (fun (p : Unit) => [(0, v0), (1, v1), (24, v0), (25, .int .i64 ((x0).length : Int)), (26, .int .i64 (i143 : Int))]) (fun (p : Unit) => [imm (TR.sl (TR.rec1 (TR.sl TR.int))) v0 x0, imm (TR.sl TR.int) v1 x1]) (fun (p : Unit) => K209 (.nx ())) ?_ ?_
   ·refine GL.block ?_
    refine GL.loop (ι := Nat × (List Int)) (fun (p : Nat × (List Int)) => [(0, v0), (1, v1), (6, v160), (24, v0), (25, .int .i64 ((x0).length : Int)), (26, .int .i64 (i143 : Int)), (37, v165), (38, .int .i64 ((y153).length : Int)), (39, .int .i64 (p.1 : Int))]) (fun (p : Nat × (List Int)) => [imm (TR.sl (TR.rec1 (TR.sl TR.int))) v0 x0, imm (TR.sl TR.int) v1 x1, obox 74 (TR.rec1 (TR.sl TR.int)) v160 y153, imm (TR.sl TR.int) v165 y153]) (fun (p : Nat × (List Int)) => p.1 + p.2.length = (y153).length ∧ List.drop p.1 y153 = p.2 ∧ rangeL (roads_Check_b2 y153) p.2 p.1 () = some y208) (fun (p : Nat × (List Int)) => p.2.length) (0, y153) ⟨by simp, by simp, h210⟩ (fun a w st => St.cut [0, 1, 3, 5] ⟨rfl, rfl, rfl, rfl, rfl, rfl, rfl, rfl, rfl, trivial⟩ (by decide) rfl st) ?_
    rintro ⟨i215, r216⟩ ⟨h221, h222, h220⟩
    try dsimp only at h221 h222 h220
    refine GL.weak (env' := [(0, v0), (1, v1), (6, v160), (24, v0), (25, .int .i64 ((x0).length : Int)), (26, .int .i64 (i143 : Int)), (37, v165), (38, .int .i64 ((y153).length : Int)), (39, .int .i64 (i215 : Int))]) (L' := [imm (TR.sl (TR.rec1 (TR.sl TR.int))) v0 x0, imm (TR.sl TR.int) v1 x1, obox 74 (TR.rec1 (TR.sl TR.int)) v160 y153, imm (TR.sl TR.int) v165 y153]) (fun _ _ st => st) ?_
    refine GL.seq ?_
    refine GL.region ?_
    refine RL.binI (v := .bool (decide ((i215 : Int) < ((y153).length : Int)))) rfl rfl rfl rfl rfl ?_
    refine RL.finG ?_
    refine GL.seq ?_
    refine GL.cond rfl (fun b223 => ?_) (fun b223 => ?_)
    ·have h224 : i215 < (y153).length := by have := of_decide_eq_true b223; omega
     obtain ⟨y225, r227, hr, e226, h228⟩ := drop_cons h222 rfl h224
     subst hr
     obtain ⟨z217, h218, h219⟩ := rangeL_some h220
     unfold roads_Check_b2 at h218
     try dsimp only at h218
     refine GL.skip ?_
     refine GL.seq ?_
     refine GL.block ?_
     refine GL.seq ?_
     refine GL.region ?_
     refine RL.mv rfl rfl rfl ?_
     refine RL.idxS (sz := 1) 3 Try.underlying22 Try_ln3 rfl rfl rfl rfl rfl SlOf.imm (by omega) (by omega) ?_
     refine RL.ldSx (i := i215) (e' := y225) 3 Ex.ik Try_ln3 rfl rfl rfl rfl SlOf.imm e226 Part.self ?_
     refine RL.asg rfl rfl rfl ?_
     refine RL.asg rfl rfl rfl ?_
     refine RL.finG ?_
     refine GL.seq ?_
     refine GL.seq ?_
     obtain ⟨y232, K233, h234, h235, h236, h237, h238⟩ := bindF_K h218
     refine GL.join (ι := Bool) (fun (p : Bool) => [(0, v0), (1, v1), (6, v160), (7, .int .i64 (i215 : Int)), (8, .int .i64 y225), (24, v0), (25, .int .i64 ((x0).length : Int)), (26, .int .i64 (i143 : Int)), (37, v165), (38, .int .i64 ((y153).length : Int)), (39, .int .i64 (i215 : Int)), (49, .bool p)]) (fun (p : Bool) => [imm (TR.sl (TR.rec1 (TR.sl TR.int))) v0 x0, imm (TR.sl TR.int) v1 x1, obox 74 (TR.rec1 (TR.sl TR.int)) v160 y153, imm (TR.sl TR.int) v165 y153]) (fun (p : Bool) => K233 (.nx p)) ?_ ?_
     ·skip
      refine GL.region ?_
      refine RL.mv rfl rfl rfl ?_
      refine RL.binI (v := .bool (decide (y225 < (0 : Int)))) rfl rfl rfl rfl rfl ?_
      refine RL.mv rfl rfl rfl ?_
      refine RL.split (t := 46) rfl (fun b239 => ?_) (fun b239 => ?_)
      ·replace h234 := ite_t b239 h234
       refine RL.skip rfl rfl ?_
       refine RL.skip rfl rfl ?_
       refine RL.pickT rfl rfl rfl rfl ?_
       refine RL.fin ?_
       cases h234
       exact fun a w st => mid_intro true h235 (St.cut [0, 1, 2, 3] ⟨rfl, rfl, rfl, rfl, rfl, rfl, rfl, rfl, rfl, rfl, rfl, rfl, trivial⟩ (by decide) rfl st)
      replace h234 := ite_f b239 h234
      refine RL.mv rfl rfl rfl ?_
      refine RL.binI (v := .bool (decide (y225 > (100 : Int)))) rfl rfl rfl rfl rfl ?_
      refine RL.pickF rfl rfl rfl rfl ?_
      refine RL.fin ?_
      cases h234
      exact fun a w st => mid_intro (decide (y225 > (100 : Int))) h235 (St.cut [0, 1, 2, 3] ⟨rfl, rfl, rfl, rfl, rfl, rfl, rfl, rfl, rfl, rfl, rfl, rfl, trivial⟩ (by decide) rfl st)
     rintro x231 h240
     have h241 := h236 _ h240
     try dsimp only at h241
     refine GL.weak (env' := [(0, v0), (1, v1), (6, v160), (7, .int .i64 (i215 : Int)), (8, .int .i64 y225), (24, v0), (25, .int .i64 ((x0).length : Int)), (26, .int .i64 (i143 : Int)), (37, v165), (38, .int .i64 ((y153).length : Int)), (39, .int .i64 (i215 : Int)), (49, .bool x231)]) (L' := [imm (TR.sl (TR.rec1 (TR.sl TR.int))) v0 x0, imm (TR.sl TR.int) v1 x1, obox 74 (TR.rec1 (TR.sl TR.int)) v160 y153, imm (TR.sl TR.int) v165 y153]) (fun _ _ st => st) ?_
     refine GL.cond rfl (fun b242 => ?_) (fun b242 => ?_)
     ·replace h241 := ite_t b242 h241
      refine GL.seq ?_
      refine GL.region ?_
      refine RL.asg rfl rfl rfl ?_
      refine RL.finG ?_
      cases h241
      replace h219 : some (Fl.rt _) = some y208 := h219
      cases h219
      have hh := h213 _ h211
      subst hh
      replace h147 : some (Fl.rt _) = some y136 := h147
      cases h147
      have hh := h141 _ h139
      subst hh
      exact GL.ret (Gx.ret (v := .int .i64 (1 : Int)) (res1 rfl rfl) (fun a w st => st.toPostV))
     replace h241 := ite_f b242 h241
     refine GL.skip ?_
     refine GL.seq ?_
     obtain ⟨y252, K253, h254, h255, h256, h257, h258⟩ := bindF_K h241
     refine GL.join (ι := Bool) (fun (p : Bool) => [(0, v0), (1, v1), (6, v160), (24, v0), (25, .int .i64 ((x0).length : Int)), (26, .int .i64 (i143 : Int)), (37, v165), (38, .int .i64 ((y153).length : Int)), (39, .int .i64 (i215 : Int)), (61, .bool p)]) (fun (p : Bool) => [imm (TR.sl (TR.rec1 (TR.sl TR.int))) v0 x0, imm (TR.sl TR.int) v1 x1, obox 74 (TR.rec1 (TR.sl TR.int)) v160 y153, imm (TR.sl TR.int) v165 y153]) (fun (p : Bool) => K253 (.nx p)) ?_ ?_
     ·skip
      refine GL.region ?_
      refine RL.mv rfl rfl rfl ?_
      refine RL.binI (v := .bool (decide ((i215 : Int) > (0 : Int)))) rfl rfl rfl rfl rfl ?_
      refine RL.mv rfl rfl rfl ?_
      refine RL.split (t := 52) rfl (fun b259 => ?_) (fun b259 => ?_)
      ·replace h254 := ite_t b259 h254
       refine RL.mv rfl rfl rfl ?_
       refine RL.fadr (off := 0) (fo := 0) 2 Try_fld74_0 rfl rfl rfl PtOf.obox (Or.inr ⟨rfl, rfl⟩) ?_
       refine RL.ldP (off := (0 + 0)) (r := (TR.sl TR.int)) (e' := y153) 2 Try_ln22 rfl rfl (Or.inl rfl) rfl PtOf.obox (Part.rec1 Part.self) ?_
       intro v260
       refine RL.mv rfl rfl rfl ?_
       refine RL.binI (v := .int .i64 (wsub (i215 : Int) (1 : Int))) rfl rfl rfl rfl rfl ?_
       obtain ⟨y261, e262, h254⟩ := bind_some h254
       refine RL.idxS (sz := 1) 4 Try.underlying22 Try_ln3 rfl rfl rfl rfl rfl SlOf.imm (idx_some e262).1 (idx_some e262).2.1 ?_
       refine RL.ldSx (i := (wsub (i215 : Int) (1 : Int)).toNat) (e' := y261) 4 Ex.ik Try_ln3 rfl rfl rfl rfl SlOf.imm (idx_some e262).2.2 Part.self ?_
       refine RL.binI (v := .bool (decide (y225 < y261))) rfl rfl rfl rfl rfl ?_
       refine RL.pickT rfl rfl rfl rfl ?_
       refine RL.fin ?_
       cases h254
       exact fun a w st => mid_intro (decide (y225 < y261)) h255 (St.cut [0, 1, 2, 3] ⟨rfl, rfl, rfl, rfl, rfl, rfl, rfl, rfl, rfl, rfl, trivial⟩ (by decide) rfl st)
      replace h254 := ite_f b259 h254
      refine RL.skip rfl rfl ?_
      refine RL.skip rfl rfl ?_
      refine RL.skip rfl rfl ?_
      refine RL.skip rfl rfl ?_
      refine RL.skip rfl rfl ?_
      refine RL.skip rfl rfl ?_
      refine RL.skip rfl rfl ?_
      refine RL.skip rfl rfl ?_
      refine RL.pickF rfl rfl rfl rfl ?_
      refine RL.fin ?_
      cases h254
      exact fun a w st => mid_intro false h255 (St.cut [0, 1, 2, 3] ⟨rfl, rfl, rfl, rfl, rfl, rfl, rfl, rfl, rfl, rfl, trivial⟩ (by decide) rfl st)
     rintro x251 h263
     have h264 := h256 _ h263
     try dsimp only at h264
     refine GL.weak (env' := [(0, v0), (1, v1), (6, v160), (24, v0), (25, .int .i64 ((x0).length : Int)), (26, .int .i64 (i143 : Int)), (37, v165), (38, .int .i64 ((y153).length : Int)), (39, .int .i64 (i215 : Int)), (61, .bool x251)]) (L' := [imm (TR.sl (TR.rec1 (TR.sl TR.int))) v0 x0, imm (TR.sl TR.int) v1 x1, obox 74 (TR.rec1 (TR.sl TR.int)) v160 y153, imm (TR.sl TR.int) v165 y153]) (fun _ _ st => st) ?_
     refine GL.cond rfl (fun b265 => ?_) (fun b265 => ?_)
     ·replace h264 := ite_t b265 h264
      refine GL.seq ?_
      refine GL.region ?_
      refine RL.asg rfl rfl rfl ?_
      refine RL.finG ?_
      cases h264
      replace h219 : some (Fl.rt _) = some y208 := h219
      cases h219
      have hh := h213 _ h211
      subst hh
      replace h147 : some (Fl.rt _) = some y136 := h147
      cases h147
      have hh := h141 _ h139
      subst hh
      exact GL.ret (Gx.ret (v := .int .i64 (3 : Int)) (res1 rfl rfl) (fun a w st => st.toPostV))
     replace h264 := ite_f b265 h264
     refine GL.skip ?_
     refine GL.nilB ?_
     refine GL.region ?_
     refine RL.binI (v := .int .i64 ((i215 + 1 : Nat) : Int)) rfl rfl rfl rfl (binI_succ i215 (by omega)) ?_
     refine RL.mv rfl rfl rfl ?_
     refine RL.fin ?_
     cases h264
     exact fun a w st => lop_intro (i215 + 1, r227) ⟨by show i215 + 1 + r227.length = (y153).length; simp only [List.length_cons] at h221; omega, h228, h219⟩ (by simp) (St.cut [0, 1, 2, 3] ⟨rfl, rfl, rfl, rfl, rfl, rfl, rfl, rfl, rfl, trivial⟩ (by decide) rfl st)
    have h224 : ¬ i215 < (y153).length := by have := of_decide_eq_false b223; omega
    obtain rfl : r216 = [] := by rw [← h222]; exact List.drop_of_length_le (by omega)
    replace h220 : some (Fl.nx _) = some y208 := h220
    cases h220
    exact GL.exit (fun a w st => mid_intro () h211 (St.cut [0, 1] ⟨rfl, rfl, rfl, rfl, rfl, trivial⟩ (by decide) rfl st))
   rintro ⟨⟩ h266
   have h267 := h212 _ h266
   try dsimp only at h267
   refine GL.weak (env' := [(0, v0), (1, v1), (24, v0), (25, .int .i64 ((x0).length : Int)), (26, .int .i64 (i143 : Int))]) (L' := [imm (TR.sl (TR.rec1 (TR.sl TR.int))) v0 x0, imm (TR.sl TR.int) v1 x1]) (fun _ _ st => st) ?_
   refine GL.nilB ?_
   refine GL.region ?_
   refine RL.binI (v := .int .i64 ((i143 + 1 : Nat) : Int)) rfl rfl rfl rfl (binI_succ i143 (by omega)) ?_
   refine RL.mv rfl rfl rfl ?_
   refine RL.fin ?_
   cases h267
   exact fun a w st => lop_intro (i143 + 1, r155) ⟨by show i143 + 1 + r155.length = (x0).length; simp only [List.length_cons] at h149; omega, h156, h147⟩ (by simp) (St.cut [0, 1] ⟨rfl, rfl, rfl, rfl, rfl, trivial⟩ (by decide) rfl st)
  have h152 : ¬ i143 < (x0).length := by have := of_decide_eq_false b151; omega
  obtain rfl : r144 = [] := by rw [← h150]; exact List.drop_of_length_le (by omega)
  replace h148 : some (Fl.nx _) = some y136 := h148
  cases h148
  exact GL.exit (fun a w st => mid_intro () h139 (St.cut [0, 1] ⟨rfl, rfl, trivial⟩ (by decide) rfl st))
 rintro ⟨⟩ h268
 have h269 := h140 _ h268
 try dsimp only at h269
 refine GL.weak (env' := [(0, v0), (1, v1)]) (L' := [imm (TR.sl (TR.rec1 (TR.sl TR.int))) v0 x0, imm (TR.sl TR.int) v1 x1]) (fun _ _ st => st) ?_
 refine GL.seq ?_
 refine GL.seq ?_
 refine GL.region ?_
 refine RL.mv rfl rfl rfl ?_
 refine RL.lenS 1 Try.underlying22 rfl rfl rfl rfl SlOf.imm ?_
 refine RL.mv rfl rfl rfl ?_
 refine RL.finG ?_
 refine GL.open_ 1 rfl (fun S h => len_imm S h) (fun n288 => ?_)
 obtain ⟨y289, K290, h291, h292, h293, h294, h295⟩ := bindR_K h269
 refine GL.join (ι := Unit) (fun (p : Unit) => []) (fun (p : Unit) => []) (fun (p : Unit) => K290 (.nx ())) ?_ ?_
 ·refine GL.block ?_
  refine GL.loop (ι := Nat × (List Int)) (fun (p : Nat × (List Int)) => [(0, v0), (64, v1), (65, .int .i64 ((x1).length : Int)), (66, .int .i64 (p.1 : Int))]) (fun (p : Nat × (List Int)) => [imm (TR.sl (TR.rec1 (TR.sl TR.int))) v0 x0, imm (TR.sl TR.int) v1 x1]) (fun (p : Nat × (List Int)) => p.1 + p.2.length = (x1).length ∧ List.drop p.1 x1 = p.2 ∧ rangeL (roads_Check_b3 x0) p.2 p.1 () = some y289) (fun (p : Nat × (List Int)) => p.2.length) (0, x1) ⟨by simp, by simp, h291⟩ (fun a w st => St.cut [0, 1] ⟨rfl, rfl, rfl, rfl, trivial⟩ (by decide) rfl st) ?_
  rintro ⟨i296, r297⟩ ⟨h302, h303, h301⟩
  try dsimp only at h302 h303 h301
  refine GL.weak (env' := [(0, v0), (64, v1), (65, .int .i64 ((x1).length : Int)), (66, .int .i64 (i296 : Int))]) (L' := [imm (TR.sl (TR.rec1 (TR.sl TR.int))) v0 x0, imm (TR.sl TR.int) v1 x1]) (fun _ _ st => st) ?_
  refine GL.seq ?_
  refine GL.region ?_
  refine RL.binI (v := .bool (decide ((i296 : Int) < ((x1).length : Int)))) rfl rfl rfl rfl rfl ?_
  refine RL.finG ?_
  refine GL.seq ?_
  refine GL.cond rfl (fun b304 => ?_) (fun b304 => ?_)
  ·have h305 : i296 < (x1).length := by have := of_decide_eq_true b304; omega
   obtain ⟨y306, r308, hr, e307, h309⟩ := drop_cons h303 rfl h305
   subst hr
   obtain ⟨z298, h299, h300⟩ := rangeL_some h301
   unfold roads_Check_b3 at h299
   try dsimp only at h299
   refine GL.skip ?_
   refine GL.seq ?_
   refine GL.block ?_
   refine GL.seq ?_
   refine GL.region ?_
   refine RL.idxS (sz := 1) 1 Try.underlying22 Try_ln3 rfl rfl rfl rfl rfl SlOf.imm (by omega) (by omega) ?_
   refine RL.ldSx (i := i296) (e' := y306) 1 Ex.ik Try_ln3 rfl rfl rfl rfl SlOf.imm e307 Part.self ?_
   refine RL.asg rfl rfl rfl ?_
   refine RL.finG ?_
   refine GL.seq ?_
   obtain ⟨y313, K314, h315, h316, h317, h318, h319⟩ := bindF_K h299
   refine GL.join (ι := Bool) (fun (p : Bool) => [(0, v0), (64, v1), (65, .int .i64 ((x1).length : Int)), (66, .int .i64 (i296 : Int)), (77, .bool p)]) (fun (p : Bool) => [imm (TR.sl (TR.rec1 (TR.sl TR.int))) v0 x0, imm (TR.sl TR.int) v1 x1]) (fun (p : Bool) => K314 (.nx p)) ?_ ?_
   ·skip
    refine GL.region ?_
    refine RL.mv rfl rfl rfl ?_
    refine RL.binI (v := .bool (decide (y306 < (0 : Int)))) rfl rfl rfl rfl rfl ?_
    refine RL.mv rfl rfl rfl ?_
    refine RL.split (t := 72) rfl (fun b320 => ?_) (fun b320 => ?_)
    ·replace h315 := ite_t b320 h315
     refine RL.skip rfl rfl ?_
     refine RL.skip rfl rfl ?_
     refine RL.skip rfl rfl ?_
     refine RL.skip rfl rfl ?_
     refine RL.pickT rfl rfl rfl rfl ?_
     refine RL.fin ?_
     cases h315
     exact fun a w st => mid_intro true h316 (St.cut [0, 1] ⟨rfl, rfl, rfl, rfl, rfl, trivial⟩ (by decide) rfl st)
    replace h315 := ite_f b320 h315
    refine RL.mv rfl rfl rfl ?_
    refine RL.mv rfl rfl rfl ?_
    refine RL.lenS 0 Try.underlying36 rfl rfl rfl rfl SlOf.imm ?_
    refine RL.binI (v := .bool (decide (y306 ≥ ((x0).length : Int)))) rfl rfl rfl rfl rfl ?_
    refine RL.pickF rfl rfl rfl rfl ?_
    refine RL.fin ?_
    cases h315
    exact fun a w st => mid_intro (decide (y306 ≥ ((x0).length : Int))) h316 (St.cut [0, 1] ⟨rfl, rfl, rfl, rfl, rfl, trivial⟩ (by decide) rfl st)
   rintro x312 h321
   have h322 := h317 _ h321
   try dsimp only at h322
   refine GL.weak (env' := [(0, v0), (64, v1), (65, .int .i64 ((x1).length : Int)), (66, .int .i64 (i296 : Int)), (77, .bool x312)]) (L' := [imm (TR.sl (TR.rec1 (TR.sl TR.int))) v0 x0, imm (TR.sl TR.int) v1 x1]) (fun _ _ st => st) ?_
   refine GL.cond rfl (fun b323 => ?_) (fun b323 => ?_)
   ·replace h322 := ite_t b323 h322
    refine GL.seq ?_
    refine GL.region ?_
    refine RL.asg rfl rfl rfl ?_
    refine RL.finG ?_
    cases h322
    replace h300 : some (Fl.rt _) = some y289 := h300
    cases h300
    have hh := h294 _ h292
    subst hh
    exact GL.ret (Gx.ret (v := .int .i64 (4 : Int)) (res1 rfl rfl) (fun a w st => st.toPostV))
   replace h322 := ite_f b323 h322
   refine GL.skip ?_
   refine GL.nilB ?_
   refine GL.region ?_
   refine RL.binI (v := .int .i64 ((i296 + 1 : Nat) : Int)) rfl rfl rfl rfl (binI_succ i296 (by omega)) ?_
   refine RL.mv rfl rfl rfl ?_
   refine RL.fin ?_
   cases h322
   exact fun a w st => lop_intro (i296 + 1, r308) ⟨by show i296 + 1 + r308.length = (x1).length; simp only [List.length_cons] at h302; omega, h309, h300⟩ (by simp) (St.cut [0, 1] ⟨rfl, rfl, rfl, rfl, trivial⟩ (by decide) rfl st)
  have h305 : ¬ i296 < (x1).length := by have := of_decide_eq_false b304; omega
  obtain rfl : r297 = [] := by rw [← h303]; exact List.drop_of_length_le (by omega)
  replace h301 : some (Fl.nx _) = some y289 := h301
  cases h301
  exact GL.exit (fun a w st => mid_intro () h292 (St.cut [] trivial (by decide) rfl st))
 rintro ⟨⟩ h324
 have h325 := h293 _ h324
 try dsimp only at h325
 refine GL.weak (env' := []) (L' := []) (fun _ _ st => st) ?_
 refine GL.seq ?_
 refine GL.region ?_
 refine RL.asg rfl rfl rfl ?_
 refine RL.finG ?_
 have h325 := Option.some.inj h325
 subst h325
 exact GL.ret (Gx.ret (v := .int .i64 (0 : Int)) (res1 rfl rfl) (fun a w st => st.toPostV))

set_option maxHeartbeats 4000000 in
theorem slices_Clone_int_int_c (S : Hp) (w : World) (hS : S.sub w) (v0 : Value) (x0 : List Int) (k0 : (TR.sl TR.int).vrep S v0 x0) (res : List Int) (hm : slices_Clone_int_int_m x0 = some res) : Calls Try.prog 35 #[v0] w (Post w S (fun (o : Value) => o) (fun (o : Value) => [own 3 TR.int o res])) := by
  refine calls_enter 8 Try.func35 Try.ntmps35 rfl S false [(0, v0)] [imm (TR.sl TR.int) v0 x0] rfl ⟨rfl, trivial⟩ hS ⟨k0, trivial⟩ ?_
  unfold slices_Clone_int_int_m at hm
  obtain ⟨_, hc, hm⟩ := bind_some hm
  replace hc := chk_some hc
  have hm := Option.some.inj hm
  subst hm
  refine GL.seq (GL.region (RL.asg rfl rfl rfl (RL.finG (GL.seq (GL.seq (GL.region ?_))))))
  refine RL.mv rfl rfl rfl ?_
  refine RL.eqNil 0 Try.underlying22 rfl rfl rfl rfl rfl SlOf.imm (fun b hb => ?_)
  refine RL.finG (GL.cond rfl (fun h => ?_) (fun h => ?_))
  · have := hb h
    subst this
    refine GL.seq (GL.region (RL.asg rfl rfl rfl (RL.finG ?_)))
    refine GL.weak (fun a w st => st.nilOwn 3 TR.int) ?_
    exact GL.ret (Gx.ret (v := Value.slice none 0 0) (res1 rfl rfl) (fun a w st => (st.pick [1] (by decide) rfl).toPost (Value.slice none 0 0)))
  · refine GL.skip (GL.seq (GL.region ?_))
    refine RL.bS (t := TR.int) (vs := []) ([] : List Int) Try.underlying22 Try_lo3 rfl rfl rfl rfl trivial rfl (by decide) ?_
    intro v1
    refine RL.mv rfl rfl rfl ?_
    refine RL.app 1 0 Try.underlying22 Try_lo3 rfl rfl rfl rfl rfl rfl rfl SlOf.imm (by simpa using hc) ?_
    intro v2
    refine RL.asg rfl rfl rfl (RL.finG ?_)
    exact GL.ret (Gx.ret (v := v2) (res1 rfl rfl) (fun a w st => (st.pick [1] (by decide) rfl).toPost v2))

set_option maxHeartbeats 4000000 in
theorem roads_load_c (S : Hp) (w : World) (hS : S.sub w) (v0 : Value) (x0 : (List (List Int))) (k0 : ((TR.sl (TR.rec1 (TR.sl TR.int)))).vrep S v0 x0) (v1 : Value) (x1 : (List Int)) (k1 : ((TR.sl TR.int)).vrep S v1 x1) (res : (List Int)) (hm : roads_load_m x0 x1 = some res) : Calls Try.prog 37 #[v0, v1] w (Post w S (fun (o : Value) => o) (fun (o : Value) => [own 3 TR.int o res])) := by
 refine calls_enter 25 Try.func37 Try.ntmps37 rfl S false [(0, v0), (1, v1)] [imm (TR.sl (TR.rec1 (TR.sl TR.int))) v0 x0, imm (TR.sl TR.int) v1 x1] rfl ⟨rfl, ⟨rfl, trivial⟩⟩ hS ⟨k0, ⟨k1, trivial⟩⟩ ?_
 unfold roads_load_m at hm
 refine GL.seq ?_
 refine GL.region ?_
 refine RL.asg rfl rfl rfl ?_
 refine RL.finG ?_
 refine GL.seq ?_
 refine GL.region ?_
 refine RL.mv rfl rfl rfl ?_
 refine RL.lenS 0 Try.underlying36 rfl rfl rfl rfl SlOf.imm ?_
 obtain ⟨y6, e7, hm⟩ := bind_some hm
 replace e7 := chk_some e7
 refine RL.mkS (t := TR.int) (z := (0 : Int)) Try.underlying22 Try_lo3 (fun S => rfl) rfl rfl rfl rfl e7.1 e7.2 ?_
 intro v8
 refine RL.asg rfl rfl rfl ?_
 refine RL.finG ?_
 refine GL.seq ?_
 refine GL.seq ?_
 refine GL.region ?_
 refine RL.mv rfl rfl rfl ?_
 refine RL.lenS 1 Try.underlying22 rfl rfl rfl rfl SlOf.imm ?_
 refine RL.mv rfl rfl rfl ?_
 refine RL.finG ?_
 refine GL.open_ 1 rfl (fun S h => len_imm S h) (fun n34 => ?_)
 obtain ⟨y35, K36, h37, h38, h39, h40, h41⟩ := bindR_K hm
 refine GL.join (ι := (List Int)) (fun (p : (List Int)) => [(5, v8)]) (fun (p : (List Int)) => [own 3 TR.int v8 p]) (fun (p : (List Int)) => K36 (.nx p)) ?_ ?_
 ·refine GL.block ?_
  refine GL.loop (ι := Nat × (List Int) × (List Int)) (fun (p : Nat × (List Int) × (List Int)) => [(5, v8), (11, v1), (12, .int .i64 ((x1).length : Int)), (13, .int .i64 (p.1 : Int))]) (fun (p : Nat × (List Int) × (List Int)) => [own 3 TR.int v8 p.2.2, imm (TR.sl TR.int) v1 x1]) (fun (p : Nat × (List Int) × (List Int)) => p.1 + p.2.1.length = (x1).length ∧ List.drop p.1 x1 = p.2.1 ∧ rangeL roads_load_b1 p.2.1 p.1 p.2.2 = some y35) (fun (p : Nat × (List Int) × (List Int)) => p.2.1.length) (0, x1, (List.replicate (((x0).length : Int)).toNat (0 : Int))) ⟨by simp, by simp, h37⟩ (fun a w st => St.cut [2, 1] ⟨rfl, rfl, rfl, rfl, trivial⟩ (by decide) rfl st) ?_
  rintro ⟨i42, r43, l21⟩ ⟨h48, h49, h47⟩
  try dsimp only at h48 h49 h47
  refine GL.weak (env' := [(5, v8), (11, v1), (12, .int .i64 ((x1).length : Int)), (13, .int .i64 (i42 : Int))]) (L' := [own 3 TR.int v8 l21, imm (TR.sl TR.int) v1 x1]) (fun _ _ st => st) ?_
  refine GL.seq ?_
  refine GL.region ?_
  refine RL.binI (v := .bool (decide ((i42 : Int) < ((x1).length : Int)))) rfl rfl rfl rfl rfl ?_
  refine RL.finG ?_
  refine GL.seq ?_
  refine GL.cond rfl (fun b50 => ?_) (fun b50 => ?_)
  ·have h51 : i42 < (x1).length := by have := of_decide_eq_true b50; omega
   obtain ⟨y52, r54, hr, e53, h55⟩ := drop_cons h49 rfl h51
   subst hr
   obtain ⟨z44, h45, h46⟩ := rangeL_some h47
   unfold roads_load_b1 at h45
   try dsimp only at h45
   refine GL.skip ?_
   refine GL.seq ?_
   refine GL.block ?_
   refine GL.seq ?_
   refine GL.region ?_
   refine RL.idxS (sz := 1) 1 Try.underlying22 Try_ln3 rfl rfl rfl rfl rfl SlOf.imm (by omega) (by omega) ?_
   refine RL.ldSx (i := i42) (e' := y52) 1 Ex.ik Try_ln3 rfl rfl rfl rfl SlOf.imm e53 Part.self ?_
   refine RL.asg rfl rfl rfl ?_
   refine RL.finG ?_
   refine GL.region ?_
   refine RL.mv rfl rfl rfl ?_
   refine RL.mv rfl rfl rfl ?_
   obtain ⟨y60, e61, h45⟩ := bind_some h45
   refine RL.idxS (sz := 1) 0 Try.underlying22 Try_ln3 rfl rfl rfl rfl rfl SlOf.own (idx_some e61).1 (idx_some e61).2.1 ?_
   refine RL.ldSx (i := (y52).toNat) (e' := y60) 0 Ex.ik Try_ln3 rfl rfl rfl rfl SlOf.own (idx_some e61).2.2 Part.self ?_
   refine RL.binI (v := .int .i64 (wadd y60 (1 : Int))) rfl rfl rfl rfl rfl ?_
   obtain ⟨y62, e63, h45⟩ := bind_some h45
   refine RL.idxS (sz := 1) 0 Try.underlying22 Try_ln3 rfl rfl rfl rfl rfl SlOf.own (idx_some e63).1 (idx_some e63).2.1 ?_
   refine RL.stS (i := (y52).toNat) (e' := wadd y60 (1 : Int)) (e1 := wadd y60 (1 : Int)) (r := TR.int) 0 Try_ln3 rfl rfl rfl rfl VR.int rfl (idx_some e63).2.2 Upd.self ?_
   refine RL.finG ?_
   refine GL.nilB ?_
   refine GL.region ?_
   refine RL.binI (v := .int .i64 ((i42 + 1 : Nat) : Int)) rfl rfl rfl rfl (binI_succ i42 (by omega)) ?_
   refine RL.mv rfl rfl rfl ?_
   refine RL.fin ?_
   cases h45
   exact fun a w st => lop_intro (i42 + 1, r54, (List.set l21 ((y52).toNat) (wadd y60 (1 : Int)))) ⟨by show i42 + 1 + r54.length = (x1).length; simp only [List.length_cons] at h48; omega, h55, h46⟩ (by simp) (St.cut [0, 1] ⟨rfl, rfl, rfl, rfl, trivial⟩ (by decide) rfl st)
  have h51 : ¬ i42 < (x1).length := by have := of_decide_eq_false b50; omega
  obtain rfl : r43 = [] := by rw [← h49]; exact List.drop_of_length_le (by omega)
  replace h47 : some (Fl.nx _) = some y35 := h47
  cases h47
  exact GL.exit (fun a w st => mid_intro l21 h38 (St.cut [0] ⟨rfl, trivial⟩ (by decide) rfl st))
 rintro l21 h64
 have h65 := h39 _ h64
 try dsimp only at h65
 refine GL.weak (env' := [(5, v8)]) (L' := [own 3 TR.int v8 l21]) (fun _ _ st => st) ?_
 refine GL.seq ?_
 refine GL.region ?_
 refine RL.mv rfl rfl rfl ?_
 refine RL.asg rfl rfl rfl ?_
 refine RL.finG ?_
 have h65 := Option.some.inj h65
 subst h65
 exact GL.ret (Gx.ret (v := v8) (res1 rfl rfl) (fun a w st => (st.pick [0] (by decide) rfl).toPost v8))

set_option maxHeartbeats 4000000 in
theorem roads_Better_c (S : Hp) (w : World) (hS : S.sub w) (v0 : Value) (x0 : (List (List Int))) (k0 : ((TR.sl (TR.rec1 (TR.sl TR.int)))).vrep S v0 x0) (v1 : Value) (x1 : (List Int)) (k1 : ((TR.sl TR.int)).vrep S v1 x1) (x2 : Int) (res : Int × Int) (hm : roads_Better_m x0 x1 x2 = some res) : Calls Try.prog 36 #[v0, v1, .int .i64 x2] w (PostV w (.tuple #[.int .i64 res.1, .int .i64 res.2])) := by
 refine calls_enter 83 Try.func36 Try.ntmps36 rfl S false [(0, v0), (1, v1), (2, .int .i64 x2)] [imm (TR.sl (TR.rec1 (TR.sl TR.int))) v0 x0, imm (TR.sl TR.int) v1 x1] rfl ⟨rfl, ⟨rfl, ⟨rfl, trivial⟩⟩⟩ hS ⟨k0, ⟨k1, trivial⟩⟩ ?_
 unfold roads_Better_m at hm
 refine GL.seq ?_
 refine GL.region ?_
 refine RL.asg rfl rfl rfl ?_
 refine RL.asg rfl rfl rfl ?_
 refine RL.finG ?_
 refine GL.seq ?_
 refine GL.seq ?_
 refine GL.region ?_
 refine RL.mv rfl rfl rfl ?_
 refine RL.mv rfl rfl rfl ?_
 obtain ⟨y6, e7, hm⟩ := bind_some hm
 refine RL.callV (v := .int .i64 y6) (vs := [v0, v1]) Try_fit34 rfl (Or.inl rfl) rfl rfl rfl rfl (fun U w hU hW hL => roads_Check_c U w hU _ _ (hL 0 _ _ rfl Seen.imm) _ _ (hL 1 _ _ rfl Seen.imm) _ e7) ?_
 refine RL.asg rfl rfl rfl ?_
 refine RL.finG ?_
 refine GL.seq ?_
 refine GL.region ?_
 refine RL.mv rfl rfl rfl ?_
 refine RL.binI (v := .bool (y6 != (0 : Int))) rfl rfl rfl rfl rfl ?_
 refine RL.finG ?_
 refine GL.cond rfl (fun b8 => ?_) (fun b8 => ?_)
 ·replace hm := ite_t b8 hm
  refine GL.seq ?_
  refine GL.region ?_
  refine RL.mv rfl rfl rfl ?_
  refine RL.asg rfl rfl rfl ?_
  refine RL.asg rfl rfl rfl ?_
  refine RL.finG ?_
  have hm := Option.some.inj hm
  subst hm
  exact GL.ret (Gx.ret (v := .tuple #[.int .i64 (0 : Int), .int .i64 y6]) (res2 rfl rfl rfl) (fun a w st => st.toPostV))
 replace hm := ite_f b8 hm
 refine GL.skip ?_
 refine GL.seq ?_
 refine GL.seq ?_
 obtain ⟨y12, K13, h14, h15, h16, h17, h18⟩ := bindR_K hm
 refine GL.join (ι := Bool) (fun (p : Bool) => [(0, v0), (1, v1), (2, .int .i64 x2), (27, .bool p)]) (fun (p : Bool) => [imm (TR.sl (TR.rec1 (TR.sl TR.int))) v0 x0, imm (TR.sl TR.int) v1 x1]) (fun (p : Bool) => K13 (.nx p)) ?_ ?_
 ·skip
  refine GL.region ?_
  refine RL.mv rfl rfl rfl ?_
  refine RL.binI (v := .bool (decide (x2 < (0 : Int)))) rfl rfl rfl rfl rfl ?_
  refine RL.mv rfl rfl rfl ?_
  refine RL.split (t := 22) rfl (fun b19 => ?_) (fun b19 => ?_)
  ·replace h14 := ite_t b19 h14
   refine RL.skip rfl rfl ?_
   refine RL.skip rfl rfl ?_
   refine RL.skip rfl rfl ?_
   refine RL.skip rfl rfl ?_
   refine RL.pickT rfl rfl rfl rfl ?_
   refine RL.fin ?_
   cases h14
   exact fun a w st => mid_intro true h15 (St.cut [0, 1] ⟨rfl, rfl, rfl, rfl, trivial⟩ (by decide) rfl st)
  replace h14 := ite_f b19 h14
  refine RL.mv rfl rfl rfl ?_
  refine RL.mv rfl rfl rfl ?_
  refine RL.lenS 1 Try.underlying22 rfl rfl rfl rfl SlOf.imm ?_
  refine RL.binI (v := .bool (decide (x2 ≥ ((x1).length : Int)))) rfl rfl rfl rfl rfl ?_
  refine RL.pickF rfl rfl rfl rfl ?_
  refine RL.fin ?_
  cases h14
  exact fun a w st => mid_intro (decide (x2 ≥ ((x1).length : Int))) h15 (St.cut [0, 1] ⟨rfl, rfl, rfl, rfl, trivial⟩ (by decide) rfl st)
 rintro x11 h20
 have h21 := h16 _ h20
 try dsimp only at h21
 refine GL.weak (env' := [(0, v0), (1, v1), (2, .int .i64 x2), (27, .bool x11)]) (L' := [imm (TR.sl (TR.rec1 (TR.sl TR.int))) v0 x0, imm (TR.sl TR.int) v1 x1]) (fun _ _ st => st) ?_
 refine GL.cond rfl (fun b22 => ?_) (fun b22 => ?_)
 ·replace h21 := ite_t b22 h21
  refine GL.seq ?_
  refine GL.region ?_
  refine RL.asg rfl rfl rfl ?_
  refine RL.asg rfl rfl rfl ?_
  refine RL.finG ?_
  have h21 := Option.some.inj h21
  subst h21
  exact GL.ret (Gx.ret (v := .tuple #[.int .i64 (0 : Int), .int .i64 (1 : Int)]) (res2 rfl rfl rfl) (fun a w st => st.toPostV))
 replace h21 := ite_f b22 h21
 refine GL.skip ?_
 refine GL.seq ?_
 refine GL.region ?_
 refine RL.mv rfl rfl rfl ?_
 refine RL.mv rfl rfl rfl ?_
 obtain ⟨y26, e27, h21⟩ := bind_some h21
 refine RL.call (vs := [v0, v1]) Try_fit37 rfl rfl rfl rfl rfl (fun S f w hS hW hi => roads_load_c S w hS _ _ (hi 0 _ rfl) _ _ (hi 1 _ rfl) _ e27) ?_
 intro v28
 refine RL.asg rfl rfl rfl ?_
 refine RL.finG ?_
 refine GL.seq ?_
 refine GL.region ?_
 refine RL.mv rfl rfl rfl ?_
 refine RL.mv rfl rfl rfl ?_
 obtain ⟨y31, e32, h21⟩ := bind_some h21
 refine RL.idxS (sz := 1) 1 Try.underlying22 Try_ln3 rfl rfl rfl rfl rfl SlOf.imm (idx_some e32).1 (idx_some e32).2.1 ?_
 refine RL.ldSx (i := (x2).toNat) (e' := y31) 1 Ex.ik Try_ln3 rfl rfl rfl rfl SlOf.imm (idx_some e32).2.2 Part.self ?_
 refine RL.asg rfl rfl rfl ?_
 refine RL.finG ?_
 refine GL.seq ?_
 refine GL.regionQ rfl rfl (by kernel_rfl) ?_
 refine RL.mv rfl rfl rfl ?_
 refine RL.mv rfl rfl rfl ?_
 obtain ⟨y40, e41, h21⟩ := bind_some h21
 refine RL.idxS (sz := 1) 0 Try.underlying36 Try_ln74 rfl rfl rfl rfl rfl SlOf.imm (idx_some e41).1 (idx_some e41).2.1 ?_
 refine RL.fadrS (off := ((y31).toNat * 1)) (fo := 0) 0 Try_fld74_0 rfl rfl rfl SlOf.imm (by have := (List.getElem?_eq_some_iff.1 (idx_some e41).2.2).1; omega) rfl ?_
 refine RL.ldS (i := (y31).toNat) (r := (TR.sl TR.int)) (e' := y40) 0 Try_ln22 rfl rfl rfl rfl SlOf.imm (idx_some e41).2.2 (Part.rec1 Part.self) ?_
 intro v42
 refine RL.reL (L' := [imm (TR.sl (TR.rec1 (TR.sl TR.int))) v0 x0, imm (TR.sl TR.int) v1 x1, own 3 TR.int v28 y26, imm (TR.sl TR.int) v42 y40]) rfl ?_
 refine RL.mv rfl rfl rfl ?_
 refine RL.mv rfl rfl rfl ?_
 obtain ⟨y43, e44, h21⟩ := bind_some h21
 refine RL.idxS (sz := 1) 2 Try.underlying22 Try_ln3 rfl rfl rfl rfl rfl SlOf.own (idx_some e44).1 (idx_some e44).2.1 ?_
 refine RL.ldSx (i := (y31).toNat) (e' := y43) 2 Ex.ik Try_ln3 rfl rfl rfl rfl SlOf.own (idx_some e44).2.2 Part.self ?_
 refine RL.binI (v := .int .i64 (wsub y43 (1 : Int))) rfl rfl rfl rfl rfl ?_
 obtain ⟨y45, e46, h21⟩ := bind_some h21
 refine RL.idxS (sz := 1) 3 Try.underlying22 Try_ln3 rfl rfl rfl rfl rfl SlOf.imm (idx_some e46).1 (idx_some e46).2.1 ?_
 refine RL.ldSx (i := (wsub y43 (1 : Int)).toNat) (e' := y45) 3 Ex.ik Try_ln3 rfl rfl rfl rfl SlOf.imm (idx_some e46).2.2 Part.self ?_
 refine RL.asg rfl rfl rfl ?_
 refine RL.finQG ?_
 refine GL.seq ?_
 refine GL.seq ?_
 refine GL.region ?_
 refine RL.mv rfl rfl rfl ?_
 refine RL.lenS 0 Try.underlying36 rfl rfl rfl rfl SlOf.imm ?_
 refine RL.mv rfl rfl rfl ?_
 refine RL.finG ?_
 refine GL.open_ 0 rfl (fun S h => len_imm S h) (fun n102 => ?_)
 obtain ⟨y103, K104, h105, h106, h107, h108, h109⟩ := bindR_K h21
 refine GL.join (ι := Int × Int) (fun (p : Int × Int) => [(10, .int .i64 p.1)]) (fun (p : Int × Int) => []) (fun (p : Int × Int) => K104 (.nx (p.1, p.2))) ?_ ?_
 ·refine GL.block ?_
  refine GL.loop (ι := Nat × (List (List Int)) × Int × Int) (fun (p : Nat × (List (List Int)) × Int × Int) => [(1, v1), (2, .int .i64 x2), (9, v28), (10, .int .i64 p.2.2.1), (11, .int .i64 p.2.2.2), (47, v0), (48, .int .i64 ((x0).length : Int)), (49, .int .i64 (p.1 : Int))]) (fun (p : Nat × (List (List Int)) × Int × Int) => [imm (TR.sl TR.int) v1 x1, own 3 TR.int v28 y26, imm (TR.sl (TR.rec1 (TR.sl TR.int))) v0 x0]) (fun (p : Nat × (List (List Int)) × Int × Int) => p.1 + p.2.1.length = (x0).length ∧ List.drop p.1 x0 = p.2.1 ∧ rangeL (roads_Better_b1 x1 x2 y26) p.2.1 p.1 (p.2.2.1, p.2.2.2) = some y103) (fun (p : Nat × (List (List Int)) × Int × Int) => p.2.1.length) (0, x0, y31, y45) ⟨by simp, by simp, h105⟩ (fun a w st => St.cut [1, 2, 0] ⟨rfl, rfl, rfl, rfl, rfl, rfl, rfl, rfl, trivial⟩ (by decide) rfl st) ?_
  rintro ⟨i110, r111, x47, x48⟩ ⟨h116, h117, h115⟩
  try dsimp only at h116 h117 h115
  refine GL.weak (env' := [(1, v1), (2, .int .i64 x2), (9, v28), (10, .int .i64 x47), (11, .int .i64 x48), (47, v0), (48, .int .i64 ((x0).length : Int)), (49, .int .i64 (i110 : Int))]) (L' := [imm (TR.sl TR.int) v1 x1, own 3 TR.int v28 y26, imm (TR.sl (TR.rec1 (TR.sl TR.int))) v0 x0]) (fun _ _ st => st) ?_
  refine GL.seq ?_
  refine GL.region ?_
  refine RL.binI (v := .bool (decide ((i110 : Int) < ((x0).length : Int)))) rfl rfl rfl rfl rfl ?_
  refine RL.finG ?_
  refine GL.seq ?_
  refine GL.cond rfl (fun b118 => ?_) (fun b118 => ?_)
  ·have h119 : i110 < (x0).length := by have := of_decide_eq_true b118; omega
   obtain ⟨y120, r122, hr, e121, h123⟩ := drop_cons h117 rfl h119
   subst hr
   obtain ⟨z112, h113, h114⟩ := rangeL_some h115
   unfold roads_Better_b1 at h113
   try dsimp only at h113
   refine GL.skip ?_
   refine GL.seq ?_
   refine GL.block ?_
   refine GL.seq ?_
   refine GL.region ?_
   refine RL.mv rfl rfl rfl ?_
   refine RL.idxS (sz := 1) 2 Try.underlying36 Try_ln74 rfl rfl rfl rfl rfl SlOf.imm (by omega) (by omega) ?_
   refine RL.ldS (i := i110) (r := (TR.rec1 (TR.sl TR.int))) (e' := y120) 2 Try_ln74 rfl rfl rfl rfl SlOf.imm e121 Part.self ?_
   intro v126
   refine RL.alloc (t := (TR.rec1 (TR.sl TR.int))) (z := ([] : (List Int))) Try_lo74 (fun S => ⟨_, [], rfl, ⟨none, 0, rfl, Nat.le_refl _, Nat.zero_le _, Or.inl ⟨rfl, rfl⟩⟩, rfl⟩) rfl rfl rfl ?_
   intro v127
   refine RL.reL (L' := [imm (TR.sl TR.int) v1 x1, own 3 TR.int v28 y26, imm (TR.sl (TR.rec1 (TR.sl TR.int))) v0 x0, imm (TR.rec1 (TR.sl TR.int)) v126 y120, obox 74 (TR.rec1 (TR.sl TR.int)) v127 ([] : (List Int))]) rfl ?_
   refine RL.asg rfl rfl rfl ?_
   refine RL.stP (off := 0) (e' := y120) (d1 := y120) (r := (TR.rec1 (TR.sl TR.int))) 4 Try_ln74 rfl rfl (Or.inr ⟨rfl, rfl⟩) rfl (VR.item 3 rfl) rfl Upd.self ?_
   refine RL.finG ?_
   refine GL.seq ?_
   obtain ⟨y145, K146, h147, h148, h149, h150, h151⟩ := bindF_K h113
   refine GL.join (ι := Bool) (fun (p : Bool) => [(1, v1), (2, .int .i64 x2), (9, v28), (10, .int .i64 x47), (11, .int .i64 x48), (12, .int .i64 (i110 : Int)), (13, v127), (47, v0), (48, .int .i64 ((x0).length : Int)), (49, .int .i64 (i110 : Int)), (71, .bool p)]) (fun (p : Bool) => [imm (TR.sl TR.int) v1 x1, own 3 TR.int v28 y26, obox 74 (TR.rec1 (TR.sl TR.int)) v127 y120, imm (TR.sl (TR.rec1 (TR.sl TR.int))) v0 x0]) (fun (p : Bool) => K146 (.nx p)) ?_ ?_
   ·skip
    refine GL.regionQ rfl rfl (by kernel_rfl) ?_
    refine RL.mv rfl rfl rfl ?_
    refine RL.mv rfl rfl rfl ?_
    refine RL.mv rfl rfl rfl ?_
    obtain ⟨y152, e153, h147⟩ := bind_some h147
    refine RL.idxS (sz := 1) 0 Try.underlying22 Try_ln3 rfl rfl rfl rfl rfl SlOf.imm (idx_some e153).1 (idx_some e153).2.1 ?_
    refine RL.ldSx (i := (x2).toNat) (e' := y152) 0 Ex.ik Try_ln3 rfl rfl rfl rfl SlOf.imm (idx_some e153).2.2 Part.self ?_
    refine RL.binI (v := .bool ((i110 : Int) != y152)) rfl rfl rfl rfl rfl ?_
    refine RL.mv rfl rfl rfl ?_
    refine RL.split (t := 60) rfl (fun b154 => ?_) (fun b154 => ?_)
    ·replace h147 := ite_t b154 h147
     refine RL.fadr (off := 0) (fo := 0) 4 Try_fld74_0 rfl rfl rfl PtOf.obox (Or.inr ⟨rfl, rfl⟩) ?_
     refine RL.ldP (off := (0 + 0)) (r := (TR.sl TR.int)) (e' := y120) 4 Try_ln22 rfl rfl (Or.inl rfl) rfl PtOf.obox (Part.rec1 Part.self) ?_
     intro v155
     refine RL.reL (L' := [imm (TR.sl TR.int) v1 x1, own 3 TR.int v28 y26, imm (TR.sl (TR.rec1 (TR.sl TR.int))) v0 x0, imm (TR.rec1 (TR.sl TR.int)) v126 y120, obox 74 (TR.rec1 (TR.sl TR.int)) v127 y120, imm (TR.sl TR.int) v155 y120]) rfl ?_
     refine RL.mv rfl rfl rfl ?_
     refine RL.mv rfl rfl rfl ?_
     obtain ⟨y156, e157, h147⟩ := bind_some h147
     refine RL.idxS (sz := 1) 1 Try.underlying22 Try_ln3 rfl rfl rfl rfl rfl SlOf.own (idx_some e157).1 (idx_some e157).2.1 ?_
     refine RL.ldSx (i := i110) (e' := y156) 1 Ex.ik Try_ln3 rfl rfl rfl rfl SlOf.own (idx_some e157).2.2 Part.self ?_
     obtain ⟨y158, e159, h147⟩ := bind_some h147
     refine RL.idxS (sz := 1) 5 Try.underlying22 Try_ln3 rfl rfl rfl rfl rfl SlOf.imm (idx_some e159).1 (idx_some e159).2.1 ?_
     refine RL.ldSx (i := (y156).toNat) (e' := y158) 5 Ex.ik Try_ln3 rfl rfl rfl rfl SlOf.imm (idx_some e159).2.2 Part.self ?_
     refine RL.mv rfl rfl rfl ?_
     refine RL.binI (v := .bool (decide (y158 < x48))) rfl rfl rfl rfl rfl ?_
     refine RL.pickT rfl rfl rfl rfl ?_
     refine RL.finQ ?_
     cases h147
     exact fun a w st => mid_intro (decide (y158 < x48)) h148 (St.cut [0, 1, 4, 2] ⟨rfl, rfl, rfl, rfl, rfl, rfl, rfl, rfl, rfl, rfl, rfl, trivial⟩ (by decide) rfl st)
    replace h147 := ite_f b154 h147
    refine RL.skip rfl rfl ?_
    refine RL.skip rfl rfl ?_
    refine RL.skip rfl rfl ?_
    refine RL.skip rfl rfl ?_
    refine RL.skip rfl rfl ?_
    refine RL.skip rfl rfl ?_
    refine RL.skip rfl rfl ?_
    refine RL.skip rfl rfl ?_
    refine RL.skip rfl rfl ?_
    refine RL.skip rfl rfl ?_
    refine RL.pickF rfl rfl rfl rfl ?_
    refine RL.finQ ?_
    cases h147
    exact fun a w st => mid_intro false h148 (St.cut [0, 1, 4, 2] ⟨rfl, rfl, rfl, rfl, rfl, rfl, rfl, rfl, rfl, rfl, rfl, trivial⟩ (by decide) rfl st)
   rintro x144 h160
   have h161 := h149 _ h160
   try dsimp only at h161
   refine GL.weak (env' := [(1, v1), (2, .int .i64 x2), (9, v28), (10, .int .i64 x47), (11, .int .i64 x48), (12, .int .i64 (i110 : Int)), (13, v127), (47, v0), (48, .int .i64 ((x0).length : Int)), (49, .int .i64 (i110 : Int)), (71, .bool x144)]) (L' := [imm (TR.sl TR.int) v1 x1, own 3 TR.int v28 y26, obox 74 (TR.rec1 (TR.sl TR.int)) v127 y120, imm (TR.sl (TR.rec1 (TR.sl TR.int))) v0 x0]) (fun _ _ st => st) ?_
   refine GL.cond rfl (fun b162 => ?_) (fun b162 => ?_)
   ·replace h161 := ite_t b162 h161
    refine GL.regionQ rfl rfl (by kernel_rfl) ?_
    refine RL.mv rfl rfl rfl ?_
    refine RL.fadr (off := 0) (fo := 0) 2 Try_fld74_0 rfl rfl rfl PtOf.obox (Or.inr ⟨rfl, rfl⟩) ?_
    refine RL.ldP (off := (0 + 0)) (r := (TR.sl TR.int)) (e' := y120) 2 Try_ln22 rfl rfl (Or.inl rfl) rfl PtOf.obox (Part.rec1 Part.self) ?_
    intro v168
    refine RL.mv rfl rfl rfl ?_
    refine RL.mv rfl rfl rfl ?_
    obtain ⟨y169, e170, h161⟩ := bind_some h161
    refine RL.idxS (sz := 1) 1 Try.underlying22 Try_ln3 rfl rfl rfl rfl rfl SlOf.own (idx_some e170).1 (idx_some e170).2.1 ?_
    refine RL.ldSx (i := i110) (e' := y169) 1 Ex.ik Try_ln3 rfl rfl rfl rfl SlOf.own (idx_some e170).2.2 Part.self ?_
    obtain ⟨y171, e172, h161⟩ := bind_some h161
    refine RL.idxS (sz := 1) 4 Try.underlying22 Try_ln3 rfl rfl rfl rfl rfl SlOf.imm (idx_some e172).1 (idx_some e172).2.1 ?_
    refine RL.ldSx (i := (y169).toNat) (e' := y171) 4 Ex.ik Try_ln3 rfl rfl rfl rfl SlOf.imm (idx_some e172).2.2 Part.self ?_
    refine RL.asg rfl rfl rfl ?_
    refine RL.asg rfl rfl rfl ?_
    refine RL.finQG ?_
    refine GL.nilB ?_
    refine GL.region ?_
    refine RL.binI (v := .int .i64 ((i110 + 1 : Nat) : Int)) rfl rfl rfl rfl (binI_succ i110 (by omega)) ?_
    refine RL.mv rfl rfl rfl ?_
    refine RL.fin ?_
    cases h161
    exact fun a w st => lop_intro (i110 + 1, r122, (i110 : Int), y171) ⟨by show i110 + 1 + r122.length = (x0).length; simp only [List.length_cons] at h116; omega, h123, h114⟩ (by simp) (St.cut [0, 1, 3] ⟨rfl, rfl, rfl, rfl, rfl, rfl, rfl, rfl, trivial⟩ (by decide) rfl st)
   replace h161 := ite_f b162 h161
   refine GL.skip ?_
   refine GL.nilB ?_
   refine GL.region ?_
   refine RL.binI (v := .int .i64 ((i110 + 1 : Nat) : Int)) rfl rfl rfl rfl (binI_succ i110 (by omega)) ?_
   refine RL.mv rfl rfl rfl ?_
   refine RL.fin ?_
   cases h161
   exact fun a w st => lop_intro (i110 + 1, r122, x47, x48) ⟨by show i110 + 1 + r122.length = (x0).length; simp only [List.length_cons] at h116; omega, h123, h114⟩ (by simp) (St.cut [0, 1, 3] ⟨rfl, rfl, rfl, rfl, rfl, rfl, rfl, rfl, trivial⟩ (by decide) rfl st)
  have h119 : ¬ i110 < (x0).length := by have := of_decide_eq_false b118; omega
  obtain rfl : r111 = [] := by rw [← h117]; exact List.drop_of_length_le (by omega)
  replace h115 : some (Fl.nx _) = some y103 := h115
  cases h115
  exact GL.exit (fun a w st => mid_intro (x47, x48) h106 (St.cut [] ⟨rfl, trivial⟩ (by decide) rfl st))
 rintro ⟨x47, x48⟩ h173
 have h174 := h107 _ h173
 try dsimp only at h174
 refine GL.weak (env' := [(10, .int .i64 x47)]) (L' := []) (fun _ _ st => st) ?_
 refine GL.seq ?_
 refine GL.region ?_
 refine RL.mv rfl rfl rfl ?_
 refine RL.asg rfl rfl rfl ?_
 refine RL.asg rfl rfl rfl ?_
 refine RL.finG ?_
 have h174 := Option.some.inj h174
 subst h174
 exact GL.ret (Gx.ret (v := .tuple #[.int .i64 x47, .int .i64 (0 : Int)]) (res2 rfl rfl rfl) (fun a w st => st.toPostV))

set_option maxHeartbeats 4000000 in
theorem roads_Settle_c (S : Hp) (w : World) (hS : S.sub w) (v0 : Value) (x0 : (List (List Int))) (k0 : ((TR.sl (TR.rec1 (TR.sl TR.int)))).vrep S v0 x0) (v1 : Value) (x1 : (List Int)) (k1 : ((TR.sl TR.int)).vrep S v1 x1) (res : (List Int) × Int × Int) (hm : roads_Settle_m x0 x1 = some res) : Calls Try.prog 12 #[v0, v1] w (Post w S (fun (o : Value) => .tuple #[o, .int .i64 res.2.1, .int .i64 res.2.2]) (fun (o : Value) => [own 3 TR.int o res.1])) := by
 refine calls_enter 48 Try.func12 Try.ntmps12 rfl S false [(0, v0), (1, v1)] [imm (TR.sl (TR.rec1 (TR.sl TR.int))) v0 x0, imm (TR.sl TR.int) v1 x1] rfl ⟨rfl, ⟨rfl, trivial⟩⟩ hS ⟨k0, ⟨k1, trivial⟩⟩ ?_
 unfold roads_Settle_m at hm
 refine GL.seq ?_
 refine GL.region ?_
 refine RL.asg rfl rfl rfl ?_
 refine RL.asg rfl rfl rfl ?_
 refine RL.asg rfl rfl rfl ?_
 refine RL.finG ?_
 refine GL.seq ?_
 refine GL.seq ?_
 refine GL.region ?_
 refine RL.mv rfl rfl rfl ?_
 refine RL.mv rfl rfl rfl ?_
 obtain ⟨y5, e6, hm⟩ := bind_some hm
 refine RL.callV (v := .int .i64 y5) (vs := [v0, v1]) Try_fit34 rfl (Or.inl rfl) rfl rfl rfl rfl (fun U w hU hW hL => roads_Check_c U w hU _ _ (hL 0 _ _ rfl Seen.imm) _ _ (hL 1 _ _ rfl Seen.imm) _ e6) ?_
 refine RL.asg rfl rfl rfl ?_
 refine RL.finG ?_
 refine GL.seq ?_
 refine GL.region ?_
 refine RL.mv rfl rfl rfl ?_
 refine RL.binI (v := .bool (y5 != (0 : Int))) rfl rfl rfl rfl rfl ?_
 refine RL.finG ?_
 refine GL.cond rfl (fun b7 => ?_) (fun b7 => ?_)
 ·replace hm := ite_t b7 hm
  refine GL.seq ?_
  refine GL.region ?_
  refine RL.mv rfl rfl rfl ?_
  refine RL.asg rfl rfl rfl ?_
  refine RL.asg rfl rfl rfl ?_
  refine RL.asg rfl rfl rfl ?_
  refine RL.finG ?_
  refine GL.weak (fun a w st => st.nilOwn 3 TR.int) ?_
  have hm := Option.some.inj hm
  subst hm
  exact GL.ret (Gx.ret (v := .tuple #[Value.slice none 0 0, .int .i64 (0 : Int), .int .i64 y5]) (res3 rfl rfl rfl rfl) (fun a w st => (st.pick [2] (by decide) rfl).toPost (Value.slice none 0 0)))
 replace hm := ite_f b7 hm
 refine GL.skip ?_
 refine GL.seq ?_
 refine GL.region ?_
 refine RL.mv rfl rfl rfl ?_
 obtain ⟨y11, e12, hm⟩ := bind_some hm
 refine RL.call (vs := [v1]) Try_fit35 rfl rfl rfl rfl rfl (fun S f w hS hW hi => slices_Clone_int_int_c S w hS _ _ (hi 1 _ rfl) _ e12) ?_
 intro v13
 refine RL.asg rfl rfl rfl ?_
 refine RL.finG ?_
 refine GL.seq ?_
 refine GL.region ?_
 refine RL.asg rfl rfl rfl ?_
 refine RL.finG ?_
 refine GL.seq ?_
 refine GL.seq ?_
 refine GL.region ?_
 refine RL.asg rfl rfl rfl ?_
 refine RL.finG ?_
 obtain ⟨y47, K48, h49, h50, h51, h52, h53⟩ := bindR_K hm
 refine GL.join (ι := (List Int) × Int × Int) (fun (p : (List Int) × Int × Int) => [(8, v13), (9, .int .i64 p.2.1)]) (fun (p : (List Int) × Int × Int) => [own 3 TR.int v13 p.1]) (fun (p : (List Int) × Int × Int) => K48 (.nx (p.1, p.2.1, p.2.2))) ?_ ?_
 ·refine GL.block ?_
  refine GL.loop (ι := Nat × (List Int) × Int × Int) (fun (p : Nat × (List Int) × Int × Int) => [(0, v0), (8, v13), (9, .int .i64 p.2.2.1), (10, .int .i64 p.2.2.2)]) (fun (p : Nat × (List Int) × Int × Int) => [imm (TR.sl (TR.rec1 (TR.sl TR.int))) v0 x0, own 3 TR.int v13 p.2.1]) (fun (p : Nat × (List Int) × Int × Int) => loopM (roads_Settle_b1 x0) p.1 (p.2.1, p.2.2.1, p.2.2.2) = some y47) (fun (p : Nat × (List Int) × Int × Int) => p.1) (1048576, y11, (0 : Int), (0 : Int)) h49 (fun a w st => St.cut [0, 2] ⟨rfl, rfl, rfl, rfl, trivial⟩ (by decide) rfl st) ?_
  rintro ⟨r55, l30, x31, x32⟩ h59
  try dsimp only at h59
  refine GL.weak (env' := [(0, v0), (8, v13), (9, .int .i64 x31), (10, .int .i64 x32)]) (L' := [imm (TR.sl (TR.rec1 (TR.sl TR.int))) v0 x0, own 3 TR.int v13 l30]) (fun _ _ st => st) ?_
  obtain ⟨r62, z56, hr, h57, h58⟩ := loopM_some h59
  subst hr
  unfold roads_Settle_b1 at h57
  try dsimp only at h57
  refine GL.seq ?_
  refine GL.seq ?_
  refine GL.region ?_
  refine RL.mv rfl rfl rfl ?_
  refine RL.mv rfl rfl rfl ?_
  refine RL.lenS 1 Try.underlying22 rfl rfl rfl rfl SlOf.own ?_
  refine RL.binI (v := .bool (decide (x32 < ((l30).length : Int)))) rfl rfl rfl rfl rfl ?_
  refine RL.finG ?_
  refine GL.cond rfl (fun b63 => ?_) (fun b63 => ?_)
  ·replace h57 := ite_t b63 h57
   refine GL.skip ?_
   refine GL.seq ?_
   refine GL.block ?_
   refine GL.seq ?_
   refine GL.region ?_
   refine RL.mv rfl rfl rfl ?_
   refine RL.mv rfl rfl rfl ?_
   refine RL.mv rfl rfl rfl ?_
   obtain ⟨y66, e67, h57⟩ := bind_some h57
   refine RL.callV (v := .tuple #[.int .i64 y66.1, .int .i64 y66.2]) (vs := [v0, v13, .int .i64 x32]) Try_fit36 rfl (Or.inl rfl) rfl rfl rfl rfl (fun U w hU hW hL => roads_Better_c U w hU _ _ (hL 0 _ _ rfl Seen.imm) _ _ (hL 1 _ _ rfl Seen.own) x32 _ e67) ?_
   refine RL.mv rfl rfl rfl ?_
   refine RL.ext rfl rfl rfl rfl ?_
   refine RL.ext rfl rfl rfl rfl ?_
   refine RL.asg rfl rfl rfl ?_
   refine RL.asg rfl rfl rfl ?_
   refine RL.finG ?_
   refine GL.seq ?_
   refine GL.region ?_
   refine RL.mv rfl rfl rfl ?_
   refine RL.mv rfl rfl rfl ?_
   refine RL.mv rfl rfl rfl ?_
   obtain ⟨y70, e71, h57⟩ := bind_some h57
   refine RL.idxS (sz := 1) 1 Try.underlying22 Try_ln3 rfl rfl rfl rfl rfl SlOf.own (idx_some e71).1 (idx_some e71).2.1 ?_
   refine RL.ldSx (i := (x32).toNat) (e' := y70) 1 Ex.ik Try_ln3 rfl rfl rfl rfl SlOf.own (idx_some e71).2.2 Part.self ?_
   refine RL.binI (v := .bool (y66.1 != y70)) rfl rfl rfl rfl rfl ?_
   refine RL.finG ?_
   refine GL.cond rfl (fun b72 => ?_) (fun b72 => ?_)
   ·replace h57 := ite_t b72 h57
    refine GL.seq ?_
    refine GL.region ?_
    refine RL.mv rfl rfl rfl ?_
    refine RL.mv rfl rfl rfl ?_
    refine RL.mv rfl rfl rfl ?_
    obtain ⟨y75, e76, h57⟩ := bind_some h57
    refine RL.idxS (sz := 1) 1 Try.underlying22 Try_ln3 rfl rfl rfl rfl rfl SlOf.own (idx_some e76).1 (idx_some e76).2.1 ?_
    refine RL.stS (i := (x32).toNat) (e' := y66.1) (e1 := y66.1) (r := TR.int) 1 Try_ln3 rfl rfl rfl rfl VR.int rfl (idx_some e76).2.2 Upd.self ?_
    refine RL.finG ?_
    refine GL.seq ?_
    refine GL.region ?_
    refine RL.mv rfl rfl rfl ?_
    refine RL.binI (v := .int .i64 (wadd x31 (1 : Int))) rfl rfl rfl rfl rfl ?_
    refine RL.asg rfl rfl rfl ?_
    refine RL.finG ?_
    refine GL.region ?_
    refine RL.asg rfl rfl rfl ?_
    refine RL.finG ?_
    refine GL.nilB ?_
    refine GL.region ?_
    refine RL.mv rfl rfl rfl ?_
    refine RL.binI (v := .int .i64 (wadd (-1 : Int) (1 : Int))) rfl rfl rfl rfl rfl ?_
    refine RL.asg rfl rfl rfl ?_
    refine RL.finG ?_
    cases h57
    exact fun a w st => lop_intro (r62, (List.set l30 ((x32).toNat) y66.1), wadd x31 (1 : Int), wadd (-1 : Int) (1 : Int)) (by exact h58) (by simp) (St.cut [0, 1] ⟨rfl, rfl, rfl, rfl, trivial⟩ (by decide) rfl st)
   replace h57 := ite_f b72 h57
   refine GL.skip ?_
   refine GL.nilB ?_
   refine GL.region ?_
   refine RL.mv rfl rfl rfl ?_
   refine RL.binI (v := .int .i64 (wadd x32 (1 : Int))) rfl rfl rfl rfl rfl ?_
   refine RL.asg rfl rfl rfl ?_
   refine RL.finG ?_
   cases h57
   exact fun a w st => lop_intro (r62, l30, x31, wadd x32 (1 : Int)) (by exact h58) (by simp) (St.cut [0, 1] ⟨rfl, rfl, rfl, rfl, trivial⟩ (by decide) rfl st)
  replace h57 := ite_f b63 h57
  cases h57
  replace h58 : some (Fl.nx _) = some y47 := h58
  cases h58
  exact GL.exit (fun a w st => mid_intro (l30, x31, x32) h50 (St.cut [1] ⟨rfl, rfl, trivial⟩ (by decide) rfl st))
 rintro ⟨l30, x31, x32⟩ h77
 have h78 := h51 _ h77
 try dsimp only at h78
 refine GL.weak (env' := [(8, v13), (9, .int .i64 x31)]) (L' := [own 3 TR.int v13 l30]) (fun _ _ st => st) ?_
 refine GL.seq ?_
 refine GL.region ?_
 refine RL.mv rfl rfl rfl ?_
 refine RL.mv rfl rfl rfl ?_
 refine RL.asg rfl rfl rfl ?_
 refine RL.asg rfl rfl rfl ?_
 refine RL.asg rfl rfl rfl ?_
 refine RL.finG ?_
 have h78 := Option.some.inj h78
 subst h78
 exact GL.ret (Gx.ret (v := .tuple #[v13, .int .i64 x31, .int .i64 (0 : Int)]) (res3 rfl rfl rfl rfl) (fun a w st => (st.pick [0] (by decide) rfl).toPost v13))

set_option maxHeartbeats 4000000 in
theorem roads_Costs_c (S : Hp) (w : World) (hS : S.sub w) (v0 : Value) (x0 : (List (List Int))) (k0 : ((TR.sl (TR.rec1 (TR.sl TR.int)))).vrep S v0 x0) (v1 : Value) (x1 : (List Int)) (k1 : ((TR.sl TR.int)).vrep S v1 x1) (res : (List Int) × Int) (hm : roads_Costs_m x0 x1 = some res) : Calls Try.prog 13 #[v0, v1] w (Post w S (fun (o : Value) => .tuple #[o, .int .i64 res.2]) (fun (o : Value) => [own 3 TR.int o res.1])) := by
 refine calls_enter 47 Try.func13 Try.ntmps13 rfl S false [(0, v0), (1, v1)] [imm (TR.sl (TR.rec1 (TR.sl TR.int))) v0 x0, imm (TR.sl TR.int) v1 x1] rfl ⟨rfl, ⟨rfl, trivial⟩⟩ hS ⟨k0, ⟨k1, trivial⟩⟩ ?_
 unfold roads_Costs_m at hm
 refine GL.seq ?_
 refine GL.region ?_
 refine RL.asg rfl rfl rfl ?_
 refine RL.asg rfl rfl rfl ?_
 refine RL.finG ?_
 refine GL.seq ?_
 refine GL.seq ?_
 refine GL.region ?_
 refine RL.mv rfl rfl rfl ?_
 refine RL.mv rfl rfl rfl ?_
 obtain ⟨y5, e6, hm⟩ := bind_some hm
 refine RL.callV (v := .int .i64 y5) (vs := [v0, v1]) Try_fit34 rfl (Or.inl rfl) rfl rfl rfl rfl (fun U w hU hW hL => roads_Check_c U w hU _ _ (hL 0 _ _ rfl Seen.imm) _ _ (hL 1 _ _ rfl Seen.imm) _ e6) ?_
 refine RL.asg rfl rfl rfl ?_
 refine RL.finG ?_
 refine GL.seq ?_
 refine GL.region ?_
 refine RL.mv rfl rfl rfl ?_
 refine RL.binI (v := .bool (y5 != (0 : Int))) rfl rfl rfl rfl rfl ?_
 refine RL.finG ?_
 refine GL.cond rfl (fun b7 => ?_) (fun b7 => ?_)
 ·replace hm := ite_t b7 hm
  refine GL.seq ?_
  refine GL.region ?_
  refine RL.mv rfl rfl rfl ?_
  refine RL.asg rfl rfl rfl ?_
  refine RL.asg rfl rfl rfl ?_
  refine RL.finG ?_
  refine GL.weak (fun a w st => st.nilOwn 3 TR.int) ?_
  have hm := Option.some.inj hm
  subst hm
  exact GL.ret (Gx.ret (v := .tuple #[Value.slice none 0 0, .int .i64 y5]) (res2 rfl rfl rfl) (fun a w st => (st.pick [2] (by decide) rfl).toPost (Value.slice none 0 0)))
 replace hm := ite_f b7 hm
 refine GL.skip ?_
 refine GL.seq ?_
 refine GL.region ?_
 refine RL.mv rfl rfl rfl ?_
 refine RL.mv rfl rfl rfl ?_
 obtain ⟨y11, e12, hm⟩ := bind_some hm
 refine RL.call (vs := [v0, v1]) Try_fit37 rfl rfl rfl rfl rfl (fun S f w hS hW hi => roads_load_c S w hS _ _ (hi 0 _ rfl) _ _ (hi 1 _ rfl) _ e12) ?_
 intro v13
 refine RL.asg rfl rfl rfl ?_
 refine RL.finG ?_
 refine GL.seq ?_
 refine GL.region ?_
 refine RL.mv rfl rfl rfl ?_
 refine RL.lenS 1 Try.underlying22 rfl rfl rfl rfl SlOf.imm ?_
 obtain ⟨y17, e18, hm⟩ := bind_some hm
 replace e18 := chk_some e18
 refine RL.mkS (t := TR.int) (z := (0 : Int)) Try.underlying22 Try_lo3 (fun S => rfl) rfl rfl rfl rfl e18.1 e18.2 ?_
 intro v19
 refine RL.reL (L' := [imm (TR.sl (TR.rec1 (TR.sl TR.int))) v0 x0, imm (TR.sl TR.int) v1 x1, own 3 TR.int v13 y11, own 3 TR.int v19 (List.replicate (((x1).length : Int)).toNat (0 : Int))]) rfl ?_
 refine RL.asg rfl rfl rfl ?_
 refine RL.finG ?_
 refine GL.seq ?_
 refine GL.seq ?_
 refine GL.region ?_
 refine RL.mv rfl rfl rfl ?_
 refine RL.lenS 1 Try.underlying22 rfl rfl rfl rfl SlOf.imm ?_
 refine RL.mv rfl rfl rfl ?_
 refine RL.finG ?_
 refine GL.open_ 1 rfl (fun S h => len_imm S h) (fun n65 => ?_)
 obtain ⟨y66, K67, h68, h69, h70, h71, h72⟩ := bindR_K hm
 refine GL.join (ι := (List Int)) (fun (p : (List Int)) => [(8, v19)]) (fun (p : (List Int)) => [own 3 TR.int v19 p]) (fun (p : (List Int)) => K67 (.nx p)) ?_ ?_
 ·refine GL.block ?_
  refine GL.loop (ι := Nat × (List Int) × (List Int)) (fun (p : Nat × (List Int) × (List Int)) => [(0, v0), (7, v13), (8, v19), (23, v1), (24, .int .i64 ((x1).length : Int)), (25, .int .i64 (p.1 : Int))]) (fun (p : Nat × (List Int) × (List Int)) => [imm (TR.sl (TR.rec1 (TR.sl TR.int))) v0 x0, own 3 TR.int v13 y11, own 3 TR.int v19 p.2.2, imm (TR.sl TR.int) v1 x1]) (fun (p : Nat × (List Int) × (List Int)) => p.1 + p.2.1.length = (x1).length ∧ List.drop p.1 x1 = p.2.1 ∧ rangeL (roads_Costs_b1 x0 y11) p.2.1 p.1 p.2.2 = some y66) (fun (p : Nat × (List Int) × (List Int)) => p.2.1.length) (0, x1, (List.replicate (((x1).length : Int)).toNat (0 : Int))) ⟨by simp, by simp, h68⟩ (fun a w st => St.cut [0, 2, 3, 1] ⟨rfl, rfl, rfl, rfl, rfl, rfl, trivial⟩ (by decide) rfl st) ?_
  rintro ⟨i73, r74, l42⟩ ⟨h79, h80, h78⟩
  try dsimp only at h79 h80 h78
  refine GL.weak (env' := [(0, v0), (7, v13), (8, v19), (23, v1), (24, .int .i64 ((x1).length : Int)), (25, .int .i64 (i73 : Int))]) (L' := [imm (TR.sl (TR.rec1 (TR.sl TR.int))) v0 x0, own 3 TR.int v13 y11, own 3 TR.int v19 l42, imm (TR.sl TR.int) v1 x1]) (fun _ _ st => st) ?_
  refine GL.seq ?_
  refine GL.region ?_
  refine RL.binI (v := .bool (decide ((i73 : Int) < ((x1).length : Int)))) rfl rfl rfl rfl rfl ?_
  refine RL.finG ?_
  refine GL.seq ?_
  refine GL.cond rfl (fun b81 => ?_) (fun b81 => ?_)
  ·have h82 : i73 < (x1).length := by have := of_decide_eq_true b81; omega
   obtain ⟨y83, r85, hr, e84, h86⟩ := drop_cons h80 rfl h82
   subst hr
   obtain ⟨z75, h76, h77⟩ := rangeL_some h78
   unfold roads_Costs_b1 at h76
   try dsimp only at h76
   refine GL.skip ?_
   refine GL.seq ?_
   refine GL.block ?_
   refine GL.seq ?_
   refine GL.region ?_
   refine RL.mv rfl rfl rfl ?_
   refine RL.idxS (sz := 1) 3 Try.underlying22 Try_ln3 rfl rfl rfl rfl rfl SlOf.imm (by omega) (by omega) ?_
   refine RL.ldSx (i := i73) (e' := y83) 3 Ex.ik Try_ln3 rfl rfl rfl rfl SlOf.imm e84 Part.self ?_
   refine RL.asg rfl rfl rfl ?_
   refine RL.asg rfl rfl rfl ?_
   refine RL.finG ?_
   refine GL.regionH 15 rfl rfl (by kernel_rfl) ?_
   simp only [List.take_succ_cons, List.take_zero, List.drop_succ_cons, List.drop_zero]
   refine RL.mv rfl rfl rfl ?_
   refine RL.mv rfl rfl rfl ?_
   refine RL.mv rfl rfl rfl ?_
   refine RL.mv rfl rfl rfl ?_
   obtain ⟨y96, e97, h76⟩ := bind_some h76
   refine RL.idxS (sz := 1) 0 Try.underlying36 Try_ln74 rfl rfl rfl rfl rfl SlOf.imm (idx_some e97).1 (idx_some e97).2.1 ?_
   refine RL.fadrS (off := ((y83).toNat * 1)) (fo := 0) 0 Try_fld74_0 rfl rfl rfl SlOf.imm (by have := (List.getElem?_eq_some_iff.1 (idx_some e97).2.2).1; omega) rfl ?_
   refine RL.ldS (i := (y83).toNat) (r := (TR.sl TR.int)) (e' := y96) 0 Try_ln22 rfl rfl rfl rfl SlOf.imm (idx_some e97).2.2 (Part.rec1 Part.self) ?_
   intro v98
   refine RL.mv rfl rfl rfl ?_
   refine RL.mv rfl rfl rfl ?_
   obtain ⟨y99, e100, h76⟩ := bind_some h76
   refine RL.idxS (sz := 1) 1 Try.underlying22 Try_ln3 rfl rfl rfl rfl rfl SlOf.own (idx_some e100).1 (idx_some e100).2.1 ?_
   refine RL.ldSx (i := (y83).toNat) (e' := y99) 1 Ex.ik Try_ln3 rfl rfl rfl rfl SlOf.own (idx_some e100).2.2 Part.self ?_
   refine RL.binI (v := .int .i64 (wsub y99 (1 : Int))) rfl rfl rfl rfl rfl ?_
   obtain ⟨y101, e102, h76⟩ := bind_some h76
   refine RL.idxS (sz := 1) 4 Try.underlying22 Try_ln3 rfl rfl rfl rfl rfl SlOf.imm (idx_some e102).1 (idx_some e102).2.1 ?_
   refine RL.ldSx (i := (wsub y99 (1 : Int)).toNat) (e' := y101) 4 Ex.ik Try_ln3 rfl rfl rfl rfl SlOf.imm (idx_some e102).2.2 Part.self ?_
   obtain ⟨y103, e104, h76⟩ := bind_some h76
   refine RL.idxS (sz := 1) 2 Try.underlying22 Try_ln3 rfl rfl rfl rfl rfl SlOf.own (idx_some e104).1 (idx_some e104).2.1 ?_
   refine RL.finH ?_
   refine RL.stS (i := i73) (e' := y101) (e1 := y101) (r := TR.int) 2 Try_ln3 rfl rfl rfl rfl VR.int rfl (idx_some e104).2.2 Upd.self ?_
   refine RL.reL (L' := [imm (TR.sl (TR.rec1 (TR.sl TR.int))) v0 x0, own 3 TR.int v13 y11, own 3 TR.int v19 (List.set l42 i73 y101), imm (TR.sl TR.int) v1 x1, imm (TR.sl TR.int) v98 y96]) rfl ?_
   refine RL.finG ?_
   refine GL.nilB ?_
   refine GL.region ?_
   refine RL.binI (v := .int .i64 ((i73 + 1 : Nat) : Int)) rfl rfl rfl rfl (binI_succ i73 (by omega)) ?_
   refine RL.mv rfl rfl rfl ?_
   refine RL.fin ?_
   cases h76
   exact fun a w st => lop_intro (i73 + 1, r85, (List.set l42 i73 y101)) ⟨by show i73 + 1 + r85.length = (x1).length; simp only [List.length_cons] at h79; omega, h86, h77⟩ (by simp) (St.cut [0, 1, 2, 3] ⟨rfl, rfl, rfl, rfl, rfl, rfl, trivial⟩ (by decide) rfl st)
  have h82 : ¬ i73 < (x1).length := by have := of_decide_eq_false b81; omega
  obtain rfl : r74 = [] := by rw [← h80]; exact List.drop_of_length_le (by omega)
  replace h78 : some (Fl.nx _) = some y66 := h78
  cases h78
  exact GL.exit (fun a w st => mid_intro l42 h69 (St.cut [2] ⟨rfl, trivial⟩ (by decide) rfl st))
 rintro l42 h105
 have h106 := h70 _ h105
 try dsimp only at h106
 refine GL.weak (env' := [(8, v19)]) (L' := [own 3 TR.int v19 l42]) (fun _ _ st => st) ?_
 refine GL.seq ?_
 refine GL.region ?_
 refine RL.mv rfl rfl rfl ?_
 refine RL.asg rfl rfl rfl ?_
 refine RL.asg rfl rfl rfl ?_
 refine RL.finG ?_
 have h106 := Option.some.inj h106
 subst h106
 exact GL.ret (Gx.ret (v := .tuple #[v19, .int .i64 (0 : Int)]) (res2 rfl rfl rfl) (fun a w st => (st.pick [0] (by decide) rfl).toPost v19))

set_option maxHeartbeats 4000000 in
theorem saddle_Check_c (S : Hp) (w : World) (hS : S.sub w) (v0 : Value) (x0 : (List (List Int))) (k0 : ((TR.sl (TR.sl TR.int))).vrep S v0 x0) (res : Int) (hm : saddle_Check_m x0 = some res) : Calls Try.prog 65 #[v0] w (PostC w (.int .i64 res)) := by
 refine calls_enter 50 Try.func65 Try.ntmps65 rfl S true [(0, v0)] [imm (TR.sl (TR.sl TR.int)) v0 x0] rfl ⟨rfl, trivial⟩ hS ⟨k0, trivial⟩ ?_
 unfold saddle_Check_m at hm
 refine GL.seq ?_
 refine GL.region ?_
 refine RL.asg rfl rfl rfl ?_
 refine RL.finG ?_
 refine GL.seq ?_
 refine GL.seq ?_
 obtain ⟨y5, K6, h7, h8, h9, h10, h11⟩ := bindR_K hm
 refine GL.join (ι := Bool) (fun (p : Bool) => [(0, v0), (14, .bool p)]) (fun (p : Bool) => [imm (TR.sl (TR.sl TR.int)) v0 x0]) (fun (p : Bool) => K6 (.nx p)) ?_ ?_
 ·skip
  refine GL.region ?_
  refine RL.mv rfl rfl rfl ?_
  refine RL.lenS 0 Try.underlying27 rfl rfl rfl rfl SlOf.imm ?_
  refine RL.binI (v := .bool (decide (((x0).length : Int) < (1 : Int)))) rfl rfl rfl rfl rfl ?_
  refine RL.mv rfl rfl rfl ?_
  refine RL.split (t := 10) rfl (fun b12 => ?_) (fun b12 => ?_)
  ·replace h7 := ite_t b12 h7
   refine RL.skip rfl rfl ?_
   refine RL.skip rfl rfl ?_
   refine RL.skip rfl rfl ?_
   refine RL.pickT rfl rfl rfl rfl ?_
   refine RL.fin ?_
   cases h7
   exact fun a w st => mid_intro true h8 (St.cut [0] ⟨rfl, rfl, trivial⟩ (by decide) rfl st)
  replace h7 := ite_f b12 h7
  refine RL.mv rfl rfl rfl ?_
  refine RL.lenS 0 Try.underlying27 rfl rfl rfl rfl SlOf.imm ?_
  refine RL.binI (v := .bool (decide (((x0).length : Int) > (6 : Int)))) rfl rfl rfl rfl rfl ?_
  refine RL.pickF rfl rfl rfl rfl ?_
  refine RL.fin ?_
  cases h7
  exact fun a w st => mid_intro (decide (((x0).length : Int) > (6 : Int))) h8 (St.cut [0] ⟨rfl, rfl, trivial⟩ (by decide) rfl st)
 rintro x4 h13
 have h14 := h9 _ h13
 try dsimp only at h14
 refine GL.weak (env' := [(0, v0), (14, .bool x4)]) (L' := [imm (TR.sl (TR.sl TR.int)) v0 x0]) (fun _ _ st => st) ?_
 refine GL.cond rfl (fun b15 => ?_) (fun b15 => ?_)
 ·replace h14 := ite_t b15 h14
  refine GL.seq ?_
  refine GL.region ?_
  refine RL.asg rfl rfl rfl ?_
  refine RL.finG ?_
  have h14 := Option.some.inj h14
  subst h14
  exact GL.ret (Gx.ret (v := .int .i64 (2 : Int)) (res1 rfl rfl) (fun a w st => st.toPostC rfl))
 replace h14 := ite_f b15 h14
 refine GL.skip ?_
 refine GL.seq ?_
 refine GL.seq ?_
 refine GL.region ?_
 refine RL.mv rfl rfl rfl ?_
 refine RL.lenS 0 Try.underlying27 rfl rfl rfl rfl SlOf.imm ?_
 refine RL.mv rfl rfl rfl ?_
 refine RL.finG ?_
 refine GL.open_ 0 rfl (fun S h => len_imm S h) (fun n99 => ?_)
 obtain ⟨y100, K101, h102, h103, h104, h105, h106⟩ := bindR_K h14
 refine GL.join (ι := Unit) (fun (p : Unit) => []) (fun (p : Unit) => []) (fun (p : Unit) => K101 (.nx ())) ?_ ?_
 ·refine GL.block ?_
  refine GL.loop (ι := Nat × (List (List Int))) (fun (p : Nat × (List (List Int))) => [(0, v0), (15, v0), (16, .int .i64 ((x0).length : Int)), (17, .int .i64 (p.1 : Int))]) (fun (p : Nat × (List (List Int))) => [imm (TR.sl (TR.sl TR.int)) v0 x0]) (fun (p : Nat × (List (List Int))) => p.1 + p.2.length = (x0).length ∧ List.drop p.1 x0 = p.2 ∧ rangeL (saddle_Check_b1 x0) p.2 p.1 () = some y100) (fun (p : Nat × (List (List Int))) => p.2.length) (0, x0) ⟨by simp, by simp, h102⟩ (fun a w st => St.cut [0] ⟨rfl, rfl, rfl, rfl, trivial⟩ (by decide) rfl st) ?_
  rintro ⟨i107, r108⟩ ⟨h113, h114, h112⟩
  try dsimp only at h113 h114 h112
  refine GL.weak (env' := [(0, v0), (15, v0), (16, .int .i64 ((x0).length : Int)), (17, .int .i64 (i107 : Int))]) (L' := [imm (TR.sl (TR.sl TR.int)) v0 x0]) (fun _ _ st => st) ?_
  refine GL.seq ?_
  refine GL.region ?_
  refine RL.binI (v := .bool (decide ((i107 : Int) < ((x0).length : Int)))) rfl rfl rfl rfl rfl ?_
  refine RL.finG ?_
  refine GL.seq ?_
  refine GL.cond rfl (fun b115 => ?_) (fun b115 => ?_)
  ·have h116 : i107 < (x0).length := by have := of_decide_eq_true b115; omega
   obtain ⟨y117, r119, hr, e118, h120⟩ := drop_cons h114 rfl h116
   subst hr
   obtain ⟨z109, h110, h111⟩ := rangeL_some h112
   unfold saddle_Check_b1 at h110
   try dsimp only at h110
   refine GL.skip ?_
   refine GL.seq ?_
   refine GL.block ?_
   refine GL.seq ?_
   refine GL.region ?_
   refine RL.idxS (sz := 1) 0 Try.underlying27 Try_ln22 rfl rfl rfl rfl rfl SlOf.imm (by omega) (by omega) ?_
   refine RL.ldS (i := i107) (r := (TR.sl TR.int)) (e' := y117) 0 Try_ln22 rfl rfl rfl rfl SlOf.imm e118 Part.self ?_
   intro v122
   refine RL.asg rfl rfl rfl ?_
   refine RL.finG ?_
   refine GL.seq ?_
   refine GL.seq ?_
   refine GL.region ?_
   refine RL.mv rfl rfl rfl ?_
   refine RL.lenS 1 Try.underlying22 rfl rfl rfl rfl SlOf.imm ?_
   refine RL.mv rfl rfl rfl ?_
   obtain ⟨y126, e127, h110⟩ := bind_some h110
   refine RL.idxS (sz := 1) 0 Try.underlying27 Try_ln22 rfl rfl rfl rfl rfl SlOf.imm (idx_some e127).1 (idx_some e127).2.1 ?_
   refine RL.ldS (i := ((0 : Int)).toNat) (r := (TR.sl TR.int)) (e' := y126) 0 Try_ln22 rfl rfl rfl rfl SlOf.imm (idx_some e127).2.2 Part.self ?_
   intro v128
   refine RL.reL (L' := [imm (TR.sl (TR.sl TR.int)) v0 x0, imm (TR.sl TR.int) v122 y117, imm (TR.sl TR.int) v128 y126]) rfl ?_
   refine RL.lenS 2 Try.underlying22 rfl rfl rfl rfl SlOf.imm ?_
   refine RL.binI (v := .bool (((y117).length : Int) != ((y126).length : Int))) rfl rfl rfl rfl rfl ?_
   refine RL.finG ?_
   refine GL.cond rfl (fun b129 => ?_) (fun b129 => ?_)
   ·replace h110 := ite_t b129 h110
    refine GL.seq ?_
    refine GL.region ?_
    refine RL.asg rfl rfl rfl ?_
    refine RL.finG ?_
    cases h110
    replace h111 : some (Fl.rt _) = some y100 := h111
    cases h111
    have hh := h105 _ h103
    subst hh
    exact GL.ret (Gx.ret (v := .int .i64 (3 : Int)) (res1 rfl rfl) (fun a w st => st.toPostC rfl))
   replace h110 := ite_f b129 h110
   refine GL.skip ?_
   refine GL.seq ?_
   refine GL.seq ?_
   obtain ⟨y133, K134, h135, h136, h137, h138, h139⟩ := bindF_K h110
   refine GL.join (ι := Bool) (fun (p : Bool) => [(0, v0), (4, v122), (15, v0), (16, .int .i64 ((x0).length : Int)), (17, .int .i64 (i107 : Int)), (35, .bool p)]) (fun (p : Bool) => [imm (TR.sl (TR.sl TR.int)) v0 x0, imm (TR.sl TR.int) v122 y117]) (fun (p : Bool) => K134 (.nx p)) ?_ ?_
   ·skip
    refine GL.region ?_
    refine RL.mv rfl rfl rfl ?_
    refine RL.lenS 1 Try.underlying22 rfl rfl rfl rfl SlOf.imm ?_
    refine RL.binI (v := .bool (decide (((y117).length : Int) < (1 : Int)))) rfl rfl rfl rfl rfl ?_
    refine RL.mv rfl rfl rfl ?_
    refine RL.split (t := 31) rfl (fun b140 => ?_) (fun b140 => ?_)
    ·replace h135 := ite_t b140 h135
     refine RL.skip rfl rfl ?_
     refine RL.skip rfl rfl ?_
     refine RL.skip rfl rfl ?_
     refine RL.pickT rfl rfl rfl rfl ?_
     refine RL.fin ?_
     cases h135
     exact fun a w st => mid_intro true h136 (St.cut [0, 1] ⟨rfl, rfl, rfl, rfl, rfl, rfl, trivial⟩ (by decide) rfl st)
    replace h135 := ite_f b140 h135
    refine RL.mv rfl rfl rfl ?_
    refine RL.lenS 1 Try.underlying22 rfl rfl rfl rfl SlOf.imm ?_
    refine RL.binI (v := .bool (decide (((y117).length : Int) > (6 : Int)))) rfl rfl rfl rfl rfl ?_
    refine RL.pickF rfl rfl rfl rfl ?_
    refine RL.fin ?_
    cases h135
    exact fun a w st => mid_intro (decide (((y117).length : Int) > (6 : Int))) h136 (St.cut [0, 1] ⟨rfl, rfl, rfl, rfl, rfl, rfl, trivial⟩ (by decide) rfl st)
   rintro x132 h141
   have h142 := h137 _ h141
   try dsimp only at h142
   refine GL.weak (env' := [(0, v0), (4, v122), (15, v0), (16, .int .i64 ((x0).length : Int)), (17, .int .i64 (i107 : Int)), (35, .bool x132)]) (L' := [imm (TR.sl (TR.sl TR.int)) v0 x0, imm (TR.sl TR.int) v122 y117]) (fun _ _ st => st) ?_
   refine GL.cond rfl (fun b143 => ?_) (fun b143 => ?_)
   ·replace h142 := ite_t b143 h142
    refine GL.seq ?_
    refine GL.region ?_
    refine RL.asg rfl rfl rfl ?_
    refine RL.finG ?_
    cases h142
    replace h111 : some (Fl.rt _) = some y100 := h111
    cases h111
    have hh := h105 _ h103
    subst hh
    exact GL.ret (Gx.ret (v := .int .i64 (2 : Int)) (res1 rfl rfl) (fun a w st => st.toPostC rfl))
   replace h142 := ite_f b143 h142
   refine GL.skip ?_
   refine GL.seq ?_
   refine GL.region ?_
   refine RL.mv rfl rfl rfl ?_
   refine RL.lenS 1 Try.underlying22 rfl rfl rfl rfl SlOf.imm ?_
   refine RL.mv rfl rfl rfl ?_
   refine RL.finG ?_
   refine GL.open_ 1 rfl (fun S h => len_imm S h) (fun n162 => ?_)
   obtain ⟨y163, K164, h165, h166, h167, h168, h169⟩ := bindF_K h142
   refine GL.join (ι := Unit) (fun (p : Unit) => [(0, v0), (15, v0), (16, .int .i64 ((x0).length : Int)), (17, .int .i64 (i107 : Int))]) (fun (p : Unit) => [imm (TR.sl (TR.sl TR.int)) v0 x0]) (fun (p : Unit) => K164 (.nx ())) ?_ ?_
   ·refine GL.block ?_
    refine GL.loop (ι := Nat × (List Int)) (fun (p : Nat × (List Int)) => [(0, v0), (15, v0), (16, .int .i64 ((x0).length : Int)), (17, .int .i64 (i107 : Int)), (36, v122), (37, .int .i64 ((y117).length : Int)), (38, .int .i64 (p.1 : Int))]) (fun (p : Nat × (List Int)) => [imm (TR.sl (TR.sl TR.int)) v0 x0, imm (TR.sl TR.int) v122 y117]) (fun (p : Nat × (List Int)) => p.1 + p.2.length = (y117).length ∧ List.drop p.1 y117 = p.2 ∧ rangeL saddle_Check_b2 p.2 p.1 () = some y163) (fun (p : Nat × (List Int)) => p.2.length) (0, y117) ⟨by simp, by simp, h165⟩ (fun a w st => St.cut [0, 1] ⟨rfl, rfl, rfl, rfl, rfl, rfl, rfl, trivial⟩ (by decide) rfl st) ?_
    rintro ⟨i170, r171⟩ ⟨h176, h177, h175⟩
    try dsimp only at h176 h177 h175
    refine GL.weak (env' := [(0, v0), (15, v0), (16, .int .i64 ((x0).length : Int)), (17, .int .i64 (i107 : Int)), (36, v122), (37, .int .i64 ((y117).length : Int)), (38, .int .i64 (i170 : Int))]) (L' := [imm (TR.sl (TR.sl TR.int)) v0 x0, imm (TR.sl TR.int) v122 y117]) (fun _ _ st => st) ?_
    refine GL.seq ?_
    refine GL.region ?_
    refine RL.binI (v := .bool (decide ((i170 : Int) < ((y117).length : Int)))) rfl rfl rfl rfl rfl ?_
    refine RL.finG ?_
    refine GL.seq ?_
    refine GL.cond rfl (fun b178 => ?_) (fun b178 => ?_)
    ·have h179 : i170 < (y117).length := by have := of_decide_eq_true b178; omega
     obtain ⟨y180, r182, hr, e181, h183⟩ := drop_cons h177 rfl h179
     subst hr
     obtain ⟨z172, h173, h174⟩ := rangeL_some h175
     unfold saddle_Check_b2 at h173
     try dsimp only at h173
     refine GL.skip ?_
     refine GL.seq ?_
     refine GL.block ?_
     refine GL.seq ?_
     refine GL.region ?_
     refine RL.idxS (sz := 1) 1 Try.underlying22 Try_ln3 rfl rfl rfl rfl rfl SlOf.imm (by omega) (by omega) ?_
     refine RL.ldSx (i := i170) (e' := y180) 1 Ex.ik Try_ln3 rfl rfl rfl rfl SlOf.imm e181 Part.self ?_
     refine RL.asg rfl rfl rfl ?_
     refine RL.finG ?_
     refine GL.seq ?_
     obtain ⟨y187, K188, h189, h190, h191, h192, h193⟩ := bindF_K h173
     refine GL.join (ι := Bool) (fun (p : Bool) => [(0, v0), (15, v0), (16, .int .i64 ((x0).length : Int)), (17, .int .i64 (i107 : Int)), (36, v122), (37, .int .i64 ((y117).length : Int)), (38, .int .i64 (i170 : Int)), (47, .bool p)]) (fun (p : Bool) => [imm (TR.sl (TR.sl TR.int)) v0 x0, imm (TR.sl TR.int) v122 y117]) (fun (p : Bool) => K188 (.nx p)) ?_ ?_
     ·skip
      refine GL.region ?_
      refine RL.mv rfl rfl rfl ?_
      refine RL.binI (v := .bool (decide (y180 < (-1000 : Int)))) rfl rfl rfl rfl rfl ?_
      refine RL.mv rfl rfl rfl ?_
      refine RL.split (t := 44) rfl (fun b194 => ?_) (fun b194 => ?_)
      ·replace h189 := ite_t b194 h189
       refine RL.skip rfl rfl ?_
       refine RL.skip rfl rfl ?_
       refine RL.pickT rfl rfl rfl rfl ?_
       refine RL.fin ?_
       cases h189
       exact fun a w st => mid_intro true h190 (St.cut [0, 1] ⟨rfl, rfl, rfl, rfl, rfl, rfl, rfl, rfl, trivial⟩ (by decide) rfl st)
      replace h189 := ite_f b194 h189
      refine RL.mv rfl rfl rfl ?_
      refine RL.binI (v := .bool (decide (y180 > (1000 : Int)))) rfl rfl rfl rfl rfl ?_
      refine RL.pickF rfl rfl rfl rfl ?_
      refine RL.fin ?_
      cases h189
      exact fun a w st => mid_intro (decide (y180 > (1000 : Int))) h190 (St.cut [0, 1] ⟨rfl, rfl, rfl, rfl, rfl, rfl, rfl, rfl, trivial⟩ (by decide) rfl st)
     rintro x186 h195
     have h196 := h191 _ h195
     try dsimp only at h196
     refine GL.weak (env' := [(0, v0), (15, v0), (16, .int .i64 ((x0).length : Int)), (17, .int .i64 (i107 : Int)), (36, v122), (37, .int .i64 ((y117).length : Int)), (38, .int .i64 (i170 : Int)), (47, .bool x186)]) (L' := [imm (TR.sl (TR.sl TR.int)) v0 x0, imm (TR.sl TR.int) v122 y117]) (fun _ _ st => st) ?_
     refine GL.cond rfl (fun b197 => ?_) (fun b197 => ?_)
     ·replace h196 := ite_t b197 h196
      refine GL.seq ?_
      refine GL.region ?_
      refine RL.asg rfl rfl rfl ?_
      refine RL.finG ?_
      cases h196
      replace h174 : some (Fl.rt _) = some y163 := h174
      cases h174
      have hh := h168 _ h166
      subst hh
      replace h111 : some (Fl.rt _) = some y100 := h111
      cases h111
      have hh := h105 _ h103
      subst hh
      exact GL.ret (Gx.ret (v := .int .i64 (1 : Int)) (res1 rfl rfl) (fun a w st => st.toPostC rfl))
     replace h196 := ite_f b197 h196
     refine GL.skip ?_
     refine GL.nilB ?_
     refine GL.region ?_
     refine RL.binI (v := .int .i64 ((i170 + 1 : Nat) : Int)) rfl rfl rfl rfl (binI_succ i170 (by omega)) ?_
     refine RL.mv rfl rfl rfl ?_
     refine RL.fin ?_
     cases h196
     exact fun a w st => lop_intro (i170 + 1, r182) ⟨by show i170 + 1 + r182.length = (y117).length; simp only [List.length_cons] at h176; omega, h183, h174⟩ (by simp) (St.cut [0, 1] ⟨rfl, rfl, rfl, rfl, rfl, rfl, rfl, trivial⟩ (by decide) rfl st)
    have h179 : ¬ i170 < (y117).length := by have := of_decide_eq_false b178; omega
    obtain rfl : r171 = [] := by rw [← h177]; exact List.drop_of_length_le (by omega)
    replace h175 : some (Fl.nx _) = some y163 := h175
    cases h175
    exact GL.exit (fun a w st => mid_intro () h166 (St.cut [0] ⟨rfl, rfl, rfl, rfl, trivial⟩ (by decide) rfl st))
   rintro ⟨⟩ h198
   have h199 := h167 _ h198
   try dsimp only at h199
   refine GL.weak (env' := [(0, v0), (15, v0), (16, .int .i64 ((x0).length : Int)), (17, .int .i64 (i107 : Int))]) (L' := [imm (TR.sl (TR.sl TR.int)) v0 x0]) (fun _ _ st => st) ?_
   refine GL.nilB ?_
   refine GL.region ?_
   refine RL.binI (v := .int .i64 ((i107 + 1 : Nat) : Int)) rfl rfl rfl rfl (binI_succ i107 (by omega)) ?_
   refine RL.mv rfl rfl rfl ?_
   refine RL.fin ?_
   cases h199
   exact fun a w st => lop_intro (i107 + 1, r119) ⟨by show i107 + 1 + r119.length = (x0).length; simp only [List.length_cons] at h113; omega, h120, h111⟩ (by simp) (St.cut [0] ⟨rfl, rfl, rfl, rfl, trivial⟩ (by decide) rfl st)
  have h116 : ¬ i107 < (x0).length := by have := of_decide_eq_false b115; omega
  obtain rfl : r108 = [] := by rw [← h114]; exact List.drop_of_length_le (by omega)
  replace h112 : some (Fl.nx _) = some y100 := h112
  cases h112
  exact GL.exit (fun a w st => mid_intro () h103 (St.cut [] trivial (by decide) rfl st))
 rintro ⟨⟩ h200
 have h201 := h104 _ h200
 try dsimp only at h201
 refine GL.weak (env' := []) (L' := []) (fun _ _ st => st) ?_
 refine GL.seq ?_
 refine GL.region ?_
 refine RL.asg rfl rfl rfl ?_
 refine RL.finG ?_
 have h201 := Option.some.inj h201
 subst h201
 exact GL.ret (Gx.ret (v := .int .i64 (0 : Int)) (res1 rfl rfl) (fun a w st => st.toPostC rfl))

set_option maxHeartbeats 4000000 in
theorem equil_Check_c (S : Hp) (w : World) (hS : S.sub w) (v0 : Value) (x0 : (List (List Int))) (k0 : ((TR.sl (TR.sl TR.int))).vrep S v0 x0) (v1 : Value) (x1 : (List (List Int))) (k1 : ((TR.sl (TR.sl TR.int))).vrep S v1 x1) (res : Int) (hm : equil_Check_m x0 x1 = some res) : Calls Try.prog 38 #[v0, v1] w (PostV w (.int .i64 res)) := by
 refine calls_enter 33 Try.func38 Try.ntmps38 rfl S false [(0, v0), (1, v1)] [imm (TR.sl (TR.sl TR.int)) v0 x0, imm (TR.sl (TR.sl TR.int)) v1 x1] rfl ⟨rfl, ⟨rfl, trivial⟩⟩ hS ⟨k0, ⟨k1, trivial⟩⟩ ?_
 unfold equil_Check_m at hm
 refine GL.seq ?_
 refine GL.region ?_
 refine RL.asg rfl rfl rfl ?_
 refine RL.finG ?_
 refine GL.seq ?_
 refine GL.seq ?_
 refine GL.region ?_
 refine RL.mv rfl rfl rfl ?_
 obtain ⟨y5, e6, hm⟩ := bind_some hm
 refine RL.callC (v := .int .i64 y5) (vs := [v0]) Try_fit65 rfl rfl rfl rfl (fun U w hU hW hL => saddle_Check_c U w hU _ _ (hL 0 _ _ rfl Seen.imm) _ e6) ?_
 refine RL.asg rfl rfl rfl ?_
 refine RL.finG ?_
 refine GL.seq ?_
 refine GL.region ?_
 refine RL.mv rfl rfl rfl ?_
 refine RL.binI (v := .bool (y5 != (0 : Int))) rfl rfl rfl rfl rfl ?_
 refine RL.finG ?_
 refine GL.cond rfl (fun b7 => ?_) (fun b7 => ?_)
 ·replace hm := ite_t b7 hm
  refine GL.seq ?_
  refine GL.region ?_
  refine RL.mv rfl rfl rfl ?_
  refine RL.asg rfl rfl rfl ?_
  refine RL.finG ?_
  have hm := Option.some.inj hm
  subst hm
  exact GL.ret (Gx.ret (v := .int .i64 y5) (res1 rfl rfl) (fun a w st => st.toPostV))
 replace hm := ite_f b7 hm
 refine GL.skip ?_
 refine GL.seq ?_
 refine GL.seq ?_
 refine GL.region ?_
 refine RL.mv rfl rfl rfl ?_
 obtain ⟨y10, e11, hm⟩ := bind_some hm
 refine RL.callC (v := .int .i64 y10) (vs := [v1]) Try_fit65 rfl rfl rfl rfl (fun U w hU hW hL => saddle_Check_c U w hU _ _ (hL 1 _ _ rfl Seen.imm) _ e11) ?_
 refine RL.asg rfl rfl rfl ?_
 refine RL.finG ?_
 refine GL.seq ?_
 refine GL.region ?_
 refine RL.mv rfl rfl rfl ?_
 refine RL.binI (v := .bool (y10 != (0 : Int))) rfl rfl rfl rfl rfl ?_
 refine RL.finG ?_
 refine GL.cond rfl (fun b12 => ?_) (fun b12 => ?_)
 ·replace hm := ite_t b12 hm
  refine GL.seq ?_
  refine GL.region ?_
  refine RL.mv rfl rfl rfl ?_
  refine RL.asg rfl rfl rfl ?_
  refine RL.finG ?_
  have hm := Option.some.inj hm
  subst hm
  exact GL.ret (Gx.ret (v := .int .i64 y10) (res1 rfl rfl) (fun a w st => st.toPostV))
 replace hm := ite_f b12 hm
 refine GL.skip ?_
 refine GL.seq ?_
 refine GL.seq ?_
 obtain ⟨y28, K29, h30, h31, h32, h33, h34⟩ := bindR_K hm
 refine GL.join (ι := Bool) (fun (p : Bool) => [(32, .bool p)]) (fun (p : Bool) => []) (fun (p : Bool) => K29 (.nx p)) ?_ ?_
 ·skip
  refine GL.regionQ rfl rfl (by kernel_rfl) ?_
  refine RL.mv rfl rfl rfl ?_
  refine RL.lenS 0 Try.underlying27 rfl rfl rfl rfl SlOf.imm ?_
  refine RL.mv rfl rfl rfl ?_
  refine RL.lenS 1 Try.underlying27 rfl rfl rfl rfl SlOf.imm ?_
  refine RL.binI (v := .bool (((x0).length : Int) != ((x1).length : Int))) rfl rfl rfl rfl rfl ?_
  refine RL.mv rfl rfl rfl ?_
  refine RL.split (t := 22) rfl (fun b35 => ?_) (fun b35 => ?_)
  ·replace h30 := ite_t b35 h30
   refine RL.skip rfl rfl ?_
   refine RL.skip rfl rfl ?_
   refine RL.skip rfl rfl ?_
   refine RL.skip rfl rfl ?_
   refine RL.skip rfl rfl ?_
   refine RL.skip rfl rfl ?_
   refine RL.skip rfl rfl ?_
   refine RL.skip rfl rfl ?_
   refine RL.skip rfl rfl ?_
   refine RL.pickT rfl rfl rfl rfl ?_
   refine RL.finQ ?_
   cases h30
   exact fun a w st => mid_intro true h31 (St.cut [] ⟨rfl, trivial⟩ (by decide) rfl st)
  replace h30 := ite_f b35 h30
  refine RL.mv rfl rfl rfl ?_
  obtain ⟨y36, e37, h30⟩ := bind_some h30
  refine RL.idxS (sz := 1) 0 Try.underlying27 Try_ln22 rfl rfl rfl rfl rfl SlOf.imm (idx_some e37).1 (idx_some e37).2.1 ?_
  refine RL.ldS (i := ((0 : Int)).toNat) (r := (TR.sl TR.int)) (e' := y36) 0 Try_ln22 rfl rfl rfl rfl SlOf.imm (idx_some e37).2.2 Part.self ?_
  intro v38
  refine RL.lenS 2 Try.underlying22 rfl rfl rfl rfl SlOf.imm ?_
  refine RL.mv rfl rfl rfl ?_
  obtain ⟨y39, e40, h30⟩ := bind_some h30
  refine RL.idxS (sz := 1) 1 Try.underlying27 Try_ln22 rfl rfl rfl rfl rfl SlOf.imm (idx_some e40).1 (idx_some e40).2.1 ?_
  refine RL.ldS (i := ((0 : Int)).toNat) (r := (TR.sl TR.int)) (e' := y39) 1 Try_ln22 rfl rfl rfl rfl SlOf.imm (idx_some e40).2.2 Part.self ?_
  intro v41
  refine RL.reL (L' := [imm (TR.sl (TR.sl TR.int)) v0 x0, imm (TR.sl (TR.sl TR.int)) v1 x1, imm (TR.sl TR.int) v38 y36, imm (TR.sl TR.int) v41 y39]) rfl ?_
  refine RL.lenS 3 Try.underlying22 rfl rfl rfl rfl SlOf.imm ?_
  refine RL.binI (v := .bool (((y36).length : Int) != ((y39).length : Int))) rfl rfl rfl rfl rfl ?_
  refine RL.pickF rfl rfl rfl rfl ?_
  refine RL.finQ ?_
  cases h30
  exact fun a w st => mid_intro (((y36).length : Int) != ((y39).length : Int)) h31 (St.cut [] ⟨rfl, trivial⟩ (by decide) rfl st)
 rintro x27 h42
 have h43 := h32 _ h42
 try dsimp only at h43
 refine GL.weak (env' := [(32, .bool x27)]) (L' := []) (fun _ _ st => st) ?_
 refine GL.cond rfl (fun b44 => ?_) (fun b44 => ?_)
 ·replace h43 := ite_t b44 h43
  refine GL.seq ?_
  refine GL.region ?_
  refine RL.asg rfl rfl rfl ?_
  refine RL.finG ?_
  have h43 := Option.some.inj h43
  subst h43
  exact GL.ret (Gx.ret (v := .int .i64 (3 : Int)) (res1 rfl rfl) (fun a w st => st.toPostV))
 replace h43 := ite_f b44 h43
 refine GL.skip ?_
 refine GL.seq ?_
 refine GL.region ?_
 refine RL.asg rfl rfl rfl ?_
 refine RL.finG ?_
 have h43 := Option.some.inj h43
 subst h43
 exact GL.ret (Gx.ret (v := .int .i64 (0 : Int)) (res1 rfl rfl) (fun a w st => st.toPostV))

set_option maxHeartbeats 4000000 in
theorem equil_Rest_c (S : Hp) (w : World) (hS : S.sub w) (v0 : Value) (x0 : (List (List Int))) (k0 : ((TR.sl (TR.sl TR.int))).vrep S v0 x0) (v1 : Value) (x1 : (List (List Int))) (k1 : ((TR.sl (TR.sl TR.int))).vrep S v1 x1) (res : (List (List Int)) × Int) (hm : equil_Rest_m x0 x1 = some res) : Calls Try.prog 14 #[v0, v1] w (Post w S (fun (o : Value) => .tuple #[o, .int .i64 res.2]) (fun (o : Value) => [own 37 (TR.arr 2 TR.int) o res.1])) := by
 refine calls_enter 88 Try.func14 Try.ntmps14 rfl S false [(0, v0), (1, v1)] [imm (TR.sl (TR.sl TR.int)) v0 x0, imm (TR.sl (TR.sl TR.int)) v1 x1] rfl ⟨rfl, ⟨rfl, trivial⟩⟩ hS ⟨k0, ⟨k1, trivial⟩⟩ ?_
 unfold equil_Rest_m at hm
 refine GL.seq ?_
 refine GL.region ?_
 refine RL.asg rfl rfl rfl ?_
 refine RL.asg rfl rfl rfl ?_
 refine RL.finG ?_
 refine GL.seq ?_
 refine GL.seq ?_
 refine GL.region ?_
 refine RL.mv rfl rfl rfl ?_
 refine RL.mv rfl rfl rfl ?_
 obtain ⟨y5, e6, hm⟩ := bind_some hm
 refine RL.callV (v := .int .i64 y5) (vs := [v0, v1]) Try_fit38 rfl (Or.inl rfl) rfl rfl rfl rfl (fun U w hU hW hL => equil_Check_c U w hU _ _ (hL 0 _ _ rfl Seen.imm) _ _ (hL 1 _ _ rfl Seen.imm) _ e6) ?_
 refine RL.asg rfl rfl rfl ?_
 refine RL.finG ?_
 refine GL.seq ?_
 refine GL.region ?_
 refine RL.mv rfl rfl rfl ?_
 refine RL.binI (v := .bool (y5 != (0 : Int))) rfl rfl rfl rfl rfl ?_
 refine RL.finG ?_
 refine GL.cond rfl (fun b7 => ?_) (fun b7 => ?_)
 ·replace hm := ite_t b7 hm
  refine GL.seq ?_
  refine GL.region ?_
  refine RL.mv rfl rfl rfl ?_
  refine RL.asg rfl rfl rfl ?_
  refine RL.asg rfl rfl rfl ?_
  refine RL.finG ?_
  refine GL.weak (fun a w st => st.nilOwn 37 (TR.arr 2 TR.int)) ?_
  have hm := Option.some.inj hm
  subst hm
  exact GL.ret (Gx.ret (v := .tuple #[Value.slice none 0 0, .int .i64 y5]) (res2 rfl rfl rfl) (fun a w st => (st.pick [2] (by decide) rfl).toPost (Value.slice none 0 0)))
 replace hm := ite_f b7 hm
 refine GL.skip ?_
 refine GL.seq ?_
 refine GL.region ?_
 refine RL.asg rfl rfl rfl ?_
 refine RL.finG ?_
 refine GL.seq ?_
 refine GL.seq ?_
 refine GL.region ?_
 refine RL.mv rfl rfl rfl ?_
 refine RL.lenS 0 Try.underlying27 rfl rfl rfl rfl SlOf.imm ?_
 refine RL.mv rfl rfl rfl ?_
 refine RL.finG ?_
 refine GL.weak (fun a w st => st.nilOwn 37 (TR.arr 2 TR.int)) ?_
 refine GL.open_ 0 rfl (fun S h => len_imm S h) (fun n448 => ?_)
 obtain ⟨y449, K450, h451, h452, h453, h454, h455⟩ := bindR_K hm
 refine GL.join (ι := (List (List Int)) × Value) (fun (p : (List (List Int)) × Value) => [(7, p.2)]) (fun (p : (List (List Int)) × Value) => [own 37 (TR.arr 2 TR.int) p.2 p.1]) (fun (p : (List (List Int)) × Value) => K450 (.nx p.1)) ?_ ?_
 ·refine GL.block ?_
  refine GL.loop (ι := Nat × (List (List Int)) × (List (List Int)) × Value) (fun (p : Nat × (List (List Int)) × (List (List Int)) × Value) => [(0, v0), (1, v1), (7, p.2.2.2), (22, v0), (23, .int .i64 ((x0).length : Int)), (24, .int .i64 (p.1 : Int))]) (fun (p : Nat × (List (List Int)) × (List (List Int)) × Value) => [imm (TR.sl (TR.sl TR.int)) v0 x0, imm (TR.sl (TR.sl TR.int)) v1 x1, own 37 (TR.arr 2 TR.int) p.2.2.2 p.2.2.1]) (fun (p : Nat × (List (List Int)) × (List (List Int)) × Value) => p.1 + p.2.1.length = (x0).length ∧ List.drop p.1 x0 = p.2.1 ∧ rangeL (equil_Rest_b1 x0 x1) p.2.1 p.1 p.2.2.1 = some y449) (fun (p : Nat × (List (List Int)) × (List (List Int)) × Value) => p.2.1.length) (0, x0, [], Value.slice none 0 0) ⟨by simp, by simp, h451⟩ (fun a w st => St.cut [0, 1, 2] ⟨rfl, rfl, rfl, rfl, rfl, rfl, trivial⟩ (by decide) rfl st) ?_
  rintro ⟨i456, r457, l8, v9⟩ ⟨h462, h463, h461⟩
  try dsimp only at h462 h463 h461
  refine GL.weak (env' := [(0, v0), (1, v1), (7, v9), (22, v0), (23, .int .i64 ((x0).length : Int)), (24, .int .i64 (i456 : Int))]) (L' := [imm (TR.sl (TR.sl TR.int)) v0 x0, imm (TR.sl (TR.sl TR.int)) v1 x1, own 37 (TR.arr 2 TR.int) v9 l8]) (fun _ _ st => st) ?_
  refine GL.seq ?_
  refine GL.region ?_
  refine RL.binI (v := .bool (decide ((i456 : Int) < ((x0).length : Int)))) rfl rfl rfl rfl rfl ?_
  refine RL.finG ?_
  refine GL.seq ?_
  refine GL.cond rfl (fun b464 => ?_) (fun b464 => ?_)
  ·have h465 : i456 < (x0).length := by have := of_decide_eq_true b464; omega
   obtain ⟨y466, r468, hr, e467, h469⟩ := drop_cons h463 rfl h465
   subst hr
   obtain ⟨z458, h459, h460⟩ := rangeL_some h461
   unfold equil_Rest_b1 at h459
   try dsimp only at h459
   refine GL.skip ?_
   refine GL.seq ?_
   refine GL.block ?_
   refine GL.seq ?_
   refine GL.region ?_
   refine RL.mv rfl rfl rfl ?_
   refine RL.idxS (sz := 1) 0 Try.underlying27 Try_ln22 rfl rfl rfl rfl rfl SlOf.imm (by omega) (by omega) ?_
   refine RL.ldS (i := i456) (r := (TR.sl TR.int)) (e' := y466) 0 Try_ln22 rfl rfl rfl rfl SlOf.imm e467 Part.self ?_
   intro v471
   refine RL.asg rfl rfl rfl ?_
   refine RL.asg rfl rfl rfl ?_
   refine RL.finG ?_
   refine GL.seq ?_
   refine GL.region ?_
   refine RL.mv rfl rfl rfl ?_
   refine RL.lenS 3 Try.underlying22 rfl rfl rfl rfl SlOf.imm ?_
   refine RL.mv rfl rfl rfl ?_
   refine RL.finG ?_
   refine GL.open_ 3 rfl (fun S h => len_imm S h) (fun n665 => ?_)
   obtain ⟨y666, K667, h668, h669, h670, h671, h672⟩ := bindF_K h459
   refine GL.join (ι := (List (List Int)) × Value) (fun (p : (List (List Int)) × Value) => [(0, v0), (1, v1), (7, p.2), (22, v0), (23, .int .i64 ((x0).length : Int)), (24, .int .i64 (i456 : Int))]) (fun (p : (List (List Int)) × Value) => [imm (TR.sl (TR.sl TR.int)) v0 x0, imm (TR.sl (TR.sl TR.int)) v1 x1, own 37 (TR.arr 2 TR.int) p.2 p.1]) (fun (p : (List (List Int)) × Value) => K667 (.nx p.1)) ?_ ?_
   ·refine GL.block ?_
    refine GL.loop (ι := Nat × (List Int) × (List (List Int)) × Value) (fun (p : Nat × (List Int) × (List (List Int)) × Value) => [(0, v0), (1, v1), (7, p.2.2.2), (8, .int .i64 (i456 : Int)), (22, v0), (23, .int .i64 ((x0).length : Int)), (24, .int .i64 (i456 : Int)), (30, .int .i64 ((y466).length : Int)), (31, .int .i64 (p.1 : Int))]) (fun (p : Nat × (List Int) × (List (List Int)) × Value) => [imm (TR.sl (TR.sl TR.int)) v0 x0, imm (TR.sl (TR.sl TR.int)) v1 x1, own 37 (TR.arr 2 TR.int) p.2.2.2 p.2.2.1]) (fun (p : Nat × (List Int) × (List (List Int)) × Value) => p.1 + p.2.1.length = (y466).length ∧ List.drop p.1 y466 = p.2.1 ∧ rangeL (equil_Rest_b2 y466 x0 x1 i456) p.2.1 p.1 p.2.2.1 = some y666) (fun (p : Nat × (List Int) × (List (List Int)) × Value) => p.2.1.length) (0, y466, l8, v9) ⟨by simp, by simp, h668⟩ (fun a w st => St.cut [0, 1, 2] ⟨rfl, rfl, rfl, rfl, rfl, rfl, rfl, rfl, rfl, trivial⟩ (by decide) rfl st) ?_
    rintro ⟨i673, r674, l472, v473⟩ ⟨h679, h680, h678⟩
    try dsimp only at h679 h680 h678
    refine GL.weak (env' := [(0, v0), (1, v1), (7, v473), (8, .int .i64 (i456 : Int)), (22, v0), (23, .int .i64 ((x0).length : Int)), (24, .int .i64 (i456 : Int)), (30, .int .i64 ((y466).length : Int)), (31, .int .i64 (i673 : Int))]) (L' := [imm (TR.sl (TR.sl TR.int)) v0 x0, imm (TR.sl (TR.sl TR.int)) v1 x1, own 37 (TR.arr 2 TR.int) v473 l472]) (fun _ _ st => st) ?_
    refine GL.seq ?_
    refine GL.region ?_
    refine RL.binI (v := .bool (decide ((i673 : Int) < ((y466).length : Int)))) rfl rfl rfl rfl rfl ?_
    refine RL.finG ?_
    refine GL.seq ?_
    refine GL.cond rfl (fun b681 => ?_) (fun b681 => ?_)
    ·have h682 : i673 < (y466).length := by have := of_decide_eq_true b681; omega
     obtain ⟨y683, r685, hr, e684, h686⟩ := drop_cons h680 rfl h682
     subst hr
     obtain ⟨z675, h676, h677⟩ := rangeL_some h678
     unfold equil_Rest_b2 at h676
     try dsimp only at h676
     refine GL.skip ?_
     refine GL.seq ?_
     refine GL.block ?_
     refine GL.seq ?_
     refine GL.region ?_
     refine RL.mv rfl rfl rfl ?_
     refine RL.asg rfl rfl rfl ?_
     refine RL.finG ?_
     refine GL.seq ?_
     refine GL.region ?_
     refine RL.asg rfl rfl rfl ?_
     refine RL.finG ?_
     refine GL.seq ?_
     refine GL.seq ?_
     refine GL.region ?_
     refine RL.mv rfl rfl rfl ?_
     refine RL.lenS 0 Try.underlying27 rfl rfl rfl rfl SlOf.imm ?_
     refine RL.mv rfl rfl rfl ?_
     refine RL.finG ?_
     refine GL.open_ 0 rfl (fun S h => len_imm S h) (fun n722 => ?_)
     obtain ⟨y723, K724, h725, h726, h727, h728, h729⟩ := bindF_K h676
     refine GL.join (ι := Bool) (fun (p : Bool) => [(0, v0), (1, v1), (7, v473), (8, .int .i64 (i456 : Int)), (10, .int .i64 (i673 : Int)), (11, .bool p), (22, v0), (23, .int .i64 ((x0).length : Int)), (24, .int .i64 (i456 : Int)), (30, .int .i64 ((y466).length : Int)), (31, .int .i64 (i673 : Int))]) (fun (p : Bool) => [imm (TR.sl (TR.sl TR.int)) v0 x0, imm (TR.sl (TR.sl TR.int)) v1 x1, own 37 (TR.arr 2 TR.int) v473 l472]) (fun (p : Bool) => K724 (.nx p)) ?_ ?_
     ·refine GL.block ?_
      refine GL.loop (ι := Nat × (List (List Int)) × Bool) (fun (p : Nat × (List (List Int)) × Bool) => [(0, v0), (1, v1), (7, v473), (8, .int .i64 (i456 : Int)), (10, .int .i64 (i673 : Int)), (11, .bool p.2.2), (22, v0), (23, .int .i64 ((x0).length : Int)), (24, .int .i64 (i456 : Int)), (30, .int .i64 ((y466).length : Int)), (31, .int .i64 (i673 : Int)), (34, v0), (35, .int .i64 ((x0).length : Int)), (36, .int .i64 (p.1 : Int))]) (fun (p : Nat × (List (List Int)) × Bool) => [imm (TR.sl (TR.sl TR.int)) v0 x0, imm (TR.sl (TR.sl TR.int)) v1 x1, own 37 (TR.arr 2 TR.int) v473 l472]) (fun (p : Nat × (List (List Int)) × Bool) => p.1 + p.2.1.length = (x0).length ∧ List.drop p.1 x0 = p.2.1 ∧ rangeL (equil_Rest_b3 i673 y466) p.2.1 p.1 p.2.2 = some y723) (fun (p : Nat × (List (List Int)) × Bool) => p.2.1.length) (0, x0, true) ⟨by simp, by simp, h725⟩ (fun a w st => St.cut [0, 1, 2] ⟨rfl, rfl, rfl, rfl, rfl, rfl, rfl, rfl, rfl, rfl, rfl, rfl, rfl, rfl, trivial⟩ (by decide) rfl st) ?_
      rintro ⟨i730, r731, x687⟩ ⟨h736, h737, h735⟩
      try dsimp only at h736 h737 h735
      refine GL.weak (env' := [(0, v0), (1, v1), (7, v473), (8, .int .i64 (i456 : Int)), (10, .int .i64 (i673 : Int)), (11, .bool x687), (22, v0), (23, .int .i64 ((x0).length : Int)), (24, .int .i64 (i456 : Int)), (30, .int .i64 ((y466).length : Int)), (31, .int .i64 (i673 : Int)), (34, v0), (35, .int .i64 ((x0).length : Int)), (36, .int .i64 (i730 : Int))]) (L' := [imm (TR.sl (TR.sl TR.int)) v0 x0, imm (TR.sl (TR.sl TR.int)) v1 x1, own 37 (TR.arr 2 TR.int) v473 l472]) (fun _ _ st => st) ?_
      refine GL.seq ?_
      refine GL.region ?_
      refine RL.binI (v := .bool (decide ((i730 : Int) < ((x0).length : Int)))) rfl rfl rfl rfl rfl ?_
      refine RL.finG ?_
      refine GL.seq ?_
      refine GL.cond rfl (fun b738 => ?_) (fun b738 => ?_)
      ·have h739 : i730 < (x0).length := by have := of_decide_eq_true b738; omega
       obtain ⟨y740, r742, hr, e741, h743⟩ := drop_cons h737 rfl h739
       subst hr
       obtain ⟨z732, h733, h734⟩ := rangeL_some h735
       unfold equil_Rest_b3 at h733
       try dsimp only at h733
       refine GL.skip ?_
       refine GL.seq ?_
       refine GL.block ?_
       refine GL.seq ?_
       refine GL.region ?_
       refine RL.idxS (sz := 1) 0 Try.underlying27 Try_ln22 rfl rfl rfl rfl rfl SlOf.imm (by omega) (by omega) ?_
       refine RL.ldS (i := i730) (r := (TR.sl TR.int)) (e' := y740) 0 Try_ln22 rfl rfl rfl rfl SlOf.imm e741 Part.self ?_
       intro v745
       refine RL.asg rfl rfl rfl ?_
       refine RL.finG ?_
       obtain ⟨y759, K760, h761, h762, h763, h764, h765⟩ := bindF_K h733
       refine GL.join (ι := Bool) (fun (p : Bool) => [(0, v0), (1, v1), (7, v473), (8, .int .i64 (i456 : Int)), (10, .int .i64 (i673 : Int)), (11, .bool p), (22, v0), (23, .int .i64 ((x0).length : Int)), (24, .int .i64 (i456 : Int)), (30, .int .i64 ((y466).length : Int)), (31, .int .i64 (i673 : Int)), (34, v0), (35, .int .i64 ((x0).length : Int)), (36, .int .i64 (i730 : Int))]) (fun (p : Bool) => [imm (TR.sl (TR.sl TR.int)) v0 x0, imm (TR.sl (TR.sl TR.int)) v1 x1, own 37 (TR.arr 2 TR.int) v473 l472]) (fun (p : Bool) => K760 (.nx p)) ?_ ?_
       ·skip
        refine GL.regionQ rfl rfl (by kernel_rfl) ?_
        refine RL.mv rfl rfl rfl ?_
        refine RL.mv rfl rfl rfl ?_
        refine RL.split (t := 41) rfl (fun b766 => ?_) (fun b766 => ?_)
        ·replace h761 := ite_t b766 h761
         refine RL.mv rfl rfl rfl ?_
         refine RL.mv rfl rfl rfl ?_
         obtain ⟨y767, e768, h761⟩ := bind_some h761
         refine RL.idxS (sz := 1) 3 Try.underlying22 Try_ln3 rfl rfl rfl rfl rfl SlOf.imm (idx_some e768).1 (idx_some e768).2.1 ?_
         refine RL.ldSx (i := i673) (e' := y767) 3 Ex.ik Try_ln3 rfl rfl rfl rfl SlOf.imm (idx_some e768).2.2 Part.self ?_
         refine RL.mv rfl rfl rfl ?_
         refine RL.mv rfl rfl rfl ?_
         refine RL.idxS (sz := 1) 0 Try.underlying27 Try_ln22 rfl rfl rfl rfl rfl SlOf.imm (by omega) (by omega) ?_
         refine RL.ldS (i := i456) (r := (TR.sl TR.int)) (e' := y466) 0 Try_ln22 rfl rfl rfl rfl SlOf.imm e467 Part.self ?_
         intro v769
         refine RL.reL (L' := [imm (TR.sl (TR.sl TR.int)) v0 x0, imm (TR.sl (TR.sl TR.int)) v1 x1, own 37 (TR.arr 2 TR.int) v473 l472, imm (TR.sl TR.int) v745 y740, imm (TR.sl TR.int) v769 y466]) rfl ?_
         refine RL.mv rfl rfl rfl ?_
         obtain ⟨y770, e771, h761⟩ := bind_some h761
         refine RL.idxS (sz := 1) 4 Try.underlying22 Try_ln3 rfl rfl rfl rfl rfl SlOf.imm (idx_some e771).1 (idx_some e771).2.1 ?_
         refine RL.ldSx (i := i673) (e' := y770) 4 Ex.ik Try_ln3 rfl rfl rfl rfl SlOf.imm (idx_some e771).2.2 Part.self ?_
         refine RL.binI (v := .bool (decide (y767 ≤ y770))) rfl rfl rfl rfl rfl ?_
         refine RL.pickT rfl rfl rfl rfl ?_
         refine RL.asg rfl rfl rfl ?_
         refine RL.finQ ?_
         cases h761
         exact fun a w st => mid_intro (decide (y767 ≤ y770)) h762 (St.cut [0, 1, 2] ⟨rfl, rfl, rfl, rfl, rfl, rfl, rfl, rfl, rfl, rfl, rfl, rfl, rfl, rfl, trivial⟩ (by decide) rfl st)
        replace h761 := ite_f b766 h761
        refine RL.skip rfl rfl ?_
        refine RL.skip rfl rfl ?_
        refine RL.skip rfl rfl ?_
        refine RL.skip rfl rfl ?_
        refine RL.skip rfl rfl ?_
        refine RL.skip rfl rfl ?_
        refine RL.skip rfl rfl ?_
        refine RL.skip rfl rfl ?_
        refine RL.skip rfl rfl ?_
        refine RL.skip rfl rfl ?_
        refine RL.skip rfl rfl ?_
        refine RL.skip rfl rfl ?_
        refine RL.pickF rfl rfl rfl rfl ?_
        refine RL.asg rfl rfl rfl ?_
        refine RL.finQ ?_
        cases h761
        exact fun a w st => mid_intro false h762 (St.cut [0, 1, 2] ⟨rfl, rfl, rfl, rfl, rfl, rfl, rfl, rfl, rfl, rfl, rfl, rfl, rfl, rfl, trivial⟩ (by decide) rfl st)
       rintro x758 h772
       have h773 := h763 _ h772
       try dsimp only at h773
       refine GL.weak (env' := [(0, v0), (1, v1), (7, v473), (8, .int .i64 (i456 : Int)), (10, .int .i64 (i673 : Int)), (11, .bool x758), (22, v0), (23, .int .i64 ((x0).length : Int)), (24, .int .i64 (i456 : Int)), (30, .int .i64 ((y466).length : Int)), (31, .int .i64 (i673 : Int)), (34, v0), (35, .int .i64 ((x0).length : Int)), (36, .int .i64 (i730 : Int))]) (L' := [imm (TR.sl (TR.sl TR.int)) v0 x0, imm (TR.sl (TR.sl TR.int)) v1 x1, own 37 (TR.arr 2 TR.int) v473 l472]) (fun _ _ st => st) ?_
       refine GL.nilB ?_
       refine GL.region ?_
       refine RL.binI (v := .int .i64 ((i730 + 1 : Nat) : Int)) rfl rfl rfl rfl (binI_succ i730 (by omega)) ?_
       refine RL.mv rfl rfl rfl ?_
       refine RL.fin ?_
       cases h773
       exact fun a w st => lop_intro (i730 + 1, r742, x758) ⟨by show i730 + 1 + r742.length = (x0).length; simp only [List.length_cons] at h736; omega, h743, h734⟩ (by simp) (St.cut [0, 1, 2] ⟨rfl, rfl, rfl, rfl, rfl, rfl, rfl, rfl, rfl, rfl, rfl, rfl, rfl, rfl, trivial⟩ (by decide) rfl st)
      have h739 : ¬ i730 < (x0).length := by have := of_decide_eq_false b738; omega
      obtain rfl : r731 = [] := by rw [← h737]; exact List.drop_of_length_le (by omega)
      replace h735 : some (Fl.nx _) = some y723 := h735
      cases h735
      exact GL.exit (fun a w st => mid_intro x687 h726 (St.cut [0, 1, 2] ⟨rfl, rfl, rfl, rfl, rfl, rfl, rfl, rfl, rfl, rfl, rfl, trivial⟩ (by decide) rfl st))
     rintro x687 h774
     have h775 := h727 _ h774
     try dsimp only at h775
     refine GL.weak (env' := [(0, v0), (1, v1), (7, v473), (8, .int .i64 (i456 : Int)), (10, .int .i64 (i673 : Int)), (11, .bool x687), (22, v0), (23, .int .i64 ((x0).length : Int)), (24, .int .i64 (i456 : Int)), (30, .int .i64 ((y466).length : Int)), (31, .int .i64 (i673 : Int))]) (L' := [imm (TR.sl (TR.sl TR.int)) v0 x0, imm (TR.sl (TR.sl TR.int)) v1 x1, own 37 (TR.arr 2 TR.int) v473 l472]) (fun _ _ st => st) ?_
     refine GL.seq ?_
     refine GL.seq ?_
     refine GL.region ?_
     refine RL.mv rfl rfl rfl ?_
     refine RL.mv rfl rfl rfl ?_
     obtain ⟨y779, e780, h775⟩ := bind_some h775
     refine RL.idxS (sz := 1) 1 Try.underlying27 Try_ln22 rfl rfl rfl rfl rfl SlOf.imm (idx_some e780).1 (idx_some e780).2.1 ?_
     refine RL.ldS (i := i456) (r := (TR.sl TR.int)) (e' := y779) 1 Try_ln22 rfl rfl rfl rfl SlOf.imm (idx_some e780).2.2 Part.self ?_
     intro v781
     refine RL.lenS 3 Try.underlying22 rfl rfl rfl rfl SlOf.imm ?_
     refine RL.mv rfl rfl rfl ?_
     refine RL.finG ?_
     refine GL.open_ 3 rfl (fun S h => len_imm S h) (fun n815 => ?_)
     obtain ⟨y816, K817, h818, h819, h820, h821, h822⟩ := bindF_K h775
     refine GL.join (ι := Bool) (fun (p : Bool) => [(0, v0), (1, v1), (7, v473), (8, .int .i64 (i456 : Int)), (10, .int .i64 (i673 : Int)), (11, .bool p), (22, v0), (23, .int .i64 ((x0).length : Int)), (24, .int .i64 (i456 : Int)), (30, .int .i64 ((y466).length : Int)), (31, .int .i64 (i673 : Int))]) (fun (p : Bool) => [imm (TR.sl (TR.sl TR.int)) v0 x0, imm (TR.sl (TR.sl TR.int)) v1 x1, own 37 (TR.arr 2 TR.int) v473 l472]) (fun (p : Bool) => K817 (.nx p)) ?_ ?_
     ·refine GL.block ?_
      refine GL.loop (ι := Nat × (List Int) × Bool) (fun (p : Nat × (List Int) × Bool) => [(0, v0), (1, v1), (7, v473), (8, .int .i64 (i456 : Int)), (10, .int .i64 (i673 : Int)), (11, .bool p.2.2), (22, v0), (23, .int .i64 ((x0).length : Int)), (24, .int .i64 (i456 : Int)), (30, .int .i64 ((y466).length : Int)), (31, .int .i64 (i673 : Int)), (59, v781), (60, .int .i64 ((y779).length : Int)), (61, .int .i64 (p.1 : Int))]) (fun (p : Nat × (List Int) × Bool) => [imm (TR.sl (TR.sl TR.int)) v0 x0, imm (TR.sl (TR.sl TR.int)) v1 x1, own 37 (TR.arr 2 TR.int) v473 l472, imm (TR.sl TR.int) v781 y779]) (fun (p : Nat × (List Int) × Bool) => p.1 + p.2.1.length = (y779).length ∧ List.drop p.1 y779 = p.2.1 ∧ rangeL (equil_Rest_b4 x1 i456 i673) p.2.1 p.1 p.2.2 = some y816) (fun (p : Nat × (List Int) × Bool) => p.2.1.length) (0, y779, x687) ⟨by simp, by simp, h818⟩ (fun a w st => St.cut [0, 1, 2, 3] ⟨rfl, rfl, rfl, rfl, rfl, rfl, rfl, rfl, rfl, rfl, rfl, rfl, rfl, rfl, trivial⟩ (by decide) rfl st) ?_
      rintro ⟨i823, r824, x782⟩ ⟨h829, h830, h828⟩
      try dsimp only at h829 h830 h828
      refine GL.weak (env' := [(0, v0), (1, v1), (7, v473), (8, .int .i64 (i456 : Int)), (10, .int .i64 (i673 : Int)), (11, .bool x782), (22, v0), (23, .int .i64 ((x0).length : Int)), (24, .int .i64 (i456 : Int)), (30, .int .i64 ((y466).length : Int)), (31, .int .i64 (i673 : Int)), (59, v781), (60, .int .i64 ((y779).length : Int)), (61, .int .i64 (i823 : Int))]) (L' := [imm (TR.sl (TR.sl TR.int)) v0 x0, imm (TR.sl (TR.sl TR.int)) v1 x1, own 37 (TR.arr 2 TR.int) v473 l472, imm (TR.sl TR.int) v781 y779]) (fun _ _ st => st) ?_
      refine GL.seq ?_
      refine GL.region ?_
      refine RL.binI (v := .bool (decide ((i823 : Int) < ((y779).length : Int)))) rfl rfl rfl rfl rfl ?_
      refine RL.finG ?_
      refine GL.seq ?_
      refine GL.cond rfl (fun b831 => ?_) (fun b831 => ?_)
      ·have h832 : i823 < (y779).length := by have := of_decide_eq_true b831; omega
       obtain ⟨y833, r835, hr, e834, h836⟩ := drop_cons h830 rfl h832
       subst hr
       obtain ⟨z825, h826, h827⟩ := rangeL_some h828
       unfold equil_Rest_b4 at h826
       try dsimp only at h826
       refine GL.skip ?_
       refine GL.seq ?_
       refine GL.block ?_
       refine GL.seq ?_
       refine GL.region ?_
       refine RL.idxS (sz := 1) 3 Try.underlying22 Try_ln3 rfl rfl rfl rfl rfl SlOf.imm (by omega) (by omega) ?_
       refine RL.ldSx (i := i823) (e' := y833) 3 Ex.ik Try_ln3 rfl rfl rfl rfl SlOf.imm e834 Part.self ?_
       refine RL.asg rfl rfl rfl ?_
       refine RL.finG ?_
       obtain ⟨y850, K851, h852, h853, h854, h855, h856⟩ := bindF_K h826
       refine GL.join (ι := Bool) (fun (p : Bool) => [(0, v0), (1, v1), (7, v473), (8, .int .i64 (i456 : Int)), (10, .int .i64 (i673 : Int)), (11, .bool p), (22, v0), (23, .int .i64 ((x0).length : Int)), (24, .int .i64 (i456 : Int)), (30, .int .i64 ((y466).length : Int)), (31, .int .i64 (i673 : Int)), (59, v781), (60, .int .i64 ((y779).length : Int)), (61, .int .i64 (i823 : Int))]) (fun (p : Bool) => [imm (TR.sl (TR.sl TR.int)) v0 x0, imm (TR.sl (TR.sl TR.int)) v1 x1, own 37 (TR.arr 2 TR.int) v473 l472, imm (TR.sl TR.int) v781 y779]) (fun (p : Bool) => K851 (.nx p)) ?_ ?_
       ·skip
        refine GL.region ?_
        refine RL.mv rfl rfl rfl ?_
        refine RL.mv rfl rfl rfl ?_
        refine RL.split (t := 66) rfl (fun b857 => ?_) (fun b857 => ?_)
        ·replace h852 := ite_t b857 h852
         refine RL.mv rfl rfl rfl ?_
         refine RL.mv rfl rfl rfl ?_
         refine RL.mv rfl rfl rfl ?_
         obtain ⟨y858, e859, h852⟩ := bind_some h852
         refine RL.idxS (sz := 1) 1 Try.underlying27 Try_ln22 rfl rfl rfl rfl rfl SlOf.imm (idx_some e859).1 (idx_some e859).2.1 ?_
         refine RL.ldS (i := i456) (r := (TR.sl TR.int)) (e' := y858) 1 Try_ln22 rfl rfl rfl rfl SlOf.imm (idx_some e859).2.2 Part.self ?_
         intro v860
         refine RL.mv rfl rfl rfl ?_
         obtain ⟨y861, e862, h852⟩ := bind_some h852
         refine RL.idxS (sz := 1) 4 Try.underlying22 Try_ln3 rfl rfl rfl rfl rfl SlOf.imm (idx_some e862).1 (idx_some e862).2.1 ?_
         refine RL.ldSx (i := i673) (e' := y861) 4 Ex.ik Try_ln3 rfl rfl rfl rfl SlOf.imm (idx_some e862).2.2 Part.self ?_
         refine RL.binI (v := .bool (decide (y833 ≤ y861))) rfl rfl rfl rfl rfl ?_
         refine RL.pickT rfl rfl rfl rfl ?_
         refine RL.asg rfl rfl rfl ?_
         refine RL.fin ?_
         cases h852
         exact fun a w st => mid_intro (decide (y833 ≤ y861)) h853 (St.cut [0, 1, 2, 3] ⟨rfl, rfl, rfl, rfl, rfl, rfl, rfl, rfl, rfl, rfl, rfl, rfl, rfl, rfl, trivial⟩ (by decide) rfl st)
        replace h852 := ite_f b857 h852
        refine RL.skip rfl rfl ?_
        refine RL.skip rfl rfl ?_
        refine RL.skip rfl rfl ?_
        refine RL.skip rfl rfl ?_
        refine RL.skip rfl rfl ?_
        refine RL.skip rfl rfl ?_
        refine RL.skip rfl rfl ?_
        refine RL.skip rfl rfl ?_
        refine RL.skip rfl rfl ?_
        refine RL.pickF rfl rfl rfl rfl ?_
        refine RL.asg rfl rfl rfl ?_
        refine RL.fin ?_
        cases h852
        exact fun a w st => mid_intro false h853 (St.cut [0, 1, 2, 3] ⟨rfl, rfl, rfl, rfl, rfl, rfl, rfl, rfl, rfl, rfl, rfl, rfl, rfl, rfl, trivial⟩ (by decide) rfl st)
       rintro x849 h863
       have h864 := h854 _ h863
       try dsimp only at h864
       refine GL.weak (env' := [(0, v0), (1, v1), (7, v473), (8, .int .i64 (i456 : Int)), (10, .int .i64 (i673 : Int)), (11, .bool x849), (22, v0), (23, .int .i64 ((x0).length : Int)), (24, .int .i64 (i456 : Int)), (30, .int .i64 ((y466).length : Int)), (31, .int .i64 (i673 : Int)), (59, v781), (60, .int .i64 ((y779).length : Int)), (61, .int .i64 (i823 : Int))]) (L' := [imm (TR.sl (TR.sl TR.int)) v0 x0, imm (TR.sl (TR.sl TR.int)) v1 x1, own 37 (TR.arr 2 TR.int) v473 l472, imm (TR.sl TR.int) v781 y779]) (fun _ _ st => st) ?_
       refine GL.nilB ?_
       refine GL.region ?_
       refine RL.binI (v := .int .i64 ((i823 + 1 : Nat) : Int)) rfl rfl rfl rfl (binI_succ i823 (by omega)) ?_
       refine RL.mv rfl rfl rfl ?_
       refine RL.fin ?_
       cases h864
       exact fun a w st => lop_intro (i823 + 1, r835, x849) ⟨by show i823 + 1 + r835.length = (y779).length; simp only [List.length_cons] at h829; omega, h836, h827⟩ (by simp) (St.cut [0, 1, 2, 3] ⟨rfl, rfl, rfl, rfl, rfl, rfl, rfl, rfl, rfl, rfl, rfl, rfl, rfl, rfl, trivial⟩ (by decide) rfl st)
      have h832 : ¬ i823 < (y779).length := by have := of_decide_eq_false b831; omega
      obtain rfl : r824 = [] := by rw [← h830]; exact List.drop_of_length_le (by omega)
      replace h828 : some (Fl.nx _) = some y816 := h828
      cases h828
      exact GL.exit (fun a w st => mid_intro x782 h819 (St.cut [0, 1, 2] ⟨rfl, rfl, rfl, rfl, rfl, rfl, rfl, rfl, rfl, rfl, rfl, trivial⟩ (by decide) rfl st))
     rintro x782 h865
     have h866 := h820 _ h865
     try dsimp only at h866
     refine GL.weak (env' := [(0, v0), (1, v1), (7, v473), (8, .int .i64 (i456 : Int)), (10, .int .i64 (i673 : Int)), (11, .bool x782), (22, v0), (23, .int .i64 ((x0).length : Int)), (24, .int .i64 (i456 : Int)), (30, .int .i64 ((y466).length : Int)), (31, .int .i64 (i673 : Int))]) (L' := [imm (TR.sl (TR.sl TR.int)) v0 x0, imm (TR.sl (TR.sl TR.int)) v1 x1, own 37 (TR.arr 2 TR.int) v473 l472]) (fun _ _ st => st) ?_
     refine GL.seq ?_
     refine GL.region ?_
     refine RL.mv rfl rfl rfl ?_
     refine RL.finG ?_
     refine GL.cond rfl (fun b867 => ?_) (fun b867 => ?_)
     ·replace h866 := ite_t b867 h866
      refine GL.region ?_
      refine RL.mv rfl rfl rfl ?_
      refine RL.mv rfl rfl rfl ?_
      refine RL.mv rfl rfl rfl ?_
      refine RL.bldA (t := (TR.arr 2 TR.int)) (d0 := ([(i456 : Int), (i673 : Int)] : (List Int))) (pv := [(0, .int .i64 (i456 : Int)), (1, .int .i64 (i673 : Int))]) rfl Try_bld37 (by decide) rfl rfl rfl ⟨⟨_, _, TR.int, (i456 : Int), rfl, rfl, VR.int⟩, ⟨⟨_, _, TR.int, (i673 : Int), rfl, rfl, VR.int⟩, trivial⟩⟩ (fun S f hi => by
        obtain ⟨c0, e0, r0⟩ := cells_vrep (t := TR.int) (u := .int .i64 (i456 : Int)) (e := (i456 : Int)) (VR.int S f hi)
        obtain ⟨c1, e1, r1⟩ := cells_vrep (t := TR.int) (u := .int .i64 (i673 : Int)) (e := (i673 : Int)) (VR.int S f hi)
        show TR.rep (TR.arr 2 TR.int) S (List.flatten [(.int .i64 (i456 : Int) : Value).cells.toList, (.int .i64 (i673 : Int) : Value).cells.toList]) _
        simp only [e0, e1,  List.flatten_cons, List.flatten_nil, List.append_nil]
        exact ⟨rfl, ⟨_, _, rfl, r0, ⟨_, [], (List.append_nil _).symm, r1, rfl⟩⟩⟩) ?_
      intro v873
      refine RL.bS (t := (TR.arr 2 TR.int)) (vs := [v873]) ([([(i456 : Int), (i673 : Int)] : (List Int))] : (List (List Int))) Try.underlying41 Try_lo37 rfl rfl rfl rfl ⟨(VR.item 3 rfl), trivial⟩ rfl (by decide) ?_
      intro v874
      refine RL.reL (L' := [imm (TR.sl (TR.sl TR.int)) v0 x0, imm (TR.sl (TR.sl TR.int)) v1 x1, own 37 (TR.arr 2 TR.int) v473 l472, imm (TR.arr 2 TR.int) v873 ([(i456 : Int), (i673 : Int)] : (List Int)), own 37 (TR.arr 2 TR.int) v874 ([([(i456 : Int), (i673 : Int)] : (List Int))] : (List (List Int)))]) rfl ?_
      obtain ⟨y875, e876, h866⟩ := bind_some h866
      replace e876 := chk_some e876
      refine RL.app 2 4 Try.underlying41 Try_lo37 rfl rfl rfl rfl rfl rfl rfl SlOf.own e876 ?_
      intro v877
      refine RL.asg rfl rfl rfl ?_
      refine RL.finG ?_
      refine GL.nilB ?_
      refine GL.region ?_
      refine RL.binI (v := .int .i64 ((i673 + 1 : Nat) : Int)) rfl rfl rfl rfl (binI_succ i673 (by omega)) ?_
      refine RL.mv rfl rfl rfl ?_
      refine RL.fin ?_
      cases h866
      exact fun a w st => lop_intro (i673 + 1, r685, (l472 ++ ([([(i456 : Int), (i673 : Int)] : (List Int))] : (List (List Int)))), v877) ⟨by show i673 + 1 + r685.length = (y466).length; simp only [List.length_cons] at h679; omega, h686, h677⟩ (by simp) (St.cut [0, 1, 2] ⟨rfl, rfl, rfl, rfl, rfl, rfl, rfl, rfl, rfl, trivial⟩ (by decide) rfl st)
     replace h866 := ite_f b867 h866
     refine GL.skip ?_
     refine GL.nilB ?_
     refine GL.region ?_
     refine RL.binI (v := .int .i64 ((i673 + 1 : Nat) : Int)) rfl rfl rfl rfl (binI_succ i673 (by omega)) ?_
     refine RL.mv rfl rfl rfl ?_
     refine RL.fin ?_
     cases h866
     exact fun a w st => lop_intro (i673 + 1, r685, l472, v473) ⟨by show i673 + 1 + r685.length = (y466).length; simp only [List.length_cons] at h679; omega, h686, h677⟩ (by simp) (St.cut [0, 1, 2] ⟨rfl, rfl, rfl, rfl, rfl, rfl, rfl, rfl, rfl, trivial⟩ (by decide) rfl st)
    have h682 : ¬ i673 < (y466).length := by have := of_decide_eq_false b681; omega
    obtain rfl : r674 = [] := by rw [← h680]; exact List.drop_of_length_le (by omega)
    replace h678 : some (Fl.nx _) = some y666 := h678
    cases h678
    exact GL.exit (fun a w st => mid_intro (l472, v473) h669 (St.cut [0, 1, 2] ⟨rfl, rfl, rfl, rfl, rfl, rfl, trivial⟩ (by decide) rfl st))
   rintro ⟨l472, v473⟩ h878
   have h879 := h670 _ h878
   try dsimp only at h879
   refine GL.weak (env' := [(0, v0), (1, v1), (7, v473), (22, v0), (23, .int .i64 ((x0).length : Int)), (24, .int .i64 (i456 : Int))]) (L' := [imm (TR.sl (TR.sl TR.int)) v0 x0, imm (TR.sl (TR.sl TR.int)) v1 x1, own 37 (TR.arr 2 TR.int) v473 l472]) (fun _ _ st => st) ?_
   refine GL.nilB ?_
   refine GL.region ?_
   refine RL.binI (v := .int .i64 ((i456 + 1 : Nat) : Int)) rfl rfl rfl rfl (binI_succ i456 (by omega)) ?_
   refine RL.mv rfl rfl rfl ?_
   refine RL.fin ?_
   cases h879
   exact fun a w st => lop_intro (i456 + 1, r468, l472, v473) ⟨by show i456 + 1 + r468.length = (x0).length; simp only [List.length_cons] at h462; omega, h469, h460⟩ (by simp) (St.cut [0, 1, 2] ⟨rfl, rfl, rfl, rfl, rfl, rfl, trivial⟩ (by decide) rfl st)
  have h465 : ¬ i456 < (x0).length := by have := of_decide_eq_false b464; omega
  obtain rfl : r457 = [] := by rw [← h463]; exact List.drop_of_length_le (by omega)
  replace h461 : some (Fl.nx _) = some y449 := h461
  cases h461
  exact GL.exit (fun a w st => mid_intro (l8, v9) h452 (St.cut [2] ⟨rfl, trivial⟩ (by decide) rfl st))
 rintro ⟨l8, v9⟩ h880
 have h881 := h453 _ h880
 try dsimp only at h881
 refine GL.weak (env' := [(7, v9)]) (L' := [own 37 (TR.arr 2 TR.int) v9 l8]) (fun _ _ st => st) ?_
 refine GL.seq ?_
 refine GL.region ?_
 refine RL.mv rfl rfl rfl ?_
 refine RL.asg rfl rfl rfl ?_
 refine RL.asg rfl rfl rfl ?_
 refine RL.finG ?_
 have h881 := Option.some.inj h881
 subst h881
 exact GL.ret (Gx.ret (v := .tuple #[v9, .int .i64 (0 : Int)]) (res2 rfl rfl rfl) (fun a w st => (st.pick [0] (by decide) rfl).toPost v9))

set_option maxHeartbeats 4000000 in
theorem slices_Index_pairs_c (S : Hp) (w : World) (hS : S.sub w) (v0 : Value) (x0 : (List (List Int))) (k0 : ((TR.sl (TR.arr 2 TR.int))).vrep S v0 x0) (v1 : Value) (x1 : (List Int)) (k1 : ((TR.arr 2 TR.int)).vrep S v1 x1) (res : Int) (hm : slices_Index_pairs_m x0 x1 = some res) : Calls Try.prog 39 #[v0, v1] w (PostV w (.int .i64 res)) := by
 refine calls_enter 19 Try.func39 Try.ntmps39 rfl S false [(0, v0), (1, v1)] [imm (TR.sl (TR.arr 2 TR.int)) v0 x0, imm (TR.arr 2 TR.int) v1 x1] rfl ⟨rfl, ⟨rfl, trivial⟩⟩ hS ⟨k0, ⟨k1, trivial⟩⟩ ?_
 unfold slices_Index_pairs_m at hm
 refine GL.seq ?_
 refine GL.region ?_
 refine RL.box (t := (TR.arr 2 TR.int)) (e := x1) rfl rfl rfl rfl (VR.item 1 rfl) ?_
 intro v4
 refine RL.asg rfl rfl rfl ?_
 refine RL.finG ?_
 refine GL.seq ?_
 refine GL.seq ?_
 refine GL.region ?_
 refine RL.mv rfl rfl rfl ?_
 refine RL.lenS 0 Try.underlying41 rfl rfl rfl rfl SlOf.imm ?_
 refine RL.mv rfl rfl rfl ?_
 refine RL.finG ?_
 refine GL.open_ 0 rfl (fun S h => len_imm S h) (fun n14 => ?_)
 obtain ⟨y15, K16, h17, h18, h19, h20, h21⟩ := bindR_K hm
 refine GL.join (ι := Unit) (fun (p : Unit) => []) (fun (p : Unit) => []) (fun (p : Unit) => K16 (.nx ())) ?_ ?_
 ·refine GL.block ?_
  refine GL.loop (ι := Nat × (List (List Int))) (fun (p : Nat × (List (List Int))) => [(0, v0), (3, v4), (7, .int .i64 ((x0).length : Int)), (8, .int .i64 (p.1 : Int))]) (fun (p : Nat × (List (List Int))) => [imm (TR.sl (TR.arr 2 TR.int)) v0 x0, obox 37 (TR.arr 2 TR.int) v4 x1]) (fun (p : Nat × (List (List Int))) => p.1 + p.2.length = (x0).length ∧ List.drop p.1 x0 = p.2 ∧ rangeL (slices_Index_pairs_b1 x1) p.2 p.1 () = some y15) (fun (p : Nat × (List (List Int))) => p.2.length) (0, x0) ⟨by simp, by simp, h17⟩ (fun a w st => St.cut [0, 2] ⟨rfl, rfl, rfl, rfl, trivial⟩ (by decide) rfl st) ?_
  rintro ⟨i22, r23⟩ ⟨h28, h29, h27⟩
  try dsimp only at h28 h29 h27
  refine GL.weak (env' := [(0, v0), (3, v4), (7, .int .i64 ((x0).length : Int)), (8, .int .i64 (i22 : Int))]) (L' := [imm (TR.sl (TR.arr 2 TR.int)) v0 x0, obox 37 (TR.arr 2 TR.int) v4 x1]) (fun _ _ st => st) ?_
  refine GL.seq ?_
  refine GL.region ?_
  refine RL.binI (v := .bool (decide ((i22 : Int) < ((x0).length : Int)))) rfl rfl rfl rfl rfl ?_
  refine RL.finG ?_
  refine GL.seq ?_
  refine GL.cond rfl (fun b30 => ?_) (fun b30 => ?_)
  ·have h31 : i22 < (x0).length := by have := of_decide_eq_true b30; omega
   obtain ⟨y32, r34, hr, e33, h35⟩ := drop_cons h29 rfl h31
   subst hr
   obtain ⟨z24, h25, h26⟩ := rangeL_some h27
   unfold slices_Index_pairs_b1 at h25
   try dsimp only at h25
   refine GL.skip ?_
   refine GL.seq ?_
   refine GL.block ?_
   refine GL.seq ?_
   refine GL.region ?_
   refine RL.mv rfl rfl rfl ?_
   refine RL.asg rfl rfl rfl ?_
   refine RL.finG ?_
   refine GL.seq ?_
   refine GL.regionQ rfl rfl (by kernel_rfl) ?_
   refine RL.ldP (off := 0) (r := (TR.arr 2 TR.int)) (e' := x1) 1 Try_ln37 rfl rfl (Or.inr ⟨rfl, rfl⟩) rfl PtOf.obox Part.self ?_
   intro v38
   refine RL.mv rfl rfl rfl ?_
   refine RL.mv rfl rfl rfl ?_
   refine RL.idxS (sz := 2) 0 Try.underlying41 Try_ln37 rfl rfl rfl rfl rfl SlOf.imm (by omega) (by omega) ?_
   refine RL.ldS (i := i22) (r := (TR.arr 2 TR.int)) (e' := y32) 0 Try_ln37 rfl rfl rfl rfl SlOf.imm e33 Part.self ?_
   intro v39
   refine RL.reL (L' := [imm (TR.sl (TR.arr 2 TR.int)) v0 x0, obox 37 (TR.arr 2 TR.int) v4 x1, imm (TR.arr 2 TR.int) v38 x1, imm (TR.arr 2 TR.int) v39 y32]) rfl ?_
   refine RL.eqG (t := (TR.arr 2 TR.int)) (e := x1) (e' := y32) rfl Try_eq37 (by decide) Try.eqGuardType37 rfl rfl rfl rfl (VR.item 2 rfl) (VR.item 3 rfl) ?_
   refine RL.finQG ?_
   refine GL.cond rfl (fun b40 => ?_) (fun b40 => ?_)
   ·replace h25 := ite_t b40 h25
    refine GL.seq ?_
    refine GL.region ?_
    refine RL.mv rfl rfl rfl ?_
    refine RL.asg rfl rfl rfl ?_
    refine RL.finG ?_
    cases h25
    replace h26 : some (Fl.rt _) = some y15 := h26
    cases h26
    have hh := h20 _ h18
    subst hh
    exact GL.ret (Gx.ret (v := .int .i64 (i22 : Int)) (res1 rfl rfl) (fun a w st => st.toPostV))
   replace h25 := ite_f b40 h25
   refine GL.skip ?_
   refine GL.nilB ?_
   refine GL.region ?_
   refine RL.binI (v := .int .i64 ((i22 + 1 : Nat) : Int)) rfl rfl rfl rfl (binI_succ i22 (by omega)) ?_
   refine RL.mv rfl rfl rfl ?_
   refine RL.fin ?_
   cases h25
   exact fun a w st => lop_intro (i22 + 1, r34) ⟨by show i22 + 1 + r34.length = (x0).length; simp only [List.length_cons] at h28; omega, h35, h26⟩ (by simp) (St.cut [0, 1] ⟨rfl, rfl, rfl, rfl, trivial⟩ (by decide) rfl st)
  have h31 : ¬ i22 < (x0).length := by have := of_decide_eq_false b30; omega
  obtain rfl : r23 = [] := by rw [← h29]; exact List.drop_of_length_le (by omega)
  replace h27 : some (Fl.nx _) = some y15 := h27
  cases h27
  exact GL.exit (fun a w st => mid_intro () h18 (St.cut [] trivial (by decide) rfl st))
 rintro ⟨⟩ h41
 have h42 := h19 _ h41
 try dsimp only at h42
 refine GL.weak (env' := []) (L' := []) (fun _ _ st => st) ?_
 refine GL.seq ?_
 refine GL.region ?_
 refine RL.asg rfl rfl rfl ?_
 refine RL.finG ?_
 have h42 := Option.some.inj h42
 subst h42
 exact GL.ret (Gx.ret (v := .int .i64 (-1 : Int)) (res1 rfl rfl) (fun a w st => st.toPostV))

set_option maxHeartbeats 4000000 in
theorem slices_Contains_pairs_c (S : Hp) (w : World) (hS : S.sub w) (v0 : Value) (x0 : (List (List Int))) (k0 : ((TR.sl (TR.arr 2 TR.int))).vrep S v0 x0) (v1 : Value) (x1 : (List Int)) (k1 : ((TR.arr 2 TR.int)).vrep S v1 x1) (res : Bool) (hm : slices_Contains_pairs_m x0 x1 = some res) : Calls Try.prog 15 #[v0, v1] w (PostV w (.bool res)) := by
 refine calls_enter 9 Try.func15 Try.ntmps15 rfl S false [(0, v0), (1, v1)] [imm (TR.sl (TR.arr 2 TR.int)) v0 x0, imm (TR.arr 2 TR.int) v1 x1] rfl ⟨rfl, ⟨rfl, trivial⟩⟩ hS ⟨k0, ⟨k1, trivial⟩⟩ ?_
 unfold slices_Contains_pairs_m at hm
 refine GL.seq ?_
 refine GL.region ?_
 refine RL.box (t := (TR.arr 2 TR.int)) (e := x1) rfl rfl rfl rfl (VR.item 1 rfl) ?_
 intro v4
 refine RL.asg rfl rfl rfl ?_
 refine RL.finG ?_
 refine GL.seq ?_
 refine GL.region ?_
 refine RL.mv rfl rfl rfl ?_
 refine RL.ldP (off := 0) (r := (TR.arr 2 TR.int)) (e' := x1) 2 Try_ln37 rfl rfl (Or.inr ⟨rfl, rfl⟩) rfl PtOf.obox Part.self ?_
 intro v8
 refine RL.reL (L' := [imm (TR.sl (TR.arr 2 TR.int)) v0 x0, imm (TR.arr 2 TR.int) v1 x1, obox 37 (TR.arr 2 TR.int) v4 x1, imm (TR.arr 2 TR.int) v8 x1]) rfl ?_
 obtain ⟨y9, e10, hm⟩ := bind_some hm
 refine RL.callV (v := .int .i64 y9) (vs := [v0, v8]) Try_fit39 rfl (Or.inl rfl) rfl rfl rfl rfl (fun U w hU hW hL => slices_Index_pairs_c U w hU _ _ (hL 0 _ _ rfl Seen.imm) _ _ (hL 3 _ _ rfl Seen.imm) _ e10) ?_
 refine RL.binI (v := .bool (decide (y9 ≥ (0 : Int)))) rfl rfl rfl rfl rfl ?_
 refine RL.asg rfl rfl rfl ?_
 refine RL.finG ?_
 have hm := Option.some.inj hm
 subst hm
 exact GL.ret (Gx.ret (v := .bool (decide (y9 ≥ (0 : Int)))) (res1 rfl rfl) (fun a w st => st.toPostV))
end Go.Wk
