/- Each function comes to what its model says; printed by a program of this repository. -/
import Derived.Test.YtfekdillbgblkaaProg
import Derived.Test.YtfekdillbgblkaaWVotesOwnModels
import Derived.Test.YtfekdillbgblkaaFwY
import Derived.Test.YtfekdillbgblkaaFwV
namespace Go.Wk
open Go.Fw Go.Mo Go.Proofs Go.RowKit
set_option linter.all false
set_option maxRecDepth 100000
theorem loopNx {ρ σ β γ : Type} {body : σ → Option (Fl ρ β σ)} {n : Nat} {s : σ} {y : Fl ρ γ β} (h : stepM body n (.nx s) = some y) : loopM body n s = some y := h
theorem Try_info3 : (Try.prog.info? 3).map (fun i => (i.zero, i.size, i.bytes)) = some (some (.int .i64 0), 1, 8) := by kernel_rfl
theorem Try_ln3 : Ln Try.prog 3 1 false := Ln.of Try_info3 Try.underlying3 rfl
theorem Try_lo3 : LnO Try.prog 3 1 [.int .i64 0] := LnO.of Try_info3 rfl rfl (by decide) (by decide)
theorem Try_info4 : (Try.prog.info? 4).map (fun i => (i.zero, i.size, i.bytes)) = some (some (.bool false), 1, 1) := by kernel_rfl
theorem Try_ln4 : Ln Try.prog 4 1 false := Ln.of Try_info4 Try.underlying4 rfl
theorem Try_lo4 : LnO Try.prog 4 1 [.bool false] := LnO.of Try_info4 rfl rfl (by decide) (by decide)
theorem Try_info24 : (Try.prog.info? 24).map (fun i => (i.zero, i.size, i.bytes)) = some (some (.slice none 0 0), 1, 24) := by kernel_rfl
theorem Try_ln24 : Ln Try.prog 24 1 false := Ln.of Try_info24 Try.underlying24 rfl
theorem Try_lo24 : LnO Try.prog 24 1 [.slice none 0 0] := LnO.of Try_info24 rfl rfl (by decide) (by decide)
theorem Try_info25 : (Try.prog.info? 25).map (fun i => (i.zero, i.size, i.bytes)) = some (some (.int .i64 0), 1, 8) := by kernel_rfl
theorem Try_ln25 : Ln Try.prog 25 1 false := Ln.of Try_info25 Try.underlying25 rfl
theorem Try_lo25 : LnO Try.prog 25 1 [.int .i64 0] := LnO.of Try_info25 rfl rfl (by decide) (by decide)
theorem Try_info112 : (Try.prog.info? 112).map (fun i => (i.zero, i.size, i.bytes)) = some (some (.agg #[.bool false, .bool false, .bool false, .bool false, .bool false, .bool false]), 6, 6) := by kernel_rfl
theorem Try_ln112 : Ln Try.prog 112 6 true := Ln.of Try_info112 Try.underlying112 rfl
theorem Try_lo112 : LnO Try.prog 112 6 [.bool false, .bool false, .bool false, .bool false, .bool false, .bool false] := LnO.of Try_info112 rfl rfl (by decide) (by decide)
theorem Try_info144 : (Try.prog.info? 144).map (fun i => (i.zero, i.size, i.bytes)) = some (some (.agg #[.int .i64 0, .int .i64 0, .int .i64 0, .int .i64 0, .int .i64 0, .int .i64 0]), 6, 48) := by kernel_rfl
theorem Try_ln144 : Ln Try.prog 144 6 true := Ln.of Try_info144 Try.underlying144 rfl
theorem Try_lo144 : LnO Try.prog 144 6 [.int .i64 0, .int .i64 0, .int .i64 0, .int .i64 0, .int .i64 0, .int .i64 0] := LnO.of Try_info144 rfl rfl (by decide) (by decide)
theorem Try_fit100 : Fit Try.prog 100 := Fit.of Try.func100 (by kernel_rfl) rfl
theorem Try_fit101 : Fit Try.prog 101 := Fit.of Try.func101 (by kernel_rfl) rfl
theorem Try_fit102 : Fit Try.prog 102 := Fit.of Try.func102 (by kernel_rfl) rfl
theorem Try_fit103 : Fit Try.prog 103 := Fit.of Try.func103 (by kernel_rfl) rfl
theorem Try_fit104 : Fit Try.prog 104 := Fit.of Try.func104 (by kernel_rfl) rfl
theorem Try_fit105 : Fit Try.prog 105 := Fit.of Try.func105 (by kernel_rfl) rfl
theorem Try_fit106 : Fit Try.prog 106 := Fit.of Try.func106 (by kernel_rfl) rfl
theorem Try_fit107 : Fit Try.prog 107 := Fit.of Try.func107 (by kernel_rfl) rfl
theorem Try_fit108 : Fit Try.prog 108 := Fit.of Try.func108 (by kernel_rfl) rfl
theorem Try_fit109 : Fit Try.prog 109 := Fit.of Try.func109 (by kernel_rfl) rfl
theorem Try_fit12 : Fit Try.prog 12 := Fit.of Try.func12 (by kernel_rfl) rfl
theorem Try_fit125 : Fit Try.prog 125 := Fit.of Try.func125 (by kernel_rfl) rfl
theorem Try_fit126 : Fit Try.prog 126 := Fit.of Try.func126 (by kernel_rfl) rfl
theorem Try_fit127 : Fit Try.prog 127 := Fit.of Try.func127 (by kernel_rfl) rfl
theorem Try_fit18 : Fit Try.prog 18 := Fit.of Try.func18 (by kernel_rfl) rfl
theorem Try_fit20 : Fit Try.prog 20 := Fit.of Try.func20 (by kernel_rfl) rfl
theorem Try_fit21 : Fit Try.prog 21 := Fit.of Try.func21 (by kernel_rfl) rfl
theorem Try_fit22 : Fit Try.prog 22 := Fit.of Try.func22 (by kernel_rfl) rfl
theorem Try_fit25 : Fit Try.prog 25 := Fit.of Try.func25 (by kernel_rfl) rfl
theorem Try_fit33 : Fit Try.prog 33 := Fit.of Try.func33 (by kernel_rfl) rfl
theorem Try_fit39 : Fit Try.prog 39 := Fit.of Try.func39 (by kernel_rfl) rfl
theorem Try_fit40 : Fit Try.prog 40 := Fit.of Try.func40 (by kernel_rfl) rfl
theorem Try_fit41 : Fit Try.prog 41 := Fit.of Try.func41 (by kernel_rfl) rfl
theorem Try_fit42 : Fit Try.prog 42 := Fit.of Try.func42 (by kernel_rfl) rfl
theorem Try_fit43 : Fit Try.prog 43 := Fit.of Try.func43 (by kernel_rfl) rfl
theorem Try_fit44 : Fit Try.prog 44 := Fit.of Try.func44 (by kernel_rfl) rfl
theorem Try_fit45 : Fit Try.prog 45 := Fit.of Try.func45 (by kernel_rfl) rfl
theorem Try_fit46 : Fit Try.prog 46 := Fit.of Try.func46 (by kernel_rfl) rfl
theorem Try_fit47 : Fit Try.prog 47 := Fit.of Try.func47 (by kernel_rfl) rfl
theorem Try_fit48 : Fit Try.prog 48 := Fit.of Try.func48 (by kernel_rfl) rfl
theorem Try_fit49 : Fit Try.prog 49 := Fit.of Try.func49 (by kernel_rfl) rfl
theorem Try_fit50 : Fit Try.prog 50 := Fit.of Try.func50 (by kernel_rfl) rfl
theorem Try_fit80 : Fit Try.prog 80 := Fit.of Try.func80 (by kernel_rfl) rfl
theorem Try_fit82 : Fit Try.prog 82 := Fit.of Try.func82 (by kernel_rfl) rfl
theorem Try_fit83 : Fit Try.prog 83 := Fit.of Try.func83 (by kernel_rfl) rfl
theorem Try_fit85 : Fit Try.prog 85 := Fit.of Try.func85 (by kernel_rfl) rfl
theorem Try_fit97 : Fit Try.prog 97 := Fit.of Try.func97 (by kernel_rfl) rfl
theorem Try_fit98 : Fit Try.prog 98 := Fit.of Try.func98 (by kernel_rfl) rfl
theorem Try_fit99 : Fit Try.prog 99 := Fit.of Try.func99 (by kernel_rfl) rfl

set_option maxHeartbeats 4000000 in
theorem order_Check_c (S : Hp) (w : World) (hS : S.sub w) (x0 : Int) (v1 : Value) (x1 : (List Int)) (k1 : ((TR.sl TR.int)).vrep S v1 x1) (res : Int) (hm : order_Check_m x0 x1 = some res) : Calls Try.prog 126 #[.int .i64 x0, v1] w (PostV w (.int .i64 res)) := by
 refine calls_enter 39 Try.func126 Try.ntmps126 rfl S false [(0, .int .i64 x0), (1, v1)] [imm (TR.sl TR.int) v1 x1] rfl ⟨rfl, ⟨rfl, trivial⟩⟩ hS ⟨k1, trivial⟩ ?_
 unfold order_Check_m at hm
 refine GL.seq ?_
 refine GL.region ?_
 refine RL.asg rfl rfl rfl ?_
 refine RL.finG ?_
 refine GL.seq ?_
 refine GL.seq ?_
 obtain ⟨y6, K7, h8, h9, h10, h11, h12⟩ := bindR_K hm
 refine GL.join (ι := Bool) (fun (p : Bool) => [(0, .int .i64 x0), (1, v1), (13, .bool p)]) (fun (p : Bool) => [imm (TR.sl TR.int) v1 x1]) (fun (p : Bool) => K7 (.nx p)) ?_ ?_
 ·skip
  refine GL.region ?_
  refine RL.mv rfl rfl rfl ?_
  refine RL.binI (v := .bool (decide (x0 < (1 : Int)))) rfl rfl rfl rfl rfl ?_
  refine RL.mv rfl rfl rfl ?_
  refine RL.split (t := 10) rfl (fun b13 => ?_) (fun b13 => ?_)
  ·replace h8 := ite_t b13 h8
   refine RL.skip rfl rfl ?_
   refine RL.skip rfl rfl ?_
   refine RL.pickT rfl rfl rfl rfl ?_
   refine RL.fin ?_
   cases h8
   exact fun a w st => mid_intro true h9 (St.cut [0] ⟨rfl, rfl, rfl, trivial⟩ (by decide) rfl st)
  replace h8 := ite_f b13 h8
  refine RL.mv rfl rfl rfl ?_
  refine RL.binI (v := .bool (decide (x0 > (6 : Int)))) rfl rfl rfl rfl rfl ?_
  refine RL.pickF rfl rfl rfl rfl ?_
  refine RL.fin ?_
  cases h8
  exact fun a w st => mid_intro (decide (x0 > (6 : Int))) h9 (St.cut [0] ⟨rfl, rfl, rfl, trivial⟩ (by decide) rfl st)
 rintro x5 h14
 have h15 := h10 _ h14
 try dsimp only at h15
 refine GL.weak (env' := [(0, .int .i64 x0), (1, v1), (13, .bool x5)]) (L' := [imm (TR.sl TR.int) v1 x1]) (fun _ _ st => st) ?_
 refine GL.cond rfl (fun b16 => ?_) (fun b16 => ?_)
 ·replace h15 := ite_t b16 h15
  refine GL.seq ?_
  refine GL.region ?_
  refine RL.asg rfl rfl rfl ?_
  refine RL.finG ?_
  have h15 := Option.some.inj h15
  subst h15
  exact GL.ret (Gx.ret (v := .int .i64 (1 : Int)) (res1 rfl rfl) (fun a w st => st.toPostV))
 replace h15 := ite_f b16 h15
 refine GL.skip ?_
 refine GL.seq ?_
 refine GL.region ?_
 refine RL.alloc (t := (TR.arr 6 TR.bool)) (z := (List.replicate 6 false)) Try_lo112 (fun S => ⟨rfl, ⟨_, _, rfl, rfl, ⟨_, _, rfl, rfl, ⟨_, _, rfl, rfl, ⟨_, _, rfl, rfl, ⟨_, _, rfl, rfl, ⟨_, _, rfl, rfl, rfl⟩⟩⟩⟩⟩⟩⟩) rfl rfl rfl ?_
 intro v18
 refine RL.finG ?_
 refine GL.seq ?_
 refine GL.seq ?_
 refine GL.region ?_
 refine RL.mv rfl rfl rfl ?_
 refine RL.lenS 0 Try.underlying24 rfl rfl rfl rfl SlOf.imm ?_
 refine RL.mv rfl rfl rfl ?_
 refine RL.finG ?_
 refine GL.open_ 0 rfl (fun S h => len_imm S h) (fun n82 => ?_)
 obtain ⟨y83, K84, h85, h86, h87, h88, h89⟩ := bindR_K h15
 refine GL.join (ι := (List Bool)) (fun (p : (List Bool)) => [(0, .int .i64 x0), (1, v1)]) (fun (p : (List Bool)) => [imm (TR.sl TR.int) v1 x1]) (fun (p : (List Bool)) => K84 (.nx p)) ?_ ?_
 ·refine GL.block ?_
  refine GL.loop (ι := Nat × (List Int) × (List Bool)) (fun (p : Nat × (List Int) × (List Bool)) => [(0, .int .i64 x0), (1, v1), (5, v18), (14, v1), (15, .int .i64 ((x1).length : Int)), (16, .int .i64 (p.1 : Int))]) (fun (p : Nat × (List Int) × (List Bool)) => [imm (TR.sl TR.int) v1 x1, obox 112 (TR.arr 6 TR.bool) v18 p.2.2]) (fun (p : Nat × (List Int) × (List Bool)) => p.1 + p.2.1.length = (x1).length ∧ List.drop p.1 x1 = p.2.1 ∧ rangeL (order_Check_b1 x0) p.2.1 p.1 p.2.2 = some y83) (fun (p : Nat × (List Int) × (List Bool)) => p.2.1.length) (0, x1, (List.replicate 6 false)) ⟨by simp, by simp, h85⟩ (fun a w st => St.cut [0, 1] ⟨rfl, rfl, rfl, rfl, rfl, rfl, trivial⟩ (by decide) rfl st) ?_
  rintro ⟨i90, r91, l50⟩ ⟨h96, h97, h95⟩
  try dsimp only at h96 h97 h95
  refine GL.weak (env' := [(0, .int .i64 x0), (1, v1), (5, v18), (14, v1), (15, .int .i64 ((x1).length : Int)), (16, .int .i64 (i90 : Int))]) (L' := [imm (TR.sl TR.int) v1 x1, obox 112 (TR.arr 6 TR.bool) v18 l50]) (fun _ _ st => st) ?_
  refine GL.seq ?_
  refine GL.region ?_
  refine RL.binI (v := .bool (decide ((i90 : Int) < ((x1).length : Int)))) rfl rfl rfl rfl rfl ?_
  refine RL.finG ?_
  refine GL.seq ?_
  refine GL.cond rfl (fun b98 => ?_) (fun b98 => ?_)
  ·have h99 : i90 < (x1).length := by have := of_decide_eq_true b98; omega
   obtain ⟨y100, r102, hr, e101, h103⟩ := drop_cons h97 rfl h99
   subst hr
   obtain ⟨z92, h93, h94⟩ := rangeL_some h95
   unfold order_Check_b1 at h93
   try dsimp only at h93
   refine GL.skip ?_
   refine GL.seq ?_
   refine GL.block ?_
   refine GL.seq ?_
   refine GL.region ?_
   refine RL.idxS (sz := 1) 0 Try.underlying24 Try_ln3 rfl rfl rfl rfl rfl SlOf.imm (by omega) (by omega) ?_
   refine RL.ldSx (i := i90) (e' := y100) 0 Ex.ik Try_ln3 rfl rfl rfl rfl SlOf.imm e101 Part.self ?_
   refine RL.asg rfl rfl rfl ?_
   refine RL.finG ?_
   refine GL.seq ?_
   refine GL.seq ?_
   obtain ⟨y113, K114, h115, h116, h117, h118, h119⟩ := bindF_K h93
   refine GL.join (ι := Bool) (fun (p : Bool) => [(0, .int .i64 x0), (1, v1), (5, v18), (7, .int .i64 y100), (14, v1), (15, .int .i64 ((x1).length : Int)), (16, .int .i64 (i90 : Int)), (31, .bool p)]) (fun (p : Bool) => [imm (TR.sl TR.int) v1 x1, obox 112 (TR.arr 6 TR.bool) v18 l50]) (fun (p : Bool) => K114 (.nx p)) ?_ ?_
   ·skip
    refine GL.region ?_
    refine RL.mv rfl rfl rfl ?_
    refine RL.binI (v := .bool (decide (y100 < (0 : Int)))) rfl rfl rfl rfl rfl ?_
    refine RL.mv rfl rfl rfl ?_
    refine RL.split (t := 22) rfl (fun b120 => ?_) (fun b120 => ?_)
    ·replace h115 := ite_t b120 h115
     refine RL.skip rfl rfl ?_
     refine RL.skip rfl rfl ?_
     refine RL.skip rfl rfl ?_
     refine RL.pickT rfl rfl rfl rfl ?_
     refine RL.mv rfl rfl rfl ?_
     refine RL.skip rfl rfl ?_
     refine RL.skip rfl rfl ?_
     refine RL.skip rfl rfl ?_
     refine RL.pickT rfl rfl rfl rfl ?_
     refine RL.fin ?_
     cases h115
     exact fun a w st => mid_intro true h116 (St.cut [0, 1] ⟨rfl, rfl, rfl, rfl, rfl, rfl, rfl, rfl, trivial⟩ (by decide) rfl st)
    replace h115 := ite_f b120 h115
    refine RL.mv rfl rfl rfl ?_
    refine RL.mv rfl rfl rfl ?_
    refine RL.binI (v := .bool (decide (y100 ≥ x0))) rfl rfl rfl rfl rfl ?_
    refine RL.pickF rfl rfl rfl rfl ?_
    refine RL.mv rfl rfl rfl ?_
    refine RL.split (t := 27) rfl (fun b121 => ?_) (fun b121 => ?_)
    ·replace h115 := ite_t b121 h115
     refine RL.skip rfl rfl ?_
     refine RL.skip rfl rfl ?_
     refine RL.skip rfl rfl ?_
     refine RL.pickT rfl rfl rfl rfl ?_
     refine RL.fin ?_
     cases h115
     exact fun a w st => mid_intro true h116 (St.cut [0, 1] ⟨rfl, rfl, rfl, rfl, rfl, rfl, rfl, rfl, trivial⟩ (by decide) rfl st)
    replace h115 := ite_f b121 h115
    refine RL.mv rfl rfl rfl ?_
    obtain ⟨y122, e123, h115⟩ := bind_some h115
    refine RL.idxA0 (sz := 1) (t' := TR.bool) 1 Try.underlying112 Try_ln4 rfl rfl rfl PtOf.obox rfl rfl Part.self (idx_some e123).1 (idx_some e123).2.1 ?_
    refine RL.ldPx (off := ((y100).toNat * 1)) (e' := y122) 1 Ex.bool Try_ln4 rfl rfl (Or.inl rfl) rfl PtOf.obox (Part.arr (idx_some e123).2.2 Part.self) ?_
    refine RL.pickF rfl rfl rfl rfl ?_
    refine RL.fin ?_
    cases h115
    exact fun a w st => mid_intro y122 h116 (St.cut [0, 1] ⟨rfl, rfl, rfl, rfl, rfl, rfl, rfl, rfl, trivial⟩ (by decide) rfl st)
   rintro x112 h124
   have h125 := h117 _ h124
   try dsimp only at h125
   refine GL.weak (env' := [(0, .int .i64 x0), (1, v1), (5, v18), (7, .int .i64 y100), (14, v1), (15, .int .i64 ((x1).length : Int)), (16, .int .i64 (i90 : Int)), (31, .bool x112)]) (L' := [imm (TR.sl TR.int) v1 x1, obox 112 (TR.arr 6 TR.bool) v18 l50]) (fun _ _ st => st) ?_
   refine GL.cond rfl (fun b126 => ?_) (fun b126 => ?_)
   ·replace h125 := ite_t b126 h125
    refine GL.seq ?_
    refine GL.region ?_
    refine RL.asg rfl rfl rfl ?_
    refine RL.finG ?_
    cases h125
    replace h94 : some (Fl.rt _) = some y83 := h94
    cases h94
    have hh := h88 _ h86
    subst hh
    exact GL.ret (Gx.ret (v := .int .i64 (3 : Int)) (res1 rfl rfl) (fun a w st => st.toPostV))
   replace h125 := ite_f b126 h125
   refine GL.skip ?_
   refine GL.region ?_
   refine RL.mv rfl rfl rfl ?_
   obtain ⟨y129, e130, h125⟩ := bind_some h125
   refine RL.idxA0 (sz := 1) (t' := TR.bool) 1 Try.underlying112 Try_ln4 rfl rfl rfl PtOf.obox rfl rfl Part.self (idx_some e130).1 (idx_some e130).2.1 ?_
   refine RL.stP (off := ((y100).toNat * 1)) (e' := true) (d1 := (List.set l50 ((y100).toNat) true)) (r := TR.bool) 1 Try_ln4 rfl rfl (Or.inl rfl) rfl VR.bool rfl (Upd.arr (idx_some e130).2.2 Upd.self) ?_
   refine RL.finG ?_
   refine GL.nilB ?_
   refine GL.region ?_
   refine RL.binI (v := .int .i64 ((i90 + 1 : Nat) : Int)) rfl rfl rfl rfl (binI_succ i90 (by omega)) ?_
   refine RL.mv rfl rfl rfl ?_
   refine RL.fin ?_
   cases h125
   exact fun a w st => lop_intro (i90 + 1, r102, (List.set l50 ((y100).toNat) true)) ⟨by show i90 + 1 + r102.length = (x1).length; simp only [List.length_cons] at h96; omega, h103, h94⟩ (by simp) (St.cut [0, 1] ⟨rfl, rfl, rfl, rfl, rfl, rfl, trivial⟩ (by decide) rfl st)
  have h99 : ¬ i90 < (x1).length := by have := of_decide_eq_false b98; omega
  obtain rfl : r91 = [] := by rw [← h97]; exact List.drop_of_length_le (by omega)
  replace h95 : some (Fl.nx _) = some y83 := h95
  cases h95
  exact GL.exit (fun a w st => mid_intro l50 h86 (St.cut [0] ⟨rfl, rfl, trivial⟩ (by decide) rfl st))
 rintro l50 h131
 have h132 := h87 _ h131
 try dsimp only at h132
 refine GL.weak (env' := [(0, .int .i64 x0), (1, v1)]) (L' := [imm (TR.sl TR.int) v1 x1]) (fun _ _ st => st) ?_
 refine GL.seq ?_
 refine GL.seq ?_
 refine GL.region ?_
 refine RL.mv rfl rfl rfl ?_
 refine RL.lenS 0 Try.underlying24 rfl rfl rfl rfl SlOf.imm ?_
 refine RL.mv rfl rfl rfl ?_
 refine RL.binI (v := .bool (((x1).length : Int) != x0)) rfl rfl rfl rfl rfl ?_
 refine RL.finG ?_
 refine GL.cond rfl (fun b133 => ?_) (fun b133 => ?_)
 ·replace h132 := ite_t b133 h132
  refine GL.seq ?_
  refine GL.region ?_
  refine RL.asg rfl rfl rfl ?_
  refine RL.finG ?_
  have h132 := Option.some.inj h132
  subst h132
  exact GL.ret (Gx.ret (v := .int .i64 (3 : Int)) (res1 rfl rfl) (fun a w st => st.toPostV))
 replace h132 := ite_f b133 h132
 refine GL.skip ?_
 refine GL.seq ?_
 refine GL.region ?_
 refine RL.asg rfl rfl rfl ?_
 refine RL.finG ?_
 have h132 := Option.some.inj h132
 subst h132
 exact GL.ret (Gx.ret (v := .int .i64 (0 : Int)) (res1 rfl rfl) (fun a w st => st.toPostV))

set_option maxHeartbeats 4000000 in
theorem slices_Index_int_int_c (S : Hp) (w : World) (hS : S.sub w) (v0 : Value) (x0 : (List Int)) (k0 : ((TR.sl TR.int)).vrep S v0 x0) (x1 : Int) (res : Int) (hm : slices_Index_int_int_m x0 x1 = some res) : Calls Try.prog 85 #[v0, .int .i64 x1] w (PostC w (.int .i64 res)) := by
 refine calls_enter 19 Try.func85 Try.ntmps85 rfl S true [(0, v0), (1, .int .i64 x1)] [imm (TR.sl TR.int) v0 x0] rfl ⟨rfl, ⟨rfl, trivial⟩⟩ hS ⟨k0, trivial⟩ ?_
 unfold slices_Index_int_int_m at hm
 refine GL.seq ?_
 refine GL.region ?_
 refine RL.asg rfl rfl rfl ?_
 refine RL.finG ?_
 refine GL.seq ?_
 refine GL.seq ?_
 refine GL.region ?_
 refine RL.mv rfl rfl rfl ?_
 refine RL.lenS 0 Try.underlying24 rfl rfl rfl rfl SlOf.imm ?_
 refine RL.mv rfl rfl rfl ?_
 refine RL.finG ?_
 refine GL.open_ 0 rfl (fun S h => len_imm S h) (fun n8 => ?_)
 obtain ⟨y9, K10, h11, h12, h13, h14, h15⟩ := bindR_K hm
 refine GL.join (ι := Unit) (fun (p : Unit) => []) (fun (p : Unit) => []) (fun (p : Unit) => K10 (.nx ())) ?_ ?_
 ·refine GL.block ?_
  refine GL.loop (ι := Nat × (List Int)) (fun (p : Nat × (List Int)) => [(0, v0), (1, .int .i64 x1), (7, .int .i64 ((x0).length : Int)), (8, .int .i64 (p.1 : Int))]) (fun (p : Nat × (List Int)) => [imm (TR.sl TR.int) v0 x0]) (fun (p : Nat × (List Int)) => p.1 + p.2.length = (x0).length ∧ List.drop p.1 x0 = p.2 ∧ rangeL (slices_Index_int_int_b1 x1) p.2 p.1 () = some y9) (fun (p : Nat × (List Int)) => p.2.length) (0, x0) ⟨by simp, by simp, h11⟩ (fun a w st => St.cut [0] ⟨rfl, rfl, rfl, rfl, trivial⟩ (by decide) rfl st) ?_
  rintro ⟨i17, r18⟩ ⟨h23, h24, h22⟩
  try dsimp only at h23 h24 h22
  refine GL.weak (env' := [(0, v0), (1, .int .i64 x1), (7, .int .i64 ((x0).length : Int)), (8, .int .i64 (i17 : Int))]) (L' := [imm (TR.sl TR.int) v0 x0]) (fun _ _ st => st) ?_
  refine GL.seq ?_
  refine GL.region ?_
  refine RL.binI (v := .bool (decide ((i17 : Int) < ((x0).length : Int)))) rfl rfl rfl rfl rfl ?_
  refine RL.finG ?_
  refine GL.seq ?_
  refine GL.cond rfl (fun b25 => ?_) (fun b25 => ?_)
  ·have h26 : i17 < (x0).length := by have := of_decide_eq_true b25; omega
   obtain ⟨y27, r29, hr, e28, h30⟩ := drop_cons h24 rfl h26
   subst hr
   obtain ⟨z19, h20, h21⟩ := rangeL_some h22
   unfold slices_Index_int_int_b1 at h20
   try dsimp only at h20
   refine GL.skip ?_
   refine GL.seq ?_
   refine GL.block ?_
   refine GL.seq ?_
   refine GL.region ?_
   refine RL.mv rfl rfl rfl ?_
   refine RL.asg rfl rfl rfl ?_
   refine RL.finG ?_
   refine GL.seq ?_
   refine GL.region ?_
   refine RL.mv rfl rfl rfl ?_
   refine RL.mv rfl rfl rfl ?_
   refine RL.mv rfl rfl rfl ?_
   refine RL.idxS (sz := 1) 0 Try.underlying24 Try_ln3 rfl rfl rfl rfl rfl SlOf.imm (by omega) (by omega) ?_
   refine RL.ldSx (i := i17) (e' := y27) 0 Ex.ik Try_ln3 rfl rfl rfl rfl SlOf.imm e28 Part.self ?_
   refine RL.binI (v := .bool (x1 == y27)) rfl rfl rfl rfl rfl ?_
   refine RL.finG ?_
   refine GL.cond rfl (fun b31 => ?_) (fun b31 => ?_)
   ·replace h20 := ite_t b31 h20
    refine GL.seq ?_
    refine GL.region ?_
    refine RL.mv rfl rfl rfl ?_
    refine RL.asg rfl rfl rfl ?_
    refine RL.finG ?_
    cases h20
    replace h21 : some (Fl.rt _) = some y9 := h21
    cases h21
    have hh := h14 _ h12
    subst hh
    exact GL.ret (Gx.ret (v := .int .i64 (i17 : Int)) (res1 rfl rfl) (fun a w st => st.toPostC rfl))
   replace h20 := ite_f b31 h20
   refine GL.skip ?_
   refine GL.nilB ?_
   refine GL.region ?_
   refine RL.binI (v := .int .i64 ((i17 + 1 : Nat) : Int)) rfl rfl rfl rfl (binI_succ i17 (by omega)) ?_
   refine RL.mv rfl rfl rfl ?_
   refine RL.fin ?_
   cases h20
   exact fun a w st => lop_intro (i17 + 1, r29) ⟨by show i17 + 1 + r29.length = (x0).length; simp only [List.length_cons] at h23; omega, h30, h21⟩ (by simp) (St.cut [0] ⟨rfl, rfl, rfl, rfl, trivial⟩ (by decide) rfl st)
  have h26 : ¬ i17 < (x0).length := by have := of_decide_eq_false b25; omega
  obtain rfl : r18 = [] := by rw [← h24]; exact List.drop_of_length_le (by omega)
  replace h22 : some (Fl.nx _) = some y9 := h22
  cases h22
  exact GL.exit (fun a w st => mid_intro () h12 (St.cut [] trivial (by decide) rfl st))
 rintro ⟨⟩ h32
 have h33 := h13 _ h32
 try dsimp only at h33
 refine GL.weak (env' := []) (L' := []) (fun _ _ st => st) ?_
 refine GL.seq ?_
 refine GL.region ?_
 refine RL.asg rfl rfl rfl ?_
 refine RL.finG ?_
 have h33 := Option.some.inj h33
 subst h33
 exact GL.ret (Gx.ret (v := .int .i64 (-1 : Int)) (res1 rfl rfl) (fun a w st => st.toPostC rfl))

set_option maxHeartbeats 4000000 in
theorem order_Far_c (S : Hp) (w : World) (hS : S.sub w) (v0 : Value) (x0 : (List Int)) (k0 : ((TR.sl TR.int)).vrep S v0 x0) (v1 : Value) (x1 : (List Int)) (k1 : ((TR.sl TR.int)).vrep S v1 x1) (res : Int × Int) (hm : order_Far_m x0 x1 = some res) : Calls Try.prog 98 #[v0, v1] w (PostV w (.tuple #[.int .i64 res.1, .int .i64 res.2])) := by
 refine calls_enter 55 Try.func98 Try.ntmps98 rfl S false [(0, v0), (1, v1)] [imm (TR.sl TR.int) v0 x0, imm (TR.sl TR.int) v1 x1] rfl ⟨rfl, ⟨rfl, trivial⟩⟩ hS ⟨k0, ⟨k1, trivial⟩⟩ ?_
 unfold order_Far_m at hm
 refine GL.seq ?_
 refine GL.region ?_
 refine RL.asg rfl rfl rfl ?_
 refine RL.asg rfl rfl rfl ?_
 refine RL.finG ?_
 refine GL.seq ?_
 refine GL.seq ?_
 refine GL.region ?_
 refine RL.mv rfl rfl rfl ?_
 refine RL.lenS 0 Try.underlying24 rfl rfl rfl rfl SlOf.imm ?_
 refine RL.mv rfl rfl rfl ?_
 obtain ⟨y5, e6, hm⟩ := bind_some hm
 refine RL.callV (v := .int .i64 y5) (vs := [.int .i64 ((x0).length : Int), v0]) Try_fit126 rfl (Or.inl rfl) rfl rfl rfl rfl (fun U w hU hW hL => order_Check_c U w hU ((x0).length : Int) _ _ (hL 0 _ _ rfl Seen.imm) _ e6) ?_
 refine RL.asg rfl rfl rfl ?_
 refine RL.finG ?_
 refine GL.seq ?_
 refine GL.region ?_
 refine RL.mv rfl rfl rfl ?_
 refine RL.binI (v := .bool (y5 != (0 : Int))) rfl rfl rfl rfl rfl ?_
 refine RL.finG ?_
 refine GL.cond rfl (fun b7 => ?_) (fun b7 => ?_)
 ·replace hm := ite_t b7 hm
  refine GL.seq ?_
  refine GL.region ?_
  refine RL.mv rfl rfl rfl ?_
  refine RL.asg rfl rfl rfl ?_
  refine RL.asg rfl rfl rfl ?_
  refine RL.finG ?_
  have hm := Option.some.inj hm
  subst hm
  exact GL.ret (Gx.ret (v := .tuple #[.int .i64 (0 : Int), .int .i64 y5]) (res2 rfl rfl rfl) (fun a w st => st.toPostV))
 replace hm := ite_f b7 hm
 refine GL.skip ?_
 refine GL.seq ?_
 refine GL.seq ?_
 refine GL.region ?_
 refine RL.mv rfl rfl rfl ?_
 refine RL.lenS 0 Try.underlying24 rfl rfl rfl rfl SlOf.imm ?_
 refine RL.mv rfl rfl rfl ?_
 obtain ⟨y10, e11, hm⟩ := bind_some hm
 refine RL.callV (v := .int .i64 y10) (vs := [.int .i64 ((x0).length : Int), v1]) Try_fit126 rfl (Or.inl rfl) rfl rfl rfl rfl (fun U w hU hW hL => order_Check_c U w hU ((x0).length : Int) _ _ (hL 1 _ _ rfl Seen.imm) _ e11) ?_
 refine RL.asg rfl rfl rfl ?_
 refine RL.finG ?_
 refine GL.seq ?_
 refine GL.region ?_
 refine RL.mv rfl rfl rfl ?_
 refine RL.binI (v := .bool (y10 != (0 : Int))) rfl rfl rfl rfl rfl ?_
 refine RL.finG ?_
 refine GL.cond rfl (fun b12 => ?_) (fun b12 => ?_)
 ·replace hm := ite_t b12 hm
  refine GL.seq ?_
  refine GL.region ?_
  refine RL.mv rfl rfl rfl ?_
  refine RL.asg rfl rfl rfl ?_
  refine RL.asg rfl rfl rfl ?_
  refine RL.finG ?_
  have hm := Option.some.inj hm
  subst hm
  exact GL.ret (Gx.ret (v := .tuple #[.int .i64 (0 : Int), .int .i64 y10]) (res2 rfl rfl rfl) (fun a w st => st.toPostV))
 replace hm := ite_f b12 hm
 refine GL.skip ?_
 refine GL.seq ?_
 refine GL.region ?_
 refine RL.asg rfl rfl rfl ?_
 refine RL.finG ?_
 refine GL.seq ?_
 refine GL.seq ?_
 refine GL.region ?_
 refine RL.mv rfl rfl rfl ?_
 refine RL.lenS 0 Try.underlying24 rfl rfl rfl rfl SlOf.imm ?_
 refine RL.mv rfl rfl rfl ?_
 refine RL.finG ?_
 refine GL.open_ 0 rfl (fun S h => len_imm S h) (fun n71 => ?_)
 obtain ⟨y72, K73, h74, h75, h76, h77, h78⟩ := bindR_K hm
 refine GL.join (ι := Int) (fun (p : Int) => [(8, .int .i64 p)]) (fun (p : Int) => []) (fun (p : Int) => K73 (.nx p)) ?_ ?_
 ·refine GL.block ?_
  refine GL.loop (ι := Nat × (List Int) × Int) (fun (p : Nat × (List Int) × Int) => [(0, v0), (1, v1), (8, .int .i64 p.2.2), (27, v0), (28, .int .i64 ((x0).length : Int)), (29, .int .i64 (p.1 : Int))]) (fun (p : Nat × (List Int) × Int) => [imm (TR.sl TR.int) v0 x0, imm (TR.sl TR.int) v1 x1]) (fun (p : Nat × (List Int) × Int) => p.1 + p.2.1.length = (x0).length ∧ List.drop p.1 x0 = p.2.1 ∧ rangeL (order_Far_b1 x0 x1) p.2.1 p.1 p.2.2 = some y72) (fun (p : Nat × (List Int) × Int) => p.2.1.length) (0, x0, (0 : Int)) ⟨by simp, by simp, h74⟩ (fun a w st => St.cut [0, 1] ⟨rfl, rfl, rfl, rfl, rfl, rfl, trivial⟩ (by decide) rfl st) ?_
  rintro ⟨i79, r80, x13⟩ ⟨h85, h86, h84⟩
  try dsimp only at h85 h86 h84
  refine GL.weak (env' := [(0, v0), (1, v1), (8, .int .i64 x13), (27, v0), (28, .int .i64 ((x0).length : Int)), (29, .int .i64 (i79 : Int))]) (L' := [imm (TR.sl TR.int) v0 x0, imm (TR.sl TR.int) v1 x1]) (fun _ _ st => st) ?_
  refine GL.seq ?_
  refine GL.region ?_
  refine RL.binI (v := .bool (decide ((i79 : Int) < ((x0).length : Int)))) rfl rfl rfl rfl rfl ?_
  refine RL.finG ?_
  refine GL.seq ?_
  refine GL.cond rfl (fun b87 => ?_) (fun b87 => ?_)
  ·have h88 : i79 < (x0).length := by have := of_decide_eq_true b87; omega
   obtain ⟨y89, r91, hr, e90, h92⟩ := drop_cons h86 rfl h88
   subst hr
   obtain ⟨z81, h82, h83⟩ := rangeL_some h84
   unfold order_Far_b1 at h82
   try dsimp only at h82
   refine GL.skip ?_
   refine GL.seq ?_
   refine GL.block ?_
   refine GL.seq ?_
   refine GL.region ?_
   refine RL.mv rfl rfl rfl ?_
   refine RL.idxS (sz := 1) 0 Try.underlying24 Try_ln3 rfl rfl rfl rfl rfl SlOf.imm (by omega) (by omega) ?_
   refine RL.ldSx (i := i79) (e' := y89) 0 Ex.ik Try_ln3 rfl rfl rfl rfl SlOf.imm e90 Part.self ?_
   refine RL.asg rfl rfl rfl ?_
   refine RL.asg rfl rfl rfl ?_
   refine RL.finG ?_
   refine GL.seq ?_
   refine GL.region ?_
   refine RL.mv rfl rfl rfl ?_
   refine RL.mv rfl rfl rfl ?_
   refine RL.binI (v := .int .i64 (wadd (i79 : Int) (1 : Int))) rfl rfl rfl rfl rfl ?_
   obtain ⟨y96, e97, h82⟩ := bind_some h82
   replace e97 := chk_some e97
   refine RL.slc (t := TR.int) (i := (wadd (i79 : Int) (1 : Int)).toNat) (j := (x0).length) (sz := 1) 0 Try.underlying24 Try_ln3 rfl rfl rfl rfl (Or.inr ⟨_, _, rfl, by rw [Int.toNat_of_nonneg (by omega)]; rfl⟩) (Or.inl ⟨rfl, rfl⟩) rfl (by omega) (by omega) ?_
   intro v98
   refine RL.lenS 2 Try.underlying24 rfl rfl rfl rfl SlOf.imm ?_
   refine RL.mv rfl rfl rfl ?_
   refine RL.finG ?_
   refine GL.open_ 2 rfl (fun S h => len_imm S h) (fun n113 => ?_)
   obtain ⟨y114, K115, h116, h117, h118, h119, h120⟩ := bindF_K h82
   refine GL.join (ι := Int) (fun (p : Int) => [(0, v0), (1, v1), (8, .int .i64 p), (27, v0), (28, .int .i64 ((x0).length : Int)), (29, .int .i64 (i79 : Int))]) (fun (p : Int) => [imm (TR.sl TR.int) v0 x0, imm (TR.sl TR.int) v1 x1]) (fun (p : Int) => K115 (.nx p)) ?_ ?_
   ·refine GL.block ?_
    refine GL.loop (ι := Nat × (List Int) × Int) (fun (p : Nat × (List Int) × Int) => [(0, v0), (1, v1), (8, .int .i64 p.2.2), (10, .int .i64 y89), (27, v0), (28, .int .i64 ((x0).length : Int)), (29, .int .i64 (i79 : Int)), (37, v98), (38, .int .i64 ((((List.take ((x0).length) x0).drop ((wadd (i79 : Int) (1 : Int)).toNat))).length : Int)), (39, .int .i64 (p.1 : Int))]) (fun (p : Nat × (List Int) × Int) => [imm (TR.sl TR.int) v0 x0, imm (TR.sl TR.int) v1 x1, imm (TR.sl TR.int) v98 ((List.take ((x0).length) x0).drop ((wadd (i79 : Int) (1 : Int)).toNat))]) (fun (p : Nat × (List Int) × Int) => p.1 + p.2.1.length = (((List.take ((x0).length) x0).drop ((wadd (i79 : Int) (1 : Int)).toNat))).length ∧ List.drop p.1 ((List.take ((x0).length) x0).drop ((wadd (i79 : Int) (1 : Int)).toNat)) = p.2.1 ∧ rangeL (order_Far_b2 x1 y89) p.2.1 p.1 p.2.2 = some y114) (fun (p : Nat × (List Int) × Int) => p.2.1.length) (0, ((List.take ((x0).length) x0).drop ((wadd (i79 : Int) (1 : Int)).toNat)), x13) ⟨by simp, by simp, h116⟩ (fun a w st => St.cut [0, 1, 2] ⟨rfl, rfl, rfl, rfl, rfl, rfl, rfl, rfl, rfl, rfl, trivial⟩ (by decide) rfl st) ?_
    rintro ⟨i121, r122, x99⟩ ⟨h127, h128, h126⟩
    try dsimp only at h127 h128 h126
    refine GL.weak (env' := [(0, v0), (1, v1), (8, .int .i64 x99), (10, .int .i64 y89), (27, v0), (28, .int .i64 ((x0).length : Int)), (29, .int .i64 (i79 : Int)), (37, v98), (38, .int .i64 ((((List.take ((x0).length) x0).drop ((wadd (i79 : Int) (1 : Int)).toNat))).length : Int)), (39, .int .i64 (i121 : Int))]) (L' := [imm (TR.sl TR.int) v0 x0, imm (TR.sl TR.int) v1 x1, imm (TR.sl TR.int) v98 ((List.take ((x0).length) x0).drop ((wadd (i79 : Int) (1 : Int)).toNat))]) (fun _ _ st => st) ?_
    refine GL.seq ?_
    refine GL.region ?_
    refine RL.binI (v := .bool (decide ((i121 : Int) < ((((List.take ((x0).length) x0).drop ((wadd (i79 : Int) (1 : Int)).toNat))).length : Int)))) rfl rfl rfl rfl rfl ?_
    refine RL.finG ?_
    refine GL.seq ?_
    refine GL.cond rfl (fun b129 => ?_) (fun b129 => ?_)
    ·have h130 : i121 < (((List.take ((x0).length) x0).drop ((wadd (i79 : Int) (1 : Int)).toNat))).length := by have := of_decide_eq_true b129; omega
     obtain ⟨y131, r133, hr, e132, h134⟩ := drop_cons h128 rfl h130
     subst hr
     obtain ⟨z123, h124, h125⟩ := rangeL_some h126
     unfold order_Far_b2 at h124
     try dsimp only at h124
     refine GL.skip ?_
     refine GL.seq ?_
     refine GL.block ?_
     refine GL.seq ?_
     refine GL.region ?_
     refine RL.idxS (sz := 1) 2 Try.underlying24 Try_ln3 rfl rfl rfl rfl rfl SlOf.imm (by omega) (by omega) ?_
     refine RL.ldSx (i := i121) (e' := y131) 2 Ex.ik Try_ln3 rfl rfl rfl rfl SlOf.imm e132 Part.self ?_
     refine RL.asg rfl rfl rfl ?_
     refine RL.finG ?_
     refine GL.seq ?_
     refine GL.region ?_
     refine RL.mv rfl rfl rfl ?_
     refine RL.mv rfl rfl rfl ?_
     obtain ⟨y139, e140, h124⟩ := bind_some h124
     refine RL.callC (v := .int .i64 y139) (vs := [v1, .int .i64 y89]) Try_fit85 rfl rfl rfl rfl (fun U w hU hW hL => slices_Index_int_int_c U w hU _ _ (hL 1 _ _ rfl Seen.imm) y89 _ e140) ?_
     refine RL.mv rfl rfl rfl ?_
     refine RL.mv rfl rfl rfl ?_
     obtain ⟨y141, e142, h124⟩ := bind_some h124
     refine RL.callC (v := .int .i64 y141) (vs := [v1, .int .i64 y131]) Try_fit85 rfl rfl rfl rfl (fun U w hU hW hL => slices_Index_int_int_c U w hU _ _ (hL 1 _ _ rfl Seen.imm) y131 _ e142) ?_
     refine RL.binI (v := .bool (decide (y139 > y141))) rfl rfl rfl rfl rfl ?_
     refine RL.finG ?_
     refine GL.cond rfl (fun b143 => ?_) (fun b143 => ?_)
     ·replace h124 := ite_t b143 h124
      refine GL.region ?_
      refine RL.mv rfl rfl rfl ?_
      refine RL.binI (v := .int .i64 (wadd x99 (1 : Int))) rfl rfl rfl rfl rfl ?_
      refine RL.asg rfl rfl rfl ?_
      refine RL.finG ?_
      refine GL.nilB ?_
      refine GL.region ?_
      refine RL.binI (v := .int .i64 ((i121 + 1 : Nat) : Int)) rfl rfl rfl rfl (binI_succ i121 (by omega)) ?_
      refine RL.mv rfl rfl rfl ?_
      refine RL.fin ?_
      cases h124
      exact fun a w st => lop_intro (i121 + 1, r133, wadd x99 (1 : Int)) ⟨by show i121 + 1 + r133.length = (((List.take ((x0).length) x0).drop ((wadd (i79 : Int) (1 : Int)).toNat))).length; simp only [List.length_cons] at h127; omega, h134, h125⟩ (by simp) (St.cut [0, 1, 2] ⟨rfl, rfl, rfl, rfl, rfl, rfl, rfl, rfl, rfl, rfl, trivial⟩ (by decide) rfl st)
     replace h124 := ite_f b143 h124
     refine GL.skip ?_
     refine GL.nilB ?_
     refine GL.region ?_
     refine RL.binI (v := .int .i64 ((i121 + 1 : Nat) : Int)) rfl rfl rfl rfl (binI_succ i121 (by omega)) ?_
     refine RL.mv rfl rfl rfl ?_
     refine RL.fin ?_
     cases h124
     exact fun a w st => lop_intro (i121 + 1, r133, x99) ⟨by show i121 + 1 + r133.length = (((List.take ((x0).length) x0).drop ((wadd (i79 : Int) (1 : Int)).toNat))).length; simp only [List.length_cons] at h127; omega, h134, h125⟩ (by simp) (St.cut [0, 1, 2] ⟨rfl, rfl, rfl, rfl, rfl, rfl, rfl, rfl, rfl, rfl, trivial⟩ (by decide) rfl st)
    have h130 : ¬ i121 < (((List.take ((x0).length) x0).drop ((wadd (i79 : Int) (1 : Int)).toNat))).length := by have := of_decide_eq_false b129; omega
    obtain rfl : r122 = [] := by rw [← h128]; exact List.drop_of_length_le (by omega)
    replace h126 : some (Fl.nx _) = some y114 := h126
    cases h126
    exact GL.exit (fun a w st => mid_intro x99 h117 (St.cut [0, 1] ⟨rfl, rfl, rfl, rfl, rfl, rfl, trivial⟩ (by decide) rfl st))
   rintro x99 h144
   have h145 := h118 _ h144
   try dsimp only at h145
   refine GL.weak (env' := [(0, v0), (1, v1), (8, .int .i64 x99), (27, v0), (28, .int .i64 ((x0).length : Int)), (29, .int .i64 (i79 : Int))]) (L' := [imm (TR.sl TR.int) v0 x0, imm (TR.sl TR.int) v1 x1]) (fun _ _ st => st) ?_
   refine GL.nilB ?_
   refine GL.region ?_
   refine RL.binI (v := .int .i64 ((i79 + 1 : Nat) : Int)) rfl rfl rfl rfl (binI_succ i79 (by omega)) ?_
   refine RL.mv rfl rfl rfl ?_
   refine RL.fin ?_
   cases h145
   exact fun a w st => lop_intro (i79 + 1, r91, x99) ⟨by show i79 + 1 + r91.length = (x0).length; simp only [List.length_cons] at h85; omega, h92, h83⟩ (by simp) (St.cut [0, 1] ⟨rfl, rfl, rfl, rfl, rfl, rfl, trivial⟩ (by decide) rfl st)
  have h88 : ¬ i79 < (x0).length := by have := of_decide_eq_false b87; omega
  obtain rfl : r80 = [] := by rw [← h86]; exact List.drop_of_length_le (by omega)
  replace h84 : some (Fl.nx _) = some y72 := h84
  cases h84
  exact GL.exit (fun a w st => mid_intro x13 h75 (St.cut [] ⟨rfl, trivial⟩ (by decide) rfl st))
 rintro x13 h146
 have h147 := h76 _ h146
 try dsimp only at h147
 refine GL.weak (env' := [(8, .int .i64 x13)]) (L' := []) (fun _ _ st => st) ?_
 refine GL.seq ?_
 refine GL.region ?_
 refine RL.mv rfl rfl rfl ?_
 refine RL.asg rfl rfl rfl ?_
 refine RL.asg rfl rfl rfl ?_
 refine RL.finG ?_
 have h147 := Option.some.inj h147
 subst h147
 exact GL.ret (Gx.ret (v := .tuple #[.int .i64 x13, .int .i64 (0 : Int)]) (res2 rfl rfl rfl) (fun a w st => st.toPostV))

set_option maxHeartbeats 4000000 in
theorem pk_orders_c (S : Hp) (w : World) (hS : S.sub w)  (res : Bool) (hm : pk_orders_m = some res) : Calls Try.prog 40 #[] w (PostV w (.bool res)) := by
 refine calls_enter 15 Try.func40 Try.ntmps40 rfl S false [] [] rfl trivial hS trivial ?_
 unfold pk_orders_m at hm
 refine GL.seq ?_
 refine GL.region ?_
 refine RL.asg rfl rfl rfl ?_
 refine RL.finG ?_
 refine GL.seq ?_
 refine GL.region ?_
 refine RL.bS (t := TR.int) (vs := [.int .i64 (0 : Int), .int .i64 (1 : Int), .int .i64 (2 : Int)]) ([(0 : Int), (1 : Int), (2 : Int)] : (List Int)) Try.underlying24 Try_lo3 rfl rfl rfl rfl ⟨VR.int, ⟨VR.int, ⟨VR.int, trivial⟩⟩⟩ rfl (by decide) ?_
 intro v5
 refine RL.bS (t := TR.int) (vs := [.int .i64 (2 : Int), .int .i64 (0 : Int), .int .i64 (1 : Int)]) ([(2 : Int), (0 : Int), (1 : Int)] : (List Int)) Try.underlying24 Try_lo3 rfl rfl rfl rfl ⟨VR.int, ⟨VR.int, ⟨VR.int, trivial⟩⟩⟩ rfl (by decide) ?_
 intro v6
 refine RL.reL (L' := [own 3 TR.int v5 ([(0 : Int), (1 : Int), (2 : Int)] : (List Int)), own 3 TR.int v6 ([(2 : Int), (0 : Int), (1 : Int)] : (List Int))]) rfl ?_
 obtain ⟨y7, e8, hm⟩ := bind_some hm
 refine RL.callV (v := .tuple #[.int .i64 y7.1, .int .i64 y7.2]) (vs := [v5, v6]) Try_fit98 rfl (Or.inl rfl) rfl rfl rfl rfl (fun U w hU hW hL => order_Far_c U w hU _ _ (hL 0 _ _ rfl Seen.own) _ _ (hL 1 _ _ rfl Seen.own) _ e8) ?_
 refine RL.mv rfl rfl rfl ?_
 refine RL.ext rfl rfl rfl rfl ?_
 refine RL.ext rfl rfl rfl rfl ?_
 refine RL.asg rfl rfl rfl ?_
 refine RL.asg rfl rfl rfl ?_
 refine RL.finG ?_
 refine GL.seq ?_
 obtain ⟨y12, K13, h14, h15, h16, h17, h18⟩ := bindR_K hm
 refine GL.join (ι := Bool) (fun (p : Bool) => [(0, .bool p)]) (fun (p : Bool) => []) (fun (p : Bool) => K13 (.nx p)) ?_ ?_
 ·skip
  refine GL.region ?_
  refine RL.mv rfl rfl rfl ?_
  refine RL.binI (v := .bool (y7.2 == (0 : Int))) rfl rfl rfl rfl rfl ?_
  refine RL.mv rfl rfl rfl ?_
  refine RL.split (t := 11) rfl (fun b19 => ?_) (fun b19 => ?_)
  ·replace h14 := ite_t b19 h14
   refine RL.mv rfl rfl rfl ?_
   refine RL.binI (v := .bool (y7.1 == (2 : Int))) rfl rfl rfl rfl rfl ?_
   refine RL.pickT rfl rfl rfl rfl ?_
   refine RL.asg rfl rfl rfl ?_
   refine RL.fin ?_
   cases h14
   exact fun a w st => mid_intro (y7.1 == (2 : Int)) h15 (St.cut [] ⟨rfl, trivial⟩ (by decide) rfl st)
  replace h14 := ite_f b19 h14
  refine RL.skip rfl rfl ?_
  refine RL.skip rfl rfl ?_
  refine RL.pickF rfl rfl rfl rfl ?_
  refine RL.asg rfl rfl rfl ?_
  refine RL.fin ?_
  cases h14
  exact fun a w st => mid_intro false h15 (St.cut [] ⟨rfl, trivial⟩ (by decide) rfl st)
 rintro x11 h20
 have h21 := h16 _ h20
 try dsimp only at h21
 refine GL.weak (env' := [(0, .bool x11)]) (L' := []) (fun _ _ st => st) ?_
 have h21 := Option.some.inj h21
 subst h21
 exact GL.ret (Gx.ret (v := .bool x11) (res1 rfl rfl) (fun a w st => st.toPostV))

set_option maxHeartbeats 4000000 in
theorem tally_Check_c (S : Hp) (w : World) (hS : S.sub w) (x0 : Int) (v1 : Value) (x1 : (List (List Int))) (k1 : ((TR.sl (TR.sl TR.int))).vrep S v1 x1) (res : Int) (hm : tally_Check_m x0 x1 = some res) : Calls Try.prog 105 #[.int .i64 x0, v1] w (PostV w (.int .i64 res)) := by
 refine calls_enter 27 Try.func105 Try.ntmps105 rfl S false [(0, .int .i64 x0), (1, v1)] [imm (TR.sl (TR.sl TR.int)) v1 x1] rfl ⟨rfl, ⟨rfl, trivial⟩⟩ hS ⟨k1, trivial⟩ ?_
 unfold tally_Check_m at hm
 refine GL.seq ?_
 refine GL.region ?_
 refine RL.asg rfl rfl rfl ?_
 refine RL.finG ?_
 refine GL.seq ?_
 refine GL.seq ?_
 obtain ⟨y6, K7, h8, h9, h10, h11, h12⟩ := bindR_K hm
 refine GL.join (ι := Bool) (fun (p : Bool) => [(0, .int .i64 x0), (1, v1), (12, .bool p)]) (fun (p : Bool) => [imm (TR.sl (TR.sl TR.int)) v1 x1]) (fun (p : Bool) => K7 (.nx p)) ?_ ?_
 ·skip
  refine GL.region ?_
  refine RL.mv rfl rfl rfl ?_
  refine RL.binI (v := .bool (decide (x0 < (1 : Int)))) rfl rfl rfl rfl rfl ?_
  refine RL.mv rfl rfl rfl ?_
  refine RL.split (t := 9) rfl (fun b13 => ?_) (fun b13 => ?_)
  ·replace h8 := ite_t b13 h8
   refine RL.skip rfl rfl ?_
   refine RL.skip rfl rfl ?_
   refine RL.pickT rfl rfl rfl rfl ?_
   refine RL.fin ?_
   cases h8
   exact fun a w st => mid_intro true h9 (St.cut [0] ⟨rfl, rfl, rfl, trivial⟩ (by decide) rfl st)
  replace h8 := ite_f b13 h8
  refine RL.mv rfl rfl rfl ?_
  refine RL.binI (v := .bool (decide (x0 > (6 : Int)))) rfl rfl rfl rfl rfl ?_
  refine RL.pickF rfl rfl rfl rfl ?_
  refine RL.fin ?_
  cases h8
  exact fun a w st => mid_intro (decide (x0 > (6 : Int))) h9 (St.cut [0] ⟨rfl, rfl, rfl, trivial⟩ (by decide) rfl st)
 rintro x5 h14
 have h15 := h10 _ h14
 try dsimp only at h15
 refine GL.weak (env' := [(0, .int .i64 x0), (1, v1), (12, .bool x5)]) (L' := [imm (TR.sl (TR.sl TR.int)) v1 x1]) (fun _ _ st => st) ?_
 refine GL.cond rfl (fun b16 => ?_) (fun b16 => ?_)
 ·replace h15 := ite_t b16 h15
  refine GL.seq ?_
  refine GL.region ?_
  refine RL.asg rfl rfl rfl ?_
  refine RL.finG ?_
  have h15 := Option.some.inj h15
  subst h15
  exact GL.ret (Gx.ret (v := .int .i64 (1 : Int)) (res1 rfl rfl) (fun a w st => st.toPostV))
 replace h15 := ite_f b16 h15
 refine GL.skip ?_
 refine GL.seq ?_
 refine GL.seq ?_
 refine GL.region ?_
 refine RL.mv rfl rfl rfl ?_
 refine RL.lenS 0 Try.underlying37 rfl rfl rfl rfl SlOf.imm ?_
 refine RL.binI (v := .bool (decide (((x1).length : Int) > (30 : Int)))) rfl rfl rfl rfl rfl ?_
 refine RL.finG ?_
 refine GL.cond rfl (fun b17 => ?_) (fun b17 => ?_)
 ·replace h15 := ite_t b17 h15
  refine GL.seq ?_
  refine GL.region ?_
  refine RL.asg rfl rfl rfl ?_
  refine RL.finG ?_
  have h15 := Option.some.inj h15
  subst h15
  exact GL.ret (Gx.ret (v := .int .i64 (2 : Int)) (res1 rfl rfl) (fun a w st => st.toPostV))
 replace h15 := ite_f b17 h15
 refine GL.skip ?_
 refine GL.seq ?_
 refine GL.seq ?_
 refine GL.region ?_
 refine RL.mv rfl rfl rfl ?_
 refine RL.lenS 0 Try.underlying37 rfl rfl rfl rfl SlOf.imm ?_
 refine RL.mv rfl rfl rfl ?_
 refine RL.finG ?_
 refine GL.open_ 0 rfl (fun S h => len_imm S h) (fun n29 => ?_)
 obtain ⟨y30, K31, h32, h33, h34, h35, h36⟩ := bindR_K h15
 refine GL.join (ι := Unit) (fun (p : Unit) => []) (fun (p : Unit) => []) (fun (p : Unit) => K31 (.nx ())) ?_ ?_
 ·refine GL.block ?_
  refine GL.loop (ι := Nat × (List (List Int))) (fun (p : Nat × (List (List Int))) => [(0, .int .i64 x0), (16, v1), (17, .int .i64 ((x1).length : Int)), (18, .int .i64 (p.1 : Int))]) (fun (p : Nat × (List (List Int))) => [imm (TR.sl (TR.sl TR.int)) v1 x1]) (fun (p : Nat × (List (List Int))) => p.1 + p.2.length = (x1).length ∧ List.drop p.1 x1 = p.2 ∧ rangeL (tally_Check_b1 x0) p.2 p.1 () = some y30) (fun (p : Nat × (List (List Int))) => p.2.length) (0, x1) ⟨by simp, by simp, h32⟩ (fun a w st => St.cut [0] ⟨rfl, rfl, rfl, rfl, trivial⟩ (by decide) rfl st) ?_
  rintro ⟨i37, r38⟩ ⟨h43, h44, h42⟩
  try dsimp only at h43 h44 h42
  refine GL.weak (env' := [(0, .int .i64 x0), (16, v1), (17, .int .i64 ((x1).length : Int)), (18, .int .i64 (i37 : Int))]) (L' := [imm (TR.sl (TR.sl TR.int)) v1 x1]) (fun _ _ st => st) ?_
  refine GL.seq ?_
  refine GL.region ?_
  refine RL.binI (v := .bool (decide ((i37 : Int) < ((x1).length : Int)))) rfl rfl rfl rfl rfl ?_
  refine RL.finG ?_
  refine GL.seq ?_
  refine GL.cond rfl (fun b45 => ?_) (fun b45 => ?_)
  ·have h46 : i37 < (x1).length := by have := of_decide_eq_true b45; omega
   obtain ⟨y47, r49, hr, e48, h50⟩ := drop_cons h44 rfl h46
   subst hr
   obtain ⟨z39, h40, h41⟩ := rangeL_some h42
   unfold tally_Check_b1 at h40
   try dsimp only at h40
   refine GL.skip ?_
   refine GL.seq ?_
   refine GL.block ?_
   refine GL.seq ?_
   refine GL.region ?_
   refine RL.idxS (sz := 1) 0 Try.underlying37 Try_ln24 rfl rfl rfl rfl rfl SlOf.imm (by omega) (by omega) ?_
   refine RL.ldS (i := i37) (r := (TR.sl TR.int)) (e' := y47) 0 Try_ln24 rfl rfl rfl rfl SlOf.imm e48 Part.self ?_
   intro v52
   refine RL.asg rfl rfl rfl ?_
   refine RL.finG ?_
   refine GL.seq ?_
   refine GL.region ?_
   refine RL.mv rfl rfl rfl ?_
   refine RL.mv rfl rfl rfl ?_
   obtain ⟨y55, e56, h40⟩ := bind_some h40
   refine RL.callV (v := .int .i64 y55) (vs := [.int .i64 x0, v52]) Try_fit126 rfl (Or.inl rfl) rfl rfl rfl rfl (fun U w hU hW hL => order_Check_c U w hU x0 _ _ (hL 1 _ _ rfl Seen.imm) _ e56) ?_
   refine RL.binI (v := .bool (y55 != (0 : Int))) rfl rfl rfl rfl rfl ?_
   refine RL.finG ?_
   refine GL.cond rfl (fun b57 => ?_) (fun b57 => ?_)
   ·replace h40 := ite_t b57 h40
    refine GL.seq ?_
    refine GL.region ?_
    refine RL.asg rfl rfl rfl ?_
    refine RL.finG ?_
    cases h40
    replace h41 : some (Fl.rt _) = some y30 := h41
    cases h41
    have hh := h35 _ h33
    subst hh
    exact GL.ret (Gx.ret (v := .int .i64 (3 : Int)) (res1 rfl rfl) (fun a w st => st.toPostV))
   replace h40 := ite_f b57 h40
   refine GL.skip ?_
   refine GL.nilB ?_
   refine GL.region ?_
   refine RL.binI (v := .int .i64 ((i37 + 1 : Nat) : Int)) rfl rfl rfl rfl (binI_succ i37 (by omega)) ?_
   refine RL.mv rfl rfl rfl ?_
   refine RL.fin ?_
   cases h40
   exact fun a w st => lop_intro (i37 + 1, r49) ⟨by show i37 + 1 + r49.length = (x1).length; simp only [List.length_cons] at h43; omega, h50, h41⟩ (by simp) (St.cut [0] ⟨rfl, rfl, rfl, rfl, trivial⟩ (by decide) rfl st)
  have h46 : ¬ i37 < (x1).length := by have := of_decide_eq_false b45; omega
  obtain rfl : r38 = [] := by rw [← h44]; exact List.drop_of_length_le (by omega)
  replace h42 : some (Fl.nx _) = some y30 := h42
  cases h42
  exact GL.exit (fun a w st => mid_intro () h33 (St.cut [] trivial (by decide) rfl st))
 rintro ⟨⟩ h58
 have h59 := h34 _ h58
 try dsimp only at h59
 refine GL.weak (env' := []) (L' := []) (fun _ _ st => st) ?_
 refine GL.seq ?_
 refine GL.region ?_
 refine RL.asg rfl rfl rfl ?_
 refine RL.finG ?_
 have h59 := Option.some.inj h59
 subst h59
 exact GL.ret (Gx.ret (v := .int .i64 (0 : Int)) (res1 rfl rfl) (fun a w st => st.toPostV))

set_option maxHeartbeats 4000000 in
theorem tally_Duels_c (S : Hp) (w : World) (hS : S.sub w) (x0 : Int) (v1 : Value) (x1 : (List (List Int))) (k1 : ((TR.sl (TR.sl TR.int))).vrep S v1 x1) (res : (List (List Int)) × Int) (hm : tally_Duels_m x0 x1 = some res) : Calls Try.prog 45 #[.int .i64 x0, v1] w (Post w S (fun (o : Value × (List Value)) => .tuple #[o.1, .int .i64 res.2]) (fun (o : Value × (List Value)) => [own2 24 3 TR.int o.1 o.2 res.1])) := by
 refine calls_enter 69 Try.func45 Try.ntmps45 rfl S false [(0, .int .i64 x0), (1, v1)] [imm (TR.sl (TR.sl TR.int)) v1 x1] rfl ⟨rfl, ⟨rfl, trivial⟩⟩ hS ⟨k1, trivial⟩ ?_
 unfold tally_Duels_m at hm
 refine GL.seq ?_
 refine GL.region ?_
 refine RL.asg rfl rfl rfl ?_
 refine RL.asg rfl rfl rfl ?_
 refine RL.finG ?_
 refine GL.seq ?_
 refine GL.seq ?_
 refine GL.region ?_
 refine RL.mv rfl rfl rfl ?_
 refine RL.mv rfl rfl rfl ?_
 obtain ⟨y5, e6, hm⟩ := bind_some hm
 refine RL.callV (v := .int .i64 y5) (vs := [.int .i64 x0, v1]) Try_fit105 rfl (Or.inl rfl) rfl rfl rfl rfl (fun U w hU hW hL => tally_Check_c U w hU x0 _ _ (hL 0 _ _ rfl Seen.imm) _ e6) ?_
 refine RL.asg rfl rfl rfl ?_
 refine RL.finG ?_
 refine GL.seq ?_
 refine GL.region ?_
 refine RL.mv rfl rfl rfl ?_
 refine RL.binI (v := .bool (y5 != (0 : Int))) rfl rfl rfl rfl rfl ?_
 refine RL.finG ?_
 refine GL.cond rfl (fun b7 => ?_) (fun b7 => ?_)
 ·replace hm := ite_t b7 hm
  refine GL.seq ?_
  refine GL.region ?_
  refine RL.mv rfl rfl rfl ?_
  refine RL.asg rfl rfl rfl ?_
  refine RL.asg rfl rfl rfl ?_
  refine RL.finG ?_
  refine GL.weak (fun a w st => st.nilOwn 24 TR.raw) ?_
  refine GL.weak (fun a w st => St.toRows (m := 0) 3 TR.int 1 rfl st) ?_
  have hm := Option.some.inj hm
  subst hm
  exact GL.ret (Gx.ret (v := .tuple #[Value.slice none 0 0, .int .i64 y5]) (res2 rfl rfl rfl) (fun a w st => (st.pick [1] (by decide) rfl).toPost (Value.slice none 0 0, ([] : List Value))))
 replace hm := ite_f b7 hm
 refine GL.skip ?_
 refine GL.seq ?_
 refine GL.region ?_
 refine RL.mv rfl rfl rfl ?_
 obtain ⟨y11, e12, hm⟩ := bind_some hm
 replace e12 := chk_some e12
 refine RL.mkS (t := TR.raw) (z := .slice none 0 0) Try.underlying37 Try_lo24 (fun S => ⟨rfl, rfl⟩) rfl rfl rfl rfl e12.1 e12.2 ?_
 intro v13
 refine RL.weak (fun a w st => st.toRows 3 TR.int 1 rfl) ?_
 refine RL.reL (L' := [imm (TR.sl (TR.sl TR.int)) v1 x1, own2 24 3 TR.int v13 (List.replicate (x0).toNat (Value.slice none 0 0)) (List.replicate (x0).toNat ([] : (List Int)))]) rfl ?_
 refine RL.asg rfl rfl rfl ?_
 refine RL.finG ?_
 refine GL.seq ?_
 refine GL.seq ?_
 refine GL.region ?_
 refine RL.mv rfl rfl rfl ?_
 refine RL.lenR 1 Try.underlying37 rfl rfl rfl rfl ?_
 refine RL.mv rfl rfl rfl ?_
 refine RL.finG ?_
 refine GL.lenR 1 rfl (fun n36 => ?_)
 obtain ⟨y37, K38, h39, h40, h41, h42, h43⟩ := bindR_K hm
 refine GL.join (ι := (List (List Int)) × (List Value)) (fun (p : (List (List Int)) × (List Value)) => [(1, v1), (7, v13)]) (fun (p : (List (List Int)) × (List Value)) => [imm (TR.sl (TR.sl TR.int)) v1 x1, own2 24 3 TR.int v13 p.2 p.1]) (fun (p : (List (List Int)) × (List Value)) => K38 (.nx p.1)) ?_ ?_
 ·refine GL.block ?_
  refine GL.loop (ι := Nat × Nat × (List (List Int)) × (List Value)) (fun (p : Nat × Nat × (List (List Int)) × (List Value)) => [(0, .int .i64 x0), (1, v1), (7, v13), (24, .int .i64 (((List.replicate (x0).toNat ([] : (List Int)))).length : Int)), (25, .int .i64 (p.1 : Int))]) (fun (p : Nat × Nat × (List (List Int)) × (List Value)) => [imm (TR.sl (TR.sl TR.int)) v1 x1, own2 24 3 TR.int v13 p.2.2.2 p.2.2.1]) (fun (p : Nat × Nat × (List (List Int)) × (List Value)) => p.1 + p.2.1 = ((List.replicate (x0).toNat ([] : (List Int)))).length ∧ rangeN (tally_Duels_b1 x0) p.2.1 p.1 p.2.2.1 = some y37) (fun (p : Nat × Nat × (List (List Int)) × (List Value)) => p.2.1) (0, ((List.replicate (x0).toNat ([] : (List Int)))).length, (List.replicate (x0).toNat ([] : (List Int))), (List.replicate (x0).toNat (Value.slice none 0 0))) ⟨by simp, h39⟩ (fun a w st => St.cut [0, 1] ⟨rfl, rfl, rfl, rfl, rfl, trivial⟩ (by decide) rfl st) ?_
  rintro ⟨i44, r45, l24, V25⟩ ⟨h50, h49⟩
  try dsimp only at h50 h49
  refine GL.weak (env' := [(0, .int .i64 x0), (1, v1), (7, v13), (24, .int .i64 (((List.replicate (x0).toNat ([] : (List Int)))).length : Int)), (25, .int .i64 (i44 : Int))]) (L' := [imm (TR.sl (TR.sl TR.int)) v1 x1, own2 24 3 TR.int v13 V25 l24]) (fun _ _ st => st) ?_
  refine GL.seq ?_
  refine GL.region ?_
  refine RL.binI (v := .bool (decide ((i44 : Int) < (((List.replicate (x0).toNat ([] : (List Int)))).length : Int)))) rfl rfl rfl rfl rfl ?_
  refine RL.finG ?_
  refine GL.seq ?_
  refine GL.cond rfl (fun b52 => ?_) (fun b52 => ?_)
  ·have h53 : i44 < ((List.replicate (x0).toNat ([] : (List Int)))).length := by have := of_decide_eq_true b52; omega
   obtain ⟨r54, hr⟩ : ∃ m, r45 = m + 1 := ⟨r45 - 1, by omega⟩
   subst hr
   obtain ⟨z46, h47, h48⟩ := rangeN_some h49
   unfold tally_Duels_b1 at h47
   try dsimp only at h47
   refine GL.skip ?_
   refine GL.seq ?_
   refine GL.block ?_
   refine GL.seq ?_
   refine GL.region ?_
   refine RL.mv rfl rfl rfl ?_
   refine RL.asg rfl rfl rfl ?_
   refine RL.finG ?_
   refine GL.region ?_
   refine RL.mv rfl rfl rfl ?_
   refine RL.mv rfl rfl rfl ?_
   refine RL.mv rfl rfl rfl ?_
   obtain ⟨y60, e61, h47⟩ := bind_some h47
   replace e61 := chk_some e61
   refine RL.mkS (t := TR.int) (z := (0 : Int)) Try.underlying24 Try_lo3 (fun S => rfl) rfl rfl rfl rfl e61.1 e61.2 ?_
   intro v62
   obtain ⟨y63, e64, h47⟩ := bind_some h47
   refine RL.idxR 1 Try.underlying37 Try_ln24 rfl rfl rfl rfl rfl (idx_some e64).1 (idx_some e64).2.1 ?_
   refine RL.stSp (i := i44) (r0 := y63) 1 2 (by decide) Try_ln24 rfl rfl rfl rfl rfl rfl (idx_some e64).2.2 ?_
   refine RL.reL (L' := [imm (TR.sl (TR.sl TR.int)) v1 x1, own2 24 3 TR.int v13 (List.set V25 i44 v62) (List.set l24 i44 (List.replicate (x0).toNat (0 : Int))), gone]) rfl ?_
   refine RL.finG ?_
   refine GL.nilB ?_
   refine GL.region ?_
   refine RL.binI (v := .int .i64 ((i44 + 1 : Nat) : Int)) rfl rfl rfl rfl (binI_succ i44 (by omega)) ?_
   refine RL.mv rfl rfl rfl ?_
   refine RL.fin ?_
   cases h47
   exact fun a w st => lop_intro (i44 + 1, r54, (List.set l24 i44 (List.replicate (x0).toNat (0 : Int))), (List.set V25 i44 v62)) ⟨by show i44 + 1 + r54 = ((List.replicate (x0).toNat ([] : (List Int)))).length; omega, h48⟩ (by simp) (St.cut [0, 1] ⟨rfl, rfl, rfl, rfl, rfl, trivial⟩ (by decide) rfl st)
  have h53 : ¬ i44 < ((List.replicate (x0).toNat ([] : (List Int)))).length := by have := of_decide_eq_false b52; omega
  obtain rfl : r45 = 0 := by omega
  replace h49 : some (Fl.nx _) = some y37 := h49
  cases h49
  exact GL.exit (fun a w st => mid_intro (l24, V25) h40 (St.cut [0, 1] ⟨rfl, rfl, trivial⟩ (by decide) rfl st))
 rintro ⟨l24, V25⟩ h65
 have h66 := h41 _ h65
 try dsimp only at h66
 refine GL.weak (env' := [(1, v1), (7, v13)]) (L' := [imm (TR.sl (TR.sl TR.int)) v1 x1, own2 24 3 TR.int v13 V25 l24]) (fun _ _ st => st) ?_
 refine GL.seq ?_
 refine GL.seq ?_
 refine GL.region ?_
 refine RL.mv rfl rfl rfl ?_
 refine RL.lenS 0 Try.underlying37 rfl rfl rfl rfl SlOf.imm ?_
 refine RL.mv rfl rfl rfl ?_
 refine RL.finG ?_
 refine GL.open_ 0 rfl (fun S h => len_imm S h) (fun n605 => ?_)
 obtain ⟨y606, K607, h608, h609, h610, h611, h612⟩ := bindR_K h66
 refine GL.join (ι := (List (List Int)) × (List Value)) (fun (p : (List (List Int)) × (List Value)) => [(7, v13)]) (fun (p : (List (List Int)) × (List Value)) => [own2 24 3 TR.int v13 p.2 p.1]) (fun (p : (List (List Int)) × (List Value)) => K607 (.nx p.1)) ?_ ?_
 ·refine GL.block ?_
  refine GL.loop (ι := Nat × (List (List Int)) × (List (List Int)) × (List Value)) (fun (p : Nat × (List (List Int)) × (List (List Int)) × (List Value)) => [(7, v13), (34, v1), (35, .int .i64 ((x1).length : Int)), (36, .int .i64 (p.1 : Int))]) (fun (p : Nat × (List (List Int)) × (List (List Int)) × (List Value)) => [own2 24 3 TR.int v13 p.2.2.2 p.2.2.1, imm (TR.sl (TR.sl TR.int)) v1 x1]) (fun (p : Nat × (List (List Int)) × (List (List Int)) × (List Value)) => p.1 + p.2.1.length = (x1).length ∧ List.drop p.1 x1 = p.2.1 ∧ rangeL tally_Duels_b2 p.2.1 p.1 p.2.2.1 = some y606) (fun (p : Nat × (List (List Int)) × (List (List Int)) × (List Value)) => p.2.1.length) (0, x1, l24, V25) ⟨by simp, by simp, h608⟩ (fun a w st => St.cut [1, 0] ⟨rfl, rfl, rfl, rfl, trivial⟩ (by decide) rfl st) ?_
  rintro ⟨i613, r614, l335, V336⟩ ⟨h619, h620, h618⟩
  try dsimp only at h619 h620 h618
  refine GL.weak (env' := [(7, v13), (34, v1), (35, .int .i64 ((x1).length : Int)), (36, .int .i64 (i613 : Int))]) (L' := [own2 24 3 TR.int v13 V336 l335, imm (TR.sl (TR.sl TR.int)) v1 x1]) (fun _ _ st => st) ?_
  refine GL.seq ?_
  refine GL.region ?_
  refine RL.binI (v := .bool (decide ((i613 : Int) < ((x1).length : Int)))) rfl rfl rfl rfl rfl ?_
  refine RL.finG ?_
  refine GL.seq ?_
  refine GL.cond rfl (fun b621 => ?_) (fun b621 => ?_)
  ·have h622 : i613 < (x1).length := by have := of_decide_eq_true b621; omega
   obtain ⟨y623, r625, hr, e624, h626⟩ := drop_cons h620 rfl h622
   subst hr
   obtain ⟨z615, h616, h617⟩ := rangeL_some h618
   unfold tally_Duels_b2 at h616
   try dsimp only at h616
   refine GL.skip ?_
   refine GL.seq ?_
   refine GL.block ?_
   refine GL.seq ?_
   refine GL.region ?_
   refine RL.idxS (sz := 1) 1 Try.underlying37 Try_ln24 rfl rfl rfl rfl rfl SlOf.imm (by omega) (by omega) ?_
   refine RL.ldS (i := i613) (r := (TR.sl TR.int)) (e' := y623) 1 Try_ln24 rfl rfl rfl rfl SlOf.imm e624 Part.self ?_
   intro v628
   refine RL.asg rfl rfl rfl ?_
   refine RL.finG ?_
   refine GL.seq ?_
   refine GL.region ?_
   refine RL.mv rfl rfl rfl ?_
   refine RL.lenS 2 Try.underlying24 rfl rfl rfl rfl SlOf.imm ?_
   refine RL.mv rfl rfl rfl ?_
   refine RL.finG ?_
   refine GL.open_ 2 rfl (fun S h => len_imm S h) (fun n791 => ?_)
   obtain ⟨y792, K793, h794, h795, h796, h797, h798⟩ := bindF_K h616
   refine GL.join (ι := (List (List Int)) × (List Value)) (fun (p : (List (List Int)) × (List Value)) => [(7, v13), (34, v1), (35, .int .i64 ((x1).length : Int)), (36, .int .i64 (i613 : Int))]) (fun (p : (List (List Int)) × (List Value)) => [own2 24 3 TR.int v13 p.2 p.1, imm (TR.sl (TR.sl TR.int)) v1 x1]) (fun (p : (List (List Int)) × (List Value)) => K793 (.nx p.1)) ?_ ?_
   ·refine GL.block ?_
    refine GL.loop (ι := Nat × (List Int) × (List (List Int)) × (List Value)) (fun (p : Nat × (List Int) × (List (List Int)) × (List Value)) => [(7, v13), (10, v628), (34, v1), (35, .int .i64 ((x1).length : Int)), (36, .int .i64 (i613 : Int)), (40, v628), (41, .int .i64 ((y623).length : Int)), (42, .int .i64 (p.1 : Int))]) (fun (p : Nat × (List Int) × (List (List Int)) × (List Value)) => [own2 24 3 TR.int v13 p.2.2.2 p.2.2.1, imm (TR.sl TR.int) v628 y623, imm (TR.sl (TR.sl TR.int)) v1 x1]) (fun (p : Nat × (List Int) × (List (List Int)) × (List Value)) => p.1 + p.2.1.length = (y623).length ∧ List.drop p.1 y623 = p.2.1 ∧ rangeL (tally_Duels_b3 y623) p.2.1 p.1 p.2.2.1 = some y792) (fun (p : Nat × (List Int) × (List (List Int)) × (List Value)) => p.2.1.length) (0, y623, l335, V336) ⟨by simp, by simp, h794⟩ (fun a w st => St.cut [0, 2, 1] ⟨rfl, rfl, rfl, rfl, rfl, rfl, rfl, rfl, trivial⟩ (by decide) rfl st) ?_
    rintro ⟨i799, r800, l709, V710⟩ ⟨h805, h806, h804⟩
    try dsimp only at h805 h806 h804
    refine GL.weak (env' := [(7, v13), (10, v628), (34, v1), (35, .int .i64 ((x1).length : Int)), (36, .int .i64 (i613 : Int)), (40, v628), (41, .int .i64 ((y623).length : Int)), (42, .int .i64 (i799 : Int))]) (L' := [own2 24 3 TR.int v13 V710 l709, imm (TR.sl TR.int) v628 y623, imm (TR.sl (TR.sl TR.int)) v1 x1]) (fun _ _ st => st) ?_
    refine GL.seq ?_
    refine GL.region ?_
    refine RL.binI (v := .bool (decide ((i799 : Int) < ((y623).length : Int)))) rfl rfl rfl rfl rfl ?_
    refine RL.finG ?_
    refine GL.seq ?_
    refine GL.cond rfl (fun b807 => ?_) (fun b807 => ?_)
    ·have h808 : i799 < (y623).length := by have := of_decide_eq_true b807; omega
     obtain ⟨y809, r811, hr, e810, h812⟩ := drop_cons h806 rfl h808
     subst hr
     obtain ⟨z801, h802, h803⟩ := rangeL_some h804
     unfold tally_Duels_b3 at h802
     try dsimp only at h802
     refine GL.skip ?_
     refine GL.seq ?_
     refine GL.block ?_
     refine GL.seq ?_
     refine GL.region ?_
     refine RL.mv rfl rfl rfl ?_
     refine RL.idxS (sz := 1) 1 Try.underlying24 Try_ln3 rfl rfl rfl rfl rfl SlOf.imm (by omega) (by omega) ?_
     refine RL.ldSx (i := i799) (e' := y809) 1 Ex.ik Try_ln3 rfl rfl rfl rfl SlOf.imm e810 Part.self ?_
     refine RL.asg rfl rfl rfl ?_
     refine RL.asg rfl rfl rfl ?_
     refine RL.finG ?_
     refine GL.seq ?_
     refine GL.region ?_
     refine RL.mv rfl rfl rfl ?_
     refine RL.mv rfl rfl rfl ?_
     refine RL.binI (v := .int .i64 (wadd (i799 : Int) (1 : Int))) rfl rfl rfl rfl rfl ?_
     obtain ⟨y816, e817, h802⟩ := bind_some h802
     replace e817 := chk_some e817
     refine RL.slc (t := TR.int) (i := (wadd (i799 : Int) (1 : Int)).toNat) (j := (y623).length) (sz := 1) 1 Try.underlying24 Try_ln3 rfl rfl rfl rfl (Or.inr ⟨_, _, rfl, by rw [Int.toNat_of_nonneg (by omega)]; rfl⟩) (Or.inl ⟨rfl, rfl⟩) rfl (by omega) (by omega) ?_
     intro v818
     refine RL.lenS 3 Try.underlying24 rfl rfl rfl rfl SlOf.imm ?_
     refine RL.mv rfl rfl rfl ?_
     refine RL.finG ?_
     refine GL.open_ 3 rfl (fun S h => len_imm S h) (fun n853 => ?_)
     obtain ⟨y854, K855, h856, h857, h858, h859, h860⟩ := bindF_K h802
     refine GL.join (ι := (List (List Int)) × (List Value)) (fun (p : (List (List Int)) × (List Value)) => [(7, v13), (10, v628), (34, v1), (35, .int .i64 ((x1).length : Int)), (36, .int .i64 (i613 : Int)), (40, v628), (41, .int .i64 ((y623).length : Int)), (42, .int .i64 (i799 : Int))]) (fun (p : (List (List Int)) × (List Value)) => [own2 24 3 TR.int v13 p.2 p.1, imm (TR.sl TR.int) v628 y623, imm (TR.sl (TR.sl TR.int)) v1 x1]) (fun (p : (List (List Int)) × (List Value)) => K855 (.nx p.1)) ?_ ?_
     ·refine GL.block ?_
      refine GL.loop (ι := Nat × (List Int) × (List (List Int)) × (List Value)) (fun (p : Nat × (List Int) × (List (List Int)) × (List Value)) => [(7, v13), (10, v628), (12, .int .i64 y809), (34, v1), (35, .int .i64 ((x1).length : Int)), (36, .int .i64 (i613 : Int)), (40, v628), (41, .int .i64 ((y623).length : Int)), (42, .int .i64 (i799 : Int)), (50, v818), (51, .int .i64 ((((List.take ((y623).length) y623).drop ((wadd (i799 : Int) (1 : Int)).toNat))).length : Int)), (52, .int .i64 (p.1 : Int))]) (fun (p : Nat × (List Int) × (List (List Int)) × (List Value)) => [own2 24 3 TR.int v13 p.2.2.2 p.2.2.1, imm (TR.sl TR.int) v628 y623, imm (TR.sl (TR.sl TR.int)) v1 x1, imm (TR.sl TR.int) v818 ((List.take ((y623).length) y623).drop ((wadd (i799 : Int) (1 : Int)).toNat))]) (fun (p : Nat × (List Int) × (List (List Int)) × (List Value)) => p.1 + p.2.1.length = (((List.take ((y623).length) y623).drop ((wadd (i799 : Int) (1 : Int)).toNat))).length ∧ List.drop p.1 ((List.take ((y623).length) y623).drop ((wadd (i799 : Int) (1 : Int)).toNat)) = p.2.1 ∧ rangeL (tally_Duels_b4 y809) p.2.1 p.1 p.2.2.1 = some y854) (fun (p : Nat × (List Int) × (List (List Int)) × (List Value)) => p.2.1.length) (0, ((List.take ((y623).length) y623).drop ((wadd (i799 : Int) (1 : Int)).toNat)), l709, V710) ⟨by simp, by simp, h856⟩ (fun a w st => St.cut [0, 1, 2, 3] ⟨rfl, rfl, rfl, rfl, rfl, rfl, rfl, rfl, rfl, rfl, rfl, rfl, trivial⟩ (by decide) rfl st) ?_
      rintro ⟨i861, r862, l835, V836⟩ ⟨h867, h868, h866⟩
      try dsimp only at h867 h868 h866
      refine GL.weak (env' := [(7, v13), (10, v628), (12, .int .i64 y809), (34, v1), (35, .int .i64 ((x1).length : Int)), (36, .int .i64 (i613 : Int)), (40, v628), (41, .int .i64 ((y623).length : Int)), (42, .int .i64 (i799 : Int)), (50, v818), (51, .int .i64 ((((List.take ((y623).length) y623).drop ((wadd (i799 : Int) (1 : Int)).toNat))).length : Int)), (52, .int .i64 (i861 : Int))]) (L' := [own2 24 3 TR.int v13 V836 l835, imm (TR.sl TR.int) v628 y623, imm (TR.sl (TR.sl TR.int)) v1 x1, imm (TR.sl TR.int) v818 ((List.take ((y623).length) y623).drop ((wadd (i799 : Int) (1 : Int)).toNat))]) (fun _ _ st => st) ?_
      refine GL.seq ?_
      refine GL.region ?_
      refine RL.binI (v := .bool (decide ((i861 : Int) < ((((List.take ((y623).length) y623).drop ((wadd (i799 : Int) (1 : Int)).toNat))).length : Int)))) rfl rfl rfl rfl rfl ?_
      refine RL.finG ?_
      refine GL.seq ?_
      refine GL.cond rfl (fun b869 => ?_) (fun b869 => ?_)
      ·have h870 : i861 < (((List.take ((y623).length) y623).drop ((wadd (i799 : Int) (1 : Int)).toNat))).length := by have := of_decide_eq_true b869; omega
       obtain ⟨y871, r873, hr, e872, h874⟩ := drop_cons h868 rfl h870
       subst hr
       obtain ⟨z863, h864, h865⟩ := rangeL_some h866
       unfold tally_Duels_b4 at h864
       try dsimp only at h864
       refine GL.skip ?_
       refine GL.seq ?_
       refine GL.block ?_
       refine GL.seq ?_
       refine GL.region ?_
       refine RL.idxS (sz := 1) 3 Try.underlying24 Try_ln3 rfl rfl rfl rfl rfl SlOf.imm (by omega) (by omega) ?_
       refine RL.ldSx (i := i861) (e' := y871) 3 Ex.ik Try_ln3 rfl rfl rfl rfl SlOf.imm e872 Part.self ?_
       refine RL.asg rfl rfl rfl ?_
       refine RL.finG ?_
       refine GL.region ?_
       refine RL.mv rfl rfl rfl ?_
       refine RL.mv rfl rfl rfl ?_
       obtain ⟨y881, e882, h864⟩ := bind_some h864
       refine RL.idxR 0 Try.underlying37 Try_ln24 rfl rfl rfl rfl rfl (idx_some e882).1 (idx_some e882).2.1 ?_
       refine RL.ldR (i := (y809).toNat) (r := y881) 0 Try_ln24 rfl rfl rfl rfl (idx_some e882).2.2 ?_
       refine RL.mv rfl rfl rfl ?_
       obtain ⟨y883, e884, h864⟩ := bind_some h864
       refine RL.idxS (sz := 1) 0 Try.underlying24 Try_ln3 rfl rfl rfl rfl rfl (SlOf.row (idx_some e882).2.2) (idx_some e884).1 (idx_some e884).2.1 ?_
       refine RL.ldSx (i := (y871).toNat) (e' := y883) 0 Ex.ik Try_ln3 rfl rfl rfl rfl (SlOf.row (idx_some e882).2.2) (idx_some e884).2.2 Part.self ?_
       refine RL.binI (v := .int .i64 (wadd y883 (1 : Int))) rfl rfl rfl rfl rfl ?_
       obtain ⟨y885, e886, h864⟩ := bind_some h864
       refine RL.idxS (sz := 1) 0 Try.underlying24 Try_ln3 rfl rfl rfl rfl rfl (SlOf.row (idx_some e882).2.2) (idx_some e886).1 (idx_some e886).2.1 ?_
       refine RL.stR (i := (y809).toNat) (j := (y871).toNat) (row := y881) (e' := wadd y883 (1 : Int)) (e1 := wadd y883 (1 : Int)) (r := TR.int) 0 Try_ln3 rfl rfl rfl rfl VR.int rfl (idx_some e882).2.2 (idx_some e886).2.2 Upd.self ?_
       refine RL.finG ?_
       refine GL.nilB ?_
       refine GL.region ?_
       refine RL.binI (v := .int .i64 ((i861 + 1 : Nat) : Int)) rfl rfl rfl rfl (binI_succ i861 (by omega)) ?_
       refine RL.mv rfl rfl rfl ?_
       refine RL.fin ?_
       cases h864
       exact fun a w st => lop_intro (i861 + 1, r873, (List.set l835 ((y809).toNat) (List.set y881 ((y871).toNat) (wadd y883 (1 : Int)))), V836) ⟨by show i861 + 1 + r873.length = (((List.take ((y623).length) y623).drop ((wadd (i799 : Int) (1 : Int)).toNat))).length; simp only [List.length_cons] at h867; omega, h874, h865⟩ (by simp) (St.cut [0, 1, 2, 3] ⟨rfl, rfl, rfl, rfl, rfl, rfl, rfl, rfl, rfl, rfl, rfl, rfl, trivial⟩ (by decide) rfl st)
      have h870 : ¬ i861 < (((List.take ((y623).length) y623).drop ((wadd (i799 : Int) (1 : Int)).toNat))).length := by have := of_decide_eq_false b869; omega
      obtain rfl : r862 = [] := by rw [← h868]; exact List.drop_of_length_le (by omega)
      replace h866 : some (Fl.nx _) = some y854 := h866
      cases h866
      exact GL.exit (fun a w st => mid_intro (l835, V836) h857 (St.cut [0, 1, 2] ⟨rfl, rfl, rfl, rfl, rfl, rfl, rfl, rfl, trivial⟩ (by decide) rfl st))
     rintro ⟨l835, V836⟩ h887
     have h888 := h858 _ h887
     try dsimp only at h888
     refine GL.weak (env' := [(7, v13), (10, v628), (34, v1), (35, .int .i64 ((x1).length : Int)), (36, .int .i64 (i613 : Int)), (40, v628), (41, .int .i64 ((y623).length : Int)), (42, .int .i64 (i799 : Int))]) (L' := [own2 24 3 TR.int v13 V836 l835, imm (TR.sl TR.int) v628 y623, imm (TR.sl (TR.sl TR.int)) v1 x1]) (fun _ _ st => st) ?_
     refine GL.nilB ?_
     refine GL.region ?_
     refine RL.binI (v := .int .i64 ((i799 + 1 : Nat) : Int)) rfl rfl rfl rfl (binI_succ i799 (by omega)) ?_
     refine RL.mv rfl rfl rfl ?_
     refine RL.fin ?_
     cases h888
     exact fun a w st => lop_intro (i799 + 1, r811, l835, V836) ⟨by show i799 + 1 + r811.length = (y623).length; simp only [List.length_cons] at h805; omega, h812, h803⟩ (by simp) (St.cut [0, 1, 2] ⟨rfl, rfl, rfl, rfl, rfl, rfl, rfl, rfl, trivial⟩ (by decide) rfl st)
    have h808 : ¬ i799 < (y623).length := by have := of_decide_eq_false b807; omega
    obtain rfl : r800 = [] := by rw [← h806]; exact List.drop_of_length_le (by omega)
    replace h804 : some (Fl.nx _) = some y792 := h804
    cases h804
    exact GL.exit (fun a w st => mid_intro (l709, V710) h795 (St.cut [0, 2] ⟨rfl, rfl, rfl, rfl, trivial⟩ (by decide) rfl st))
   rintro ⟨l709, V710⟩ h889
   have h890 := h796 _ h889
   try dsimp only at h890
   refine GL.weak (env' := [(7, v13), (34, v1), (35, .int .i64 ((x1).length : Int)), (36, .int .i64 (i613 : Int))]) (L' := [own2 24 3 TR.int v13 V710 l709, imm (TR.sl (TR.sl TR.int)) v1 x1]) (fun _ _ st => st) ?_
   refine GL.nilB ?_
   refine GL.region ?_
   refine RL.binI (v := .int .i64 ((i613 + 1 : Nat) : Int)) rfl rfl rfl rfl (binI_succ i613 (by omega)) ?_
   refine RL.mv rfl rfl rfl ?_
   refine RL.fin ?_
   cases h890
   exact fun a w st => lop_intro (i613 + 1, r625, l709, V710) ⟨by show i613 + 1 + r625.length = (x1).length; simp only [List.length_cons] at h619; omega, h626, h617⟩ (by simp) (St.cut [0, 1] ⟨rfl, rfl, rfl, rfl, trivial⟩ (by decide) rfl st)
  have h622 : ¬ i613 < (x1).length := by have := of_decide_eq_false b621; omega
  obtain rfl : r614 = [] := by rw [← h620]; exact List.drop_of_length_le (by omega)
  replace h618 : some (Fl.nx _) = some y606 := h618
  cases h618
  exact GL.exit (fun a w st => mid_intro (l335, V336) h609 (St.cut [0] ⟨rfl, trivial⟩ (by decide) rfl st))
 rintro ⟨l335, V336⟩ h891
 have h892 := h610 _ h891
 try dsimp only at h892
 refine GL.weak (env' := [(7, v13)]) (L' := [own2 24 3 TR.int v13 V336 l335]) (fun _ _ st => st) ?_
 refine GL.seq ?_
 refine GL.region ?_
 refine RL.mv rfl rfl rfl ?_
 refine RL.asg rfl rfl rfl ?_
 refine RL.asg rfl rfl rfl ?_
 refine RL.finG ?_
 have h892 := Option.some.inj h892
 subst h892
 exact GL.ret (Gx.ret (v := .tuple #[v13, .int .i64 (0 : Int)]) (res2 rfl rfl rfl) (fun a w st => (st.pick [0] (by decide) rfl).toPost (v13, V336)))

set_option maxHeartbeats 4000000 in
theorem tally_Beater_c (S : Hp) (w : World) (hS : S.sub w) (x0 : Int) (v1 : Value) (x1 : (List (List Int))) (k1 : ((TR.sl (TR.sl TR.int))).vrep S v1 x1) (res : Int × Int) (hm : tally_Beater_m x0 x1 = some res) : Calls Try.prog 99 #[.int .i64 x0, v1] w (PostV w (.tuple #[.int .i64 res.1, .int .i64 res.2])) := by
 refine calls_enter 55 Try.func99 Try.ntmps99 rfl S false [(0, .int .i64 x0), (1, v1)] [imm (TR.sl (TR.sl TR.int)) v1 x1] rfl ⟨rfl, ⟨rfl, trivial⟩⟩ hS ⟨k1, trivial⟩ ?_
 unfold tally_Beater_m at hm
 refine GL.seq ?_
 refine GL.region ?_
 refine RL.asg rfl rfl rfl ?_
 refine RL.asg rfl rfl rfl ?_
 refine RL.finG ?_
 refine GL.seq ?_
 refine GL.region ?_
 refine RL.mv rfl rfl rfl ?_
 refine RL.mv rfl rfl rfl ?_
 obtain ⟨y7, e8, hm⟩ := bind_some hm
 refine RL.call (vs := [.int .i64 x0, v1]) Try_fit45 rfl rfl rfl rfl rfl (fun S f w hS hW hi => tally_Duels_c S w hS x0 _ _ (hi 0 _ rfl) _ e8) ?_
 intro ⟨v9, V10⟩
 refine RL.weak (fun a w st => st.freeze2 1 rfl) ?_
 refine RL.reL (L' := [imm (TR.sl (TR.sl TR.int)) v1 x1, imm (TR.sl (TR.sl TR.int)) v9 y7.1]) rfl ?_
 refine RL.mv rfl rfl rfl ?_
 refine RL.ext rfl rfl rfl rfl ?_
 refine RL.ext rfl rfl rfl rfl ?_
 refine RL.asg rfl rfl rfl ?_
 refine RL.asg rfl rfl rfl ?_
 refine RL.finG ?_
 refine GL.seq ?_
 refine GL.seq ?_
 refine GL.region ?_
 refine RL.mv rfl rfl rfl ?_
 refine RL.binI (v := .bool (y7.2 != (0 : Int))) rfl rfl rfl rfl rfl ?_
 refine RL.finG ?_
 refine GL.cond rfl (fun b11 => ?_) (fun b11 => ?_)
 ·replace hm := ite_t b11 hm
  refine GL.seq ?_
  refine GL.region ?_
  refine RL.mv rfl rfl rfl ?_
  refine RL.asg rfl rfl rfl ?_
  refine RL.asg rfl rfl rfl ?_
  refine RL.finG ?_
  have hm := Option.some.inj hm
  subst hm
  exact GL.ret (Gx.ret (v := .tuple #[.int .i64 (0 : Int), .int .i64 y7.2]) (res2 rfl rfl rfl) (fun a w st => st.toPostV))
 replace hm := ite_f b11 hm
 refine GL.skip ?_
 refine GL.seq ?_
 refine GL.seq ?_
 refine GL.region ?_
 refine RL.mv rfl rfl rfl ?_
 refine RL.mv rfl rfl rfl ?_
 refine RL.finG ?_
 obtain ⟨y130, e131, hm⟩ := bind_some hm
 replace e131 := chk_some e131
 obtain ⟨y132, K133, h134, h135, h136, h137, h138⟩ := bindR_K hm
 refine GL.join (ι := Unit) (fun (p : Unit) => []) (fun (p : Unit) => []) (fun (p : Unit) => K133 (.nx ())) ?_ ?_
 ·refine GL.block ?_
  refine GL.loop (ι := Nat × Nat) (fun (p : Nat × Nat) => [(0, .int .i64 x0), (6, v9), (20, .int .i64 x0), (21, .int .i64 (p.1 : Int))]) (fun (p : Nat × Nat) => [imm (TR.sl (TR.sl TR.int)) v9 y7.1]) (fun (p : Nat × Nat) => p.1 + p.2 = (x0).toNat ∧ rangeN (tally_Beater_b1 x0 y7) p.2 p.1 () = some y132) (fun (p : Nat × Nat) => p.2) (0, (x0).toNat) ⟨by simp, h134⟩ (fun a w st => St.cut [1] ⟨rfl, rfl, rfl, rfl, trivial⟩ (by decide) rfl st) ?_
  rintro ⟨i139, r140⟩ ⟨h145, h144⟩
  try dsimp only at h145 h144
  refine GL.weak (env' := [(0, .int .i64 x0), (6, v9), (20, .int .i64 x0), (21, .int .i64 (i139 : Int))]) (L' := [imm (TR.sl (TR.sl TR.int)) v9 y7.1]) (fun _ _ st => st) ?_
  refine GL.seq ?_
  refine GL.region ?_
  refine RL.binI (v := .bool (decide ((i139 : Int) < x0))) rfl rfl rfl rfl rfl ?_
  refine RL.finG ?_
  refine GL.seq ?_
  refine GL.cond rfl (fun b147 => ?_) (fun b147 => ?_)
  ·have h148 : i139 < (x0).toNat := by have := of_decide_eq_true b147; omega
   obtain ⟨r149, hr⟩ : ∃ m, r140 = m + 1 := ⟨r140 - 1, by omega⟩
   subst hr
   obtain ⟨z141, h142, h143⟩ := rangeN_some h144
   unfold tally_Beater_b1 at h142
   try dsimp only at h142
   refine GL.skip ?_
   refine GL.seq ?_
   refine GL.block ?_
   refine GL.seq ?_
   refine GL.region ?_
   refine RL.mv rfl rfl rfl ?_
   refine RL.asg rfl rfl rfl ?_
   refine RL.finG ?_
   refine GL.seq ?_
   refine GL.region ?_
   refine RL.asg rfl rfl rfl ?_
   refine RL.finG ?_
   refine GL.seq ?_
   refine GL.seq ?_
   refine GL.region ?_
   refine RL.mv rfl rfl rfl ?_
   refine RL.mv rfl rfl rfl ?_
   refine RL.finG ?_
   obtain ⟨y198, e199, h142⟩ := bind_some h142
   replace e199 := chk_some e199
   obtain ⟨y200, K201, h202, h203, h204, h205, h206⟩ := bindF_K h142
   refine GL.join (ι := Bool) (fun (p : Bool) => [(0, .int .i64 x0), (6, v9), (8, .int .i64 (i139 : Int)), (9, .bool p), (20, .int .i64 x0), (21, .int .i64 (i139 : Int))]) (fun (p : Bool) => [imm (TR.sl (TR.sl TR.int)) v9 y7.1]) (fun (p : Bool) => K201 (.nx p)) ?_ ?_
   ·refine GL.block ?_
    refine GL.loop (ι := Nat × Nat × Bool) (fun (p : Nat × Nat × Bool) => [(0, .int .i64 x0), (6, v9), (8, .int .i64 (i139 : Int)), (9, .bool p.2.2), (20, .int .i64 x0), (21, .int .i64 (i139 : Int)), (24, .int .i64 x0), (25, .int .i64 (p.1 : Int))]) (fun (p : Nat × Nat × Bool) => [imm (TR.sl (TR.sl TR.int)) v9 y7.1]) (fun (p : Nat × Nat × Bool) => p.1 + p.2.1 = (x0).toNat ∧ rangeN (tally_Beater_b2 i139 y7) p.2.1 p.1 p.2.2 = some y200) (fun (p : Nat × Nat × Bool) => p.2.1) (0, (x0).toNat, true) ⟨by simp, h202⟩ (fun a w st => St.cut [0] ⟨rfl, rfl, rfl, rfl, rfl, rfl, rfl, rfl, trivial⟩ (by decide) rfl st) ?_
    rintro ⟨i207, r208, x150⟩ ⟨h213, h212⟩
    try dsimp only at h213 h212
    refine GL.weak (env' := [(0, .int .i64 x0), (6, v9), (8, .int .i64 (i139 : Int)), (9, .bool x150), (20, .int .i64 x0), (21, .int .i64 (i139 : Int)), (24, .int .i64 x0), (25, .int .i64 (i207 : Int))]) (L' := [imm (TR.sl (TR.sl TR.int)) v9 y7.1]) (fun _ _ st => st) ?_
    refine GL.seq ?_
    refine GL.region ?_
    refine RL.binI (v := .bool (decide ((i207 : Int) < x0))) rfl rfl rfl rfl rfl ?_
    refine RL.finG ?_
    refine GL.seq ?_
    refine GL.cond rfl (fun b215 => ?_) (fun b215 => ?_)
    ·have h216 : i207 < (x0).toNat := by have := of_decide_eq_true b215; omega
     obtain ⟨r217, hr⟩ : ∃ m, r208 = m + 1 := ⟨r208 - 1, by omega⟩
     subst hr
     obtain ⟨z209, h210, h211⟩ := rangeN_some h212
     unfold tally_Beater_b2 at h210
     try dsimp only at h210
     refine GL.skip ?_
     refine GL.seq ?_
     refine GL.block ?_
     refine GL.seq ?_
     refine GL.region ?_
     refine RL.mv rfl rfl rfl ?_
     refine RL.asg rfl rfl rfl ?_
     refine RL.finG ?_
     obtain ⟨y243, K244, h245, h246, h247, h248, h249⟩ := bindF_K h210
     refine GL.join (ι := Bool) (fun (p : Bool) => [(0, .int .i64 x0), (6, v9), (8, .int .i64 (i139 : Int)), (9, .bool p), (20, .int .i64 x0), (21, .int .i64 (i139 : Int)), (24, .int .i64 x0), (25, .int .i64 (i207 : Int))]) (fun (p : Bool) => [imm (TR.sl (TR.sl TR.int)) v9 y7.1]) (fun (p : Bool) => K244 (.nx p)) ?_ ?_
     ·skip
      refine GL.regionQ rfl rfl (by kernel_rfl) ?_
      refine RL.mv rfl rfl rfl ?_
      refine RL.mv rfl rfl rfl ?_
      refine RL.split (t := 29) rfl (fun b250 => ?_) (fun b250 => ?_)
      ·replace h245 := ite_t b250 h245
       refine RL.mv rfl rfl rfl ?_
       refine RL.mv rfl rfl rfl ?_
       refine RL.binI (v := .bool ((i139 : Int) == (i207 : Int))) rfl rfl rfl rfl rfl ?_
       refine RL.mv rfl rfl rfl ?_
       refine RL.split (t := 33) rfl (fun b251 => ?_) (fun b251 => ?_)
       ·replace h245 := ite_t b251 h245
        refine RL.skip rfl rfl ?_
        refine RL.skip rfl rfl ?_
        refine RL.skip rfl rfl ?_
        refine RL.skip rfl rfl ?_
        refine RL.skip rfl rfl ?_
        refine RL.skip rfl rfl ?_
        refine RL.skip rfl rfl ?_
        refine RL.skip rfl rfl ?_
        refine RL.skip rfl rfl ?_
        refine RL.skip rfl rfl ?_
        refine RL.skip rfl rfl ?_
        refine RL.skip rfl rfl ?_
        refine RL.skip rfl rfl ?_
        refine RL.skip rfl rfl ?_
        refine RL.skip rfl rfl ?_
        refine RL.pickT rfl rfl rfl rfl ?_
        refine RL.pickT rfl rfl rfl rfl ?_
        refine RL.asg rfl rfl rfl ?_
        refine RL.finQ ?_
        cases h245
        exact fun a w st => mid_intro true h246 (St.cut [0] ⟨rfl, rfl, rfl, rfl, rfl, rfl, rfl, rfl, trivial⟩ (by decide) rfl st)
       replace h245 := ite_f b251 h245
       refine RL.mv rfl rfl rfl ?_
       refine RL.mv rfl rfl rfl ?_
       obtain ⟨y252, e253, h245⟩ := bind_some h245
       refine RL.idxS (sz := 1) 0 Try.underlying37 Try_ln24 rfl rfl rfl rfl rfl SlOf.imm (idx_some e253).1 (idx_some e253).2.1 ?_
       refine RL.ldS (i := i139) (r := (TR.sl TR.int)) (e' := y252) 0 Try_ln24 rfl rfl rfl rfl SlOf.imm (idx_some e253).2.2 Part.self ?_
       intro v254
       refine RL.mv rfl rfl rfl ?_
       obtain ⟨y255, e256, h245⟩ := bind_some h245
       refine RL.idxS (sz := 1) 1 Try.underlying24 Try_ln3 rfl rfl rfl rfl rfl SlOf.imm (idx_some e256).1 (idx_some e256).2.1 ?_
       refine RL.ldSx (i := i207) (e' := y255) 1 Ex.ik Try_ln3 rfl rfl rfl rfl SlOf.imm (idx_some e256).2.2 Part.self ?_
       refine RL.mv rfl rfl rfl ?_
       refine RL.mv rfl rfl rfl ?_
       obtain ⟨y257, e258, h245⟩ := bind_some h245
       refine RL.idxS (sz := 1) 0 Try.underlying37 Try_ln24 rfl rfl rfl rfl rfl SlOf.imm (idx_some e258).1 (idx_some e258).2.1 ?_
       refine RL.ldS (i := i207) (r := (TR.sl TR.int)) (e' := y257) 0 Try_ln24 rfl rfl rfl rfl SlOf.imm (idx_some e258).2.2 Part.self ?_
       intro v259
       refine RL.reL (L' := [imm (TR.sl (TR.sl TR.int)) v9 y7.1, imm (TR.sl TR.int) v254 y252, imm (TR.sl TR.int) v259 y257]) rfl ?_
       refine RL.mv rfl rfl rfl ?_
       obtain ⟨y260, e261, h245⟩ := bind_some h245
       refine RL.idxS (sz := 1) 2 Try.underlying24 Try_ln3 rfl rfl rfl rfl rfl SlOf.imm (idx_some e261).1 (idx_some e261).2.1 ?_
       refine RL.ldSx (i := i139) (e' := y260) 2 Ex.ik Try_ln3 rfl rfl rfl rfl SlOf.imm (idx_some e261).2.2 Part.self ?_
       refine RL.binI (v := .bool (decide (y255 > y260))) rfl rfl rfl rfl rfl ?_
       refine RL.pickF rfl rfl rfl rfl ?_
       refine RL.pickT rfl rfl rfl rfl ?_
       refine RL.asg rfl rfl rfl ?_
       refine RL.finQ ?_
       cases h245
       exact fun a w st => mid_intro (decide (y255 > y260)) h246 (St.cut [0] ⟨rfl, rfl, rfl, rfl, rfl, rfl, rfl, rfl, trivial⟩ (by decide) rfl st)
      replace h245 := ite_f b250 h245
      refine RL.skip rfl rfl ?_
      refine RL.skip rfl rfl ?_
      refine RL.skip rfl rfl ?_
      refine RL.skip rfl rfl ?_
      refine RL.skip rfl rfl ?_
      refine RL.skip rfl rfl ?_
      refine RL.skip rfl rfl ?_
      refine RL.skip rfl rfl ?_
      refine RL.skip rfl rfl ?_
      refine RL.skip rfl rfl ?_
      refine RL.skip rfl rfl ?_
      refine RL.skip rfl rfl ?_
      refine RL.skip rfl rfl ?_
      refine RL.skip rfl rfl ?_
      refine RL.skip rfl rfl ?_
      refine RL.skip rfl rfl ?_
      refine RL.skip rfl rfl ?_
      refine RL.skip rfl rfl ?_
      refine RL.skip rfl rfl ?_
      refine RL.skip rfl rfl ?_
      refine RL.pickF rfl rfl rfl rfl ?_
      refine RL.asg rfl rfl rfl ?_
      refine RL.finQ ?_
      cases h245
      exact fun a w st => mid_intro false h246 (St.cut [0] ⟨rfl, rfl, rfl, rfl, rfl, rfl, rfl, rfl, trivial⟩ (by decide) rfl st)
     rintro x242 h262
     have h263 := h247 _ h262
     try dsimp only at h263
     refine GL.weak (env' := [(0, .int .i64 x0), (6, v9), (8, .int .i64 (i139 : Int)), (9, .bool x242), (20, .int .i64 x0), (21, .int .i64 (i139 : Int)), (24, .int .i64 x0), (25, .int .i64 (i207 : Int))]) (L' := [imm (TR.sl (TR.sl TR.int)) v9 y7.1]) (fun _ _ st => st) ?_
     refine GL.nilB ?_
     refine GL.region ?_
     refine RL.binI (v := .int .i64 ((i207 + 1 : Nat) : Int)) rfl rfl rfl rfl (binI_succ i207 (by omega)) ?_
     refine RL.mv rfl rfl rfl ?_
     refine RL.fin ?_
     cases h263
     exact fun a w st => lop_intro (i207 + 1, r217, x242) ⟨by show i207 + 1 + r217 = (x0).toNat; omega, h211⟩ (by simp) (St.cut [0] ⟨rfl, rfl, rfl, rfl, rfl, rfl, rfl, rfl, trivial⟩ (by decide) rfl st)
    have h216 : ¬ i207 < (x0).toNat := by have := of_decide_eq_false b215; omega
    obtain rfl : r208 = 0 := by omega
    replace h212 : some (Fl.nx _) = some y200 := h212
    cases h212
    exact GL.exit (fun a w st => mid_intro x150 h203 (St.cut [0] ⟨rfl, rfl, rfl, rfl, rfl, rfl, trivial⟩ (by decide) rfl st))
   rintro x150 h264
   have h265 := h204 _ h264
   try dsimp only at h265
   refine GL.weak (env' := [(0, .int .i64 x0), (6, v9), (8, .int .i64 (i139 : Int)), (9, .bool x150), (20, .int .i64 x0), (21, .int .i64 (i139 : Int))]) (L' := [imm (TR.sl (TR.sl TR.int)) v9 y7.1]) (fun _ _ st => st) ?_
   refine GL.seq ?_
   refine GL.region ?_
   refine RL.mv rfl rfl rfl ?_
   refine RL.finG ?_
   refine GL.cond rfl (fun b266 => ?_) (fun b266 => ?_)
   ·replace h265 := ite_t b266 h265
    refine GL.seq ?_
    refine GL.region ?_
    refine RL.mv rfl rfl rfl ?_
    refine RL.asg rfl rfl rfl ?_
    refine RL.asg rfl rfl rfl ?_
    refine RL.finG ?_
    cases h265
    replace h143 : some (Fl.rt _) = some y132 := h143
    cases h143
    have hh := h137 _ h135
    subst hh
    exact GL.ret (Gx.ret (v := .tuple #[.int .i64 (i139 : Int), .int .i64 (0 : Int)]) (res2 rfl rfl rfl) (fun a w st => st.toPostV))
   replace h265 := ite_f b266 h265
   refine GL.skip ?_
   refine GL.nilB ?_
   refine GL.region ?_
   refine RL.binI (v := .int .i64 ((i139 + 1 : Nat) : Int)) rfl rfl rfl rfl (binI_succ i139 (by omega)) ?_
   refine RL.mv rfl rfl rfl ?_
   refine RL.fin ?_
   cases h265
   exact fun a w st => lop_intro (i139 + 1, r149) ⟨by show i139 + 1 + r149 = (x0).toNat; omega, h143⟩ (by simp) (St.cut [0] ⟨rfl, rfl, rfl, rfl, trivial⟩ (by decide) rfl st)
  have h148 : ¬ i139 < (x0).toNat := by have := of_decide_eq_false b147; omega
  obtain rfl : r140 = 0 := by omega
  replace h144 : some (Fl.nx _) = some y132 := h144
  cases h144
  exact GL.exit (fun a w st => mid_intro () h135 (St.cut [] trivial (by decide) rfl st))
 rintro ⟨⟩ h267
 have h268 := h136 _ h267
 try dsimp only at h268
 refine GL.weak (env' := []) (L' := []) (fun _ _ st => st) ?_
 refine GL.seq ?_
 refine GL.region ?_
 refine RL.asg rfl rfl rfl ?_
 refine RL.asg rfl rfl rfl ?_
 refine RL.finG ?_
 have h268 := Option.some.inj h268
 subst h268
 exact GL.ret (Gx.ret (v := .tuple #[.int .i64 (0 : Int), .int .i64 (4 : Int)]) (res2 rfl rfl rfl) (fun a w st => st.toPostV))

set_option maxHeartbeats 4000000 in
theorem tally_Points_c (S : Hp) (w : World) (hS : S.sub w) (x0 : Int) (v1 : Value) (x1 : (List (List Int))) (k1 : ((TR.sl (TR.sl TR.int))).vrep S v1 x1) (res : (List Int) × Int) (hm : tally_Points_m x0 x1 = some res) : Calls Try.prog 100 #[.int .i64 x0, v1] w (Post w S (fun (o : Value) => .tuple #[o, .int .i64 res.2]) (fun (o : Value) => [own 3 TR.int o res.1])) := by
 refine calls_enter 46 Try.func100 Try.ntmps100 rfl S false [(0, .int .i64 x0), (1, v1)] [imm (TR.sl (TR.sl TR.int)) v1 x1] rfl ⟨rfl, ⟨rfl, trivial⟩⟩ hS ⟨k1, trivial⟩ ?_
 unfold tally_Points_m at hm
 refine GL.seq ?_
 refine GL.region ?_
 refine RL.asg rfl rfl rfl ?_
 refine RL.asg rfl rfl rfl ?_
 refine RL.finG ?_
 refine GL.seq ?_
 refine GL.seq ?_
 refine GL.region ?_
 refine RL.mv rfl rfl rfl ?_
 refine RL.mv rfl rfl rfl ?_
 obtain ⟨y5, e6, hm⟩ := bind_some hm
 refine RL.callV (v := .int .i64 y5) (vs := [.int .i64 x0, v1]) Try_fit105 rfl (Or.inl rfl) rfl rfl rfl rfl (fun U w hU hW hL => tally_Check_c U w hU x0 _ _ (hL 0 _ _ rfl Seen.imm) _ e6) ?_
 refine RL.asg rfl rfl rfl ?_
 refine RL.finG ?_
 refine GL.seq ?_
 refine GL.region ?_
 refine RL.mv rfl rfl rfl ?_
 refine RL.binI (v := .bool (y5 != (0 : Int))) rfl rfl rfl rfl rfl ?_
 refine RL.finG ?_
 refine GL.cond rfl (fun b7 => ?_) (fun b7 => ?_)
 ·replace hm := ite_t b7 hm
  refine GL.seq ?_
  refine GL.region ?_
  refine RL.mv rfl rfl rfl ?_
  refine RL.asg rfl rfl rfl ?_
  refine RL.asg rfl rfl rfl ?_
  refine RL.finG ?_
  refine GL.weak (fun a w st => st.nilOwn 3 TR.int) ?_
  have hm := Option.some.inj hm
  subst hm
  exact GL.ret (Gx.ret (v := .tuple #[Value.slice none 0 0, .int .i64 y5]) (res2 rfl rfl rfl) (fun a w st => (st.pick [1] (by decide) rfl).toPost (Value.slice none 0 0)))
 replace hm := ite_f b7 hm
 refine GL.skip ?_
 refine GL.seq ?_
 refine GL.region ?_
 refine RL.mv rfl rfl rfl ?_
 obtain ⟨y11, e12, hm⟩ := bind_some hm
 replace e12 := chk_some e12
 refine RL.mkS (t := TR.int) (z := (0 : Int)) Try.underlying24 Try_lo3 (fun S => rfl) rfl rfl rfl rfl e12.1 e12.2 ?_
 intro v13
 refine RL.asg rfl rfl rfl ?_
 refine RL.finG ?_
 refine GL.seq ?_
 refine GL.seq ?_
 refine GL.region ?_
 refine RL.mv rfl rfl rfl ?_
 refine RL.lenS 0 Try.underlying37 rfl rfl rfl rfl SlOf.imm ?_
 refine RL.mv rfl rfl rfl ?_
 refine RL.finG ?_
 refine GL.open_ 0 rfl (fun S h => len_imm S h) (fun n141 => ?_)
 obtain ⟨y142, K143, h144, h145, h146, h147, h148⟩ := bindR_K hm
 refine GL.join (ι := (List Int)) (fun (p : (List Int)) => [(7, v13)]) (fun (p : (List Int)) => [own 3 TR.int v13 p]) (fun (p : (List Int)) => K143 (.nx p)) ?_ ?_
 ·refine GL.block ?_
  refine GL.loop (ι := Nat × (List (List Int)) × (List Int)) (fun (p : Nat × (List (List Int)) × (List Int)) => [(0, .int .i64 x0), (7, v13), (20, v1), (21, .int .i64 ((x1).length : Int)), (22, .int .i64 (p.1 : Int))]) (fun (p : Nat × (List (List Int)) × (List Int)) => [own 3 TR.int v13 p.2.2, imm (TR.sl (TR.sl TR.int)) v1 x1]) (fun (p : Nat × (List (List Int)) × (List Int)) => p.1 + p.2.1.length = (x1).length ∧ List.drop p.1 x1 = p.2.1 ∧ rangeL (tally_Points_b1 x0) p.2.1 p.1 p.2.2 = some y142) (fun (p : Nat × (List (List Int)) × (List Int)) => p.2.1.length) (0, x1, (List.replicate (x0).toNat (0 : Int))) ⟨by simp, by simp, h144⟩ (fun a w st => St.cut [1, 0] ⟨rfl, rfl, rfl, rfl, rfl, trivial⟩ (by decide) rfl st) ?_
  rintro ⟨i149, r150, l77⟩ ⟨h155, h156, h154⟩
  try dsimp only at h155 h156 h154
  refine GL.weak (env' := [(0, .int .i64 x0), (7, v13), (20, v1), (21, .int .i64 ((x1).length : Int)), (22, .int .i64 (i149 : Int))]) (L' := [own 3 TR.int v13 l77, imm (TR.sl (TR.sl TR.int)) v1 x1]) (fun _ _ st => st) ?_
  refine GL.seq ?_
  refine GL.region ?_
  refine RL.binI (v := .bool (decide ((i149 : Int) < ((x1).length : Int)))) rfl rfl rfl rfl rfl ?_
  refine RL.finG ?_
  refine GL.seq ?_
  refine GL.cond rfl (fun b157 => ?_) (fun b157 => ?_)
  ·have h158 : i149 < (x1).length := by have := of_decide_eq_true b157; omega
   obtain ⟨y159, r161, hr, e160, h162⟩ := drop_cons h156 rfl h158
   subst hr
   obtain ⟨z151, h152, h153⟩ := rangeL_some h154
   unfold tally_Points_b1 at h152
   try dsimp only at h152
   refine GL.skip ?_
   refine GL.seq ?_
   refine GL.block ?_
   refine GL.seq ?_
   refine GL.region ?_
   refine RL.idxS (sz := 1) 1 Try.underlying37 Try_ln24 rfl rfl rfl rfl rfl SlOf.imm (by omega) (by omega) ?_
   refine RL.ldS (i := i149) (r := (TR.sl TR.int)) (e' := y159) 1 Try_ln24 rfl rfl rfl rfl SlOf.imm e160 Part.self ?_
   intro v164
   refine RL.asg rfl rfl rfl ?_
   refine RL.finG ?_
   refine GL.seq ?_
   refine GL.region ?_
   refine RL.mv rfl rfl rfl ?_
   refine RL.lenS 2 Try.underlying24 rfl rfl rfl rfl SlOf.imm ?_
   refine RL.mv rfl rfl rfl ?_
   refine RL.finG ?_
   refine GL.open_ 2 rfl (fun S h => len_imm S h) (fun n190 => ?_)
   obtain ⟨y191, K192, h193, h194, h195, h196, h197⟩ := bindF_K h152
   refine GL.join (ι := (List Int)) (fun (p : (List Int)) => [(0, .int .i64 x0), (7, v13), (20, v1), (21, .int .i64 ((x1).length : Int)), (22, .int .i64 (i149 : Int))]) (fun (p : (List Int)) => [own 3 TR.int v13 p, imm (TR.sl (TR.sl TR.int)) v1 x1]) (fun (p : (List Int)) => K192 (.nx p)) ?_ ?_
   ·refine GL.block ?_
    refine GL.loop (ι := Nat × (List Int) × (List Int)) (fun (p : Nat × (List Int) × (List Int)) => [(0, .int .i64 x0), (7, v13), (20, v1), (21, .int .i64 ((x1).length : Int)), (22, .int .i64 (i149 : Int)), (26, v164), (27, .int .i64 ((y159).length : Int)), (28, .int .i64 (p.1 : Int))]) (fun (p : Nat × (List Int) × (List Int)) => [own 3 TR.int v13 p.2.2, imm (TR.sl (TR.sl TR.int)) v1 x1, imm (TR.sl TR.int) v164 y159]) (fun (p : Nat × (List Int) × (List Int)) => p.1 + p.2.1.length = (y159).length ∧ List.drop p.1 y159 = p.2.1 ∧ rangeL (tally_Points_b2 x0) p.2.1 p.1 p.2.2 = some y191) (fun (p : Nat × (List Int) × (List Int)) => p.2.1.length) (0, y159, l77) ⟨by simp, by simp, h193⟩ (fun a w st => St.cut [0, 1, 2] ⟨rfl, rfl, rfl, rfl, rfl, rfl, rfl, rfl, trivial⟩ (by decide) rfl st) ?_
    rintro ⟨i198, r199, l177⟩ ⟨h204, h205, h203⟩
    try dsimp only at h204 h205 h203
    refine GL.weak (env' := [(0, .int .i64 x0), (7, v13), (20, v1), (21, .int .i64 ((x1).length : Int)), (22, .int .i64 (i149 : Int)), (26, v164), (27, .int .i64 ((y159).length : Int)), (28, .int .i64 (i198 : Int))]) (L' := [own 3 TR.int v13 l177, imm (TR.sl (TR.sl TR.int)) v1 x1, imm (TR.sl TR.int) v164 y159]) (fun _ _ st => st) ?_
    refine GL.seq ?_
    refine GL.region ?_
    refine RL.binI (v := .bool (decide ((i198 : Int) < ((y159).length : Int)))) rfl rfl rfl rfl rfl ?_
    refine RL.finG ?_
    refine GL.seq ?_
    refine GL.cond rfl (fun b206 => ?_) (fun b206 => ?_)
    ·have h207 : i198 < (y159).length := by have := of_decide_eq_true b206; omega
     obtain ⟨y208, r210, hr, e209, h211⟩ := drop_cons h205 rfl h207
     subst hr
     obtain ⟨z200, h201, h202⟩ := rangeL_some h203
     unfold tally_Points_b2 at h201
     try dsimp only at h201
     refine GL.skip ?_
     refine GL.seq ?_
     refine GL.block ?_
     refine GL.seq ?_
     refine GL.region ?_
     refine RL.mv rfl rfl rfl ?_
     refine RL.idxS (sz := 1) 2 Try.underlying24 Try_ln3 rfl rfl rfl rfl rfl SlOf.imm (by omega) (by omega) ?_
     refine RL.ldSx (i := i198) (e' := y208) 2 Ex.ik Try_ln3 rfl rfl rfl rfl SlOf.imm e209 Part.self ?_
     refine RL.asg rfl rfl rfl ?_
     refine RL.asg rfl rfl rfl ?_
     refine RL.finG ?_
     refine GL.region ?_
     refine RL.mv rfl rfl rfl ?_
     refine RL.mv rfl rfl rfl ?_
     obtain ⟨y216, e217, h201⟩ := bind_some h201
     refine RL.idxS (sz := 1) 0 Try.underlying24 Try_ln3 rfl rfl rfl rfl rfl SlOf.own (idx_some e217).1 (idx_some e217).2.1 ?_
     refine RL.ldSx (i := (y208).toNat) (e' := y216) 0 Ex.ik Try_ln3 rfl rfl rfl rfl SlOf.own (idx_some e217).2.2 Part.self ?_
     refine RL.mv rfl rfl rfl ?_
     refine RL.binI (v := .int .i64 (wsub x0 (1 : Int))) rfl rfl rfl rfl rfl ?_
     refine RL.mv rfl rfl rfl ?_
     refine RL.binI (v := .int .i64 (wsub (wsub x0 (1 : Int)) (i198 : Int))) rfl rfl rfl rfl rfl ?_
     refine RL.binI (v := .int .i64 (wadd y216 (wsub (wsub x0 (1 : Int)) (i198 : Int)))) rfl rfl rfl rfl rfl ?_
     obtain ⟨y218, e219, h201⟩ := bind_some h201
     refine RL.idxS (sz := 1) 0 Try.underlying24 Try_ln3 rfl rfl rfl rfl rfl SlOf.own (idx_some e219).1 (idx_some e219).2.1 ?_
     refine RL.stS (i := (y208).toNat) (e' := wadd y216 (wsub (wsub x0 (1 : Int)) (i198 : Int))) (e1 := wadd y216 (wsub (wsub x0 (1 : Int)) (i198 : Int))) (r := TR.int) 0 Try_ln3 rfl rfl rfl rfl VR.int rfl (idx_some e219).2.2 Upd.self ?_
     refine RL.finG ?_
     refine GL.nilB ?_
     refine GL.region ?_
     refine RL.binI (v := .int .i64 ((i198 + 1 : Nat) : Int)) rfl rfl rfl rfl (binI_succ i198 (by omega)) ?_
     refine RL.mv rfl rfl rfl ?_
     refine RL.fin ?_
     cases h201
     exact fun a w st => lop_intro (i198 + 1, r210, (List.set l177 ((y208).toNat) (wadd y216 (wsub (wsub x0 (1 : Int)) (i198 : Int))))) ⟨by show i198 + 1 + r210.length = (y159).length; simp only [List.length_cons] at h204; omega, h211, h202⟩ (by simp) (St.cut [0, 1, 2] ⟨rfl, rfl, rfl, rfl, rfl, rfl, rfl, rfl, trivial⟩ (by decide) rfl st)
    have h207 : ¬ i198 < (y159).length := by have := of_decide_eq_false b206; omega
    obtain rfl : r199 = [] := by rw [← h205]; exact List.drop_of_length_le (by omega)
    replace h203 : some (Fl.nx _) = some y191 := h203
    cases h203
    exact GL.exit (fun a w st => mid_intro l177 h194 (St.cut [0, 1] ⟨rfl, rfl, rfl, rfl, rfl, trivial⟩ (by decide) rfl st))
   rintro l177 h220
   have h221 := h195 _ h220
   try dsimp only at h221
   refine GL.weak (env' := [(0, .int .i64 x0), (7, v13), (20, v1), (21, .int .i64 ((x1).length : Int)), (22, .int .i64 (i149 : Int))]) (L' := [own 3 TR.int v13 l177, imm (TR.sl (TR.sl TR.int)) v1 x1]) (fun _ _ st => st) ?_
   refine GL.nilB ?_
   refine GL.region ?_
   refine RL.binI (v := .int .i64 ((i149 + 1 : Nat) : Int)) rfl rfl rfl rfl (binI_succ i149 (by omega)) ?_
   refine RL.mv rfl rfl rfl ?_
   refine RL.fin ?_
   cases h221
   exact fun a w st => lop_intro (i149 + 1, r161, l177) ⟨by show i149 + 1 + r161.length = (x1).length; simp only [List.length_cons] at h155; omega, h162, h153⟩ (by simp) (St.cut [0, 1] ⟨rfl, rfl, rfl, rfl, rfl, trivial⟩ (by decide) rfl st)
  have h158 : ¬ i149 < (x1).length := by have := of_decide_eq_false b157; omega
  obtain rfl : r150 = [] := by rw [← h156]; exact List.drop_of_length_le (by omega)
  replace h154 : some (Fl.nx _) = some y142 := h154
  cases h154
  exact GL.exit (fun a w st => mid_intro l77 h145 (St.cut [0] ⟨rfl, trivial⟩ (by decide) rfl st))
 rintro l77 h222
 have h223 := h146 _ h222
 try dsimp only at h223
 refine GL.weak (env' := [(7, v13)]) (L' := [own 3 TR.int v13 l77]) (fun _ _ st => st) ?_
 refine GL.seq ?_
 refine GL.region ?_
 refine RL.mv rfl rfl rfl ?_
 refine RL.asg rfl rfl rfl ?_
 refine RL.asg rfl rfl rfl ?_
 refine RL.finG ?_
 have h223 := Option.some.inj h223
 subst h223
 exact GL.ret (Gx.ret (v := .tuple #[v13, .int .i64 (0 : Int)]) (res2 rfl rfl rfl) (fun a w st => (st.pick [0] (by decide) rfl).toPost v13))

set_option maxHeartbeats 4000000 in
theorem slices_IndexFunc_api_Errno_api_Errno_c (S : Hp) (w : World) (hS : S.sub w) (v0 : Value) (x0 : (List Int)) (k0 : ((TR.sl TR.int)).vrep S v0 x0) (f1 : FuncId) (c1 : Array Value) (t1 : Fit Try.prog f1) (g1 : Int → Option Bool) (k1 : ∀ (U : Hp) (w' : World), Hp.le S U → U.sub w' → ∀ (a0 : Int) (rr : Bool), g1 a0 = some rr → Calls Try.prog f1 (#[.int .i64 a0] ++ c1) w' (PostV w' (.bool rr))) (res : Int) (hm : slices_IndexFunc_api_Errno_api_Errno_m x0 g1 = some res) : Calls Try.prog 125 #[v0, .func (.func f1) #[] c1] w (PostV w (.int .i64 res)) := by
 refine calls_enter 19 Try.func125 Try.ntmps125 rfl S false [(0, v0), (1, .func (.func f1) #[] c1)] [imm (TR.sl TR.int) v0 x0] rfl ⟨rfl, ⟨rfl, trivial⟩⟩ hS ⟨k0, trivial⟩ ?_
 unfold slices_IndexFunc_api_Errno_api_Errno_m at hm
 refine GL.seq ?_
 refine GL.region ?_
 refine RL.asg rfl rfl rfl ?_
 refine RL.finG ?_
 refine GL.seq ?_
 refine GL.seq ?_
 refine GL.region ?_
 refine RL.mv rfl rfl rfl ?_
 refine RL.lenS 0 Try.underlying101 rfl rfl rfl rfl SlOf.imm ?_
 refine RL.mv rfl rfl rfl ?_
 refine RL.finG ?_
 refine GL.open_ 0 rfl (fun S h => len_imm S h) (fun n12 => ?_)
 obtain ⟨y13, K14, h15, h16, h17, h18, h19⟩ := bindR_K hm
 refine GL.join (ι := Unit) (fun (p : Unit) => []) (fun (p : Unit) => []) (fun (p : Unit) => K14 (.nx ())) ?_ ?_
 ·refine GL.block ?_
  refine GL.loop (ι := Nat × (List Int)) (fun (p : Nat × (List Int)) => [(0, v0), (1, .func (.func f1) #[] c1), (7, .int .i64 ((x0).length : Int)), (8, .int .i64 (p.1 : Int))]) (fun (p : Nat × (List Int)) => [imm (TR.sl TR.int) v0 x0]) (fun (p : Nat × (List Int)) => p.1 + p.2.length = (x0).length ∧ List.drop p.1 x0 = p.2 ∧ rangeL (slices_IndexFunc_api_Errno_api_Errno_b1 g1) p.2 p.1 () = some y13) (fun (p : Nat × (List Int)) => p.2.length) (0, x0) ⟨by simp, by simp, h15⟩ (fun a w st => St.cut [0] ⟨rfl, rfl, rfl, rfl, trivial⟩ (by decide) rfl st) ?_
  rintro ⟨i20, r21⟩ ⟨h26, h27, h25⟩
  try dsimp only at h26 h27 h25
  refine GL.weak (env' := [(0, v0), (1, .func (.func f1) #[] c1), (7, .int .i64 ((x0).length : Int)), (8, .int .i64 (i20 : Int))]) (L' := [imm (TR.sl TR.int) v0 x0]) (fun _ _ st => st) ?_
  refine GL.seq ?_
  refine GL.region ?_
  refine RL.binI (v := .bool (decide ((i20 : Int) < ((x0).length : Int)))) rfl rfl rfl rfl rfl ?_
  refine RL.finG ?_
  refine GL.seq ?_
  refine GL.cond rfl (fun b28 => ?_) (fun b28 => ?_)
  ·have h29 : i20 < (x0).length := by have := of_decide_eq_true b28; omega
   obtain ⟨y30, r32, hr, e31, h33⟩ := drop_cons h27 rfl h29
   subst hr
   obtain ⟨z22, h23, h24⟩ := rangeL_some h25
   unfold slices_IndexFunc_api_Errno_api_Errno_b1 at h23
   try dsimp only at h23
   refine GL.skip ?_
   refine GL.seq ?_
   refine GL.block ?_
   refine GL.seq ?_
   refine GL.region ?_
   refine RL.mv rfl rfl rfl ?_
   refine RL.asg rfl rfl rfl ?_
   refine RL.finG ?_
   refine GL.seq ?_
   refine GL.region ?_
   refine RL.mv rfl rfl rfl ?_
   refine RL.mv rfl rfl rfl ?_
   refine RL.mv rfl rfl rfl ?_
   refine RL.idxS (sz := 1) 0 Try.underlying101 Try_ln25 rfl rfl rfl rfl rfl SlOf.imm (by omega) (by omega) ?_
   refine RL.ldSx (i := i20) (e' := y30) 0 Ex.ik Try_ln25 rfl rfl rfl rfl SlOf.imm e31 Part.self ?_
   obtain ⟨y36, e37, h23⟩ := bind_some h23
   refine RL.callV (v := .bool y36) (vs := [.int .i64 y30]) t1 rfl (Or.inl rfl) rfl rfl rfl rfl (fun U w hU hW hL => k1 U w hW hU y30 _ e37) ?_
   refine RL.finG ?_
   refine GL.cond rfl (fun b38 => ?_) (fun b38 => ?_)
   ·replace h23 := ite_t b38 h23
    refine GL.seq ?_
    refine GL.region ?_
    refine RL.mv rfl rfl rfl ?_
    refine RL.asg rfl rfl rfl ?_
    refine RL.finG ?_
    cases h23
    replace h24 : some (Fl.rt _) = some y13 := h24
    cases h24
    have hh := h18 _ h16
    subst hh
    exact GL.ret (Gx.ret (v := .int .i64 (i20 : Int)) (res1 rfl rfl) (fun a w st => st.toPostV))
   replace h23 := ite_f b38 h23
   refine GL.skip ?_
   refine GL.nilB ?_
   refine GL.region ?_
   refine RL.binI (v := .int .i64 ((i20 + 1 : Nat) : Int)) rfl rfl rfl rfl (binI_succ i20 (by omega)) ?_
   refine RL.mv rfl rfl rfl ?_
   refine RL.fin ?_
   cases h23
   exact fun a w st => lop_intro (i20 + 1, r32) ⟨by show i20 + 1 + r32.length = (x0).length; simp only [List.length_cons] at h26; omega, h33, h24⟩ (by simp) (St.cut [0] ⟨rfl, rfl, rfl, rfl, trivial⟩ (by decide) rfl st)
  have h29 : ¬ i20 < (x0).length := by have := of_decide_eq_false b28; omega
  obtain rfl : r21 = [] := by rw [← h27]; exact List.drop_of_length_le (by omega)
  replace h25 : some (Fl.nx _) = some y13 := h25
  cases h25
  exact GL.exit (fun a w st => mid_intro () h16 (St.cut [] trivial (by decide) rfl st))
 rintro ⟨⟩ h39
 have h40 := h17 _ h39
 try dsimp only at h40
 refine GL.weak (env' := []) (L' := []) (fun _ _ st => st) ?_
 refine GL.seq ?_
 refine GL.region ?_
 refine RL.asg rfl rfl rfl ?_
 refine RL.finG ?_
 have h40 := Option.some.inj h40
 subst h40
 exact GL.ret (Gx.ret (v := .int .i64 (-1 : Int)) (res1 rfl rfl) (fun a w st => st.toPostV))

set_option maxHeartbeats 4000000 in
theorem slices_ContainsFunc_api_Errno_api_Errno_c (S : Hp) (w : World) (hS : S.sub w) (v0 : Value) (x0 : (List Int)) (k0 : ((TR.sl TR.int)).vrep S v0 x0) (f1 : FuncId) (c1 : Array Value) (t1 : Fit Try.prog f1) (g1 : Int → Option Bool) (k1 : ∀ (U : Hp) (w' : World), Hp.le S U → U.sub w' → ∀ (a0 : Int) (rr : Bool), g1 a0 = some rr → Calls Try.prog f1 (#[.int .i64 a0] ++ c1) w' (PostV w' (.bool rr))) (res : Bool) (hm : slices_ContainsFunc_api_Errno_api_Errno_m x0 g1 = some res) : Calls Try.prog 82 #[v0, .func (.func f1) #[] c1] w (PostV w (.bool res)) := by
 refine calls_enter 9 Try.func82 Try.ntmps82 rfl S false [(0, v0), (1, .func (.func f1) #[] c1)] [imm (TR.sl TR.int) v0 x0] rfl ⟨rfl, ⟨rfl, trivial⟩⟩ hS ⟨k0, trivial⟩ ?_
 unfold slices_ContainsFunc_api_Errno_api_Errno_m at hm
 refine GL.seq ?_
 refine GL.region ?_
 refine RL.asg rfl rfl rfl ?_
 refine RL.finG ?_
 refine GL.seq ?_
 refine GL.region ?_
 refine RL.mv rfl rfl rfl ?_
 refine RL.mv rfl rfl rfl ?_
 obtain ⟨y5, e6, hm⟩ := bind_some hm
 refine RL.callV (v := .int .i64 y5) (vs := [v0, .func (.func f1) #[] c1]) Try_fit125 rfl (Or.inl rfl) rfl rfl rfl rfl (fun U w hU hW hL => slices_IndexFunc_api_Errno_api_Errno_c U w hU _ _ (hL 0 _ _ rfl Seen.imm) f1 c1 t1 g1 (fun U' w' hle => k1 U' w' (Hp.le_trans hW hle)) _ e6) ?_
 refine RL.binI (v := .bool (decide (y5 ≥ (0 : Int)))) rfl rfl rfl rfl rfl ?_
 refine RL.asg rfl rfl rfl ?_
 refine RL.finG ?_
 have hm := Option.some.inj hm
 subst hm
 exact GL.ret (Gx.ret (v := .bool (decide (y5 ≥ (0 : Int)))) (res1 rfl rfl) (fun a w st => st.toPostV))

set_option maxHeartbeats 4000000 in
theorem pk_good_1_c (S : Hp) (w : World) (hS : S.sub w) (x0 : Int) (res : Bool) (hm : pk_good_1_m x0 = some res) : Calls Try.prog 83 #[.int .i64 x0] w (PostC w (.bool res)) := by
 refine calls_enter 5 Try.func83 Try.ntmps83 rfl S true [(0, .int .i64 x0)] [] rfl ⟨rfl, trivial⟩ hS trivial ?_
 unfold pk_good_1_m at hm
 refine GL.seq ?_
 refine GL.region ?_
 refine RL.asg rfl rfl rfl ?_
 refine RL.finG ?_
 refine GL.seq ?_
 refine GL.region ?_
 refine RL.mv rfl rfl rfl ?_
 refine RL.binI (v := .bool (x0 != (0 : Int))) rfl rfl rfl rfl rfl ?_
 refine RL.asg rfl rfl rfl ?_
 refine RL.finG ?_
 have hm := Option.some.inj hm
 subst hm
 exact GL.ret (Gx.ret (v := .bool (x0 != (0 : Int))) (res1 rfl rfl) (fun a w st => st.toPostC rfl))

set_option maxHeartbeats 4000000 in
theorem pk_good_c (S : Hp) (w : World) (hS : S.sub w) (v0 : Value) (x0 : (List Int)) (k0 : ((TR.sl TR.int)).vrep S v0 x0) (res : Bool) (hm : pk_good_m x0 = some res) : Calls Try.prog 20 #[v0] w (PostV w (.bool res)) := by
 refine calls_enter 6 Try.func20 Try.ntmps20 rfl S false [(0, v0)] [imm (TR.sl TR.int) v0 x0] rfl ⟨rfl, trivial⟩ hS ⟨k0, trivial⟩ ?_
 unfold pk_good_m at hm
 refine GL.seq ?_
 refine GL.region ?_
 refine RL.asg rfl rfl rfl ?_
 refine RL.finG ?_
 refine GL.seq ?_
 refine GL.region ?_
 refine RL.mv rfl rfl rfl ?_
 obtain ⟨y4, e5, hm⟩ := bind_some hm
 refine RL.callV (v := .bool y4) (vs := [v0, .func (.func 83) #[] #[]]) Try_fit82 rfl (Or.inl rfl) rfl rfl rfl rfl (fun U w hU hW hL => slices_ContainsFunc_api_Errno_api_Errno_c U w hU _ _ (hL 0 _ _ rfl Seen.imm) 83 #[] Try_fit83 (fun a0 => pk_good_1_m a0) (fun U' w' hle hU' a0 rr hr => (pk_good_1_c U' w' hU' a0 rr hr).mono (fun _ _ z => z.toV)) _ e5) ?_
 refine RL.notB rfl rfl rfl ?_
 refine RL.asg rfl rfl rfl ?_
 refine RL.finG ?_
 have hm := Option.some.inj hm
 subst hm
 exact GL.ret (Gx.ret (v := .bool (!y4)) (res1 rfl rfl) (fun a w st => st.toPostV))

set_option maxHeartbeats 4000000 in
theorem slices_Equal_int_int_c (S : Hp) (w : World) (hS : S.sub w) (v0 : Value) (x0 : (List Int)) (k0 : ((TR.sl TR.int)).vrep S v0 x0) (v1 : Value) (x1 : (List Int)) (k1 : ((TR.sl TR.int)).vrep S v1 x1) (res : Bool) (hm : slices_Equal_int_int_m x0 x1 = some res) : Calls Try.prog 22 #[v0, v1] w (PostV w (.bool res)) := by
 refine calls_enter 26 Try.func22 Try.ntmps22 rfl S false [(0, v0), (1, v1)] [imm (TR.sl TR.int) v0 x0, imm (TR.sl TR.int) v1 x1] rfl ⟨rfl, ⟨rfl, trivial⟩⟩ hS ⟨k0, ⟨k1, trivial⟩⟩ ?_
 unfold slices_Equal_int_int_m at hm
 refine GL.seq ?_
 refine GL.region ?_
 refine RL.asg rfl rfl rfl ?_
 refine RL.finG ?_
 refine GL.seq ?_
 refine GL.seq ?_
 refine GL.region ?_
 refine RL.mv rfl rfl rfl ?_
 refine RL.lenS 0 Try.underlying24 rfl rfl rfl rfl SlOf.imm ?_
 refine RL.mv rfl rfl rfl ?_
 refine RL.lenS 1 Try.underlying24 rfl rfl rfl rfl SlOf.imm ?_
 refine RL.binI (v := .bool (((x0).length : Int) != ((x1).length : Int))) rfl rfl rfl rfl rfl ?_
 refine RL.finG ?_
 refine GL.cond rfl (fun b3 => ?_) (fun b3 => ?_)
 ·replace hm := ite_t b3 hm
  refine GL.seq ?_
  refine GL.region ?_
  refine RL.asg rfl rfl rfl ?_
  refine RL.finG ?_
  have hm := Option.some.inj hm
  subst hm
  exact GL.ret (Gx.ret (v := .bool false) (res1 rfl rfl) (fun a w st => st.toPostV))
 replace hm := ite_f b3 hm
 refine GL.skip ?_
 refine GL.seq ?_
 refine GL.seq ?_
 refine GL.region ?_
 refine RL.mv rfl rfl rfl ?_
 refine RL.lenS 0 Try.underlying24 rfl rfl rfl rfl SlOf.imm ?_
 refine RL.mv rfl rfl rfl ?_
 refine RL.finG ?_
 refine GL.open_ 0 rfl (fun S h => len_imm S h) (fun n13 => ?_)
 obtain ⟨y14, K15, h16, h17, h18, h19, h20⟩ := bindR_K hm
 refine GL.join (ι := Unit) (fun (p : Unit) => []) (fun (p : Unit) => []) (fun (p : Unit) => K15 (.nx ())) ?_ ?_
 ·refine GL.block ?_
  refine GL.loop (ι := Nat × (List Int)) (fun (p : Nat × (List Int)) => [(0, v0), (1, v1), (12, .int .i64 ((x0).length : Int)), (13, .int .i64 (p.1 : Int))]) (fun (p : Nat × (List Int)) => [imm (TR.sl TR.int) v0 x0, imm (TR.sl TR.int) v1 x1]) (fun (p : Nat × (List Int)) => p.1 + p.2.length = (x0).length ∧ List.drop p.1 x0 = p.2 ∧ rangeL (slices_Equal_int_int_b1 x1) p.2 p.1 () = some y14) (fun (p : Nat × (List Int)) => p.2.length) (0, x0) ⟨by simp, by simp, h16⟩ (fun a w st => St.cut [0, 1] ⟨rfl, rfl, rfl, rfl, trivial⟩ (by decide) rfl st) ?_
  rintro ⟨i21, r22⟩ ⟨h27, h28, h26⟩
  try dsimp only at h27 h28 h26
  refine GL.weak (env' := [(0, v0), (1, v1), (12, .int .i64 ((x0).length : Int)), (13, .int .i64 (i21 : Int))]) (L' := [imm (TR.sl TR.int) v0 x0, imm (TR.sl TR.int) v1 x1]) (fun _ _ st => st) ?_
  refine GL.seq ?_
  refine GL.region ?_
  refine RL.binI (v := .bool (decide ((i21 : Int) < ((x0).length : Int)))) rfl rfl rfl rfl rfl ?_
  refine RL.finG ?_
  refine GL.seq ?_
  refine GL.cond rfl (fun b29 => ?_) (fun b29 => ?_)
  ·have h30 : i21 < (x0).length := by have := of_decide_eq_true b29; omega
   obtain ⟨y31, r33, hr, e32, h34⟩ := drop_cons h28 rfl h30
   subst hr
   obtain ⟨z23, h24, h25⟩ := rangeL_some h26
   unfold slices_Equal_int_int_b1 at h24
   try dsimp only at h24
   refine GL.skip ?_
   refine GL.seq ?_
   refine GL.block ?_
   refine GL.seq ?_
   refine GL.region ?_
   refine RL.mv rfl rfl rfl ?_
   refine RL.asg rfl rfl rfl ?_
   refine RL.finG ?_
   refine GL.seq ?_
   refine GL.regionQ rfl rfl (by kernel_rfl) ?_
   refine RL.mv rfl rfl rfl ?_
   refine RL.mv rfl rfl rfl ?_
   refine RL.idxS (sz := 1) 0 Try.underlying24 Try_ln3 rfl rfl rfl rfl rfl SlOf.imm (by omega) (by omega) ?_
   refine RL.ldSx (i := i21) (e' := y31) 0 Ex.ik Try_ln3 rfl rfl rfl rfl SlOf.imm e32 Part.self ?_
   refine RL.mv rfl rfl rfl ?_
   refine RL.mv rfl rfl rfl ?_
   obtain ⟨y37, e38, h24⟩ := bind_some h24
   refine RL.idxS (sz := 1) 1 Try.underlying24 Try_ln3 rfl rfl rfl rfl rfl SlOf.imm (idx_some e38).1 (idx_some e38).2.1 ?_
   refine RL.ldSx (i := i21) (e' := y37) 1 Ex.ik Try_ln3 rfl rfl rfl rfl SlOf.imm (idx_some e38).2.2 Part.self ?_
   refine RL.binI (v := .bool (y31 != y37)) rfl rfl rfl rfl rfl ?_
   refine RL.finQG ?_
   refine GL.cond rfl (fun b39 => ?_) (fun b39 => ?_)
   ·replace h24 := ite_t b39 h24
    refine GL.seq ?_
    refine GL.region ?_
    refine RL.asg rfl rfl rfl ?_
    refine RL.finG ?_
    cases h24
    replace h25 : some (Fl.rt _) = some y14 := h25
    cases h25
    have hh := h19 _ h17
    subst hh
    exact GL.ret (Gx.ret (v := .bool false) (res1 rfl rfl) (fun a w st => st.toPostV))
   replace h24 := ite_f b39 h24
   refine GL.skip ?_
   refine GL.nilB ?_
   refine GL.region ?_
   refine RL.binI (v := .int .i64 ((i21 + 1 : Nat) : Int)) rfl rfl rfl rfl (binI_succ i21 (by omega)) ?_
   refine RL.mv rfl rfl rfl ?_
   refine RL.fin ?_
   cases h24
   exact fun a w st => lop_intro (i21 + 1, r33) ⟨by show i21 + 1 + r33.length = (x0).length; simp only [List.length_cons] at h27; omega, h34, h25⟩ (by simp) (St.cut [0, 1] ⟨rfl, rfl, rfl, rfl, trivial⟩ (by decide) rfl st)
  have h30 : ¬ i21 < (x0).length := by have := of_decide_eq_false b29; omega
  obtain rfl : r22 = [] := by rw [← h28]; exact List.drop_of_length_le (by omega)
  replace h26 : some (Fl.nx _) = some y14 := h26
  cases h26
  exact GL.exit (fun a w st => mid_intro () h17 (St.cut [] trivial (by decide) rfl st))
 rintro ⟨⟩ h40
 have h41 := h18 _ h40
 try dsimp only at h41
 refine GL.weak (env' := []) (L' := []) (fun _ _ st => st) ?_
 refine GL.seq ?_
 refine GL.region ?_
 refine RL.asg rfl rfl rfl ?_
 refine RL.finG ?_
 have h41 := Option.some.inj h41
 subst h41
 exact GL.ret (Gx.ret (v := .bool true) (res1 rfl rfl) (fun a w st => st.toPostV))

set_option maxHeartbeats 4000000 in
theorem pk_tallies_c (S : Hp) (w : World) (hS : S.sub w)  (res : Bool) (hm : pk_tallies_m = some res) : Calls Try.prog 41 #[] w (PostV w (.bool res)) := by
 refine calls_enter 33 Try.func41 Try.ntmps41 rfl S false [] [] rfl trivial hS trivial ?_
 unfold pk_tallies_m at hm
 refine GL.seq ?_
 refine GL.region ?_
 refine RL.asg rfl rfl rfl ?_
 refine RL.finG ?_
 refine GL.seq ?_
 refine GL.region ?_
 refine RL.bS (t := TR.int) (vs := [.int .i64 (0 : Int), .int .i64 (1 : Int), .int .i64 (2 : Int)]) ([(0 : Int), (1 : Int), (2 : Int)] : (List Int)) Try.underlying24 Try_lo3 rfl rfl rfl rfl ⟨VR.int, ⟨VR.int, ⟨VR.int, trivial⟩⟩⟩ rfl (by decide) ?_
 intro v5
 refine RL.bS (t := TR.int) (vs := [.int .i64 (1 : Int), .int .i64 (2 : Int), .int .i64 (0 : Int)]) ([(1 : Int), (2 : Int), (0 : Int)] : (List Int)) Try.underlying24 Try_lo3 rfl rfl rfl rfl ⟨VR.int, ⟨VR.int, ⟨VR.int, trivial⟩⟩⟩ rfl (by decide) ?_
 intro v6
 refine RL.reL (L' := [own 3 TR.int v5 ([(0 : Int), (1 : Int), (2 : Int)] : (List Int)), own 3 TR.int v6 ([(1 : Int), (2 : Int), (0 : Int)] : (List Int))]) rfl ?_
 refine RL.bS (t := TR.int) (vs := [.int .i64 (1 : Int), .int .i64 (0 : Int), .int .i64 (2 : Int)]) ([(1 : Int), (0 : Int), (2 : Int)] : (List Int)) Try.underlying24 Try_lo3 rfl rfl rfl rfl ⟨VR.int, ⟨VR.int, ⟨VR.int, trivial⟩⟩⟩ rfl (by decide) ?_
 intro v7
 refine RL.weak (fun a w st => st.freeze 0 rfl) ?_
 refine RL.weak (fun a w st => st.freeze 1 rfl) ?_
 refine RL.weak (fun a w st => st.freeze 2 rfl) ?_
 refine RL.bS (t := (TR.sl TR.int)) (vs := [v5, v6, v7]) ([([(0 : Int), (1 : Int), (2 : Int)] : (List Int)), ([(1 : Int), (2 : Int), (0 : Int)] : (List Int)), ([(1 : Int), (0 : Int), (2 : Int)] : (List Int))] : (List (List Int))) Try.underlying37 Try_lo24 rfl rfl rfl rfl ⟨(VR.item 0 rfl), ⟨(VR.item 1 rfl), ⟨(VR.item 2 rfl), trivial⟩⟩⟩ rfl (by decide) ?_
 intro v8
 refine RL.reL (L' := [imm (TR.sl TR.int) v5 ([(0 : Int), (1 : Int), (2 : Int)] : (List Int)), imm (TR.sl TR.int) v6 ([(1 : Int), (2 : Int), (0 : Int)] : (List Int)), imm (TR.sl TR.int) v7 ([(1 : Int), (0 : Int), (2 : Int)] : (List Int)), own 24 (TR.sl TR.int) v8 ([([(0 : Int), (1 : Int), (2 : Int)] : (List Int)), ([(1 : Int), (2 : Int), (0 : Int)] : (List Int)), ([(1 : Int), (0 : Int), (2 : Int)] : (List Int))] : (List (List Int)))]) rfl ?_
 refine RL.asg rfl rfl rfl ?_
 refine RL.finG ?_
 refine GL.seq ?_
 refine GL.region ?_
 refine RL.mv rfl rfl rfl ?_
 obtain ⟨y11, e12, hm⟩ := bind_some hm
 refine RL.callV (v := .tuple #[.int .i64 y11.1, .int .i64 y11.2]) (vs := [.int .i64 (3 : Int), v8]) Try_fit99 rfl (Or.inl rfl) rfl rfl rfl rfl (fun U w hU hW hL => tally_Beater_c U w hU (3 : Int) _ _ (hL 3 _ _ rfl Seen.own) _ e12) ?_
 refine RL.mv rfl rfl rfl ?_
 refine RL.ext rfl rfl rfl rfl ?_
 refine RL.ext rfl rfl rfl rfl ?_
 refine RL.asg rfl rfl rfl ?_
 refine RL.asg rfl rfl rfl ?_
 refine RL.finG ?_
 refine GL.seq ?_
 refine GL.region ?_
 refine RL.mv rfl rfl rfl ?_
 obtain ⟨y16, e17, hm⟩ := bind_some hm
 refine RL.callU (vs := [.int .i64 (3 : Int), v8]) (LR := fun (o : Value) => [own 3 TR.int o y16.1]) (fun o => ⟨Loc.own TR.flatT_ik, trivial⟩) Try_fit100 rfl rfl rfl rfl rfl (fun U w hU hW hL => tally_Points_c U w hU (3 : Int) _ _ (hL 3 _ _ rfl Seen.own) _ e17) ?_
 intro v18
 refine RL.mv rfl rfl rfl ?_
 refine RL.ext rfl rfl rfl rfl ?_
 refine RL.ext rfl rfl rfl rfl ?_
 refine RL.asg rfl rfl rfl ?_
 refine RL.asg rfl rfl rfl ?_
 refine RL.finG ?_
 refine GL.seq ?_
 obtain ⟨y36, K37, h38, h39, h40, h41, h42⟩ := bindR_K hm
 refine GL.join (ι := Bool) (fun (p : Bool) => [(0, .bool p)]) (fun (p : Bool) => []) (fun (p : Bool) => K37 (.nx p)) ?_ ?_
 ·skip
  refine GL.region ?_
  refine RL.mv rfl rfl rfl ?_
  refine RL.mv rfl rfl rfl ?_
  refine RL.bS (t := TR.int) (vs := [.int .i64 y11.2, .int .i64 y16.2]) ([y11.2, y16.2] : (List Int)) Try.underlying101 Try_lo25 rfl rfl rfl rfl ⟨VR.int, ⟨VR.int, trivial⟩⟩ rfl (by decide) ?_
  intro v43
  obtain ⟨y44, e45, h38⟩ := bind_some h38
  refine RL.callV (v := .bool y44) (vs := [v43]) Try_fit20 rfl (Or.inl rfl) rfl rfl rfl rfl (fun U w hU hW hL => pk_good_c U w hU _ _ (hL 5 _ _ rfl Seen.own) _ e45) ?_
  refine RL.mv rfl rfl rfl ?_
  refine RL.split (t := 24) rfl (fun b46 => ?_) (fun b46 => ?_)
  ·replace h38 := ite_t b46 h38
   refine RL.mv rfl rfl rfl ?_
   refine RL.binI (v := .bool (y11.1 == (1 : Int))) rfl rfl rfl rfl rfl ?_
   refine RL.pickT rfl rfl rfl rfl ?_
   refine RL.mv rfl rfl rfl ?_
   refine RL.split (t := 28) rfl (fun b47 => ?_) (fun b47 => ?_)
   ·replace h38 := ite_t b47 h38
    refine RL.mv rfl rfl rfl ?_
    refine RL.bS (t := TR.int) (vs := [.int .i64 (3 : Int), .int .i64 (5 : Int), .int .i64 (1 : Int)]) ([(3 : Int), (5 : Int), (1 : Int)] : (List Int)) Try.underlying24 Try_lo3 rfl rfl rfl rfl ⟨VR.int, ⟨VR.int, ⟨VR.int, trivial⟩⟩⟩ rfl (by decide) ?_
    intro v48
    refine RL.reL (L' := [imm (TR.sl TR.int) v5 ([(0 : Int), (1 : Int), (2 : Int)] : (List Int)), imm (TR.sl TR.int) v6 ([(1 : Int), (2 : Int), (0 : Int)] : (List Int)), imm (TR.sl TR.int) v7 ([(1 : Int), (0 : Int), (2 : Int)] : (List Int)), own 24 (TR.sl TR.int) v8 ([([(0 : Int), (1 : Int), (2 : Int)] : (List Int)), ([(1 : Int), (2 : Int), (0 : Int)] : (List Int)), ([(1 : Int), (0 : Int), (2 : Int)] : (List Int))] : (List (List Int))), own 3 TR.int v18 y16.1, own 25 TR.int v43 ([y11.2, y16.2] : (List Int)), own 3 TR.int v48 ([(3 : Int), (5 : Int), (1 : Int)] : (List Int))]) rfl ?_
    obtain ⟨y49, e50, h38⟩ := bind_some h38
    refine RL.callV (v := .bool y49) (vs := [v18, v48]) Try_fit22 rfl (Or.inl rfl) rfl rfl rfl rfl (fun U w hU hW hL => slices_Equal_int_int_c U w hU _ _ (hL 4 _ _ rfl Seen.own) _ _ (hL 6 _ _ rfl Seen.own) _ e50) ?_
    refine RL.pickT rfl rfl rfl rfl ?_
    refine RL.asg rfl rfl rfl ?_
    refine RL.fin ?_
    cases h38
    exact fun a w st => mid_intro y49 h39 (St.cut [] ⟨rfl, trivial⟩ (by decide) rfl st)
   replace h38 := ite_f b47 h38
   refine RL.skip rfl rfl ?_
   refine RL.skip rfl rfl ?_
   refine RL.skip rfl rfl ?_
   refine RL.pickF rfl rfl rfl rfl ?_
   refine RL.asg rfl rfl rfl ?_
   refine RL.fin ?_
   cases h38
   exact fun a w st => mid_intro false h39 (St.cut [] ⟨rfl, trivial⟩ (by decide) rfl st)
  replace h38 := ite_f b46 h38
  refine RL.skip rfl rfl ?_
  refine RL.skip rfl rfl ?_
  refine RL.pickF rfl rfl rfl rfl ?_
  refine RL.mv rfl rfl rfl ?_
  refine RL.skip rfl rfl ?_
  refine RL.skip rfl rfl ?_
  refine RL.skip rfl rfl ?_
  refine RL.pickF rfl rfl rfl rfl ?_
  refine RL.asg rfl rfl rfl ?_
  refine RL.fin ?_
  cases h38
  exact fun a w st => mid_intro false h39 (St.cut [] ⟨rfl, trivial⟩ (by decide) rfl st)
 rintro x35 h51
 have h52 := h40 _ h51
 try dsimp only at h52
 refine GL.weak (env' := [(0, .bool x35)]) (L' := []) (fun _ _ st => st) ?_
 have h52 := Option.some.inj h52
 subst h52
 exact GL.ret (Gx.ret (v := .bool x35) (res1 rfl rfl) (fun a w st => st.toPostV))

set_option maxHeartbeats 4000000 in
theorem duel_Check_c (S : Hp) (w : World) (hS : S.sub w) (v0 : Value) (x0 : (List (List Int))) (k0 : ((TR.sl (TR.sl TR.int))).vrep S v0 x0) (res : Int) (hm : duel_Check_m x0 = some res) : Calls Try.prog 127 #[v0] w (PostC w (.int .i64 res)) := by
 refine calls_enter 55 Try.func127 Try.ntmps127 rfl S true [(0, v0)] [imm (TR.sl (TR.sl TR.int)) v0 x0] rfl ⟨rfl, trivial⟩ hS ⟨k0, trivial⟩ ?_
 unfold duel_Check_m at hm
 refine GL.seq ?_
 refine GL.region ?_
 refine RL.asg rfl rfl rfl ?_
 refine RL.finG ?_
 refine GL.seq ?_
 refine GL.seq ?_
 obtain ⟨y5, K6, h7, h8, h9, h10, h11⟩ := bindR_K hm
 refine GL.join (ι := Bool) (fun (p : Bool) => [(0, v0), (15, .bool p)]) (fun (p : Bool) => [imm (TR.sl (TR.sl TR.int)) v0 x0]) (fun (p : Bool) => K6 (.nx p)) ?_ ?_
 ·skip
  refine GL.region ?_
  refine RL.mv rfl rfl rfl ?_
  refine RL.lenS 0 Try.underlying37 rfl rfl rfl rfl SlOf.imm ?_
  refine RL.binI (v := .bool (decide (((x0).length : Int) < (1 : Int)))) rfl rfl rfl rfl rfl ?_
  refine RL.mv rfl rfl rfl ?_
  refine RL.split (t := 11) rfl (fun b12 => ?_) (fun b12 => ?_)
  ·replace h7 := ite_t b12 h7
   refine RL.skip rfl rfl ?_
   refine RL.skip rfl rfl ?_
   refine RL.skip rfl rfl ?_
   refine RL.pickT rfl rfl rfl rfl ?_
   refine RL.fin ?_
   cases h7
   exact fun a w st => mid_intro true h8 (St.cut [0] ⟨rfl, rfl, trivial⟩ (by decide) rfl st)
  replace h7 := ite_f b12 h7
  refine RL.mv rfl rfl rfl ?_
  refine RL.lenS 0 Try.underlying37 rfl rfl rfl rfl SlOf.imm ?_
  refine RL.binI (v := .bool (decide (((x0).length : Int) > (6 : Int)))) rfl rfl rfl rfl rfl ?_
  refine RL.pickF rfl rfl rfl rfl ?_
  refine RL.fin ?_
  cases h7
  exact fun a w st => mid_intro (decide (((x0).length : Int) > (6 : Int))) h8 (St.cut [0] ⟨rfl, rfl, trivial⟩ (by decide) rfl st)
 rintro x4 h13
 have h14 := h9 _ h13
 try dsimp only at h14
 refine GL.weak (env' := [(0, v0), (15, .bool x4)]) (L' := [imm (TR.sl (TR.sl TR.int)) v0 x0]) (fun _ _ st => st) ?_
 refine GL.cond rfl (fun b15 => ?_) (fun b15 => ?_)
 ·replace h14 := ite_t b15 h14
  refine GL.seq ?_
  refine GL.region ?_
  refine RL.asg rfl rfl rfl ?_
  refine RL.finG ?_
  have h14 := Option.some.inj h14
  subst h14
  exact GL.ret (Gx.ret (v := .int .i64 (2 : Int)) (res1 rfl rfl) (fun a w st => st.toPostC rfl))
 replace h14 := ite_f b15 h14
 refine GL.skip ?_
 refine GL.seq ?_
 refine GL.seq ?_
 refine GL.region ?_
 refine RL.mv rfl rfl rfl ?_
 refine RL.lenS 0 Try.underlying37 rfl rfl rfl rfl SlOf.imm ?_
 refine RL.mv rfl rfl rfl ?_
 refine RL.finG ?_
 refine GL.open_ 0 rfl (fun S h => len_imm S h) (fun n79 => ?_)
 obtain ⟨y80, K81, h82, h83, h84, h85, h86⟩ := bindR_K h14
 refine GL.join (ι := Unit) (fun (p : Unit) => [(0, v0)]) (fun (p : Unit) => [imm (TR.sl (TR.sl TR.int)) v0 x0]) (fun (p : Unit) => K81 (.nx ())) ?_ ?_
 ·refine GL.block ?_
  refine GL.loop (ι := Nat × (List (List Int))) (fun (p : Nat × (List (List Int))) => [(0, v0), (16, v0), (17, .int .i64 ((x0).length : Int)), (18, .int .i64 (p.1 : Int))]) (fun (p : Nat × (List (List Int))) => [imm (TR.sl (TR.sl TR.int)) v0 x0]) (fun (p : Nat × (List (List Int))) => p.1 + p.2.length = (x0).length ∧ List.drop p.1 x0 = p.2 ∧ rangeL (duel_Check_b1 x0) p.2 p.1 () = some y80) (fun (p : Nat × (List (List Int))) => p.2.length) (0, x0) ⟨by simp, by simp, h82⟩ (fun a w st => St.cut [0] ⟨rfl, rfl, rfl, rfl, trivial⟩ (by decide) rfl st) ?_
  rintro ⟨i87, r88⟩ ⟨h93, h94, h92⟩
  try dsimp only at h93 h94 h92
  refine GL.weak (env' := [(0, v0), (16, v0), (17, .int .i64 ((x0).length : Int)), (18, .int .i64 (i87 : Int))]) (L' := [imm (TR.sl (TR.sl TR.int)) v0 x0]) (fun _ _ st => st) ?_
  refine GL.seq ?_
  refine GL.region ?_
  refine RL.binI (v := .bool (decide ((i87 : Int) < ((x0).length : Int)))) rfl rfl rfl rfl rfl ?_
  refine RL.finG ?_
  refine GL.seq ?_
  refine GL.cond rfl (fun b95 => ?_) (fun b95 => ?_)
  ·have h96 : i87 < (x0).length := by have := of_decide_eq_true b95; omega
   obtain ⟨y97, r99, hr, e98, h100⟩ := drop_cons h94 rfl h96
   subst hr
   obtain ⟨z89, h90, h91⟩ := rangeL_some h92
   unfold duel_Check_b1 at h90
   try dsimp only at h90
   refine GL.skip ?_
   refine GL.seq ?_
   refine GL.block ?_
   refine GL.seq ?_
   refine GL.region ?_
   refine RL.idxS (sz := 1) 0 Try.underlying37 Try_ln24 rfl rfl rfl rfl rfl SlOf.imm (by omega) (by omega) ?_
   refine RL.ldS (i := i87) (r := (TR.sl TR.int)) (e' := y97) 0 Try_ln24 rfl rfl rfl rfl SlOf.imm e98 Part.self ?_
   intro v102
   refine RL.asg rfl rfl rfl ?_
   refine RL.finG ?_
   refine GL.seq ?_
   refine GL.seq ?_
   refine GL.region ?_
   refine RL.mv rfl rfl rfl ?_
   refine RL.lenS 1 Try.underlying24 rfl rfl rfl rfl SlOf.imm ?_
   refine RL.mv rfl rfl rfl ?_
   refine RL.lenS 0 Try.underlying37 rfl rfl rfl rfl SlOf.imm ?_
   refine RL.binI (v := .bool (((y97).length : Int) != ((x0).length : Int))) rfl rfl rfl rfl rfl ?_
   refine RL.finG ?_
   refine GL.cond rfl (fun b103 => ?_) (fun b103 => ?_)
   ·replace h90 := ite_t b103 h90
    refine GL.seq ?_
    refine GL.region ?_
    refine RL.asg rfl rfl rfl ?_
    refine RL.finG ?_
    cases h90
    replace h91 : some (Fl.rt _) = some y80 := h91
    cases h91
    have hh := h85 _ h83
    subst hh
    exact GL.ret (Gx.ret (v := .int .i64 (3 : Int)) (res1 rfl rfl) (fun a w st => st.toPostC rfl))
   replace h90 := ite_f b103 h90
   refine GL.skip ?_
   refine GL.seq ?_
   refine GL.region ?_
   refine RL.mv rfl rfl rfl ?_
   refine RL.lenS 1 Try.underlying24 rfl rfl rfl rfl SlOf.imm ?_
   refine RL.mv rfl rfl rfl ?_
   refine RL.finG ?_
   refine GL.open_ 1 rfl (fun S h => len_imm S h) (fun n122 => ?_)
   obtain ⟨y123, K124, h125, h126, h127, h128, h129⟩ := bindF_K h90
   refine GL.join (ι := Unit) (fun (p : Unit) => [(0, v0), (16, v0), (17, .int .i64 ((x0).length : Int)), (18, .int .i64 (i87 : Int))]) (fun (p : Unit) => [imm (TR.sl (TR.sl TR.int)) v0 x0]) (fun (p : Unit) => K124 (.nx ())) ?_ ?_
   ·refine GL.block ?_
    refine GL.loop (ι := Nat × (List Int)) (fun (p : Nat × (List Int)) => [(0, v0), (16, v0), (17, .int .i64 ((x0).length : Int)), (18, .int .i64 (i87 : Int)), (27, v102), (28, .int .i64 ((y97).length : Int)), (29, .int .i64 (p.1 : Int))]) (fun (p : Nat × (List Int)) => [imm (TR.sl (TR.sl TR.int)) v0 x0, imm (TR.sl TR.int) v102 y97]) (fun (p : Nat × (List Int)) => p.1 + p.2.length = (y97).length ∧ List.drop p.1 y97 = p.2 ∧ rangeL duel_Check_b2 p.2 p.1 () = some y123) (fun (p : Nat × (List Int)) => p.2.length) (0, y97) ⟨by simp, by simp, h125⟩ (fun a w st => St.cut [0, 1] ⟨rfl, rfl, rfl, rfl, rfl, rfl, rfl, trivial⟩ (by decide) rfl st) ?_
    rintro ⟨i130, r131⟩ ⟨h136, h137, h135⟩
    try dsimp only at h136 h137 h135
    refine GL.weak (env' := [(0, v0), (16, v0), (17, .int .i64 ((x0).length : Int)), (18, .int .i64 (i87 : Int)), (27, v102), (28, .int .i64 ((y97).length : Int)), (29, .int .i64 (i130 : Int))]) (L' := [imm (TR.sl (TR.sl TR.int)) v0 x0, imm (TR.sl TR.int) v102 y97]) (fun _ _ st => st) ?_
    refine GL.seq ?_
    refine GL.region ?_
    refine RL.binI (v := .bool (decide ((i130 : Int) < ((y97).length : Int)))) rfl rfl rfl rfl rfl ?_
    refine RL.finG ?_
    refine GL.seq ?_
    refine GL.cond rfl (fun b138 => ?_) (fun b138 => ?_)
    ·have h139 : i130 < (y97).length := by have := of_decide_eq_true b138; omega
     obtain ⟨y140, r142, hr, e141, h143⟩ := drop_cons h137 rfl h139
     subst hr
     obtain ⟨z132, h133, h134⟩ := rangeL_some h135
     unfold duel_Check_b2 at h133
     try dsimp only at h133
     refine GL.skip ?_
     refine GL.seq ?_
     refine GL.block ?_
     refine GL.seq ?_
     refine GL.region ?_
     refine RL.idxS (sz := 1) 1 Try.underlying24 Try_ln3 rfl rfl rfl rfl rfl SlOf.imm (by omega) (by omega) ?_
     refine RL.ldSx (i := i130) (e' := y140) 1 Ex.ik Try_ln3 rfl rfl rfl rfl SlOf.imm e141 Part.self ?_
     refine RL.asg rfl rfl rfl ?_
     refine RL.finG ?_
     refine GL.seq ?_
     obtain ⟨y147, K148, h149, h150, h151, h152, h153⟩ := bindF_K h133
     refine GL.join (ι := Bool) (fun (p : Bool) => [(0, v0), (16, v0), (17, .int .i64 ((x0).length : Int)), (18, .int .i64 (i87 : Int)), (27, v102), (28, .int .i64 ((y97).length : Int)), (29, .int .i64 (i130 : Int)), (38, .bool p)]) (fun (p : Bool) => [imm (TR.sl (TR.sl TR.int)) v0 x0, imm (TR.sl TR.int) v102 y97]) (fun (p : Bool) => K148 (.nx p)) ?_ ?_
     ·skip
      refine GL.region ?_
      refine RL.mv rfl rfl rfl ?_
      refine RL.binI (v := .bool (decide (y140 < (0 : Int)))) rfl rfl rfl rfl rfl ?_
      refine RL.mv rfl rfl rfl ?_
      refine RL.split (t := 35) rfl (fun b154 => ?_) (fun b154 => ?_)
      ·replace h149 := ite_t b154 h149
       refine RL.skip rfl rfl ?_
       refine RL.skip rfl rfl ?_
       refine RL.pickT rfl rfl rfl rfl ?_
       refine RL.fin ?_
       cases h149
       exact fun a w st => mid_intro true h150 (St.cut [0, 1] ⟨rfl, rfl, rfl, rfl, rfl, rfl, rfl, rfl, trivial⟩ (by decide) rfl st)
      replace h149 := ite_f b154 h149
      refine RL.mv rfl rfl rfl ?_
      refine RL.binI (v := .bool (decide (y140 > (30 : Int)))) rfl rfl rfl rfl rfl ?_
      refine RL.pickF rfl rfl rfl rfl ?_
      refine RL.fin ?_
      cases h149
      exact fun a w st => mid_intro (decide (y140 > (30 : Int))) h150 (St.cut [0, 1] ⟨rfl, rfl, rfl, rfl, rfl, rfl, rfl, rfl, trivial⟩ (by decide) rfl st)
     rintro x146 h155
     have h156 := h151 _ h155
     try dsimp only at h156
     refine GL.weak (env' := [(0, v0), (16, v0), (17, .int .i64 ((x0).length : Int)), (18, .int .i64 (i87 : Int)), (27, v102), (28, .int .i64 ((y97).length : Int)), (29, .int .i64 (i130 : Int)), (38, .bool x146)]) (L' := [imm (TR.sl (TR.sl TR.int)) v0 x0, imm (TR.sl TR.int) v102 y97]) (fun _ _ st => st) ?_
     refine GL.cond rfl (fun b157 => ?_) (fun b157 => ?_)
     ·replace h156 := ite_t b157 h156
      refine GL.seq ?_
      refine GL.region ?_
      refine RL.asg rfl rfl rfl ?_
      refine RL.finG ?_
      cases h156
      replace h134 : some (Fl.rt _) = some y123 := h134
      cases h134
      have hh := h128 _ h126
      subst hh
      replace h91 : some (Fl.rt _) = some y80 := h91
      cases h91
      have hh := h85 _ h83
      subst hh
      exact GL.ret (Gx.ret (v := .int .i64 (1 : Int)) (res1 rfl rfl) (fun a w st => st.toPostC rfl))
     replace h156 := ite_f b157 h156
     refine GL.skip ?_
     refine GL.nilB ?_
     refine GL.region ?_
     refine RL.binI (v := .int .i64 ((i130 + 1 : Nat) : Int)) rfl rfl rfl rfl (binI_succ i130 (by omega)) ?_
     refine RL.mv rfl rfl rfl ?_
     refine RL.fin ?_
     cases h156
     exact fun a w st => lop_intro (i130 + 1, r142) ⟨by show i130 + 1 + r142.length = (y97).length; simp only [List.length_cons] at h136; omega, h143, h134⟩ (by simp) (St.cut [0, 1] ⟨rfl, rfl, rfl, rfl, rfl, rfl, rfl, trivial⟩ (by decide) rfl st)
    have h139 : ¬ i130 < (y97).length := by have := of_decide_eq_false b138; omega
    obtain rfl : r131 = [] := by rw [← h137]; exact List.drop_of_length_le (by omega)
    replace h135 : some (Fl.nx _) = some y123 := h135
    cases h135
    exact GL.exit (fun a w st => mid_intro () h126 (St.cut [0] ⟨rfl, rfl, rfl, rfl, trivial⟩ (by decide) rfl st))
   rintro ⟨⟩ h158
   have h159 := h127 _ h158
   try dsimp only at h159
   refine GL.weak (env' := [(0, v0), (16, v0), (17, .int .i64 ((x0).length : Int)), (18, .int .i64 (i87 : Int))]) (L' := [imm (TR.sl (TR.sl TR.int)) v0 x0]) (fun _ _ st => st) ?_
   refine GL.nilB ?_
   refine GL.region ?_
   refine RL.binI (v := .int .i64 ((i87 + 1 : Nat) : Int)) rfl rfl rfl rfl (binI_succ i87 (by omega)) ?_
   refine RL.mv rfl rfl rfl ?_
   refine RL.fin ?_
   cases h159
   exact fun a w st => lop_intro (i87 + 1, r99) ⟨by show i87 + 1 + r99.length = (x0).length; simp only [List.length_cons] at h93; omega, h100, h91⟩ (by simp) (St.cut [0] ⟨rfl, rfl, rfl, rfl, trivial⟩ (by decide) rfl st)
  have h96 : ¬ i87 < (x0).length := by have := of_decide_eq_false b95; omega
  obtain rfl : r88 = [] := by rw [← h94]; exact List.drop_of_length_le (by omega)
  replace h92 : some (Fl.nx _) = some y80 := h92
  cases h92
  exact GL.exit (fun a w st => mid_intro () h83 (St.cut [0] ⟨rfl, trivial⟩ (by decide) rfl st))
 rintro ⟨⟩ h160
 have h161 := h84 _ h160
 try dsimp only at h161
 refine GL.weak (env' := [(0, v0)]) (L' := [imm (TR.sl (TR.sl TR.int)) v0 x0]) (fun _ _ st => st) ?_
 refine GL.seq ?_
 refine GL.seq ?_
 refine GL.region ?_
 refine RL.mv rfl rfl rfl ?_
 refine RL.lenS 0 Try.underlying37 rfl rfl rfl rfl SlOf.imm ?_
 refine RL.mv rfl rfl rfl ?_
 refine RL.finG ?_
 refine GL.open_ 0 rfl (fun S h => len_imm S h) (fun n173 => ?_)
 obtain ⟨y174, K175, h176, h177, h178, h179, h180⟩ := bindR_K h161
 refine GL.join (ι := Unit) (fun (p : Unit) => []) (fun (p : Unit) => []) (fun (p : Unit) => K175 (.nx ())) ?_ ?_
 ·refine GL.block ?_
  refine GL.loop (ι := Nat × (List (List Int))) (fun (p : Nat × (List (List Int))) => [(0, v0), (42, .int .i64 ((x0).length : Int)), (43, .int .i64 (p.1 : Int))]) (fun (p : Nat × (List (List Int))) => [imm (TR.sl (TR.sl TR.int)) v0 x0]) (fun (p : Nat × (List (List Int))) => p.1 + p.2.length = (x0).length ∧ List.drop p.1 x0 = p.2 ∧ rangeL duel_Check_b3 p.2 p.1 () = some y174) (fun (p : Nat × (List (List Int))) => p.2.length) (0, x0) ⟨by simp, by simp, h176⟩ (fun a w st => St.cut [0] ⟨rfl, rfl, rfl, trivial⟩ (by decide) rfl st) ?_
  rintro ⟨i181, r182⟩ ⟨h187, h188, h186⟩
  try dsimp only at h187 h188 h186
  refine GL.weak (env' := [(0, v0), (42, .int .i64 ((x0).length : Int)), (43, .int .i64 (i181 : Int))]) (L' := [imm (TR.sl (TR.sl TR.int)) v0 x0]) (fun _ _ st => st) ?_
  refine GL.seq ?_
  refine GL.region ?_
  refine RL.binI (v := .bool (decide ((i181 : Int) < ((x0).length : Int)))) rfl rfl rfl rfl rfl ?_
  refine RL.finG ?_
  refine GL.seq ?_
  refine GL.cond rfl (fun b189 => ?_) (fun b189 => ?_)
  ·have h190 : i181 < (x0).length := by have := of_decide_eq_true b189; omega
   obtain ⟨y191, r193, hr, e192, h194⟩ := drop_cons h188 rfl h190
   subst hr
   obtain ⟨z183, h184, h185⟩ := rangeL_some h186
   unfold duel_Check_b3 at h184
   try dsimp only at h184
   refine GL.skip ?_
   refine GL.seq ?_
   refine GL.block ?_
   refine GL.seq ?_
   refine GL.region ?_
   refine RL.mv rfl rfl rfl ?_
   refine RL.asg rfl rfl rfl ?_
   refine RL.finG ?_
   refine GL.seq ?_
   refine GL.region ?_
   refine RL.mv rfl rfl rfl ?_
   refine RL.mv rfl rfl rfl ?_
   refine RL.idxS (sz := 1) 0 Try.underlying37 Try_ln24 rfl rfl rfl rfl rfl SlOf.imm (by omega) (by omega) ?_
   refine RL.ldS (i := i181) (r := (TR.sl TR.int)) (e' := y191) 0 Try_ln24 rfl rfl rfl rfl SlOf.imm e192 Part.self ?_
   intro v198
   refine RL.mv rfl rfl rfl ?_
   obtain ⟨y199, e200, h184⟩ := bind_some h184
   refine RL.idxS (sz := 1) 1 Try.underlying24 Try_ln3 rfl rfl rfl rfl rfl SlOf.imm (idx_some e200).1 (idx_some e200).2.1 ?_
   refine RL.ldSx (i := i181) (e' := y199) 1 Ex.ik Try_ln3 rfl rfl rfl rfl SlOf.imm (idx_some e200).2.2 Part.self ?_
   refine RL.binI (v := .bool (y199 != (0 : Int))) rfl rfl rfl rfl rfl ?_
   refine RL.finG ?_
   refine GL.cond rfl (fun b201 => ?_) (fun b201 => ?_)
   ·replace h184 := ite_t b201 h184
    refine GL.seq ?_
    refine GL.region ?_
    refine RL.asg rfl rfl rfl ?_
    refine RL.finG ?_
    cases h184
    replace h185 : some (Fl.rt _) = some y174 := h185
    cases h185
    have hh := h179 _ h177
    subst hh
    exact GL.ret (Gx.ret (v := .int .i64 (3 : Int)) (res1 rfl rfl) (fun a w st => st.toPostC rfl))
   replace h184 := ite_f b201 h184
   refine GL.skip ?_
   refine GL.nilB ?_
   refine GL.region ?_
   refine RL.binI (v := .int .i64 ((i181 + 1 : Nat) : Int)) rfl rfl rfl rfl (binI_succ i181 (by omega)) ?_
   refine RL.mv rfl rfl rfl ?_
   refine RL.fin ?_
   cases h184
   exact fun a w st => lop_intro (i181 + 1, r193) ⟨by show i181 + 1 + r193.length = (x0).length; simp only [List.length_cons] at h187; omega, h194, h185⟩ (by simp) (St.cut [0] ⟨rfl, rfl, rfl, trivial⟩ (by decide) rfl st)
  have h190 : ¬ i181 < (x0).length := by have := of_decide_eq_false b189; omega
  obtain rfl : r182 = [] := by rw [← h188]; exact List.drop_of_length_le (by omega)
  replace h186 : some (Fl.nx _) = some y174 := h186
  cases h186
  exact GL.exit (fun a w st => mid_intro () h177 (St.cut [] trivial (by decide) rfl st))
 rintro ⟨⟩ h202
 have h203 := h178 _ h202
 try dsimp only at h203
 refine GL.weak (env' := []) (L' := []) (fun _ _ st => st) ?_
 refine GL.seq ?_
 refine GL.region ?_
 refine RL.asg rfl rfl rfl ?_
 refine RL.finG ?_
 have h203 := Option.some.inj h203
 subst h203
 exact GL.ret (Gx.ret (v := .int .i64 (0 : Int)) (res1 rfl rfl) (fun a w st => st.toPostC rfl))

set_option maxHeartbeats 4000000 in
theorem duel_Top_c (S : Hp) (w : World) (hS : S.sub w) (v0 : Value) (x0 : (List (List Int))) (k0 : ((TR.sl (TR.sl TR.int))).vrep S v0 x0) (res : (List Int) × Int) (hm : duel_Top_m x0 = some res) : Calls Try.prog 101 #[v0] w (Post w S (fun (o : Value) => .tuple #[o, .int .i64 res.2]) (fun (o : Value) => [own 3 TR.int o res.1])) := by
 refine calls_enter 133 Try.func101 Try.ntmps101 rfl S false [(0, v0)] [imm (TR.sl (TR.sl TR.int)) v0 x0] rfl ⟨rfl, trivial⟩ hS ⟨k0, trivial⟩ ?_
 unfold duel_Top_m at hm
 refine GL.seq ?_
 refine GL.region ?_
 refine RL.asg rfl rfl rfl ?_
 refine RL.asg rfl rfl rfl ?_
 refine RL.finG ?_
 refine GL.seq ?_
 refine GL.seq ?_
 refine GL.region ?_
 refine RL.mv rfl rfl rfl ?_
 obtain ⟨y4, e5, hm⟩ := bind_some hm
 refine RL.callC (v := .int .i64 y4) (vs := [v0]) Try_fit127 rfl rfl rfl rfl (fun U w hU hW hL => duel_Check_c U w hU _ _ (hL 0 _ _ rfl Seen.imm) _ e5) ?_
 refine RL.asg rfl rfl rfl ?_
 refine RL.finG ?_
 refine GL.seq ?_
 refine GL.region ?_
 refine RL.mv rfl rfl rfl ?_
 refine RL.binI (v := .bool (y4 != (0 : Int))) rfl rfl rfl rfl rfl ?_
 refine RL.finG ?_
 refine GL.cond rfl (fun b6 => ?_) (fun b6 => ?_)
 ·replace hm := ite_t b6 hm
  refine GL.seq ?_
  refine GL.region ?_
  refine RL.mv rfl rfl rfl ?_
  refine RL.asg rfl rfl rfl ?_
  refine RL.asg rfl rfl rfl ?_
  refine RL.finG ?_
  refine GL.weak (fun a w st => st.nilOwn 3 TR.int) ?_
  have hm := Option.some.inj hm
  subst hm
  exact GL.ret (Gx.ret (v := .tuple #[Value.slice none 0 0, .int .i64 y4]) (res2 rfl rfl rfl) (fun a w st => (st.pick [1] (by decide) rfl).toPost (Value.slice none 0 0)))
 replace hm := ite_f b6 hm
 refine GL.skip ?_
 refine GL.seq ?_
 refine GL.region ?_
 refine RL.mv rfl rfl rfl ?_
 refine RL.lenS 0 Try.underlying37 rfl rfl rfl rfl SlOf.imm ?_
 refine RL.asg rfl rfl rfl ?_
 refine RL.finG ?_
 refine GL.seq ?_
 refine GL.region ?_
 refine RL.mv rfl rfl rfl ?_
 obtain ⟨y10, e11, hm⟩ := bind_some hm
 replace e11 := chk_some e11
 refine RL.mkS (t := TR.raw) (z := .slice none 0 0) Try.underlying37 Try_lo24 (fun S => ⟨rfl, rfl⟩) rfl rfl rfl rfl e11.1 e11.2 ?_
 intro v12
 refine RL.weak (fun a w st => st.toRows 3 TR.int 1 rfl) ?_
 refine RL.reL (L' := [imm (TR.sl (TR.sl TR.int)) v0 x0, own2 24 3 TR.int v12 (List.replicate (((x0).length : Int)).toNat (Value.slice none 0 0)) (List.replicate (((x0).length : Int)).toNat ([] : (List Int)))]) rfl ?_
 refine RL.asg rfl rfl rfl ?_
 refine RL.finG ?_
 refine GL.seq ?_
 refine GL.seq ?_
 refine GL.region ?_
 refine RL.mv rfl rfl rfl ?_
 refine RL.lenR 1 Try.underlying37 rfl rfl rfl rfl ?_
 refine RL.mv rfl rfl rfl ?_
 refine RL.finG ?_
 refine GL.lenR 1 rfl (fun n387 => ?_)
 obtain ⟨y388, K389, h390, h391, h392, h393, h394⟩ := bindR_K hm
 refine GL.join (ι := (List (List Int)) × (List Value)) (fun (p : (List (List Int)) × (List Value)) => [(5, .int .i64 ((x0).length : Int)), (6, v12)]) (fun (p : (List (List Int)) × (List Value)) => [own2 24 3 TR.int v12 p.2 p.1]) (fun (p : (List (List Int)) × (List Value)) => K389 (.nx p.1)) ?_ ?_
 ·refine GL.block ?_
  refine GL.loop (ι := Nat × Nat × (List (List Int)) × (List Value)) (fun (p : Nat × Nat × (List (List Int)) × (List Value)) => [(0, v0), (5, .int .i64 ((x0).length : Int)), (6, v12), (26, .int .i64 (((List.replicate (((x0).length : Int)).toNat ([] : (List Int)))).length : Int)), (27, .int .i64 (p.1 : Int))]) (fun (p : Nat × Nat × (List (List Int)) × (List Value)) => [imm (TR.sl (TR.sl TR.int)) v0 x0, own2 24 3 TR.int v12 p.2.2.2 p.2.2.1]) (fun (p : Nat × Nat × (List (List Int)) × (List Value)) => p.1 + p.2.1 = ((List.replicate (((x0).length : Int)).toNat ([] : (List Int)))).length ∧ rangeN (duel_Top_b1 x0) p.2.1 p.1 p.2.2.1 = some y388) (fun (p : Nat × Nat × (List (List Int)) × (List Value)) => p.2.1) (0, ((List.replicate (((x0).length : Int)).toNat ([] : (List Int)))).length, (List.replicate (((x0).length : Int)).toNat ([] : (List Int))), (List.replicate (((x0).length : Int)).toNat (Value.slice none 0 0))) ⟨by simp, h390⟩ (fun a w st => St.cut [0, 1] ⟨rfl, rfl, rfl, rfl, rfl, trivial⟩ (by decide) rfl st) ?_
  rintro ⟨i395, r396, l199, V200⟩ ⟨h401, h400⟩
  try dsimp only at h401 h400
  refine GL.weak (env' := [(0, v0), (5, .int .i64 ((x0).length : Int)), (6, v12), (26, .int .i64 (((List.replicate (((x0).length : Int)).toNat ([] : (List Int)))).length : Int)), (27, .int .i64 (i395 : Int))]) (L' := [imm (TR.sl (TR.sl TR.int)) v0 x0, own2 24 3 TR.int v12 V200 l199]) (fun _ _ st => st) ?_
  refine GL.seq ?_
  refine GL.region ?_
  refine RL.binI (v := .bool (decide ((i395 : Int) < (((List.replicate (((x0).length : Int)).toNat ([] : (List Int)))).length : Int)))) rfl rfl rfl rfl rfl ?_
  refine RL.finG ?_
  refine GL.seq ?_
  refine GL.cond rfl (fun b403 => ?_) (fun b403 => ?_)
  ·have h404 : i395 < ((List.replicate (((x0).length : Int)).toNat ([] : (List Int)))).length := by have := of_decide_eq_true b403; omega
   obtain ⟨r405, hr⟩ : ∃ m, r396 = m + 1 := ⟨r396 - 1, by omega⟩
   subst hr
   obtain ⟨z397, h398, h399⟩ := rangeN_some h400
   unfold duel_Top_b1 at h398
   try dsimp only at h398
   refine GL.skip ?_
   refine GL.seq ?_
   refine GL.block ?_
   refine GL.seq ?_
   refine GL.region ?_
   refine RL.mv rfl rfl rfl ?_
   refine RL.asg rfl rfl rfl ?_
   refine RL.finG ?_
   refine GL.seq ?_
   refine GL.region ?_
   refine RL.mv rfl rfl rfl ?_
   refine RL.mv rfl rfl rfl ?_
   refine RL.mv rfl rfl rfl ?_
   obtain ⟨y411, e412, h398⟩ := bind_some h398
   replace e412 := chk_some e412
   refine RL.mkS (t := TR.int) (z := (0 : Int)) Try.underlying24 Try_lo3 (fun S => rfl) rfl rfl rfl rfl e412.1 e412.2 ?_
   intro v413
   obtain ⟨y414, e415, h398⟩ := bind_some h398
   refine RL.idxR 1 Try.underlying37 Try_ln24 rfl rfl rfl rfl rfl (idx_some e415).1 (idx_some e415).2.1 ?_
   refine RL.stSp (i := i395) (r0 := y414) 1 2 (by decide) Try_ln24 rfl rfl rfl rfl rfl rfl (idx_some e415).2.2 ?_
   refine RL.reL (L' := [imm (TR.sl (TR.sl TR.int)) v0 x0, own2 24 3 TR.int v12 (List.set V200 i395 v413) (List.set l199 i395 (List.replicate (((x0).length : Int)).toNat (0 : Int))), gone]) rfl ?_
   refine RL.finG ?_
   refine GL.seq ?_
   refine GL.region ?_
   refine RL.mv rfl rfl rfl ?_
   refine RL.mv rfl rfl rfl ?_
   refine RL.finG ?_
   refine GL.open_ 0 rfl (fun S h => len_imm S h) (fun n522 => ?_)
   obtain ⟨y523, K524, h525, h526, h527, h528, h529⟩ := bindF_K h398
   refine GL.join (ι := (List (List Int)) × (List Value)) (fun (p : (List (List Int)) × (List Value)) => [(0, v0), (5, .int .i64 ((x0).length : Int)), (6, v12), (26, .int .i64 (((List.replicate (((x0).length : Int)).toNat ([] : (List Int)))).length : Int)), (27, .int .i64 (i395 : Int))]) (fun (p : (List (List Int)) × (List Value)) => [imm (TR.sl (TR.sl TR.int)) v0 x0, own2 24 3 TR.int v12 p.2 p.1]) (fun (p : (List (List Int)) × (List Value)) => K524 (.nx p.1)) ?_ ?_
   ·refine GL.block ?_
    refine GL.loop (ι := Nat × (List (List Int)) × (List (List Int)) × (List Value)) (fun (p : Nat × (List (List Int)) × (List (List Int)) × (List Value)) => [(0, v0), (5, .int .i64 ((x0).length : Int)), (6, v12), (7, .int .i64 (i395 : Int)), (26, .int .i64 (((List.replicate (((x0).length : Int)).toNat ([] : (List Int)))).length : Int)), (27, .int .i64 (i395 : Int)), (35, .int .i64 ((x0).length : Int)), (36, .int .i64 (p.1 : Int))]) (fun (p : Nat × (List (List Int)) × (List (List Int)) × (List Value)) => [imm (TR.sl (TR.sl TR.int)) v0 x0, own2 24 3 TR.int v12 p.2.2.2 p.2.2.1]) (fun (p : Nat × (List (List Int)) × (List (List Int)) × (List Value)) => p.1 + p.2.1.length = (x0).length ∧ List.drop p.1 x0 = p.2.1 ∧ rangeL (duel_Top_b2 i395 x0) p.2.1 p.1 p.2.2.1 = some y523) (fun (p : Nat × (List (List Int)) × (List (List Int)) × (List Value)) => p.2.1.length) (0, x0, (List.set l199 i395 (List.replicate (((x0).length : Int)).toNat (0 : Int))), (List.set V200 i395 v413)) ⟨by simp, by simp, h525⟩ (fun a w st => St.cut [0, 1] ⟨rfl, rfl, rfl, rfl, rfl, rfl, rfl, rfl, trivial⟩ (by decide) rfl st) ?_
    rintro ⟨i530, r531, l468, V469⟩ ⟨h536, h537, h535⟩
    try dsimp only at h536 h537 h535
    refine GL.weak (env' := [(0, v0), (5, .int .i64 ((x0).length : Int)), (6, v12), (7, .int .i64 (i395 : Int)), (26, .int .i64 (((List.replicate (((x0).length : Int)).toNat ([] : (List Int)))).length : Int)), (27, .int .i64 (i395 : Int)), (35, .int .i64 ((x0).length : Int)), (36, .int .i64 (i530 : Int))]) (L' := [imm (TR.sl (TR.sl TR.int)) v0 x0, own2 24 3 TR.int v12 V469 l468]) (fun _ _ st => st) ?_
    refine GL.seq ?_
    refine GL.region ?_
    refine RL.binI (v := .bool (decide ((i530 : Int) < ((x0).length : Int)))) rfl rfl rfl rfl rfl ?_
    refine RL.finG ?_
    refine GL.seq ?_
    refine GL.cond rfl (fun b538 => ?_) (fun b538 => ?_)
    ·have h539 : i530 < (x0).length := by have := of_decide_eq_true b538; omega
     obtain ⟨y540, r542, hr, e541, h543⟩ := drop_cons h537 rfl h539
     subst hr
     obtain ⟨z532, h533, h534⟩ := rangeL_some h535
     unfold duel_Top_b2 at h533
     try dsimp only at h533
     refine GL.skip ?_
     refine GL.seq ?_
     refine GL.block ?_
     refine GL.seq ?_
     refine GL.region ?_
     refine RL.mv rfl rfl rfl ?_
     refine RL.asg rfl rfl rfl ?_
     refine RL.finG ?_
     refine GL.seq ?_
     obtain ⟨y563, K564, h565, h566, h567, h568, h569⟩ := bindF_K h533
     refine GL.join (ι := Bool) (fun (p : Bool) => [(0, v0), (5, .int .i64 ((x0).length : Int)), (6, v12), (7, .int .i64 (i395 : Int)), (8, .int .i64 (i530 : Int)), (26, .int .i64 (((List.replicate (((x0).length : Int)).toNat ([] : (List Int)))).length : Int)), (27, .int .i64 (i395 : Int)), (35, .int .i64 ((x0).length : Int)), (36, .int .i64 (i530 : Int)), (58, .bool p)]) (fun (p : Bool) => [imm (TR.sl (TR.sl TR.int)) v0 x0, own2 24 3 TR.int v12 V469 l468]) (fun (p : Bool) => K564 (.nx p)) ?_ ?_
     ·skip
      refine GL.regionQ rfl rfl (by kernel_rfl) ?_
      refine RL.mv rfl rfl rfl ?_
      refine RL.mv rfl rfl rfl ?_
      refine RL.binI (v := .bool ((i395 : Int) == (i530 : Int))) rfl rfl rfl rfl rfl ?_
      refine RL.mv rfl rfl rfl ?_
      refine RL.split (t := 42) rfl (fun b570 => ?_) (fun b570 => ?_)
      ·replace h565 := ite_t b570 h565
       refine RL.skip rfl rfl ?_
       refine RL.skip rfl rfl ?_
       refine RL.skip rfl rfl ?_
       refine RL.skip rfl rfl ?_
       refine RL.skip rfl rfl ?_
       refine RL.skip rfl rfl ?_
       refine RL.skip rfl rfl ?_
       refine RL.skip rfl rfl ?_
       refine RL.skip rfl rfl ?_
       refine RL.skip rfl rfl ?_
       refine RL.skip rfl rfl ?_
       refine RL.skip rfl rfl ?_
       refine RL.skip rfl rfl ?_
       refine RL.skip rfl rfl ?_
       refine RL.skip rfl rfl ?_
       refine RL.pickT rfl rfl rfl rfl ?_
       refine RL.finQ ?_
       cases h565
       exact fun a w st => mid_intro true h566 (St.cut [0, 1] ⟨rfl, rfl, rfl, rfl, rfl, rfl, rfl, rfl, rfl, rfl, trivial⟩ (by decide) rfl st)
      replace h565 := ite_f b570 h565
      refine RL.mv rfl rfl rfl ?_
      refine RL.mv rfl rfl rfl ?_
      obtain ⟨y571, e572, h565⟩ := bind_some h565
      refine RL.idxS (sz := 1) 0 Try.underlying37 Try_ln24 rfl rfl rfl rfl rfl SlOf.imm (idx_some e572).1 (idx_some e572).2.1 ?_
      refine RL.ldS (i := i395) (r := (TR.sl TR.int)) (e' := y571) 0 Try_ln24 rfl rfl rfl rfl SlOf.imm (idx_some e572).2.2 Part.self ?_
      intro v573
      refine RL.mv rfl rfl rfl ?_
      obtain ⟨y574, e575, h565⟩ := bind_some h565
      refine RL.idxS (sz := 1) 2 Try.underlying24 Try_ln3 rfl rfl rfl rfl rfl SlOf.imm (idx_some e575).1 (idx_some e575).2.1 ?_
      refine RL.ldSx (i := i530) (e' := y574) 2 Ex.ik Try_ln3 rfl rfl rfl rfl SlOf.imm (idx_some e575).2.2 Part.self ?_
      refine RL.mv rfl rfl rfl ?_
      refine RL.mv rfl rfl rfl ?_
      refine RL.idxS (sz := 1) 0 Try.underlying37 Try_ln24 rfl rfl rfl rfl rfl SlOf.imm (by omega) (by omega) ?_
      refine RL.ldS (i := i530) (r := (TR.sl TR.int)) (e' := y540) 0 Try_ln24 rfl rfl rfl rfl SlOf.imm e541 Part.self ?_
      intro v576
      refine RL.reL (L' := [imm (TR.sl (TR.sl TR.int)) v0 x0, own2 24 3 TR.int v12 V469 l468, imm (TR.sl TR.int) v573 y571, imm (TR.sl TR.int) v576 y540]) rfl ?_
      refine RL.mv rfl rfl rfl ?_
      obtain ⟨y577, e578, h565⟩ := bind_some h565
      refine RL.idxS (sz := 1) 3 Try.underlying24 Try_ln3 rfl rfl rfl rfl rfl SlOf.imm (idx_some e578).1 (idx_some e578).2.1 ?_
      refine RL.ldSx (i := i395) (e' := y577) 3 Ex.ik Try_ln3 rfl rfl rfl rfl SlOf.imm (idx_some e578).2.2 Part.self ?_
      refine RL.binI (v := .bool (decide (y574 ≥ y577))) rfl rfl rfl rfl rfl ?_
      refine RL.pickF rfl rfl rfl rfl ?_
      refine RL.finQ ?_
      cases h565
      exact fun a w st => mid_intro (decide (y574 ≥ y577)) h566 (St.cut [0, 1] ⟨rfl, rfl, rfl, rfl, rfl, rfl, rfl, rfl, rfl, rfl, trivial⟩ (by decide) rfl st)
     rintro x562 h579
     have h580 := h567 _ h579
     try dsimp only at h580
     refine GL.weak (env' := [(0, v0), (5, .int .i64 ((x0).length : Int)), (6, v12), (7, .int .i64 (i395 : Int)), (8, .int .i64 (i530 : Int)), (26, .int .i64 (((List.replicate (((x0).length : Int)).toNat ([] : (List Int)))).length : Int)), (27, .int .i64 (i395 : Int)), (35, .int .i64 ((x0).length : Int)), (36, .int .i64 (i530 : Int)), (58, .bool x562)]) (L' := [imm (TR.sl (TR.sl TR.int)) v0 x0, own2 24 3 TR.int v12 V469 l468]) (fun _ _ st => st) ?_
     refine GL.cond rfl (fun b581 => ?_) (fun b581 => ?_)
     ·replace h580 := ite_t b581 h580
      refine GL.region ?_
      refine RL.mv rfl rfl rfl ?_
      refine RL.mv rfl rfl rfl ?_
      obtain ⟨y586, e587, h580⟩ := bind_some h580
      refine RL.idxR 1 Try.underlying37 Try_ln24 rfl rfl rfl rfl rfl (idx_some e587).1 (idx_some e587).2.1 ?_
      refine RL.ldR (i := i395) (r := y586) 1 Try_ln24 rfl rfl rfl rfl (idx_some e587).2.2 ?_
      refine RL.mv rfl rfl rfl ?_
      obtain ⟨y588, e589, h580⟩ := bind_some h580
      refine RL.idxS (sz := 1) 1 Try.underlying24 Try_ln3 rfl rfl rfl rfl rfl (SlOf.row (idx_some e587).2.2) (idx_some e589).1 (idx_some e589).2.1 ?_
      refine RL.stR (i := i395) (j := i530) (row := y586) (e' := (1 : Int)) (e1 := (1 : Int)) (r := TR.int) 1 Try_ln3 rfl rfl rfl rfl VR.int rfl (idx_some e587).2.2 (idx_some e589).2.2 Upd.self ?_
      refine RL.finG ?_
      refine GL.nilB ?_
      refine GL.region ?_
      refine RL.binI (v := .int .i64 ((i530 + 1 : Nat) : Int)) rfl rfl rfl rfl (binI_succ i530 (by omega)) ?_
      refine RL.mv rfl rfl rfl ?_
      refine RL.fin ?_
      cases h580
      exact fun a w st => lop_intro (i530 + 1, r542, (List.set l468 i395 (List.set y586 i530 (1 : Int))), V469) ⟨by show i530 + 1 + r542.length = (x0).length; simp only [List.length_cons] at h536; omega, h543, h534⟩ (by simp) (St.cut [0, 1] ⟨rfl, rfl, rfl, rfl, rfl, rfl, rfl, rfl, trivial⟩ (by decide) rfl st)
     replace h580 := ite_f b581 h580
     refine GL.skip ?_
     refine GL.nilB ?_
     refine GL.region ?_
     refine RL.binI (v := .int .i64 ((i530 + 1 : Nat) : Int)) rfl rfl rfl rfl (binI_succ i530 (by omega)) ?_
     refine RL.mv rfl rfl rfl ?_
     refine RL.fin ?_
     cases h580
     exact fun a w st => lop_intro (i530 + 1, r542, l468, V469) ⟨by show i530 + 1 + r542.length = (x0).length; simp only [List.length_cons] at h536; omega, h543, h534⟩ (by simp) (St.cut [0, 1] ⟨rfl, rfl, rfl, rfl, rfl, rfl, rfl, rfl, trivial⟩ (by decide) rfl st)
    have h539 : ¬ i530 < (x0).length := by have := of_decide_eq_false b538; omega
    obtain rfl : r531 = [] := by rw [← h537]; exact List.drop_of_length_le (by omega)
    replace h535 : some (Fl.nx _) = some y523 := h535
    cases h535
    exact GL.exit (fun a w st => mid_intro (l468, V469) h526 (St.cut [0, 1] ⟨rfl, rfl, rfl, rfl, rfl, trivial⟩ (by decide) rfl st))
   rintro ⟨l468, V469⟩ h590
   have h591 := h527 _ h590
   try dsimp only at h591
   refine GL.weak (env' := [(0, v0), (5, .int .i64 ((x0).length : Int)), (6, v12), (26, .int .i64 (((List.replicate (((x0).length : Int)).toNat ([] : (List Int)))).length : Int)), (27, .int .i64 (i395 : Int))]) (L' := [imm (TR.sl (TR.sl TR.int)) v0 x0, own2 24 3 TR.int v12 V469 l468]) (fun _ _ st => st) ?_
   refine GL.nilB ?_
   refine GL.region ?_
   refine RL.binI (v := .int .i64 ((i395 + 1 : Nat) : Int)) rfl rfl rfl rfl (binI_succ i395 (by omega)) ?_
   refine RL.mv rfl rfl rfl ?_
   refine RL.fin ?_
   cases h591
   exact fun a w st => lop_intro (i395 + 1, r405, l468, V469) ⟨by show i395 + 1 + r405 = ((List.replicate (((x0).length : Int)).toNat ([] : (List Int)))).length; omega, h399⟩ (by simp) (St.cut [0, 1] ⟨rfl, rfl, rfl, rfl, rfl, trivial⟩ (by decide) rfl st)
  have h404 : ¬ i395 < ((List.replicate (((x0).length : Int)).toNat ([] : (List Int)))).length := by have := of_decide_eq_false b403; omega
  obtain rfl : r396 = 0 := by omega
  replace h400 : some (Fl.nx _) = some y388 := h400
  cases h400
  exact GL.exit (fun a w st => mid_intro (l199, V200) h391 (St.cut [1] ⟨rfl, rfl, trivial⟩ (by decide) rfl st))
 rintro ⟨l199, V200⟩ h592
 have h593 := h392 _ h592
 try dsimp only at h593
 refine GL.weak (env' := [(5, .int .i64 ((x0).length : Int)), (6, v12)]) (L' := [own2 24 3 TR.int v12 V200 l199]) (fun _ _ st => st) ?_
 refine GL.seq ?_
 refine GL.seq ?_
 refine GL.region ?_
 refine RL.mv rfl rfl rfl ?_
 refine RL.mv rfl rfl rfl ?_
 refine RL.finG ?_
 obtain ⟨y1625, e1626, h593⟩ := bind_some h593
 replace e1626 := chk_some e1626
 obtain ⟨y1627, K1628, h1629, h1630, h1631, h1632, h1633⟩ := bindR_K h593
 refine GL.join (ι := (List (List Int)) × (List Value)) (fun (p : (List (List Int)) × (List Value)) => [(5, .int .i64 ((x0).length : Int)), (6, v12)]) (fun (p : (List (List Int)) × (List Value)) => [own2 24 3 TR.int v12 p.2 p.1]) (fun (p : (List (List Int)) × (List Value)) => K1628 (.nx p.1)) ?_ ?_
 ·refine GL.block ?_
  refine GL.loop (ι := Nat × Nat × (List (List Int)) × (List Value)) (fun (p : Nat × Nat × (List (List Int)) × (List Value)) => [(5, .int .i64 ((x0).length : Int)), (6, v12), (67, .int .i64 ((x0).length : Int)), (68, .int .i64 (p.1 : Int))]) (fun (p : Nat × Nat × (List (List Int)) × (List Value)) => [own2 24 3 TR.int v12 p.2.2.2 p.2.2.1]) (fun (p : Nat × Nat × (List (List Int)) × (List Value)) => p.1 + p.2.1 = (((x0).length : Int)).toNat ∧ rangeN (duel_Top_b3 x0) p.2.1 p.1 p.2.2.1 = some y1627) (fun (p : Nat × Nat × (List (List Int)) × (List Value)) => p.2.1) (0, (((x0).length : Int)).toNat, l199, V200) ⟨by simp, h1629⟩ (fun a w st => St.cut [0] ⟨rfl, rfl, rfl, rfl, trivial⟩ (by decide) rfl st) ?_
  rintro ⟨i1634, r1635, l1108, V1109⟩ ⟨h1640, h1639⟩
  try dsimp only at h1640 h1639
  refine GL.weak (env' := [(5, .int .i64 ((x0).length : Int)), (6, v12), (67, .int .i64 ((x0).length : Int)), (68, .int .i64 (i1634 : Int))]) (L' := [own2 24 3 TR.int v12 V1109 l1108]) (fun _ _ st => st) ?_
  refine GL.seq ?_
  refine GL.region ?_
  refine RL.binI (v := .bool (decide ((i1634 : Int) < ((x0).length : Int)))) rfl rfl rfl rfl rfl ?_
  refine RL.finG ?_
  refine GL.seq ?_
  refine GL.cond rfl (fun b1642 => ?_) (fun b1642 => ?_)
  ·have h1643 : i1634 < (((x0).length : Int)).toNat := by have := of_decide_eq_true b1642; omega
   obtain ⟨r1644, hr⟩ : ∃ m, r1635 = m + 1 := ⟨r1635 - 1, by omega⟩
   subst hr
   obtain ⟨z1636, h1637, h1638⟩ := rangeN_some h1639
   unfold duel_Top_b3 at h1637
   try dsimp only at h1637
   refine GL.skip ?_
   refine GL.seq ?_
   refine GL.block ?_
   refine GL.seq ?_
   refine GL.region ?_
   refine RL.mv rfl rfl rfl ?_
   refine RL.asg rfl rfl rfl ?_
   refine RL.finG ?_
   refine GL.seq ?_
   refine GL.region ?_
   refine RL.mv rfl rfl rfl ?_
   refine RL.mv rfl rfl rfl ?_
   refine RL.finG ?_
   obtain ⟨y1974, e1975, h1637⟩ := bind_some h1637
   replace e1975 := chk_some e1975
   obtain ⟨y1976, K1977, h1978, h1979, h1980, h1981, h1982⟩ := bindF_K h1637
   refine GL.join (ι := (List (List Int)) × (List Value)) (fun (p : (List (List Int)) × (List Value)) => [(5, .int .i64 ((x0).length : Int)), (6, v12), (67, .int .i64 ((x0).length : Int)), (68, .int .i64 (i1634 : Int))]) (fun (p : (List (List Int)) × (List Value)) => [own2 24 3 TR.int v12 p.2 p.1]) (fun (p : (List (List Int)) × (List Value)) => K1977 (.nx p.1)) ?_ ?_
   ·refine GL.block ?_
    refine GL.loop (ι := Nat × Nat × (List (List Int)) × (List Value)) (fun (p : Nat × Nat × (List (List Int)) × (List Value)) => [(5, .int .i64 ((x0).length : Int)), (6, v12), (9, .int .i64 (i1634 : Int)), (67, .int .i64 ((x0).length : Int)), (68, .int .i64 (i1634 : Int)), (71, .int .i64 ((x0).length : Int)), (72, .int .i64 (p.1 : Int))]) (fun (p : Nat × Nat × (List (List Int)) × (List Value)) => [own2 24 3 TR.int v12 p.2.2.2 p.2.2.1]) (fun (p : Nat × Nat × (List (List Int)) × (List Value)) => p.1 + p.2.1 = (((x0).length : Int)).toNat ∧ rangeN (duel_Top_b4 x0 i1634) p.2.1 p.1 p.2.2.1 = some y1976) (fun (p : Nat × Nat × (List (List Int)) × (List Value)) => p.2.1) (0, (((x0).length : Int)).toNat, l1108, V1109) ⟨by simp, h1978⟩ (fun a w st => St.cut [0] ⟨rfl, rfl, rfl, rfl, rfl, rfl, rfl, trivial⟩ (by decide) rfl st) ?_
    rintro ⟨i1983, r1984, l1808, V1809⟩ ⟨h1989, h1988⟩
    try dsimp only at h1989 h1988
    refine GL.weak (env' := [(5, .int .i64 ((x0).length : Int)), (6, v12), (9, .int .i64 (i1634 : Int)), (67, .int .i64 ((x0).length : Int)), (68, .int .i64 (i1634 : Int)), (71, .int .i64 ((x0).length : Int)), (72, .int .i64 (i1983 : Int))]) (L' := [own2 24 3 TR.int v12 V1809 l1808]) (fun _ _ st => st) ?_
    refine GL.seq ?_
    refine GL.region ?_
    refine RL.binI (v := .bool (decide ((i1983 : Int) < ((x0).length : Int)))) rfl rfl rfl rfl rfl ?_
    refine RL.finG ?_
    refine GL.seq ?_
    refine GL.cond rfl (fun b1991 => ?_) (fun b1991 => ?_)
    ·have h1992 : i1983 < (((x0).length : Int)).toNat := by have := of_decide_eq_true b1991; omega
     obtain ⟨r1993, hr⟩ : ∃ m, r1984 = m + 1 := ⟨r1984 - 1, by omega⟩
     subst hr
     obtain ⟨z1985, h1986, h1987⟩ := rangeN_some h1988
     unfold duel_Top_b4 at h1986
     try dsimp only at h1986
     refine GL.skip ?_
     refine GL.seq ?_
     refine GL.block ?_
     refine GL.seq ?_
     refine GL.region ?_
     refine RL.mv rfl rfl rfl ?_
     refine RL.asg rfl rfl rfl ?_
     refine RL.finG ?_
     refine GL.seq ?_
     refine GL.region ?_
     refine RL.mv rfl rfl rfl ?_
     refine RL.mv rfl rfl rfl ?_
     refine RL.finG ?_
     obtain ⟨y2089, e2090, h1986⟩ := bind_some h1986
     replace e2090 := chk_some e2090
     obtain ⟨y2091, K2092, h2093, h2094, h2095, h2096, h2097⟩ := bindF_K h1986
     refine GL.join (ι := (List (List Int)) × (List Value)) (fun (p : (List (List Int)) × (List Value)) => [(5, .int .i64 ((x0).length : Int)), (6, v12), (9, .int .i64 (i1634 : Int)), (67, .int .i64 ((x0).length : Int)), (68, .int .i64 (i1634 : Int)), (71, .int .i64 ((x0).length : Int)), (72, .int .i64 (i1983 : Int))]) (fun (p : (List (List Int)) × (List Value)) => [own2 24 3 TR.int v12 p.2 p.1]) (fun (p : (List (List Int)) × (List Value)) => K2092 (.nx p.1)) ?_ ?_
     ·refine GL.block ?_
      refine GL.loop (ι := Nat × Nat × (List (List Int)) × (List Value)) (fun (p : Nat × Nat × (List (List Int)) × (List Value)) => [(5, .int .i64 ((x0).length : Int)), (6, v12), (9, .int .i64 (i1634 : Int)), (10, .int .i64 (i1983 : Int)), (67, .int .i64 ((x0).length : Int)), (68, .int .i64 (i1634 : Int)), (71, .int .i64 ((x0).length : Int)), (72, .int .i64 (i1983 : Int)), (75, .int .i64 ((x0).length : Int)), (76, .int .i64 (p.1 : Int))]) (fun (p : Nat × Nat × (List (List Int)) × (List Value)) => [own2 24 3 TR.int v12 p.2.2.2 p.2.2.1]) (fun (p : Nat × Nat × (List (List Int)) × (List Value)) => p.1 + p.2.1 = (((x0).length : Int)).toNat ∧ rangeN (duel_Top_b5 i1983 i1634) p.2.1 p.1 p.2.2.1 = some y2091) (fun (p : Nat × Nat × (List (List Int)) × (List Value)) => p.2.1) (0, (((x0).length : Int)).toNat, l1808, V1809) ⟨by simp, h2093⟩ (fun a w st => St.cut [0] ⟨rfl, rfl, rfl, rfl, rfl, rfl, rfl, rfl, rfl, rfl, trivial⟩ (by decide) rfl st) ?_
      rintro ⟨i2098, r2099, l2040, V2041⟩ ⟨h2104, h2103⟩
      try dsimp only at h2104 h2103
      refine GL.weak (env' := [(5, .int .i64 ((x0).length : Int)), (6, v12), (9, .int .i64 (i1634 : Int)), (10, .int .i64 (i1983 : Int)), (67, .int .i64 ((x0).length : Int)), (68, .int .i64 (i1634 : Int)), (71, .int .i64 ((x0).length : Int)), (72, .int .i64 (i1983 : Int)), (75, .int .i64 ((x0).length : Int)), (76, .int .i64 (i2098 : Int))]) (L' := [own2 24 3 TR.int v12 V2041 l2040]) (fun _ _ st => st) ?_
      refine GL.seq ?_
      refine GL.region ?_
      refine RL.binI (v := .bool (decide ((i2098 : Int) < ((x0).length : Int)))) rfl rfl rfl rfl rfl ?_
      refine RL.finG ?_
      refine GL.seq ?_
      refine GL.cond rfl (fun b2106 => ?_) (fun b2106 => ?_)
      ·have h2107 : i2098 < (((x0).length : Int)).toNat := by have := of_decide_eq_true b2106; omega
       obtain ⟨r2108, hr⟩ : ∃ m, r2099 = m + 1 := ⟨r2099 - 1, by omega⟩
       subst hr
       obtain ⟨z2100, h2101, h2102⟩ := rangeN_some h2103
       unfold duel_Top_b5 at h2101
       try dsimp only at h2101
       refine GL.skip ?_
       refine GL.seq ?_
       refine GL.block ?_
       refine GL.seq ?_
       refine GL.region ?_
       refine RL.mv rfl rfl rfl ?_
       refine RL.asg rfl rfl rfl ?_
       refine RL.finG ?_
       refine GL.seq ?_
       obtain ⟨y2128, K2129, h2130, h2131, h2132, h2133, h2134⟩ := bindF_K h2101
       refine GL.join (ι := Bool) (fun (p : Bool) => [(5, .int .i64 ((x0).length : Int)), (6, v12), (9, .int .i64 (i1634 : Int)), (10, .int .i64 (i1983 : Int)), (11, .int .i64 (i2098 : Int)), (67, .int .i64 ((x0).length : Int)), (68, .int .i64 (i1634 : Int)), (71, .int .i64 ((x0).length : Int)), (72, .int .i64 (i1983 : Int)), (75, .int .i64 ((x0).length : Int)), (76, .int .i64 (i2098 : Int)), (96, .bool p)]) (fun (p : Bool) => [own2 24 3 TR.int v12 V2041 l2040]) (fun (p : Bool) => K2129 (.nx p)) ?_ ?_
       ·skip
        refine GL.region ?_
        refine RL.mv rfl rfl rfl ?_
        refine RL.mv rfl rfl rfl ?_
        obtain ⟨y2135, e2136, h2130⟩ := bind_some h2130
        refine RL.idxR 0 Try.underlying37 Try_ln24 rfl rfl rfl rfl rfl (idx_some e2136).1 (idx_some e2136).2.1 ?_
        refine RL.ldR (i := i1983) (r := y2135) 0 Try_ln24 rfl rfl rfl rfl (idx_some e2136).2.2 ?_
        refine RL.mv rfl rfl rfl ?_
        obtain ⟨y2137, e2138, h2130⟩ := bind_some h2130
        refine RL.idxS (sz := 1) 0 Try.underlying24 Try_ln3 rfl rfl rfl rfl rfl (SlOf.row (idx_some e2136).2.2) (idx_some e2138).1 (idx_some e2138).2.1 ?_
        refine RL.ldSx (i := i1634) (e' := y2137) 0 Ex.ik Try_ln3 rfl rfl rfl rfl (SlOf.row (idx_some e2136).2.2) (idx_some e2138).2.2 Part.self ?_
        refine RL.binI (v := .bool (y2137 == (1 : Int))) rfl rfl rfl rfl rfl ?_
        refine RL.mv rfl rfl rfl ?_
        refine RL.split (t := 87) rfl (fun b2139 => ?_) (fun b2139 => ?_)
        ·replace h2130 := ite_t b2139 h2130
         refine RL.mv rfl rfl rfl ?_
         refine RL.mv rfl rfl rfl ?_
         obtain ⟨y2140, e2141, h2130⟩ := bind_some h2130
         refine RL.idxR 0 Try.underlying37 Try_ln24 rfl rfl rfl rfl rfl (idx_some e2141).1 (idx_some e2141).2.1 ?_
         refine RL.ldR (i := i1634) (r := y2140) 0 Try_ln24 rfl rfl rfl rfl (idx_some e2141).2.2 ?_
         refine RL.mv rfl rfl rfl ?_
         obtain ⟨y2142, e2143, h2130⟩ := bind_some h2130
         refine RL.idxS (sz := 1) 0 Try.underlying24 Try_ln3 rfl rfl rfl rfl rfl (SlOf.row (idx_some e2141).2.2) (idx_some e2143).1 (idx_some e2143).2.1 ?_
         refine RL.ldSx (i := i2098) (e' := y2142) 0 Ex.ik Try_ln3 rfl rfl rfl rfl (SlOf.row (idx_some e2141).2.2) (idx_some e2143).2.2 Part.self ?_
         refine RL.binI (v := .bool (y2142 == (1 : Int))) rfl rfl rfl rfl rfl ?_
         refine RL.pickT rfl rfl rfl rfl ?_
         refine RL.fin ?_
         cases h2130
         exact fun a w st => mid_intro (y2142 == (1 : Int)) h2131 (St.cut [0] ⟨rfl, rfl, rfl, rfl, rfl, rfl, rfl, rfl, rfl, rfl, rfl, rfl, trivial⟩ (by decide) rfl st)
        replace h2130 := ite_f b2139 h2130
        refine RL.skip rfl rfl ?_
        refine RL.skip rfl rfl ?_
        refine RL.skip rfl rfl ?_
        refine RL.skip rfl rfl ?_
        refine RL.skip rfl rfl ?_
        refine RL.skip rfl rfl ?_
        refine RL.skip rfl rfl ?_
        refine RL.skip rfl rfl ?_
        refine RL.pickF rfl rfl rfl rfl ?_
        refine RL.fin ?_
        cases h2130
        exact fun a w st => mid_intro false h2131 (St.cut [0] ⟨rfl, rfl, rfl, rfl, rfl, rfl, rfl, rfl, rfl, rfl, rfl, rfl, trivial⟩ (by decide) rfl st)
       rintro x2127 h2144
       have h2145 := h2132 _ h2144
       try dsimp only at h2145
       refine GL.weak (env' := [(5, .int .i64 ((x0).length : Int)), (6, v12), (9, .int .i64 (i1634 : Int)), (10, .int .i64 (i1983 : Int)), (11, .int .i64 (i2098 : Int)), (67, .int .i64 ((x0).length : Int)), (68, .int .i64 (i1634 : Int)), (71, .int .i64 ((x0).length : Int)), (72, .int .i64 (i1983 : Int)), (75, .int .i64 ((x0).length : Int)), (76, .int .i64 (i2098 : Int)), (96, .bool x2127)]) (L' := [own2 24 3 TR.int v12 V2041 l2040]) (fun _ _ st => st) ?_
       refine GL.cond rfl (fun b2146 => ?_) (fun b2146 => ?_)
       ·replace h2145 := ite_t b2146 h2145
        refine GL.region ?_
        refine RL.mv rfl rfl rfl ?_
        refine RL.mv rfl rfl rfl ?_
        obtain ⟨y2151, e2152, h2145⟩ := bind_some h2145
        refine RL.idxR 0 Try.underlying37 Try_ln24 rfl rfl rfl rfl rfl (idx_some e2152).1 (idx_some e2152).2.1 ?_
        refine RL.ldR (i := i1983) (r := y2151) 0 Try_ln24 rfl rfl rfl rfl (idx_some e2152).2.2 ?_
        refine RL.mv rfl rfl rfl ?_
        obtain ⟨y2153, e2154, h2145⟩ := bind_some h2145
        refine RL.idxS (sz := 1) 0 Try.underlying24 Try_ln3 rfl rfl rfl rfl rfl (SlOf.row (idx_some e2152).2.2) (idx_some e2154).1 (idx_some e2154).2.1 ?_
        refine RL.stR (i := i1983) (j := i2098) (row := y2151) (e' := (1 : Int)) (e1 := (1 : Int)) (r := TR.int) 0 Try_ln3 rfl rfl rfl rfl VR.int rfl (idx_some e2152).2.2 (idx_some e2154).2.2 Upd.self ?_
        refine RL.finG ?_
        refine GL.nilB ?_
        refine GL.region ?_
        refine RL.binI (v := .int .i64 ((i2098 + 1 : Nat) : Int)) rfl rfl rfl rfl (binI_succ i2098 (by omega)) ?_
        refine RL.mv rfl rfl rfl ?_
        refine RL.fin ?_
        cases h2145
        exact fun a w st => lop_intro (i2098 + 1, r2108, (List.set l2040 i1983 (List.set y2151 i2098 (1 : Int))), V2041) ⟨by show i2098 + 1 + r2108 = (((x0).length : Int)).toNat; omega, h2102⟩ (by simp) (St.cut [0] ⟨rfl, rfl, rfl, rfl, rfl, rfl, rfl, rfl, rfl, rfl, trivial⟩ (by decide) rfl st)
       replace h2145 := ite_f b2146 h2145
       refine GL.skip ?_
       refine GL.nilB ?_
       refine GL.region ?_
       refine RL.binI (v := .int .i64 ((i2098 + 1 : Nat) : Int)) rfl rfl rfl rfl (binI_succ i2098 (by omega)) ?_
       refine RL.mv rfl rfl rfl ?_
       refine RL.fin ?_
       cases h2145
       exact fun a w st => lop_intro (i2098 + 1, r2108, l2040, V2041) ⟨by show i2098 + 1 + r2108 = (((x0).length : Int)).toNat; omega, h2102⟩ (by simp) (St.cut [0] ⟨rfl, rfl, rfl, rfl, rfl, rfl, rfl, rfl, rfl, rfl, trivial⟩ (by decide) rfl st)
      have h2107 : ¬ i2098 < (((x0).length : Int)).toNat := by have := of_decide_eq_false b2106; omega
      obtain rfl : r2099 = 0 := by omega
      replace h2103 : some (Fl.nx _) = some y2091 := h2103
      cases h2103
      exact GL.exit (fun a w st => mid_intro (l2040, V2041) h2094 (St.cut [0] ⟨rfl, rfl, rfl, rfl, rfl, rfl, rfl, trivial⟩ (by decide) rfl st))
     rintro ⟨l2040, V2041⟩ h2155
     have h2156 := h2095 _ h2155
     try dsimp only at h2156
     refine GL.weak (env' := [(5, .int .i64 ((x0).length : Int)), (6, v12), (9, .int .i64 (i1634 : Int)), (67, .int .i64 ((x0).length : Int)), (68, .int .i64 (i1634 : Int)), (71, .int .i64 ((x0).length : Int)), (72, .int .i64 (i1983 : Int))]) (L' := [own2 24 3 TR.int v12 V2041 l2040]) (fun _ _ st => st) ?_
     refine GL.nilB ?_
     refine GL.region ?_
     refine RL.binI (v := .int .i64 ((i1983 + 1 : Nat) : Int)) rfl rfl rfl rfl (binI_succ i1983 (by omega)) ?_
     refine RL.mv rfl rfl rfl ?_
     refine RL.fin ?_
     cases h2156
     exact fun a w st => lop_intro (i1983 + 1, r1993, l2040, V2041) ⟨by show i1983 + 1 + r1993 = (((x0).length : Int)).toNat; omega, h1987⟩ (by simp) (St.cut [0] ⟨rfl, rfl, rfl, rfl, rfl, rfl, rfl, trivial⟩ (by decide) rfl st)
    have h1992 : ¬ i1983 < (((x0).length : Int)).toNat := by have := of_decide_eq_false b1991; omega
    obtain rfl : r1984 = 0 := by omega
    replace h1988 : some (Fl.nx _) = some y1976 := h1988
    cases h1988
    exact GL.exit (fun a w st => mid_intro (l1808, V1809) h1979 (St.cut [0] ⟨rfl, rfl, rfl, rfl, trivial⟩ (by decide) rfl st))
   rintro ⟨l1808, V1809⟩ h2157
   have h2158 := h1980 _ h2157
   try dsimp only at h2158
   refine GL.weak (env' := [(5, .int .i64 ((x0).length : Int)), (6, v12), (67, .int .i64 ((x0).length : Int)), (68, .int .i64 (i1634 : Int))]) (L' := [own2 24 3 TR.int v12 V1809 l1808]) (fun _ _ st => st) ?_
   refine GL.nilB ?_
   refine GL.region ?_
   refine RL.binI (v := .int .i64 ((i1634 + 1 : Nat) : Int)) rfl rfl rfl rfl (binI_succ i1634 (by omega)) ?_
   refine RL.mv rfl rfl rfl ?_
   refine RL.fin ?_
   cases h2158
   exact fun a w st => lop_intro (i1634 + 1, r1644, l1808, V1809) ⟨by show i1634 + 1 + r1644 = (((x0).length : Int)).toNat; omega, h1638⟩ (by simp) (St.cut [0] ⟨rfl, rfl, rfl, rfl, trivial⟩ (by decide) rfl st)
  have h1643 : ¬ i1634 < (((x0).length : Int)).toNat := by have := of_decide_eq_false b1642; omega
  obtain rfl : r1635 = 0 := by omega
  replace h1639 : some (Fl.nx _) = some y1627 := h1639
  cases h1639
  exact GL.exit (fun a w st => mid_intro (l1108, V1109) h1630 (St.cut [0] ⟨rfl, rfl, trivial⟩ (by decide) rfl st))
 rintro ⟨l1108, V1109⟩ h2159
 have h2160 := h1631 _ h2159
 try dsimp only at h2160
 refine GL.weak (env' := [(5, .int .i64 ((x0).length : Int)), (6, v12)]) (L' := [own2 24 3 TR.int v12 V1109 l1108]) (fun _ _ st => st) ?_
 refine GL.seq ?_
 refine GL.region ?_
 refine RL.asg rfl rfl rfl ?_
 refine RL.finG ?_
 refine GL.seq ?_
 refine GL.seq ?_
 refine GL.region ?_
 refine RL.mv rfl rfl rfl ?_
 refine RL.mv rfl rfl rfl ?_
 refine RL.finG ?_
 refine GL.weak (fun a w st => st.nilOwn 3 TR.int) ?_
 obtain ⟨y2213, e2214, h2160⟩ := bind_some h2160
 replace e2214 := chk_some e2214
 obtain ⟨y2215, K2216, h2217, h2218, h2219, h2220, h2221⟩ := bindR_K h2160
 refine GL.join (ι := (List Int) × Value) (fun (p : (List Int) × Value) => [(12, p.2)]) (fun (p : (List Int) × Value) => [own 3 TR.int p.2 p.1]) (fun (p : (List Int) × Value) => K2216 (.nx p.1)) ?_ ?_
 ·refine GL.block ?_
  refine GL.loop (ι := Nat × Nat × (List Int) × Value) (fun (p : Nat × Nat × (List Int) × Value) => [(5, .int .i64 ((x0).length : Int)), (6, v12), (12, p.2.2.2), (106, .int .i64 ((x0).length : Int)), (107, .int .i64 (p.1 : Int))]) (fun (p : Nat × Nat × (List Int) × Value) => [own2 24 3 TR.int v12 V1109 l1108, own 3 TR.int p.2.2.2 p.2.2.1]) (fun (p : Nat × Nat × (List Int) × Value) => p.1 + p.2.1 = (((x0).length : Int)).toNat ∧ rangeN (duel_Top_b6 x0 l1108) p.2.1 p.1 p.2.2.1 = some y2215) (fun (p : Nat × Nat × (List Int) × Value) => p.2.1) (0, (((x0).length : Int)).toNat, [], Value.slice none 0 0) ⟨by simp, h2217⟩ (fun a w st => St.cut [0, 1] ⟨rfl, rfl, rfl, rfl, rfl, trivial⟩ (by decide) rfl st) ?_
  rintro ⟨i2222, r2223, l2161, v2162⟩ ⟨h2228, h2227⟩
  try dsimp only at h2228 h2227
  refine GL.weak (env' := [(5, .int .i64 ((x0).length : Int)), (6, v12), (12, v2162), (106, .int .i64 ((x0).length : Int)), (107, .int .i64 (i2222 : Int))]) (L' := [own2 24 3 TR.int v12 V1109 l1108, own 3 TR.int v2162 l2161]) (fun _ _ st => st) ?_
  refine GL.seq ?_
  refine GL.region ?_
  refine RL.binI (v := .bool (decide ((i2222 : Int) < ((x0).length : Int)))) rfl rfl rfl rfl rfl ?_
  refine RL.finG ?_
  refine GL.seq ?_
  refine GL.cond rfl (fun b2230 => ?_) (fun b2230 => ?_)
  ·have h2231 : i2222 < (((x0).length : Int)).toNat := by have := of_decide_eq_true b2230; omega
   obtain ⟨r2232, hr⟩ : ∃ m, r2223 = m + 1 := ⟨r2223 - 1, by omega⟩
   subst hr
   obtain ⟨z2224, h2225, h2226⟩ := rangeN_some h2227
   unfold duel_Top_b6 at h2225
   try dsimp only at h2225
   refine GL.skip ?_
   refine GL.seq ?_
   refine GL.block ?_
   refine GL.seq ?_
   refine GL.region ?_
   refine RL.mv rfl rfl rfl ?_
   refine RL.asg rfl rfl rfl ?_
   refine RL.finG ?_
   refine GL.seq ?_
   refine GL.region ?_
   refine RL.asg rfl rfl rfl ?_
   refine RL.finG ?_
   refine GL.seq ?_
   refine GL.seq ?_
   refine GL.region ?_
   refine RL.mv rfl rfl rfl ?_
   refine RL.mv rfl rfl rfl ?_
   refine RL.finG ?_
   obtain ⟨y2243, e2244, h2225⟩ := bind_some h2225
   replace e2244 := chk_some e2244
   obtain ⟨y2245, K2246, h2247, h2248, h2249, h2250, h2251⟩ := bindF_K h2225
   refine GL.join (ι := Int) (fun (p : Int) => [(5, .int .i64 ((x0).length : Int)), (6, v12), (12, v2162), (13, .int .i64 (i2222 : Int)), (14, .int .i64 p), (106, .int .i64 ((x0).length : Int)), (107, .int .i64 (i2222 : Int))]) (fun (p : Int) => [own2 24 3 TR.int v12 V1109 l1108, own 3 TR.int v2162 l2161]) (fun (p : Int) => K2246 (.nx p)) ?_ ?_
   ·refine GL.block ?_
    refine GL.loop (ι := Nat × Nat × Int) (fun (p : Nat × Nat × Int) => [(5, .int .i64 ((x0).length : Int)), (6, v12), (12, v2162), (13, .int .i64 (i2222 : Int)), (14, .int .i64 p.2.2), (106, .int .i64 ((x0).length : Int)), (107, .int .i64 (i2222 : Int)), (110, .int .i64 ((x0).length : Int)), (111, .int .i64 (p.1 : Int))]) (fun (p : Nat × Nat × Int) => [own2 24 3 TR.int v12 V1109 l1108, own 3 TR.int v2162 l2161]) (fun (p : Nat × Nat × Int) => p.1 + p.2.1 = (((x0).length : Int)).toNat ∧ rangeN (duel_Top_b7 l1108 i2222) p.2.1 p.1 p.2.2 = some y2245) (fun (p : Nat × Nat × Int) => p.2.1) (0, (((x0).length : Int)).toNat, (0 : Int)) ⟨by simp, h2247⟩ (fun a w st => St.cut [0, 1] ⟨rfl, rfl, rfl, rfl, rfl, rfl, rfl, rfl, rfl, trivial⟩ (by decide) rfl st) ?_
    rintro ⟨i2252, r2253, x2233⟩ ⟨h2258, h2257⟩
    try dsimp only at h2258 h2257
    refine GL.weak (env' := [(5, .int .i64 ((x0).length : Int)), (6, v12), (12, v2162), (13, .int .i64 (i2222 : Int)), (14, .int .i64 x2233), (106, .int .i64 ((x0).length : Int)), (107, .int .i64 (i2222 : Int)), (110, .int .i64 ((x0).length : Int)), (111, .int .i64 (i2252 : Int))]) (L' := [own2 24 3 TR.int v12 V1109 l1108, own 3 TR.int v2162 l2161]) (fun _ _ st => st) ?_
    refine GL.seq ?_
    refine GL.region ?_
    refine RL.binI (v := .bool (decide ((i2252 : Int) < ((x0).length : Int)))) rfl rfl rfl rfl rfl ?_
    refine RL.finG ?_
    refine GL.seq ?_
    refine GL.cond rfl (fun b2260 => ?_) (fun b2260 => ?_)
    ·have h2261 : i2252 < (((x0).length : Int)).toNat := by have := of_decide_eq_true b2260; omega
     obtain ⟨r2262, hr⟩ : ∃ m, r2253 = m + 1 := ⟨r2253 - 1, by omega⟩
     subst hr
     obtain ⟨z2254, h2255, h2256⟩ := rangeN_some h2257
     unfold duel_Top_b7 at h2255
     try dsimp only at h2255
     refine GL.skip ?_
     refine GL.seq ?_
     refine GL.block ?_
     refine GL.seq ?_
     refine GL.region ?_
     refine RL.mv rfl rfl rfl ?_
     refine RL.asg rfl rfl rfl ?_
     refine RL.finG ?_
     refine GL.region ?_
     refine RL.mv rfl rfl rfl ?_
     refine RL.mv rfl rfl rfl ?_
     refine RL.mv rfl rfl rfl ?_
     obtain ⟨y2267, e2268, h2255⟩ := bind_some h2255
     refine RL.idxR 0 Try.underlying37 Try_ln24 rfl rfl rfl rfl rfl (idx_some e2268).1 (idx_some e2268).2.1 ?_
     refine RL.ldR (i := i2222) (r := y2267) 0 Try_ln24 rfl rfl rfl rfl (idx_some e2268).2.2 ?_
     refine RL.mv rfl rfl rfl ?_
     obtain ⟨y2269, e2270, h2255⟩ := bind_some h2255
     refine RL.idxS (sz := 1) 0 Try.underlying24 Try_ln3 rfl rfl rfl rfl rfl (SlOf.row (idx_some e2268).2.2) (idx_some e2270).1 (idx_some e2270).2.1 ?_
     refine RL.ldSx (i := i2252) (e' := y2269) 0 Ex.ik Try_ln3 rfl rfl rfl rfl (SlOf.row (idx_some e2268).2.2) (idx_some e2270).2.2 Part.self ?_
     refine RL.binI (v := .int .i64 (wadd x2233 y2269)) rfl rfl rfl rfl rfl ?_
     refine RL.asg rfl rfl rfl ?_
     refine RL.finG ?_
     refine GL.nilB ?_
     refine GL.region ?_
     refine RL.binI (v := .int .i64 ((i2252 + 1 : Nat) : Int)) rfl rfl rfl rfl (binI_succ i2252 (by omega)) ?_
     refine RL.mv rfl rfl rfl ?_
     refine RL.fin ?_
     cases h2255
     exact fun a w st => lop_intro (i2252 + 1, r2262, wadd x2233 y2269) ⟨by show i2252 + 1 + r2262 = (((x0).length : Int)).toNat; omega, h2256⟩ (by simp) (St.cut [0, 1] ⟨rfl, rfl, rfl, rfl, rfl, rfl, rfl, rfl, rfl, trivial⟩ (by decide) rfl st)
    have h2261 : ¬ i2252 < (((x0).length : Int)).toNat := by have := of_decide_eq_false b2260; omega
    obtain rfl : r2253 = 0 := by omega
    replace h2257 : some (Fl.nx _) = some y2245 := h2257
    cases h2257
    exact GL.exit (fun a w st => mid_intro x2233 h2248 (St.cut [0, 1] ⟨rfl, rfl, rfl, rfl, rfl, rfl, rfl, trivial⟩ (by decide) rfl st))
   rintro x2233 h2271
   have h2272 := h2249 _ h2271
   try dsimp only at h2272
   refine GL.weak (env' := [(5, .int .i64 ((x0).length : Int)), (6, v12), (12, v2162), (13, .int .i64 (i2222 : Int)), (14, .int .i64 x2233), (106, .int .i64 ((x0).length : Int)), (107, .int .i64 (i2222 : Int))]) (L' := [own2 24 3 TR.int v12 V1109 l1108, own 3 TR.int v2162 l2161]) (fun _ _ st => st) ?_
   refine GL.seq ?_
   refine GL.region ?_
   refine RL.mv rfl rfl rfl ?_
   refine RL.mv rfl rfl rfl ?_
   refine RL.binI (v := .bool (x2233 == ((x0).length : Int))) rfl rfl rfl rfl rfl ?_
   refine RL.finG ?_
   refine GL.cond rfl (fun b2273 => ?_) (fun b2273 => ?_)
   ·replace h2272 := ite_t b2273 h2272
    refine GL.region ?_
    refine RL.mv rfl rfl rfl ?_
    refine RL.mv rfl rfl rfl ?_
    refine RL.bS (t := TR.int) (vs := [.int .i64 (i2222 : Int)]) ([(i2222 : Int)] : (List Int)) Try.underlying24 Try_lo3 rfl rfl rfl rfl ⟨VR.int, trivial⟩ rfl (by decide) ?_
    intro v2278
    obtain ⟨y2279, e2280, h2272⟩ := bind_some h2272
    replace e2280 := chk_some e2280
    refine RL.app 1 2 Try.underlying24 Try_lo3 rfl rfl rfl rfl rfl rfl rfl SlOf.own e2280 ?_
    intro v2281
    refine RL.reL (L' := [own2 24 3 TR.int v12 V1109 l1108, own 3 TR.int v2281 (l2161 ++ ([(i2222 : Int)] : (List Int))), own 3 TR.int v2278 ([(i2222 : Int)] : (List Int))]) rfl ?_
    refine RL.asg rfl rfl rfl ?_
    refine RL.finG ?_
    refine GL.nilB ?_
    refine GL.region ?_
    refine RL.binI (v := .int .i64 ((i2222 + 1 : Nat) : Int)) rfl rfl rfl rfl (binI_succ i2222 (by omega)) ?_
    refine RL.mv rfl rfl rfl ?_
    refine RL.fin ?_
    cases h2272
    exact fun a w st => lop_intro (i2222 + 1, r2232, (l2161 ++ ([(i2222 : Int)] : (List Int))), v2281) ⟨by show i2222 + 1 + r2232 = (((x0).length : Int)).toNat; omega, h2226⟩ (by simp) (St.cut [0, 1] ⟨rfl, rfl, rfl, rfl, rfl, trivial⟩ (by decide) rfl st)
   replace h2272 := ite_f b2273 h2272
   refine GL.skip ?_
   refine GL.nilB ?_
   refine GL.region ?_
   refine RL.binI (v := .int .i64 ((i2222 + 1 : Nat) : Int)) rfl rfl rfl rfl (binI_succ i2222 (by omega)) ?_
   refine RL.mv rfl rfl rfl ?_
   refine RL.fin ?_
   cases h2272
   exact fun a w st => lop_intro (i2222 + 1, r2232, l2161, v2162) ⟨by show i2222 + 1 + r2232 = (((x0).length : Int)).toNat; omega, h2226⟩ (by simp) (St.cut [0, 1] ⟨rfl, rfl, rfl, rfl, rfl, trivial⟩ (by decide) rfl st)
  have h2231 : ¬ i2222 < (((x0).length : Int)).toNat := by have := of_decide_eq_false b2230; omega
  obtain rfl : r2223 = 0 := by omega
  replace h2227 : some (Fl.nx _) = some y2215 := h2227
  cases h2227
  exact GL.exit (fun a w st => mid_intro (l2161, v2162) h2218 (St.cut [1] ⟨rfl, trivial⟩ (by decide) rfl st))
 rintro ⟨l2161, v2162⟩ h2282
 have h2283 := h2219 _ h2282
 try dsimp only at h2283
 refine GL.weak (env' := [(12, v2162)]) (L' := [own 3 TR.int v2162 l2161]) (fun _ _ st => st) ?_
 refine GL.seq ?_
 refine GL.region ?_
 refine RL.mv rfl rfl rfl ?_
 refine RL.asg rfl rfl rfl ?_
 refine RL.asg rfl rfl rfl ?_
 refine RL.finG ?_
 have h2283 := Option.some.inj h2283
 subst h2283
 exact GL.ret (Gx.ret (v := .tuple #[v2162, .int .i64 (0 : Int)]) (res2 rfl rfl rfl) (fun a w st => (st.pick [0] (by decide) rfl).toPost v2162))

set_option maxHeartbeats 4000000 in
theorem duel_Wins_c (S : Hp) (w : World) (hS : S.sub w) (v0 : Value) (x0 : (List (List Int))) (k0 : ((TR.sl (TR.sl TR.int))).vrep S v0 x0) (res : (List Int) × Int) (hm : duel_Wins_m x0 = some res) : Calls Try.prog 102 #[v0] w (Post w S (fun (o : Value) => .tuple #[o, .int .i64 res.2]) (fun (o : Value) => [own 3 TR.int o res.1])) := by
 refine calls_enter 73 Try.func102 Try.ntmps102 rfl S false [(0, v0)] [imm (TR.sl (TR.sl TR.int)) v0 x0] rfl ⟨rfl, trivial⟩ hS ⟨k0, trivial⟩ ?_
 unfold duel_Wins_m at hm
 refine GL.seq ?_
 refine GL.region ?_
 refine RL.asg rfl rfl rfl ?_
 refine RL.asg rfl rfl rfl ?_
 refine RL.finG ?_
 refine GL.seq ?_
 refine GL.seq ?_
 refine GL.region ?_
 refine RL.mv rfl rfl rfl ?_
 obtain ⟨y4, e5, hm⟩ := bind_some hm
 refine RL.callC (v := .int .i64 y4) (vs := [v0]) Try_fit127 rfl rfl rfl rfl (fun U w hU hW hL => duel_Check_c U w hU _ _ (hL 0 _ _ rfl Seen.imm) _ e5) ?_
 refine RL.asg rfl rfl rfl ?_
 refine RL.finG ?_
 refine GL.seq ?_
 refine GL.region ?_
 refine RL.mv rfl rfl rfl ?_
 refine RL.binI (v := .bool (y4 != (0 : Int))) rfl rfl rfl rfl rfl ?_
 refine RL.finG ?_
 refine GL.cond rfl (fun b6 => ?_) (fun b6 => ?_)
 ·replace hm := ite_t b6 hm
  refine GL.seq ?_
  refine GL.region ?_
  refine RL.mv rfl rfl rfl ?_
  refine RL.asg rfl rfl rfl ?_
  refine RL.asg rfl rfl rfl ?_
  refine RL.finG ?_
  refine GL.weak (fun a w st => st.nilOwn 3 TR.int) ?_
  have hm := Option.some.inj hm
  subst hm
  exact GL.ret (Gx.ret (v := .tuple #[Value.slice none 0 0, .int .i64 y4]) (res2 rfl rfl rfl) (fun a w st => (st.pick [1] (by decide) rfl).toPost (Value.slice none 0 0)))
 replace hm := ite_f b6 hm
 refine GL.skip ?_
 refine GL.seq ?_
 refine GL.region ?_
 refine RL.mv rfl rfl rfl ?_
 refine RL.lenS 0 Try.underlying37 rfl rfl rfl rfl SlOf.imm ?_
 obtain ⟨y10, e11, hm⟩ := bind_some hm
 replace e11 := chk_some e11
 refine RL.mkS (t := TR.int) (z := (0 : Int)) Try.underlying24 Try_lo3 (fun S => rfl) rfl rfl rfl rfl e11.1 e11.2 ?_
 intro v12
 refine RL.asg rfl rfl rfl ?_
 refine RL.finG ?_
 refine GL.seq ?_
 refine GL.seq ?_
 refine GL.region ?_
 refine RL.mv rfl rfl rfl ?_
 refine RL.lenS 0 Try.underlying37 rfl rfl rfl rfl SlOf.imm ?_
 refine RL.mv rfl rfl rfl ?_
 refine RL.finG ?_
 refine GL.open_ 0 rfl (fun S h => len_imm S h) (fun n396 => ?_)
 obtain ⟨y397, K398, h399, h400, h401, h402, h403⟩ := bindR_K hm
 refine GL.join (ι := (List Int)) (fun (p : (List Int)) => [(5, v12)]) (fun (p : (List Int)) => [own 3 TR.int v12 p]) (fun (p : (List Int)) => K398 (.nx p)) ?_ ?_
 ·refine GL.block ?_
  refine GL.loop (ι := Nat × (List (List Int)) × (List Int)) (fun (p : Nat × (List (List Int)) × (List Int)) => [(0, v0), (5, v12), (17, .int .i64 ((x0).length : Int)), (18, .int .i64 (p.1 : Int))]) (fun (p : Nat × (List (List Int)) × (List Int)) => [imm (TR.sl (TR.sl TR.int)) v0 x0, own 3 TR.int v12 p.2.2]) (fun (p : Nat × (List (List Int)) × (List Int)) => p.1 + p.2.1.length = (x0).length ∧ List.drop p.1 x0 = p.2.1 ∧ rangeL (duel_Wins_b1 x0) p.2.1 p.1 p.2.2 = some y397) (fun (p : Nat × (List (List Int)) × (List Int)) => p.2.1.length) (0, x0, (List.replicate (((x0).length : Int)).toNat (0 : Int))) ⟨by simp, by simp, h399⟩ (fun a w st => St.cut [0, 1] ⟨rfl, rfl, rfl, rfl, trivial⟩ (by decide) rfl st) ?_
  rintro ⟨i404, r405, l204⟩ ⟨h410, h411, h409⟩
  try dsimp only at h410 h411 h409
  refine GL.weak (env' := [(0, v0), (5, v12), (17, .int .i64 ((x0).length : Int)), (18, .int .i64 (i404 : Int))]) (L' := [imm (TR.sl (TR.sl TR.int)) v0 x0, own 3 TR.int v12 l204]) (fun _ _ st => st) ?_
  refine GL.seq ?_
  refine GL.region ?_
  refine RL.binI (v := .bool (decide ((i404 : Int) < ((x0).length : Int)))) rfl rfl rfl rfl rfl ?_
  refine RL.finG ?_
  refine GL.seq ?_
  refine GL.cond rfl (fun b412 => ?_) (fun b412 => ?_)
  ·have h413 : i404 < (x0).length := by have := of_decide_eq_true b412; omega
   obtain ⟨y414, r416, hr, e415, h417⟩ := drop_cons h411 rfl h413
   subst hr
   obtain ⟨z406, h407, h408⟩ := rangeL_some h409
   unfold duel_Wins_b1 at h407
   try dsimp only at h407
   refine GL.skip ?_
   refine GL.seq ?_
   refine GL.block ?_
   refine GL.seq ?_
   refine GL.region ?_
   refine RL.mv rfl rfl rfl ?_
   refine RL.asg rfl rfl rfl ?_
   refine RL.finG ?_
   refine GL.seq ?_
   refine GL.region ?_
   refine RL.mv rfl rfl rfl ?_
   refine RL.lenS 0 Try.underlying37 rfl rfl rfl rfl SlOf.imm ?_
   refine RL.mv rfl rfl rfl ?_
   refine RL.finG ?_
   refine GL.open_ 0 rfl (fun S h => len_imm S h) (fun n519 => ?_)
   obtain ⟨y520, K521, h522, h523, h524, h525, h526⟩ := bindF_K h407
   refine GL.join (ι := (List Int)) (fun (p : (List Int)) => [(0, v0), (5, v12), (17, .int .i64 ((x0).length : Int)), (18, .int .i64 (i404 : Int))]) (fun (p : (List Int)) => [imm (TR.sl (TR.sl TR.int)) v0 x0, own 3 TR.int v12 p]) (fun (p : (List Int)) => K521 (.nx p)) ?_ ?_
   ·refine GL.block ?_
    refine GL.loop (ι := Nat × (List (List Int)) × (List Int)) (fun (p : Nat × (List (List Int)) × (List Int)) => [(0, v0), (5, v12), (6, .int .i64 (i404 : Int)), (17, .int .i64 ((x0).length : Int)), (18, .int .i64 (i404 : Int)), (22, .int .i64 ((x0).length : Int)), (23, .int .i64 (p.1 : Int))]) (fun (p : Nat × (List (List Int)) × (List Int)) => [imm (TR.sl (TR.sl TR.int)) v0 x0, own 3 TR.int v12 p.2.2]) (fun (p : Nat × (List (List Int)) × (List Int)) => p.1 + p.2.1.length = (x0).length ∧ List.drop p.1 x0 = p.2.1 ∧ rangeL (duel_Wins_b2 y414 i404) p.2.1 p.1 p.2.2 = some y520) (fun (p : Nat × (List (List Int)) × (List Int)) => p.2.1.length) (0, x0, l204) ⟨by simp, by simp, h522⟩ (fun a w st => St.cut [0, 1] ⟨rfl, rfl, rfl, rfl, rfl, rfl, rfl, trivial⟩ (by decide) rfl st) ?_
    rintro ⟨i527, r528, l468⟩ ⟨h533, h534, h532⟩
    try dsimp only at h533 h534 h532
    refine GL.weak (env' := [(0, v0), (5, v12), (6, .int .i64 (i404 : Int)), (17, .int .i64 ((x0).length : Int)), (18, .int .i64 (i404 : Int)), (22, .int .i64 ((x0).length : Int)), (23, .int .i64 (i527 : Int))]) (L' := [imm (TR.sl (TR.sl TR.int)) v0 x0, own 3 TR.int v12 l468]) (fun _ _ st => st) ?_
    refine GL.seq ?_
    refine GL.region ?_
    refine RL.binI (v := .bool (decide ((i527 : Int) < ((x0).length : Int)))) rfl rfl rfl rfl rfl ?_
    refine RL.finG ?_
    refine GL.seq ?_
    refine GL.cond rfl (fun b535 => ?_) (fun b535 => ?_)
    ·have h536 : i527 < (x0).length := by have := of_decide_eq_true b535; omega
     obtain ⟨y537, r539, hr, e538, h540⟩ := drop_cons h534 rfl h536
     subst hr
     obtain ⟨z529, h530, h531⟩ := rangeL_some h532
     unfold duel_Wins_b2 at h530
     try dsimp only at h530
     refine GL.skip ?_
     refine GL.seq ?_
     refine GL.block ?_
     refine GL.seq ?_
     refine GL.region ?_
     refine RL.mv rfl rfl rfl ?_
     refine RL.asg rfl rfl rfl ?_
     refine RL.finG ?_
     refine GL.block ?_
     refine GL.seq ?_
     refine GL.regionQ rfl rfl (by kernel_rfl) ?_
     refine RL.mv rfl rfl rfl ?_
     refine RL.mv rfl rfl rfl ?_
     refine RL.idxS (sz := 1) 0 Try.underlying37 Try_ln24 rfl rfl rfl rfl rfl SlOf.imm (by omega) (by omega) ?_
     refine RL.ldS (i := i404) (r := (TR.sl TR.int)) (e' := y414) 0 Try_ln24 rfl rfl rfl rfl SlOf.imm e415 Part.self ?_
     intro v547
     refine RL.mv rfl rfl rfl ?_
     obtain ⟨y548, e549, h530⟩ := bind_some h530
     refine RL.idxS (sz := 1) 2 Try.underlying24 Try_ln3 rfl rfl rfl rfl rfl SlOf.imm (idx_some e549).1 (idx_some e549).2.1 ?_
     refine RL.ldSx (i := i527) (e' := y548) 2 Ex.ik Try_ln3 rfl rfl rfl rfl SlOf.imm (idx_some e549).2.2 Part.self ?_
     refine RL.mv rfl rfl rfl ?_
     refine RL.mv rfl rfl rfl ?_
     refine RL.idxS (sz := 1) 0 Try.underlying37 Try_ln24 rfl rfl rfl rfl rfl SlOf.imm (by omega) (by omega) ?_
     refine RL.ldS (i := i527) (r := (TR.sl TR.int)) (e' := y537) 0 Try_ln24 rfl rfl rfl rfl SlOf.imm e538 Part.self ?_
     intro v550
     refine RL.reL (L' := [imm (TR.sl (TR.sl TR.int)) v0 x0, own 3 TR.int v12 l468, imm (TR.sl TR.int) v547 y414, imm (TR.sl TR.int) v550 y537]) rfl ?_
     refine RL.mv rfl rfl rfl ?_
     obtain ⟨y551, e552, h530⟩ := bind_some h530
     refine RL.idxS (sz := 1) 3 Try.underlying24 Try_ln3 rfl rfl rfl rfl rfl SlOf.imm (idx_some e552).1 (idx_some e552).2.1 ?_
     refine RL.ldSx (i := i404) (e' := y551) 3 Ex.ik Try_ln3 rfl rfl rfl rfl SlOf.imm (idx_some e552).2.2 Part.self ?_
     refine RL.binI (v := .bool (decide (y548 > y551))) rfl rfl rfl rfl rfl ?_
     refine RL.asg rfl rfl rfl ?_
     refine RL.finQG ?_
     refine GL.cond rfl (fun b553 => ?_) (fun b553 => ?_)
     ·replace h530 := ite_t b553 h530
      refine GL.region ?_
      refine RL.mv rfl rfl rfl ?_
      refine RL.mv rfl rfl rfl ?_
      obtain ⟨y558, e559, h530⟩ := bind_some h530
      refine RL.idxS (sz := 1) 1 Try.underlying24 Try_ln3 rfl rfl rfl rfl rfl SlOf.own (idx_some e559).1 (idx_some e559).2.1 ?_
      refine RL.ldSx (i := i404) (e' := y558) 1 Ex.ik Try_ln3 rfl rfl rfl rfl SlOf.own (idx_some e559).2.2 Part.self ?_
      refine RL.binI (v := .int .i64 (wadd y558 (1 : Int))) rfl rfl rfl rfl rfl ?_
      obtain ⟨y560, e561, h530⟩ := bind_some h530
      refine RL.idxS (sz := 1) 1 Try.underlying24 Try_ln3 rfl rfl rfl rfl rfl SlOf.own (idx_some e561).1 (idx_some e561).2.1 ?_
      refine RL.stS (i := i404) (e' := wadd y558 (1 : Int)) (e1 := wadd y558 (1 : Int)) (r := TR.int) 1 Try_ln3 rfl rfl rfl rfl VR.int rfl (idx_some e561).2.2 Upd.self ?_
      refine RL.finG ?_
      refine GL.nilB ?_
      refine GL.nilB ?_
      refine GL.region ?_
      refine RL.binI (v := .int .i64 ((i527 + 1 : Nat) : Int)) rfl rfl rfl rfl (binI_succ i527 (by omega)) ?_
      refine RL.mv rfl rfl rfl ?_
      refine RL.fin ?_
      cases h530
      exact fun a w st => lop_intro (i527 + 1, r539, (List.set l468 i404 (wadd y558 (1 : Int)))) ⟨by show i527 + 1 + r539.length = (x0).length; simp only [List.length_cons] at h533; omega, h540, h531⟩ (by simp) (St.cut [0, 1] ⟨rfl, rfl, rfl, rfl, rfl, rfl, rfl, trivial⟩ (by decide) rfl st)
     replace h530 := ite_f b553 h530
     refine GL.seq ?_
     refine GL.regionQ rfl rfl (by kernel_rfl) ?_
     refine RL.mv rfl rfl rfl ?_
     refine RL.mv rfl rfl rfl ?_
     refine RL.idxS (sz := 1) 0 Try.underlying37 Try_ln24 rfl rfl rfl rfl rfl SlOf.imm (by omega) (by omega) ?_
     refine RL.ldS (i := i404) (r := (TR.sl TR.int)) (e' := y414) 0 Try_ln24 rfl rfl rfl rfl SlOf.imm e415 Part.self ?_
     intro v568
     refine RL.mv rfl rfl rfl ?_
     obtain ⟨y569, e570, h530⟩ := bind_some h530
     refine RL.idxS (sz := 1) 4 Try.underlying24 Try_ln3 rfl rfl rfl rfl rfl SlOf.imm (idx_some e570).1 (idx_some e570).2.1 ?_
     refine RL.ldSx (i := i527) (e' := y569) 4 Ex.ik Try_ln3 rfl rfl rfl rfl SlOf.imm (idx_some e570).2.2 Part.self ?_
     refine RL.mv rfl rfl rfl ?_
     refine RL.mv rfl rfl rfl ?_
     refine RL.idxS (sz := 1) 0 Try.underlying37 Try_ln24 rfl rfl rfl rfl rfl SlOf.imm (by omega) (by omega) ?_
     refine RL.ldS (i := i527) (r := (TR.sl TR.int)) (e' := y537) 0 Try_ln24 rfl rfl rfl rfl SlOf.imm e538 Part.self ?_
     intro v571
     refine RL.reL (L' := [imm (TR.sl (TR.sl TR.int)) v0 x0, own 3 TR.int v12 l468, imm (TR.sl TR.int) v547 y414, imm (TR.sl TR.int) v550 y537, imm (TR.sl TR.int) v568 y414, imm (TR.sl TR.int) v571 y537]) rfl ?_
     refine RL.mv rfl rfl rfl ?_
     obtain ⟨y572, e573, h530⟩ := bind_some h530
     refine RL.idxS (sz := 1) 5 Try.underlying24 Try_ln3 rfl rfl rfl rfl rfl SlOf.imm (idx_some e573).1 (idx_some e573).2.1 ?_
     refine RL.ldSx (i := i404) (e' := y572) 5 Ex.ik Try_ln3 rfl rfl rfl rfl SlOf.imm (idx_some e573).2.2 Part.self ?_
     refine RL.binI (v := .bool (decide (y569 < y572))) rfl rfl rfl rfl rfl ?_
     refine RL.asg rfl rfl rfl ?_
     refine RL.finQG ?_
     refine GL.cond rfl (fun b574 => ?_) (fun b574 => ?_)
     ·replace h530 := ite_t b574 h530
      refine GL.region ?_
      refine RL.mv rfl rfl rfl ?_
      refine RL.mv rfl rfl rfl ?_
      obtain ⟨y579, e580, h530⟩ := bind_some h530
      refine RL.idxS (sz := 1) 1 Try.underlying24 Try_ln3 rfl rfl rfl rfl rfl SlOf.own (idx_some e580).1 (idx_some e580).2.1 ?_
      refine RL.ldSx (i := i404) (e' := y579) 1 Ex.ik Try_ln3 rfl rfl rfl rfl SlOf.own (idx_some e580).2.2 Part.self ?_
      refine RL.binI (v := .int .i64 (wsub y579 (1 : Int))) rfl rfl rfl rfl rfl ?_
      obtain ⟨y581, e582, h530⟩ := bind_some h530
      refine RL.idxS (sz := 1) 1 Try.underlying24 Try_ln3 rfl rfl rfl rfl rfl SlOf.own (idx_some e582).1 (idx_some e582).2.1 ?_
      refine RL.stS (i := i404) (e' := wsub y579 (1 : Int)) (e1 := wsub y579 (1 : Int)) (r := TR.int) 1 Try_ln3 rfl rfl rfl rfl VR.int rfl (idx_some e582).2.2 Upd.self ?_
      refine RL.finG ?_
      refine GL.nilB ?_
      refine GL.nilB ?_
      refine GL.region ?_
      refine RL.binI (v := .int .i64 ((i527 + 1 : Nat) : Int)) rfl rfl rfl rfl (binI_succ i527 (by omega)) ?_
      refine RL.mv rfl rfl rfl ?_
      refine RL.fin ?_
      cases h530
      exact fun a w st => lop_intro (i527 + 1, r539, (List.set l468 i404 (wsub y579 (1 : Int)))) ⟨by show i527 + 1 + r539.length = (x0).length; simp only [List.length_cons] at h533; omega, h540, h531⟩ (by simp) (St.cut [0, 1] ⟨rfl, rfl, rfl, rfl, rfl, rfl, rfl, trivial⟩ (by decide) rfl st)
     replace h530 := ite_f b574 h530
     refine GL.skip ?_
     refine GL.nilB ?_
     refine GL.nilB ?_
     refine GL.region ?_
     refine RL.binI (v := .int .i64 ((i527 + 1 : Nat) : Int)) rfl rfl rfl rfl (binI_succ i527 (by omega)) ?_
     refine RL.mv rfl rfl rfl ?_
     refine RL.fin ?_
     cases h530
     exact fun a w st => lop_intro (i527 + 1, r539, l468) ⟨by show i527 + 1 + r539.length = (x0).length; simp only [List.length_cons] at h533; omega, h540, h531⟩ (by simp) (St.cut [0, 1] ⟨rfl, rfl, rfl, rfl, rfl, rfl, rfl, trivial⟩ (by decide) rfl st)
    have h536 : ¬ i527 < (x0).length := by have := of_decide_eq_false b535; omega
    obtain rfl : r528 = [] := by rw [← h534]; exact List.drop_of_length_le (by omega)
    replace h532 : some (Fl.nx _) = some y520 := h532
    cases h532
    exact GL.exit (fun a w st => mid_intro l468 h523 (St.cut [0, 1] ⟨rfl, rfl, rfl, rfl, trivial⟩ (by decide) rfl st))
   rintro l468 h583
   have h584 := h524 _ h583
   try dsimp only at h584
   refine GL.weak (env' := [(0, v0), (5, v12), (17, .int .i64 ((x0).length : Int)), (18, .int .i64 (i404 : Int))]) (L' := [imm (TR.sl (TR.sl TR.int)) v0 x0, own 3 TR.int v12 l468]) (fun _ _ st => st) ?_
   refine GL.nilB ?_
   refine GL.region ?_
   refine RL.binI (v := .int .i64 ((i404 + 1 : Nat) : Int)) rfl rfl rfl rfl (binI_succ i404 (by omega)) ?_
   refine RL.mv rfl rfl rfl ?_
   refine RL.fin ?_
   cases h584
   exact fun a w st => lop_intro (i404 + 1, r416, l468) ⟨by show i404 + 1 + r416.length = (x0).length; simp only [List.length_cons] at h410; omega, h417, h408⟩ (by simp) (St.cut [0, 1] ⟨rfl, rfl, rfl, rfl, trivial⟩ (by decide) rfl st)
  have h413 : ¬ i404 < (x0).length := by have := of_decide_eq_false b412; omega
  obtain rfl : r405 = [] := by rw [← h411]; exact List.drop_of_length_le (by omega)
  replace h409 : some (Fl.nx _) = some y397 := h409
  cases h409
  exact GL.exit (fun a w st => mid_intro l204 h400 (St.cut [1] ⟨rfl, trivial⟩ (by decide) rfl st))
 rintro l204 h585
 have h586 := h401 _ h585
 try dsimp only at h586
 refine GL.weak (env' := [(5, v12)]) (L' := [own 3 TR.int v12 l204]) (fun _ _ st => st) ?_
 refine GL.seq ?_
 refine GL.region ?_
 refine RL.mv rfl rfl rfl ?_
 refine RL.asg rfl rfl rfl ?_
 refine RL.asg rfl rfl rfl ?_
 refine RL.finG ?_
 have h586 := Option.some.inj h586
 subst h586
 exact GL.ret (Gx.ret (v := .tuple #[v12, .int .i64 (0 : Int)]) (res2 rfl rfl rfl) (fun a w st => (st.pick [0] (by decide) rfl).toPost v12))

set_option maxHeartbeats 4000000 in
theorem pk_duels_c (S : Hp) (w : World) (hS : S.sub w)  (res : Bool) (hm : pk_duels_m = some res) : Calls Try.prog 42 #[] w (PostV w (.bool res)) := by
 refine calls_enter 35 Try.func42 Try.ntmps42 rfl S false [] [] rfl trivial hS trivial ?_
 unfold pk_duels_m at hm
 refine GL.seq ?_
 refine GL.region ?_
 refine RL.asg rfl rfl rfl ?_
 refine RL.finG ?_
 refine GL.seq ?_
 refine GL.region ?_
 refine RL.bS (t := TR.int) (vs := [.int .i64 (0 : Int), .int .i64 (2 : Int), .int .i64 (1 : Int)]) ([(0 : Int), (2 : Int), (1 : Int)] : (List Int)) Try.underlying24 Try_lo3 rfl rfl rfl rfl ⟨VR.int, ⟨VR.int, ⟨VR.int, trivial⟩⟩⟩ rfl (by decide) ?_
 intro v8
 refine RL.bS (t := TR.int) (vs := [.int .i64 (1 : Int), .int .i64 (0 : Int), .int .i64 (2 : Int)]) ([(1 : Int), (0 : Int), (2 : Int)] : (List Int)) Try.underlying24 Try_lo3 rfl rfl rfl rfl ⟨VR.int, ⟨VR.int, ⟨VR.int, trivial⟩⟩⟩ rfl (by decide) ?_
 intro v9
 refine RL.reL (L' := [own 3 TR.int v8 ([(0 : Int), (2 : Int), (1 : Int)] : (List Int)), own 3 TR.int v9 ([(1 : Int), (0 : Int), (2 : Int)] : (List Int))]) rfl ?_
 refine RL.bS (t := TR.int) (vs := [.int .i64 (2 : Int), .int .i64 (1 : Int), .int .i64 (0 : Int)]) ([(2 : Int), (1 : Int), (0 : Int)] : (List Int)) Try.underlying24 Try_lo3 rfl rfl rfl rfl ⟨VR.int, ⟨VR.int, ⟨VR.int, trivial⟩⟩⟩ rfl (by decide) ?_
 intro v10
 refine RL.weak (fun a w st => st.freeze 0 rfl) ?_
 refine RL.weak (fun a w st => st.freeze 1 rfl) ?_
 refine RL.weak (fun a w st => st.freeze 2 rfl) ?_
 refine RL.bS (t := (TR.sl TR.int)) (vs := [v8, v9, v10]) ([([(0 : Int), (2 : Int), (1 : Int)] : (List Int)), ([(1 : Int), (0 : Int), (2 : Int)] : (List Int)), ([(2 : Int), (1 : Int), (0 : Int)] : (List Int))] : (List (List Int))) Try.underlying37 Try_lo24 rfl rfl rfl rfl ⟨(VR.item 0 rfl), ⟨(VR.item 1 rfl), ⟨(VR.item 2 rfl), trivial⟩⟩⟩ rfl (by decide) ?_
 intro v11
 refine RL.reL (L' := [imm (TR.sl TR.int) v8 ([(0 : Int), (2 : Int), (1 : Int)] : (List Int)), imm (TR.sl TR.int) v9 ([(1 : Int), (0 : Int), (2 : Int)] : (List Int)), imm (TR.sl TR.int) v10 ([(2 : Int), (1 : Int), (0 : Int)] : (List Int)), own 24 (TR.sl TR.int) v11 ([([(0 : Int), (2 : Int), (1 : Int)] : (List Int)), ([(1 : Int), (0 : Int), (2 : Int)] : (List Int)), ([(2 : Int), (1 : Int), (0 : Int)] : (List Int))] : (List (List Int)))]) rfl ?_
 obtain ⟨y12, e13, hm⟩ := bind_some hm
 refine RL.callU (vs := [v11]) (LR := fun (o : Value) => [own 3 TR.int o y12.1]) (fun o => ⟨Loc.own TR.flatT_ik, trivial⟩) Try_fit101 rfl rfl rfl rfl rfl (fun U w hU hW hL => duel_Top_c U w hU _ _ (hL 3 _ _ rfl Seen.own) _ e13) ?_
 intro v14
 refine RL.mv rfl rfl rfl ?_
 refine RL.ext rfl rfl rfl rfl ?_
 refine RL.ext rfl rfl rfl rfl ?_
 refine RL.asg rfl rfl rfl ?_
 refine RL.asg rfl rfl rfl ?_
 refine RL.finG ?_
 refine GL.seq ?_
 refine GL.region ?_
 refine RL.bS (t := TR.int) (vs := [.int .i64 (0 : Int), .int .i64 (2 : Int), .int .i64 (2 : Int)]) ([(0 : Int), (2 : Int), (2 : Int)] : (List Int)) Try.underlying24 Try_lo3 rfl rfl rfl rfl ⟨VR.int, ⟨VR.int, ⟨VR.int, trivial⟩⟩⟩ rfl (by decide) ?_
 intro v22
 refine RL.bS (t := TR.int) (vs := [.int .i64 (1 : Int), .int .i64 (0 : Int), .int .i64 (2 : Int)]) ([(1 : Int), (0 : Int), (2 : Int)] : (List Int)) Try.underlying24 Try_lo3 rfl rfl rfl rfl ⟨VR.int, ⟨VR.int, ⟨VR.int, trivial⟩⟩⟩ rfl (by decide) ?_
 intro v23
 refine RL.reL (L' := [imm (TR.sl TR.int) v8 ([(0 : Int), (2 : Int), (1 : Int)] : (List Int)), imm (TR.sl TR.int) v9 ([(1 : Int), (0 : Int), (2 : Int)] : (List Int)), imm (TR.sl TR.int) v10 ([(2 : Int), (1 : Int), (0 : Int)] : (List Int)), own 24 (TR.sl TR.int) v11 ([([(0 : Int), (2 : Int), (1 : Int)] : (List Int)), ([(1 : Int), (0 : Int), (2 : Int)] : (List Int)), ([(2 : Int), (1 : Int), (0 : Int)] : (List Int))] : (List (List Int))), own 3 TR.int v14 y12.1, own 3 TR.int v22 ([(0 : Int), (2 : Int), (2 : Int)] : (List Int)), own 3 TR.int v23 ([(1 : Int), (0 : Int), (2 : Int)] : (List Int))]) rfl ?_
 refine RL.bS (t := TR.int) (vs := [.int .i64 (1 : Int), .int .i64 (1 : Int), .int .i64 (0 : Int)]) ([(1 : Int), (1 : Int), (0 : Int)] : (List Int)) Try.underlying24 Try_lo3 rfl rfl rfl rfl ⟨VR.int, ⟨VR.int, ⟨VR.int, trivial⟩⟩⟩ rfl (by decide) ?_
 intro v24
 refine RL.weak (fun a w st => st.freeze 5 rfl) ?_
 refine RL.weak (fun a w st => st.freeze 6 rfl) ?_
 refine RL.weak (fun a w st => st.freeze 7 rfl) ?_
 refine RL.bS (t := (TR.sl TR.int)) (vs := [v22, v23, v24]) ([([(0 : Int), (2 : Int), (2 : Int)] : (List Int)), ([(1 : Int), (0 : Int), (2 : Int)] : (List Int)), ([(1 : Int), (1 : Int), (0 : Int)] : (List Int))] : (List (List Int))) Try.underlying37 Try_lo24 rfl rfl rfl rfl ⟨(VR.item 5 rfl), ⟨(VR.item 6 rfl), ⟨(VR.item 7 rfl), trivial⟩⟩⟩ rfl (by decide) ?_
 intro v25
 refine RL.reL (L' := [imm (TR.sl TR.int) v8 ([(0 : Int), (2 : Int), (1 : Int)] : (List Int)), imm (TR.sl TR.int) v9 ([(1 : Int), (0 : Int), (2 : Int)] : (List Int)), imm (TR.sl TR.int) v10 ([(2 : Int), (1 : Int), (0 : Int)] : (List Int)), own 24 (TR.sl TR.int) v11 ([([(0 : Int), (2 : Int), (1 : Int)] : (List Int)), ([(1 : Int), (0 : Int), (2 : Int)] : (List Int)), ([(2 : Int), (1 : Int), (0 : Int)] : (List Int))] : (List (List Int))), own 3 TR.int v14 y12.1, imm (TR.sl TR.int) v22 ([(0 : Int), (2 : Int), (2 : Int)] : (List Int)), imm (TR.sl TR.int) v23 ([(1 : Int), (0 : Int), (2 : Int)] : (List Int)), imm (TR.sl TR.int) v24 ([(1 : Int), (1 : Int), (0 : Int)] : (List Int)), own 24 (TR.sl TR.int) v25 ([([(0 : Int), (2 : Int), (2 : Int)] : (List Int)), ([(1 : Int), (0 : Int), (2 : Int)] : (List Int)), ([(1 : Int), (1 : Int), (0 : Int)] : (List Int))] : (List (List Int)))]) rfl ?_
 obtain ⟨y26, e27, hm⟩ := bind_some hm
 refine RL.callU (vs := [v25]) (LR := fun (o : Value) => [own 3 TR.int o y26.1]) (fun o => ⟨Loc.own TR.flatT_ik, trivial⟩) Try_fit102 rfl rfl rfl rfl rfl (fun U w hU hW hL => duel_Wins_c U w hU _ _ (hL 8 _ _ rfl Seen.own) _ e27) ?_
 intro v28
 refine RL.mv rfl rfl rfl ?_
 refine RL.ext rfl rfl rfl rfl ?_
 refine RL.ext rfl rfl rfl rfl ?_
 refine RL.asg rfl rfl rfl ?_
 refine RL.asg rfl rfl rfl ?_
 refine RL.finG ?_
 refine GL.seq ?_
 obtain ⟨y52, K53, h54, h55, h56, h57, h58⟩ := bindR_K hm
 refine GL.join (ι := Bool) (fun (p : Bool) => [(0, .bool p)]) (fun (p : Bool) => []) (fun (p : Bool) => K53 (.nx p)) ?_ ?_
 ·skip
  refine GL.region ?_
  refine RL.mv rfl rfl rfl ?_
  refine RL.mv rfl rfl rfl ?_
  refine RL.bS (t := TR.int) (vs := [.int .i64 y12.2, .int .i64 y26.2]) ([y12.2, y26.2] : (List Int)) Try.underlying101 Try_lo25 rfl rfl rfl rfl ⟨VR.int, ⟨VR.int, trivial⟩⟩ rfl (by decide) ?_
  intro v59
  obtain ⟨y60, e61, h54⟩ := bind_some h54
  refine RL.callV (v := .bool y60) (vs := [v59]) Try_fit20 rfl (Or.inl rfl) rfl rfl rfl rfl (fun U w hU hW hL => pk_good_c U w hU _ _ (hL 10 _ _ rfl Seen.own) _ e61) ?_
  refine RL.mv rfl rfl rfl ?_
  refine RL.split (t := 25) rfl (fun b62 => ?_) (fun b62 => ?_)
  ·replace h54 := ite_t b62 h54
   refine RL.mv rfl rfl rfl ?_
   refine RL.bS (t := TR.int) (vs := [.int .i64 (0 : Int), .int .i64 (1 : Int), .int .i64 (2 : Int)]) ([(0 : Int), (1 : Int), (2 : Int)] : (List Int)) Try.underlying24 Try_lo3 rfl rfl rfl rfl ⟨VR.int, ⟨VR.int, ⟨VR.int, trivial⟩⟩⟩ rfl (by decide) ?_
   intro v63
   refine RL.reL (L' := [imm (TR.sl TR.int) v8 ([(0 : Int), (2 : Int), (1 : Int)] : (List Int)), imm (TR.sl TR.int) v9 ([(1 : Int), (0 : Int), (2 : Int)] : (List Int)), imm (TR.sl TR.int) v10 ([(2 : Int), (1 : Int), (0 : Int)] : (List Int)), own 24 (TR.sl TR.int) v11 ([([(0 : Int), (2 : Int), (1 : Int)] : (List Int)), ([(1 : Int), (0 : Int), (2 : Int)] : (List Int)), ([(2 : Int), (1 : Int), (0 : Int)] : (List Int))] : (List (List Int))), own 3 TR.int v14 y12.1, imm (TR.sl TR.int) v22 ([(0 : Int), (2 : Int), (2 : Int)] : (List Int)), imm (TR.sl TR.int) v23 ([(1 : Int), (0 : Int), (2 : Int)] : (List Int)), imm (TR.sl TR.int) v24 ([(1 : Int), (1 : Int), (0 : Int)] : (List Int)), own 24 (TR.sl TR.int) v25 ([([(0 : Int), (2 : Int), (2 : Int)] : (List Int)), ([(1 : Int), (0 : Int), (2 : Int)] : (List Int)), ([(1 : Int), (1 : Int), (0 : Int)] : (List Int))] : (List (List Int))), own 3 TR.int v28 y26.1, own 25 TR.int v59 ([y12.2, y26.2] : (List Int)), own 3 TR.int v63 ([(0 : Int), (1 : Int), (2 : Int)] : (List Int))]) rfl ?_
   obtain ⟨y64, e65, h54⟩ := bind_some h54
   refine RL.callV (v := .bool y64) (vs := [v14, v63]) Try_fit22 rfl (Or.inl rfl) rfl rfl rfl rfl (fun U w hU hW hL => slices_Equal_int_int_c U w hU _ _ (hL 4 _ _ rfl Seen.own) _ _ (hL 11 _ _ rfl Seen.own) _ e65) ?_
   refine RL.pickT rfl rfl rfl rfl ?_
   refine RL.mv rfl rfl rfl ?_
   refine RL.split (t := 30) rfl (fun b66 => ?_) (fun b66 => ?_)
   ·replace h54 := ite_t b66 h54
    refine RL.mv rfl rfl rfl ?_
    refine RL.bS (t := TR.int) (vs := [.int .i64 (2 : Int), .int .i64 (0 : Int), .int .i64 (-2 : Int)]) ([(2 : Int), (0 : Int), (-2 : Int)] : (List Int)) Try.underlying24 Try_lo3 rfl rfl rfl rfl ⟨VR.int, ⟨VR.int, ⟨VR.int, trivial⟩⟩⟩ rfl (by decide) ?_
    intro v67
    obtain ⟨y68, e69, h54⟩ := bind_some h54
    refine RL.callV (v := .bool y68) (vs := [v28, v67]) Try_fit22 rfl (Or.inl rfl) rfl rfl rfl rfl (fun U w hU hW hL => slices_Equal_int_int_c U w hU _ _ (hL 9 _ _ rfl Seen.own) _ _ (hL 12 _ _ rfl Seen.own) _ e69) ?_
    refine RL.pickT rfl rfl rfl rfl ?_
    refine RL.asg rfl rfl rfl ?_
    refine RL.fin ?_
    cases h54
    exact fun a w st => mid_intro y68 h55 (St.cut [] ⟨rfl, trivial⟩ (by decide) rfl st)
   replace h54 := ite_f b66 h54
   refine RL.skip rfl rfl ?_
   refine RL.skip rfl rfl ?_
   refine RL.skip rfl rfl ?_
   refine RL.pickF rfl rfl rfl rfl ?_
   refine RL.asg rfl rfl rfl ?_
   refine RL.fin ?_
   cases h54
   exact fun a w st => mid_intro false h55 (St.cut [] ⟨rfl, trivial⟩ (by decide) rfl st)
  replace h54 := ite_f b62 h54
  refine RL.skip rfl rfl ?_
  refine RL.skip rfl rfl ?_
  refine RL.skip rfl rfl ?_
  refine RL.pickF rfl rfl rfl rfl ?_
  refine RL.mv rfl rfl rfl ?_
  refine RL.skip rfl rfl ?_
  refine RL.skip rfl rfl ?_
  refine RL.skip rfl rfl ?_
  refine RL.pickF rfl rfl rfl rfl ?_
  refine RL.asg rfl rfl rfl ?_
  refine RL.fin ?_
  cases h54
  exact fun a w st => mid_intro false h55 (St.cut [] ⟨rfl, trivial⟩ (by decide) rfl st)
 rintro x51 h70
 have h71 := h56 _ h70
 try dsimp only at h71
 refine GL.weak (env' := [(0, .bool x51)]) (L' := []) (fun _ _ st => st) ?_
 have h71 := Option.some.inj h71
 subst h71
 exact GL.ret (Gx.ret (v := .bool x51) (res1 rfl rfl) (fun a w st => st.toPostV))

set_option maxHeartbeats 4000000 in
theorem tally_Firsts_c (S : Hp) (w : World) (hS : S.sub w) (x0 : Int) (v1 : Value) (x1 : (List (List Int))) (k1 : ((TR.sl (TR.sl TR.int))).vrep S v1 x1) (res : (List Int) × Int) (hm : tally_Firsts_m x0 x1 = some res) : Calls Try.prog 46 #[.int .i64 x0, v1] w (Post w S (fun (o : Value) => .tuple #[o, .int .i64 res.2]) (fun (o : Value) => [own 3 TR.int o res.1])) := by
 refine calls_enter 34 Try.func46 Try.ntmps46 rfl S false [(0, .int .i64 x0), (1, v1)] [imm (TR.sl (TR.sl TR.int)) v1 x1] rfl ⟨rfl, ⟨rfl, trivial⟩⟩ hS ⟨k1, trivial⟩ ?_
 unfold tally_Firsts_m at hm
 refine GL.seq ?_
 refine GL.region ?_
 refine RL.asg rfl rfl rfl ?_
 refine RL.asg rfl rfl rfl ?_
 refine RL.finG ?_
 refine GL.seq ?_
 refine GL.seq ?_
 refine GL.region ?_
 refine RL.mv rfl rfl rfl ?_
 refine RL.mv rfl rfl rfl ?_
 obtain ⟨y5, e6, hm⟩ := bind_some hm
 refine RL.callV (v := .int .i64 y5) (vs := [.int .i64 x0, v1]) Try_fit105 rfl (Or.inl rfl) rfl rfl rfl rfl (fun U w hU hW hL => tally_Check_c U w hU x0 _ _ (hL 0 _ _ rfl Seen.imm) _ e6) ?_
 refine RL.asg rfl rfl rfl ?_
 refine RL.finG ?_
 refine GL.seq ?_
 refine GL.region ?_
 refine RL.mv rfl rfl rfl ?_
 refine RL.binI (v := .bool (y5 != (0 : Int))) rfl rfl rfl rfl rfl ?_
 refine RL.finG ?_
 refine GL.cond rfl (fun b7 => ?_) (fun b7 => ?_)
 ·replace hm := ite_t b7 hm
  refine GL.seq ?_
  refine GL.region ?_
  refine RL.mv rfl rfl rfl ?_
  refine RL.asg rfl rfl rfl ?_
  refine RL.asg rfl rfl rfl ?_
  refine RL.finG ?_
  refine GL.weak (fun a w st => st.nilOwn 3 TR.int) ?_
  have hm := Option.some.inj hm
  subst hm
  exact GL.ret (Gx.ret (v := .tuple #[Value.slice none 0 0, .int .i64 y5]) (res2 rfl rfl rfl) (fun a w st => (st.pick [1] (by decide) rfl).toPost (Value.slice none 0 0)))
 replace hm := ite_f b7 hm
 refine GL.skip ?_
 refine GL.seq ?_
 refine GL.region ?_
 refine RL.mv rfl rfl rfl ?_
 obtain ⟨y11, e12, hm⟩ := bind_some hm
 replace e12 := chk_some e12
 refine RL.mkS (t := TR.int) (z := (0 : Int)) Try.underlying24 Try_lo3 (fun S => rfl) rfl rfl rfl rfl e12.1 e12.2 ?_
 intro v13
 refine RL.asg rfl rfl rfl ?_
 refine RL.finG ?_
 refine GL.seq ?_
 refine GL.seq ?_
 refine GL.region ?_
 refine RL.mv rfl rfl rfl ?_
 refine RL.lenS 0 Try.underlying37 rfl rfl rfl rfl SlOf.imm ?_
 refine RL.mv rfl rfl rfl ?_
 refine RL.finG ?_
 refine GL.open_ 0 rfl (fun S h => len_imm S h) (fun n51 => ?_)
 obtain ⟨y52, K53, h54, h55, h56, h57, h58⟩ := bindR_K hm
 refine GL.join (ι := (List Int)) (fun (p : (List Int)) => [(7, v13)]) (fun (p : (List Int)) => [own 3 TR.int v13 p]) (fun (p : (List Int)) => K53 (.nx p)) ?_ ?_
 ·refine GL.block ?_
  refine GL.loop (ι := Nat × (List (List Int)) × (List Int)) (fun (p : Nat × (List (List Int)) × (List Int)) => [(7, v13), (18, v1), (19, .int .i64 ((x1).length : Int)), (20, .int .i64 (p.1 : Int))]) (fun (p : Nat × (List (List Int)) × (List Int)) => [own 3 TR.int v13 p.2.2, imm (TR.sl (TR.sl TR.int)) v1 x1]) (fun (p : Nat × (List (List Int)) × (List Int)) => p.1 + p.2.1.length = (x1).length ∧ List.drop p.1 x1 = p.2.1 ∧ rangeL tally_Firsts_b1 p.2.1 p.1 p.2.2 = some y52) (fun (p : Nat × (List (List Int)) × (List Int)) => p.2.1.length) (0, x1, (List.replicate (x0).toNat (0 : Int))) ⟨by simp, by simp, h54⟩ (fun a w st => St.cut [1, 0] ⟨rfl, rfl, rfl, rfl, trivial⟩ (by decide) rfl st) ?_
  rintro ⟨i59, r60, l32⟩ ⟨h65, h66, h64⟩
  try dsimp only at h65 h66 h64
  refine GL.weak (env' := [(7, v13), (18, v1), (19, .int .i64 ((x1).length : Int)), (20, .int .i64 (i59 : Int))]) (L' := [own 3 TR.int v13 l32, imm (TR.sl (TR.sl TR.int)) v1 x1]) (fun _ _ st => st) ?_
  refine GL.seq ?_
  refine GL.region ?_
  refine RL.binI (v := .bool (decide ((i59 : Int) < ((x1).length : Int)))) rfl rfl rfl rfl rfl ?_
  refine RL.finG ?_
  refine GL.seq ?_
  refine GL.cond rfl (fun b67 => ?_) (fun b67 => ?_)
  ·have h68 : i59 < (x1).length := by have := of_decide_eq_true b67; omega
   obtain ⟨y69, r71, hr, e70, h72⟩ := drop_cons h66 rfl h68
   subst hr
   obtain ⟨z61, h62, h63⟩ := rangeL_some h64
   unfold tally_Firsts_b1 at h62
   try dsimp only at h62
   refine GL.skip ?_
   refine GL.seq ?_
   refine GL.block ?_
   refine GL.seq ?_
   refine GL.region ?_
   refine RL.idxS (sz := 1) 1 Try.underlying37 Try_ln24 rfl rfl rfl rfl rfl SlOf.imm (by omega) (by omega) ?_
   refine RL.ldS (i := i59) (r := (TR.sl TR.int)) (e' := y69) 1 Try_ln24 rfl rfl rfl rfl SlOf.imm e70 Part.self ?_
   intro v74
   refine RL.asg rfl rfl rfl ?_
   refine RL.finG ?_
   refine GL.region ?_
   refine RL.mv rfl rfl rfl ?_
   refine RL.mv rfl rfl rfl ?_
   obtain ⟨y81, e82, h62⟩ := bind_some h62
   refine RL.idxS (sz := 1) 2 Try.underlying24 Try_ln3 rfl rfl rfl rfl rfl SlOf.imm (idx_some e82).1 (idx_some e82).2.1 ?_
   refine RL.ldSx (i := ((0 : Int)).toNat) (e' := y81) 2 Ex.ik Try_ln3 rfl rfl rfl rfl SlOf.imm (idx_some e82).2.2 Part.self ?_
   obtain ⟨y83, e84, h62⟩ := bind_some h62
   refine RL.idxS (sz := 1) 0 Try.underlying24 Try_ln3 rfl rfl rfl rfl rfl SlOf.own (idx_some e84).1 (idx_some e84).2.1 ?_
   refine RL.ldSx (i := (y81).toNat) (e' := y83) 0 Ex.ik Try_ln3 rfl rfl rfl rfl SlOf.own (idx_some e84).2.2 Part.self ?_
   refine RL.binI (v := .int .i64 (wadd y83 (1 : Int))) rfl rfl rfl rfl rfl ?_
   obtain ⟨y85, e86, h62⟩ := bind_some h62
   refine RL.idxS (sz := 1) 0 Try.underlying24 Try_ln3 rfl rfl rfl rfl rfl SlOf.own (idx_some e86).1 (idx_some e86).2.1 ?_
   refine RL.stS (i := (y81).toNat) (e' := wadd y83 (1 : Int)) (e1 := wadd y83 (1 : Int)) (r := TR.int) 0 Try_ln3 rfl rfl rfl rfl VR.int rfl (idx_some e86).2.2 Upd.self ?_
   refine RL.reL (L' := [own 3 TR.int v13 (List.set l32 ((y81).toNat) (wadd y83 (1 : Int))), imm (TR.sl (TR.sl TR.int)) v1 x1, imm (TR.sl TR.int) v74 y69]) rfl ?_
   refine RL.finG ?_
   refine GL.nilB ?_
   refine GL.region ?_
   refine RL.binI (v := .int .i64 ((i59 + 1 : Nat) : Int)) rfl rfl rfl rfl (binI_succ i59 (by omega)) ?_
   refine RL.mv rfl rfl rfl ?_
   refine RL.fin ?_
   cases h62
   exact fun a w st => lop_intro (i59 + 1, r71, (List.set l32 ((y81).toNat) (wadd y83 (1 : Int)))) ⟨by show i59 + 1 + r71.length = (x1).length; simp only [List.length_cons] at h65; omega, h72, h63⟩ (by simp) (St.cut [0, 1] ⟨rfl, rfl, rfl, rfl, trivial⟩ (by decide) rfl st)
  have h68 : ¬ i59 < (x1).length := by have := of_decide_eq_false b67; omega
  obtain rfl : r60 = [] := by rw [← h66]; exact List.drop_of_length_le (by omega)
  replace h64 : some (Fl.nx _) = some y52 := h64
  cases h64
  exact GL.exit (fun a w st => mid_intro l32 h55 (St.cut [0] ⟨rfl, trivial⟩ (by decide) rfl st))
 rintro l32 h87
 have h88 := h56 _ h87
 try dsimp only at h88
 refine GL.weak (env' := [(7, v13)]) (L' := [own 3 TR.int v13 l32]) (fun _ _ st => st) ?_
 refine GL.seq ?_
 refine GL.region ?_
 refine RL.mv rfl rfl rfl ?_
 refine RL.asg rfl rfl rfl ?_
 refine RL.asg rfl rfl rfl ?_
 refine RL.finG ?_
 have h88 := Option.some.inj h88
 subst h88
 exact GL.ret (Gx.ret (v := .tuple #[v13, .int .i64 (0 : Int)]) (res2 rfl rfl rfl) (fun a w st => (st.pick [0] (by decide) rfl).toPost v13))

set_option maxHeartbeats 4000000 in
theorem rules_best_c (S : Hp) (w : World) (hS : S.sub w) (v0 : Value) (x0 : (List Int)) (k0 : ((TR.sl TR.int)).vrep S v0 x0) (res : (List Int)) (hm : rules_best_m x0 = some res) : Calls Try.prog 108 #[v0] w (Post w S (fun (o : Value) => o) (fun (o : Value) => [own 3 TR.int o res])) := by
 refine calls_enter 45 Try.func108 Try.ntmps108 rfl S false [(0, v0)] [imm (TR.sl TR.int) v0 x0] rfl ⟨rfl, trivial⟩ hS ⟨k0, trivial⟩ ?_
 unfold rules_best_m at hm
 refine GL.seq ?_
 refine GL.region ?_
 refine RL.asg rfl rfl rfl ?_
 refine RL.finG ?_
 refine GL.seq ?_
 refine GL.region ?_
 refine RL.asg rfl rfl rfl ?_
 refine RL.finG ?_
 refine GL.seq ?_
 refine GL.seq ?_
 refine GL.region ?_
 refine RL.mv rfl rfl rfl ?_
 refine RL.lenS 0 Try.underlying24 rfl rfl rfl rfl SlOf.imm ?_
 refine RL.mv rfl rfl rfl ?_
 refine RL.finG ?_
 refine GL.weak (fun a w st => st.nilOwn 3 TR.int) ?_
 refine GL.open_ 0 rfl (fun S h => len_imm S h) (fun n81 => ?_)
 obtain ⟨y82, K83, h84, h85, h86, h87, h88⟩ := bindR_K hm
 refine GL.join (ι := (List Int) × Value) (fun (p : (List Int) × Value) => [(3, p.2)]) (fun (p : (List Int) × Value) => [own 3 TR.int p.2 p.1]) (fun (p : (List Int) × Value) => K83 (.nx p.1)) ?_ ?_
 ·refine GL.block ?_
  refine GL.loop (ι := Nat × (List Int) × (List Int) × Value) (fun (p : Nat × (List Int) × (List Int) × Value) => [(0, v0), (3, p.2.2.2), (6, v0), (7, .int .i64 ((x0).length : Int)), (8, .int .i64 (p.1 : Int))]) (fun (p : Nat × (List Int) × (List Int) × Value) => [imm (TR.sl TR.int) v0 x0, own 3 TR.int p.2.2.2 p.2.2.1]) (fun (p : Nat × (List Int) × (List Int) × Value) => p.1 + p.2.1.length = (x0).length ∧ List.drop p.1 x0 = p.2.1 ∧ rangeL (rules_best_b1 x0) p.2.1 p.1 p.2.2.1 = some y82) (fun (p : Nat × (List Int) × (List Int) × Value) => p.2.1.length) (0, x0, [], Value.slice none 0 0) ⟨by simp, by simp, h84⟩ (fun a w st => St.cut [0, 1] ⟨rfl, rfl, rfl, rfl, rfl, trivial⟩ (by decide) rfl st) ?_
  rintro ⟨i89, r90, l2, v3⟩ ⟨h95, h96, h94⟩
  try dsimp only at h95 h96 h94
  refine GL.weak (env' := [(0, v0), (3, v3), (6, v0), (7, .int .i64 ((x0).length : Int)), (8, .int .i64 (i89 : Int))]) (L' := [imm (TR.sl TR.int) v0 x0, own 3 TR.int v3 l2]) (fun _ _ st => st) ?_
  refine GL.seq ?_
  refine GL.region ?_
  refine RL.binI (v := .bool (decide ((i89 : Int) < ((x0).length : Int)))) rfl rfl rfl rfl rfl ?_
  refine RL.finG ?_
  refine GL.seq ?_
  refine GL.cond rfl (fun b97 => ?_) (fun b97 => ?_)
  ·have h98 : i89 < (x0).length := by have := of_decide_eq_true b97; omega
   obtain ⟨y99, r101, hr, e100, h102⟩ := drop_cons h96 rfl h98
   subst hr
   obtain ⟨z91, h92, h93⟩ := rangeL_some h94
   unfold rules_best_b1 at h92
   try dsimp only at h92
   refine GL.skip ?_
   refine GL.seq ?_
   refine GL.block ?_
   refine GL.seq ?_
   refine GL.region ?_
   refine RL.mv rfl rfl rfl ?_
   refine RL.idxS (sz := 1) 0 Try.underlying24 Try_ln3 rfl rfl rfl rfl rfl SlOf.imm (by omega) (by omega) ?_
   refine RL.ldSx (i := i89) (e' := y99) 0 Ex.ik Try_ln3 rfl rfl rfl rfl SlOf.imm e100 Part.self ?_
   refine RL.asg rfl rfl rfl ?_
   refine RL.asg rfl rfl rfl ?_
   refine RL.finG ?_
   refine GL.seq ?_
   refine GL.seq ?_
   obtain ⟨y114, K115, h116, h117, h118, h119, h120⟩ := bindF_K h92
   refine GL.join (ι := Bool) (fun (p : Bool) => [(0, v0), (3, v3), (4, .int .i64 (i89 : Int)), (5, .int .i64 y99), (6, v0), (7, .int .i64 ((x0).length : Int)), (8, .int .i64 (i89 : Int)), (25, .bool p)]) (fun (p : Bool) => [imm (TR.sl TR.int) v0 x0, own 3 TR.int v3 l2]) (fun (p : Bool) => K115 (.nx p)) ?_ ?_
   ·skip
    refine GL.region ?_
    refine RL.mv rfl rfl rfl ?_
    refine RL.lenS 1 Try.underlying24 rfl rfl rfl rfl SlOf.own ?_
    refine RL.binI (v := .bool (decide (((l2).length : Int) > (0 : Int)))) rfl rfl rfl rfl rfl ?_
    refine RL.mv rfl rfl rfl ?_
    refine RL.split (t := 16) rfl (fun b121 => ?_) (fun b121 => ?_)
    ·replace h116 := ite_t b121 h116
     refine RL.mv rfl rfl rfl ?_
     refine RL.mv rfl rfl rfl ?_
     refine RL.mv rfl rfl rfl ?_
     obtain ⟨y122, e123, h116⟩ := bind_some h116
     refine RL.idxS (sz := 1) 1 Try.underlying24 Try_ln3 rfl rfl rfl rfl rfl SlOf.own (idx_some e123).1 (idx_some e123).2.1 ?_
     refine RL.ldSx (i := ((0 : Int)).toNat) (e' := y122) 1 Ex.ik Try_ln3 rfl rfl rfl rfl SlOf.own (idx_some e123).2.2 Part.self ?_
     obtain ⟨y124, e125, h116⟩ := bind_some h116
     refine RL.idxS (sz := 1) 0 Try.underlying24 Try_ln3 rfl rfl rfl rfl rfl SlOf.imm (idx_some e125).1 (idx_some e125).2.1 ?_
     refine RL.ldSx (i := (y122).toNat) (e' := y124) 0 Ex.ik Try_ln3 rfl rfl rfl rfl SlOf.imm (idx_some e125).2.2 Part.self ?_
     refine RL.binI (v := .bool (decide (y99 > y124))) rfl rfl rfl rfl rfl ?_
     refine RL.pickT rfl rfl rfl rfl ?_
     refine RL.fin ?_
     cases h116
     exact fun a w st => mid_intro (decide (y99 > y124)) h117 (St.cut [0, 1] ⟨rfl, rfl, rfl, rfl, rfl, rfl, rfl, rfl, trivial⟩ (by decide) rfl st)
    replace h116 := ite_f b121 h116
    refine RL.skip rfl rfl ?_
    refine RL.skip rfl rfl ?_
    refine RL.skip rfl rfl ?_
    refine RL.skip rfl rfl ?_
    refine RL.skip rfl rfl ?_
    refine RL.skip rfl rfl ?_
    refine RL.skip rfl rfl ?_
    refine RL.skip rfl rfl ?_
    refine RL.pickF rfl rfl rfl rfl ?_
    refine RL.fin ?_
    cases h116
    exact fun a w st => mid_intro false h117 (St.cut [0, 1] ⟨rfl, rfl, rfl, rfl, rfl, rfl, rfl, rfl, trivial⟩ (by decide) rfl st)
   rintro x113 h126
   have h127 := h118 _ h126
   try dsimp only at h127
   refine GL.weak (env' := [(0, v0), (3, v3), (4, .int .i64 (i89 : Int)), (5, .int .i64 y99), (6, v0), (7, .int .i64 ((x0).length : Int)), (8, .int .i64 (i89 : Int)), (25, .bool x113)]) (L' := [imm (TR.sl TR.int) v0 x0, own 3 TR.int v3 l2]) (fun _ _ st => st) ?_
   obtain ⟨y132, K133, h134, h135, h136, h137, h138⟩ := bindF_K h127
   refine GL.join (ι := (List Int) × Value) (fun (p : (List Int) × Value) => [(0, v0), (3, p.2), (4, .int .i64 (i89 : Int)), (5, .int .i64 y99), (6, v0), (7, .int .i64 ((x0).length : Int)), (8, .int .i64 (i89 : Int))]) (fun (p : (List Int) × Value) => [imm (TR.sl TR.int) v0 x0, own 3 TR.int p.2 p.1]) (fun (p : (List Int) × Value) => K133 (.nx p.1)) ?_ ?_
   ·skip
    refine GL.cond rfl (fun b139 => ?_) (fun b139 => ?_)
    ·replace h134 := ite_t b139 h134
     refine GL.region ?_
     refine RL.asg rfl rfl rfl ?_
     refine RL.finG ?_
     refine GL.weak (fun a w st => st.nilOwn 3 TR.int) ?_
     cases h134
     exact fun a w st => mid_intro ([], Value.slice none 0 0) h135 (St.cut [0, 2] ⟨rfl, rfl, rfl, rfl, rfl, rfl, rfl, trivial⟩ (by decide) rfl st)
    replace h134 := ite_f b139 h134
    refine GL.skip ?_
    cases h134
    exact fun a w st => mid_intro (l2, v3) h135 (St.cut [0, 1] ⟨rfl, rfl, rfl, rfl, rfl, rfl, rfl, trivial⟩ (by decide) rfl st)
   rintro ⟨l130, v131⟩ h140
   have h141 := h136 _ h140
   try dsimp only at h141
   refine GL.weak (env' := [(0, v0), (3, v131), (4, .int .i64 (i89 : Int)), (5, .int .i64 y99), (6, v0), (7, .int .i64 ((x0).length : Int)), (8, .int .i64 (i89 : Int))]) (L' := [imm (TR.sl TR.int) v0 x0, own 3 TR.int v131 l130]) (fun _ _ st => st) ?_
   refine GL.seq ?_
   obtain ⟨y153, K154, h155, h156, h157, h158, h159⟩ := bindF_K h141
   refine GL.join (ι := Bool) (fun (p : Bool) => [(0, v0), (3, v131), (4, .int .i64 (i89 : Int)), (6, v0), (7, .int .i64 ((x0).length : Int)), (8, .int .i64 (i89 : Int)), (38, .bool p)]) (fun (p : Bool) => [imm (TR.sl TR.int) v0 x0, own 3 TR.int v131 l130]) (fun (p : Bool) => K154 (.nx p)) ?_ ?_
   ·skip
    refine GL.region ?_
    refine RL.mv rfl rfl rfl ?_
    refine RL.lenS 1 Try.underlying24 rfl rfl rfl rfl SlOf.own ?_
    refine RL.binI (v := .bool (((l130).length : Int) == (0 : Int))) rfl rfl rfl rfl rfl ?_
    refine RL.mv rfl rfl rfl ?_
    refine RL.split (t := 29) rfl (fun b160 => ?_) (fun b160 => ?_)
    ·replace h155 := ite_t b160 h155
     refine RL.skip rfl rfl ?_
     refine RL.skip rfl rfl ?_
     refine RL.skip rfl rfl ?_
     refine RL.skip rfl rfl ?_
     refine RL.skip rfl rfl ?_
     refine RL.skip rfl rfl ?_
     refine RL.skip rfl rfl ?_
     refine RL.skip rfl rfl ?_
     refine RL.pickT rfl rfl rfl rfl ?_
     refine RL.fin ?_
     cases h155
     exact fun a w st => mid_intro true h156 (St.cut [0, 1] ⟨rfl, rfl, rfl, rfl, rfl, rfl, rfl, trivial⟩ (by decide) rfl st)
    replace h155 := ite_f b160 h155
    refine RL.mv rfl rfl rfl ?_
    refine RL.mv rfl rfl rfl ?_
    refine RL.mv rfl rfl rfl ?_
    obtain ⟨y161, e162, h155⟩ := bind_some h155
    refine RL.idxS (sz := 1) 1 Try.underlying24 Try_ln3 rfl rfl rfl rfl rfl SlOf.own (idx_some e162).1 (idx_some e162).2.1 ?_
    refine RL.ldSx (i := ((0 : Int)).toNat) (e' := y161) 1 Ex.ik Try_ln3 rfl rfl rfl rfl SlOf.own (idx_some e162).2.2 Part.self ?_
    obtain ⟨y163, e164, h155⟩ := bind_some h155
    refine RL.idxS (sz := 1) 0 Try.underlying24 Try_ln3 rfl rfl rfl rfl rfl SlOf.imm (idx_some e164).1 (idx_some e164).2.1 ?_
    refine RL.ldSx (i := (y161).toNat) (e' := y163) 0 Ex.ik Try_ln3 rfl rfl rfl rfl SlOf.imm (idx_some e164).2.2 Part.self ?_
    refine RL.binI (v := .bool (y99 == y163)) rfl rfl rfl rfl rfl ?_
    refine RL.pickF rfl rfl rfl rfl ?_
    refine RL.fin ?_
    cases h155
    exact fun a w st => mid_intro (y99 == y163) h156 (St.cut [0, 1] ⟨rfl, rfl, rfl, rfl, rfl, rfl, rfl, trivial⟩ (by decide) rfl st)
   rintro x152 h165
   have h166 := h157 _ h165
   try dsimp only at h166
   refine GL.weak (env' := [(0, v0), (3, v131), (4, .int .i64 (i89 : Int)), (6, v0), (7, .int .i64 ((x0).length : Int)), (8, .int .i64 (i89 : Int)), (38, .bool x152)]) (L' := [imm (TR.sl TR.int) v0 x0, own 3 TR.int v131 l130]) (fun _ _ st => st) ?_
   refine GL.cond rfl (fun b167 => ?_) (fun b167 => ?_)
   ·replace h166 := ite_t b167 h166
    refine GL.region ?_
    refine RL.mv rfl rfl rfl ?_
    refine RL.mv rfl rfl rfl ?_
    refine RL.bS (t := TR.int) (vs := [.int .i64 (i89 : Int)]) ([(i89 : Int)] : (List Int)) Try.underlying24 Try_lo3 rfl rfl rfl rfl ⟨VR.int, trivial⟩ rfl (by decide) ?_
    intro v172
    obtain ⟨y173, e174, h166⟩ := bind_some h166
    replace e174 := chk_some e174
    refine RL.app 1 2 Try.underlying24 Try_lo3 rfl rfl rfl rfl rfl rfl rfl SlOf.own e174 ?_
    intro v175
    refine RL.reL (L' := [imm (TR.sl TR.int) v0 x0, own 3 TR.int v175 (l130 ++ ([(i89 : Int)] : (List Int))), own 3 TR.int v172 ([(i89 : Int)] : (List Int))]) rfl ?_
    refine RL.asg rfl rfl rfl ?_
    refine RL.finG ?_
    refine GL.nilB ?_
    refine GL.region ?_
    refine RL.binI (v := .int .i64 ((i89 + 1 : Nat) : Int)) rfl rfl rfl rfl (binI_succ i89 (by omega)) ?_
    refine RL.mv rfl rfl rfl ?_
    refine RL.fin ?_
    cases h166
    exact fun a w st => lop_intro (i89 + 1, r101, (l130 ++ ([(i89 : Int)] : (List Int))), v175) ⟨by show i89 + 1 + r101.length = (x0).length; simp only [List.length_cons] at h95; omega, h102, h93⟩ (by simp) (St.cut [0, 1] ⟨rfl, rfl, rfl, rfl, rfl, trivial⟩ (by decide) rfl st)
   replace h166 := ite_f b167 h166
   refine GL.skip ?_
   refine GL.nilB ?_
   refine GL.region ?_
   refine RL.binI (v := .int .i64 ((i89 + 1 : Nat) : Int)) rfl rfl rfl rfl (binI_succ i89 (by omega)) ?_
   refine RL.mv rfl rfl rfl ?_
   refine RL.fin ?_
   cases h166
   exact fun a w st => lop_intro (i89 + 1, r101, l130, v131) ⟨by show i89 + 1 + r101.length = (x0).length; simp only [List.length_cons] at h95; omega, h102, h93⟩ (by simp) (St.cut [0, 1] ⟨rfl, rfl, rfl, rfl, rfl, trivial⟩ (by decide) rfl st)
  have h98 : ¬ i89 < (x0).length := by have := of_decide_eq_false b97; omega
  obtain rfl : r90 = [] := by rw [← h96]; exact List.drop_of_length_le (by omega)
  replace h94 : some (Fl.nx _) = some y82 := h94
  cases h94
  exact GL.exit (fun a w st => mid_intro (l2, v3) h85 (St.cut [1] ⟨rfl, trivial⟩ (by decide) rfl st))
 rintro ⟨l2, v3⟩ h176
 have h177 := h86 _ h176
 try dsimp only at h177
 refine GL.weak (env' := [(3, v3)]) (L' := [own 3 TR.int v3 l2]) (fun _ _ st => st) ?_
 refine GL.seq ?_
 refine GL.region ?_
 refine RL.mv rfl rfl rfl ?_
 refine RL.asg rfl rfl rfl ?_
 refine RL.finG ?_
 have h177 := Option.some.inj h177
 subst h177
 exact GL.ret (Gx.ret (v := v3) (res1 rfl rfl) (fun a w st => (st.pick [0] (by decide) rfl).toPost v3))

set_option maxHeartbeats 4000000 in
theorem duel_Worst_c (S : Hp) (w : World) (hS : S.sub w) (v0 : Value) (x0 : (List (List Int))) (k0 : ((TR.sl (TR.sl TR.int))).vrep S v0 x0) (res : (List Int) × Int) (hm : duel_Worst_m x0 = some res) : Calls Try.prog 106 #[v0] w (Post w S (fun (o : Value) => .tuple #[o, .int .i64 res.2]) (fun (o : Value) => [own 3 TR.int o res.1])) := by
 refine calls_enter 52 Try.func106 Try.ntmps106 rfl S false [(0, v0)] [imm (TR.sl (TR.sl TR.int)) v0 x0] rfl ⟨rfl, trivial⟩ hS ⟨k0, trivial⟩ ?_
 unfold duel_Worst_m at hm
 refine GL.seq ?_
 refine GL.region ?_
 refine RL.asg rfl rfl rfl ?_
 refine RL.asg rfl rfl rfl ?_
 refine RL.finG ?_
 refine GL.seq ?_
 refine GL.seq ?_
 refine GL.region ?_
 refine RL.mv rfl rfl rfl ?_
 obtain ⟨y4, e5, hm⟩ := bind_some hm
 refine RL.callC (v := .int .i64 y4) (vs := [v0]) Try_fit127 rfl rfl rfl rfl (fun U w hU hW hL => duel_Check_c U w hU _ _ (hL 0 _ _ rfl Seen.imm) _ e5) ?_
 refine RL.asg rfl rfl rfl ?_
 refine RL.finG ?_
 refine GL.seq ?_
 refine GL.region ?_
 refine RL.mv rfl rfl rfl ?_
 refine RL.binI (v := .bool (y4 != (0 : Int))) rfl rfl rfl rfl rfl ?_
 refine RL.finG ?_
 refine GL.cond rfl (fun b6 => ?_) (fun b6 => ?_)
 ·replace hm := ite_t b6 hm
  refine GL.seq ?_
  refine GL.region ?_
  refine RL.mv rfl rfl rfl ?_
  refine RL.asg rfl rfl rfl ?_
  refine RL.asg rfl rfl rfl ?_
  refine RL.finG ?_
  refine GL.weak (fun a w st => st.nilOwn 3 TR.int) ?_
  have hm := Option.some.inj hm
  subst hm
  exact GL.ret (Gx.ret (v := .tuple #[Value.slice none 0 0, .int .i64 y4]) (res2 rfl rfl rfl) (fun a w st => (st.pick [1] (by decide) rfl).toPost (Value.slice none 0 0)))
 replace hm := ite_f b6 hm
 refine GL.skip ?_
 refine GL.seq ?_
 refine GL.region ?_
 refine RL.mv rfl rfl rfl ?_
 refine RL.lenS 0 Try.underlying37 rfl rfl rfl rfl SlOf.imm ?_
 obtain ⟨y10, e11, hm⟩ := bind_some hm
 replace e11 := chk_some e11
 refine RL.mkS (t := TR.int) (z := (0 : Int)) Try.underlying24 Try_lo3 (fun S => rfl) rfl rfl rfl rfl e11.1 e11.2 ?_
 intro v12
 refine RL.asg rfl rfl rfl ?_
 refine RL.finG ?_
 refine GL.seq ?_
 refine GL.seq ?_
 refine GL.region ?_
 refine RL.mv rfl rfl rfl ?_
 refine RL.lenS 0 Try.underlying37 rfl rfl rfl rfl SlOf.imm ?_
 refine RL.mv rfl rfl rfl ?_
 refine RL.finG ?_
 refine GL.open_ 0 rfl (fun S h => len_imm S h) (fun n224 => ?_)
 obtain ⟨y225, K226, h227, h228, h229, h230, h231⟩ := bindR_K hm
 refine GL.join (ι := (List Int)) (fun (p : (List Int)) => [(5, v12)]) (fun (p : (List Int)) => [own 3 TR.int v12 p]) (fun (p : (List Int)) => K226 (.nx p)) ?_ ?_
 ·refine GL.block ?_
  refine GL.loop (ι := Nat × (List (List Int)) × (List Int)) (fun (p : Nat × (List (List Int)) × (List Int)) => [(0, v0), (5, v12), (17, .int .i64 ((x0).length : Int)), (18, .int .i64 (p.1 : Int))]) (fun (p : Nat × (List (List Int)) × (List Int)) => [imm (TR.sl (TR.sl TR.int)) v0 x0, own 3 TR.int v12 p.2.2]) (fun (p : Nat × (List (List Int)) × (List Int)) => p.1 + p.2.1.length = (x0).length ∧ List.drop p.1 x0 = p.2.1 ∧ rangeL (duel_Worst_b1 x0) p.2.1 p.1 p.2.2 = some y225) (fun (p : Nat × (List (List Int)) × (List Int)) => p.2.1.length) (0, x0, (List.replicate (((x0).length : Int)).toNat (0 : Int))) ⟨by simp, by simp, h227⟩ (fun a w st => St.cut [0, 1] ⟨rfl, rfl, rfl, rfl, trivial⟩ (by decide) rfl st) ?_
  rintro ⟨i232, r233, l118⟩ ⟨h238, h239, h237⟩
  try dsimp only at h238 h239 h237
  refine GL.weak (env' := [(0, v0), (5, v12), (17, .int .i64 ((x0).length : Int)), (18, .int .i64 (i232 : Int))]) (L' := [imm (TR.sl (TR.sl TR.int)) v0 x0, own 3 TR.int v12 l118]) (fun _ _ st => st) ?_
  refine GL.seq ?_
  refine GL.region ?_
  refine RL.binI (v := .bool (decide ((i232 : Int) < ((x0).length : Int)))) rfl rfl rfl rfl rfl ?_
  refine RL.finG ?_
  refine GL.seq ?_
  refine GL.cond rfl (fun b240 => ?_) (fun b240 => ?_)
  ·have h241 : i232 < (x0).length := by have := of_decide_eq_true b240; omega
   obtain ⟨y242, r244, hr, e243, h245⟩ := drop_cons h239 rfl h241
   subst hr
   obtain ⟨z234, h235, h236⟩ := rangeL_some h237
   unfold duel_Worst_b1 at h235
   try dsimp only at h235
   refine GL.skip ?_
   refine GL.seq ?_
   refine GL.block ?_
   refine GL.seq ?_
   refine GL.region ?_
   refine RL.mv rfl rfl rfl ?_
   refine RL.asg rfl rfl rfl ?_
   refine RL.finG ?_
   refine GL.seq ?_
   refine GL.region ?_
   refine RL.mv rfl rfl rfl ?_
   refine RL.lenS 0 Try.underlying37 rfl rfl rfl rfl SlOf.imm ?_
   refine RL.mv rfl rfl rfl ?_
   refine RL.finG ?_
   refine GL.open_ 0 rfl (fun S h => len_imm S h) (fun n295 => ?_)
   obtain ⟨y296, K297, h298, h299, h300, h301, h302⟩ := bindF_K h235
   refine GL.join (ι := (List Int)) (fun (p : (List Int)) => [(0, v0), (5, v12), (17, .int .i64 ((x0).length : Int)), (18, .int .i64 (i232 : Int))]) (fun (p : (List Int)) => [imm (TR.sl (TR.sl TR.int)) v0 x0, own 3 TR.int v12 p]) (fun (p : (List Int)) => K297 (.nx p)) ?_ ?_
   ·refine GL.block ?_
    refine GL.loop (ι := Nat × (List (List Int)) × (List Int)) (fun (p : Nat × (List (List Int)) × (List Int)) => [(0, v0), (5, v12), (6, .int .i64 (i232 : Int)), (17, .int .i64 ((x0).length : Int)), (18, .int .i64 (i232 : Int)), (22, .int .i64 ((x0).length : Int)), (23, .int .i64 (p.1 : Int))]) (fun (p : Nat × (List (List Int)) × (List Int)) => [imm (TR.sl (TR.sl TR.int)) v0 x0, own 3 TR.int v12 p.2.2]) (fun (p : Nat × (List (List Int)) × (List Int)) => p.1 + p.2.1.length = (x0).length ∧ List.drop p.1 x0 = p.2.1 ∧ rangeL (duel_Worst_b2 i232 y242) p.2.1 p.1 p.2.2 = some y296) (fun (p : Nat × (List (List Int)) × (List Int)) => p.2.1.length) (0, x0, l118) ⟨by simp, by simp, h298⟩ (fun a w st => St.cut [0, 1] ⟨rfl, rfl, rfl, rfl, rfl, rfl, rfl, trivial⟩ (by decide) rfl st) ?_
    rintro ⟨i303, r304, l270⟩ ⟨h309, h310, h308⟩
    try dsimp only at h309 h310 h308
    refine GL.weak (env' := [(0, v0), (5, v12), (6, .int .i64 (i232 : Int)), (17, .int .i64 ((x0).length : Int)), (18, .int .i64 (i232 : Int)), (22, .int .i64 ((x0).length : Int)), (23, .int .i64 (i303 : Int))]) (L' := [imm (TR.sl (TR.sl TR.int)) v0 x0, own 3 TR.int v12 l270]) (fun _ _ st => st) ?_
    refine GL.seq ?_
    refine GL.region ?_
    refine RL.binI (v := .bool (decide ((i303 : Int) < ((x0).length : Int)))) rfl rfl rfl rfl rfl ?_
    refine RL.finG ?_
    refine GL.seq ?_
    refine GL.cond rfl (fun b311 => ?_) (fun b311 => ?_)
    ·have h312 : i303 < (x0).length := by have := of_decide_eq_true b311; omega
     obtain ⟨y313, r315, hr, e314, h316⟩ := drop_cons h310 rfl h312
     subst hr
     obtain ⟨z305, h306, h307⟩ := rangeL_some h308
     unfold duel_Worst_b2 at h306
     try dsimp only at h306
     refine GL.skip ?_
     refine GL.seq ?_
     refine GL.block ?_
     refine GL.seq ?_
     refine GL.region ?_
     refine RL.mv rfl rfl rfl ?_
     refine RL.asg rfl rfl rfl ?_
     refine RL.finG ?_
     refine GL.regionH 23 rfl rfl (by kernel_rfl) ?_
     simp only [List.take_succ_cons, List.take_zero, List.drop_succ_cons, List.drop_zero]
     refine RL.mv rfl rfl rfl ?_
     refine RL.mv rfl rfl rfl ?_
     refine RL.mv rfl rfl rfl ?_
     refine RL.mv rfl rfl rfl ?_
     obtain ⟨y327, e328, h306⟩ := bind_some h306
     refine RL.idxS (sz := 1) 1 Try.underlying24 Try_ln3 rfl rfl rfl rfl rfl SlOf.own (idx_some e328).1 (idx_some e328).2.1 ?_
     refine RL.ldSx (i := i232) (e' := y327) 1 Ex.ik Try_ln3 rfl rfl rfl rfl SlOf.own (idx_some e328).2.2 Part.self ?_
     refine RL.mv rfl rfl rfl ?_
     refine RL.mv rfl rfl rfl ?_
     refine RL.idxS (sz := 1) 0 Try.underlying37 Try_ln24 rfl rfl rfl rfl rfl SlOf.imm (by omega) (by omega) ?_
     refine RL.ldS (i := i303) (r := (TR.sl TR.int)) (e' := y313) 0 Try_ln24 rfl rfl rfl rfl SlOf.imm e314 Part.self ?_
     intro v329
     refine RL.mv rfl rfl rfl ?_
     obtain ⟨y330, e331, h306⟩ := bind_some h306
     refine RL.idxS (sz := 1) 2 Try.underlying24 Try_ln3 rfl rfl rfl rfl rfl SlOf.imm (idx_some e331).1 (idx_some e331).2.1 ?_
     refine RL.ldSx (i := i232) (e' := y330) 2 Ex.ik Try_ln3 rfl rfl rfl rfl SlOf.imm (idx_some e331).2.2 Part.self ?_
     refine RL.mv rfl rfl rfl ?_
     refine RL.mv rfl rfl rfl ?_
     refine RL.idxS (sz := 1) 0 Try.underlying37 Try_ln24 rfl rfl rfl rfl rfl SlOf.imm (by omega) (by omega) ?_
     refine RL.ldS (i := i232) (r := (TR.sl TR.int)) (e' := y242) 0 Try_ln24 rfl rfl rfl rfl SlOf.imm e243 Part.self ?_
     intro v332
     refine RL.reL (L' := [imm (TR.sl (TR.sl TR.int)) v0 x0, own 3 TR.int v12 l270, imm (TR.sl TR.int) v329 y313, imm (TR.sl TR.int) v332 y242]) rfl ?_
     refine RL.mv rfl rfl rfl ?_
     obtain ⟨y333, e334, h306⟩ := bind_some h306
     refine RL.idxS (sz := 1) 3 Try.underlying24 Try_ln3 rfl rfl rfl rfl rfl SlOf.imm (idx_some e334).1 (idx_some e334).2.1 ?_
     refine RL.ldSx (i := i303) (e' := y333) 3 Ex.ik Try_ln3 rfl rfl rfl rfl SlOf.imm (idx_some e334).2.2 Part.self ?_
     refine RL.binI (v := .int .i64 (wsub y330 y333)) rfl rfl rfl rfl rfl ?_
     refine RL.maxI rfl rfl rfl rfl ?_
     obtain ⟨y335, e336, h306⟩ := bind_some h306
     refine RL.idxS (sz := 1) 1 Try.underlying24 Try_ln3 rfl rfl rfl rfl rfl SlOf.own (idx_some e336).1 (idx_some e336).2.1 ?_
     refine RL.finH ?_
     refine RL.stS (i := i232) (e' := if (wsub y330 y333) > y327 then wsub y330 y333 else y327) (e1 := if (wsub y330 y333) > y327 then wsub y330 y333 else y327) (r := TR.int) 1 Try_ln3 rfl rfl rfl rfl VR.int rfl (idx_some e336).2.2 Upd.self ?_
     refine RL.finG ?_
     refine GL.weak (env' := [(0, v0), (5, v12), (6, .int .i64 (i232 : Int)), (17, .int .i64 ((x0).length : Int)), (18, .int .i64 (i232 : Int)), (22, .int .i64 ((x0).length : Int)), (23, .int .i64 (i303 : Int))]) (L' := [imm (TR.sl (TR.sl TR.int)) v0 x0, own 3 TR.int v12 (List.set l270 i232 (if (wsub y330 y333) > y327 then wsub y330 y333 else y327))]) (fun a w st => St.cut [0, 1] ⟨rfl, rfl, rfl, rfl, rfl, rfl, rfl, trivial⟩ (by decide) rfl st) ?_
     refine GL.nilB ?_
     refine GL.region ?_
     refine RL.binI (v := .int .i64 ((i303 + 1 : Nat) : Int)) rfl rfl rfl rfl (binI_succ i303 (by omega)) ?_
     refine RL.mv rfl rfl rfl ?_
     refine RL.fin ?_
     cases h306
     exact fun a w st => lop_intro (i303 + 1, r315, (List.set l270 i232 (if (wsub y330 y333) > y327 then wsub y330 y333 else y327))) ⟨by show i303 + 1 + r315.length = (x0).length; simp only [List.length_cons] at h309; omega, h316, h307⟩ (by simp) (St.cut [0, 1] ⟨rfl, rfl, rfl, rfl, rfl, rfl, rfl, trivial⟩ (by decide) rfl st)
    have h312 : ¬ i303 < (x0).length := by have := of_decide_eq_false b311; omega
    obtain rfl : r304 = [] := by rw [← h310]; exact List.drop_of_length_le (by omega)
    replace h308 : some (Fl.nx _) = some y296 := h308
    cases h308
    exact GL.exit (fun a w st => mid_intro l270 h299 (St.cut [0, 1] ⟨rfl, rfl, rfl, rfl, trivial⟩ (by decide) rfl st))
   rintro l270 h337
   have h338 := h300 _ h337
   try dsimp only at h338
   refine GL.weak (env' := [(0, v0), (5, v12), (17, .int .i64 ((x0).length : Int)), (18, .int .i64 (i232 : Int))]) (L' := [imm (TR.sl (TR.sl TR.int)) v0 x0, own 3 TR.int v12 l270]) (fun _ _ st => st) ?_
   refine GL.nilB ?_
   refine GL.region ?_
   refine RL.binI (v := .int .i64 ((i232 + 1 : Nat) : Int)) rfl rfl rfl rfl (binI_succ i232 (by omega)) ?_
   refine RL.mv rfl rfl rfl ?_
   refine RL.fin ?_
   cases h338
   exact fun a w st => lop_intro (i232 + 1, r244, l270) ⟨by show i232 + 1 + r244.length = (x0).length; simp only [List.length_cons] at h238; omega, h245, h236⟩ (by simp) (St.cut [0, 1] ⟨rfl, rfl, rfl, rfl, trivial⟩ (by decide) rfl st)
  have h241 : ¬ i232 < (x0).length := by have := of_decide_eq_false b240; omega
  obtain rfl : r233 = [] := by rw [← h239]; exact List.drop_of_length_le (by omega)
  replace h237 : some (Fl.nx _) = some y225 := h237
  cases h237
  exact GL.exit (fun a w st => mid_intro l118 h228 (St.cut [1] ⟨rfl, trivial⟩ (by decide) rfl st))
 rintro l118 h339
 have h340 := h229 _ h339
 try dsimp only at h340
 refine GL.weak (env' := [(5, v12)]) (L' := [own 3 TR.int v12 l118]) (fun _ _ st => st) ?_
 refine GL.seq ?_
 refine GL.region ?_
 refine RL.mv rfl rfl rfl ?_
 refine RL.asg rfl rfl rfl ?_
 refine RL.asg rfl rfl rfl ?_
 refine RL.finG ?_
 have h340 := Option.some.inj h340
 subst h340
 exact GL.ret (Gx.ret (v := .tuple #[v12, .int .i64 (0 : Int)]) (res2 rfl rfl rfl) (fun a w st => (st.pick [0] (by decide) rfl).toPost v12))

set_option maxHeartbeats 4000000 in
theorem rules_rounds_c (S : Hp) (w : World) (hS : S.sub w) (x0 : Int) (v1 : Value) (x1 : (List (List Int))) (k1 : ((TR.sl (TR.sl TR.int))).vrep S v1 x1) (res : (List Int)) (hm : rules_rounds_m x0 x1 = some res) : Calls Try.prog 107 #[.int .i64 x0, v1] w (Post w S (fun (o : Value) => o) (fun (o : Value) => [own 3 TR.int o res])) := by
 refine calls_enter 69 Try.func107 Try.ntmps107 rfl S false [(0, .int .i64 x0), (1, v1)] [imm (TR.sl (TR.sl TR.int)) v1 x1] rfl ⟨rfl, ⟨rfl, trivial⟩⟩ hS ⟨k1, trivial⟩ ?_
 unfold rules_rounds_m at hm
 refine GL.seq ?_
 refine GL.region ?_
 refine RL.asg rfl rfl rfl ?_
 refine RL.finG ?_
 refine GL.seq ?_
 refine GL.region ?_
 refine RL.alloc (t := (TR.arr 6 TR.bool)) (z := (List.replicate 6 false)) Try_lo112 (fun S => ⟨rfl, ⟨_, _, rfl, rfl, ⟨_, _, rfl, rfl, ⟨_, _, rfl, rfl, ⟨_, _, rfl, rfl, ⟨_, _, rfl, rfl, ⟨_, _, rfl, rfl, rfl⟩⟩⟩⟩⟩⟩⟩) rfl rfl rfl ?_
 intro v4
 refine RL.finG ?_
 refine GL.seq ?_
 refine GL.region ?_
 refine RL.mv rfl rfl rfl ?_
 refine RL.asg rfl rfl rfl ?_
 refine RL.finG ?_
 obtain ⟨y724, K725, h726, h727, h728, h729, h730⟩ := bindR_K hm
 refine GL.join (ι := (List Bool) × Int) (fun (p : (List Bool) × Int) => []) (fun (p : (List Bool) × Int) => []) (fun (p : (List Bool) × Int) => K725 (.nx (p.1, p.2))) ?_ ?_
 ·refine GL.block ?_
  refine GL.loop (ι := Nat × (List Bool) × Int) (fun (p : Nat × (List Bool) × Int) => [(0, .int .i64 x0), (1, v1), (5, v4), (6, .int .i64 p.2.2)]) (fun (p : Nat × (List Bool) × Int) => [imm (TR.sl (TR.sl TR.int)) v1 x1, obox 112 (TR.arr 6 TR.bool) v4 p.2.1]) (fun (p : Nat × (List Bool) × Int) => loopM (rules_rounds_b1 x1 x0) p.1 (p.2.1, p.2.2) = some y724) (fun (p : Nat × (List Bool) × Int) => p.1) (1048576, (List.replicate 6 false), x0) h726 (fun a w st => St.cut [0, 1] ⟨rfl, rfl, rfl, rfl, trivial⟩ (by decide) rfl st) ?_
  rintro ⟨r732, l364, x365⟩ h736
  try dsimp only at h736
  refine GL.weak (env' := [(0, .int .i64 x0), (1, v1), (5, v4), (6, .int .i64 x365)]) (L' := [imm (TR.sl (TR.sl TR.int)) v1 x1, obox 112 (TR.arr 6 TR.bool) v4 l364]) (fun _ _ st => st) ?_
  obtain ⟨r739, z733, hr, h734, h735⟩ := loopM_some h736
  subst hr
  unfold rules_rounds_b1 at h734
  try dsimp only at h734
  refine GL.block ?_
  refine GL.seq ?_
  refine GL.region ?_
  refine RL.alloc (t := (TR.arr 6 TR.int)) (z := (List.replicate 6 (0 : Int))) Try_lo144 (fun S => ⟨rfl, ⟨_, _, rfl, rfl, ⟨_, _, rfl, rfl, ⟨_, _, rfl, rfl, ⟨_, _, rfl, rfl, ⟨_, _, rfl, rfl, ⟨_, _, rfl, rfl, rfl⟩⟩⟩⟩⟩⟩⟩) rfl rfl rfl ?_
  intro v741
  refine RL.finG ?_
  refine GL.seq ?_
  refine GL.seq ?_
  refine GL.region ?_
  refine RL.mv rfl rfl rfl ?_
  refine RL.lenS 0 Try.underlying37 rfl rfl rfl rfl SlOf.imm ?_
  refine RL.mv rfl rfl rfl ?_
  refine RL.finG ?_
  refine GL.open_ 0 rfl (fun S h => len_imm S h) (fun n899 => ?_)
  obtain ⟨y900, K901, h902, h903, h904, h905, h906⟩ := bindF_K h734
  refine GL.join (ι := (List Int)) (fun (p : (List Int)) => [(0, .int .i64 x0), (1, v1), (5, v4), (6, .int .i64 x365), (7, v741)]) (fun (p : (List Int)) => [imm (TR.sl (TR.sl TR.int)) v1 x1, obox 112 (TR.arr 6 TR.bool) v4 l364, obox 144 (TR.arr 6 TR.int) v741 p]) (fun (p : (List Int)) => K901 (.nx p)) ?_ ?_
  ·refine GL.block ?_
   refine GL.loop (ι := Nat × (List (List Int)) × (List Int)) (fun (p : Nat × (List (List Int)) × (List Int)) => [(0, .int .i64 x0), (1, v1), (5, v4), (6, .int .i64 x365), (7, v741), (15, v1), (16, .int .i64 ((x1).length : Int)), (17, .int .i64 (p.1 : Int))]) (fun (p : Nat × (List (List Int)) × (List Int)) => [imm (TR.sl (TR.sl TR.int)) v1 x1, obox 112 (TR.arr 6 TR.bool) v4 l364, obox 144 (TR.arr 6 TR.int) v741 p.2.2]) (fun (p : Nat × (List (List Int)) × (List Int)) => p.1 + p.2.1.length = (x1).length ∧ List.drop p.1 x1 = p.2.1 ∧ rangeL (rules_rounds_b2 l364) p.2.1 p.1 p.2.2 = some y900) (fun (p : Nat × (List (List Int)) × (List Int)) => p.2.1.length) (0, x1, (List.replicate 6 (0 : Int))) ⟨by simp, by simp, h902⟩ (fun a w st => St.cut [0, 1, 2] ⟨rfl, rfl, rfl, rfl, rfl, rfl, rfl, rfl, trivial⟩ (by decide) rfl st) ?_
   rintro ⟨i907, r908, l820⟩ ⟨h913, h914, h912⟩
   try dsimp only at h913 h914 h912
   refine GL.weak (env' := [(0, .int .i64 x0), (1, v1), (5, v4), (6, .int .i64 x365), (7, v741), (15, v1), (16, .int .i64 ((x1).length : Int)), (17, .int .i64 (i907 : Int))]) (L' := [imm (TR.sl (TR.sl TR.int)) v1 x1, obox 112 (TR.arr 6 TR.bool) v4 l364, obox 144 (TR.arr 6 TR.int) v741 l820]) (fun _ _ st => st) ?_
   refine GL.seq ?_
   refine GL.region ?_
   refine RL.binI (v := .bool (decide ((i907 : Int) < ((x1).length : Int)))) rfl rfl rfl rfl rfl ?_
   refine RL.finG ?_
   refine GL.seq ?_
   refine GL.cond rfl (fun b915 => ?_) (fun b915 => ?_)
   ·have h916 : i907 < (x1).length := by have := of_decide_eq_true b915; omega
    obtain ⟨y917, r919, hr, e918, h920⟩ := drop_cons h914 rfl h916
    subst hr
    obtain ⟨z909, h910, h911⟩ := rangeL_some h912
    unfold rules_rounds_b2 at h910
    try dsimp only at h910
    refine GL.skip ?_
    refine GL.seq ?_
    refine GL.block ?_
    refine GL.seq ?_
    refine GL.region ?_
    refine RL.idxS (sz := 1) 0 Try.underlying37 Try_ln24 rfl rfl rfl rfl rfl SlOf.imm (by omega) (by omega) ?_
    refine RL.ldS (i := i907) (r := (TR.sl TR.int)) (e' := y917) 0 Try_ln24 rfl rfl rfl rfl SlOf.imm e918 Part.self ?_
    intro v922
    refine RL.asg rfl rfl rfl ?_
    refine RL.finG ?_
    refine GL.seq ?_
    refine GL.region ?_
    refine RL.mv rfl rfl rfl ?_
    refine RL.lenS 3 Try.underlying24 rfl rfl rfl rfl SlOf.imm ?_
    refine RL.mv rfl rfl rfl ?_
    refine RL.finG ?_
    refine GL.open_ 3 rfl (fun S h => len_imm S h) (fun n958 => ?_)
    obtain ⟨y959, K960, h961, h962, h963, h964, h965⟩ := bindF_K h910
    refine GL.join (ι := (List Int)) (fun (p : (List Int)) => [(0, .int .i64 x0), (1, v1), (5, v4), (6, .int .i64 x365), (7, v741), (15, v1), (16, .int .i64 ((x1).length : Int)), (17, .int .i64 (i907 : Int))]) (fun (p : (List Int)) => [imm (TR.sl (TR.sl TR.int)) v1 x1, obox 112 (TR.arr 6 TR.bool) v4 l364, obox 144 (TR.arr 6 TR.int) v741 p]) (fun (p : (List Int)) => K960 (.nx p)) ?_ ?_
    ·refine GL.block ?_
     refine GL.loop (ι := Nat × (List Int) × (List Int)) (fun (p : Nat × (List Int) × (List Int)) => [(0, .int .i64 x0), (1, v1), (5, v4), (6, .int .i64 x365), (7, v741), (15, v1), (16, .int .i64 ((x1).length : Int)), (17, .int .i64 (i907 : Int)), (21, v922), (22, .int .i64 ((y917).length : Int)), (23, .int .i64 (p.1 : Int))]) (fun (p : Nat × (List Int) × (List Int)) => [imm (TR.sl (TR.sl TR.int)) v1 x1, obox 112 (TR.arr 6 TR.bool) v4 l364, obox 144 (TR.arr 6 TR.int) v741 p.2.2, imm (TR.sl TR.int) v922 y917]) (fun (p : Nat × (List Int) × (List Int)) => p.1 + p.2.1.length = (y917).length ∧ List.drop p.1 y917 = p.2.1 ∧ rangeL (rules_rounds_b3 l364) p.2.1 p.1 p.2.2 = some y959) (fun (p : Nat × (List Int) × (List Int)) => p.2.1.length) (0, y917, l820) ⟨by simp, by simp, h961⟩ (fun a w st => St.cut [0, 1, 2, 3] ⟨rfl, rfl, rfl, rfl, rfl, rfl, rfl, rfl, rfl, rfl, rfl, trivial⟩ (by decide) rfl st) ?_
     rintro ⟨i966, r967, l940⟩ ⟨h972, h973, h971⟩
     try dsimp only at h972 h973 h971
     refine GL.weak (env' := [(0, .int .i64 x0), (1, v1), (5, v4), (6, .int .i64 x365), (7, v741), (15, v1), (16, .int .i64 ((x1).length : Int)), (17, .int .i64 (i907 : Int)), (21, v922), (22, .int .i64 ((y917).length : Int)), (23, .int .i64 (i966 : Int))]) (L' := [imm (TR.sl (TR.sl TR.int)) v1 x1, obox 112 (TR.arr 6 TR.bool) v4 l364, obox 144 (TR.arr 6 TR.int) v741 l940, imm (TR.sl TR.int) v922 y917]) (fun _ _ st => st) ?_
     refine GL.seq ?_
     refine GL.region ?_
     refine RL.binI (v := .bool (decide ((i966 : Int) < ((y917).length : Int)))) rfl rfl rfl rfl rfl ?_
     refine RL.finG ?_
     refine GL.seq ?_
     refine GL.cond rfl (fun b974 => ?_) (fun b974 => ?_)
     ·have h975 : i966 < (y917).length := by have := of_decide_eq_true b974; omega
      obtain ⟨y976, r978, hr, e977, h979⟩ := drop_cons h973 rfl h975
      subst hr
      obtain ⟨z968, h969, h970⟩ := rangeL_some h971
      unfold rules_rounds_b3 at h969
      try dsimp only at h969
      refine GL.skip ?_
      refine GL.seq ?_
      refine GL.block ?_
      refine GL.seq ?_
      refine GL.region ?_
      refine RL.idxS (sz := 1) 3 Try.underlying24 Try_ln3 rfl rfl rfl rfl rfl SlOf.imm (by omega) (by omega) ?_
      refine RL.ldSx (i := i966) (e' := y976) 3 Ex.ik Try_ln3 rfl rfl rfl rfl SlOf.imm e977 Part.self ?_
      refine RL.asg rfl rfl rfl ?_
      refine RL.finG ?_
      refine GL.seq ?_
      refine GL.region ?_
      refine RL.mv rfl rfl rfl ?_
      obtain ⟨y982, e983, h969⟩ := bind_some h969
      refine RL.idxA0 (sz := 1) (t' := TR.bool) 1 Try.underlying112 Try_ln4 rfl rfl rfl PtOf.obox rfl rfl Part.self (idx_some e983).1 (idx_some e983).2.1 ?_
      refine RL.ldPx (off := ((y976).toNat * 1)) (e' := y982) 1 Ex.bool Try_ln4 rfl rfl (Or.inl rfl) rfl PtOf.obox (Part.arr (idx_some e983).2.2 Part.self) ?_
      refine RL.notB rfl rfl rfl ?_
      refine RL.finG ?_
      refine GL.cond rfl (fun b984 => ?_) (fun b984 => ?_)
      ·replace h969 := ite_t b984 h969
       refine GL.seq ?_
       refine GL.region ?_
       refine RL.mv rfl rfl rfl ?_
       obtain ⟨y989, e990, h969⟩ := bind_some h969
       refine RL.idxA0 (sz := 1) (t' := TR.int) 2 Try.underlying144 Try_ln3 rfl rfl rfl PtOf.obox rfl rfl Part.self (idx_some e990).1 (idx_some e990).2.1 ?_
       refine RL.ldPx (off := ((y976).toNat * 1)) (e' := y989) 2 Ex.ik Try_ln3 rfl rfl (Or.inl rfl) rfl PtOf.obox (Part.arr (idx_some e990).2.2 Part.self) ?_
       refine RL.binI (v := .int .i64 (wadd y989 (1 : Int))) rfl rfl rfl rfl rfl ?_
       obtain ⟨y991, e992, h969⟩ := bind_some h969
       refine RL.idxA0 (sz := 1) (t' := TR.int) 2 Try.underlying144 Try_ln3 rfl rfl rfl PtOf.obox rfl rfl Part.self (idx_some e992).1 (idx_some e992).2.1 ?_
       refine RL.stP (off := ((y976).toNat * 1)) (e' := wadd y989 (1 : Int)) (d1 := (List.set l940 ((y976).toNat) (wadd y989 (1 : Int)))) (r := TR.int) 2 Try_ln3 rfl rfl (Or.inl rfl) rfl VR.int rfl (Upd.arr (idx_some e992).2.2 Upd.self) ?_
       refine RL.finG ?_
       cases h969
       replace h970 : some (Fl.nx _) = some y959 := h970
       cases h970
       exact GL.exit (fun a w st => mid_intro (List.set l940 ((y976).toNat) (wadd y989 (1 : Int))) h962 (St.cut [0, 1, 2] ⟨rfl, rfl, rfl, rfl, rfl, rfl, rfl, rfl, trivial⟩ (by decide) rfl st))
      replace h969 := ite_f b984 h969
      refine GL.skip ?_
      refine GL.nilB ?_
      refine GL.region ?_
      refine RL.binI (v := .int .i64 ((i966 + 1 : Nat) : Int)) rfl rfl rfl rfl (binI_succ i966 (by omega)) ?_
      refine RL.mv rfl rfl rfl ?_
      refine RL.fin ?_
      cases h969
      exact fun a w st => lop_intro (i966 + 1, r978, l940) ⟨by show i966 + 1 + r978.length = (y917).length; simp only [List.length_cons] at h972; omega, h979, h970⟩ (by simp) (St.cut [0, 1, 2, 3] ⟨rfl, rfl, rfl, rfl, rfl, rfl, rfl, rfl, rfl, rfl, rfl, trivial⟩ (by decide) rfl st)
     have h975 : ¬ i966 < (y917).length := by have := of_decide_eq_false b974; omega
     obtain rfl : r967 = [] := by rw [← h973]; exact List.drop_of_length_le (by omega)
     replace h971 : some (Fl.nx _) = some y959 := h971
     cases h971
     exact GL.exit (fun a w st => mid_intro l940 h962 (St.cut [0, 1, 2] ⟨rfl, rfl, rfl, rfl, rfl, rfl, rfl, rfl, trivial⟩ (by decide) rfl st))
    rintro l940 h993
    have h994 := h963 _ h993
    try dsimp only at h994
    refine GL.weak (env' := [(0, .int .i64 x0), (1, v1), (5, v4), (6, .int .i64 x365), (7, v741), (15, v1), (16, .int .i64 ((x1).length : Int)), (17, .int .i64 (i907 : Int))]) (L' := [imm (TR.sl (TR.sl TR.int)) v1 x1, obox 112 (TR.arr 6 TR.bool) v4 l364, obox 144 (TR.arr 6 TR.int) v741 l940]) (fun _ _ st => st) ?_
    refine GL.nilB ?_
    refine GL.region ?_
    refine RL.binI (v := .int .i64 ((i907 + 1 : Nat) : Int)) rfl rfl rfl rfl (binI_succ i907 (by omega)) ?_
    refine RL.mv rfl rfl rfl ?_
    refine RL.fin ?_
    cases h994
    exact fun a w st => lop_intro (i907 + 1, r919, l940) ⟨by show i907 + 1 + r919.length = (x1).length; simp only [List.length_cons] at h913; omega, h920, h911⟩ (by simp) (St.cut [0, 1, 2] ⟨rfl, rfl, rfl, rfl, rfl, rfl, rfl, rfl, trivial⟩ (by decide) rfl st)
   have h916 : ¬ i907 < (x1).length := by have := of_decide_eq_false b915; omega
   obtain rfl : r908 = [] := by rw [← h914]; exact List.drop_of_length_le (by omega)
   replace h912 : some (Fl.nx _) = some y900 := h912
   cases h912
   exact GL.exit (fun a w st => mid_intro l820 h903 (St.cut [0, 1, 2] ⟨rfl, rfl, rfl, rfl, rfl, trivial⟩ (by decide) rfl st))
  rintro l820 h995
  have h996 := h904 _ h995
  try dsimp only at h996
  refine GL.weak (env' := [(0, .int .i64 x0), (1, v1), (5, v4), (6, .int .i64 x365), (7, v741)]) (L' := [imm (TR.sl (TR.sl TR.int)) v1 x1, obox 112 (TR.arr 6 TR.bool) v4 l364, obox 144 (TR.arr 6 TR.int) v741 l820]) (fun _ _ st => st) ?_
  refine GL.seq ?_
  refine GL.region ?_
  refine RL.asg rfl rfl rfl ?_
  refine RL.finG ?_
  refine GL.seq ?_
  refine GL.seq ?_
  refine GL.region ?_
  refine RL.mv rfl rfl rfl ?_
  refine RL.mv rfl rfl rfl ?_
  refine RL.finG ?_
  obtain ⟨y1034, e1035, h996⟩ := bind_some h996
  replace e1035 := chk_some e1035
  obtain ⟨y1036, K1037, h1038, h1039, h1040, h1041, h1042⟩ := bindF_K h996
  refine GL.join (ι := Int) (fun (p : Int) => [(0, .int .i64 x0), (1, v1), (5, v4), (6, .int .i64 x365), (12, .int .i64 p)]) (fun (p : Int) => [imm (TR.sl (TR.sl TR.int)) v1 x1, obox 112 (TR.arr 6 TR.bool) v4 l364]) (fun (p : Int) => K1037 (.nx p)) ?_ ?_
  ·refine GL.block ?_
   refine GL.loop (ι := Nat × Nat × Int) (fun (p : Nat × Nat × Int) => [(0, .int .i64 x0), (1, v1), (5, v4), (6, .int .i64 x365), (7, v741), (12, .int .i64 p.2.2), (38, .int .i64 x0), (39, .int .i64 (p.1 : Int))]) (fun (p : Nat × Nat × Int) => [imm (TR.sl (TR.sl TR.int)) v1 x1, obox 112 (TR.arr 6 TR.bool) v4 l364, obox 144 (TR.arr 6 TR.int) v741 l820]) (fun (p : Nat × Nat × Int) => p.1 + p.2.1 = (x0).toNat ∧ rangeN (rules_rounds_b4 l364 l820) p.2.1 p.1 p.2.2 = some y1036) (fun (p : Nat × Nat × Int) => p.2.1) (0, (x0).toNat, (-1 : Int)) ⟨by simp, h1038⟩ (fun a w st => St.cut [0, 1, 2] ⟨rfl, rfl, rfl, rfl, rfl, rfl, rfl, rfl, trivial⟩ (by decide) rfl st) ?_
   rintro ⟨i1043, r1044, x997⟩ ⟨h1049, h1048⟩
   try dsimp only at h1049 h1048
   refine GL.weak (env' := [(0, .int .i64 x0), (1, v1), (5, v4), (6, .int .i64 x365), (7, v741), (12, .int .i64 x997), (38, .int .i64 x0), (39, .int .i64 (i1043 : Int))]) (L' := [imm (TR.sl (TR.sl TR.int)) v1 x1, obox 112 (TR.arr 6 TR.bool) v4 l364, obox 144 (TR.arr 6 TR.int) v741 l820]) (fun _ _ st => st) ?_
   refine GL.seq ?_
   refine GL.region ?_
   refine RL.binI (v := .bool (decide ((i1043 : Int) < x0))) rfl rfl rfl rfl rfl ?_
   refine RL.finG ?_
   refine GL.seq ?_
   refine GL.cond rfl (fun b1051 => ?_) (fun b1051 => ?_)
   ·have h1052 : i1043 < (x0).toNat := by have := of_decide_eq_true b1051; omega
    obtain ⟨r1053, hr⟩ : ∃ m, r1044 = m + 1 := ⟨r1044 - 1, by omega⟩
    subst hr
    obtain ⟨z1045, h1046, h1047⟩ := rangeN_some h1048
    unfold rules_rounds_b4 at h1046
    try dsimp only at h1046
    refine GL.skip ?_
    refine GL.seq ?_
    refine GL.block ?_
    refine GL.seq ?_
    refine GL.region ?_
    refine RL.mv rfl rfl rfl ?_
    refine RL.asg rfl rfl rfl ?_
    refine RL.finG ?_
    refine GL.seq ?_
    obtain ⟨y1071, K1072, h1073, h1074, h1075, h1076, h1077⟩ := bindF_K h1046
    refine GL.join (ι := Bool) (fun (p : Bool) => [(0, .int .i64 x0), (1, v1), (5, v4), (6, .int .i64 x365), (7, v741), (12, .int .i64 x997), (13, .int .i64 (i1043 : Int)), (38, .int .i64 x0), (39, .int .i64 (i1043 : Int)), (58, .bool p)]) (fun (p : Bool) => [imm (TR.sl (TR.sl TR.int)) v1 x1, obox 112 (TR.arr 6 TR.bool) v4 l364, obox 144 (TR.arr 6 TR.int) v741 l820]) (fun (p : Bool) => K1072 (.nx p)) ?_ ?_
    ·skip
     refine GL.regionQ rfl rfl (by kernel_rfl) ?_
     refine RL.mv rfl rfl rfl ?_
     obtain ⟨y1078, e1079, h1073⟩ := bind_some h1073
     refine RL.idxA0 (sz := 1) (t' := TR.bool) 1 Try.underlying112 Try_ln4 rfl rfl rfl PtOf.obox rfl rfl Part.self (idx_some e1079).1 (idx_some e1079).2.1 ?_
     refine RL.ldPx (off := (i1043 * 1)) (e' := y1078) 1 Ex.bool Try_ln4 rfl rfl (Or.inl rfl) rfl PtOf.obox (Part.arr (idx_some e1079).2.2 Part.self) ?_
     refine RL.notB rfl rfl rfl ?_
     refine RL.mv rfl rfl rfl ?_
     refine RL.split (t := 46) rfl (fun b1080 => ?_) (fun b1080 => ?_)
     ·replace h1073 := ite_t b1080 h1073
      refine RL.mv rfl rfl rfl ?_
      refine RL.binI (v := .bool (decide (x997 < (0 : Int)))) rfl rfl rfl rfl rfl ?_
      refine RL.mv rfl rfl rfl ?_
      refine RL.split (t := 49) rfl (fun b1081 => ?_) (fun b1081 => ?_)
      ·replace h1073 := ite_t b1081 h1073
       refine RL.skip rfl rfl ?_
       refine RL.skip rfl rfl ?_
       refine RL.skip rfl rfl ?_
       refine RL.skip rfl rfl ?_
       refine RL.skip rfl rfl ?_
       refine RL.skip rfl rfl ?_
       refine RL.skip rfl rfl ?_
       refine RL.pickT rfl rfl rfl rfl ?_
       refine RL.pickT rfl rfl rfl rfl ?_
       refine RL.finQ ?_
       cases h1073
       exact fun a w st => mid_intro true h1074 (St.cut [0, 1, 2] ⟨rfl, rfl, rfl, rfl, rfl, rfl, rfl, rfl, rfl, rfl, trivial⟩ (by decide) rfl st)
      replace h1073 := ite_f b1081 h1073
      refine RL.mv rfl rfl rfl ?_
      obtain ⟨y1082, e1083, h1073⟩ := bind_some h1073
      refine RL.idxA0 (sz := 1) (t' := TR.int) 2 Try.underlying144 Try_ln3 rfl rfl rfl PtOf.obox rfl rfl Part.self (idx_some e1083).1 (idx_some e1083).2.1 ?_
      refine RL.ldPx (off := (i1043 * 1)) (e' := y1082) 2 Ex.ik Try_ln3 rfl rfl (Or.inl rfl) rfl PtOf.obox (Part.arr (idx_some e1083).2.2 Part.self) ?_
      refine RL.mv rfl rfl rfl ?_
      obtain ⟨y1084, e1085, h1073⟩ := bind_some h1073
      refine RL.idxA0 (sz := 1) (t' := TR.int) 2 Try.underlying144 Try_ln3 rfl rfl rfl PtOf.obox rfl rfl Part.self (idx_some e1085).1 (idx_some e1085).2.1 ?_
      refine RL.ldPx (off := ((x997).toNat * 1)) (e' := y1084) 2 Ex.ik Try_ln3 rfl rfl (Or.inl rfl) rfl PtOf.obox (Part.arr (idx_some e1085).2.2 Part.self) ?_
      refine RL.binI (v := .bool (decide (y1082 ≤ y1084))) rfl rfl rfl rfl rfl ?_
      refine RL.pickF rfl rfl rfl rfl ?_
      refine RL.pickT rfl rfl rfl rfl ?_
      refine RL.finQ ?_
      cases h1073
      exact fun a w st => mid_intro (decide (y1082 ≤ y1084)) h1074 (St.cut [0, 1, 2] ⟨rfl, rfl, rfl, rfl, rfl, rfl, rfl, rfl, rfl, rfl, trivial⟩ (by decide) rfl st)
     replace h1073 := ite_f b1080 h1073
     refine RL.skip rfl rfl ?_
     refine RL.skip rfl rfl ?_
     refine RL.skip rfl rfl ?_
     refine RL.skip rfl rfl ?_
     refine RL.skip rfl rfl ?_
     refine RL.skip rfl rfl ?_
     refine RL.skip rfl rfl ?_
     refine RL.skip rfl rfl ?_
     refine RL.skip rfl rfl ?_
     refine RL.skip rfl rfl ?_
     refine RL.skip rfl rfl ?_
     refine RL.pickF rfl rfl rfl rfl ?_
     refine RL.finQ ?_
     cases h1073
     exact fun a w st => mid_intro false h1074 (St.cut [0, 1, 2] ⟨rfl, rfl, rfl, rfl, rfl, rfl, rfl, rfl, rfl, rfl, trivial⟩ (by decide) rfl st)
    rintro x1070 h1086
    have h1087 := h1075 _ h1086
    try dsimp only at h1087
    refine GL.weak (env' := [(0, .int .i64 x0), (1, v1), (5, v4), (6, .int .i64 x365), (7, v741), (12, .int .i64 x997), (13, .int .i64 (i1043 : Int)), (38, .int .i64 x0), (39, .int .i64 (i1043 : Int)), (58, .bool x1070)]) (L' := [imm (TR.sl (TR.sl TR.int)) v1 x1, obox 112 (TR.arr 6 TR.bool) v4 l364, obox 144 (TR.arr 6 TR.int) v741 l820]) (fun _ _ st => st) ?_
    refine GL.cond rfl (fun b1088 => ?_) (fun b1088 => ?_)
    ·replace h1087 := ite_t b1088 h1087
     refine GL.region ?_
     refine RL.mv rfl rfl rfl ?_
     refine RL.asg rfl rfl rfl ?_
     refine RL.finG ?_
     refine GL.nilB ?_
     refine GL.region ?_
     refine RL.binI (v := .int .i64 ((i1043 + 1 : Nat) : Int)) rfl rfl rfl rfl (binI_succ i1043 (by omega)) ?_
     refine RL.mv rfl rfl rfl ?_
     refine RL.fin ?_
     cases h1087
     exact fun a w st => lop_intro (i1043 + 1, r1053, (i1043 : Int)) ⟨by show i1043 + 1 + r1053 = (x0).toNat; omega, h1047⟩ (by simp) (St.cut [0, 1, 2] ⟨rfl, rfl, rfl, rfl, rfl, rfl, rfl, rfl, trivial⟩ (by decide) rfl st)
    replace h1087 := ite_f b1088 h1087
    refine GL.skip ?_
    refine GL.nilB ?_
    refine GL.region ?_
    refine RL.binI (v := .int .i64 ((i1043 + 1 : Nat) : Int)) rfl rfl rfl rfl (binI_succ i1043 (by omega)) ?_
    refine RL.mv rfl rfl rfl ?_
    refine RL.fin ?_
    cases h1087
    exact fun a w st => lop_intro (i1043 + 1, r1053, x997) ⟨by show i1043 + 1 + r1053 = (x0).toNat; omega, h1047⟩ (by simp) (St.cut [0, 1, 2] ⟨rfl, rfl, rfl, rfl, rfl, rfl, rfl, rfl, trivial⟩ (by decide) rfl st)
   have h1052 : ¬ i1043 < (x0).toNat := by have := of_decide_eq_false b1051; omega
   obtain rfl : r1044 = 0 := by omega
   replace h1048 : some (Fl.nx _) = some y1036 := h1048
   cases h1048
   exact GL.exit (fun a w st => mid_intro x997 h1039 (St.cut [0, 1] ⟨rfl, rfl, rfl, rfl, rfl, trivial⟩ (by decide) rfl st))
  rintro x997 h1089
  have h1090 := h1040 _ h1089
  try dsimp only at h1090
  refine GL.weak (env' := [(0, .int .i64 x0), (1, v1), (5, v4), (6, .int .i64 x365), (12, .int .i64 x997)]) (L' := [imm (TR.sl (TR.sl TR.int)) v1 x1, obox 112 (TR.arr 6 TR.bool) v4 l364]) (fun _ _ st => st) ?_
  refine GL.seq ?_
  refine GL.seq ?_
  refine GL.region ?_
  refine RL.mv rfl rfl rfl ?_
  refine RL.binI (v := .bool (x365 == (1 : Int))) rfl rfl rfl rfl rfl ?_
  refine RL.finG ?_
  refine GL.cond rfl (fun b1091 => ?_) (fun b1091 => ?_)
  ·replace h1090 := ite_t b1091 h1090
   refine GL.seq ?_
   refine GL.region ?_
   refine RL.mv rfl rfl rfl ?_
   refine RL.bS (t := TR.int) (vs := [.int .i64 x997]) ([x997] : (List Int)) Try.underlying24 Try_lo3 rfl rfl rfl rfl ⟨VR.int, trivial⟩ rfl (by decide) ?_
   intro v1093
   refine RL.asg rfl rfl rfl ?_
   refine RL.finG ?_
   cases h1090
   replace h735 : some (Fl.rt _) = some y724 := h735
   cases h735
   have hh := h729 _ h727
   subst hh
   exact GL.ret (Gx.ret (v := v1093) (res1 rfl rfl) (fun a w st => (st.pick [2] (by decide) rfl).toPost v1093))
  replace h1090 := ite_f b1091 h1090
  refine GL.skip ?_
  refine GL.seq ?_
  refine GL.region ?_
  refine RL.mv rfl rfl rfl ?_
  obtain ⟨y1096, e1097, h1090⟩ := bind_some h1090
  refine RL.idxA0 (sz := 1) (t' := TR.bool) 1 Try.underlying112 Try_ln4 rfl rfl rfl PtOf.obox rfl rfl Part.self (idx_some e1097).1 (idx_some e1097).2.1 ?_
  refine RL.stP (off := ((x997).toNat * 1)) (e' := true) (d1 := (List.set l364 ((x997).toNat) true)) (r := TR.bool) 1 Try_ln4 rfl rfl (Or.inl rfl) rfl VR.bool rfl (Upd.arr (idx_some e1097).2.2 Upd.self) ?_
  refine RL.finG ?_
  refine GL.region ?_
  refine RL.mv rfl rfl rfl ?_
  refine RL.binI (v := .int .i64 (wsub x365 (1 : Int))) rfl rfl rfl rfl rfl ?_
  refine RL.asg rfl rfl rfl ?_
  refine RL.finG ?_
  refine GL.nilB ?_
  cases h1090
  exact fun a w st => lop_intro (r739, (List.set l364 ((x997).toNat) true), wsub x365 (1 : Int)) (by exact h735) (by simp) (St.cut [0, 1] ⟨rfl, rfl, rfl, rfl, trivial⟩ (by decide) rfl st)
 rintro ⟨l364, x365⟩ h1098
 have h1099 := h728 _ h1098
 try dsimp only at h1099
 cases h1099
end Go.Wk
