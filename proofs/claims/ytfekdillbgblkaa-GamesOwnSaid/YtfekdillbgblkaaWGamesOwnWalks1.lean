/- Each function comes to what its model says; printed by a program of this repository. -/
import Derived.Test.YtfekdillbgblkaaProg
import Derived.Test.YtfekdillbgblkaaWGamesOwnModels
import Derived.Test.YtfekdillbgblkaaFwY
import Derived.Test.YtfekdillbgblkaaFwV
namespace Go.Wk
open Go.Fw Go.Mo Go.Proofs Go.RowKit
set_option linter.all false
set_option maxRecDepth 100000
theorem loopNx {ρ σ β γ : Type} {body : σ → Option (Fl ρ β σ)} {n : Nat} {s : σ} {y : Fl ρ γ β} (h : stepM body n (.nx s) = some y) : loopM body n s = some y := h
theorem Try_info3 : (Try.prog.info? 3).map (fun i => (i.zero, i.size, i.bytes)) = some (some (.int .i64 0), 1, 8) := by kernel_rfl
theorem Try_ln3 : Ln Try.prog 3 1 false := Ln.of Try_info3 Try.underlying3 rfl
theorem Try_lo3 : LnO Try.prog 3 1 [.int .i64 0] := LnO.of Try_info3 rfl rfl (by decide) (by decide)
theorem Try_info4 : (Try.prog.info? 4).map (fun i => (i.zero, i.size, i.bytes)) = some (some (.bool false), 1, 1) := by kernel_rfl
theorem Try_ln4 : Ln Try.prog 4 1 false := Ln.of Try_info4 Try.underlying4 rfl
theorem Try_lo4 : LnO Try.prog 4 1 [.bool false] := LnO.of Try_info4 rfl rfl (by decide) (by decide)
theorem Try_info24 : (Try.prog.info? 24).map (fun i => (i.zero, i.size, i.bytes)) = some (some (.slice none 0 0), 1, 24) := by kernel_rfl
theorem Try_ln24 : Ln Try.prog 24 1 false := Ln.of Try_info24 Try.underlying24 rfl
theorem Try_lo24 : LnO Try.prog 24 1 [.slice none 0 0] := LnO.of Try_info24 rfl rfl (by decide) (by decide)
theorem Try_info25 : (Try.prog.info? 25).map (fun i => (i.zero, i.size, i.bytes)) = some (some (.int .i64 0), 1, 8) := by kernel_rfl
theorem Try_ln25 : Ln Try.prog 25 1 false := Ln.of Try_info25 Try.underlying25 rfl
theorem Try_lo25 : LnO Try.prog 25 1 [.int .i64 0] := LnO.of Try_info25 rfl rfl (by decide) (by decide)
theorem Try_info56 : (Try.prog.info? 56).map (fun i => (i.zero, i.size, i.bytes)) = some (some (.agg #[.int .i64 0, .int .i64 0]), 2, 16) := by kernel_rfl
theorem Try_ln56 : Ln Try.prog 56 2 true := Ln.of Try_info56 Try.underlying56 rfl
theorem Try_lo56 : LnO Try.prog 56 2 [.int .i64 0, .int .i64 0] := LnO.of Try_info56 rfl rfl (by decide) (by decide)
theorem Try_info111 : (Try.prog.info? 111).map (fun i => (i.zero, i.size, i.bytes)) = some (some (.agg #[.slice none 0 0]), 1, 24) := by kernel_rfl
theorem Try_ln111 : Ln Try.prog 111 1 true := Ln.of Try_info111 Try.underlying111 rfl
theorem Try_lo111 : LnO Try.prog 111 1 [.slice none 0 0] := LnO.of Try_info111 rfl rfl (by decide) (by decide)
theorem Try_info112 : (Try.prog.info? 112).map (fun i => (i.zero, i.size, i.bytes)) = some (some (.agg #[.bool false, .bool false, .bool false, .bool false, .bool false, .bool false]), 6, 6) := by kernel_rfl
theorem Try_ln112 : Ln Try.prog 112 6 true := Ln.of Try_info112 Try.underlying112 rfl
theorem Try_lo112 : LnO Try.prog 112 6 [.bool false, .bool false, .bool false, .bool false, .bool false, .bool false] := LnO.of Try_info112 rfl rfl (by decide) (by decide)
theorem Try_bld111 (pv : List (Nat × Value)) : Try.prog.built 111 pv = Instr.fill ((mkPlaces 0 [[.slice none 0 0]]).toArray[·]?) (List.flatten [[.slice none 0 0]]).toArray pv := by kernel_rfl
theorem Try_bld56 (pv : List (Nat × Value)) : Try.prog.built 56 pv = Instr.fill (fun i => some (i * 1, 1)) (List.flatten [[.int .i64 0], [.int .i64 0]]).toArray pv := by kernel_rfl
theorem Try_eq56 : EqT Try.prog 56 (TR.arr 2 TR.int) 2 := (EqT.arr Try.underlying56 Try_ln3 (EqT.int Try.underlying3) (by kernel_rfl))
theorem Try_fit125 : Fit Try.prog 125 := Fit.of Try.func125 (by kernel_rfl) rfl
theorem Try_fit18 : Fit Try.prog 18 := Fit.of Try.func18 (by kernel_rfl) rfl
theorem Try_fit20 : Fit Try.prog 20 := Fit.of Try.func20 (by kernel_rfl) rfl
theorem Try_fit21 : Fit Try.prog 21 := Fit.of Try.func21 (by kernel_rfl) rfl
theorem Try_fit22 : Fit Try.prog 22 := Fit.of Try.func22 (by kernel_rfl) rfl
theorem Try_fit26 : Fit Try.prog 26 := Fit.of Try.func26 (by kernel_rfl) rfl
theorem Try_fit27 : Fit Try.prog 27 := Fit.of Try.func27 (by kernel_rfl) rfl
theorem Try_fit28 : Fit Try.prog 28 := Fit.of Try.func28 (by kernel_rfl) rfl
theorem Try_fit29 : Fit Try.prog 29 := Fit.of Try.func29 (by kernel_rfl) rfl
theorem Try_fit30 : Fit Try.prog 30 := Fit.of Try.func30 (by kernel_rfl) rfl
theorem Try_fit31 : Fit Try.prog 31 := Fit.of Try.func31 (by kernel_rfl) rfl
theorem Try_fit32 : Fit Try.prog 32 := Fit.of Try.func32 (by kernel_rfl) rfl
theorem Try_fit33 : Fit Try.prog 33 := Fit.of Try.func33 (by kernel_rfl) rfl
theorem Try_fit34 : Fit Try.prog 34 := Fit.of Try.func34 (by kernel_rfl) rfl
theorem Try_fit35 : Fit Try.prog 35 := Fit.of Try.func35 (by kernel_rfl) rfl
theorem Try_fit36 : Fit Try.prog 36 := Fit.of Try.func36 (by kernel_rfl) rfl
theorem Try_fit37 : Fit Try.prog 37 := Fit.of Try.func37 (by kernel_rfl) rfl
theorem Try_fit38 : Fit Try.prog 38 := Fit.of Try.func38 (by kernel_rfl) rfl
theorem Try_fit39 : Fit Try.prog 39 := Fit.of Try.func39 (by kernel_rfl) rfl
theorem Try_fit82 : Fit Try.prog 82 := Fit.of Try.func82 (by kernel_rfl) rfl
theorem Try_fit83 : Fit Try.prog 83 := Fit.of Try.func83 (by kernel_rfl) rfl
theorem Try_fit86 : Fit Try.prog 86 := Fit.of Try.func86 (by kernel_rfl) rfl
theorem Try_fit87 : Fit Try.prog 87 := Fit.of Try.func87 (by kernel_rfl) rfl
theorem Try_fit88 : Fit Try.prog 88 := Fit.of Try.func88 (by kernel_rfl) rfl
theorem Try_fit89 : Fit Try.prog 89 := Fit.of Try.func89 (by kernel_rfl) rfl
theorem Try_fit90 : Fit Try.prog 90 := Fit.of Try.func90 (by kernel_rfl) rfl
theorem Try_fit91 : Fit Try.prog 91 := Fit.of Try.func91 (by kernel_rfl) rfl
theorem Try_fit92 : Fit Try.prog 92 := Fit.of Try.func92 (by kernel_rfl) rfl
theorem Try_fit93 : Fit Try.prog 93 := Fit.of Try.func93 (by kernel_rfl) rfl
theorem Try_fit94 : Fit Try.prog 94 := Fit.of Try.func94 (by kernel_rfl) rfl
theorem Try_fit95 : Fit Try.prog 95 := Fit.of Try.func95 (by kernel_rfl) rfl
theorem Try_fit96 : Fit Try.prog 96 := Fit.of Try.func96 (by kernel_rfl) rfl
theorem Try_fit97 : Fit Try.prog 97 := Fit.of Try.func97 (by kernel_rfl) rfl
theorem Try_fld111_0 (ad : Addr) (w : World) : (Instr.fieldAt 111 (.pointer (some ad)) 0).run Try.prog w = .ok (.pointer (some (ad.add 0))) w := by
  simp [Instr.fieldAt, run_underlying Try.underlying111, Instr.sureAddr, fieldPlace, Fw.run_sizeOf Try_ln24]

set_option maxHeartbeats 4000000 in
theorem saddle_Check_c (S : Hp) (w : World) (hS : S.sub w) (v0 : Value) (x0 : (List (List Int))) (k0 : ((TR.sl (TR.sl TR.int))).vrep S v0 x0) (res : Int) (hm : saddle_Check_m x0 = some res) : Calls Try.prog 88 #[v0] w (PostC w (.int .i64 res)) := by
 refine calls_enter 50 Try.func88 Try.ntmps88 rfl S true [(0, v0)] [imm (TR.sl (TR.sl TR.int)) v0 x0] rfl ⟨rfl, trivial⟩ hS ⟨k0, trivial⟩ ?_
 unfold saddle_Check_m at hm
 refine GL.seq ?_
 refine GL.region ?_
 refine RL.asg rfl rfl rfl ?_
 refine RL.finG ?_
 refine GL.seq ?_
 refine GL.seq ?_
 obtain ⟨y5, K6, h7, h8, h9, h10, h11⟩ := bindR_K hm
 refine GL.join (ι := Bool) (fun (p : Bool) => [(0, v0), (14, .bool p)]) (fun (p : Bool) => [imm (TR.sl (TR.sl TR.int)) v0 x0]) (fun (p : Bool) => K6 (.nx p)) ?_ ?_
 ·skip
  refine GL.region ?_
  refine RL.mv rfl rfl rfl ?_
  refine RL.lenS 0 Try.underlying37 rfl rfl rfl rfl SlOf.imm ?_
  refine RL.binI (v := .bool (decide (((x0).length : Int) < (1 : Int)))) rfl rfl rfl rfl rfl ?_
  refine RL.mv rfl rfl rfl ?_
  refine RL.split (t := 10) rfl (fun b12 => ?_) (fun b12 => ?_)
  ·replace h7 := ite_t b12 h7
   refine RL.skip rfl rfl ?_
   refine RL.skip rfl rfl ?_
   refine RL.skip rfl rfl ?_
   refine RL.pickT rfl rfl rfl rfl ?_
   refine RL.fin ?_
   cases h7
   exact fun a w st => mid_intro true h8 (St.cut [0] ⟨rfl, rfl, trivial⟩ (by decide) rfl st)
  replace h7 := ite_f b12 h7
  refine RL.mv rfl rfl rfl ?_
  refine RL.lenS 0 Try.underlying37 rfl rfl rfl rfl SlOf.imm ?_
  refine RL.binI (v := .bool (decide (((x0).length : Int) > (6 : Int)))) rfl rfl rfl rfl rfl ?_
  refine RL.pickF rfl rfl rfl rfl ?_
  refine RL.fin ?_
  cases h7
  exact fun a w st => mid_intro (decide (((x0).length : Int) > (6 : Int))) h8 (St.cut [0] ⟨rfl, rfl, trivial⟩ (by decide) rfl st)
 rintro x4 h13
 have h14 := h9 _ h13
 try dsimp only at h14
 refine GL.weak (env' := [(0, v0), (14, .bool x4)]) (L' := [imm (TR.sl (TR.sl TR.int)) v0 x0]) (fun _ _ st => st) ?_
 refine GL.cond rfl (fun b15 => ?_) (fun b15 => ?_)
 ·replace h14 := ite_t b15 h14
  refine GL.seq ?_
  refine GL.region ?_
  refine RL.asg rfl rfl rfl ?_
  refine RL.finG ?_
  have h14 := Option.some.inj h14
  subst h14
  exact GL.ret (Gx.ret (v := .int .i64 (2 : Int)) (res1 rfl rfl) (fun a w st => st.toPostC rfl))
 replace h14 := ite_f b15 h14
 refine GL.skip ?_
 refine GL.seq ?_
 refine GL.seq ?_
 refine GL.region ?_
 refine RL.mv rfl rfl rfl ?_
 refine RL.lenS 0 Try.underlying37 rfl rfl rfl rfl SlOf.imm ?_
 refine RL.mv rfl rfl rfl ?_
 refine RL.finG ?_
 refine GL.open_ 0 rfl (fun S h => len_imm S h) (fun n99 => ?_)
 obtain ⟨y100, K101, h102, h103, h104, h105, h106⟩ := bindR_K h14
 refine GL.join (ι := Unit) (fun (p : Unit) => []) (fun (p : Unit) => []) (fun (p : Unit) => K101 (.nx ())) ?_ ?_
 ·refine GL.block ?_
  refine GL.loop (ι := Nat × (List (List Int))) (fun (p : Nat × (List (List Int))) => [(0, v0), (15, v0), (16, .int .i64 ((x0).length : Int)), (17, .int .i64 (p.1 : Int))]) (fun (p : Nat × (List (List Int))) => [imm (TR.sl (TR.sl TR.int)) v0 x0]) (fun (p : Nat × (List (List Int))) => p.1 + p.2.length = (x0).length ∧ List.drop p.1 x0 = p.2 ∧ rangeL (saddle_Check_b1 x0) p.2 p.1 () = some y100) (fun (p : Nat × (List (List Int))) => p.2.length) (0, x0) ⟨by simp, by simp, h102⟩ (fun a w st => St.cut [0] ⟨rfl, rfl, rfl, rfl, trivial⟩ (by decide) rfl st) ?_
  rintro ⟨i107, r108⟩ ⟨h113, h114, h112⟩
  try dsimp only at h113 h114 h112
  refine GL.weak (env' := [(0, v0), (15, v0), (16, .int .i64 ((x0).length : Int)), (17, .int .i64 (i107 : Int))]) (L' := [imm (TR.sl (TR.sl TR.int)) v0 x0]) (fun _ _ st => st) ?_
  refine GL.seq ?_
  refine GL.region ?_
  refine RL.binI (v := .bool (decide ((i107 : Int) < ((x0).length : Int)))) rfl rfl rfl rfl rfl ?_
  refine RL.finG ?_
  refine GL.seq ?_
  refine GL.cond rfl (fun b115 => ?_) (fun b115 => ?_)
  ·have h116 : i107 < (x0).length := by have := of_decide_eq_true b115; omega
   obtain ⟨y117, r119, hr, e118, h120⟩ := drop_cons h114 rfl h116
   subst hr
   obtain ⟨z109, h110, h111⟩ := rangeL_some h112
   unfold saddle_Check_b1 at h110
   try dsimp only at h110
   refine GL.skip ?_
   refine GL.seq ?_
   refine GL.block ?_
   refine GL.seq ?_
   refine GL.region ?_
   refine RL.idxS (sz := 1) 0 Try.underlying37 Try_ln24 rfl rfl rfl rfl rfl SlOf.imm (by omega) (by omega) ?_
   refine RL.ldS (i := i107) (r := (TR.sl TR.int)) (e' := y117) 0 Try_ln24 rfl rfl rfl rfl SlOf.imm e118 Part.self ?_
   intro v122
   refine RL.asg rfl rfl rfl ?_
   refine RL.finG ?_
   refine GL.seq ?_
   refine GL.seq ?_
   refine GL.region ?_
   refine RL.mv rfl rfl rfl ?_
   refine RL.lenS 1 Try.underlying24 rfl rfl rfl rfl SlOf.imm ?_
   refine RL.mv rfl rfl rfl ?_
   obtain ⟨y126, e127, h110⟩ := bind_some h110
   refine RL.idxS (sz := 1) 0 Try.underlying37 Try_ln24 rfl rfl rfl rfl rfl SlOf.imm (idx_some e127).1 (idx_some e127).2.1 ?_
   refine RL.ldS (i := ((0 : Int)).toNat) (r := (TR.sl TR.int)) (e' := y126) 0 Try_ln24 rfl rfl rfl rfl SlOf.imm (idx_some e127).2.2 Part.self ?_
   intro v128
   refine RL.reL (L' := [imm (TR.sl (TR.sl TR.int)) v0 x0, imm (TR.sl TR.int) v122 y117, imm (TR.sl TR.int) v128 y126]) rfl ?_
   refine RL.lenS 2 Try.underlying24 rfl rfl rfl rfl SlOf.imm ?_
   refine RL.binI (v := .bool (((y117).length : Int) != ((y126).length : Int))) rfl rfl rfl rfl rfl ?_
   refine RL.finG ?_
   refine GL.cond rfl (fun b129 => ?_) (fun b129 => ?_)
   ·replace h110 := ite_t b129 h110
    refine GL.seq ?_
    refine GL.region ?_
    refine RL.asg rfl rfl rfl ?_
    refine RL.finG ?_
    cases h110
    replace h111 : some (Fl.rt _) = some y100 := h111
    cases h111
    have hh := h105 _ h103
    subst hh
    exact GL.ret (Gx.ret (v := .int .i64 (3 : Int)) (res1 rfl rfl) (fun a w st => st.toPostC rfl))
   replace h110 := ite_f b129 h110
   refine GL.skip ?_
   refine GL.seq ?_
   refine GL.seq ?_
   obtain ⟨y133, K134, h135, h136, h137, h138, h139⟩ := bindF_K h110
   refine GL.join (ι := Bool) (fun (p : Bool) => [(0, v0), (4, v122), (15, v0), (16, .int .i64 ((x0).length : Int)), (17, .int .i64 (i107 : Int)), (35, .bool p)]) (fun (p : Bool) => [imm (TR.sl (TR.sl TR.int)) v0 x0, imm (TR.sl TR.int) v122 y117]) (fun (p : Bool) => K134 (.nx p)) ?_ ?_
   ·skip
    refine GL.region ?_
    refine RL.mv rfl rfl rfl ?_
    refine RL.lenS 1 Try.underlying24 rfl rfl rfl rfl SlOf.imm ?_
    refine RL.binI (v := .bool (decide (((y117).length : Int) < (1 : Int)))) rfl rfl rfl rfl rfl ?_
    refine RL.mv rfl rfl rfl ?_
    refine RL.split (t := 31) rfl (fun b140 => ?_) (fun b140 => ?_)
    ·replace h135 := ite_t b140 h135
     refine RL.skip rfl rfl ?_
     refine RL.skip rfl rfl ?_
     refine RL.skip rfl rfl ?_
     refine RL.pickT rfl rfl rfl rfl ?_
     refine RL.fin ?_
     cases h135
     exact fun a w st => mid_intro true h136 (St.cut [0, 1] ⟨rfl, rfl, rfl, rfl, rfl, rfl, trivial⟩ (by decide) rfl st)
    replace h135 := ite_f b140 h135
    refine RL.mv rfl rfl rfl ?_
    refine RL.lenS 1 Try.underlying24 rfl rfl rfl rfl SlOf.imm ?_
    refine RL.binI (v := .bool (decide (((y117).length : Int) > (6 : Int)))) rfl rfl rfl rfl rfl ?_
    refine RL.pickF rfl rfl rfl rfl ?_
    refine RL.fin ?_
    cases h135
    exact fun a w st => mid_intro (decide (((y117).length : Int) > (6 : Int))) h136 (St.cut [0, 1] ⟨rfl, rfl, rfl, rfl, rfl, rfl, trivial⟩ (by decide) rfl st)
   rintro x132 h141
   have h142 := h137 _ h141
   try dsimp only at h142
   refine GL.weak (env' := [(0, v0), (4, v122), (15, v0), (16, .int .i64 ((x0).length : Int)), (17, .int .i64 (i107 : Int)), (35, .bool x132)]) (L' := [imm (TR.sl (TR.sl TR.int)) v0 x0, imm (TR.sl TR.int) v122 y117]) (fun _ _ st => st) ?_
   refine GL.cond rfl (fun b143 => ?_) (fun b143 => ?_)
   ·replace h142 := ite_t b143 h142
    refine GL.seq ?_
    refine GL.region ?_
    refine RL.asg rfl rfl rfl ?_
    refine RL.finG ?_
    cases h142
    replace h111 : some (Fl.rt _) = some y100 := h111
    cases h111
    have hh := h105 _ h103
    subst hh
    exact GL.ret (Gx.ret (v := .int .i64 (2 : Int)) (res1 rfl rfl) (fun a w st => st.toPostC rfl))
   replace h142 := ite_f b143 h142
   refine GL.skip ?_
   refine GL.seq ?_
   refine GL.region ?_
   refine RL.mv rfl rfl rfl ?_
   refine RL.lenS 1 Try.underlying24 rfl rfl rfl rfl SlOf.imm ?_
   refine RL.mv rfl rfl rfl ?_
   refine RL.finG ?_
   refine GL.open_ 1 rfl (fun S h => len_imm S h) (fun n162 => ?_)
   obtain ⟨y163, K164, h165, h166, h167, h168, h169⟩ := bindF_K h142
   refine GL.join (ι := Unit) (fun (p : Unit) => [(0, v0), (15, v0), (16, .int .i64 ((x0).length : Int)), (17, .int .i64 (i107 : Int))]) (fun (p : Unit) => [imm (TR.sl (TR.sl TR.int)) v0 x0]) (fun (p : Unit) => K164 (.nx ())) ?_ ?_
   ·refine GL.block ?_
    refine GL.loop (ι := Nat × (List Int)) (fun (p : Nat × (List Int)) => [(0, v0), (15, v0), (16, .int .i64 ((x0).length : Int)), (17, .int .i64 (i107 : Int)), (36, v122), (37, .int .i64 ((y117).length : Int)), (38, .int .i64 (p.1 : Int))]) (fun (p : Nat × (List Int)) => [imm (TR.sl (TR.sl TR.int)) v0 x0, imm (TR.sl TR.int) v122 y117]) (fun (p : Nat × (List Int)) => p.1 + p.2.length = (y117).length ∧ List.drop p.1 y117 = p.2 ∧ rangeL saddle_Check_b2 p.2 p.1 () = some y163) (fun (p : Nat × (List Int)) => p.2.length) (0, y117) ⟨by simp, by simp, h165⟩ (fun a w st => St.cut [0, 1] ⟨rfl, rfl, rfl, rfl, rfl, rfl, rfl, trivial⟩ (by decide) rfl st) ?_
    rintro ⟨i170, r171⟩ ⟨h176, h177, h175⟩
    try dsimp only at h176 h177 h175
    refine GL.weak (env' := [(0, v0), (15, v0), (16, .int .i64 ((x0).length : Int)), (17, .int .i64 (i107 : Int)), (36, v122), (37, .int .i64 ((y117).length : Int)), (38, .int .i64 (i170 : Int))]) (L' := [imm (TR.sl (TR.sl TR.int)) v0 x0, imm (TR.sl TR.int) v122 y117]) (fun _ _ st => st) ?_
    refine GL.seq ?_
    refine GL.region ?_
    refine RL.binI (v := .bool (decide ((i170 : Int) < ((y117).length : Int)))) rfl rfl rfl rfl rfl ?_
    refine RL.finG ?_
    refine GL.seq ?_
    refine GL.cond rfl (fun b178 => ?_) (fun b178 => ?_)
    ·have h179 : i170 < (y117).length := by have := of_decide_eq_true b178; omega
     obtain ⟨y180, r182, hr, e181, h183⟩ := drop_cons h177 rfl h179
     subst hr
     obtain ⟨z172, h173, h174⟩ := rangeL_some h175
     unfold saddle_Check_b2 at h173
     try dsimp only at h173
     refine GL.skip ?_
     refine GL.seq ?_
     refine GL.block ?_
     refine GL.seq ?_
     refine GL.region ?_
     refine RL.idxS (sz := 1) 1 Try.underlying24 Try_ln3 rfl rfl rfl rfl rfl SlOf.imm (by omega) (by omega) ?_
     refine RL.ldSx (i := i170) (e' := y180) 1 Ex.ik Try_ln3 rfl rfl rfl rfl SlOf.imm e181 Part.self ?_
     refine RL.asg rfl rfl rfl ?_
     refine RL.finG ?_
     refine GL.seq ?_
     obtain ⟨y187, K188, h189, h190, h191, h192, h193⟩ := bindF_K h173
     refine GL.join (ι := Bool) (fun (p : Bool) => [(0, v0), (15, v0), (16, .int .i64 ((x0).length : Int)), (17, .int .i64 (i107 : Int)), (36, v122), (37, .int .i64 ((y117).length : Int)), (38, .int .i64 (i170 : Int)), (47, .bool p)]) (fun (p : Bool) => [imm (TR.sl (TR.sl TR.int)) v0 x0, imm (TR.sl TR.int) v122 y117]) (fun (p : Bool) => K188 (.nx p)) ?_ ?_
     ·skip
      refine GL.region ?_
      refine RL.mv rfl rfl rfl ?_
      refine RL.binI (v := .bool (decide (y180 < (-1000 : Int)))) rfl rfl rfl rfl rfl ?_
      refine RL.mv rfl rfl rfl ?_
      refine RL.split (t := 44) rfl (fun b194 => ?_) (fun b194 => ?_)
      ·replace h189 := ite_t b194 h189
       refine RL.skip rfl rfl ?_
       refine RL.skip rfl rfl ?_
       refine RL.pickT rfl rfl rfl rfl ?_
       refine RL.fin ?_
       cases h189
       exact fun a w st => mid_intro true h190 (St.cut [0, 1] ⟨rfl, rfl, rfl, rfl, rfl, rfl, rfl, rfl, trivial⟩ (by decide) rfl st)
      replace h189 := ite_f b194 h189
      refine RL.mv rfl rfl rfl ?_
      refine RL.binI (v := .bool (decide (y180 > (1000 : Int)))) rfl rfl rfl rfl rfl ?_
      refine RL.pickF rfl rfl rfl rfl ?_
      refine RL.fin ?_
      cases h189
      exact fun a w st => mid_intro (decide (y180 > (1000 : Int))) h190 (St.cut [0, 1] ⟨rfl, rfl, rfl, rfl, rfl, rfl, rfl, rfl, trivial⟩ (by decide) rfl st)
     rintro x186 h195
     have h196 := h191 _ h195
     try dsimp only at h196
     refine GL.weak (env' := [(0, v0), (15, v0), (16, .int .i64 ((x0).length : Int)), (17, .int .i64 (i107 : Int)), (36, v122), (37, .int .i64 ((y117).length : Int)), (38, .int .i64 (i170 : Int)), (47, .bool x186)]) (L' := [imm (TR.sl (TR.sl TR.int)) v0 x0, imm (TR.sl TR.int) v122 y117]) (fun _ _ st => st) ?_
     refine GL.cond rfl (fun b197 => ?_) (fun b197 => ?_)
     ·replace h196 := ite_t b197 h196
      refine GL.seq ?_
      refine GL.region ?_
      refine RL.asg rfl rfl rfl ?_
      refine RL.finG ?_
      cases h196
      replace h174 : some (Fl.rt _) = some y163 := h174
      cases h174
      have hh := h168 _ h166
      subst hh
      replace h111 : some (Fl.rt _) = some y100 := h111
      cases h111
      have hh := h105 _ h103
      subst hh
      exact GL.ret (Gx.ret (v := .int .i64 (1 : Int)) (res1 rfl rfl) (fun a w st => st.toPostC rfl))
     replace h196 := ite_f b197 h196
     refine GL.skip ?_
     refine GL.nilB ?_
     refine GL.region ?_
     refine RL.binI (v := .int .i64 ((i170 + 1 : Nat) : Int)) rfl rfl rfl rfl (binI_succ i170 (by omega)) ?_
     refine RL.mv rfl rfl rfl ?_
     refine RL.fin ?_
     cases h196
     exact fun a w st => lop_intro (i170 + 1, r182) ⟨by show i170 + 1 + r182.length = (y117).length; simp only [List.length_cons] at h176; omega, h183, h174⟩ (by simp) (St.cut [0, 1] ⟨rfl, rfl, rfl, rfl, rfl, rfl, rfl, trivial⟩ (by decide) rfl st)
    have h179 : ¬ i170 < (y117).length := by have := of_decide_eq_false b178; omega
    obtain rfl : r171 = [] := by rw [← h177]; exact List.drop_of_length_le (by omega)
    replace h175 : some (Fl.nx _) = some y163 := h175
    cases h175
    exact GL.exit (fun a w st => mid_intro () h166 (St.cut [0] ⟨rfl, rfl, rfl, rfl, trivial⟩ (by decide) rfl st))
   rintro ⟨⟩ h198
   have h199 := h167 _ h198
   try dsimp only at h199
   refine GL.weak (env' := [(0, v0), (15, v0), (16, .int .i64 ((x0).length : Int)), (17, .int .i64 (i107 : Int))]) (L' := [imm (TR.sl (TR.sl TR.int)) v0 x0]) (fun _ _ st => st) ?_
   refine GL.nilB ?_
   refine GL.region ?_
   refine RL.binI (v := .int .i64 ((i107 + 1 : Nat) : Int)) rfl rfl rfl rfl (binI_succ i107 (by omega)) ?_
   refine RL.mv rfl rfl rfl ?_
   refine RL.fin ?_
   cases h199
   exact fun a w st => lop_intro (i107 + 1, r119) ⟨by show i107 + 1 + r119.length = (x0).length; simp only [List.length_cons] at h113; omega, h120, h111⟩ (by simp) (St.cut [0] ⟨rfl, rfl, rfl, rfl, trivial⟩ (by decide) rfl st)
  have h116 : ¬ i107 < (x0).length := by have := of_decide_eq_false b115; omega
  obtain rfl : r108 = [] := by rw [← h114]; exact List.drop_of_length_le (by omega)
  replace h112 : some (Fl.nx _) = some y100 := h112
  cases h112
  exact GL.exit (fun a w st => mid_intro () h103 (St.cut [] trivial (by decide) rfl st))
 rintro ⟨⟩ h200
 have h201 := h104 _ h200
 try dsimp only at h201
 refine GL.weak (env' := []) (L' := []) (fun _ _ st => st) ?_
 refine GL.seq ?_
 refine GL.region ?_
 refine RL.asg rfl rfl rfl ?_
 refine RL.finG ?_
 have h201 := Option.some.inj h201
 subst h201
 exact GL.ret (Gx.ret (v := .int .i64 (0 : Int)) (res1 rfl rfl) (fun a w st => st.toPostC rfl))

set_option maxHeartbeats 4000000 in
theorem saddle_Bounds_c (S : Hp) (w : World) (hS : S.sub w) (v0 : Value) (x0 : (List (List Int))) (k0 : ((TR.sl (TR.sl TR.int))).vrep S v0 x0) (res : Int × Int × Int) (hm : saddle_Bounds_m x0 = some res) : Calls Try.prog 86 #[v0] w (PostC w (.tuple #[.int .i64 res.1, .int .i64 res.2.1, .int .i64 res.2.2])) := by
 refine calls_enter 68 Try.func86 Try.ntmps86 rfl S true [(0, v0)] [imm (TR.sl (TR.sl TR.int)) v0 x0] rfl ⟨rfl, trivial⟩ hS ⟨k0, trivial⟩ ?_
 unfold saddle_Bounds_m at hm
 refine GL.seq ?_
 refine GL.region ?_
 refine RL.asg rfl rfl rfl ?_
 refine RL.asg rfl rfl rfl ?_
 refine RL.asg rfl rfl rfl ?_
 refine RL.finG ?_
 refine GL.seq ?_
 refine GL.seq ?_
 refine GL.region ?_
 refine RL.mv rfl rfl rfl ?_
 obtain ⟨y4, e5, hm⟩ := bind_some hm
 refine RL.callC (v := .int .i64 y4) (vs := [v0]) Try_fit88 rfl rfl rfl rfl (fun U w hU hW hL => saddle_Check_c U w hU _ _ (hL 0 _ _ rfl Seen.imm) _ e5) ?_
 refine RL.asg rfl rfl rfl ?_
 refine RL.finG ?_
 refine GL.seq ?_
 refine GL.region ?_
 refine RL.mv rfl rfl rfl ?_
 refine RL.binI (v := .bool (y4 != (0 : Int))) rfl rfl rfl rfl rfl ?_
 refine RL.finG ?_
 refine GL.cond rfl (fun b6 => ?_) (fun b6 => ?_)
 ·replace hm := ite_t b6 hm
  refine GL.seq ?_
  refine GL.region ?_
  refine RL.mv rfl rfl rfl ?_
  refine RL.asg rfl rfl rfl ?_
  refine RL.asg rfl rfl rfl ?_
  refine RL.asg rfl rfl rfl ?_
  refine RL.finG ?_
  have hm := Option.some.inj hm
  subst hm
  exact GL.ret (Gx.ret (v := .tuple #[.int .i64 (0 : Int), .int .i64 (0 : Int), .int .i64 y4]) (res3 rfl rfl rfl rfl) (fun a w st => st.toPostC rfl))
 replace hm := ite_f b6 hm
 refine GL.skip ?_
 refine GL.seq ?_
 refine GL.region ?_
 refine RL.asg rfl rfl rfl ?_
 refine RL.asg rfl rfl rfl ?_
 refine RL.finG ?_
 refine GL.seq ?_
 refine GL.seq ?_
 refine GL.region ?_
 refine RL.mv rfl rfl rfl ?_
 refine RL.lenS 0 Try.underlying37 rfl rfl rfl rfl SlOf.imm ?_
 refine RL.mv rfl rfl rfl ?_
 refine RL.finG ?_
 refine GL.open_ 0 rfl (fun S h => len_imm S h) (fun n43 => ?_)
 obtain ⟨y44, K45, h46, h47, h48, h49, h50⟩ := bindR_K hm
 refine GL.join (ι := Int) (fun (p : Int) => [(0, v0), (6, .int .i64 p), (7, .int .i64 (1000 : Int))]) (fun (p : Int) => [imm (TR.sl (TR.sl TR.int)) v0 x0]) (fun (p : Int) => K45 (.nx p)) ?_ ?_
 ·refine GL.block ?_
  refine GL.loop (ι := Nat × (List (List Int)) × Int) (fun (p : Nat × (List (List Int)) × Int) => [(0, v0), (6, .int .i64 p.2.2), (7, .int .i64 (1000 : Int)), (22, v0), (23, .int .i64 ((x0).length : Int)), (24, .int .i64 (p.1 : Int))]) (fun (p : Nat × (List (List Int)) × Int) => [imm (TR.sl (TR.sl TR.int)) v0 x0]) (fun (p : Nat × (List (List Int)) × Int) => p.1 + p.2.1.length = (x0).length ∧ List.drop p.1 x0 = p.2.1 ∧ rangeL saddle_Bounds_b1 p.2.1 p.1 p.2.2 = some y44) (fun (p : Nat × (List (List Int)) × Int) => p.2.1.length) (0, x0, (-1000 : Int)) ⟨by simp, by simp, h46⟩ (fun a w st => St.cut [0] ⟨rfl, rfl, rfl, rfl, rfl, rfl, trivial⟩ (by decide) rfl st) ?_
  rintro ⟨i51, r52, x7⟩ ⟨h57, h58, h56⟩
  try dsimp only at h57 h58 h56
  refine GL.weak (env' := [(0, v0), (6, .int .i64 x7), (7, .int .i64 (1000 : Int)), (22, v0), (23, .int .i64 ((x0).length : Int)), (24, .int .i64 (i51 : Int))]) (L' := [imm (TR.sl (TR.sl TR.int)) v0 x0]) (fun _ _ st => st) ?_
  refine GL.seq ?_
  refine GL.region ?_
  refine RL.binI (v := .bool (decide ((i51 : Int) < ((x0).length : Int)))) rfl rfl rfl rfl rfl ?_
  refine RL.finG ?_
  refine GL.seq ?_
  refine GL.cond rfl (fun b59 => ?_) (fun b59 => ?_)
  ·have h60 : i51 < (x0).length := by have := of_decide_eq_true b59; omega
   obtain ⟨y61, r63, hr, e62, h64⟩ := drop_cons h58 rfl h60
   subst hr
   obtain ⟨z53, h54, h55⟩ := rangeL_some h56
   unfold saddle_Bounds_b1 at h54
   try dsimp only at h54
   refine GL.skip ?_
   refine GL.seq ?_
   refine GL.block ?_
   refine GL.seq ?_
   refine GL.region ?_
   refine RL.idxS (sz := 1) 0 Try.underlying37 Try_ln24 rfl rfl rfl rfl rfl SlOf.imm (by omega) (by omega) ?_
   refine RL.ldS (i := i51) (r := (TR.sl TR.int)) (e' := y61) 0 Try_ln24 rfl rfl rfl rfl SlOf.imm e62 Part.self ?_
   intro v66
   refine RL.asg rfl rfl rfl ?_
   refine RL.finG ?_
   refine GL.seq ?_
   refine GL.region ?_
   refine RL.asg rfl rfl rfl ?_
   refine RL.finG ?_
   refine GL.seq ?_
   refine GL.seq ?_
   refine GL.region ?_
   refine RL.mv rfl rfl rfl ?_
   refine RL.lenS 1 Try.underlying24 rfl rfl rfl rfl SlOf.imm ?_
   refine RL.mv rfl rfl rfl ?_
   refine RL.finG ?_
   refine GL.open_ 1 rfl (fun S h => len_imm S h) (fun n72 => ?_)
   obtain ⟨y73, K74, h75, h76, h77, h78, h79⟩ := bindF_K h54
   refine GL.join (ι := Int) (fun (p : Int) => [(0, v0), (6, .int .i64 x7), (7, .int .i64 (1000 : Int)), (10, .int .i64 p), (22, v0), (23, .int .i64 ((x0).length : Int)), (24, .int .i64 (i51 : Int))]) (fun (p : Int) => [imm (TR.sl (TR.sl TR.int)) v0 x0]) (fun (p : Int) => K74 (.nx p)) ?_ ?_
   ·refine GL.block ?_
    refine GL.loop (ι := Nat × (List Int) × Int) (fun (p : Nat × (List Int) × Int) => [(0, v0), (6, .int .i64 x7), (7, .int .i64 (1000 : Int)), (10, .int .i64 p.2.2), (22, v0), (23, .int .i64 ((x0).length : Int)), (24, .int .i64 (i51 : Int)), (28, v66), (29, .int .i64 ((y61).length : Int)), (30, .int .i64 (p.1 : Int))]) (fun (p : Nat × (List Int) × Int) => [imm (TR.sl (TR.sl TR.int)) v0 x0, imm (TR.sl TR.int) v66 y61]) (fun (p : Nat × (List Int) × Int) => p.1 + p.2.1.length = (y61).length ∧ List.drop p.1 y61 = p.2.1 ∧ rangeL saddle_Bounds_b2 p.2.1 p.1 p.2.2 = some y73) (fun (p : Nat × (List Int) × Int) => p.2.1.length) (0, y61, (1000 : Int)) ⟨by simp, by simp, h75⟩ (fun a w st => St.cut [0, 1] ⟨rfl, rfl, rfl, rfl, rfl, rfl, rfl, rfl, rfl, rfl, trivial⟩ (by decide) rfl st) ?_
    rintro ⟨i80, r81, x67⟩ ⟨h86, h87, h85⟩
    try dsimp only at h86 h87 h85
    refine GL.weak (env' := [(0, v0), (6, .int .i64 x7), (7, .int .i64 (1000 : Int)), (10, .int .i64 x67), (22, v0), (23, .int .i64 ((x0).length : Int)), (24, .int .i64 (i51 : Int)), (28, v66), (29, .int .i64 ((y61).length : Int)), (30, .int .i64 (i80 : Int))]) (L' := [imm (TR.sl (TR.sl TR.int)) v0 x0, imm (TR.sl TR.int) v66 y61]) (fun _ _ st => st) ?_
    refine GL.seq ?_
    refine GL.region ?_
    refine RL.binI (v := .bool (decide ((i80 : Int) < ((y61).length : Int)))) rfl rfl rfl rfl rfl ?_
    refine RL.finG ?_
    refine GL.seq ?_
    refine GL.cond rfl (fun b88 => ?_) (fun b88 => ?_)
    ·have h89 : i80 < (y61).length := by have := of_decide_eq_true b88; omega
     obtain ⟨y90, r92, hr, e91, h93⟩ := drop_cons h87 rfl h89
     subst hr
     obtain ⟨z82, h83, h84⟩ := rangeL_some h85
     unfold saddle_Bounds_b2 at h83
     try dsimp only at h83
     refine GL.skip ?_
     refine GL.seq ?_
     refine GL.block ?_
     refine GL.seq ?_
     refine GL.region ?_
     refine RL.idxS (sz := 1) 1 Try.underlying24 Try_ln3 rfl rfl rfl rfl rfl SlOf.imm (by omega) (by omega) ?_
     refine RL.ldSx (i := i80) (e' := y90) 1 Ex.ik Try_ln3 rfl rfl rfl rfl SlOf.imm e91 Part.self ?_
     refine RL.asg rfl rfl rfl ?_
     refine RL.finG ?_
     refine GL.region ?_
     refine RL.mv rfl rfl rfl ?_
     refine RL.mv rfl rfl rfl ?_
     refine RL.minI rfl rfl rfl rfl ?_
     refine RL.asg rfl rfl rfl ?_
     refine RL.finG ?_
     refine GL.nilB ?_
     refine GL.region ?_
     refine RL.binI (v := .int .i64 ((i80 + 1 : Nat) : Int)) rfl rfl rfl rfl (binI_succ i80 (by omega)) ?_
     refine RL.mv rfl rfl rfl ?_
     refine RL.fin ?_
     cases h83
     exact fun a w st => lop_intro (i80 + 1, r92, if y90 < x67 then y90 else x67) ⟨by show i80 + 1 + r92.length = (y61).length; simp only [List.length_cons] at h86; omega, h93, h84⟩ (by simp) (St.cut [0, 1] ⟨rfl, rfl, rfl, rfl, rfl, rfl, rfl, rfl, rfl, rfl, trivial⟩ (by decide) rfl st)
    have h89 : ¬ i80 < (y61).length := by have := of_decide_eq_false b88; omega
    obtain rfl : r81 = [] := by rw [← h87]; exact List.drop_of_length_le (by omega)
    replace h85 : some (Fl.nx _) = some y73 := h85
    cases h85
    exact GL.exit (fun a w st => mid_intro x67 h76 (St.cut [0] ⟨rfl, rfl, rfl, rfl, rfl, rfl, rfl, trivial⟩ (by decide) rfl st))
   rintro x67 h94
   have h95 := h77 _ h94
   try dsimp only at h95
   refine GL.weak (env' := [(0, v0), (6, .int .i64 x7), (7, .int .i64 (1000 : Int)), (10, .int .i64 x67), (22, v0), (23, .int .i64 ((x0).length : Int)), (24, .int .i64 (i51 : Int))]) (L' := [imm (TR.sl (TR.sl TR.int)) v0 x0]) (fun _ _ st => st) ?_
   refine GL.region ?_
   refine RL.mv rfl rfl rfl ?_
   refine RL.mv rfl rfl rfl ?_
   refine RL.maxI rfl rfl rfl rfl ?_
   refine RL.asg rfl rfl rfl ?_
   refine RL.finG ?_
   refine GL.nilB ?_
   refine GL.region ?_
   refine RL.binI (v := .int .i64 ((i51 + 1 : Nat) : Int)) rfl rfl rfl rfl (binI_succ i51 (by omega)) ?_
   refine RL.mv rfl rfl rfl ?_
   refine RL.fin ?_
   cases h95
   exact fun a w st => lop_intro (i51 + 1, r63, if x67 > x7 then x67 else x7) ⟨by show i51 + 1 + r63.length = (x0).length; simp only [List.length_cons] at h57; omega, h64, h55⟩ (by simp) (St.cut [0] ⟨rfl, rfl, rfl, rfl, rfl, rfl, trivial⟩ (by decide) rfl st)
  have h60 : ¬ i51 < (x0).length := by have := of_decide_eq_false b59; omega
  obtain rfl : r52 = [] := by rw [← h58]; exact List.drop_of_length_le (by omega)
  replace h56 : some (Fl.nx _) = some y44 := h56
  cases h56
  exact GL.exit (fun a w st => mid_intro x7 h47 (St.cut [0] ⟨rfl, rfl, rfl, trivial⟩ (by decide) rfl st))
 rintro x7 h96
 have h97 := h48 _ h96
 try dsimp only at h97
 refine GL.weak (env' := [(0, v0), (6, .int .i64 x7), (7, .int .i64 (1000 : Int))]) (L' := [imm (TR.sl (TR.sl TR.int)) v0 x0]) (fun _ _ st => st) ?_
 refine GL.seq ?_
 refine GL.seq ?_
 refine GL.region ?_
 refine RL.mv rfl rfl rfl ?_
 obtain ⟨y101, e102, h97⟩ := bind_some h97
 refine RL.idxS (sz := 1) 0 Try.underlying37 Try_ln24 rfl rfl rfl rfl rfl SlOf.imm (idx_some e102).1 (idx_some e102).2.1 ?_
 refine RL.ldS (i := ((0 : Int)).toNat) (r := (TR.sl TR.int)) (e' := y101) 0 Try_ln24 rfl rfl rfl rfl SlOf.imm (idx_some e102).2.2 Part.self ?_
 intro v103
 refine RL.lenS 1 Try.underlying24 rfl rfl rfl rfl SlOf.imm ?_
 refine RL.mv rfl rfl rfl ?_
 refine RL.finG ?_
 refine GL.open_ 1 rfl (fun S h => len_imm S h) (fun n146 => ?_)
 obtain ⟨y147, K148, h149, h150, h151, h152, h153⟩ := bindR_K h97
 refine GL.join (ι := Int) (fun (p : Int) => [(6, .int .i64 x7), (7, .int .i64 p)]) (fun (p : Int) => []) (fun (p : Int) => K148 (.nx p)) ?_ ?_
 ·refine GL.block ?_
  refine GL.loop (ι := Nat × (List Int) × Int) (fun (p : Nat × (List Int) × Int) => [(0, v0), (6, .int .i64 x7), (7, .int .i64 p.2.2), (45, .int .i64 ((y101).length : Int)), (46, .int .i64 (p.1 : Int))]) (fun (p : Nat × (List Int) × Int) => [imm (TR.sl (TR.sl TR.int)) v0 x0]) (fun (p : Nat × (List Int) × Int) => p.1 + p.2.1.length = (y101).length ∧ List.drop p.1 y101 = p.2.1 ∧ rangeL (saddle_Bounds_b3 x0) p.2.1 p.1 p.2.2 = some y147) (fun (p : Nat × (List Int) × Int) => p.2.1.length) (0, y101, (1000 : Int)) ⟨by simp, by simp, h149⟩ (fun a w st => St.cut [0] ⟨rfl, rfl, rfl, rfl, rfl, trivial⟩ (by decide) rfl st) ?_
  rintro ⟨i154, r155, x104⟩ ⟨h160, h161, h159⟩
  try dsimp only at h160 h161 h159
  refine GL.weak (env' := [(0, v0), (6, .int .i64 x7), (7, .int .i64 x104), (45, .int .i64 ((y101).length : Int)), (46, .int .i64 (i154 : Int))]) (L' := [imm (TR.sl (TR.sl TR.int)) v0 x0]) (fun _ _ st => st) ?_
  refine GL.seq ?_
  refine GL.region ?_
  refine RL.binI (v := .bool (decide ((i154 : Int) < ((y101).length : Int)))) rfl rfl rfl rfl rfl ?_
  refine RL.finG ?_
  refine GL.seq ?_
  refine GL.cond rfl (fun b162 => ?_) (fun b162 => ?_)
  ·have h163 : i154 < (y101).length := by have := of_decide_eq_true b162; omega
   obtain ⟨y164, r166, hr, e165, h167⟩ := drop_cons h161 rfl h163
   subst hr
   obtain ⟨z156, h157, h158⟩ := rangeL_some h159
   unfold saddle_Bounds_b3 at h157
   try dsimp only at h157
   refine GL.skip ?_
   refine GL.seq ?_
   refine GL.block ?_
   refine GL.seq ?_
   refine GL.region ?_
   refine RL.mv rfl rfl rfl ?_
   refine RL.asg rfl rfl rfl ?_
   refine RL.finG ?_
   refine GL.seq ?_
   refine GL.region ?_
   refine RL.asg rfl rfl rfl ?_
   refine RL.finG ?_
   refine GL.seq ?_
   refine GL.seq ?_
   refine GL.region ?_
   refine RL.mv rfl rfl rfl ?_
   refine RL.lenS 0 Try.underlying37 rfl rfl rfl rfl SlOf.imm ?_
   refine RL.mv rfl rfl rfl ?_
   refine RL.finG ?_
   refine GL.open_ 0 rfl (fun S h => len_imm S h) (fun n179 => ?_)
   obtain ⟨y180, K181, h182, h183, h184, h185, h186⟩ := bindF_K h157
   refine GL.join (ι := Int) (fun (p : Int) => [(0, v0), (6, .int .i64 x7), (7, .int .i64 x104), (14, .int .i64 p), (45, .int .i64 ((y101).length : Int)), (46, .int .i64 (i154 : Int))]) (fun (p : Int) => [imm (TR.sl (TR.sl TR.int)) v0 x0]) (fun (p : Int) => K181 (.nx p)) ?_ ?_
   ·refine GL.block ?_
    refine GL.loop (ι := Nat × (List (List Int)) × Int) (fun (p : Nat × (List (List Int)) × Int) => [(0, v0), (6, .int .i64 x7), (7, .int .i64 x104), (13, .int .i64 (i154 : Int)), (14, .int .i64 p.2.2), (45, .int .i64 ((y101).length : Int)), (46, .int .i64 (i154 : Int)), (49, v0), (50, .int .i64 ((x0).length : Int)), (51, .int .i64 (p.1 : Int))]) (fun (p : Nat × (List (List Int)) × Int) => [imm (TR.sl (TR.sl TR.int)) v0 x0]) (fun (p : Nat × (List (List Int)) × Int) => p.1 + p.2.1.length = (x0).length ∧ List.drop p.1 x0 = p.2.1 ∧ rangeL (saddle_Bounds_b4 i154) p.2.1 p.1 p.2.2 = some y180) (fun (p : Nat × (List (List Int)) × Int) => p.2.1.length) (0, x0, (-1000 : Int)) ⟨by simp, by simp, h182⟩ (fun a w st => St.cut [0] ⟨rfl, rfl, rfl, rfl, rfl, rfl, rfl, rfl, rfl, rfl, trivial⟩ (by decide) rfl st) ?_
    rintro ⟨i187, r188, x168⟩ ⟨h193, h194, h192⟩
    try dsimp only at h193 h194 h192
    refine GL.weak (env' := [(0, v0), (6, .int .i64 x7), (7, .int .i64 x104), (13, .int .i64 (i154 : Int)), (14, .int .i64 x168), (45, .int .i64 ((y101).length : Int)), (46, .int .i64 (i154 : Int)), (49, v0), (50, .int .i64 ((x0).length : Int)), (51, .int .i64 (i187 : Int))]) (L' := [imm (TR.sl (TR.sl TR.int)) v0 x0]) (fun _ _ st => st) ?_
    refine GL.seq ?_
    refine GL.region ?_
    refine RL.binI (v := .bool (decide ((i187 : Int) < ((x0).length : Int)))) rfl rfl rfl rfl rfl ?_
    refine RL.finG ?_
    refine GL.seq ?_
    refine GL.cond rfl (fun b195 => ?_) (fun b195 => ?_)
    ·have h196 : i187 < (x0).length := by have := of_decide_eq_true b195; omega
     obtain ⟨y197, r199, hr, e198, h200⟩ := drop_cons h194 rfl h196
     subst hr
     obtain ⟨z189, h190, h191⟩ := rangeL_some h192
     unfold saddle_Bounds_b4 at h190
     try dsimp only at h190
     refine GL.skip ?_
     refine GL.seq ?_
     refine GL.block ?_
     refine GL.seq ?_
     refine GL.region ?_
     refine RL.idxS (sz := 1) 0 Try.underlying37 Try_ln24 rfl rfl rfl rfl rfl SlOf.imm (by omega) (by omega) ?_
     refine RL.ldS (i := i187) (r := (TR.sl TR.int)) (e' := y197) 0 Try_ln24 rfl rfl rfl rfl SlOf.imm e198 Part.self ?_
     intro v202
     refine RL.asg rfl rfl rfl ?_
     refine RL.finG ?_
     refine GL.region ?_
     refine RL.mv rfl rfl rfl ?_
     refine RL.mv rfl rfl rfl ?_
     refine RL.mv rfl rfl rfl ?_
     obtain ⟨y205, e206, h190⟩ := bind_some h190
     refine RL.idxS (sz := 1) 1 Try.underlying24 Try_ln3 rfl rfl rfl rfl rfl SlOf.imm (idx_some e206).1 (idx_some e206).2.1 ?_
     refine RL.ldSx (i := i154) (e' := y205) 1 Ex.ik Try_ln3 rfl rfl rfl rfl SlOf.imm (idx_some e206).2.2 Part.self ?_
     refine RL.maxI rfl rfl rfl rfl ?_
     refine RL.asg rfl rfl rfl ?_
     refine RL.finG ?_
     refine GL.nilB ?_
     refine GL.region ?_
     refine RL.binI (v := .int .i64 ((i187 + 1 : Nat) : Int)) rfl rfl rfl rfl (binI_succ i187 (by omega)) ?_
     refine RL.mv rfl rfl rfl ?_
     refine RL.fin ?_
     cases h190
     exact fun a w st => lop_intro (i187 + 1, r199, if y205 > x168 then y205 else x168) ⟨by show i187 + 1 + r199.length = (x0).length; simp only [List.length_cons] at h193; omega, h200, h191⟩ (by simp) (St.cut [0] ⟨rfl, rfl, rfl, rfl, rfl, rfl, rfl, rfl, rfl, rfl, trivial⟩ (by decide) rfl st)
    have h196 : ¬ i187 < (x0).length := by have := of_decide_eq_false b195; omega
    obtain rfl : r188 = [] := by rw [← h194]; exact List.drop_of_length_le (by omega)
    replace h192 : some (Fl.nx _) = some y180 := h192
    cases h192
    exact GL.exit (fun a w st => mid_intro x168 h183 (St.cut [0] ⟨rfl, rfl, rfl, rfl, rfl, rfl, trivial⟩ (by decide) rfl st))
   rintro x168 h207
   have h208 := h184 _ h207
   try dsimp only at h208
   refine GL.weak (env' := [(0, v0), (6, .int .i64 x7), (7, .int .i64 x104), (14, .int .i64 x168), (45, .int .i64 ((y101).length : Int)), (46, .int .i64 (i154 : Int))]) (L' := [imm (TR.sl (TR.sl TR.int)) v0 x0]) (fun _ _ st => st) ?_
   refine GL.region ?_
   refine RL.mv rfl rfl rfl ?_
   refine RL.mv rfl rfl rfl ?_
   refine RL.minI rfl rfl rfl rfl ?_
   refine RL.asg rfl rfl rfl ?_
   refine RL.finG ?_
   refine GL.nilB ?_
   refine GL.region ?_
   refine RL.binI (v := .int .i64 ((i154 + 1 : Nat) : Int)) rfl rfl rfl rfl (binI_succ i154 (by omega)) ?_
   refine RL.mv rfl rfl rfl ?_
   refine RL.fin ?_
   cases h208
   exact fun a w st => lop_intro (i154 + 1, r166, if x168 < x104 then x168 else x104) ⟨by show i154 + 1 + r166.length = (y101).length; simp only [List.length_cons] at h160; omega, h167, h158⟩ (by simp) (St.cut [0] ⟨rfl, rfl, rfl, rfl, rfl, trivial⟩ (by decide) rfl st)
  have h163 : ¬ i154 < (y101).length := by have := of_decide_eq_false b162; omega
  obtain rfl : r155 = [] := by rw [← h161]; exact List.drop_of_length_le (by omega)
  replace h159 : some (Fl.nx _) = some y147 := h159
  cases h159
  exact GL.exit (fun a w st => mid_intro x104 h150 (St.cut [] ⟨rfl, rfl, trivial⟩ (by decide) rfl st))
 rintro x104 h209
 have h210 := h151 _ h209
 try dsimp only at h210
 refine GL.weak (env' := [(6, .int .i64 x7), (7, .int .i64 x104)]) (L' := []) (fun _ _ st => st) ?_
 refine GL.seq ?_
 refine GL.region ?_
 refine RL.mv rfl rfl rfl ?_
 refine RL.mv rfl rfl rfl ?_
 refine RL.asg rfl rfl rfl ?_
 refine RL.asg rfl rfl rfl ?_
 refine RL.asg rfl rfl rfl ?_
 refine RL.finG ?_
 have h210 := Option.some.inj h210
 subst h210
 exact GL.ret (Gx.ret (v := .tuple #[.int .i64 x7, .int .i64 x104, .int .i64 (0 : Int)]) (res3 rfl rfl rfl rfl) (fun a w st => st.toPostC rfl))

set_option maxHeartbeats 4000000 in
theorem saddle_Points_c (S : Hp) (w : World) (hS : S.sub w) (v0 : Value) (x0 : (List (List Int))) (k0 : ((TR.sl (TR.sl TR.int))).vrep S v0 x0) (res : (List (List Int)) × Int) (hm : saddle_Points_m x0 = some res) : Calls Try.prog 29 #[v0] w (Post w S (fun (o : Value) => .tuple #[o, .int .i64 res.2]) (fun (o : Value) => [own 56 (TR.arr 2 TR.int) o res.1])) := by
 refine calls_enter 73 Try.func29 Try.ntmps29 rfl S false [(0, v0)] [imm (TR.sl (TR.sl TR.int)) v0 x0] rfl ⟨rfl, trivial⟩ hS ⟨k0, trivial⟩ ?_
 unfold saddle_Points_m at hm
 refine GL.seq ?_
 refine GL.region ?_
 refine RL.asg rfl rfl rfl ?_
 refine RL.asg rfl rfl rfl ?_
 refine RL.finG ?_
 refine GL.seq ?_
 refine GL.seq ?_
 refine GL.region ?_
 refine RL.mv rfl rfl rfl ?_
 obtain ⟨y4, e5, hm⟩ := bind_some hm
 refine RL.callC (v := .int .i64 y4) (vs := [v0]) Try_fit88 rfl rfl rfl rfl (fun U w hU hW hL => saddle_Check_c U w hU _ _ (hL 0 _ _ rfl Seen.imm) _ e5) ?_
 refine RL.asg rfl rfl rfl ?_
 refine RL.finG ?_
 refine GL.seq ?_
 refine GL.region ?_
 refine RL.mv rfl rfl rfl ?_
 refine RL.binI (v := .bool (y4 != (0 : Int))) rfl rfl rfl rfl rfl ?_
 refine RL.finG ?_
 refine GL.cond rfl (fun b6 => ?_) (fun b6 => ?_)
 ·replace hm := ite_t b6 hm
  refine GL.seq ?_
  refine GL.region ?_
  refine RL.mv rfl rfl rfl ?_
  refine RL.asg rfl rfl rfl ?_
  refine RL.asg rfl rfl rfl ?_
  refine RL.finG ?_
  refine GL.weak (fun a w st => st.nilOwn 56 (TR.arr 2 TR.int)) ?_
  have hm := Option.some.inj hm
  subst hm
  exact GL.ret (Gx.ret (v := .tuple #[Value.slice none 0 0, .int .i64 y4]) (res2 rfl rfl rfl) (fun a w st => (st.pick [1] (by decide) rfl).toPost (Value.slice none 0 0)))
 replace hm := ite_f b6 hm
 refine GL.skip ?_
 refine GL.seq ?_
 refine GL.region ?_
 refine RL.asg rfl rfl rfl ?_
 refine RL.finG ?_
 refine GL.seq ?_
 refine GL.seq ?_
 refine GL.region ?_
 refine RL.mv rfl rfl rfl ?_
 refine RL.lenS 0 Try.underlying37 rfl rfl rfl rfl SlOf.imm ?_
 refine RL.mv rfl rfl rfl ?_
 refine RL.finG ?_
 refine GL.weak (fun a w st => st.nilOwn 56 (TR.arr 2 TR.int)) ?_
 refine GL.open_ 0 rfl (fun S h => len_imm S h) (fun n319 => ?_)
 obtain ⟨y320, K321, h322, h323, h324, h325, h326⟩ := bindR_K hm
 refine GL.join (ι := (List (List Int)) × Value) (fun (p : (List (List Int)) × Value) => [(5, p.2)]) (fun (p : (List (List Int)) × Value) => [own 56 (TR.arr 2 TR.int) p.2 p.1]) (fun (p : (List (List Int)) × Value) => K321 (.nx p.1)) ?_ ?_
 ·refine GL.block ?_
  refine GL.loop (ι := Nat × (List (List Int)) × (List (List Int)) × Value) (fun (p : Nat × (List (List Int)) × (List (List Int)) × Value) => [(0, v0), (5, p.2.2.2), (20, v0), (21, .int .i64 ((x0).length : Int)), (22, .int .i64 (p.1 : Int))]) (fun (p : Nat × (List (List Int)) × (List (List Int)) × Value) => [imm (TR.sl (TR.sl TR.int)) v0 x0, own 56 (TR.arr 2 TR.int) p.2.2.2 p.2.2.1]) (fun (p : Nat × (List (List Int)) × (List (List Int)) × Value) => p.1 + p.2.1.length = (x0).length ∧ List.drop p.1 x0 = p.2.1 ∧ rangeL (saddle_Points_b1 x0) p.2.1 p.1 p.2.2.1 = some y320) (fun (p : Nat × (List (List Int)) × (List (List Int)) × Value) => p.2.1.length) (0, x0, [], Value.slice none 0 0) ⟨by simp, by simp, h322⟩ (fun a w st => St.cut [0, 1] ⟨rfl, rfl, rfl, rfl, rfl, trivial⟩ (by decide) rfl st) ?_
  rintro ⟨i327, r328, l7, v8⟩ ⟨h333, h334, h332⟩
  try dsimp only at h333 h334 h332
  refine GL.weak (env' := [(0, v0), (5, v8), (20, v0), (21, .int .i64 ((x0).length : Int)), (22, .int .i64 (i327 : Int))]) (L' := [imm (TR.sl (TR.sl TR.int)) v0 x0, own 56 (TR.arr 2 TR.int) v8 l7]) (fun _ _ st => st) ?_
  refine GL.seq ?_
  refine GL.region ?_
  refine RL.binI (v := .bool (decide ((i327 : Int) < ((x0).length : Int)))) rfl rfl rfl rfl rfl ?_
  refine RL.finG ?_
  refine GL.seq ?_
  refine GL.cond rfl (fun b335 => ?_) (fun b335 => ?_)
  ·have h336 : i327 < (x0).length := by have := of_decide_eq_true b335; omega
   obtain ⟨y337, r339, hr, e338, h340⟩ := drop_cons h334 rfl h336
   subst hr
   obtain ⟨z329, h330, h331⟩ := rangeL_some h332
   unfold saddle_Points_b1 at h330
   try dsimp only at h330
   refine GL.skip ?_
   refine GL.seq ?_
   refine GL.block ?_
   refine GL.seq ?_
   refine GL.region ?_
   refine RL.mv rfl rfl rfl ?_
   refine RL.idxS (sz := 1) 0 Try.underlying37 Try_ln24 rfl rfl rfl rfl rfl SlOf.imm (by omega) (by omega) ?_
   refine RL.ldS (i := i327) (r := (TR.sl TR.int)) (e' := y337) 0 Try_ln24 rfl rfl rfl rfl SlOf.imm e338 Part.self ?_
   intro v342
   refine RL.asg rfl rfl rfl ?_
   refine RL.asg rfl rfl rfl ?_
   refine RL.finG ?_
   refine GL.seq ?_
   refine GL.region ?_
   refine RL.mv rfl rfl rfl ?_
   refine RL.lenS 2 Try.underlying24 rfl rfl rfl rfl SlOf.imm ?_
   refine RL.mv rfl rfl rfl ?_
   refine RL.finG ?_
   refine GL.open_ 2 rfl (fun S h => len_imm S h) (fun n486 => ?_)
   obtain ⟨y487, K488, h489, h490, h491, h492, h493⟩ := bindF_K h330
   refine GL.join (ι := (List (List Int)) × Value) (fun (p : (List (List Int)) × Value) => [(0, v0), (5, p.2), (20, v0), (21, .int .i64 ((x0).length : Int)), (22, .int .i64 (i327 : Int))]) (fun (p : (List (List Int)) × Value) => [imm (TR.sl (TR.sl TR.int)) v0 x0, own 56 (TR.arr 2 TR.int) p.2 p.1]) (fun (p : (List (List Int)) × Value) => K488 (.nx p.1)) ?_ ?_
   ·refine GL.block ?_
    refine GL.loop (ι := Nat × (List Int) × (List (List Int)) × Value) (fun (p : Nat × (List Int) × (List (List Int)) × Value) => [(0, v0), (5, p.2.2.2), (6, .int .i64 (i327 : Int)), (7, v342), (20, v0), (21, .int .i64 ((x0).length : Int)), (22, .int .i64 (i327 : Int)), (27, v342), (28, .int .i64 ((y337).length : Int)), (29, .int .i64 (p.1 : Int))]) (fun (p : Nat × (List Int) × (List (List Int)) × Value) => [imm (TR.sl (TR.sl TR.int)) v0 x0, own 56 (TR.arr 2 TR.int) p.2.2.2 p.2.2.1, imm (TR.sl TR.int) v342 y337]) (fun (p : Nat × (List Int) × (List (List Int)) × Value) => p.1 + p.2.1.length = (y337).length ∧ List.drop p.1 y337 = p.2.1 ∧ rangeL (saddle_Points_b2 y337 x0 i327) p.2.1 p.1 p.2.2.1 = some y487) (fun (p : Nat × (List Int) × (List (List Int)) × Value) => p.2.1.length) (0, y337, l7, v8) ⟨by simp, by simp, h489⟩ (fun a w st => St.cut [0, 1, 2] ⟨rfl, rfl, rfl, rfl, rfl, rfl, rfl, rfl, rfl, rfl, trivial⟩ (by decide) rfl st) ?_
    rintro ⟨i494, r495, l343, v344⟩ ⟨h500, h501, h499⟩
    try dsimp only at h500 h501 h499
    refine GL.weak (env' := [(0, v0), (5, v344), (6, .int .i64 (i327 : Int)), (7, v342), (20, v0), (21, .int .i64 ((x0).length : Int)), (22, .int .i64 (i327 : Int)), (27, v342), (28, .int .i64 ((y337).length : Int)), (29, .int .i64 (i494 : Int))]) (L' := [imm (TR.sl (TR.sl TR.int)) v0 x0, own 56 (TR.arr 2 TR.int) v344 l343, imm (TR.sl TR.int) v342 y337]) (fun _ _ st => st) ?_
    refine GL.seq ?_
    refine GL.region ?_
    refine RL.binI (v := .bool (decide ((i494 : Int) < ((y337).length : Int)))) rfl rfl rfl rfl rfl ?_
    refine RL.finG ?_
    refine GL.seq ?_
    refine GL.cond rfl (fun b502 => ?_) (fun b502 => ?_)
    ·have h503 : i494 < (y337).length := by have := of_decide_eq_true b502; omega
     obtain ⟨y504, r506, hr, e505, h507⟩ := drop_cons h501 rfl h503
     subst hr
     obtain ⟨z496, h497, h498⟩ := rangeL_some h499
     unfold saddle_Points_b2 at h497
     try dsimp only at h497
     refine GL.skip ?_
     refine GL.seq ?_
     refine GL.block ?_
     refine GL.seq ?_
     refine GL.region ?_
     refine RL.mv rfl rfl rfl ?_
     refine RL.idxS (sz := 1) 2 Try.underlying24 Try_ln3 rfl rfl rfl rfl rfl SlOf.imm (by omega) (by omega) ?_
     refine RL.ldSx (i := i494) (e' := y504) 2 Ex.ik Try_ln3 rfl rfl rfl rfl SlOf.imm e505 Part.self ?_
     refine RL.asg rfl rfl rfl ?_
     refine RL.asg rfl rfl rfl ?_
     refine RL.finG ?_
     refine GL.seq ?_
     refine GL.region ?_
     refine RL.asg rfl rfl rfl ?_
     refine RL.finG ?_
     refine GL.seq ?_
     refine GL.seq ?_
     refine GL.region ?_
     refine RL.mv rfl rfl rfl ?_
     refine RL.lenS 2 Try.underlying24 rfl rfl rfl rfl SlOf.imm ?_
     refine RL.mv rfl rfl rfl ?_
     refine RL.finG ?_
     refine GL.open_ 2 rfl (fun S h => len_imm S h) (fun n526 => ?_)
     obtain ⟨y527, K528, h529, h530, h531, h532, h533⟩ := bindF_K h497
     refine GL.join (ι := Bool) (fun (p : Bool) => [(0, v0), (5, v344), (6, .int .i64 (i327 : Int)), (7, v342), (8, .int .i64 (i494 : Int)), (9, .int .i64 y504), (10, .bool p), (20, v0), (21, .int .i64 ((x0).length : Int)), (22, .int .i64 (i327 : Int)), (27, v342), (28, .int .i64 ((y337).length : Int)), (29, .int .i64 (i494 : Int))]) (fun (p : Bool) => [imm (TR.sl (TR.sl TR.int)) v0 x0, own 56 (TR.arr 2 TR.int) v344 l343, imm (TR.sl TR.int) v342 y337]) (fun (p : Bool) => K528 (.nx p)) ?_ ?_
     ·refine GL.block ?_
      refine GL.loop (ι := Nat × (List Int) × Bool) (fun (p : Nat × (List Int) × Bool) => [(0, v0), (5, v344), (6, .int .i64 (i327 : Int)), (7, v342), (8, .int .i64 (i494 : Int)), (9, .int .i64 y504), (10, .bool p.2.2), (20, v0), (21, .int .i64 ((x0).length : Int)), (22, .int .i64 (i327 : Int)), (27, v342), (28, .int .i64 ((y337).length : Int)), (29, .int .i64 (i494 : Int)), (34, v342), (35, .int .i64 ((y337).length : Int)), (36, .int .i64 (p.1 : Int))]) (fun (p : Nat × (List Int) × Bool) => [imm (TR.sl (TR.sl TR.int)) v0 x0, own 56 (TR.arr 2 TR.int) v344 l343, imm (TR.sl TR.int) v342 y337]) (fun (p : Nat × (List Int) × Bool) => p.1 + p.2.1.length = (y337).length ∧ List.drop p.1 y337 = p.2.1 ∧ rangeL (saddle_Points_b3 y504) p.2.1 p.1 p.2.2 = some y527) (fun (p : Nat × (List Int) × Bool) => p.2.1.length) (0, y337, true) ⟨by simp, by simp, h529⟩ (fun a w st => St.cut [0, 1, 2] ⟨rfl, rfl, rfl, rfl, rfl, rfl, rfl, rfl, rfl, rfl, rfl, rfl, rfl, rfl, rfl, rfl, trivial⟩ (by decide) rfl st) ?_
      rintro ⟨i534, r535, x508⟩ ⟨h540, h541, h539⟩
      try dsimp only at h540 h541 h539
      refine GL.weak (env' := [(0, v0), (5, v344), (6, .int .i64 (i327 : Int)), (7, v342), (8, .int .i64 (i494 : Int)), (9, .int .i64 y504), (10, .bool x508), (20, v0), (21, .int .i64 ((x0).length : Int)), (22, .int .i64 (i327 : Int)), (27, v342), (28, .int .i64 ((y337).length : Int)), (29, .int .i64 (i494 : Int)), (34, v342), (35, .int .i64 ((y337).length : Int)), (36, .int .i64 (i534 : Int))]) (L' := [imm (TR.sl (TR.sl TR.int)) v0 x0, own 56 (TR.arr 2 TR.int) v344 l343, imm (TR.sl TR.int) v342 y337]) (fun _ _ st => st) ?_
      refine GL.seq ?_
      refine GL.region ?_
      refine RL.binI (v := .bool (decide ((i534 : Int) < ((y337).length : Int)))) rfl rfl rfl rfl rfl ?_
      refine RL.finG ?_
      refine GL.seq ?_
      refine GL.cond rfl (fun b542 => ?_) (fun b542 => ?_)
      ·have h543 : i534 < (y337).length := by have := of_decide_eq_true b542; omega
       obtain ⟨y544, r546, hr, e545, h547⟩ := drop_cons h541 rfl h543
       subst hr
       obtain ⟨z536, h537, h538⟩ := rangeL_some h539
       unfold saddle_Points_b3 at h537
       try dsimp only at h537
       refine GL.skip ?_
       refine GL.seq ?_
       refine GL.block ?_
       refine GL.seq ?_
       refine GL.region ?_
       refine RL.idxS (sz := 1) 2 Try.underlying24 Try_ln3 rfl rfl rfl rfl rfl SlOf.imm (by omega) (by omega) ?_
       refine RL.ldSx (i := i534) (e' := y544) 2 Ex.ik Try_ln3 rfl rfl rfl rfl SlOf.imm e545 Part.self ?_
       refine RL.asg rfl rfl rfl ?_
       refine RL.finG ?_
       obtain ⟨y551, K552, h553, h554, h555, h556, h557⟩ := bindF_K h537
       refine GL.join (ι := Bool) (fun (p : Bool) => [(0, v0), (5, v344), (6, .int .i64 (i327 : Int)), (7, v342), (8, .int .i64 (i494 : Int)), (9, .int .i64 y504), (10, .bool p), (20, v0), (21, .int .i64 ((x0).length : Int)), (22, .int .i64 (i327 : Int)), (27, v342), (28, .int .i64 ((y337).length : Int)), (29, .int .i64 (i494 : Int)), (34, v342), (35, .int .i64 ((y337).length : Int)), (36, .int .i64 (i534 : Int))]) (fun (p : Bool) => [imm (TR.sl (TR.sl TR.int)) v0 x0, own 56 (TR.arr 2 TR.int) v344 l343, imm (TR.sl TR.int) v342 y337]) (fun (p : Bool) => K552 (.nx p)) ?_ ?_
       ·skip
        refine GL.region ?_
        refine RL.mv rfl rfl rfl ?_
        refine RL.mv rfl rfl rfl ?_
        refine RL.split (t := 41) rfl (fun b558 => ?_) (fun b558 => ?_)
        ·replace h553 := ite_t b558 h553
         refine RL.mv rfl rfl rfl ?_
         refine RL.mv rfl rfl rfl ?_
         refine RL.binI (v := .bool (decide (y504 ≤ y544))) rfl rfl rfl rfl rfl ?_
         refine RL.pickT rfl rfl rfl rfl ?_
         refine RL.asg rfl rfl rfl ?_
         refine RL.fin ?_
         cases h553
         exact fun a w st => mid_intro (decide (y504 ≤ y544)) h554 (St.cut [0, 1, 2] ⟨rfl, rfl, rfl, rfl, rfl, rfl, rfl, rfl, rfl, rfl, rfl, rfl, rfl, rfl, rfl, rfl, trivial⟩ (by decide) rfl st)
        replace h553 := ite_f b558 h553
        refine RL.skip rfl rfl ?_
        refine RL.skip rfl rfl ?_
        refine RL.skip rfl rfl ?_
        refine RL.pickF rfl rfl rfl rfl ?_
        refine RL.asg rfl rfl rfl ?_
        refine RL.fin ?_
        cases h553
        exact fun a w st => mid_intro false h554 (St.cut [0, 1, 2] ⟨rfl, rfl, rfl, rfl, rfl, rfl, rfl, rfl, rfl, rfl, rfl, rfl, rfl, rfl, rfl, rfl, trivial⟩ (by decide) rfl st)
       rintro x550 h559
       have h560 := h555 _ h559
       try dsimp only at h560
       refine GL.weak (env' := [(0, v0), (5, v344), (6, .int .i64 (i327 : Int)), (7, v342), (8, .int .i64 (i494 : Int)), (9, .int .i64 y504), (10, .bool x550), (20, v0), (21, .int .i64 ((x0).length : Int)), (22, .int .i64 (i327 : Int)), (27, v342), (28, .int .i64 ((y337).length : Int)), (29, .int .i64 (i494 : Int)), (34, v342), (35, .int .i64 ((y337).length : Int)), (36, .int .i64 (i534 : Int))]) (L' := [imm (TR.sl (TR.sl TR.int)) v0 x0, own 56 (TR.arr 2 TR.int) v344 l343, imm (TR.sl TR.int) v342 y337]) (fun _ _ st => st) ?_
       refine GL.nilB ?_
       refine GL.region ?_
       refine RL.binI (v := .int .i64 ((i534 + 1 : Nat) : Int)) rfl rfl rfl rfl (binI_succ i534 (by omega)) ?_
       refine RL.mv rfl rfl rfl ?_
       refine RL.fin ?_
       cases h560
       exact fun a w st => lop_intro (i534 + 1, r546, x550) ⟨by show i534 + 1 + r546.length = (y337).length; simp only [List.length_cons] at h540; omega, h547, h538⟩ (by simp) (St.cut [0, 1, 2] ⟨rfl, rfl, rfl, rfl, rfl, rfl, rfl, rfl, rfl, rfl, rfl, rfl, rfl, rfl, rfl, rfl, trivial⟩ (by decide) rfl st)
      have h543 : ¬ i534 < (y337).length := by have := of_decide_eq_false b542; omega
      obtain rfl : r535 = [] := by rw [← h541]; exact List.drop_of_length_le (by omega)
      replace h539 : some (Fl.nx _) = some y527 := h539
      cases h539
      exact GL.exit (fun a w st => mid_intro x508 h530 (St.cut [0, 1, 2] ⟨rfl, rfl, rfl, rfl, rfl, rfl, rfl, rfl, rfl, rfl, rfl, rfl, rfl, trivial⟩ (by decide) rfl st))
     rintro x508 h561
     have h562 := h531 _ h561
     try dsimp only at h562
     refine GL.weak (env' := [(0, v0), (5, v344), (6, .int .i64 (i327 : Int)), (7, v342), (8, .int .i64 (i494 : Int)), (9, .int .i64 y504), (10, .bool x508), (20, v0), (21, .int .i64 ((x0).length : Int)), (22, .int .i64 (i327 : Int)), (27, v342), (28, .int .i64 ((y337).length : Int)), (29, .int .i64 (i494 : Int))]) (L' := [imm (TR.sl (TR.sl TR.int)) v0 x0, own 56 (TR.arr 2 TR.int) v344 l343, imm (TR.sl TR.int) v342 y337]) (fun _ _ st => st) ?_
     refine GL.seq ?_
     refine GL.seq ?_
     refine GL.region ?_
     refine RL.mv rfl rfl rfl ?_
     refine RL.lenS 0 Try.underlying37 rfl rfl rfl rfl SlOf.imm ?_
     refine RL.mv rfl rfl rfl ?_
     refine RL.finG ?_
     refine GL.open_ 0 rfl (fun S h => len_imm S h) (fun n589 => ?_)
     obtain ⟨y590, K591, h592, h593, h594, h595, h596⟩ := bindF_K h562
     refine GL.join (ι := Bool) (fun (p : Bool) => [(0, v0), (5, v344), (6, .int .i64 (i327 : Int)), (7, v342), (8, .int .i64 (i494 : Int)), (10, .bool p), (20, v0), (21, .int .i64 ((x0).length : Int)), (22, .int .i64 (i327 : Int)), (27, v342), (28, .int .i64 ((y337).length : Int)), (29, .int .i64 (i494 : Int))]) (fun (p : Bool) => [imm (TR.sl (TR.sl TR.int)) v0 x0, own 56 (TR.arr 2 TR.int) v344 l343, imm (TR.sl TR.int) v342 y337]) (fun (p : Bool) => K591 (.nx p)) ?_ ?_
     ·refine GL.block ?_
      refine GL.loop (ι := Nat × (List (List Int)) × Bool) (fun (p : Nat × (List (List Int)) × Bool) => [(0, v0), (5, v344), (6, .int .i64 (i327 : Int)), (7, v342), (8, .int .i64 (i494 : Int)), (9, .int .i64 y504), (10, .bool p.2.2), (20, v0), (21, .int .i64 ((x0).length : Int)), (22, .int .i64 (i327 : Int)), (27, v342), (28, .int .i64 ((y337).length : Int)), (29, .int .i64 (i494 : Int)), (47, v0), (48, .int .i64 ((x0).length : Int)), (49, .int .i64 (p.1 : Int))]) (fun (p : Nat × (List (List Int)) × Bool) => [imm (TR.sl (TR.sl TR.int)) v0 x0, own 56 (TR.arr 2 TR.int) v344 l343, imm (TR.sl TR.int) v342 y337]) (fun (p : Nat × (List (List Int)) × Bool) => p.1 + p.2.1.length = (x0).length ∧ List.drop p.1 x0 = p.2.1 ∧ rangeL (saddle_Points_b4 i494 y504) p.2.1 p.1 p.2.2 = some y590) (fun (p : Nat × (List (List Int)) × Bool) => p.2.1.length) (0, x0, x508) ⟨by simp, by simp, h592⟩ (fun a w st => St.cut [0, 1, 2] ⟨rfl, rfl, rfl, rfl, rfl, rfl, rfl, rfl, rfl, rfl, rfl, rfl, rfl, rfl, rfl, rfl, trivial⟩ (by decide) rfl st) ?_
      rintro ⟨i597, r598, x563⟩ ⟨h603, h604, h602⟩
      try dsimp only at h603 h604 h602
      refine GL.weak (env' := [(0, v0), (5, v344), (6, .int .i64 (i327 : Int)), (7, v342), (8, .int .i64 (i494 : Int)), (9, .int .i64 y504), (10, .bool x563), (20, v0), (21, .int .i64 ((x0).length : Int)), (22, .int .i64 (i327 : Int)), (27, v342), (28, .int .i64 ((y337).length : Int)), (29, .int .i64 (i494 : Int)), (47, v0), (48, .int .i64 ((x0).length : Int)), (49, .int .i64 (i597 : Int))]) (L' := [imm (TR.sl (TR.sl TR.int)) v0 x0, own 56 (TR.arr 2 TR.int) v344 l343, imm (TR.sl TR.int) v342 y337]) (fun _ _ st => st) ?_
      refine GL.seq ?_
      refine GL.region ?_
      refine RL.binI (v := .bool (decide ((i597 : Int) < ((x0).length : Int)))) rfl rfl rfl rfl rfl ?_
      refine RL.finG ?_
      refine GL.seq ?_
      refine GL.cond rfl (fun b605 => ?_) (fun b605 => ?_)
      ·have h606 : i597 < (x0).length := by have := of_decide_eq_true b605; omega
       obtain ⟨y607, r609, hr, e608, h610⟩ := drop_cons h604 rfl h606
       subst hr
       obtain ⟨z599, h600, h601⟩ := rangeL_some h602
       unfold saddle_Points_b4 at h600
       try dsimp only at h600
       refine GL.skip ?_
       refine GL.seq ?_
       refine GL.block ?_
       refine GL.seq ?_
       refine GL.region ?_
       refine RL.idxS (sz := 1) 0 Try.underlying37 Try_ln24 rfl rfl rfl rfl rfl SlOf.imm (by omega) (by omega) ?_
       refine RL.ldS (i := i597) (r := (TR.sl TR.int)) (e' := y607) 0 Try_ln24 rfl rfl rfl rfl SlOf.imm e608 Part.self ?_
       intro v612
       refine RL.asg rfl rfl rfl ?_
       refine RL.finG ?_
       obtain ⟨y620, K621, h622, h623, h624, h625, h626⟩ := bindF_K h600
       refine GL.join (ι := Bool) (fun (p : Bool) => [(0, v0), (5, v344), (6, .int .i64 (i327 : Int)), (7, v342), (8, .int .i64 (i494 : Int)), (9, .int .i64 y504), (10, .bool p), (20, v0), (21, .int .i64 ((x0).length : Int)), (22, .int .i64 (i327 : Int)), (27, v342), (28, .int .i64 ((y337).length : Int)), (29, .int .i64 (i494 : Int)), (47, v0), (48, .int .i64 ((x0).length : Int)), (49, .int .i64 (i597 : Int))]) (fun (p : Bool) => [imm (TR.sl (TR.sl TR.int)) v0 x0, own 56 (TR.arr 2 TR.int) v344 l343, imm (TR.sl TR.int) v342 y337]) (fun (p : Bool) => K621 (.nx p)) ?_ ?_
       ·skip
        refine GL.region ?_
        refine RL.mv rfl rfl rfl ?_
        refine RL.mv rfl rfl rfl ?_
        refine RL.split (t := 54) rfl (fun b627 => ?_) (fun b627 => ?_)
        ·replace h622 := ite_t b627 h622
         refine RL.mv rfl rfl rfl ?_
         refine RL.mv rfl rfl rfl ?_
         refine RL.mv rfl rfl rfl ?_
         obtain ⟨y628, e629, h622⟩ := bind_some h622
         refine RL.idxS (sz := 1) 3 Try.underlying24 Try_ln3 rfl rfl rfl rfl rfl SlOf.imm (idx_some e629).1 (idx_some e629).2.1 ?_
         refine RL.ldSx (i := i494) (e' := y628) 3 Ex.ik Try_ln3 rfl rfl rfl rfl SlOf.imm (idx_some e629).2.2 Part.self ?_
         refine RL.binI (v := .bool (decide (y504 ≥ y628))) rfl rfl rfl rfl rfl ?_
         refine RL.pickT rfl rfl rfl rfl ?_
         refine RL.asg rfl rfl rfl ?_
         refine RL.fin ?_
         cases h622
         exact fun a w st => mid_intro (decide (y504 ≥ y628)) h623 (St.cut [0, 1, 2] ⟨rfl, rfl, rfl, rfl, rfl, rfl, rfl, rfl, rfl, rfl, rfl, rfl, rfl, rfl, rfl, rfl, trivial⟩ (by decide) rfl st)
        replace h622 := ite_f b627 h622
        refine RL.skip rfl rfl ?_
        refine RL.skip rfl rfl ?_
        refine RL.skip rfl rfl ?_
        refine RL.skip rfl rfl ?_
        refine RL.skip rfl rfl ?_
        refine RL.skip rfl rfl ?_
        refine RL.pickF rfl rfl rfl rfl ?_
        refine RL.asg rfl rfl rfl ?_
        refine RL.fin ?_
        cases h622
        exact fun a w st => mid_intro false h623 (St.cut [0, 1, 2] ⟨rfl, rfl, rfl, rfl, rfl, rfl, rfl, rfl, rfl, rfl, rfl, rfl, rfl, rfl, rfl, rfl, trivial⟩ (by decide) rfl st)
       rintro x619 h630
       have h631 := h624 _ h630
       try dsimp only at h631
       refine GL.weak (env' := [(0, v0), (5, v344), (6, .int .i64 (i327 : Int)), (7, v342), (8, .int .i64 (i494 : Int)), (9, .int .i64 y504), (10, .bool x619), (20, v0), (21, .int .i64 ((x0).length : Int)), (22, .int .i64 (i327 : Int)), (27, v342), (28, .int .i64 ((y337).length : Int)), (29, .int .i64 (i494 : Int)), (47, v0), (48, .int .i64 ((x0).length : Int)), (49, .int .i64 (i597 : Int))]) (L' := [imm (TR.sl (TR.sl TR.int)) v0 x0, own 56 (TR.arr 2 TR.int) v344 l343, imm (TR.sl TR.int) v342 y337]) (fun _ _ st => st) ?_
       refine GL.nilB ?_
       refine GL.region ?_
       refine RL.binI (v := .int .i64 ((i597 + 1 : Nat) : Int)) rfl rfl rfl rfl (binI_succ i597 (by omega)) ?_
       refine RL.mv rfl rfl rfl ?_
       refine RL.fin ?_
       cases h631
       exact fun a w st => lop_intro (i597 + 1, r609, x619) ⟨by show i597 + 1 + r609.length = (x0).length; simp only [List.length_cons] at h603; omega, h610, h601⟩ (by simp) (St.cut [0, 1, 2] ⟨rfl, rfl, rfl, rfl, rfl, rfl, rfl, rfl, rfl, rfl, rfl, rfl, rfl, rfl, rfl, rfl, trivial⟩ (by decide) rfl st)
      have h606 : ¬ i597 < (x0).length := by have := of_decide_eq_false b605; omega
      obtain rfl : r598 = [] := by rw [← h604]; exact List.drop_of_length_le (by omega)
      replace h602 : some (Fl.nx _) = some y590 := h602
      cases h602
      exact GL.exit (fun a w st => mid_intro x563 h593 (St.cut [0, 1, 2] ⟨rfl, rfl, rfl, rfl, rfl, rfl, rfl, rfl, rfl, rfl, rfl, rfl, trivial⟩ (by decide) rfl st))
     rintro x563 h632
     have h633 := h594 _ h632
     try dsimp only at h633
     refine GL.weak (env' := [(0, v0), (5, v344), (6, .int .i64 (i327 : Int)), (7, v342), (8, .int .i64 (i494 : Int)), (10, .bool x563), (20, v0), (21, .int .i64 ((x0).length : Int)), (22, .int .i64 (i327 : Int)), (27, v342), (28, .int .i64 ((y337).length : Int)), (29, .int .i64 (i494 : Int))]) (L' := [imm (TR.sl (TR.sl TR.int)) v0 x0, own 56 (TR.arr 2 TR.int) v344 l343, imm (TR.sl TR.int) v342 y337]) (fun _ _ st => st) ?_
     refine GL.seq ?_
     refine GL.region ?_
     refine RL.mv rfl rfl rfl ?_
     refine RL.finG ?_
     refine GL.cond rfl (fun b634 => ?_) (fun b634 => ?_)
     ·replace h633 := ite_t b634 h633
      refine GL.region ?_
      refine RL.mv rfl rfl rfl ?_
      refine RL.mv rfl rfl rfl ?_
      refine RL.mv rfl rfl rfl ?_
      refine RL.bldA (t := (TR.arr 2 TR.int)) (d0 := ([(i327 : Int), (i494 : Int)] : (List Int))) (pv := [(0, .int .i64 (i327 : Int)), (1, .int .i64 (i494 : Int))]) rfl Try_bld56 (by decide) rfl rfl rfl ⟨⟨_, _, TR.int, (i327 : Int), rfl, rfl, VR.int⟩, ⟨⟨_, _, TR.int, (i494 : Int), rfl, rfl, VR.int⟩, trivial⟩⟩ (fun S f hi => by
        obtain ⟨c0, e0, r0⟩ := cells_vrep (t := TR.int) (u := .int .i64 (i327 : Int)) (e := (i327 : Int)) (VR.int S f hi)
        obtain ⟨c1, e1, r1⟩ := cells_vrep (t := TR.int) (u := .int .i64 (i494 : Int)) (e := (i494 : Int)) (VR.int S f hi)
        show TR.rep (TR.arr 2 TR.int) S (List.flatten [(.int .i64 (i327 : Int) : Value).cells.toList, (.int .i64 (i494 : Int) : Value).cells.toList]) _
        simp only [e0, e1,  List.flatten_cons, List.flatten_nil, List.append_nil]
        exact ⟨rfl, ⟨_, _, rfl, r0, ⟨_, [], (List.append_nil _).symm, r1, rfl⟩⟩⟩) ?_
      intro v640
      refine RL.bS (t := (TR.arr 2 TR.int)) (vs := [v640]) ([([(i327 : Int), (i494 : Int)] : (List Int))] : (List (List Int))) Try.underlying51 Try_lo56 rfl rfl rfl rfl ⟨(VR.item 3 rfl), trivial⟩ rfl (by decide) ?_
      intro v641
      refine RL.reL (L' := [imm (TR.sl (TR.sl TR.int)) v0 x0, own 56 (TR.arr 2 TR.int) v344 l343, imm (TR.sl TR.int) v342 y337, imm (TR.arr 2 TR.int) v640 ([(i327 : Int), (i494 : Int)] : (List Int)), own 56 (TR.arr 2 TR.int) v641 ([([(i327 : Int), (i494 : Int)] : (List Int))] : (List (List Int)))]) rfl ?_
      obtain ⟨y642, e643, h633⟩ := bind_some h633
      replace e643 := chk_some e643
      refine RL.app 1 4 Try.underlying51 Try_lo56 rfl rfl rfl rfl rfl rfl rfl SlOf.own e643 ?_
      intro v644
      refine RL.asg rfl rfl rfl ?_
      refine RL.finG ?_
      refine GL.nilB ?_
      refine GL.region ?_
      refine RL.binI (v := .int .i64 ((i494 + 1 : Nat) : Int)) rfl rfl rfl rfl (binI_succ i494 (by omega)) ?_
      refine RL.mv rfl rfl rfl ?_
      refine RL.fin ?_
      cases h633
      exact fun a w st => lop_intro (i494 + 1, r506, (l343 ++ ([([(i327 : Int), (i494 : Int)] : (List Int))] : (List (List Int)))), v644) ⟨by show i494 + 1 + r506.length = (y337).length; simp only [List.length_cons] at h500; omega, h507, h498⟩ (by simp) (St.cut [0, 1, 2] ⟨rfl, rfl, rfl, rfl, rfl, rfl, rfl, rfl, rfl, rfl, trivial⟩ (by decide) rfl st)
     replace h633 := ite_f b634 h633
     refine GL.skip ?_
     refine GL.nilB ?_
     refine GL.region ?_
     refine RL.binI (v := .int .i64 ((i494 + 1 : Nat) : Int)) rfl rfl rfl rfl (binI_succ i494 (by omega)) ?_
     refine RL.mv rfl rfl rfl ?_
     refine RL.fin ?_
     cases h633
     exact fun a w st => lop_intro (i494 + 1, r506, l343, v344) ⟨by show i494 + 1 + r506.length = (y337).length; simp only [List.length_cons] at h500; omega, h507, h498⟩ (by simp) (St.cut [0, 1, 2] ⟨rfl, rfl, rfl, rfl, rfl, rfl, rfl, rfl, rfl, rfl, trivial⟩ (by decide) rfl st)
    have h503 : ¬ i494 < (y337).length := by have := of_decide_eq_false b502; omega
    obtain rfl : r495 = [] := by rw [← h501]; exact List.drop_of_length_le (by omega)
    replace h499 : some (Fl.nx _) = some y487 := h499
    cases h499
    exact GL.exit (fun a w st => mid_intro (l343, v344) h490 (St.cut [0, 1] ⟨rfl, rfl, rfl, rfl, rfl, trivial⟩ (by decide) rfl st))
   rintro ⟨l343, v344⟩ h645
   have h646 := h491 _ h645
   try dsimp only at h646
   refine GL.weak (env' := [(0, v0), (5, v344), (20, v0), (21, .int .i64 ((x0).length : Int)), (22, .int .i64 (i327 : Int))]) (L' := [imm (TR.sl (TR.sl TR.int)) v0 x0, own 56 (TR.arr 2 TR.int) v344 l343]) (fun _ _ st => st) ?_
   refine GL.nilB ?_
   refine GL.region ?_
   refine RL.binI (v := .int .i64 ((i327 + 1 : Nat) : Int)) rfl rfl rfl rfl (binI_succ i327 (by omega)) ?_
   refine RL.mv rfl rfl rfl ?_
   refine RL.fin ?_
   cases h646
   exact fun a w st => lop_intro (i327 + 1, r339, l343, v344) ⟨by show i327 + 1 + r339.length = (x0).length; simp only [List.length_cons] at h333; omega, h340, h331⟩ (by simp) (St.cut [0, 1] ⟨rfl, rfl, rfl, rfl, rfl, trivial⟩ (by decide) rfl st)
  have h336 : ¬ i327 < (x0).length := by have := of_decide_eq_false b335; omega
  obtain rfl : r328 = [] := by rw [← h334]; exact List.drop_of_length_le (by omega)
  replace h332 : some (Fl.nx _) = some y320 := h332
  cases h332
  exact GL.exit (fun a w st => mid_intro (l7, v8) h323 (St.cut [1] ⟨rfl, trivial⟩ (by decide) rfl st))
 rintro ⟨l7, v8⟩ h647
 have h648 := h324 _ h647
 try dsimp only at h648
 refine GL.weak (env' := [(5, v8)]) (L' := [own 56 (TR.arr 2 TR.int) v8 l7]) (fun _ _ st => st) ?_
 refine GL.seq ?_
 refine GL.region ?_
 refine RL.mv rfl rfl rfl ?_
 refine RL.asg rfl rfl rfl ?_
 refine RL.asg rfl rfl rfl ?_
 refine RL.finG ?_
 have h648 := Option.some.inj h648
 subst h648
 exact GL.ret (Gx.ret (v := .tuple #[v8, .int .i64 (0 : Int)]) (res2 rfl rfl rfl) (fun a w st => (st.pick [0] (by decide) rfl).toPost v8))

set_option maxHeartbeats 4000000 in
theorem slices_IndexFunc_api_Errno_api_Errno_c (S : Hp) (w : World) (hS : S.sub w) (v0 : Value) (x0 : (List Int)) (k0 : ((TR.sl TR.int)).vrep S v0 x0) (f1 : FuncId) (c1 : Array Value) (t1 : Fit Try.prog f1) (g1 : Int → Option Bool) (k1 : ∀ (U : Hp) (w' : World), Hp.le S U → U.sub w' → ∀ (a0 : Int) (rr : Bool), g1 a0 = some rr → Calls Try.prog f1 (#[.int .i64 a0] ++ c1) w' (PostV w' (.bool rr))) (res : Int) (hm : slices_IndexFunc_api_Errno_api_Errno_m x0 g1 = some res) : Calls Try.prog 125 #[v0, .func (.func f1) #[] c1] w (PostV w (.int .i64 res)) := by
 refine calls_enter 19 Try.func125 Try.ntmps125 rfl S false [(0, v0), (1, .func (.func f1) #[] c1)] [imm (TR.sl TR.int) v0 x0] rfl ⟨rfl, ⟨rfl, trivial⟩⟩ hS ⟨k0, trivial⟩ ?_
 unfold slices_IndexFunc_api_Errno_api_Errno_m at hm
 refine GL.seq ?_
 refine GL.region ?_
 refine RL.asg rfl rfl rfl ?_
 refine RL.finG ?_
 refine GL.seq ?_
 refine GL.seq ?_
 refine GL.region ?_
 refine RL.mv rfl rfl rfl ?_
 refine RL.lenS 0 Try.underlying101 rfl rfl rfl rfl SlOf.imm ?_
 refine RL.mv rfl rfl rfl ?_
 refine RL.finG ?_
 refine GL.open_ 0 rfl (fun S h => len_imm S h) (fun n12 => ?_)
 obtain ⟨y13, K14, h15, h16, h17, h18, h19⟩ := bindR_K hm
 refine GL.join (ι := Unit) (fun (p : Unit) => []) (fun (p : Unit) => []) (fun (p : Unit) => K14 (.nx ())) ?_ ?_
 ·refine GL.block ?_
  refine GL.loop (ι := Nat × (List Int)) (fun (p : Nat × (List Int)) => [(0, v0), (1, .func (.func f1) #[] c1), (7, .int .i64 ((x0).length : Int)), (8, .int .i64 (p.1 : Int))]) (fun (p : Nat × (List Int)) => [imm (TR.sl TR.int) v0 x0]) (fun (p : Nat × (List Int)) => p.1 + p.2.length = (x0).length ∧ List.drop p.1 x0 = p.2 ∧ rangeL (slices_IndexFunc_api_Errno_api_Errno_b1 g1) p.2 p.1 () = some y13) (fun (p : Nat × (List Int)) => p.2.length) (0, x0) ⟨by simp, by simp, h15⟩ (fun a w st => St.cut [0] ⟨rfl, rfl, rfl, rfl, trivial⟩ (by decide) rfl st) ?_
  rintro ⟨i20, r21⟩ ⟨h26, h27, h25⟩
  try dsimp only at h26 h27 h25
  refine GL.weak (env' := [(0, v0), (1, .func (.func f1) #[] c1), (7, .int .i64 ((x0).length : Int)), (8, .int .i64 (i20 : Int))]) (L' := [imm (TR.sl TR.int) v0 x0]) (fun _ _ st => st) ?_
  refine GL.seq ?_
  refine GL.region ?_
  refine RL.binI (v := .bool (decide ((i20 : Int) < ((x0).length : Int)))) rfl rfl rfl rfl rfl ?_
  refine RL.finG ?_
  refine GL.seq ?_
  refine GL.cond rfl (fun b28 => ?_) (fun b28 => ?_)
  ·have h29 : i20 < (x0).length := by have := of_decide_eq_true b28; omega
   obtain ⟨y30, r32, hr, e31, h33⟩ := drop_cons h27 rfl h29
   subst hr
   obtain ⟨z22, h23, h24⟩ := rangeL_some h25
   unfold slices_IndexFunc_api_Errno_api_Errno_b1 at h23
   try dsimp only at h23
   refine GL.skip ?_
   refine GL.seq ?_
   refine GL.block ?_
   refine GL.seq ?_
   refine GL.region ?_
   refine RL.mv rfl rfl rfl ?_
   refine RL.asg rfl rfl rfl ?_
   refine RL.finG ?_
   refine GL.seq ?_
   refine GL.region ?_
   refine RL.mv rfl rfl rfl ?_
   refine RL.mv rfl rfl rfl ?_
   refine RL.mv rfl rfl rfl ?_
   refine RL.idxS (sz := 1) 0 Try.underlying101 Try_ln25 rfl rfl rfl rfl rfl SlOf.imm (by omega) (by omega) ?_
   refine RL.ldSx (i := i20) (e' := y30) 0 Ex.ik Try_ln25 rfl rfl rfl rfl SlOf.imm e31 Part.self ?_
   obtain ⟨y36, e37, h23⟩ := bind_some h23
   refine RL.callV (v := .bool y36) (vs := [.int .i64 y30]) t1 rfl (Or.inl rfl) rfl rfl rfl rfl (fun U w hU hW hL => k1 U w hW hU y30 _ e37) ?_
   refine RL.finG ?_
   refine GL.cond rfl (fun b38 => ?_) (fun b38 => ?_)
   ·replace h23 := ite_t b38 h23
    refine GL.seq ?_
    refine GL.region ?_
    refine RL.mv rfl rfl rfl ?_
    refine RL.asg rfl rfl rfl ?_
    refine RL.finG ?_
    cases h23
    replace h24 : some (Fl.rt _) = some y13 := h24
    cases h24
    have hh := h18 _ h16
    subst hh
    exact GL.ret (Gx.ret (v := .int .i64 (i20 : Int)) (res1 rfl rfl) (fun a w st => st.toPostV))
   replace h23 := ite_f b38 h23
   refine GL.skip ?_
   refine GL.nilB ?_
   refine GL.region ?_
   refine RL.binI (v := .int .i64 ((i20 + 1 : Nat) : Int)) rfl rfl rfl rfl (binI_succ i20 (by omega)) ?_
   refine RL.mv rfl rfl rfl ?_
   refine RL.fin ?_
   cases h23
   exact fun a w st => lop_intro (i20 + 1, r32) ⟨by show i20 + 1 + r32.length = (x0).length; simp only [List.length_cons] at h26; omega, h33, h24⟩ (by simp) (St.cut [0] ⟨rfl, rfl, rfl, rfl, trivial⟩ (by decide) rfl st)
  have h29 : ¬ i20 < (x0).length := by have := of_decide_eq_false b28; omega
  obtain rfl : r21 = [] := by rw [← h27]; exact List.drop_of_length_le (by omega)
  replace h25 : some (Fl.nx _) = some y13 := h25
  cases h25
  exact GL.exit (fun a w st => mid_intro () h16 (St.cut [] trivial (by decide) rfl st))
 rintro ⟨⟩ h39
 have h40 := h17 _ h39
 try dsimp only at h40
 refine GL.weak (env' := []) (L' := []) (fun _ _ st => st) ?_
 refine GL.seq ?_
 refine GL.region ?_
 refine RL.asg rfl rfl rfl ?_
 refine RL.finG ?_
 have h40 := Option.some.inj h40
 subst h40
 exact GL.ret (Gx.ret (v := .int .i64 (-1 : Int)) (res1 rfl rfl) (fun a w st => st.toPostV))

set_option maxHeartbeats 4000000 in
theorem slices_ContainsFunc_api_Errno_api_Errno_c (S : Hp) (w : World) (hS : S.sub w) (v0 : Value) (x0 : (List Int)) (k0 : ((TR.sl TR.int)).vrep S v0 x0) (f1 : FuncId) (c1 : Array Value) (t1 : Fit Try.prog f1) (g1 : Int → Option Bool) (k1 : ∀ (U : Hp) (w' : World), Hp.le S U → U.sub w' → ∀ (a0 : Int) (rr : Bool), g1 a0 = some rr → Calls Try.prog f1 (#[.int .i64 a0] ++ c1) w' (PostV w' (.bool rr))) (res : Bool) (hm : slices_ContainsFunc_api_Errno_api_Errno_m x0 g1 = some res) : Calls Try.prog 82 #[v0, .func (.func f1) #[] c1] w (PostV w (.bool res)) := by
 refine calls_enter 9 Try.func82 Try.ntmps82 rfl S false [(0, v0), (1, .func (.func f1) #[] c1)] [imm (TR.sl TR.int) v0 x0] rfl ⟨rfl, ⟨rfl, trivial⟩⟩ hS ⟨k0, trivial⟩ ?_
 unfold slices_ContainsFunc_api_Errno_api_Errno_m at hm
 refine GL.seq ?_
 refine GL.region ?_
 refine RL.asg rfl rfl rfl ?_
 refine RL.finG ?_
 refine GL.seq ?_
 refine GL.region ?_
 refine RL.mv rfl rfl rfl ?_
 refine RL.mv rfl rfl rfl ?_
 obtain ⟨y5, e6, hm⟩ := bind_some hm
 refine RL.callV (v := .int .i64 y5) (vs := [v0, .func (.func f1) #[] c1]) Try_fit125 rfl (Or.inl rfl) rfl rfl rfl rfl (fun U w hU hW hL => slices_IndexFunc_api_Errno_api_Errno_c U w hU _ _ (hL 0 _ _ rfl Seen.imm) f1 c1 t1 g1 (fun U' w' hle => k1 U' w' (Hp.le_trans hW hle)) _ e6) ?_
 refine RL.binI (v := .bool (decide (y5 ≥ (0 : Int)))) rfl rfl rfl rfl rfl ?_
 refine RL.asg rfl rfl rfl ?_
 refine RL.finG ?_
 have hm := Option.some.inj hm
 subst hm
 exact GL.ret (Gx.ret (v := .bool (decide (y5 ≥ (0 : Int)))) (res1 rfl rfl) (fun a w st => st.toPostV))

set_option maxHeartbeats 4000000 in
theorem pk_good_1_c (S : Hp) (w : World) (hS : S.sub w) (x0 : Int) (res : Bool) (hm : pk_good_1_m x0 = some res) : Calls Try.prog 83 #[.int .i64 x0] w (PostC w (.bool res)) := by
 refine calls_enter 5 Try.func83 Try.ntmps83 rfl S true [(0, .int .i64 x0)] [] rfl ⟨rfl, trivial⟩ hS trivial ?_
 unfold pk_good_1_m at hm
 refine GL.seq ?_
 refine GL.region ?_
 refine RL.asg rfl rfl rfl ?_
 refine RL.finG ?_
 refine GL.seq ?_
 refine GL.region ?_
 refine RL.mv rfl rfl rfl ?_
 refine RL.binI (v := .bool (x0 != (0 : Int))) rfl rfl rfl rfl rfl ?_
 refine RL.asg rfl rfl rfl ?_
 refine RL.finG ?_
 have hm := Option.some.inj hm
 subst hm
 exact GL.ret (Gx.ret (v := .bool (x0 != (0 : Int))) (res1 rfl rfl) (fun a w st => st.toPostC rfl))

set_option maxHeartbeats 4000000 in
theorem pk_good_c (S : Hp) (w : World) (hS : S.sub w) (v0 : Value) (x0 : (List Int)) (k0 : ((TR.sl TR.int)).vrep S v0 x0) (res : Bool) (hm : pk_good_m x0 = some res) : Calls Try.prog 20 #[v0] w (PostV w (.bool res)) := by
 refine calls_enter 6 Try.func20 Try.ntmps20 rfl S false [(0, v0)] [imm (TR.sl TR.int) v0 x0] rfl ⟨rfl, trivial⟩ hS ⟨k0, trivial⟩ ?_
 unfold pk_good_m at hm
 refine GL.seq ?_
 refine GL.region ?_
 refine RL.asg rfl rfl rfl ?_
 refine RL.finG ?_
 refine GL.seq ?_
 refine GL.region ?_
 refine RL.mv rfl rfl rfl ?_
 obtain ⟨y4, e5, hm⟩ := bind_some hm
 refine RL.callV (v := .bool y4) (vs := [v0, .func (.func 83) #[] #[]]) Try_fit82 rfl (Or.inl rfl) rfl rfl rfl rfl (fun U w hU hW hL => slices_ContainsFunc_api_Errno_api_Errno_c U w hU _ _ (hL 0 _ _ rfl Seen.imm) 83 #[] Try_fit83 (fun a0 => pk_good_1_m a0) (fun U' w' hle hU' a0 rr hr => (pk_good_1_c U' w' hU' a0 rr hr).mono (fun _ _ z => z.toV)) _ e5) ?_
 refine RL.notB rfl rfl rfl ?_
 refine RL.asg rfl rfl rfl ?_
 refine RL.finG ?_
 have hm := Option.some.inj hm
 subst hm
 exact GL.ret (Gx.ret (v := .bool (!y4)) (res1 rfl rfl) (fun a w st => st.toPostV))

set_option maxHeartbeats 4000000 in
theorem slices_Equal_pairs_c (S : Hp) (w : World) (hS : S.sub w) (v0 : Value) (x0 : (List (List Int))) (k0 : ((TR.sl (TR.arr 2 TR.int))).vrep S v0 x0) (v1 : Value) (x1 : (List (List Int))) (k1 : ((TR.sl (TR.arr 2 TR.int))).vrep S v1 x1) (res : Bool) (hm : slices_Equal_pairs_m x0 x1 = some res) : Calls Try.prog 30 #[v0, v1] w (PostV w (.bool res)) := by
 refine calls_enter 26 Try.func30 Try.ntmps30 rfl S false [(0, v0), (1, v1)] [imm (TR.sl (TR.arr 2 TR.int)) v0 x0, imm (TR.sl (TR.arr 2 TR.int)) v1 x1] rfl ⟨rfl, ⟨rfl, trivial⟩⟩ hS ⟨k0, ⟨k1, trivial⟩⟩ ?_
 unfold slices_Equal_pairs_m at hm
 refine GL.seq ?_
 refine GL.region ?_
 refine RL.asg rfl rfl rfl ?_
 refine RL.finG ?_
 refine GL.seq ?_
 refine GL.seq ?_
 refine GL.region ?_
 refine RL.mv rfl rfl rfl ?_
 refine RL.lenS 0 Try.underlying51 rfl rfl rfl rfl SlOf.imm ?_
 refine RL.mv rfl rfl rfl ?_
 refine RL.lenS 1 Try.underlying51 rfl rfl rfl rfl SlOf.imm ?_
 refine RL.binI (v := .bool (((x0).length : Int) != ((x1).length : Int))) rfl rfl rfl rfl rfl ?_
 refine RL.finG ?_
 refine GL.cond rfl (fun b3 => ?_) (fun b3 => ?_)
 ·replace hm := ite_t b3 hm
  refine GL.seq ?_
  refine GL.region ?_
  refine RL.asg rfl rfl rfl ?_
  refine RL.finG ?_
  have hm := Option.some.inj hm
  subst hm
  exact GL.ret (Gx.ret (v := .bool false) (res1 rfl rfl) (fun a w st => st.toPostV))
 replace hm := ite_f b3 hm
 refine GL.skip ?_
 refine GL.seq ?_
 refine GL.seq ?_
 refine GL.region ?_
 refine RL.mv rfl rfl rfl ?_
 refine RL.lenS 0 Try.underlying51 rfl rfl rfl rfl SlOf.imm ?_
 refine RL.mv rfl rfl rfl ?_
 refine RL.finG ?_
 refine GL.open_ 0 rfl (fun S h => len_imm S h) (fun n17 => ?_)
 obtain ⟨y18, K19, h20, h21, h22, h23, h24⟩ := bindR_K hm
 refine GL.join (ι := Unit) (fun (p : Unit) => []) (fun (p : Unit) => []) (fun (p : Unit) => K19 (.nx ())) ?_ ?_
 ·refine GL.block ?_
  refine GL.loop (ι := Nat × (List (List Int))) (fun (p : Nat × (List (List Int))) => [(0, v0), (1, v1), (12, .int .i64 ((x0).length : Int)), (13, .int .i64 (p.1 : Int))]) (fun (p : Nat × (List (List Int))) => [imm (TR.sl (TR.arr 2 TR.int)) v0 x0, imm (TR.sl (TR.arr 2 TR.int)) v1 x1]) (fun (p : Nat × (List (List Int))) => p.1 + p.2.length = (x0).length ∧ List.drop p.1 x0 = p.2 ∧ rangeL (slices_Equal_pairs_b1 x1) p.2 p.1 () = some y18) (fun (p : Nat × (List (List Int))) => p.2.length) (0, x0) ⟨by simp, by simp, h20⟩ (fun a w st => St.cut [0, 1] ⟨rfl, rfl, rfl, rfl, trivial⟩ (by decide) rfl st) ?_
  rintro ⟨i25, r26⟩ ⟨h31, h32, h30⟩
  try dsimp only at h31 h32 h30
  refine GL.weak (env' := [(0, v0), (1, v1), (12, .int .i64 ((x0).length : Int)), (13, .int .i64 (i25 : Int))]) (L' := [imm (TR.sl (TR.arr 2 TR.int)) v0 x0, imm (TR.sl (TR.arr 2 TR.int)) v1 x1]) (fun _ _ st => st) ?_
  refine GL.seq ?_
  refine GL.region ?_
  refine RL.binI (v := .bool (decide ((i25 : Int) < ((x0).length : Int)))) rfl rfl rfl rfl rfl ?_
  refine RL.finG ?_
  refine GL.seq ?_
  refine GL.cond rfl (fun b33 => ?_) (fun b33 => ?_)
  ·have h34 : i25 < (x0).length := by have := of_decide_eq_true b33; omega
   obtain ⟨y35, r37, hr, e36, h38⟩ := drop_cons h32 rfl h34
   subst hr
   obtain ⟨z27, h28, h29⟩ := rangeL_some h30
   unfold slices_Equal_pairs_b1 at h28
   try dsimp only at h28
   refine GL.skip ?_
   refine GL.seq ?_
   refine GL.block ?_
   refine GL.seq ?_
   refine GL.region ?_
   refine RL.mv rfl rfl rfl ?_
   refine RL.asg rfl rfl rfl ?_
   refine RL.finG ?_
   refine GL.seq ?_
   refine GL.regionQ rfl rfl (by kernel_rfl) ?_
   refine RL.mv rfl rfl rfl ?_
   refine RL.mv rfl rfl rfl ?_
   refine RL.idxS (sz := 2) 0 Try.underlying51 Try_ln56 rfl rfl rfl rfl rfl SlOf.imm (by omega) (by omega) ?_
   refine RL.ldS (i := i25) (r := (TR.arr 2 TR.int)) (e' := y35) 0 Try_ln56 rfl rfl rfl rfl SlOf.imm e36 Part.self ?_
   intro v43
   refine RL.mv rfl rfl rfl ?_
   refine RL.mv rfl rfl rfl ?_
   obtain ⟨y44, e45, h28⟩ := bind_some h28
   refine RL.idxS (sz := 2) 1 Try.underlying51 Try_ln56 rfl rfl rfl rfl rfl SlOf.imm (idx_some e45).1 (idx_some e45).2.1 ?_
   refine RL.ldS (i := i25) (r := (TR.arr 2 TR.int)) (e' := y44) 1 Try_ln56 rfl rfl rfl rfl SlOf.imm (idx_some e45).2.2 Part.self ?_
   intro v46
   refine RL.reL (L' := [imm (TR.sl (TR.arr 2 TR.int)) v0 x0, imm (TR.sl (TR.arr 2 TR.int)) v1 x1, imm (TR.arr 2 TR.int) v43 y35, imm (TR.arr 2 TR.int) v46 y44]) rfl ?_
   refine RL.neG (t := (TR.arr 2 TR.int)) (e := y35) (e' := y44) rfl Try_eq56 (by decide) Try.eqGuardType56 rfl rfl rfl rfl (VR.item 2 rfl) (VR.item 3 rfl) ?_
   refine RL.finQG ?_
   refine GL.cond rfl (fun b47 => ?_) (fun b47 => ?_)
   ·replace h28 := ite_t b47 h28
    refine GL.seq ?_
    refine GL.region ?_
    refine RL.asg rfl rfl rfl ?_
    refine RL.finG ?_
    cases h28
    replace h29 : some (Fl.rt _) = some y18 := h29
    cases h29
    have hh := h23 _ h21
    subst hh
    exact GL.ret (Gx.ret (v := .bool false) (res1 rfl rfl) (fun a w st => st.toPostV))
   replace h28 := ite_f b47 h28
   refine GL.skip ?_
   refine GL.nilB ?_
   refine GL.region ?_
   refine RL.binI (v := .int .i64 ((i25 + 1 : Nat) : Int)) rfl rfl rfl rfl (binI_succ i25 (by omega)) ?_
   refine RL.mv rfl rfl rfl ?_
   refine RL.fin ?_
   cases h28
   exact fun a w st => lop_intro (i25 + 1, r37) ⟨by show i25 + 1 + r37.length = (x0).length; simp only [List.length_cons] at h31; omega, h38, h29⟩ (by simp) (St.cut [0, 1] ⟨rfl, rfl, rfl, rfl, trivial⟩ (by decide) rfl st)
  have h34 : ¬ i25 < (x0).length := by have := of_decide_eq_false b33; omega
  obtain rfl : r26 = [] := by rw [← h32]; exact List.drop_of_length_le (by omega)
  replace h30 : some (Fl.nx _) = some y18 := h30
  cases h30
  exact GL.exit (fun a w st => mid_intro () h21 (St.cut [] trivial (by decide) rfl st))
 rintro ⟨⟩ h48
 have h49 := h22 _ h48
 try dsimp only at h49
 refine GL.weak (env' := []) (L' := []) (fun _ _ st => st) ?_
 refine GL.seq ?_
 refine GL.region ?_
 refine RL.asg rfl rfl rfl ?_
 refine RL.finG ?_
 have h49 := Option.some.inj h49
 subst h49
 exact GL.ret (Gx.ret (v := .bool true) (res1 rfl rfl) (fun a w st => st.toPostV))

set_option maxHeartbeats 4000000 in
theorem pk_saddles_c (S : Hp) (w : World) (hS : S.sub w)  (res : Bool) (hm : pk_saddles_m = some res) : Calls Try.prog 27 #[] w (PostV w (.bool res)) := by
 refine calls_enter 39 Try.func27 Try.ntmps27 rfl S false [] [] rfl trivial hS trivial ?_
 unfold pk_saddles_m at hm
 refine GL.seq ?_
 refine GL.region ?_
 refine RL.asg rfl rfl rfl ?_
 refine RL.finG ?_
 refine GL.seq ?_
 refine GL.region ?_
 refine RL.bS (t := TR.int) (vs := [.int .i64 (3 : Int), .int .i64 (1 : Int)]) ([(3 : Int), (1 : Int)] : (List Int)) Try.underlying24 Try_lo3 rfl rfl rfl rfl ⟨VR.int, ⟨VR.int, trivial⟩⟩ rfl (by decide) ?_
 intro v6
 refine RL.bS (t := TR.int) (vs := [.int .i64 (4 : Int), .int .i64 (2 : Int)]) ([(4 : Int), (2 : Int)] : (List Int)) Try.underlying24 Try_lo3 rfl rfl rfl rfl ⟨VR.int, ⟨VR.int, trivial⟩⟩ rfl (by decide) ?_
 intro v7
 refine RL.reL (L' := [own 3 TR.int v6 ([(3 : Int), (1 : Int)] : (List Int)), own 3 TR.int v7 ([(4 : Int), (2 : Int)] : (List Int))]) rfl ?_
 refine RL.weak (fun a w st => st.freeze 0 rfl) ?_
 refine RL.weak (fun a w st => st.freeze 1 rfl) ?_
 refine RL.bS (t := (TR.sl TR.int)) (vs := [v6, v7]) ([([(3 : Int), (1 : Int)] : (List Int)), ([(4 : Int), (2 : Int)] : (List Int))] : (List (List Int))) Try.underlying37 Try_lo24 rfl rfl rfl rfl ⟨(VR.item 0 rfl), ⟨(VR.item 1 rfl), trivial⟩⟩ rfl (by decide) ?_
 intro v8
 refine RL.reL (L' := [imm (TR.sl TR.int) v6 ([(3 : Int), (1 : Int)] : (List Int)), imm (TR.sl TR.int) v7 ([(4 : Int), (2 : Int)] : (List Int)), own 24 (TR.sl TR.int) v8 ([([(3 : Int), (1 : Int)] : (List Int)), ([(4 : Int), (2 : Int)] : (List Int))] : (List (List Int)))]) rfl ?_
 obtain ⟨y9, e10, hm⟩ := bind_some hm
 refine RL.callC (v := .tuple #[.int .i64 y9.1, .int .i64 y9.2.1, .int .i64 y9.2.2]) (vs := [v8]) Try_fit86 rfl rfl rfl rfl (fun U w hU hW hL => saddle_Bounds_c U w hU _ _ (hL 2 _ _ rfl Seen.own) _ e10) ?_
 refine RL.mv rfl rfl rfl ?_
 refine RL.ext rfl rfl rfl rfl ?_
 refine RL.ext rfl rfl rfl rfl ?_
 refine RL.ext rfl rfl rfl rfl ?_
 refine RL.asg rfl rfl rfl ?_
 refine RL.asg rfl rfl rfl ?_
 refine RL.asg rfl rfl rfl ?_
 refine RL.finG ?_
 refine GL.seq ?_
 refine GL.region ?_
 refine RL.bS (t := TR.int) (vs := [.int .i64 (3 : Int), .int .i64 (1 : Int)]) ([(3 : Int), (1 : Int)] : (List Int)) Try.underlying24 Try_lo3 rfl rfl rfl rfl ⟨VR.int, ⟨VR.int, trivial⟩⟩ rfl (by decide) ?_
 intro v17
 refine RL.bS (t := TR.int) (vs := [.int .i64 (4 : Int), .int .i64 (2 : Int)]) ([(4 : Int), (2 : Int)] : (List Int)) Try.underlying24 Try_lo3 rfl rfl rfl rfl ⟨VR.int, ⟨VR.int, trivial⟩⟩ rfl (by decide) ?_
 intro v18
 refine RL.reL (L' := [imm (TR.sl TR.int) v6 ([(3 : Int), (1 : Int)] : (List Int)), imm (TR.sl TR.int) v7 ([(4 : Int), (2 : Int)] : (List Int)), own 24 (TR.sl TR.int) v8 ([([(3 : Int), (1 : Int)] : (List Int)), ([(4 : Int), (2 : Int)] : (List Int))] : (List (List Int))), own 3 TR.int v17 ([(3 : Int), (1 : Int)] : (List Int)), own 3 TR.int v18 ([(4 : Int), (2 : Int)] : (List Int))]) rfl ?_
 refine RL.weak (fun a w st => st.freeze 3 rfl) ?_
 refine RL.weak (fun a w st => st.freeze 4 rfl) ?_
 refine RL.bS (t := (TR.sl TR.int)) (vs := [v17, v18]) ([([(3 : Int), (1 : Int)] : (List Int)), ([(4 : Int), (2 : Int)] : (List Int))] : (List (List Int))) Try.underlying37 Try_lo24 rfl rfl rfl rfl ⟨(VR.item 3 rfl), ⟨(VR.item 4 rfl), trivial⟩⟩ rfl (by decide) ?_
 intro v19
 refine RL.reL (L' := [imm (TR.sl TR.int) v6 ([(3 : Int), (1 : Int)] : (List Int)), imm (TR.sl TR.int) v7 ([(4 : Int), (2 : Int)] : (List Int)), own 24 (TR.sl TR.int) v8 ([([(3 : Int), (1 : Int)] : (List Int)), ([(4 : Int), (2 : Int)] : (List Int))] : (List (List Int))), imm (TR.sl TR.int) v17 ([(3 : Int), (1 : Int)] : (List Int)), imm (TR.sl TR.int) v18 ([(4 : Int), (2 : Int)] : (List Int)), own 24 (TR.sl TR.int) v19 ([([(3 : Int), (1 : Int)] : (List Int)), ([(4 : Int), (2 : Int)] : (List Int))] : (List (List Int)))]) rfl ?_
 obtain ⟨y20, e21, hm⟩ := bind_some hm
 refine RL.callU (vs := [v19]) (LR := fun (o : Value) => [own 56 (TR.arr 2 TR.int) o y20.1]) (fun o => ⟨Loc.own (TR.flatT_arr TR.flatT_ik), trivial⟩) Try_fit29 rfl rfl rfl rfl rfl (fun U w hU hW hL => saddle_Points_c U w hU _ _ (hL 5 _ _ rfl Seen.own) _ e21) ?_
 intro v22
 refine RL.mv rfl rfl rfl ?_
 refine RL.ext rfl rfl rfl rfl ?_
 refine RL.ext rfl rfl rfl rfl ?_
 refine RL.asg rfl rfl rfl ?_
 refine RL.asg rfl rfl rfl ?_
 refine RL.finG ?_
 refine GL.seq ?_
 obtain ⟨y44, K45, h46, h47, h48, h49, h50⟩ := bindR_K hm
 refine GL.join (ι := Bool) (fun (p : Bool) => [(0, .bool p)]) (fun (p : Bool) => []) (fun (p : Bool) => K45 (.nx p)) ?_ ?_
 ·skip
  refine GL.region ?_
  refine RL.mv rfl rfl rfl ?_
  refine RL.mv rfl rfl rfl ?_
  refine RL.bS (t := TR.int) (vs := [.int .i64 y9.2.2, .int .i64 y20.2]) ([y9.2.2, y20.2] : (List Int)) Try.underlying101 Try_lo25 rfl rfl rfl rfl ⟨VR.int, ⟨VR.int, trivial⟩⟩ rfl (by decide) ?_
  intro v51
  obtain ⟨y52, e53, h46⟩ := bind_some h46
  refine RL.callV (v := .bool y52) (vs := [v51]) Try_fit20 rfl (Or.inl rfl) rfl rfl rfl rfl (fun U w hU hW hL => pk_good_c U w hU _ _ (hL 7 _ _ rfl Seen.own) _ e53) ?_
  refine RL.mv rfl rfl rfl ?_
  refine RL.split (t := 25) rfl (fun b54 => ?_) (fun b54 => ?_)
  ·replace h46 := ite_t b54 h46
   refine RL.mv rfl rfl rfl ?_
   refine RL.binI (v := .bool (y9.1 == (2 : Int))) rfl rfl rfl rfl rfl ?_
   refine RL.pickT rfl rfl rfl rfl ?_
   refine RL.mv rfl rfl rfl ?_
   refine RL.split (t := 29) rfl (fun b55 => ?_) (fun b55 => ?_)
   ·replace h46 := ite_t b55 h46
    refine RL.mv rfl rfl rfl ?_
    refine RL.binI (v := .bool (y9.2.1 == (2 : Int))) rfl rfl rfl rfl rfl ?_
    refine RL.pickT rfl rfl rfl rfl ?_
    refine RL.mv rfl rfl rfl ?_
    refine RL.split (t := 33) rfl (fun b56 => ?_) (fun b56 => ?_)
    ·replace h46 := ite_t b56 h46
     refine RL.mv rfl rfl rfl ?_
     refine RL.bldA (t := (TR.arr 2 TR.int)) (d0 := ([(1 : Int), (1 : Int)] : (List Int))) (pv := [(0, .int .i64 (1 : Int)), (1, .int .i64 (1 : Int))]) rfl Try_bld56 (by decide) rfl rfl rfl ⟨⟨_, _, TR.int, (1 : Int), rfl, rfl, VR.int⟩, ⟨⟨_, _, TR.int, (1 : Int), rfl, rfl, VR.int⟩, trivial⟩⟩ (fun S f hi => by
       obtain ⟨c0, e0, r0⟩ := cells_vrep (t := TR.int) (u := .int .i64 (1 : Int)) (e := (1 : Int)) (VR.int S f hi)
       obtain ⟨c1, e1, r1⟩ := cells_vrep (t := TR.int) (u := .int .i64 (1 : Int)) (e := (1 : Int)) (VR.int S f hi)
       show TR.rep (TR.arr 2 TR.int) S (List.flatten [(.int .i64 (1 : Int) : Value).cells.toList, (.int .i64 (1 : Int) : Value).cells.toList]) _
       simp only [e0, e1,  List.flatten_cons, List.flatten_nil, List.append_nil]
       exact ⟨rfl, ⟨_, _, rfl, r0, ⟨_, [], (List.append_nil _).symm, r0, rfl⟩⟩⟩) ?_
     intro v57
     refine RL.reL (L' := [imm (TR.sl TR.int) v6 ([(3 : Int), (1 : Int)] : (List Int)), imm (TR.sl TR.int) v7 ([(4 : Int), (2 : Int)] : (List Int)), own 24 (TR.sl TR.int) v8 ([([(3 : Int), (1 : Int)] : (List Int)), ([(4 : Int), (2 : Int)] : (List Int))] : (List (List Int))), imm (TR.sl TR.int) v17 ([(3 : Int), (1 : Int)] : (List Int)), imm (TR.sl TR.int) v18 ([(4 : Int), (2 : Int)] : (List Int)), own 24 (TR.sl TR.int) v19 ([([(3 : Int), (1 : Int)] : (List Int)), ([(4 : Int), (2 : Int)] : (List Int))] : (List (List Int))), own 56 (TR.arr 2 TR.int) v22 y20.1, own 25 TR.int v51 ([y9.2.2, y20.2] : (List Int)), imm (TR.arr 2 TR.int) v57 ([(1 : Int), (1 : Int)] : (List Int))]) rfl ?_
     refine RL.bS (t := (TR.arr 2 TR.int)) (vs := [v57]) ([([(1 : Int), (1 : Int)] : (List Int))] : (List (List Int))) Try.underlying51 Try_lo56 rfl rfl rfl rfl ⟨(VR.item 8 rfl), trivial⟩ rfl (by decide) ?_
     intro v58
     obtain ⟨y59, e60, h46⟩ := bind_some h46
     refine RL.callV (v := .bool y59) (vs := [v22, v58]) Try_fit30 rfl (Or.inl rfl) rfl rfl rfl rfl (fun U w hU hW hL => slices_Equal_pairs_c U w hU _ _ (hL 6 _ _ rfl Seen.own) _ _ (hL 9 _ _ rfl Seen.own) _ e60) ?_
     refine RL.pickT rfl rfl rfl rfl ?_
     refine RL.asg rfl rfl rfl ?_
     refine RL.fin ?_
     cases h46
     exact fun a w st => mid_intro y59 h47 (St.cut [] ⟨rfl, trivial⟩ (by decide) rfl st)
    replace h46 := ite_f b56 h46
    refine RL.skip rfl rfl ?_
    refine RL.skip rfl rfl ?_
    refine RL.skip rfl rfl ?_
    refine RL.skip rfl rfl ?_
    refine RL.pickF rfl rfl rfl rfl ?_
    refine RL.asg rfl rfl rfl ?_
    refine RL.fin ?_
    cases h46
    exact fun a w st => mid_intro false h47 (St.cut [] ⟨rfl, trivial⟩ (by decide) rfl st)
   replace h46 := ite_f b55 h46
   refine RL.skip rfl rfl ?_
   refine RL.skip rfl rfl ?_
   refine RL.pickF rfl rfl rfl rfl ?_
   refine RL.mv rfl rfl rfl ?_
   refine RL.skip rfl rfl ?_
   refine RL.skip rfl rfl ?_
   refine RL.skip rfl rfl ?_
   refine RL.skip rfl rfl ?_
   refine RL.pickF rfl rfl rfl rfl ?_
   refine RL.asg rfl rfl rfl ?_
   refine RL.fin ?_
   cases h46
   exact fun a w st => mid_intro false h47 (St.cut [] ⟨rfl, trivial⟩ (by decide) rfl st)
  replace h46 := ite_f b54 h46
  refine RL.skip rfl rfl ?_
  refine RL.skip rfl rfl ?_
  refine RL.pickF rfl rfl rfl rfl ?_
  refine RL.mv rfl rfl rfl ?_
  refine RL.skip rfl rfl ?_
  refine RL.skip rfl rfl ?_
  refine RL.pickF rfl rfl rfl rfl ?_
  refine RL.mv rfl rfl rfl ?_
  refine RL.skip rfl rfl ?_
  refine RL.skip rfl rfl ?_
  refine RL.skip rfl rfl ?_
  refine RL.skip rfl rfl ?_
  refine RL.pickF rfl rfl rfl rfl ?_
  refine RL.asg rfl rfl rfl ?_
  refine RL.fin ?_
  cases h46
  exact fun a w st => mid_intro false h47 (St.cut [] ⟨rfl, trivial⟩ (by decide) rfl st)
 rintro x43 h61
 have h62 := h48 _ h61
 try dsimp only at h62
 refine GL.weak (env' := [(0, .bool x43)]) (L' := []) (fun _ _ st => st) ?_
 have h62 := Option.some.inj h62
 subst h62
 exact GL.ret (Gx.ret (v := .bool x43) (res1 rfl rfl) (fun a w st => st.toPostV))

set_option maxHeartbeats 4000000 in
theorem worth_Check_c (S : Hp) (w : World) (hS : S.sub w) (x0 : Int) (v1 : Value) (x1 : (List Int)) (k1 : ((TR.sl TR.int)).vrep S v1 x1) (res : Int) (hm : worth_Check_m x0 x1 = some res) : Calls Try.prog 91 #[.int .i64 x0, v1] w (PostC w (.int .i64 res)) := by
 refine calls_enter 35 Try.func91 Try.ntmps91 rfl S true [(0, .int .i64 x0), (1, v1)] [imm (TR.sl TR.int) v1 x1] rfl ⟨rfl, ⟨rfl, trivial⟩⟩ hS ⟨k1, trivial⟩ ?_
 unfold worth_Check_m at hm
 refine GL.seq ?_
 refine GL.region ?_
 refine RL.asg rfl rfl rfl ?_
 refine RL.finG ?_
 refine GL.seq ?_
 refine GL.seq ?_
 obtain ⟨y6, K7, h8, h9, h10, h11, h12⟩ := bindR_K hm
 refine GL.join (ι := Bool) (fun (p : Bool) => [(0, .int .i64 x0), (1, v1), (12, .bool p)]) (fun (p : Bool) => [imm (TR.sl TR.int) v1 x1]) (fun (p : Bool) => K7 (.nx p)) ?_ ?_
 ·skip
  refine GL.region ?_
  refine RL.mv rfl rfl rfl ?_
  refine RL.binI (v := .bool (decide (x0 < (1 : Int)))) rfl rfl rfl rfl rfl ?_
  refine RL.mv rfl rfl rfl ?_
  refine RL.split (t := 9) rfl (fun b13 => ?_) (fun b13 => ?_)
  ·replace h8 := ite_t b13 h8
   refine RL.skip rfl rfl ?_
   refine RL.skip rfl rfl ?_
   refine RL.pickT rfl rfl rfl rfl ?_
   refine RL.fin ?_
   cases h8
   exact fun a w st => mid_intro true h9 (St.cut [0] ⟨rfl, rfl, rfl, trivial⟩ (by decide) rfl st)
  replace h8 := ite_f b13 h8
  refine RL.mv rfl rfl rfl ?_
  refine RL.binI (v := .bool (decide (x0 > (6 : Int)))) rfl rfl rfl rfl rfl ?_
  refine RL.pickF rfl rfl rfl rfl ?_
  refine RL.fin ?_
  cases h8
  exact fun a w st => mid_intro (decide (x0 > (6 : Int))) h9 (St.cut [0] ⟨rfl, rfl, rfl, trivial⟩ (by decide) rfl st)
 rintro x5 h14
 have h15 := h10 _ h14
 try dsimp only at h15
 refine GL.weak (env' := [(0, .int .i64 x0), (1, v1), (12, .bool x5)]) (L' := [imm (TR.sl TR.int) v1 x1]) (fun _ _ st => st) ?_
 refine GL.cond rfl (fun b16 => ?_) (fun b16 => ?_)
 ·replace h15 := ite_t b16 h15
  refine GL.seq ?_
  refine GL.region ?_
  refine RL.asg rfl rfl rfl ?_
  refine RL.finG ?_
  have h15 := Option.some.inj h15
  subst h15
  exact GL.ret (Gx.ret (v := .int .i64 (1 : Int)) (res1 rfl rfl) (fun a w st => st.toPostC rfl))
 replace h15 := ite_f b16 h15
 refine GL.skip ?_
 refine GL.seq ?_
 refine GL.seq ?_
 refine GL.region ?_
 refine RL.mv rfl rfl rfl ?_
 refine RL.lenS 0 Try.underlying24 rfl rfl rfl rfl SlOf.imm ?_
 refine RL.mv rfl rfl rfl ?_
 obtain ⟨y19, e20, h15⟩ := bind_some h15
 replace e20 := chk_some e20
 refine RL.sh (by simp) rfl rfl rfl rfl e20 ?_
 refine RL.binI (v := .bool (((x1).length : Int) != (IntKind.wrap .i64 ((1 : Int) * 2 ^ (min x0.toNat (IntKind.bits .i64)))))) rfl rfl rfl rfl rfl ?_
 refine RL.finG ?_
 refine GL.cond rfl (fun b21 => ?_) (fun b21 => ?_)
 ·replace h15 := ite_t b21 h15
  refine GL.seq ?_
  refine GL.region ?_
  refine RL.asg rfl rfl rfl ?_
  refine RL.finG ?_
  have h15 := Option.some.inj h15
  subst h15
  exact GL.ret (Gx.ret (v := .int .i64 (3 : Int)) (res1 rfl rfl) (fun a w st => st.toPostC rfl))
 replace h15 := ite_f b21 h15
 refine GL.skip ?_
 refine GL.seq ?_
 refine GL.seq ?_
 refine GL.region ?_
 refine RL.mv rfl rfl rfl ?_
 refine RL.lenS 0 Try.underlying24 rfl rfl rfl rfl SlOf.imm ?_
 refine RL.mv rfl rfl rfl ?_
 refine RL.finG ?_
 refine GL.open_ 0 rfl (fun S h => len_imm S h) (fun n40 => ?_)
 obtain ⟨y41, K42, h43, h44, h45, h46, h47⟩ := bindR_K h15
 refine GL.join (ι := Unit) (fun (p : Unit) => [(1, v1)]) (fun (p : Unit) => [imm (TR.sl TR.int) v1 x1]) (fun (p : Unit) => K42 (.nx ())) ?_ ?_
 ·refine GL.block ?_
  refine GL.loop (ι := Nat × (List Int)) (fun (p : Nat × (List Int)) => [(1, v1), (18, v1), (19, .int .i64 ((x1).length : Int)), (20, .int .i64 (p.1 : Int))]) (fun (p : Nat × (List Int)) => [imm (TR.sl TR.int) v1 x1]) (fun (p : Nat × (List Int)) => p.1 + p.2.length = (x1).length ∧ List.drop p.1 x1 = p.2 ∧ rangeL worth_Check_b1 p.2 p.1 () = some y41) (fun (p : Nat × (List Int)) => p.2.length) (0, x1) ⟨by simp, by simp, h43⟩ (fun a w st => St.cut [0] ⟨rfl, rfl, rfl, rfl, trivial⟩ (by decide) rfl st) ?_
  rintro ⟨i48, r49⟩ ⟨h54, h55, h53⟩
  try dsimp only at h54 h55 h53
  refine GL.weak (env' := [(1, v1), (18, v1), (19, .int .i64 ((x1).length : Int)), (20, .int .i64 (i48 : Int))]) (L' := [imm (TR.sl TR.int) v1 x1]) (fun _ _ st => st) ?_
  refine GL.seq ?_
  refine GL.region ?_
  refine RL.binI (v := .bool (decide ((i48 : Int) < ((x1).length : Int)))) rfl rfl rfl rfl rfl ?_
  refine RL.finG ?_
  refine GL.seq ?_
  refine GL.cond rfl (fun b56 => ?_) (fun b56 => ?_)
  ·have h57 : i48 < (x1).length := by have := of_decide_eq_true b56; omega
   obtain ⟨y58, r60, hr, e59, h61⟩ := drop_cons h55 rfl h57
   subst hr
   obtain ⟨z50, h51, h52⟩ := rangeL_some h53
   unfold worth_Check_b1 at h51
   try dsimp only at h51
   refine GL.skip ?_
   refine GL.seq ?_
   refine GL.block ?_
   refine GL.seq ?_
   refine GL.region ?_
   refine RL.idxS (sz := 1) 0 Try.underlying24 Try_ln3 rfl rfl rfl rfl rfl SlOf.imm (by omega) (by omega) ?_
   refine RL.ldSx (i := i48) (e' := y58) 0 Ex.ik Try_ln3 rfl rfl rfl rfl SlOf.imm e59 Part.self ?_
   refine RL.asg rfl rfl rfl ?_
   refine RL.finG ?_
   refine GL.seq ?_
   obtain ⟨y65, K66, h67, h68, h69, h70, h71⟩ := bindF_K h51
   refine GL.join (ι := Bool) (fun (p : Bool) => [(1, v1), (18, v1), (19, .int .i64 ((x1).length : Int)), (20, .int .i64 (i48 : Int)), (29, .bool p)]) (fun (p : Bool) => [imm (TR.sl TR.int) v1 x1]) (fun (p : Bool) => K66 (.nx p)) ?_ ?_
   ·skip
    refine GL.region ?_
    refine RL.mv rfl rfl rfl ?_
    refine RL.binI (v := .bool (decide (y58 < (-1000000 : Int)))) rfl rfl rfl rfl rfl ?_
    refine RL.mv rfl rfl rfl ?_
    refine RL.split (t := 26) rfl (fun b72 => ?_) (fun b72 => ?_)
    ·replace h67 := ite_t b72 h67
     refine RL.skip rfl rfl ?_
     refine RL.skip rfl rfl ?_
     refine RL.pickT rfl rfl rfl rfl ?_
     refine RL.fin ?_
     cases h67
     exact fun a w st => mid_intro true h68 (St.cut [0] ⟨rfl, rfl, rfl, rfl, rfl, trivial⟩ (by decide) rfl st)
    replace h67 := ite_f b72 h67
    refine RL.mv rfl rfl rfl ?_
    refine RL.binI (v := .bool (decide (y58 > (1000000 : Int)))) rfl rfl rfl rfl rfl ?_
    refine RL.pickF rfl rfl rfl rfl ?_
    refine RL.fin ?_
    cases h67
    exact fun a w st => mid_intro (decide (y58 > (1000000 : Int))) h68 (St.cut [0] ⟨rfl, rfl, rfl, rfl, rfl, trivial⟩ (by decide) rfl st)
   rintro x64 h73
   have h74 := h69 _ h73
   try dsimp only at h74
   refine GL.weak (env' := [(1, v1), (18, v1), (19, .int .i64 ((x1).length : Int)), (20, .int .i64 (i48 : Int)), (29, .bool x64)]) (L' := [imm (TR.sl TR.int) v1 x1]) (fun _ _ st => st) ?_
   refine GL.cond rfl (fun b75 => ?_) (fun b75 => ?_)
   ·replace h74 := ite_t b75 h74
    refine GL.seq ?_
    refine GL.region ?_
    refine RL.asg rfl rfl rfl ?_
    refine RL.finG ?_
    cases h74
    replace h52 : some (Fl.rt _) = some y41 := h52
    cases h52
    have hh := h46 _ h44
    subst hh
    exact GL.ret (Gx.ret (v := .int .i64 (1 : Int)) (res1 rfl rfl) (fun a w st => st.toPostC rfl))
   replace h74 := ite_f b75 h74
   refine GL.skip ?_
   refine GL.nilB ?_
   refine GL.region ?_
   refine RL.binI (v := .int .i64 ((i48 + 1 : Nat) : Int)) rfl rfl rfl rfl (binI_succ i48 (by omega)) ?_
   refine RL.mv rfl rfl rfl ?_
   refine RL.fin ?_
   cases h74
   exact fun a w st => lop_intro (i48 + 1, r60) ⟨by show i48 + 1 + r60.length = (x1).length; simp only [List.length_cons] at h54; omega, h61, h52⟩ (by simp) (St.cut [0] ⟨rfl, rfl, rfl, rfl, trivial⟩ (by decide) rfl st)
  have h57 : ¬ i48 < (x1).length := by have := of_decide_eq_false b56; omega
  obtain rfl : r49 = [] := by rw [← h55]; exact List.drop_of_length_le (by omega)
  replace h53 : some (Fl.nx _) = some y41 := h53
  cases h53
  exact GL.exit (fun a w st => mid_intro () h44 (St.cut [0] ⟨rfl, trivial⟩ (by decide) rfl st))
 rintro ⟨⟩ h76
 have h77 := h45 _ h76
 try dsimp only at h77
 refine GL.weak (env' := [(1, v1)]) (L' := [imm (TR.sl TR.int) v1 x1]) (fun _ _ st => st) ?_
 refine GL.seq ?_
 refine GL.seq ?_
 refine GL.region ?_
 refine RL.mv rfl rfl rfl ?_
 obtain ⟨y80, e81, h77⟩ := bind_some h77
 refine RL.idxS (sz := 1) 0 Try.underlying24 Try_ln3 rfl rfl rfl rfl rfl SlOf.imm (idx_some e81).1 (idx_some e81).2.1 ?_
 refine RL.ldSx (i := ((0 : Int)).toNat) (e' := y80) 0 Ex.ik Try_ln3 rfl rfl rfl rfl SlOf.imm (idx_some e81).2.2 Part.self ?_
 refine RL.binI (v := .bool (y80 != (0 : Int))) rfl rfl rfl rfl rfl ?_
 refine RL.finG ?_
 refine GL.cond rfl (fun b82 => ?_) (fun b82 => ?_)
 ·replace h77 := ite_t b82 h77
  refine GL.seq ?_
  refine GL.region ?_
  refine RL.asg rfl rfl rfl ?_
  refine RL.finG ?_
  have h77 := Option.some.inj h77
  subst h77
  exact GL.ret (Gx.ret (v := .int .i64 (3 : Int)) (res1 rfl rfl) (fun a w st => st.toPostC rfl))
 replace h77 := ite_f b82 h77
 refine GL.skip ?_
 refine GL.seq ?_
 refine GL.region ?_
 refine RL.asg rfl rfl rfl ?_
 refine RL.finG ?_
 have h77 := Option.some.inj h77
 subst h77
 exact GL.ret (Gx.ret (v := .int .i64 (0 : Int)) (res1 rfl rfl) (fun a w st => st.toPostC rfl))

set_option maxHeartbeats 4000000 in
theorem worth_size_c (S : Hp) (w : World) (hS : S.sub w) (x0 : Int) (res : Int) (hm : worth_size_m x0 = some res) : Calls Try.prog 92 #[.int .i64 x0] w (PostC w (.int .i64 res)) := by
 refine calls_enter 13 Try.func92 Try.ntmps92 rfl S true [(0, .int .i64 x0)] [] rfl ⟨rfl, trivial⟩ hS trivial ?_
 unfold worth_size_m at hm
 refine GL.seq ?_
 refine GL.region ?_
 refine RL.asg rfl rfl rfl ?_
 refine RL.finG ?_
 refine GL.seq ?_
 refine GL.region ?_
 refine RL.asg rfl rfl rfl ?_
 refine RL.finG ?_
 refine GL.seq ?_
 obtain ⟨y13, K14, h15, h16, h17, h18, h19⟩ := bindR_K hm
 refine GL.join (ι := Int × Int) (fun (p : Int × Int) => [(3, .int .i64 p.2)]) (fun (p : Int × Int) => []) (fun (p : Int × Int) => K14 (.nx (p.1, p.2))) ?_ ?_
 ·refine GL.block ?_
  refine GL.loop (ι := Nat × Int × Int) (fun (p : Nat × Int × Int) => [(0, .int .i64 p.2.1), (3, .int .i64 p.2.2)]) (fun (p : Nat × Int × Int) => []) (fun (p : Nat × Int × Int) => loopM worth_size_b1 p.1 (p.2.1, p.2.2) = some y13) (fun (p : Nat × Int × Int) => p.1) (1048576, x0, (0 : Int)) h15 (fun a w st => St.cut [] ⟨rfl, rfl, trivial⟩ (by decide) rfl st) ?_
  rintro ⟨r21, x2, x3⟩ h25
  try dsimp only at h25
  refine GL.weak (env' := [(0, .int .i64 x2), (3, .int .i64 x3)]) (L' := []) (fun _ _ st => st) ?_
  obtain ⟨r28, z22, hr, h23, h24⟩ := loopM_some h25
  subst hr
  unfold worth_size_b1 at h23
  try dsimp only at h23
  refine GL.seq ?_
  refine GL.seq ?_
  refine GL.region ?_
  refine RL.mv rfl rfl rfl ?_
  refine RL.binI (v := .bool (decide (x2 > (0 : Int)))) rfl rfl rfl rfl rfl ?_
  refine RL.finG ?_
  refine GL.cond rfl (fun b29 => ?_) (fun b29 => ?_)
  ·replace h23 := ite_t b29 h23
   refine GL.skip ?_
   refine GL.seq ?_
   refine GL.block ?_
   refine GL.region ?_
   refine RL.mv rfl rfl rfl ?_
   refine RL.mv rfl rfl rfl ?_
   obtain ⟨y32, e33, h23⟩ := bind_some h23
   replace e33 := chk_some e33
   refine RL.rem rfl rfl rfl rfl e33 ?_
   refine RL.binI (v := .int .i64 (wadd x3 (Int.tmod x2 (2 : Int)))) rfl rfl rfl rfl rfl ?_
   refine RL.asg rfl rfl rfl ?_
   refine RL.finG ?_
   refine GL.nilB ?_
   refine GL.region ?_
   refine RL.mv rfl rfl rfl ?_
   obtain ⟨y36, e37, h23⟩ := bind_some h23
   replace e37 := chk_some e37
   refine RL.quo rfl rfl rfl rfl e37 ?_
   refine RL.asg rfl rfl rfl ?_
   refine RL.finG ?_
   cases h23
   exact fun a w st => lop_intro (r28, IntKind.wrap .i64 (Int.tdiv x2 (2 : Int)), wadd x3 (Int.tmod x2 (2 : Int))) (by exact h24) (by simp) (St.cut [] ⟨rfl, rfl, trivial⟩ (by decide) rfl st)
  replace h23 := ite_f b29 h23
  cases h23
  replace h24 : some (Fl.nx _) = some y13 := h24
  cases h24
  exact GL.exit (fun a w st => mid_intro (x2, x3) h16 (St.cut [] ⟨rfl, trivial⟩ (by decide) rfl st))
 rintro ⟨x2, x3⟩ h38
 have h39 := h17 _ h38
 try dsimp only at h39
 refine GL.weak (env' := [(3, .int .i64 x3)]) (L' := []) (fun _ _ st => st) ?_
 refine GL.seq ?_
 refine GL.region ?_
 refine RL.mv rfl rfl rfl ?_
 refine RL.asg rfl rfl rfl ?_
 refine RL.finG ?_
 have h39 := Option.some.inj h39
 subst h39
 exact GL.ret (Gx.ret (v := .int .i64 x3) (res1 rfl rfl) (fun a w st => st.toPostC rfl))

set_option maxHeartbeats 4000000 in
theorem worth_factorial_c (S : Hp) (w : World) (hS : S.sub w) (x0 : Int) (res : Int) (hm : worth_factorial_m x0 = some res) : Calls Try.prog 93 #[.int .i64 x0] w (PostC w (.int .i64 res)) := by
 refine calls_enter 14 Try.func93 Try.ntmps93 rfl S true [(0, .int .i64 x0)] [] rfl ⟨rfl, trivial⟩ hS trivial ?_
 unfold worth_factorial_m at hm
 refine GL.seq ?_
 refine GL.region ?_
 refine RL.asg rfl rfl rfl ?_
 refine RL.finG ?_
 refine GL.seq ?_
 refine GL.region ?_
 refine RL.asg rfl rfl rfl ?_
 refine RL.finG ?_
 refine GL.seq ?_
 refine GL.seq ?_
 refine GL.region ?_
 refine RL.asg rfl rfl rfl ?_
 refine RL.finG ?_
 obtain ⟨y5, K6, h7, h8, h9, h10, h11⟩ := bindR_K hm
 refine GL.join (ι := Int × Int) (fun (p : Int × Int) => [(3, .int .i64 p.1)]) (fun (p : Int × Int) => []) (fun (p : Int × Int) => K6 (.nx (p.1, p.2))) ?_ ?_
 ·refine GL.block ?_
  refine GL.loop (ι := Nat × Int × Int) (fun (p : Nat × Int × Int) => [(0, .int .i64 x0), (3, .int .i64 p.2.1), (4, .int .i64 p.2.2)]) (fun (p : Nat × Int × Int) => []) (fun (p : Nat × Int × Int) => loopM (worth_factorial_b1 x0) p.1 (p.2.1, p.2.2) = some y5) (fun (p : Nat × Int × Int) => p.1) (1048576, (1 : Int), (2 : Int)) h7 (fun a w st => St.cut [] ⟨rfl, rfl, rfl, trivial⟩ (by decide) rfl st) ?_
  rintro ⟨r13, x2, x3⟩ h17
  try dsimp only at h17
  refine GL.weak (env' := [(0, .int .i64 x0), (3, .int .i64 x2), (4, .int .i64 x3)]) (L' := []) (fun _ _ st => st) ?_
  obtain ⟨r20, z14, hr, h15, h16⟩ := loopM_some h17
  subst hr
  unfold worth_factorial_b1 at h15
  try dsimp only at h15
  refine GL.seq ?_
  refine GL.seq ?_
  refine GL.region ?_
  refine RL.mv rfl rfl rfl ?_
  refine RL.mv rfl rfl rfl ?_
  refine RL.binI (v := .bool (decide (x3 ≤ x0))) rfl rfl rfl rfl rfl ?_
  refine RL.finG ?_
  refine GL.cond rfl (fun b21 => ?_) (fun b21 => ?_)
  ·replace h15 := ite_t b21 h15
   refine GL.skip ?_
   refine GL.seq ?_
   refine GL.block ?_
   refine GL.region ?_
   refine RL.mv rfl rfl rfl ?_
   refine RL.mv rfl rfl rfl ?_
   refine RL.binI (v := .int .i64 (wmul x2 x3)) rfl rfl rfl rfl rfl ?_
   refine RL.asg rfl rfl rfl ?_
   refine RL.finG ?_
   refine GL.nilB ?_
   refine GL.region ?_
   refine RL.mv rfl rfl rfl ?_
   refine RL.binI (v := .int .i64 (wadd x3 (1 : Int))) rfl rfl rfl rfl rfl ?_
   refine RL.asg rfl rfl rfl ?_
   refine RL.finG ?_
   cases h15
   exact fun a w st => lop_intro (r20, wmul x2 x3, wadd x3 (1 : Int)) (by exact h16) (by simp) (St.cut [] ⟨rfl, rfl, rfl, trivial⟩ (by decide) rfl st)
  replace h15 := ite_f b21 h15
  cases h15
  replace h16 : some (Fl.nx _) = some y5 := h16
  cases h16
  exact GL.exit (fun a w st => mid_intro (x2, x3) h8 (St.cut [] ⟨rfl, trivial⟩ (by decide) rfl st))
 rintro ⟨x2, x3⟩ h22
 have h23 := h9 _ h22
 try dsimp only at h23
 refine GL.weak (env' := [(3, .int .i64 x2)]) (L' := []) (fun _ _ st => st) ?_
 refine GL.seq ?_
 refine GL.region ?_
 refine RL.mv rfl rfl rfl ?_
 refine RL.asg rfl rfl rfl ?_
 refine RL.finG ?_
 have h23 := Option.some.inj h23
 subst h23
 exact GL.ret (Gx.ret (v := .int .i64 x2) (res1 rfl rfl) (fun a w st => st.toPostC rfl))

set_option maxHeartbeats 4000000 in
theorem worth_Share_c (S : Hp) (w : World) (hS : S.sub w) (x0 : Int) (v1 : Value) (x1 : (List Int)) (k1 : ((TR.sl TR.int)).vrep S v1 x1) (res : (List Int) × Int) (hm : worth_Share_m x0 x1 = some res) : Calls Try.prog 36 #[.int .i64 x0, v1] w (Post w S (fun (o : Value) => .tuple #[o, .int .i64 res.2]) (fun (o : Value) => [own 3 TR.int o res.1])) := by
 refine calls_enter 65 Try.func36 Try.ntmps36 rfl S false [(0, .int .i64 x0), (1, v1)] [imm (TR.sl TR.int) v1 x1] rfl ⟨rfl, ⟨rfl, trivial⟩⟩ hS ⟨k1, trivial⟩ ?_
 unfold worth_Share_m at hm
 refine GL.seq ?_
 refine GL.region ?_
 refine RL.asg rfl rfl rfl ?_
 refine RL.asg rfl rfl rfl ?_
 refine RL.finG ?_
 refine GL.seq ?_
 refine GL.seq ?_
 refine GL.region ?_
 refine RL.mv rfl rfl rfl ?_
 refine RL.mv rfl rfl rfl ?_
 obtain ⟨y5, e6, hm⟩ := bind_some hm
 refine RL.callC (v := .int .i64 y5) (vs := [.int .i64 x0, v1]) Try_fit91 rfl rfl rfl rfl (fun U w hU hW hL => worth_Check_c U w hU x0 _ _ (hL 0 _ _ rfl Seen.imm) _ e6) ?_
 refine RL.asg rfl rfl rfl ?_
 refine RL.finG ?_
 refine GL.seq ?_
 refine GL.region ?_
 refine RL.mv rfl rfl rfl ?_
 refine RL.binI (v := .bool (y5 != (0 : Int))) rfl rfl rfl rfl rfl ?_
 refine RL.finG ?_
 refine GL.cond rfl (fun b7 => ?_) (fun b7 => ?_)
 ·replace hm := ite_t b7 hm
  refine GL.seq ?_
  refine GL.region ?_
  refine RL.mv rfl rfl rfl ?_
  refine RL.asg rfl rfl rfl ?_
  refine RL.asg rfl rfl rfl ?_
  refine RL.finG ?_
  refine GL.weak (fun a w st => st.nilOwn 3 TR.int) ?_
  have hm := Option.some.inj hm
  subst hm
  exact GL.ret (Gx.ret (v := .tuple #[Value.slice none 0 0, .int .i64 y5]) (res2 rfl rfl rfl) (fun a w st => (st.pick [1] (by decide) rfl).toPost (Value.slice none 0 0)))
 replace hm := ite_f b7 hm
 refine GL.skip ?_
 refine GL.seq ?_
 refine GL.region ?_
 refine RL.mv rfl rfl rfl ?_
 obtain ⟨y11, e12, hm⟩ := bind_some hm
 replace e12 := chk_some e12
 refine RL.mkS (t := TR.int) (z := (0 : Int)) Try.underlying24 Try_lo3 (fun S => rfl) rfl rfl rfl rfl e12.1 e12.2 ?_
 intro v13
 refine RL.asg rfl rfl rfl ?_
 refine RL.finG ?_
 refine GL.seq ?_
 refine GL.seq ?_
 refine GL.region ?_
 refine RL.mv rfl rfl rfl ?_
 refine RL.lenS 0 Try.underlying24 rfl rfl rfl rfl SlOf.imm ?_
 refine RL.mv rfl rfl rfl ?_
 refine RL.finG ?_
 refine GL.open_ 0 rfl (fun S h => len_imm S h) (fun n285 => ?_)
 obtain ⟨y286, K287, h288, h289, h290, h291, h292⟩ := bindR_K hm
 refine GL.join (ι := (List Int)) (fun (p : (List Int)) => [(7, v13)]) (fun (p : (List Int)) => [own 3 TR.int v13 p]) (fun (p : (List Int)) => K287 (.nx p)) ?_ ?_
 ·refine GL.block ?_
  refine GL.loop (ι := Nat × (List Int) × (List Int)) (fun (p : Nat × (List Int) × (List Int)) => [(0, .int .i64 x0), (1, v1), (7, v13), (20, .int .i64 ((x1).length : Int)), (21, .int .i64 (p.1 : Int))]) (fun (p : Nat × (List Int) × (List Int)) => [imm (TR.sl TR.int) v1 x1, own 3 TR.int v13 p.2.2]) (fun (p : Nat × (List Int) × (List Int)) => p.1 + p.2.1.length = (x1).length ∧ List.drop p.1 x1 = p.2.1 ∧ rangeL (worth_Share_b1 x0 x1) p.2.1 p.1 p.2.2 = some y286) (fun (p : Nat × (List Int) × (List Int)) => p.2.1.length) (0, x1, (List.replicate (x0).toNat (0 : Int))) ⟨by simp, by simp, h288⟩ (fun a w st => St.cut [0, 1] ⟨rfl, rfl, rfl, rfl, rfl, trivial⟩ (by decide) rfl st) ?_
  rintro ⟨i293, r294, l149⟩ ⟨h299, h300, h298⟩
  try dsimp only at h299 h300 h298
  refine GL.weak (env' := [(0, .int .i64 x0), (1, v1), (7, v13), (20, .int .i64 ((x1).length : Int)), (21, .int .i64 (i293 : Int))]) (L' := [imm (TR.sl TR.int) v1 x1, own 3 TR.int v13 l149]) (fun _ _ st => st) ?_
  refine GL.seq ?_
  refine GL.region ?_
  refine RL.binI (v := .bool (decide ((i293 : Int) < ((x1).length : Int)))) rfl rfl rfl rfl rfl ?_
  refine RL.finG ?_
  refine GL.seq ?_
  refine GL.cond rfl (fun b301 => ?_) (fun b301 => ?_)
  ·have h302 : i293 < (x1).length := by have := of_decide_eq_true b301; omega
   obtain ⟨y303, r305, hr, e304, h306⟩ := drop_cons h300 rfl h302
   subst hr
   obtain ⟨z295, h296, h297⟩ := rangeL_some h298
   unfold worth_Share_b1 at h296
   try dsimp only at h296
   refine GL.skip ?_
   refine GL.seq ?_
   refine GL.block ?_
   refine GL.seq ?_
   refine GL.region ?_
   refine RL.mv rfl rfl rfl ?_
   refine RL.asg rfl rfl rfl ?_
   refine RL.finG ?_
   refine GL.seq ?_
   refine GL.region ?_
   refine RL.mv rfl rfl rfl ?_
   refine RL.mv rfl rfl rfl ?_
   refine RL.finG ?_
   obtain ⟨y375, e376, h296⟩ := bind_some h296
   replace e376 := chk_some e376
   obtain ⟨y377, K378, h379, h380, h381, h382, h383⟩ := bindF_K h296
   refine GL.join (ι := (List Int)) (fun (p : (List Int)) => [(0, .int .i64 x0), (1, v1), (7, v13), (20, .int .i64 ((x1).length : Int)), (21, .int .i64 (i293 : Int))]) (fun (p : (List Int)) => [imm (TR.sl TR.int) v1 x1, own 3 TR.int v13 p]) (fun (p : (List Int)) => K378 (.nx p)) ?_ ?_
   ·refine GL.block ?_
    refine GL.loop (ι := Nat × Nat × (List Int)) (fun (p : Nat × Nat × (List Int)) => [(0, .int .i64 x0), (1, v1), (7, v13), (8, .int .i64 (i293 : Int)), (20, .int .i64 ((x1).length : Int)), (21, .int .i64 (i293 : Int)), (24, .int .i64 x0), (25, .int .i64 (p.1 : Int))]) (fun (p : Nat × Nat × (List Int)) => [imm (TR.sl TR.int) v1 x1, own 3 TR.int v13 p.2.2]) (fun (p : Nat × Nat × (List Int)) => p.1 + p.2.1 = (x0).toNat ∧ rangeN (worth_Share_b2 i293 x0 x1 y303) p.2.1 p.1 p.2.2 = some y377) (fun (p : Nat × Nat × (List Int)) => p.2.1) (0, (x0).toNat, l149) ⟨by simp, h379⟩ (fun a w st => St.cut [0, 1] ⟨rfl, rfl, rfl, rfl, rfl, rfl, rfl, rfl, trivial⟩ (by decide) rfl st) ?_
    rintro ⟨i384, r385, l340⟩ ⟨h390, h389⟩
    try dsimp only at h390 h389
    refine GL.weak (env' := [(0, .int .i64 x0), (1, v1), (7, v13), (8, .int .i64 (i293 : Int)), (20, .int .i64 ((x1).length : Int)), (21, .int .i64 (i293 : Int)), (24, .int .i64 x0), (25, .int .i64 (i384 : Int))]) (L' := [imm (TR.sl TR.int) v1 x1, own 3 TR.int v13 l340]) (fun _ _ st => st) ?_
    refine GL.seq ?_
    refine GL.region ?_
    refine RL.binI (v := .bool (decide ((i384 : Int) < x0))) rfl rfl rfl rfl rfl ?_
    refine RL.finG ?_
    refine GL.seq ?_
    refine GL.cond rfl (fun b392 => ?_) (fun b392 => ?_)
    ·have h393 : i384 < (x0).toNat := by have := of_decide_eq_true b392; omega
     obtain ⟨r394, hr⟩ : ∃ m, r385 = m + 1 := ⟨r385 - 1, by omega⟩
     subst hr
     obtain ⟨z386, h387, h388⟩ := rangeN_some h389
     unfold worth_Share_b2 at h387
     try dsimp only at h387
     refine GL.skip ?_
     refine GL.seq ?_
     refine GL.block ?_
     refine GL.seq ?_
     refine GL.region ?_
     refine RL.mv rfl rfl rfl ?_
     refine RL.asg rfl rfl rfl ?_
     refine RL.finG ?_
     refine GL.seq ?_
     refine GL.region ?_
     refine RL.mv rfl rfl rfl ?_
     refine RL.mv rfl rfl rfl ?_
     obtain ⟨y397, e398, h387⟩ := bind_some h387
     replace e398 := chk_some e398
     refine RL.sh (by simp) rfl rfl rfl rfl e398 ?_
     refine RL.binI (v := .int .i64 (bits .and .i64 (Int.fdiv (i293 : Int) (2 ^ (min (i384 : Int).toNat (IntKind.bits .i64)))) (1 : Int))) rfl rfl rfl rfl rfl ?_
     refine RL.binI (v := .bool ((bits .and .i64 (Int.fdiv (i293 : Int) (2 ^ (min (i384 : Int).toNat (IntKind.bits .i64)))) (1 : Int)) == (0 : Int))) rfl rfl rfl rfl rfl ?_
     refine RL.finG ?_
     refine GL.cond rfl (fun b399 => ?_) (fun b399 => ?_)
     ·replace h387 := ite_t b399 h387
      refine GL.seq ?_
      refine GL.region ?_
      refine RL.mv rfl rfl rfl ?_
      obtain ⟨y402, e403, h387⟩ := bind_some h387
      refine RL.callC (v := .int .i64 y402) (vs := [.int .i64 (i293 : Int)]) Try_fit92 rfl rfl rfl rfl (fun U w hU hW hL => worth_size_c U w hU (i293 : Int) _ e403) ?_
      refine RL.asg rfl rfl rfl ?_
      refine RL.finG ?_
      refine GL.regionH 27 rfl rfl (by kernel_rfl) ?_
      simp only [List.take_succ_cons, List.take_zero, List.drop_succ_cons, List.drop_zero]
      refine RL.mv rfl rfl rfl ?_
      refine RL.mv rfl rfl rfl ?_
      obtain ⟨y416, e417, h387⟩ := bind_some h387
      refine RL.idxS (sz := 1) 1 Try.underlying24 Try_ln3 rfl rfl rfl rfl rfl SlOf.own (idx_some e417).1 (idx_some e417).2.1 ?_
      refine RL.ldSx (i := i384) (e' := y416) 1 Ex.ik Try_ln3 rfl rfl rfl rfl SlOf.own (idx_some e417).2.2 Part.self ?_
      refine RL.mv rfl rfl rfl ?_
      obtain ⟨y418, e419, h387⟩ := bind_some h387
      refine RL.callC (v := .int .i64 y418) (vs := [.int .i64 y402]) Try_fit93 rfl rfl rfl rfl (fun U w hU hW hL => worth_factorial_c U w hU y402 _ e419) ?_
      refine RL.mv rfl rfl rfl ?_
      refine RL.binI (v := .int .i64 (wsub x0 (1 : Int))) rfl rfl rfl rfl rfl ?_
      refine RL.mv rfl rfl rfl ?_
      refine RL.binI (v := .int .i64 (wsub (wsub x0 (1 : Int)) y402)) rfl rfl rfl rfl rfl ?_
      obtain ⟨y420, e421, h387⟩ := bind_some h387
      refine RL.callC (v := .int .i64 y420) (vs := [.int .i64 (wsub (wsub x0 (1 : Int)) y402)]) Try_fit93 rfl rfl rfl rfl (fun U w hU hW hL => worth_factorial_c U w hU (wsub (wsub x0 (1 : Int)) y402) _ e421) ?_
      refine RL.binI (v := .int .i64 (wmul y418 y420)) rfl rfl rfl rfl rfl ?_
      refine RL.mv rfl rfl rfl ?_
      refine RL.mv rfl rfl rfl ?_
      refine RL.mv rfl rfl rfl ?_
      obtain ⟨y422, e423, h387⟩ := bind_some h387
      replace e423 := chk_some e423
      refine RL.sh (by simp) rfl rfl rfl rfl e423 ?_
      refine RL.binI (v := .int .i64 (bits .or .i64 (i293 : Int) (IntKind.wrap .i64 ((1 : Int) * 2 ^ (min (i384 : Int).toNat (IntKind.bits .i64)))))) rfl rfl rfl rfl rfl ?_
      obtain ⟨y424, e425, h387⟩ := bind_some h387
      refine RL.idxS (sz := 1) 0 Try.underlying24 Try_ln3 rfl rfl rfl rfl rfl SlOf.imm (idx_some e425).1 (idx_some e425).2.1 ?_
      refine RL.ldSx (i := (bits .or .i64 (i293 : Int) (IntKind.wrap .i64 ((1 : Int) * 2 ^ (min (i384 : Int).toNat (IntKind.bits .i64))))).toNat) (e' := y424) 0 Ex.ik Try_ln3 rfl rfl rfl rfl SlOf.imm (idx_some e425).2.2 Part.self ?_
      refine RL.mv rfl rfl rfl ?_
      refine RL.mv rfl rfl rfl ?_
      refine RL.idxS (sz := 1) 0 Try.underlying24 Try_ln3 rfl rfl rfl rfl rfl SlOf.imm (by omega) (by omega) ?_
      refine RL.ldSx (i := i293) (e' := y303) 0 Ex.ik Try_ln3 rfl rfl rfl rfl SlOf.imm e304 Part.self ?_
      refine RL.binI (v := .int .i64 (wsub y424 y303)) rfl rfl rfl rfl rfl ?_
      refine RL.binI (v := .int .i64 (wmul (wmul y418 y420) (wsub y424 y303))) rfl rfl rfl rfl rfl ?_
      refine RL.binI (v := .int .i64 (wadd y416 (wmul (wmul y418 y420) (wsub y424 y303)))) rfl rfl rfl rfl rfl ?_
      obtain ⟨y426, e427, h387⟩ := bind_some h387
      refine RL.idxS (sz := 1) 1 Try.underlying24 Try_ln3 rfl rfl rfl rfl rfl SlOf.own (idx_some e427).1 (idx_some e427).2.1 ?_
      refine RL.finH ?_
      refine RL.stS (i := i384) (e' := wadd y416 (wmul (wmul y418 y420) (wsub y424 y303))) (e1 := wadd y416 (wmul (wmul y418 y420) (wsub y424 y303))) (r := TR.int) 1 Try_ln3 rfl rfl rfl rfl VR.int rfl (idx_some e427).2.2 Upd.self ?_
      refine RL.finG ?_
      refine GL.weak (env' := [(0, .int .i64 x0), (1, v1), (7, v13), (8, .int .i64 (i293 : Int)), (20, .int .i64 ((x1).length : Int)), (21, .int .i64 (i293 : Int)), (24, .int .i64 x0), (25, .int .i64 (i384 : Int))]) (L' := [imm (TR.sl TR.int) v1 x1, own 3 TR.int v13 (List.set l340 i384 (wadd y416 (wmul (wmul y418 y420) (wsub y424 y303))))]) (fun a w st => St.cut [0, 1] ⟨rfl, rfl, rfl, rfl, rfl, rfl, rfl, rfl, trivial⟩ (by decide) rfl st) ?_
      refine GL.nilB ?_
      refine GL.region ?_
      refine RL.binI (v := .int .i64 ((i384 + 1 : Nat) : Int)) rfl rfl rfl rfl (binI_succ i384 (by omega)) ?_
      refine RL.mv rfl rfl rfl ?_
      refine RL.fin ?_
      cases h387
      exact fun a w st => lop_intro (i384 + 1, r394, (List.set l340 i384 (wadd y416 (wmul (wmul y418 y420) (wsub y424 y303))))) ⟨by show i384 + 1 + r394 = (x0).toNat; omega, h388⟩ (by simp) (St.cut [0, 1] ⟨rfl, rfl, rfl, rfl, rfl, rfl, rfl, rfl, trivial⟩ (by decide) rfl st)
     replace h387 := ite_f b399 h387
     refine GL.skip ?_
     refine GL.nilB ?_
     refine GL.region ?_
     refine RL.binI (v := .int .i64 ((i384 + 1 : Nat) : Int)) rfl rfl rfl rfl (binI_succ i384 (by omega)) ?_
     refine RL.mv rfl rfl rfl ?_
     refine RL.fin ?_
     cases h387
     exact fun a w st => lop_intro (i384 + 1, r394, l340) ⟨by show i384 + 1 + r394 = (x0).toNat; omega, h388⟩ (by simp) (St.cut [0, 1] ⟨rfl, rfl, rfl, rfl, rfl, rfl, rfl, rfl, trivial⟩ (by decide) rfl st)
    have h393 : ¬ i384 < (x0).toNat := by have := of_decide_eq_false b392; omega
    obtain rfl : r385 = 0 := by omega
    replace h389 : some (Fl.nx _) = some y377 := h389
    cases h389
    exact GL.exit (fun a w st => mid_intro l340 h380 (St.cut [0, 1] ⟨rfl, rfl, rfl, rfl, rfl, trivial⟩ (by decide) rfl st))
   rintro l340 h428
   have h429 := h381 _ h428
   try dsimp only at h429
   refine GL.weak (env' := [(0, .int .i64 x0), (1, v1), (7, v13), (20, .int .i64 ((x1).length : Int)), (21, .int .i64 (i293 : Int))]) (L' := [imm (TR.sl TR.int) v1 x1, own 3 TR.int v13 l340]) (fun _ _ st => st) ?_
   refine GL.nilB ?_
   refine GL.region ?_
   refine RL.binI (v := .int .i64 ((i293 + 1 : Nat) : Int)) rfl rfl rfl rfl (binI_succ i293 (by omega)) ?_
   refine RL.mv rfl rfl rfl ?_
   refine RL.fin ?_
   cases h429
   exact fun a w st => lop_intro (i293 + 1, r305, l340) ⟨by show i293 + 1 + r305.length = (x1).length; simp only [List.length_cons] at h299; omega, h306, h297⟩ (by simp) (St.cut [0, 1] ⟨rfl, rfl, rfl, rfl, rfl, trivial⟩ (by decide) rfl st)
  have h302 : ¬ i293 < (x1).length := by have := of_decide_eq_false b301; omega
  obtain rfl : r294 = [] := by rw [← h300]; exact List.drop_of_length_le (by omega)
  replace h298 : some (Fl.nx _) = some y286 := h298
  cases h298
  exact GL.exit (fun a w st => mid_intro l149 h289 (St.cut [1] ⟨rfl, trivial⟩ (by decide) rfl st))
 rintro l149 h430
 have h431 := h290 _ h430
 try dsimp only at h431
 refine GL.weak (env' := [(7, v13)]) (L' := [own 3 TR.int v13 l149]) (fun _ _ st => st) ?_
 refine GL.seq ?_
 refine GL.region ?_
 refine RL.mv rfl rfl rfl ?_
 refine RL.asg rfl rfl rfl ?_
 refine RL.asg rfl rfl rfl ?_
 refine RL.finG ?_
 have h431 := Option.some.inj h431
 subst h431
 exact GL.ret (Gx.ret (v := .tuple #[v13, .int .i64 (0 : Int)]) (res2 rfl rfl rfl) (fun a w st => (st.pick [0] (by decide) rfl).toPost v13))

set_option maxHeartbeats 4000000 in
theorem slices_Equal_int_int_c (S : Hp) (w : World) (hS : S.sub w) (v0 : Value) (x0 : (List Int)) (k0 : ((TR.sl TR.int)).vrep S v0 x0) (v1 : Value) (x1 : (List Int)) (k1 : ((TR.sl TR.int)).vrep S v1 x1) (res : Bool) (hm : slices_Equal_int_int_m x0 x1 = some res) : Calls Try.prog 22 #[v0, v1] w (PostV w (.bool res)) := by
 refine calls_enter 26 Try.func22 Try.ntmps22 rfl S false [(0, v0), (1, v1)] [imm (TR.sl TR.int) v0 x0, imm (TR.sl TR.int) v1 x1] rfl ⟨rfl, ⟨rfl, trivial⟩⟩ hS ⟨k0, ⟨k1, trivial⟩⟩ ?_
 unfold slices_Equal_int_int_m at hm
 refine GL.seq ?_
 refine GL.region ?_
 refine RL.asg rfl rfl rfl ?_
 refine RL.finG ?_
 refine GL.seq ?_
 refine GL.seq ?_
 refine GL.region ?_
 refine RL.mv rfl rfl rfl ?_
 refine RL.lenS 0 Try.underlying24 rfl rfl rfl rfl SlOf.imm ?_
 refine RL.mv rfl rfl rfl ?_
 refine RL.lenS 1 Try.underlying24 rfl rfl rfl rfl SlOf.imm ?_
 refine RL.binI (v := .bool (((x0).length : Int) != ((x1).length : Int))) rfl rfl rfl rfl rfl ?_
 refine RL.finG ?_
 refine GL.cond rfl (fun b3 => ?_) (fun b3 => ?_)
 ·replace hm := ite_t b3 hm
  refine GL.seq ?_
  refine GL.region ?_
  refine RL.asg rfl rfl rfl ?_
  refine RL.finG ?_
  have hm := Option.some.inj hm
  subst hm
  exact GL.ret (Gx.ret (v := .bool false) (res1 rfl rfl) (fun a w st => st.toPostV))
 replace hm := ite_f b3 hm
 refine GL.skip ?_
 refine GL.seq ?_
 refine GL.seq ?_
 refine GL.region ?_
 refine RL.mv rfl rfl rfl ?_
 refine RL.lenS 0 Try.underlying24 rfl rfl rfl rfl SlOf.imm ?_
 refine RL.mv rfl rfl rfl ?_
 refine RL.finG ?_
 refine GL.open_ 0 rfl (fun S h => len_imm S h) (fun n13 => ?_)
 obtain ⟨y14, K15, h16, h17, h18, h19, h20⟩ := bindR_K hm
 refine GL.join (ι := Unit) (fun (p : Unit) => []) (fun (p : Unit) => []) (fun (p : Unit) => K15 (.nx ())) ?_ ?_
 ·refine GL.block ?_
  refine GL.loop (ι := Nat × (List Int)) (fun (p : Nat × (List Int)) => [(0, v0), (1, v1), (12, .int .i64 ((x0).length : Int)), (13, .int .i64 (p.1 : Int))]) (fun (p : Nat × (List Int)) => [imm (TR.sl TR.int) v0 x0, imm (TR.sl TR.int) v1 x1]) (fun (p : Nat × (List Int)) => p.1 + p.2.length = (x0).length ∧ List.drop p.1 x0 = p.2 ∧ rangeL (slices_Equal_int_int_b1 x1) p.2 p.1 () = some y14) (fun (p : Nat × (List Int)) => p.2.length) (0, x0) ⟨by simp, by simp, h16⟩ (fun a w st => St.cut [0, 1] ⟨rfl, rfl, rfl, rfl, trivial⟩ (by decide) rfl st) ?_
  rintro ⟨i21, r22⟩ ⟨h27, h28, h26⟩
  try dsimp only at h27 h28 h26
  refine GL.weak (env' := [(0, v0), (1, v1), (12, .int .i64 ((x0).length : Int)), (13, .int .i64 (i21 : Int))]) (L' := [imm (TR.sl TR.int) v0 x0, imm (TR.sl TR.int) v1 x1]) (fun _ _ st => st) ?_
  refine GL.seq ?_
  refine GL.region ?_
  refine RL.binI (v := .bool (decide ((i21 : Int) < ((x0).length : Int)))) rfl rfl rfl rfl rfl ?_
  refine RL.finG ?_
  refine GL.seq ?_
  refine GL.cond rfl (fun b29 => ?_) (fun b29 => ?_)
  ·have h30 : i21 < (x0).length := by have := of_decide_eq_true b29; omega
   obtain ⟨y31, r33, hr, e32, h34⟩ := drop_cons h28 rfl h30
   subst hr
   obtain ⟨z23, h24, h25⟩ := rangeL_some h26
   unfold slices_Equal_int_int_b1 at h24
   try dsimp only at h24
   refine GL.skip ?_
   refine GL.seq ?_
   refine GL.block ?_
   refine GL.seq ?_
   refine GL.region ?_
   refine RL.mv rfl rfl rfl ?_
   refine RL.asg rfl rfl rfl ?_
   refine RL.finG ?_
   refine GL.seq ?_
   refine GL.regionQ rfl rfl (by kernel_rfl) ?_
   refine RL.mv rfl rfl rfl ?_
   refine RL.mv rfl rfl rfl ?_
   refine RL.idxS (sz := 1) 0 Try.underlying24 Try_ln3 rfl rfl rfl rfl rfl SlOf.imm (by omega) (by omega) ?_
   refine RL.ldSx (i := i21) (e' := y31) 0 Ex.ik Try_ln3 rfl rfl rfl rfl SlOf.imm e32 Part.self ?_
   refine RL.mv rfl rfl rfl ?_
   refine RL.mv rfl rfl rfl ?_
   obtain ⟨y37, e38, h24⟩ := bind_some h24
   refine RL.idxS (sz := 1) 1 Try.underlying24 Try_ln3 rfl rfl rfl rfl rfl SlOf.imm (idx_some e38).1 (idx_some e38).2.1 ?_
   refine RL.ldSx (i := i21) (e' := y37) 1 Ex.ik Try_ln3 rfl rfl rfl rfl SlOf.imm (idx_some e38).2.2 Part.self ?_
   refine RL.binI (v := .bool (y31 != y37)) rfl rfl rfl rfl rfl ?_
   refine RL.finQG ?_
   refine GL.cond rfl (fun b39 => ?_) (fun b39 => ?_)
   ·replace h24 := ite_t b39 h24
    refine GL.seq ?_
    refine GL.region ?_
    refine RL.asg rfl rfl rfl ?_
    refine RL.finG ?_
    cases h24
    replace h25 : some (Fl.rt _) = some y14 := h25
    cases h25
    have hh := h19 _ h17
    subst hh
    exact GL.ret (Gx.ret (v := .bool false) (res1 rfl rfl) (fun a w st => st.toPostV))
   replace h24 := ite_f b39 h24
   refine GL.skip ?_
   refine GL.nilB ?_
   refine GL.region ?_
   refine RL.binI (v := .int .i64 ((i21 + 1 : Nat) : Int)) rfl rfl rfl rfl (binI_succ i21 (by omega)) ?_
   refine RL.mv rfl rfl rfl ?_
   refine RL.fin ?_
   cases h24
   exact fun a w st => lop_intro (i21 + 1, r33) ⟨by show i21 + 1 + r33.length = (x0).length; simp only [List.length_cons] at h27; omega, h34, h25⟩ (by simp) (St.cut [0, 1] ⟨rfl, rfl, rfl, rfl, trivial⟩ (by decide) rfl st)
  have h30 : ¬ i21 < (x0).length := by have := of_decide_eq_false b29; omega
  obtain rfl : r22 = [] := by rw [← h28]; exact List.drop_of_length_le (by omega)
  replace h26 : some (Fl.nx _) = some y14 := h26
  cases h26
  exact GL.exit (fun a w st => mid_intro () h17 (St.cut [] trivial (by decide) rfl st))
 rintro ⟨⟩ h40
 have h41 := h18 _ h40
 try dsimp only at h41
 refine GL.weak (env' := []) (L' := []) (fun _ _ st => st) ?_
 refine GL.seq ?_
 refine GL.region ?_
 refine RL.asg rfl rfl rfl ?_
 refine RL.finG ?_
 have h41 := Option.some.inj h41
 subst h41
 exact GL.ret (Gx.ret (v := .bool true) (res1 rfl rfl) (fun a w st => st.toPostV))

set_option maxHeartbeats 4000000 in
theorem pk_worths_c (S : Hp) (w : World) (hS : S.sub w)  (res : Bool) (hm : pk_worths_m = some res) : Calls Try.prog 31 #[] w (PostV w (.bool res)) := by
 refine calls_enter 15 Try.func31 Try.ntmps31 rfl S false [] [] rfl trivial hS trivial ?_
 unfold pk_worths_m at hm
 refine GL.seq ?_
 refine GL.region ?_
 refine RL.asg rfl rfl rfl ?_
 refine RL.finG ?_
 refine GL.seq ?_
 refine GL.region ?_
 refine RL.bS (t := TR.int) (vs := [.int .i64 (0 : Int), .int .i64 (0 : Int), .int .i64 (2 : Int), .int .i64 (6 : Int)]) ([(0 : Int), (0 : Int), (2 : Int), (6 : Int)] : (List Int)) Try.underlying24 Try_lo3 rfl rfl rfl rfl ⟨VR.int, ⟨VR.int, ⟨VR.int, ⟨VR.int, trivial⟩⟩⟩⟩ rfl (by decide) ?_
 intro v5
 obtain ⟨y6, e7, hm⟩ := bind_some hm
 refine RL.callU (vs := [.int .i64 (2 : Int), v5]) (LR := fun (o : Value) => [own 3 TR.int o y6.1]) (fun o => ⟨Loc.own TR.flatT_ik, trivial⟩) Try_fit36 rfl rfl rfl rfl rfl (fun U w hU hW hL => worth_Share_c U w hU (2 : Int) _ _ (hL 0 _ _ rfl Seen.own) _ e7) ?_
 intro v8
 refine RL.mv rfl rfl rfl ?_
 refine RL.ext rfl rfl rfl rfl ?_
 refine RL.ext rfl rfl rfl rfl ?_
 refine RL.asg rfl rfl rfl ?_
 refine RL.asg rfl rfl rfl ?_
 refine RL.finG ?_
 refine GL.seq ?_
 obtain ⟨y18, K19, h20, h21, h22, h23, h24⟩ := bindR_K hm
 refine GL.join (ι := Bool) (fun (p : Bool) => [(0, .bool p)]) (fun (p : Bool) => []) (fun (p : Bool) => K19 (.nx p)) ?_ ?_
 ·skip
  refine GL.region ?_
  refine RL.mv rfl rfl rfl ?_
  refine RL.binI (v := .bool (y6.2 == (0 : Int))) rfl rfl rfl rfl rfl ?_
  refine RL.mv rfl rfl rfl ?_
  refine RL.split (t := 10) rfl (fun b25 => ?_) (fun b25 => ?_)
  ·replace h20 := ite_t b25 h20
   refine RL.mv rfl rfl rfl ?_
   refine RL.bS (t := TR.int) (vs := [.int .i64 (4 : Int), .int .i64 (8 : Int)]) ([(4 : Int), (8 : Int)] : (List Int)) Try.underlying24 Try_lo3 rfl rfl rfl rfl ⟨VR.int, ⟨VR.int, trivial⟩⟩ rfl (by decide) ?_
   intro v26
   refine RL.reL (L' := [own 3 TR.int v5 ([(0 : Int), (0 : Int), (2 : Int), (6 : Int)] : (List Int)), own 3 TR.int v8 y6.1, own 3 TR.int v26 ([(4 : Int), (8 : Int)] : (List Int))]) rfl ?_
   obtain ⟨y27, e28, h20⟩ := bind_some h20
   refine RL.callV (v := .bool y27) (vs := [v8, v26]) Try_fit22 rfl (Or.inl rfl) rfl rfl rfl rfl (fun U w hU hW hL => slices_Equal_int_int_c U w hU _ _ (hL 1 _ _ rfl Seen.own) _ _ (hL 2 _ _ rfl Seen.own) _ e28) ?_
   refine RL.pickT rfl rfl rfl rfl ?_
   refine RL.asg rfl rfl rfl ?_
   refine RL.fin ?_
   cases h20
   exact fun a w st => mid_intro y27 h21 (St.cut [] ⟨rfl, trivial⟩ (by decide) rfl st)
  replace h20 := ite_f b25 h20
  refine RL.skip rfl rfl ?_
  refine RL.skip rfl rfl ?_
  refine RL.skip rfl rfl ?_
  refine RL.pickF rfl rfl rfl rfl ?_
  refine RL.asg rfl rfl rfl ?_
  refine RL.fin ?_
  cases h20
  exact fun a w st => mid_intro false h21 (St.cut [] ⟨rfl, trivial⟩ (by decide) rfl st)
 rintro x17 h29
 have h30 := h22 _ h29
 try dsimp only at h30
 refine GL.weak (env' := [(0, .bool x17)]) (L' := []) (fun _ _ st => st) ?_
 have h30 := Option.some.inj h30
 subst h30
 exact GL.ret (Gx.ret (v := .bool x17) (res1 rfl rfl) (fun a w st => st.toPostV))

set_option maxHeartbeats 4000000 in
theorem roads_Check_c (S : Hp) (w : World) (hS : S.sub w) (v0 : Value) (x0 : (List (List Int))) (k0 : ((TR.sl (TR.rec1 (TR.sl TR.int)))).vrep S v0 x0) (v1 : Value) (x1 : (List Int)) (k1 : ((TR.sl TR.int)).vrep S v1 x1) (res : Int) (hm : roads_Check_m x0 x1 = some res) : Calls Try.prog 94 #[v0, v1] w (PostV w (.int .i64 res)) := by
 refine calls_enter 79 Try.func94 Try.ntmps94 rfl S false [(0, v0), (1, v1)] [imm (TR.sl (TR.rec1 (TR.sl TR.int))) v0 x0, imm (TR.sl TR.int) v1 x1] rfl ⟨rfl, ⟨rfl, trivial⟩⟩ hS ⟨k0, ⟨k1, trivial⟩⟩ ?_
 unfold roads_Check_m at hm
 refine GL.seq ?_
 refine GL.region ?_
 refine RL.asg rfl rfl rfl ?_
 refine RL.finG ?_
 refine GL.seq ?_
 refine GL.seq ?_
 obtain ⟨y8, K9, h10, h11, h12, h13, h14⟩ := bindR_K hm
 refine GL.join (ι := Bool) (fun (p : Bool) => [(0, v0), (1, v1), (23, .bool p)]) (fun (p : Bool) => [imm (TR.sl (TR.rec1 (TR.sl TR.int))) v0 x0, imm (TR.sl TR.int) v1 x1]) (fun (p : Bool) => K9 (.nx p)) ?_ ?_
 ·skip
  refine GL.region ?_
  refine RL.mv rfl rfl rfl ?_
  refine RL.lenS 0 Try.underlying58 rfl rfl rfl rfl SlOf.imm ?_
  refine RL.binI (v := .bool (decide (((x0).length : Int) < (1 : Int)))) rfl rfl rfl rfl rfl ?_
  refine RL.mv rfl rfl rfl ?_
  refine RL.split (t := 14) rfl (fun b15 => ?_) (fun b15 => ?_)
  ·replace h10 := ite_t b15 h10
   refine RL.skip rfl rfl ?_
   refine RL.skip rfl rfl ?_
   refine RL.skip rfl rfl ?_
   refine RL.pickT rfl rfl rfl rfl ?_
   refine RL.mv rfl rfl rfl ?_
   refine RL.skip rfl rfl ?_
   refine RL.skip rfl rfl ?_
   refine RL.skip rfl rfl ?_
   refine RL.pickT rfl rfl rfl rfl ?_
   refine RL.fin ?_
   cases h10
   exact fun a w st => mid_intro true h11 (St.cut [0, 1] ⟨rfl, rfl, rfl, trivial⟩ (by decide) rfl st)
  replace h10 := ite_f b15 h10
  refine RL.mv rfl rfl rfl ?_
  refine RL.lenS 0 Try.underlying58 rfl rfl rfl rfl SlOf.imm ?_
  refine RL.binI (v := .bool (decide (((x0).length : Int) > (4 : Int)))) rfl rfl rfl rfl rfl ?_
  refine RL.pickF rfl rfl rfl rfl ?_
  refine RL.mv rfl rfl rfl ?_
  refine RL.split (t := 19) rfl (fun b16 => ?_) (fun b16 => ?_)
  ·replace h10 := ite_t b16 h10
   refine RL.skip rfl rfl ?_
   refine RL.skip rfl rfl ?_
   refine RL.skip rfl rfl ?_
   refine RL.pickT rfl rfl rfl rfl ?_
   refine RL.fin ?_
   cases h10
   exact fun a w st => mid_intro true h11 (St.cut [0, 1] ⟨rfl, rfl, rfl, trivial⟩ (by decide) rfl st)
  replace h10 := ite_f b16 h10
  refine RL.mv rfl rfl rfl ?_
  refine RL.lenS 1 Try.underlying24 rfl rfl rfl rfl SlOf.imm ?_
  refine RL.binI (v := .bool (decide (((x1).length : Int) > (6 : Int)))) rfl rfl rfl rfl rfl ?_
  refine RL.pickF rfl rfl rfl rfl ?_
  refine RL.fin ?_
  cases h10
  exact fun a w st => mid_intro (decide (((x1).length : Int) > (6 : Int))) h11 (St.cut [0, 1] ⟨rfl, rfl, rfl, trivial⟩ (by decide) rfl st)
 rintro x7 h17
 have h18 := h12 _ h17
 try dsimp only at h18
 refine GL.weak (env' := [(0, v0), (1, v1), (23, .bool x7)]) (L' := [imm (TR.sl (TR.rec1 (TR.sl TR.int))) v0 x0, imm (TR.sl TR.int) v1 x1]) (fun _ _ st => st) ?_
 refine GL.cond rfl (fun b19 => ?_) (fun b19 => ?_)
 ·replace h18 := ite_t b19 h18
  refine GL.seq ?_
  refine GL.region ?_
  refine RL.asg rfl rfl rfl ?_
  refine RL.finG ?_
  have h18 := Option.some.inj h18
  subst h18
  exact GL.ret (Gx.ret (v := .int .i64 (2 : Int)) (res1 rfl rfl) (fun a w st => st.toPostV))
 replace h18 := ite_f b19 h18
 refine GL.skip ?_
 refine GL.seq ?_
 refine GL.seq ?_
 refine GL.region ?_
 refine RL.mv rfl rfl rfl ?_
 refine RL.lenS 0 Try.underlying58 rfl rfl rfl rfl SlOf.imm ?_
 refine RL.mv rfl rfl rfl ?_
 refine RL.finG ?_
 refine GL.open_ 0 rfl (fun S h => len_imm S h) (fun n135 => ?_)
 obtain ⟨y136, K137, h138, h139, h140, h141, h142⟩ := bindR_K h18
 refine GL.join (ι := Unit) (fun (p : Unit) => [(0, v0), (1, v1)]) (fun (p : Unit) => [imm (TR.sl (TR.rec1 (TR.sl TR.int))) v0 x0, imm (TR.sl TR.int) v1 x1]) (fun (p : Unit) => K137 (.nx ())) ?_ ?_
 ·refine GL.block ?_
  refine GL.loop (ι := Nat × (List (List Int))) (fun (p : Nat × (List (List Int))) => [(0, v0), (1, v1), (24, v0), (25, .int .i64 ((x0).length : Int)), (26, .int .i64 (p.1 : Int))]) (fun (p : Nat × (List (List Int))) => [imm (TR.sl (TR.rec1 (TR.sl TR.int))) v0 x0, imm (TR.sl TR.int) v1 x1]) (fun (p : Nat × (List (List Int))) => p.1 + p.2.length = (x0).length ∧ List.drop p.1 x0 = p.2 ∧ rangeL (roads_Check_b1 x1) p.2 p.1 () = some y136) (fun (p : Nat × (List (List Int))) => p.2.length) (0, x0) ⟨by simp, by simp, h138⟩ (fun a w st => St.cut [0, 1] ⟨rfl, rfl, rfl, rfl, rfl, trivial⟩ (by decide) rfl st) ?_
  rintro ⟨i143, r144⟩ ⟨h149, h150, h148⟩
  try dsimp only at h149 h150 h148
  refine GL.weak (env' := [(0, v0), (1, v1), (24, v0), (25, .int .i64 ((x0).length : Int)), (26, .int .i64 (i143 : Int))]) (L' := [imm (TR.sl (TR.rec1 (TR.sl TR.int))) v0 x0, imm (TR.sl TR.int) v1 x1]) (fun _ _ st => st) ?_
  refine GL.seq ?_
  refine GL.region ?_
  refine RL.binI (v := .bool (decide ((i143 : Int) < ((x0).length : Int)))) rfl rfl rfl rfl rfl ?_
  refine RL.finG ?_
  refine GL.seq ?_
  refine GL.cond rfl (fun b151 => ?_) (fun b151 => ?_)
  ·have h152 : i143 < (x0).length := by have := of_decide_eq_true b151; omega
   obtain ⟨y153, r155, hr, e154, h156⟩ := drop_cons h150 rfl h152
   subst hr
   obtain ⟨z145, h146, h147⟩ := rangeL_some h148
   unfold roads_Check_b1 at h146
   try dsimp only at h146
   refine GL.skip ?_
   refine GL.seq ?_
   refine GL.block ?_
   refine GL.seq ?_
   refine GL.region ?_
   refine RL.idxS (sz := 1) 0 Try.underlying58 Try_ln111 rfl rfl rfl rfl rfl SlOf.imm (by omega) (by omega) ?_
   refine RL.ldS (i := i143) (r := (TR.rec1 (TR.sl TR.int))) (e' := y153) 0 Try_ln111 rfl rfl rfl rfl SlOf.imm e154 Part.self ?_
   intro v159
   refine RL.alloc (t := (TR.rec1 (TR.sl TR.int))) (z := ([] : (List Int))) Try_lo111 (fun S => ⟨_, [], rfl, ⟨none, 0, rfl, Nat.le_refl _, Nat.zero_le _, Or.inl ⟨rfl, rfl⟩⟩, rfl⟩) rfl rfl rfl ?_
   intro v160
   refine RL.reL (L' := [imm (TR.sl (TR.rec1 (TR.sl TR.int))) v0 x0, imm (TR.sl TR.int) v1 x1, imm (TR.rec1 (TR.sl TR.int)) v159 y153, obox 111 (TR.rec1 (TR.sl TR.int)) v160 ([] : (List Int))]) rfl ?_
   refine RL.stP (off := 0) (e' := y153) (d1 := y153) (r := (TR.rec1 (TR.sl TR.int))) 3 Try_ln111 rfl rfl (Or.inr ⟨rfl, rfl⟩) rfl (VR.item 2 rfl) rfl Upd.self ?_
   refine RL.finG ?_
   refine GL.seq ?_
   refine GL.seq ?_
   refine GL.region ?_
   refine RL.fadr (off := 0) (fo := 0) 3 Try_fld111_0 rfl rfl rfl PtOf.obox (Or.inr ⟨rfl, rfl⟩) ?_
   refine RL.ldP (off := (0 + 0)) (r := (TR.sl TR.int)) (e' := y153) 3 Try_ln24 rfl rfl (Or.inl rfl) rfl PtOf.obox (Part.rec1 Part.self) ?_
   intro v162
   refine RL.reL (L' := [imm (TR.sl (TR.rec1 (TR.sl TR.int))) v0 x0, imm (TR.sl TR.int) v1 x1, imm (TR.rec1 (TR.sl TR.int)) v159 y153, obox 111 (TR.rec1 (TR.sl TR.int)) v160 y153, imm (TR.sl TR.int) v162 y153]) rfl ?_
   refine RL.lenS 4 Try.underlying24 rfl rfl rfl rfl SlOf.imm ?_
   refine RL.mv rfl rfl rfl ?_
   refine RL.lenS 1 Try.underlying24 rfl rfl rfl rfl SlOf.imm ?_
   refine RL.binI (v := .bool (((y153).length : Int) != ((x1).length : Int))) rfl rfl rfl rfl rfl ?_
   refine RL.finG ?_
   refine GL.cond rfl (fun b163 => ?_) (fun b163 => ?_)
   ·replace h146 := ite_t b163 h146
    refine GL.seq ?_
    refine GL.region ?_
    refine RL.asg rfl rfl rfl ?_
    refine RL.finG ?_
    cases h146
    replace h147 : some (Fl.rt _) = some y136 := h147
    cases h147
    have hh := h141 _ h139
    subst hh
    exact GL.ret (Gx.ret (v := .int .i64 (3 : Int)) (res1 rfl rfl) (fun a w st => st.toPostV))
   replace h146 := ite_f b163 h146
   refine GL.skip ?_
   refine GL.seq ?_
   refine GL.region ?_
   refine RL.fadr (off := 0) (fo := 0) 3 Try_fld111_0 rfl rfl rfl PtOf.obox (Or.inr ⟨rfl, rfl⟩) ?_
   refine RL.ldP (off := (0 + 0)) (r := (TR.sl TR.int)) (e' := y153) 3 Try_ln24 rfl rfl (Or.inl rfl) rfl PtOf.obox (Part.rec1 Part.self) ?_
   intro v165
   refine RL.lenS 5 Try.underlying24 rfl rfl rfl rfl SlOf.imm ?_
   refine RL.mv rfl rfl rfl ?_
   refine RL.finG ?_
   refine GL.open_ 5 rfl (fun S h => len_imm S h) (fun n207 => ?_)
   obtain ⟨y208, K209, h210, h211, h212, h213, h214⟩ := bindF_K h146
   refine GL.join (ι := Unit) (fun (p : Unit) => [(0, v0), (1, v1), (24, v0), (25, .int .i64 ((x0).length : Int)), (26, .int .i64 (i143 : Int))]) (fun (p : Unit) => [imm (TR.sl (TR.rec1 (TR.sl TR.int))) v0 x0, imm (TR.sl TR.int) v1 x1]) (fun (p : Unit) => K209 (.nx ())) ?_ ?_
   ·refine GL.block ?_
    refine GL.loop (ι := Nat × (List Int)) (fun (p : Nat × (List Int)) => [(0, v0), (1, v1), (6, v160), (24, v0), (25, .int .i64 ((x0).length : Int)), (26, .int .i64 (i143 : Int)), (37, v165), (38, .int .i64 ((y153).length : Int)), (39, .int .i64 (p.1 : Int))]) (fun (p : Nat × (List Int)) => [imm (TR.sl (TR.rec1 (TR.sl TR.int))) v0 x0, imm (TR.sl TR.int) v1 x1, obox 111 (TR.rec1 (TR.sl TR.int)) v160 y153, imm (TR.sl TR.int) v165 y153]) (fun (p : Nat × (List Int)) => p.1 + p.2.length = (y153).length ∧ List.drop p.1 y153 = p.2 ∧ rangeL (roads_Check_b2 y153) p.2 p.1 () = some y208) (fun (p : Nat × (List Int)) => p.2.length) (0, y153) ⟨by simp, by simp, h210⟩ (fun a w st => St.cut [0, 1, 3, 5] ⟨rfl, rfl, rfl, rfl, rfl, rfl, rfl, rfl, rfl, trivial⟩ (by decide) rfl st) ?_
    rintro ⟨i215, r216⟩ ⟨h221, h222, h220⟩
    try dsimp only at h221 h222 h220
    refine GL.weak (env' := [(0, v0), (1, v1), (6, v160), (24, v0), (25, .int .i64 ((x0).length : Int)), (26, .int .i64 (i143 : Int)), (37, v165), (38, .int .i64 ((y153).length : Int)), (39, .int .i64 (i215 : Int))]) (L' := [imm (TR.sl (TR.rec1 (TR.sl TR.int))) v0 x0, imm (TR.sl TR.int) v1 x1, obox 111 (TR.rec1 (TR.sl TR.int)) v160 y153, imm (TR.sl TR.int) v165 y153]) (fun _ _ st => st) ?_
    refine GL.seq ?_
    refine GL.region ?_
    refine RL.binI (v := .bool (decide ((i215 : Int) < ((y153).length : Int)))) rfl rfl rfl rfl rfl ?_
    refine RL.finG ?_
    refine GL.seq ?_
    refine GL.cond rfl (fun b223 => ?_) (fun b223 => ?_)
    ·have h224 : i215 < (y153).length := by have := of_decide_eq_true b223; omega
     obtain ⟨y225, r227, hr, e226, h228⟩ := drop_cons h222 rfl h224
     subst hr
     obtain ⟨z217, h218, h219⟩ := rangeL_some h220
     unfold roads_Check_b2 at h218
     try dsimp only at h218
     refine GL.skip ?_
     refine GL.seq ?_
     refine GL.block ?_
     refine GL.seq ?_
     refine GL.region ?_
     refine RL.mv rfl rfl rfl ?_
     refine RL.idxS (sz := 1) 3 Try.underlying24 Try_ln3 rfl rfl rfl rfl rfl SlOf.imm (by omega) (by omega) ?_
     refine RL.ldSx (i := i215) (e' := y225) 3 Ex.ik Try_ln3 rfl rfl rfl rfl SlOf.imm e226 Part.self ?_
     refine RL.asg rfl rfl rfl ?_
     refine RL.asg rfl rfl rfl ?_
     refine RL.finG ?_
     refine GL.seq ?_
     refine GL.seq ?_
     obtain ⟨y232, K233, h234, h235, h236, h237, h238⟩ := bindF_K h218
     refine GL.join (ι := Bool) (fun (p : Bool) => [(0, v0), (1, v1), (6, v160), (7, .int .i64 (i215 : Int)), (8, .int .i64 y225), (24, v0), (25, .int .i64 ((x0).length : Int)), (26, .int .i64 (i143 : Int)), (37, v165), (38, .int .i64 ((y153).length : Int)), (39, .int .i64 (i215 : Int)), (49, .bool p)]) (fun (p : Bool) => [imm (TR.sl (TR.rec1 (TR.sl TR.int))) v0 x0, imm (TR.sl TR.int) v1 x1, obox 111 (TR.rec1 (TR.sl TR.int)) v160 y153, imm (TR.sl TR.int) v165 y153]) (fun (p : Bool) => K233 (.nx p)) ?_ ?_
     ·skip
      refine GL.region ?_
      refine RL.mv rfl rfl rfl ?_
      refine RL.binI (v := .bool (decide (y225 < (0 : Int)))) rfl rfl rfl rfl rfl ?_
      refine RL.mv rfl rfl rfl ?_
      refine RL.split (t := 46) rfl (fun b239 => ?_) (fun b239 => ?_)
      ·replace h234 := ite_t b239 h234
       refine RL.skip rfl rfl ?_
       refine RL.skip rfl rfl ?_
       refine RL.pickT rfl rfl rfl rfl ?_
       refine RL.fin ?_
       cases h234
       exact fun a w st => mid_intro true h235 (St.cut [0, 1, 2, 3] ⟨rfl, rfl, rfl, rfl, rfl, rfl, rfl, rfl, rfl, rfl, rfl, rfl, trivial⟩ (by decide) rfl st)
      replace h234 := ite_f b239 h234
      refine RL.mv rfl rfl rfl ?_
      refine RL.binI (v := .bool (decide (y225 > (100 : Int)))) rfl rfl rfl rfl rfl ?_
      refine RL.pickF rfl rfl rfl rfl ?_
      refine RL.fin ?_
      cases h234
      exact fun a w st => mid_intro (decide (y225 > (100 : Int))) h235 (St.cut [0, 1, 2, 3] ⟨rfl, rfl, rfl, rfl, rfl, rfl, rfl, rfl, rfl, rfl, rfl, rfl, trivial⟩ (by decide) rfl st)
     rintro x231 h240
     have h241 := h236 _ h240
     try dsimp only at h241
     refine GL.weak (env' := [(0, v0), (1, v1), (6, v160), (7, .int .i64 (i215 : Int)), (8, .int .i64 y225), (24, v0), (25, .int .i64 ((x0).length : Int)), (26, .int .i64 (i143 : Int)), (37, v165), (38, .int .i64 ((y153).length : Int)), (39, .int .i64 (i215 : Int)), (49, .bool x231)]) (L' := [imm (TR.sl (TR.rec1 (TR.sl TR.int))) v0 x0, imm (TR.sl TR.int) v1 x1, obox 111 (TR.rec1 (TR.sl TR.int)) v160 y153, imm (TR.sl TR.int) v165 y153]) (fun _ _ st => st) ?_
     refine GL.cond rfl (fun b242 => ?_) (fun b242 => ?_)
     ·replace h241 := ite_t b242 h241
      refine GL.seq ?_
      refine GL.region ?_
      refine RL.asg rfl rfl rfl ?_
      refine RL.finG ?_
      cases h241
      replace h219 : some (Fl.rt _) = some y208 := h219
      cases h219
      have hh := h213 _ h211
      subst hh
      replace h147 : some (Fl.rt _) = some y136 := h147
      cases h147
      have hh := h141 _ h139
      subst hh
      exact GL.ret (Gx.ret (v := .int .i64 (1 : Int)) (res1 rfl rfl) (fun a w st => st.toPostV))
     replace h241 := ite_f b242 h241
     refine GL.skip ?_
     refine GL.seq ?_
     obtain ⟨y252, K253, h254, h255, h256, h257, h258⟩ := bindF_K h241
     refine GL.join (ι := Bool) (fun (p : Bool) => [(0, v0), (1, v1), (6, v160), (24, v0), (25, .int .i64 ((x0).length : Int)), (26, .int .i64 (i143 : Int)), (37, v165), (38, .int .i64 ((y153).length : Int)), (39, .int .i64 (i215 : Int)), (61, .bool p)]) (fun (p : Bool) => [imm (TR.sl (TR.rec1 (TR.sl TR.int))) v0 x0, imm (TR.sl TR.int) v1 x1, obox 111 (TR.rec1 (TR.sl TR.int)) v160 y153, imm (TR.sl TR.int) v165 y153]) (fun (p : Bool) => K253 (.nx p)) ?_ ?_
     ·skip
      refine GL.region ?_
      refine RL.mv rfl rfl rfl ?_
      refine RL.binI (v := .bool (decide ((i215 : Int) > (0 : Int)))) rfl rfl rfl rfl rfl ?_
      refine RL.mv rfl rfl rfl ?_
      refine RL.split (t := 52) rfl (fun b259 => ?_) (fun b259 => ?_)
      ·replace h254 := ite_t b259 h254
       refine RL.mv rfl rfl rfl ?_
       refine RL.fadr (off := 0) (fo := 0) 2 Try_fld111_0 rfl rfl rfl PtOf.obox (Or.inr ⟨rfl, rfl⟩) ?_
       refine RL.ldP (off := (0 + 0)) (r := (TR.sl TR.int)) (e' := y153) 2 Try_ln24 rfl rfl (Or.inl rfl) rfl PtOf.obox (Part.rec1 Part.self) ?_
       intro v260
       refine RL.mv rfl rfl rfl ?_
       refine RL.binI (v := .int .i64 (wsub (i215 : Int) (1 : Int))) rfl rfl rfl rfl rfl ?_
       obtain ⟨y261, e262, h254⟩ := bind_some h254
       refine RL.idxS (sz := 1) 4 Try.underlying24 Try_ln3 rfl rfl rfl rfl rfl SlOf.imm (idx_some e262).1 (idx_some e262).2.1 ?_
       refine RL.ldSx (i := (wsub (i215 : Int) (1 : Int)).toNat) (e' := y261) 4 Ex.ik Try_ln3 rfl rfl rfl rfl SlOf.imm (idx_some e262).2.2 Part.self ?_
       refine RL.binI (v := .bool (decide (y225 < y261))) rfl rfl rfl rfl rfl ?_
       refine RL.pickT rfl rfl rfl rfl ?_
       refine RL.fin ?_
       cases h254
       exact fun a w st => mid_intro (decide (y225 < y261)) h255 (St.cut [0, 1, 2, 3] ⟨rfl, rfl, rfl, rfl, rfl, rfl, rfl, rfl, rfl, rfl, trivial⟩ (by decide) rfl st)
      replace h254 := ite_f b259 h254
      refine RL.skip rfl rfl ?_
      refine RL.skip rfl rfl ?_
      refine RL.skip rfl rfl ?_
      refine RL.skip rfl rfl ?_
      refine RL.skip rfl rfl ?_
      refine RL.skip rfl rfl ?_
      refine RL.skip rfl rfl ?_
      refine RL.skip rfl rfl ?_
      refine RL.pickF rfl rfl rfl rfl ?_
      refine RL.fin ?_
      cases h254
      exact fun a w st => mid_intro false h255 (St.cut [0, 1, 2, 3] ⟨rfl, rfl, rfl, rfl, rfl, rfl, rfl, rfl, rfl, rfl, trivial⟩ (by decide) rfl st)
     rintro x251 h263
     have h264 := h256 _ h263
     try dsimp only at h264
     refine GL.weak (env' := [(0, v0), (1, v1), (6, v160), (24, v0), (25, .int .i64 ((x0).length : Int)), (26, .int .i64 (i143 : Int)), (37, v165), (38, .int .i64 ((y153).length : Int)), (39, .int .i64 (i215 : Int)), (61, .bool x251)]) (L' := [imm (TR.sl (TR.rec1 (TR.sl TR.int))) v0 x0, imm (TR.sl TR.int) v1 x1, obox 111 (TR.rec1 (TR.sl TR.int)) v160 y153, imm (TR.sl TR.int) v165 y153]) (fun _ _ st => st) ?_
     refine GL.cond rfl (fun b265 => ?_) (fun b265 => ?_)
     ·replace h264 := ite_t b265 h264
      refine GL.seq ?_
      refine GL.region ?_
      refine RL.asg rfl rfl rfl ?_
      refine RL.finG ?_
      cases h264
      replace h219 : some (Fl.rt _) = some y208 := h219
      cases h219
      have hh := h213 _ h211
      subst hh
      replace h147 : some (Fl.rt _) = some y136 := h147
      cases h147
      have hh := h141 _ h139
      subst hh
      exact GL.ret (Gx.ret (v := .int .i64 (3 : Int)) (res1 rfl rfl) (fun a w st => st.toPostV))
     replace h264 := ite_f b265 h264
     refine GL.skip ?_
     refine GL.nilB ?_
     refine GL.region ?_
     refine RL.binI (v := .int .i64 ((i215 + 1 : Nat) : Int)) rfl rfl rfl rfl (binI_succ i215 (by omega)) ?_
     refine RL.mv rfl rfl rfl ?_
     refine RL.fin ?_
     cases h264
     exact fun a w st => lop_intro (i215 + 1, r227) ⟨by show i215 + 1 + r227.length = (y153).length; simp only [List.length_cons] at h221; omega, h228, h219⟩ (by simp) (St.cut [0, 1, 2, 3] ⟨rfl, rfl, rfl, rfl, rfl, rfl, rfl, rfl, rfl, trivial⟩ (by decide) rfl st)
    have h224 : ¬ i215 < (y153).length := by have := of_decide_eq_false b223; omega
    obtain rfl : r216 = [] := by rw [← h222]; exact List.drop_of_length_le (by omega)
    replace h220 : some (Fl.nx _) = some y208 := h220
    cases h220
    exact GL.exit (fun a w st => mid_intro () h211 (St.cut [0, 1] ⟨rfl, rfl, rfl, rfl, rfl, trivial⟩ (by decide) rfl st))
   rintro ⟨⟩ h266
   have h267 := h212 _ h266
   try dsimp only at h267
   refine GL.weak (env' := [(0, v0), (1, v1), (24, v0), (25, .int .i64 ((x0).length : Int)), (26, .int .i64 (i143 : Int))]) (L' := [imm (TR.sl (TR.rec1 (TR.sl TR.int))) v0 x0, imm (TR.sl TR.int) v1 x1]) (fun _ _ st => st) ?_
   refine GL.nilB ?_
   refine GL.region ?_
   refine RL.binI (v := .int .i64 ((i143 + 1 : Nat) : Int)) rfl rfl rfl rfl (binI_succ i143 (by omega)) ?_
   refine RL.mv rfl rfl rfl ?_
   refine RL.fin ?_
   cases h267
   exact fun a w st => lop_intro (i143 + 1, r155) ⟨by show i143 + 1 + r155.length = (x0).length; simp only [List.length_cons] at h149; omega, h156, h147⟩ (by simp) (St.cut [0, 1] ⟨rfl, rfl, rfl, rfl, rfl, trivial⟩ (by decide) rfl st)
  have h152 : ¬ i143 < (x0).length := by have := of_decide_eq_false b151; omega
  obtain rfl : r144 = [] := by rw [← h150]; exact List.drop_of_length_le (by omega)
  replace h148 : some (Fl.nx _) = some y136 := h148
  cases h148
  exact GL.exit (fun a w st => mid_intro () h139 (St.cut [0, 1] ⟨rfl, rfl, trivial⟩ (by decide) rfl st))
 rintro ⟨⟩ h268
 have h269 := h140 _ h268
 try dsimp only at h269
 refine GL.weak (env' := [(0, v0), (1, v1)]) (L' := [imm (TR.sl (TR.rec1 (TR.sl TR.int))) v0 x0, imm (TR.sl TR.int) v1 x1]) (fun _ _ st => st) ?_
 refine GL.seq ?_
 refine GL.seq ?_
 refine GL.region ?_
 refine RL.mv rfl rfl rfl ?_
 refine RL.lenS 1 Try.underlying24 rfl rfl rfl rfl SlOf.imm ?_
 refine RL.mv rfl rfl rfl ?_
 refine RL.finG ?_
 refine GL.open_ 1 rfl (fun S h => len_imm S h) (fun n288 => ?_)
 obtain ⟨y289, K290, h291, h292, h293, h294, h295⟩ := bindR_K h269
 refine GL.join (ι := Unit) (fun (p : Unit) => []) (fun (p : Unit) => []) (fun (p : Unit) => K290 (.nx ())) ?_ ?_
 ·refine GL.block ?_
  refine GL.loop (ι := Nat × (List Int)) (fun (p : Nat × (List Int)) => [(0, v0), (64, v1), (65, .int .i64 ((x1).length : Int)), (66, .int .i64 (p.1 : Int))]) (fun (p : Nat × (List Int)) => [imm (TR.sl (TR.rec1 (TR.sl TR.int))) v0 x0, imm (TR.sl TR.int) v1 x1]) (fun (p : Nat × (List Int)) => p.1 + p.2.length = (x1).length ∧ List.drop p.1 x1 = p.2 ∧ rangeL (roads_Check_b3 x0) p.2 p.1 () = some y289) (fun (p : Nat × (List Int)) => p.2.length) (0, x1) ⟨by simp, by simp, h291⟩ (fun a w st => St.cut [0, 1] ⟨rfl, rfl, rfl, rfl, trivial⟩ (by decide) rfl st) ?_
  rintro ⟨i296, r297⟩ ⟨h302, h303, h301⟩
  try dsimp only at h302 h303 h301
  refine GL.weak (env' := [(0, v0), (64, v1), (65, .int .i64 ((x1).length : Int)), (66, .int .i64 (i296 : Int))]) (L' := [imm (TR.sl (TR.rec1 (TR.sl TR.int))) v0 x0, imm (TR.sl TR.int) v1 x1]) (fun _ _ st => st) ?_
  refine GL.seq ?_
  refine GL.region ?_
  refine RL.binI (v := .bool (decide ((i296 : Int) < ((x1).length : Int)))) rfl rfl rfl rfl rfl ?_
  refine RL.finG ?_
  refine GL.seq ?_
  refine GL.cond rfl (fun b304 => ?_) (fun b304 => ?_)
  ·have h305 : i296 < (x1).length := by have := of_decide_eq_true b304; omega
   obtain ⟨y306, r308, hr, e307, h309⟩ := drop_cons h303 rfl h305
   subst hr
   obtain ⟨z298, h299, h300⟩ := rangeL_some h301
   unfold roads_Check_b3 at h299
   try dsimp only at h299
   refine GL.skip ?_
   refine GL.seq ?_
   refine GL.block ?_
   refine GL.seq ?_
   refine GL.region ?_
   refine RL.idxS (sz := 1) 1 Try.underlying24 Try_ln3 rfl rfl rfl rfl rfl SlOf.imm (by omega) (by omega) ?_
   refine RL.ldSx (i := i296) (e' := y306) 1 Ex.ik Try_ln3 rfl rfl rfl rfl SlOf.imm e307 Part.self ?_
   refine RL.asg rfl rfl rfl ?_
   refine RL.finG ?_
   refine GL.seq ?_
   obtain ⟨y313, K314, h315, h316, h317, h318, h319⟩ := bindF_K h299
   refine GL.join (ι := Bool) (fun (p : Bool) => [(0, v0), (64, v1), (65, .int .i64 ((x1).length : Int)), (66, .int .i64 (i296 : Int)), (77, .bool p)]) (fun (p : Bool) => [imm (TR.sl (TR.rec1 (TR.sl TR.int))) v0 x0, imm (TR.sl TR.int) v1 x1]) (fun (p : Bool) => K314 (.nx p)) ?_ ?_
   ·skip
    refine GL.region ?_
    refine RL.mv rfl rfl rfl ?_
    refine RL.binI (v := .bool (decide (y306 < (0 : Int)))) rfl rfl rfl rfl rfl ?_
    refine RL.mv rfl rfl rfl ?_
    refine RL.split (t := 72) rfl (fun b320 => ?_) (fun b320 => ?_)
    ·replace h315 := ite_t b320 h315
     refine RL.skip rfl rfl ?_
     refine RL.skip rfl rfl ?_
     refine RL.skip rfl rfl ?_
     refine RL.skip rfl rfl ?_
     refine RL.pickT rfl rfl rfl rfl ?_
     refine RL.fin ?_
     cases h315
     exact fun a w st => mid_intro true h316 (St.cut [0, 1] ⟨rfl, rfl, rfl, rfl, rfl, trivial⟩ (by decide) rfl st)
    replace h315 := ite_f b320 h315
    refine RL.mv rfl rfl rfl ?_
    refine RL.mv rfl rfl rfl ?_
    refine RL.lenS 0 Try.underlying58 rfl rfl rfl rfl SlOf.imm ?_
    refine RL.binI (v := .bool (decide (y306 ≥ ((x0).length : Int)))) rfl rfl rfl rfl rfl ?_
    refine RL.pickF rfl rfl rfl rfl ?_
    refine RL.fin ?_
    cases h315
    exact fun a w st => mid_intro (decide (y306 ≥ ((x0).length : Int))) h316 (St.cut [0, 1] ⟨rfl, rfl, rfl, rfl, rfl, trivial⟩ (by decide) rfl st)
   rintro x312 h321
   have h322 := h317 _ h321
   try dsimp only at h322
   refine GL.weak (env' := [(0, v0), (64, v1), (65, .int .i64 ((x1).length : Int)), (66, .int .i64 (i296 : Int)), (77, .bool x312)]) (L' := [imm (TR.sl (TR.rec1 (TR.sl TR.int))) v0 x0, imm (TR.sl TR.int) v1 x1]) (fun _ _ st => st) ?_
   refine GL.cond rfl (fun b323 => ?_) (fun b323 => ?_)
   ·replace h322 := ite_t b323 h322
    refine GL.seq ?_
    refine GL.region ?_
    refine RL.asg rfl rfl rfl ?_
    refine RL.finG ?_
    cases h322
    replace h300 : some (Fl.rt _) = some y289 := h300
    cases h300
    have hh := h294 _ h292
    subst hh
    exact GL.ret (Gx.ret (v := .int .i64 (4 : Int)) (res1 rfl rfl) (fun a w st => st.toPostV))
   replace h322 := ite_f b323 h322
   refine GL.skip ?_
   refine GL.nilB ?_
   refine GL.region ?_
   refine RL.binI (v := .int .i64 ((i296 + 1 : Nat) : Int)) rfl rfl rfl rfl (binI_succ i296 (by omega)) ?_
   refine RL.mv rfl rfl rfl ?_
   refine RL.fin ?_
   cases h322
   exact fun a w st => lop_intro (i296 + 1, r308) ⟨by show i296 + 1 + r308.length = (x1).length; simp only [List.length_cons] at h302; omega, h309, h300⟩ (by simp) (St.cut [0, 1] ⟨rfl, rfl, rfl, rfl, trivial⟩ (by decide) rfl st)
  have h305 : ¬ i296 < (x1).length := by have := of_decide_eq_false b304; omega
  obtain rfl : r297 = [] := by rw [← h303]; exact List.drop_of_length_le (by omega)
  replace h301 : some (Fl.nx _) = some y289 := h301
  cases h301
  exact GL.exit (fun a w st => mid_intro () h292 (St.cut [] trivial (by decide) rfl st))
 rintro ⟨⟩ h324
 have h325 := h293 _ h324
 try dsimp only at h325
 refine GL.weak (env' := []) (L' := []) (fun _ _ st => st) ?_
 refine GL.seq ?_
 refine GL.region ?_
 refine RL.asg rfl rfl rfl ?_
 refine RL.finG ?_
 have h325 := Option.some.inj h325
 subst h325
 exact GL.ret (Gx.ret (v := .int .i64 (0 : Int)) (res1 rfl rfl) (fun a w st => st.toPostV))

set_option maxHeartbeats 4000000 in
theorem slices_Clone_int_int_c (S : Hp) (w : World) (hS : S.sub w) (v0 : Value) (x0 : List Int) (k0 : (TR.sl TR.int).vrep S v0 x0) (res : List Int) (hm : slices_Clone_int_int_m x0 = some res) : Calls Try.prog 18 #[v0] w (Post w S (fun (o : Value) => o) (fun (o : Value) => [own 3 TR.int o res])) := by
  refine calls_enter 8 Try.func18 Try.ntmps18 rfl S false [(0, v0)] [imm (TR.sl TR.int) v0 x0] rfl ⟨rfl, trivial⟩ hS ⟨k0, trivial⟩ ?_
  unfold slices_Clone_int_int_m at hm
  obtain ⟨_, hc, hm⟩ := bind_some hm
  replace hc := chk_some hc
  have hm := Option.some.inj hm
  subst hm
  refine GL.seq (GL.region (RL.asg rfl rfl rfl (RL.finG (GL.seq (GL.seq (GL.region ?_))))))
  refine RL.mv rfl rfl rfl ?_
  refine RL.eqNil 0 Try.underlying24 rfl rfl rfl rfl rfl SlOf.imm (fun b hb => ?_)
  refine RL.finG (GL.cond rfl (fun h => ?_) (fun h => ?_))
  · have := hb h
    subst this
    refine GL.seq (GL.region (RL.asg rfl rfl rfl (RL.finG ?_)))
    refine GL.weak (fun a w st => st.nilOwn 3 TR.int) ?_
    exact GL.ret (Gx.ret (v := Value.slice none 0 0) (res1 rfl rfl) (fun a w st => (st.pick [1] (by decide) rfl).toPost (Value.slice none 0 0)))
  · refine GL.skip (GL.seq (GL.region ?_))
    refine RL.bS (t := TR.int) (vs := []) ([] : List Int) Try.underlying24 Try_lo3 rfl rfl rfl rfl trivial rfl (by decide) ?_
    intro v1
    refine RL.mv rfl rfl rfl ?_
    refine RL.appB 1 0 Try.underlying24 Try_lo3 rfl rfl rfl rfl rfl rfl rfl SlOf.imm (RoomN.of (N := 17592186044416) Try_info3 (by decide) (by decide)) (by simpa using hc) ?_
    intro v2
    refine RL.asg rfl rfl rfl (RL.finG ?_)
    exact GL.ret (Gx.ret (v := v2) (res1 rfl rfl) (fun a w st => (st.pick [1] (by decide) rfl).toPost v2))

set_option maxHeartbeats 4000000 in
theorem roads_load_c (S : Hp) (w : World) (hS : S.sub w) (v0 : Value) (x0 : (List (List Int))) (k0 : ((TR.sl (TR.rec1 (TR.sl TR.int)))).vrep S v0 x0) (v1 : Value) (x1 : (List Int)) (k1 : ((TR.sl TR.int)).vrep S v1 x1) (res : (List Int)) (hm : roads_load_m x0 x1 = some res) : Calls Try.prog 96 #[v0, v1] w (Post w S (fun (o : Value) => o) (fun (o : Value) => [own 3 TR.int o res])) := by
 refine calls_enter 25 Try.func96 Try.ntmps96 rfl S false [(0, v0), (1, v1)] [imm (TR.sl (TR.rec1 (TR.sl TR.int))) v0 x0, imm (TR.sl TR.int) v1 x1] rfl ⟨rfl, ⟨rfl, trivial⟩⟩ hS ⟨k0, ⟨k1, trivial⟩⟩ ?_
 unfold roads_load_m at hm
 refine GL.seq ?_
 refine GL.region ?_
 refine RL.asg rfl rfl rfl ?_
 refine RL.finG ?_
 refine GL.seq ?_
 refine GL.region ?_
 refine RL.mv rfl rfl rfl ?_
 refine RL.lenS 0 Try.underlying58 rfl rfl rfl rfl SlOf.imm ?_
 obtain ⟨y6, e7, hm⟩ := bind_some hm
 replace e7 := chk_some e7
 refine RL.mkS (t := TR.int) (z := (0 : Int)) Try.underlying24 Try_lo3 (fun S => rfl) rfl rfl rfl rfl e7.1 e7.2 ?_
 intro v8
 refine RL.asg rfl rfl rfl ?_
 refine RL.finG ?_
 refine GL.seq ?_
 refine GL.seq ?_
 refine GL.region ?_
 refine RL.mv rfl rfl rfl ?_
 refine RL.lenS 1 Try.underlying24 rfl rfl rfl rfl SlOf.imm ?_
 refine RL.mv rfl rfl rfl ?_
 refine RL.finG ?_
 refine GL.open_ 1 rfl (fun S h => len_imm S h) (fun n34 => ?_)
 obtain ⟨y35, K36, h37, h38, h39, h40, h41⟩ := bindR_K hm
 refine GL.join (ι := (List Int)) (fun (p : (List Int)) => [(5, v8)]) (fun (p : (List Int)) => [own 3 TR.int v8 p]) (fun (p : (List Int)) => K36 (.nx p)) ?_ ?_
 ·refine GL.block ?_
  refine GL.loop (ι := Nat × (List Int) × (List Int)) (fun (p : Nat × (List Int) × (List Int)) => [(5, v8), (11, v1), (12, .int .i64 ((x1).length : Int)), (13, .int .i64 (p.1 : Int))]) (fun (p : Nat × (List Int) × (List Int)) => [own 3 TR.int v8 p.2.2, imm (TR.sl TR.int) v1 x1]) (fun (p : Nat × (List Int) × (List Int)) => p.1 + p.2.1.length = (x1).length ∧ List.drop p.1 x1 = p.2.1 ∧ rangeL roads_load_b1 p.2.1 p.1 p.2.2 = some y35) (fun (p : Nat × (List Int) × (List Int)) => p.2.1.length) (0, x1, (List.replicate (((x0).length : Int)).toNat (0 : Int))) ⟨by simp, by simp, h37⟩ (fun a w st => St.cut [2, 1] ⟨rfl, rfl, rfl, rfl, trivial⟩ (by decide) rfl st) ?_
  rintro ⟨i42, r43, l21⟩ ⟨h48, h49, h47⟩
  try dsimp only at h48 h49 h47
  refine GL.weak (env' := [(5, v8), (11, v1), (12, .int .i64 ((x1).length : Int)), (13, .int .i64 (i42 : Int))]) (L' := [own 3 TR.int v8 l21, imm (TR.sl TR.int) v1 x1]) (fun _ _ st => st) ?_
  refine GL.seq ?_
  refine GL.region ?_
  refine RL.binI (v := .bool (decide ((i42 : Int) < ((x1).length : Int)))) rfl rfl rfl rfl rfl ?_
  refine RL.finG ?_
  refine GL.seq ?_
  refine GL.cond rfl (fun b50 => ?_) (fun b50 => ?_)
  ·have h51 : i42 < (x1).length := by have := of_decide_eq_true b50; omega
   obtain ⟨y52, r54, hr, e53, h55⟩ := drop_cons h49 rfl h51
   subst hr
   obtain ⟨z44, h45, h46⟩ := rangeL_some h47
   unfold roads_load_b1 at h45
   try dsimp only at h45
   refine GL.skip ?_
   refine GL.seq ?_
   refine GL.block ?_
   refine GL.seq ?_
   refine GL.region ?_
   refine RL.idxS (sz := 1) 1 Try.underlying24 Try_ln3 rfl rfl rfl rfl rfl SlOf.imm (by omega) (by omega) ?_
   refine RL.ldSx (i := i42) (e' := y52) 1 Ex.ik Try_ln3 rfl rfl rfl rfl SlOf.imm e53 Part.self ?_
   refine RL.asg rfl rfl rfl ?_
   refine RL.finG ?_
   refine GL.region ?_
   refine RL.mv rfl rfl rfl ?_
   refine RL.mv rfl rfl rfl ?_
   obtain ⟨y60, e61, h45⟩ := bind_some h45
   refine RL.idxS (sz := 1) 0 Try.underlying24 Try_ln3 rfl rfl rfl rfl rfl SlOf.own (idx_some e61).1 (idx_some e61).2.1 ?_
   refine RL.ldSx (i := (y52).toNat) (e' := y60) 0 Ex.ik Try_ln3 rfl rfl rfl rfl SlOf.own (idx_some e61).2.2 Part.self ?_
   refine RL.binI (v := .int .i64 (wadd y60 (1 : Int))) rfl rfl rfl rfl rfl ?_
   obtain ⟨y62, e63, h45⟩ := bind_some h45
   refine RL.idxS (sz := 1) 0 Try.underlying24 Try_ln3 rfl rfl rfl rfl rfl SlOf.own (idx_some e63).1 (idx_some e63).2.1 ?_
   refine RL.stS (i := (y52).toNat) (e' := wadd y60 (1 : Int)) (e1 := wadd y60 (1 : Int)) (r := TR.int) 0 Try_ln3 rfl rfl rfl rfl VR.int rfl (idx_some e63).2.2 Upd.self ?_
   refine RL.finG ?_
   refine GL.nilB ?_
   refine GL.region ?_
   refine RL.binI (v := .int .i64 ((i42 + 1 : Nat) : Int)) rfl rfl rfl rfl (binI_succ i42 (by omega)) ?_
   refine RL.mv rfl rfl rfl ?_
   refine RL.fin ?_
   cases h45
   exact fun a w st => lop_intro (i42 + 1, r54, (List.set l21 ((y52).toNat) (wadd y60 (1 : Int)))) ⟨by show i42 + 1 + r54.length = (x1).length; simp only [List.length_cons] at h48; omega, h55, h46⟩ (by simp) (St.cut [0, 1] ⟨rfl, rfl, rfl, rfl, trivial⟩ (by decide) rfl st)
  have h51 : ¬ i42 < (x1).length := by have := of_decide_eq_false b50; omega
  obtain rfl : r43 = [] := by rw [← h49]; exact List.drop_of_length_le (by omega)
  replace h47 : some (Fl.nx _) = some y35 := h47
  cases h47
  exact GL.exit (fun a w st => mid_intro l21 h38 (St.cut [0] ⟨rfl, trivial⟩ (by decide) rfl st))
 rintro l21 h64
 have h65 := h39 _ h64
 try dsimp only at h65
 refine GL.weak (env' := [(5, v8)]) (L' := [own 3 TR.int v8 l21]) (fun _ _ st => st) ?_
 refine GL.seq ?_
 refine GL.region ?_
 refine RL.mv rfl rfl rfl ?_
 refine RL.asg rfl rfl rfl ?_
 refine RL.finG ?_
 have h65 := Option.some.inj h65
 subst h65
 exact GL.ret (Gx.ret (v := v8) (res1 rfl rfl) (fun a w st => (st.pick [0] (by decide) rfl).toPost v8))

set_option maxHeartbeats 4000000 in
theorem roads_Better_c (S : Hp) (w : World) (hS : S.sub w) (v0 : Value) (x0 : (List (List Int))) (k0 : ((TR.sl (TR.rec1 (TR.sl TR.int)))).vrep S v0 x0) (v1 : Value) (x1 : (List Int)) (k1 : ((TR.sl TR.int)).vrep S v1 x1) (x2 : Int) (res : Int × Int) (hm : roads_Better_m x0 x1 x2 = some res) : Calls Try.prog 95 #[v0, v1, .int .i64 x2] w (PostV w (.tuple #[.int .i64 res.1, .int .i64 res.2])) := by
 refine calls_enter 83 Try.func95 Try.ntmps95 rfl S false [(0, v0), (1, v1), (2, .int .i64 x2)] [imm (TR.sl (TR.rec1 (TR.sl TR.int))) v0 x0, imm (TR.sl TR.int) v1 x1] rfl ⟨rfl, ⟨rfl, ⟨rfl, trivial⟩⟩⟩ hS ⟨k0, ⟨k1, trivial⟩⟩ ?_
 unfold roads_Better_m at hm
 refine GL.seq ?_
 refine GL.region ?_
 refine RL.asg rfl rfl rfl ?_
 refine RL.asg rfl rfl rfl ?_
 refine RL.finG ?_
 refine GL.seq ?_
 refine GL.seq ?_
 refine GL.region ?_
 refine RL.mv rfl rfl rfl ?_
 refine RL.mv rfl rfl rfl ?_
 obtain ⟨y6, e7, hm⟩ := bind_some hm
 refine RL.callV (v := .int .i64 y6) (vs := [v0, v1]) Try_fit94 rfl (Or.inl rfl) rfl rfl rfl rfl (fun U w hU hW hL => roads_Check_c U w hU _ _ (hL 0 _ _ rfl Seen.imm) _ _ (hL 1 _ _ rfl Seen.imm) _ e7) ?_
 refine RL.asg rfl rfl rfl ?_
 refine RL.finG ?_
 refine GL.seq ?_
 refine GL.region ?_
 refine RL.mv rfl rfl rfl ?_
 refine RL.binI (v := .bool (y6 != (0 : Int))) rfl rfl rfl rfl rfl ?_
 refine RL.finG ?_
 refine GL.cond rfl (fun b8 => ?_) (fun b8 => ?_)
 ·replace hm := ite_t b8 hm
  refine GL.seq ?_
  refine GL.region ?_
  refine RL.mv rfl rfl rfl ?_
  refine RL.asg rfl rfl rfl ?_
  refine RL.asg rfl rfl rfl ?_
  refine RL.finG ?_
  have hm := Option.some.inj hm
  subst hm
  exact GL.ret (Gx.ret (v := .tuple #[.int .i64 (0 : Int), .int .i64 y6]) (res2 rfl rfl rfl) (fun a w st => st.toPostV))
 replace hm := ite_f b8 hm
 refine GL.skip ?_
 refine GL.seq ?_
 refine GL.seq ?_
 obtain ⟨y12, K13, h14, h15, h16, h17, h18⟩ := bindR_K hm
 refine GL.join (ι := Bool) (fun (p : Bool) => [(0, v0), (1, v1), (2, .int .i64 x2), (27, .bool p)]) (fun (p : Bool) => [imm (TR.sl (TR.rec1 (TR.sl TR.int))) v0 x0, imm (TR.sl TR.int) v1 x1]) (fun (p : Bool) => K13 (.nx p)) ?_ ?_
 ·skip
  refine GL.region ?_
  refine RL.mv rfl rfl rfl ?_
  refine RL.binI (v := .bool (decide (x2 < (0 : Int)))) rfl rfl rfl rfl rfl ?_
  refine RL.mv rfl rfl rfl ?_
  refine RL.split (t := 22) rfl (fun b19 => ?_) (fun b19 => ?_)
  ·replace h14 := ite_t b19 h14
   refine RL.skip rfl rfl ?_
   refine RL.skip rfl rfl ?_
   refine RL.skip rfl rfl ?_
   refine RL.skip rfl rfl ?_
   refine RL.pickT rfl rfl rfl rfl ?_
   refine RL.fin ?_
   cases h14
   exact fun a w st => mid_intro true h15 (St.cut [0, 1] ⟨rfl, rfl, rfl, rfl, trivial⟩ (by decide) rfl st)
  replace h14 := ite_f b19 h14
  refine RL.mv rfl rfl rfl ?_
  refine RL.mv rfl rfl rfl ?_
  refine RL.lenS 1 Try.underlying24 rfl rfl rfl rfl SlOf.imm ?_
  refine RL.binI (v := .bool (decide (x2 ≥ ((x1).length : Int)))) rfl rfl rfl rfl rfl ?_
  refine RL.pickF rfl rfl rfl rfl ?_
  refine RL.fin ?_
  cases h14
  exact fun a w st => mid_intro (decide (x2 ≥ ((x1).length : Int))) h15 (St.cut [0, 1] ⟨rfl, rfl, rfl, rfl, trivial⟩ (by decide) rfl st)
 rintro x11 h20
 have h21 := h16 _ h20
 try dsimp only at h21
 refine GL.weak (env' := [(0, v0), (1, v1), (2, .int .i64 x2), (27, .bool x11)]) (L' := [imm (TR.sl (TR.rec1 (TR.sl TR.int))) v0 x0, imm (TR.sl TR.int) v1 x1]) (fun _ _ st => st) ?_
 refine GL.cond rfl (fun b22 => ?_) (fun b22 => ?_)
 ·replace h21 := ite_t b22 h21
  refine GL.seq ?_
  refine GL.region ?_
  refine RL.asg rfl rfl rfl ?_
  refine RL.asg rfl rfl rfl ?_
  refine RL.finG ?_
  have h21 := Option.some.inj h21
  subst h21
  exact GL.ret (Gx.ret (v := .tuple #[.int .i64 (0 : Int), .int .i64 (1 : Int)]) (res2 rfl rfl rfl) (fun a w st => st.toPostV))
 replace h21 := ite_f b22 h21
 refine GL.skip ?_
 refine GL.seq ?_
 refine GL.region ?_
 refine RL.mv rfl rfl rfl ?_
 refine RL.mv rfl rfl rfl ?_
 obtain ⟨y26, e27, h21⟩ := bind_some h21
 refine RL.call (vs := [v0, v1]) Try_fit96 rfl rfl rfl rfl rfl (fun S f w hS hW hi => roads_load_c S w hS _ _ (hi 0 _ rfl) _ _ (hi 1 _ rfl) _ e27) ?_
 intro v28
 refine RL.asg rfl rfl rfl ?_
 refine RL.finG ?_
 refine GL.seq ?_
 refine GL.region ?_
 refine RL.mv rfl rfl rfl ?_
 refine RL.mv rfl rfl rfl ?_
 obtain ⟨y31, e32, h21⟩ := bind_some h21
 refine RL.idxS (sz := 1) 1 Try.underlying24 Try_ln3 rfl rfl rfl rfl rfl SlOf.imm (idx_some e32).1 (idx_some e32).2.1 ?_
 refine RL.ldSx (i := (x2).toNat) (e' := y31) 1 Ex.ik Try_ln3 rfl rfl rfl rfl SlOf.imm (idx_some e32).2.2 Part.self ?_
 refine RL.asg rfl rfl rfl ?_
 refine RL.finG ?_
 refine GL.seq ?_
 refine GL.regionQ rfl rfl (by kernel_rfl) ?_
 refine RL.mv rfl rfl rfl ?_
 refine RL.mv rfl rfl rfl ?_
 obtain ⟨y40, e41, h21⟩ := bind_some h21
 refine RL.idxS (sz := 1) 0 Try.underlying58 Try_ln111 rfl rfl rfl rfl rfl SlOf.imm (idx_some e41).1 (idx_some e41).2.1 ?_
 refine RL.fadrS (off := ((y31).toNat * 1)) (fo := 0) 0 Try_fld111_0 rfl rfl rfl SlOf.imm (by have := (List.getElem?_eq_some_iff.1 (idx_some e41).2.2).1; (try dsimp only at this ⊢); omega) rfl ?_
 refine RL.ldS (i := (y31).toNat) (r := (TR.sl TR.int)) (e' := y40) 0 Try_ln24 rfl rfl rfl rfl SlOf.imm (idx_some e41).2.2 (Part.rec1 Part.self) ?_
 intro v42
 refine RL.reL (L' := [imm (TR.sl (TR.rec1 (TR.sl TR.int))) v0 x0, imm (TR.sl TR.int) v1 x1, own 3 TR.int v28 y26, imm (TR.sl TR.int) v42 y40]) rfl ?_
 refine RL.mv rfl rfl rfl ?_
 refine RL.mv rfl rfl rfl ?_
 obtain ⟨y43, e44, h21⟩ := bind_some h21
 refine RL.idxS (sz := 1) 2 Try.underlying24 Try_ln3 rfl rfl rfl rfl rfl SlOf.own (idx_some e44).1 (idx_some e44).2.1 ?_
 refine RL.ldSx (i := (y31).toNat) (e' := y43) 2 Ex.ik Try_ln3 rfl rfl rfl rfl SlOf.own (idx_some e44).2.2 Part.self ?_
 refine RL.binI (v := .int .i64 (wsub y43 (1 : Int))) rfl rfl rfl rfl rfl ?_
 obtain ⟨y45, e46, h21⟩ := bind_some h21
 refine RL.idxS (sz := 1) 3 Try.underlying24 Try_ln3 rfl rfl rfl rfl rfl SlOf.imm (idx_some e46).1 (idx_some e46).2.1 ?_
 refine RL.ldSx (i := (wsub y43 (1 : Int)).toNat) (e' := y45) 3 Ex.ik Try_ln3 rfl rfl rfl rfl SlOf.imm (idx_some e46).2.2 Part.self ?_
 refine RL.asg rfl rfl rfl ?_
 refine RL.finQG ?_
 refine GL.seq ?_
 refine GL.seq ?_
 refine GL.region ?_
 refine RL.mv rfl rfl rfl ?_
 refine RL.lenS 0 Try.underlying58 rfl rfl rfl rfl SlOf.imm ?_
 refine RL.mv rfl rfl rfl ?_
 refine RL.finG ?_
 refine GL.open_ 0 rfl (fun S h => len_imm S h) (fun n102 => ?_)
 obtain ⟨y103, K104, h105, h106, h107, h108, h109⟩ := bindR_K h21
 refine GL.join (ι := Int × Int) (fun (p : Int × Int) => [(10, .int .i64 p.1)]) (fun (p : Int × Int) => []) (fun (p : Int × Int) => K104 (.nx (p.1, p.2))) ?_ ?_
 ·refine GL.block ?_
  refine GL.loop (ι := Nat × (List (List Int)) × Int × Int) (fun (p : Nat × (List (List Int)) × Int × Int) => [(1, v1), (2, .int .i64 x2), (9, v28), (10, .int .i64 p.2.2.1), (11, .int .i64 p.2.2.2), (47, v0), (48, .int .i64 ((x0).length : Int)), (49, .int .i64 (p.1 : Int))]) (fun (p : Nat × (List (List Int)) × Int × Int) => [imm (TR.sl TR.int) v1 x1, own 3 TR.int v28 y26, imm (TR.sl (TR.rec1 (TR.sl TR.int))) v0 x0]) (fun (p : Nat × (List (List Int)) × Int × Int) => p.1 + p.2.1.length = (x0).length ∧ List.drop p.1 x0 = p.2.1 ∧ rangeL (roads_Better_b1 x1 x2 y26) p.2.1 p.1 (p.2.2.1, p.2.2.2) = some y103) (fun (p : Nat × (List (List Int)) × Int × Int) => p.2.1.length) (0, x0, y31, y45) ⟨by simp, by simp, h105⟩ (fun a w st => St.cut [1, 2, 0] ⟨rfl, rfl, rfl, rfl, rfl, rfl, rfl, rfl, trivial⟩ (by decide) rfl st) ?_
  rintro ⟨i110, r111, x47, x48⟩ ⟨h116, h117, h115⟩
  try dsimp only at h116 h117 h115
  refine GL.weak (env' := [(1, v1), (2, .int .i64 x2), (9, v28), (10, .int .i64 x47), (11, .int .i64 x48), (47, v0), (48, .int .i64 ((x0).length : Int)), (49, .int .i64 (i110 : Int))]) (L' := [imm (TR.sl TR.int) v1 x1, own 3 TR.int v28 y26, imm (TR.sl (TR.rec1 (TR.sl TR.int))) v0 x0]) (fun _ _ st => st) ?_
  refine GL.seq ?_
  refine GL.region ?_
  refine RL.binI (v := .bool (decide ((i110 : Int) < ((x0).length : Int)))) rfl rfl rfl rfl rfl ?_
  refine RL.finG ?_
  refine GL.seq ?_
  refine GL.cond rfl (fun b118 => ?_) (fun b118 => ?_)
  ·have h119 : i110 < (x0).length := by have := of_decide_eq_true b118; omega
   obtain ⟨y120, r122, hr, e121, h123⟩ := drop_cons h117 rfl h119
   subst hr
   obtain ⟨z112, h113, h114⟩ := rangeL_some h115
   unfold roads_Better_b1 at h113
   try dsimp only at h113
   refine GL.skip ?_
   refine GL.seq ?_
   refine GL.block ?_
   refine GL.seq ?_
   refine GL.region ?_
   refine RL.mv rfl rfl rfl ?_
   refine RL.idxS (sz := 1) 2 Try.underlying58 Try_ln111 rfl rfl rfl rfl rfl SlOf.imm (by omega) (by omega) ?_
   refine RL.ldS (i := i110) (r := (TR.rec1 (TR.sl TR.int))) (e' := y120) 2 Try_ln111 rfl rfl rfl rfl SlOf.imm e121 Part.self ?_
   intro v126
   refine RL.alloc (t := (TR.rec1 (TR.sl TR.int))) (z := ([] : (List Int))) Try_lo111 (fun S => ⟨_, [], rfl, ⟨none, 0, rfl, Nat.le_refl _, Nat.zero_le _, Or.inl ⟨rfl, rfl⟩⟩, rfl⟩) rfl rfl rfl ?_
   intro v127
   refine RL.reL (L' := [imm (TR.sl TR.int) v1 x1, own 3 TR.int v28 y26, imm (TR.sl (TR.rec1 (TR.sl TR.int))) v0 x0, imm (TR.rec1 (TR.sl TR.int)) v126 y120, obox 111 (TR.rec1 (TR.sl TR.int)) v127 ([] : (List Int))]) rfl ?_
   refine RL.asg rfl rfl rfl ?_
   refine RL.stP (off := 0) (e' := y120) (d1 := y120) (r := (TR.rec1 (TR.sl TR.int))) 4 Try_ln111 rfl rfl (Or.inr ⟨rfl, rfl⟩) rfl (VR.item 3 rfl) rfl Upd.self ?_
   refine RL.finG ?_
   refine GL.seq ?_
   obtain ⟨y145, K146, h147, h148, h149, h150, h151⟩ := bindF_K h113
   refine GL.join (ι := Bool) (fun (p : Bool) => [(1, v1), (2, .int .i64 x2), (9, v28), (10, .int .i64 x47), (11, .int .i64 x48), (12, .int .i64 (i110 : Int)), (13, v127), (47, v0), (48, .int .i64 ((x0).length : Int)), (49, .int .i64 (i110 : Int)), (71, .bool p)]) (fun (p : Bool) => [imm (TR.sl TR.int) v1 x1, own 3 TR.int v28 y26, obox 111 (TR.rec1 (TR.sl TR.int)) v127 y120, imm (TR.sl (TR.rec1 (TR.sl TR.int))) v0 x0]) (fun (p : Bool) => K146 (.nx p)) ?_ ?_
   ·skip
    refine GL.regionQ rfl rfl (by kernel_rfl) ?_
    refine RL.mv rfl rfl rfl ?_
    refine RL.mv rfl rfl rfl ?_
    refine RL.mv rfl rfl rfl ?_
    obtain ⟨y152, e153, h147⟩ := bind_some h147
    refine RL.idxS (sz := 1) 0 Try.underlying24 Try_ln3 rfl rfl rfl rfl rfl SlOf.imm (idx_some e153).1 (idx_some e153).2.1 ?_
    refine RL.ldSx (i := (x2).toNat) (e' := y152) 0 Ex.ik Try_ln3 rfl rfl rfl rfl SlOf.imm (idx_some e153).2.2 Part.self ?_
    refine RL.binI (v := .bool ((i110 : Int) != y152)) rfl rfl rfl rfl rfl ?_
    refine RL.mv rfl rfl rfl ?_
    refine RL.split (t := 60) rfl (fun b154 => ?_) (fun b154 => ?_)
    ·replace h147 := ite_t b154 h147
     refine RL.fadr (off := 0) (fo := 0) 4 Try_fld111_0 rfl rfl rfl PtOf.obox (Or.inr ⟨rfl, rfl⟩) ?_
     refine RL.ldP (off := (0 + 0)) (r := (TR.sl TR.int)) (e' := y120) 4 Try_ln24 rfl rfl (Or.inl rfl) rfl PtOf.obox (Part.rec1 Part.self) ?_
     intro v155
     refine RL.reL (L' := [imm (TR.sl TR.int) v1 x1, own 3 TR.int v28 y26, imm (TR.sl (TR.rec1 (TR.sl TR.int))) v0 x0, imm (TR.rec1 (TR.sl TR.int)) v126 y120, obox 111 (TR.rec1 (TR.sl TR.int)) v127 y120, imm (TR.sl TR.int) v155 y120]) rfl ?_
     refine RL.mv rfl rfl rfl ?_
     refine RL.mv rfl rfl rfl ?_
     obtain ⟨y156, e157, h147⟩ := bind_some h147
     refine RL.idxS (sz := 1) 1 Try.underlying24 Try_ln3 rfl rfl rfl rfl rfl SlOf.own (idx_some e157).1 (idx_some e157).2.1 ?_
     refine RL.ldSx (i := i110) (e' := y156) 1 Ex.ik Try_ln3 rfl rfl rfl rfl SlOf.own (idx_some e157).2.2 Part.self ?_
     obtain ⟨y158, e159, h147⟩ := bind_some h147
     refine RL.idxS (sz := 1) 5 Try.underlying24 Try_ln3 rfl rfl rfl rfl rfl SlOf.imm (idx_some e159).1 (idx_some e159).2.1 ?_
     refine RL.ldSx (i := (y156).toNat) (e' := y158) 5 Ex.ik Try_ln3 rfl rfl rfl rfl SlOf.imm (idx_some e159).2.2 Part.self ?_
     refine RL.mv rfl rfl rfl ?_
     refine RL.binI (v := .bool (decide (y158 < x48))) rfl rfl rfl rfl rfl ?_
     refine RL.pickT rfl rfl rfl rfl ?_
     refine RL.finQ ?_
     cases h147
     exact fun a w st => mid_intro (decide (y158 < x48)) h148 (St.cut [0, 1, 4, 2] ⟨rfl, rfl, rfl, rfl, rfl, rfl, rfl, rfl, rfl, rfl, rfl, trivial⟩ (by decide) rfl st)
    replace h147 := ite_f b154 h147
    refine RL.skip rfl rfl ?_
    refine RL.skip rfl rfl ?_
    refine RL.skip rfl rfl ?_
    refine RL.skip rfl rfl ?_
    refine RL.skip rfl rfl ?_
    refine RL.skip rfl rfl ?_
    refine RL.skip rfl rfl ?_
    refine RL.skip rfl rfl ?_
    refine RL.skip rfl rfl ?_
    refine RL.skip rfl rfl ?_
    refine RL.pickF rfl rfl rfl rfl ?_
    refine RL.finQ ?_
    cases h147
    exact fun a w st => mid_intro false h148 (St.cut [0, 1, 4, 2] ⟨rfl, rfl, rfl, rfl, rfl, rfl, rfl, rfl, rfl, rfl, rfl, trivial⟩ (by decide) rfl st)
   rintro x144 h160
   have h161 := h149 _ h160
   try dsimp only at h161
   refine GL.weak (env' := [(1, v1), (2, .int .i64 x2), (9, v28), (10, .int .i64 x47), (11, .int .i64 x48), (12, .int .i64 (i110 : Int)), (13, v127), (47, v0), (48, .int .i64 ((x0).length : Int)), (49, .int .i64 (i110 : Int)), (71, .bool x144)]) (L' := [imm (TR.sl TR.int) v1 x1, own 3 TR.int v28 y26, obox 111 (TR.rec1 (TR.sl TR.int)) v127 y120, imm (TR.sl (TR.rec1 (TR.sl TR.int))) v0 x0]) (fun _ _ st => st) ?_
   refine GL.cond rfl (fun b162 => ?_) (fun b162 => ?_)
   ·replace h161 := ite_t b162 h161
    refine GL.regionQ rfl rfl (by kernel_rfl) ?_
    refine RL.mv rfl rfl rfl ?_
    refine RL.fadr (off := 0) (fo := 0) 2 Try_fld111_0 rfl rfl rfl PtOf.obox (Or.inr ⟨rfl, rfl⟩) ?_
    refine RL.ldP (off := (0 + 0)) (r := (TR.sl TR.int)) (e' := y120) 2 Try_ln24 rfl rfl (Or.inl rfl) rfl PtOf.obox (Part.rec1 Part.self) ?_
    intro v168
    refine RL.mv rfl rfl rfl ?_
    refine RL.mv rfl rfl rfl ?_
    obtain ⟨y169, e170, h161⟩ := bind_some h161
    refine RL.idxS (sz := 1) 1 Try.underlying24 Try_ln3 rfl rfl rfl rfl rfl SlOf.own (idx_some e170).1 (idx_some e170).2.1 ?_
    refine RL.ldSx (i := i110) (e' := y169) 1 Ex.ik Try_ln3 rfl rfl rfl rfl SlOf.own (idx_some e170).2.2 Part.self ?_
    obtain ⟨y171, e172, h161⟩ := bind_some h161
    refine RL.idxS (sz := 1) 4 Try.underlying24 Try_ln3 rfl rfl rfl rfl rfl SlOf.imm (idx_some e172).1 (idx_some e172).2.1 ?_
    refine RL.ldSx (i := (y169).toNat) (e' := y171) 4 Ex.ik Try_ln3 rfl rfl rfl rfl SlOf.imm (idx_some e172).2.2 Part.self ?_
    refine RL.asg rfl rfl rfl ?_
    refine RL.asg rfl rfl rfl ?_
    refine RL.finQG ?_
    refine GL.nilB ?_
    refine GL.region ?_
    refine RL.binI (v := .int .i64 ((i110 + 1 : Nat) : Int)) rfl rfl rfl rfl (binI_succ i110 (by omega)) ?_
    refine RL.mv rfl rfl rfl ?_
    refine RL.fin ?_
    cases h161
    exact fun a w st => lop_intro (i110 + 1, r122, (i110 : Int), y171) ⟨by show i110 + 1 + r122.length = (x0).length; simp only [List.length_cons] at h116; omega, h123, h114⟩ (by simp) (St.cut [0, 1, 3] ⟨rfl, rfl, rfl, rfl, rfl, rfl, rfl, rfl, trivial⟩ (by decide) rfl st)
   replace h161 := ite_f b162 h161
   refine GL.skip ?_
   refine GL.nilB ?_
   refine GL.region ?_
   refine RL.binI (v := .int .i64 ((i110 + 1 : Nat) : Int)) rfl rfl rfl rfl (binI_succ i110 (by omega)) ?_
   refine RL.mv rfl rfl rfl ?_
   refine RL.fin ?_
   cases h161
   exact fun a w st => lop_intro (i110 + 1, r122, x47, x48) ⟨by show i110 + 1 + r122.length = (x0).length; simp only [List.length_cons] at h116; omega, h123, h114⟩ (by simp) (St.cut [0, 1, 3] ⟨rfl, rfl, rfl, rfl, rfl, rfl, rfl, rfl, trivial⟩ (by decide) rfl st)
  have h119 : ¬ i110 < (x0).length := by have := of_decide_eq_false b118; omega
  obtain rfl : r111 = [] := by rw [← h117]; exact List.drop_of_length_le (by omega)
  replace h115 : some (Fl.nx _) = some y103 := h115
  cases h115
  exact GL.exit (fun a w st => mid_intro (x47, x48) h106 (St.cut [] ⟨rfl, trivial⟩ (by decide) rfl st))
 rintro ⟨x47, x48⟩ h173
 have h174 := h107 _ h173
 try dsimp only at h174
 refine GL.weak (env' := [(10, .int .i64 x47)]) (L' := []) (fun _ _ st => st) ?_
 refine GL.seq ?_
 refine GL.region ?_
 refine RL.mv rfl rfl rfl ?_
 refine RL.asg rfl rfl rfl ?_
 refine RL.asg rfl rfl rfl ?_
 refine RL.finG ?_
 have h174 := Option.some.inj h174
 subst h174
 exact GL.ret (Gx.ret (v := .tuple #[.int .i64 x47, .int .i64 (0 : Int)]) (res2 rfl rfl rfl) (fun a w st => st.toPostV))

set_option maxHeartbeats 4000000 in
theorem roads_Settle_c (S : Hp) (w : World) (hS : S.sub w) (v0 : Value) (x0 : (List (List Int))) (k0 : ((TR.sl (TR.rec1 (TR.sl TR.int)))).vrep S v0 x0) (v1 : Value) (x1 : (List Int)) (k1 : ((TR.sl TR.int)).vrep S v1 x1) (res : (List Int) × Int × Int) (hm : roads_Settle_m x0 x1 = some res) : Calls Try.prog 37 #[v0, v1] w (Post w S (fun (o : Value) => .tuple #[o, .int .i64 res.2.1, .int .i64 res.2.2]) (fun (o : Value) => [own 3 TR.int o res.1])) := by
 refine calls_enter 48 Try.func37 Try.ntmps37 rfl S false [(0, v0), (1, v1)] [imm (TR.sl (TR.rec1 (TR.sl TR.int))) v0 x0, imm (TR.sl TR.int) v1 x1] rfl ⟨rfl, ⟨rfl, trivial⟩⟩ hS ⟨k0, ⟨k1, trivial⟩⟩ ?_
 unfold roads_Settle_m at hm
 refine GL.seq ?_
 refine GL.region ?_
 refine RL.asg rfl rfl rfl ?_
 refine RL.asg rfl rfl rfl ?_
 refine RL.asg rfl rfl rfl ?_
 refine RL.finG ?_
 refine GL.seq ?_
 refine GL.seq ?_
 refine GL.region ?_
 refine RL.mv rfl rfl rfl ?_
 refine RL.mv rfl rfl rfl ?_
 obtain ⟨y5, e6, hm⟩ := bind_some hm
 refine RL.callV (v := .int .i64 y5) (vs := [v0, v1]) Try_fit94 rfl (Or.inl rfl) rfl rfl rfl rfl (fun U w hU hW hL => roads_Check_c U w hU _ _ (hL 0 _ _ rfl Seen.imm) _ _ (hL 1 _ _ rfl Seen.imm) _ e6) ?_
 refine RL.asg rfl rfl rfl ?_
 refine RL.finG ?_
 refine GL.seq ?_
 refine GL.region ?_
 refine RL.mv rfl rfl rfl ?_
 refine RL.binI (v := .bool (y5 != (0 : Int))) rfl rfl rfl rfl rfl ?_
 refine RL.finG ?_
 refine GL.cond rfl (fun b7 => ?_) (fun b7 => ?_)
 ·replace hm := ite_t b7 hm
  refine GL.seq ?_
  refine GL.region ?_
  refine RL.mv rfl rfl rfl ?_
  refine RL.asg rfl rfl rfl ?_
  refine RL.asg rfl rfl rfl ?_
  refine RL.asg rfl rfl rfl ?_
  refine RL.finG ?_
  refine GL.weak (fun a w st => st.nilOwn 3 TR.int) ?_
  have hm := Option.some.inj hm
  subst hm
  exact GL.ret (Gx.ret (v := .tuple #[Value.slice none 0 0, .int .i64 (0 : Int), .int .i64 y5]) (res3 rfl rfl rfl rfl) (fun a w st => (st.pick [2] (by decide) rfl).toPost (Value.slice none 0 0)))
 replace hm := ite_f b7 hm
 refine GL.skip ?_
 refine GL.seq ?_
 refine GL.region ?_
 refine RL.mv rfl rfl rfl ?_
 obtain ⟨y11, e12, hm⟩ := bind_some hm
 refine RL.call (vs := [v1]) Try_fit18 rfl rfl rfl rfl rfl (fun S f w hS hW hi => slices_Clone_int_int_c S w hS _ _ (hi 1 _ rfl) _ e12) ?_
 intro v13
 refine RL.asg rfl rfl rfl ?_
 refine RL.finG ?_
 refine GL.seq ?_
 refine GL.region ?_
 refine RL.asg rfl rfl rfl ?_
 refine RL.finG ?_
 refine GL.seq ?_
 refine GL.seq ?_
 refine GL.region ?_
 refine RL.asg rfl rfl rfl ?_
 refine RL.finG ?_
 obtain ⟨y47, K48, h49, h50, h51, h52, h53⟩ := bindR_K hm
 refine GL.join (ι := (List Int) × Int × Int) (fun (p : (List Int) × Int × Int) => [(8, v13), (9, .int .i64 p.2.1)]) (fun (p : (List Int) × Int × Int) => [own 3 TR.int v13 p.1]) (fun (p : (List Int) × Int × Int) => K48 (.nx (p.1, p.2.1, p.2.2))) ?_ ?_
 ·refine GL.block ?_
  refine GL.loop (ι := Nat × (List Int) × Int × Int) (fun (p : Nat × (List Int) × Int × Int) => [(0, v0), (8, v13), (9, .int .i64 p.2.2.1), (10, .int .i64 p.2.2.2)]) (fun (p : Nat × (List Int) × Int × Int) => [imm (TR.sl (TR.rec1 (TR.sl TR.int))) v0 x0, own 3 TR.int v13 p.2.1]) (fun (p : Nat × (List Int) × Int × Int) => loopM (roads_Settle_b1 x0) p.1 (p.2.1, p.2.2.1, p.2.2.2) = some y47) (fun (p : Nat × (List Int) × Int × Int) => p.1) (1048576, y11, (0 : Int), (0 : Int)) h49 (fun a w st => St.cut [0, 2] ⟨rfl, rfl, rfl, rfl, trivial⟩ (by decide) rfl st) ?_
  rintro ⟨r55, l30, x31, x32⟩ h59
  try dsimp only at h59
  refine GL.weak (env' := [(0, v0), (8, v13), (9, .int .i64 x31), (10, .int .i64 x32)]) (L' := [imm (TR.sl (TR.rec1 (TR.sl TR.int))) v0 x0, own 3 TR.int v13 l30]) (fun _ _ st => st) ?_
  obtain ⟨r62, z56, hr, h57, h58⟩ := loopM_some h59
  subst hr
  unfold roads_Settle_b1 at h57
  try dsimp only at h57
  refine GL.seq ?_
  refine GL.seq ?_
  refine GL.region ?_
  refine RL.mv rfl rfl rfl ?_
  refine RL.mv rfl rfl rfl ?_
  refine RL.lenS 1 Try.underlying24 rfl rfl rfl rfl SlOf.own ?_
  refine RL.binI (v := .bool (decide (x32 < ((l30).length : Int)))) rfl rfl rfl rfl rfl ?_
  refine RL.finG ?_
  refine GL.cond rfl (fun b63 => ?_) (fun b63 => ?_)
  ·replace h57 := ite_t b63 h57
   refine GL.skip ?_
   refine GL.seq ?_
   refine GL.block ?_
   refine GL.seq ?_
   refine GL.region ?_
   refine RL.mv rfl rfl rfl ?_
   refine RL.mv rfl rfl rfl ?_
   refine RL.mv rfl rfl rfl ?_
   obtain ⟨y66, e67, h57⟩ := bind_some h57
   refine RL.callV (v := .tuple #[.int .i64 y66.1, .int .i64 y66.2]) (vs := [v0, v13, .int .i64 x32]) Try_fit95 rfl (Or.inl rfl) rfl rfl rfl rfl (fun U w hU hW hL => roads_Better_c U w hU _ _ (hL 0 _ _ rfl Seen.imm) _ _ (hL 1 _ _ rfl Seen.own) x32 _ e67) ?_
   refine RL.mv rfl rfl rfl ?_
   refine RL.ext rfl rfl rfl rfl ?_
   refine RL.ext rfl rfl rfl rfl ?_
   refine RL.asg rfl rfl rfl ?_
   refine RL.asg rfl rfl rfl ?_
   refine RL.finG ?_
   refine GL.seq ?_
   refine GL.region ?_
   refine RL.mv rfl rfl rfl ?_
   refine RL.mv rfl rfl rfl ?_
   refine RL.mv rfl rfl rfl ?_
   obtain ⟨y70, e71, h57⟩ := bind_some h57
   refine RL.idxS (sz := 1) 1 Try.underlying24 Try_ln3 rfl rfl rfl rfl rfl SlOf.own (idx_some e71).1 (idx_some e71).2.1 ?_
   refine RL.ldSx (i := (x32).toNat) (e' := y70) 1 Ex.ik Try_ln3 rfl rfl rfl rfl SlOf.own (idx_some e71).2.2 Part.self ?_
   refine RL.binI (v := .bool (y66.1 != y70)) rfl rfl rfl rfl rfl ?_
   refine RL.finG ?_
   refine GL.cond rfl (fun b72 => ?_) (fun b72 => ?_)
   ·replace h57 := ite_t b72 h57
    refine GL.seq ?_
    refine GL.region ?_
    refine RL.mv rfl rfl rfl ?_
    refine RL.mv rfl rfl rfl ?_
    refine RL.mv rfl rfl rfl ?_
    obtain ⟨y75, e76, h57⟩ := bind_some h57
    refine RL.idxS (sz := 1) 1 Try.underlying24 Try_ln3 rfl rfl rfl rfl rfl SlOf.own (idx_some e76).1 (idx_some e76).2.1 ?_
    refine RL.stS (i := (x32).toNat) (e' := y66.1) (e1 := y66.1) (r := TR.int) 1 Try_ln3 rfl rfl rfl rfl VR.int rfl (idx_some e76).2.2 Upd.self ?_
    refine RL.finG ?_
    refine GL.seq ?_
    refine GL.region ?_
    refine RL.mv rfl rfl rfl ?_
    refine RL.binI (v := .int .i64 (wadd x31 (1 : Int))) rfl rfl rfl rfl rfl ?_
    refine RL.asg rfl rfl rfl ?_
    refine RL.finG ?_
    refine GL.region ?_
    refine RL.asg rfl rfl rfl ?_
    refine RL.finG ?_
    refine GL.nilB ?_
    refine GL.region ?_
    refine RL.mv rfl rfl rfl ?_
    refine RL.binI (v := .int .i64 (wadd (-1 : Int) (1 : Int))) rfl rfl rfl rfl rfl ?_
    refine RL.asg rfl rfl rfl ?_
    refine RL.finG ?_
    cases h57
    exact fun a w st => lop_intro (r62, (List.set l30 ((x32).toNat) y66.1), wadd x31 (1 : Int), wadd (-1 : Int) (1 : Int)) (by exact h58) (by simp) (St.cut [0, 1] ⟨rfl, rfl, rfl, rfl, trivial⟩ (by decide) rfl st)
   replace h57 := ite_f b72 h57
   refine GL.skip ?_
   refine GL.nilB ?_
   refine GL.region ?_
   refine RL.mv rfl rfl rfl ?_
   refine RL.binI (v := .int .i64 (wadd x32 (1 : Int))) rfl rfl rfl rfl rfl ?_
   refine RL.asg rfl rfl rfl ?_
   refine RL.finG ?_
   cases h57
   exact fun a w st => lop_intro (r62, l30, x31, wadd x32 (1 : Int)) (by exact h58) (by simp) (St.cut [0, 1] ⟨rfl, rfl, rfl, rfl, trivial⟩ (by decide) rfl st)
  replace h57 := ite_f b63 h57
  cases h57
  replace h58 : some (Fl.nx _) = some y47 := h58
  cases h58
  exact GL.exit (fun a w st => mid_intro (l30, x31, x32) h50 (St.cut [1] ⟨rfl, rfl, trivial⟩ (by decide) rfl st))
 rintro ⟨l30, x31, x32⟩ h77
 have h78 := h51 _ h77
 try dsimp only at h78
 refine GL.weak (env' := [(8, v13), (9, .int .i64 x31)]) (L' := [own 3 TR.int v13 l30]) (fun _ _ st => st) ?_
 refine GL.seq ?_
 refine GL.region ?_
 refine RL.mv rfl rfl rfl ?_
 refine RL.mv rfl rfl rfl ?_
 refine RL.asg rfl rfl rfl ?_
 refine RL.asg rfl rfl rfl ?_
 refine RL.asg rfl rfl rfl ?_
 refine RL.finG ?_
 have h78 := Option.some.inj h78
 subst h78
 exact GL.ret (Gx.ret (v := .tuple #[v13, .int .i64 x31, .int .i64 (0 : Int)]) (res3 rfl rfl rfl rfl) (fun a w st => (st.pick [0] (by decide) rfl).toPost v13))

set_option maxHeartbeats 4000000 in
theorem pk_crowds_c (S : Hp) (w : World) (hS : S.sub w)  (res : Bool) (hm : pk_crowds_m = some res) : Calls Try.prog 32 #[] w (PostV w (.bool res)) := by
 refine calls_enter 26 Try.func32 Try.ntmps32 rfl S false [] [] rfl trivial hS trivial ?_
 unfold pk_crowds_m at hm
 refine GL.seq ?_
 refine GL.region ?_
 refine RL.asg rfl rfl rfl ?_
 refine RL.finG ?_
 refine GL.seq ?_
 refine GL.region ?_
 refine RL.bS (t := TR.int) (vs := [.int .i64 (1 : Int), .int .i64 (3 : Int)]) ([(1 : Int), (3 : Int)] : (List Int)) Try.underlying24 Try_lo3 rfl rfl rfl rfl ⟨VR.int, ⟨VR.int, trivial⟩⟩ rfl (by decide) ?_
 intro v10
 refine RL.weak (fun a w st => st.freeze 0 rfl) ?_
 refine RL.bld (t := (TR.rec1 (TR.sl TR.int))) (d0 := (([(1 : Int), (3 : Int)] : (List Int)) : (List Int))) (pv := [(0, v10)]) rfl Try_bld111 rfl rfl rfl ⟨⟨_, _, (TR.sl TR.int), ([(1 : Int), (3 : Int)] : (List Int)), rfl, rfl, (VR.item 0 rfl)⟩, trivial⟩ (fun S f hi => by
   obtain ⟨c0, e0, r0⟩ := cells_vrep (t := (TR.sl TR.int)) (u := v10) (e := ([(1 : Int), (3 : Int)] : (List Int))) ((VR.item 0 rfl) S f hi)
   show TR.rep (TR.rec1 (TR.sl TR.int)) S (List.flatten [(v10 : Value).cells.toList]) _
   simp only [e0,  List.flatten_cons, List.flatten_nil, List.append_nil]
   exact r0) ?_
 intro v11
 refine RL.reL (L' := [imm (TR.sl TR.int) v10 ([(1 : Int), (3 : Int)] : (List Int)), imm (TR.rec1 (TR.sl TR.int)) v11 ([(1 : Int), (3 : Int)] : (List Int))]) rfl ?_
 refine RL.bS (t := TR.int) (vs := [.int .i64 (2 : Int), .int .i64 (2 : Int)]) ([(2 : Int), (2 : Int)] : (List Int)) Try.underlying24 Try_lo3 rfl rfl rfl rfl ⟨VR.int, ⟨VR.int, trivial⟩⟩ rfl (by decide) ?_
 intro v12
 refine RL.weak (fun a w st => st.freeze 2 rfl) ?_
 refine RL.bld (t := (TR.rec1 (TR.sl TR.int))) (d0 := (([(2 : Int), (2 : Int)] : (List Int)) : (List Int))) (pv := [(0, v12)]) rfl Try_bld111 rfl rfl rfl ⟨⟨_, _, (TR.sl TR.int), ([(2 : Int), (2 : Int)] : (List Int)), rfl, rfl, (VR.item 2 rfl)⟩, trivial⟩ (fun S f hi => by
   obtain ⟨c0, e0, r0⟩ := cells_vrep (t := (TR.sl TR.int)) (u := v12) (e := ([(2 : Int), (2 : Int)] : (List Int))) ((VR.item 2 rfl) S f hi)
   show TR.rep (TR.rec1 (TR.sl TR.int)) S (List.flatten [(v12 : Value).cells.toList]) _
   simp only [e0,  List.flatten_cons, List.flatten_nil, List.append_nil]
   exact r0) ?_
 intro v13
 refine RL.reL (L' := [imm (TR.sl TR.int) v10 ([(1 : Int), (3 : Int)] : (List Int)), imm (TR.rec1 (TR.sl TR.int)) v11 ([(1 : Int), (3 : Int)] : (List Int)), imm (TR.sl TR.int) v12 ([(2 : Int), (2 : Int)] : (List Int)), imm (TR.rec1 (TR.sl TR.int)) v13 ([(2 : Int), (2 : Int)] : (List Int))]) rfl ?_
 refine RL.bS (t := (TR.rec1 (TR.sl TR.int))) (vs := [v11, v13]) ([([(1 : Int), (3 : Int)] : (List Int)), ([(2 : Int), (2 : Int)] : (List Int))] : (List (List Int))) Try.underlying58 Try_lo111 rfl rfl rfl rfl ⟨(VR.item 1 rfl), ⟨(VR.item 3 rfl), trivial⟩⟩ rfl (by decide) ?_
 intro v14
 refine RL.bS (t := TR.int) (vs := [.int .i64 (0 : Int), .int .i64 (0 : Int)]) ([(0 : Int), (0 : Int)] : (List Int)) Try.underlying24 Try_lo3 rfl rfl rfl rfl ⟨VR.int, ⟨VR.int, trivial⟩⟩ rfl (by decide) ?_
 intro v15
 refine RL.reL (L' := [imm (TR.sl TR.int) v10 ([(1 : Int), (3 : Int)] : (List Int)), imm (TR.rec1 (TR.sl TR.int)) v11 ([(1 : Int), (3 : Int)] : (List Int)), imm (TR.sl TR.int) v12 ([(2 : Int), (2 : Int)] : (List Int)), imm (TR.rec1 (TR.sl TR.int)) v13 ([(2 : Int), (2 : Int)] : (List Int)), own 111 (TR.rec1 (TR.sl TR.int)) v14 ([([(1 : Int), (3 : Int)] : (List Int)), ([(2 : Int), (2 : Int)] : (List Int))] : (List (List Int))), own 3 TR.int v15 ([(0 : Int), (0 : Int)] : (List Int))]) rfl ?_
 obtain ⟨y16, e17, hm⟩ := bind_some hm
 refine RL.callU (vs := [v14, v15]) (LR := fun (o : Value) => [own 3 TR.int o y16.1]) (fun o => ⟨Loc.own TR.flatT_ik, trivial⟩) Try_fit37 rfl rfl rfl rfl rfl (fun U w hU hW hL => roads_Settle_c U w hU _ _ (hL 4 _ _ rfl Seen.own) _ _ (hL 5 _ _ rfl Seen.own) _ e17) ?_
 intro v18
 refine RL.mv rfl rfl rfl ?_
 refine RL.ext rfl rfl rfl rfl ?_
 refine RL.ext rfl rfl rfl rfl ?_
 refine RL.ext rfl rfl rfl rfl ?_
 refine RL.asg rfl rfl rfl ?_
 refine RL.asg rfl rfl rfl ?_
 refine RL.asg rfl rfl rfl ?_
 refine RL.finG ?_
 refine GL.seq ?_
 obtain ⟨y30, K31, h32, h33, h34, h35, h36⟩ := bindR_K hm
 refine GL.join (ι := Bool) (fun (p : Bool) => [(0, .bool p)]) (fun (p : Bool) => []) (fun (p : Bool) => K31 (.nx p)) ?_ ?_
 ·skip
  refine GL.region ?_
  refine RL.mv rfl rfl rfl ?_
  refine RL.binI (v := .bool (y16.2.2 == (0 : Int))) rfl rfl rfl rfl rfl ?_
  refine RL.mv rfl rfl rfl ?_
  refine RL.split (t := 17) rfl (fun b37 => ?_) (fun b37 => ?_)
  ·replace h32 := ite_t b37 h32
   refine RL.mv rfl rfl rfl ?_
   refine RL.binI (v := .bool (y16.2.1 == (1 : Int))) rfl rfl rfl rfl rfl ?_
   refine RL.pickT rfl rfl rfl rfl ?_
   refine RL.mv rfl rfl rfl ?_
   refine RL.split (t := 21) rfl (fun b38 => ?_) (fun b38 => ?_)
   ·replace h32 := ite_t b38 h32
    refine RL.mv rfl rfl rfl ?_
    refine RL.bS (t := TR.int) (vs := [.int .i64 (1 : Int), .int .i64 (0 : Int)]) ([(1 : Int), (0 : Int)] : (List Int)) Try.underlying24 Try_lo3 rfl rfl rfl rfl ⟨VR.int, ⟨VR.int, trivial⟩⟩ rfl (by decide) ?_
    intro v39
    obtain ⟨y40, e41, h32⟩ := bind_some h32
    refine RL.callV (v := .bool y40) (vs := [v18, v39]) Try_fit22 rfl (Or.inl rfl) rfl rfl rfl rfl (fun U w hU hW hL => slices_Equal_int_int_c U w hU _ _ (hL 6 _ _ rfl Seen.own) _ _ (hL 7 _ _ rfl Seen.own) _ e41) ?_
    refine RL.pickT rfl rfl rfl rfl ?_
    refine RL.asg rfl rfl rfl ?_
    refine RL.fin ?_
    cases h32
    exact fun a w st => mid_intro y40 h33 (St.cut [] ⟨rfl, trivial⟩ (by decide) rfl st)
   replace h32 := ite_f b38 h32
   refine RL.skip rfl rfl ?_
   refine RL.skip rfl rfl ?_
   refine RL.skip rfl rfl ?_
   refine RL.pickF rfl rfl rfl rfl ?_
   refine RL.asg rfl rfl rfl ?_
   refine RL.fin ?_
   cases h32
   exact fun a w st => mid_intro false h33 (St.cut [] ⟨rfl, trivial⟩ (by decide) rfl st)
  replace h32 := ite_f b37 h32
  refine RL.skip rfl rfl ?_
  refine RL.skip rfl rfl ?_
  refine RL.pickF rfl rfl rfl rfl ?_
  refine RL.mv rfl rfl rfl ?_
  refine RL.skip rfl rfl ?_
  refine RL.skip rfl rfl ?_
  refine RL.skip rfl rfl ?_
  refine RL.pickF rfl rfl rfl rfl ?_
  refine RL.asg rfl rfl rfl ?_
  refine RL.fin ?_
  cases h32
  exact fun a w st => mid_intro false h33 (St.cut [] ⟨rfl, trivial⟩ (by decide) rfl st)
 rintro x29 h42
 have h43 := h34 _ h42
 try dsimp only at h43
 refine GL.weak (env' := [(0, .bool x29)]) (L' := []) (fun _ _ st => st) ?_
 have h43 := Option.some.inj h43
 subst h43
 exact GL.ret (Gx.ret (v := .bool x29) (res1 rfl rfl) (fun a w st => st.toPostV))

set_option maxHeartbeats 4000000 in
theorem equil_Check_c (S : Hp) (w : World) (hS : S.sub w) (v0 : Value) (x0 : (List (List Int))) (k0 : ((TR.sl (TR.sl TR.int))).vrep S v0 x0) (v1 : Value) (x1 : (List (List Int))) (k1 : ((TR.sl (TR.sl TR.int))).vrep S v1 x1) (res : Int) (hm : equil_Check_m x0 x1 = some res) : Calls Try.prog 87 #[v0, v1] w (PostV w (.int .i64 res)) := by
 refine calls_enter 33 Try.func87 Try.ntmps87 rfl S false [(0, v0), (1, v1)] [imm (TR.sl (TR.sl TR.int)) v0 x0, imm (TR.sl (TR.sl TR.int)) v1 x1] rfl ⟨rfl, ⟨rfl, trivial⟩⟩ hS ⟨k0, ⟨k1, trivial⟩⟩ ?_
 unfold equil_Check_m at hm
 refine GL.seq ?_
 refine GL.region ?_
 refine RL.asg rfl rfl rfl ?_
 refine RL.finG ?_
 refine GL.seq ?_
 refine GL.seq ?_
 refine GL.region ?_
 refine RL.mv rfl rfl rfl ?_
 obtain ⟨y5, e6, hm⟩ := bind_some hm
 refine RL.callC (v := .int .i64 y5) (vs := [v0]) Try_fit88 rfl rfl rfl rfl (fun U w hU hW hL => saddle_Check_c U w hU _ _ (hL 0 _ _ rfl Seen.imm) _ e6) ?_
 refine RL.asg rfl rfl rfl ?_
 refine RL.finG ?_
 refine GL.seq ?_
 refine GL.region ?_
 refine RL.mv rfl rfl rfl ?_
 refine RL.binI (v := .bool (y5 != (0 : Int))) rfl rfl rfl rfl rfl ?_
 refine RL.finG ?_
 refine GL.cond rfl (fun b7 => ?_) (fun b7 => ?_)
 ·replace hm := ite_t b7 hm
  refine GL.seq ?_
  refine GL.region ?_
  refine RL.mv rfl rfl rfl ?_
  refine RL.asg rfl rfl rfl ?_
  refine RL.finG ?_
  have hm := Option.some.inj hm
  subst hm
  exact GL.ret (Gx.ret (v := .int .i64 y5) (res1 rfl rfl) (fun a w st => st.toPostV))
 replace hm := ite_f b7 hm
 refine GL.skip ?_
 refine GL.seq ?_
 refine GL.seq ?_
 refine GL.region ?_
 refine RL.mv rfl rfl rfl ?_
 obtain ⟨y10, e11, hm⟩ := bind_some hm
 refine RL.callC (v := .int .i64 y10) (vs := [v1]) Try_fit88 rfl rfl rfl rfl (fun U w hU hW hL => saddle_Check_c U w hU _ _ (hL 1 _ _ rfl Seen.imm) _ e11) ?_
 refine RL.asg rfl rfl rfl ?_
 refine RL.finG ?_
 refine GL.seq ?_
 refine GL.region ?_
 refine RL.mv rfl rfl rfl ?_
 refine RL.binI (v := .bool (y10 != (0 : Int))) rfl rfl rfl rfl rfl ?_
 refine RL.finG ?_
 refine GL.cond rfl (fun b12 => ?_) (fun b12 => ?_)
 ·replace hm := ite_t b12 hm
  refine GL.seq ?_
  refine GL.region ?_
  refine RL.mv rfl rfl rfl ?_
  refine RL.asg rfl rfl rfl ?_
  refine RL.finG ?_
  have hm := Option.some.inj hm
  subst hm
  exact GL.ret (Gx.ret (v := .int .i64 y10) (res1 rfl rfl) (fun a w st => st.toPostV))
 replace hm := ite_f b12 hm
 refine GL.skip ?_
 refine GL.seq ?_
 refine GL.seq ?_
 obtain ⟨y28, K29, h30, h31, h32, h33, h34⟩ := bindR_K hm
 refine GL.join (ι := Bool) (fun (p : Bool) => [(32, .bool p)]) (fun (p : Bool) => []) (fun (p : Bool) => K29 (.nx p)) ?_ ?_
 ·skip
  refine GL.regionQ rfl rfl (by kernel_rfl) ?_
  refine RL.mv rfl rfl rfl ?_
  refine RL.lenS 0 Try.underlying37 rfl rfl rfl rfl SlOf.imm ?_
  refine RL.mv rfl rfl rfl ?_
  refine RL.lenS 1 Try.underlying37 rfl rfl rfl rfl SlOf.imm ?_
  refine RL.binI (v := .bool (((x0).length : Int) != ((x1).length : Int))) rfl rfl rfl rfl rfl ?_
  refine RL.mv rfl rfl rfl ?_
  refine RL.split (t := 22) rfl (fun b35 => ?_) (fun b35 => ?_)
  ·replace h30 := ite_t b35 h30
   refine RL.skip rfl rfl ?_
   refine RL.skip rfl rfl ?_
   refine RL.skip rfl rfl ?_
   refine RL.skip rfl rfl ?_
   refine RL.skip rfl rfl ?_
   refine RL.skip rfl rfl ?_
   refine RL.skip rfl rfl ?_
   refine RL.skip rfl rfl ?_
   refine RL.skip rfl rfl ?_
   refine RL.pickT rfl rfl rfl rfl ?_
   refine RL.finQ ?_
   cases h30
   exact fun a w st => mid_intro true h31 (St.cut [] ⟨rfl, trivial⟩ (by decide) rfl st)
  replace h30 := ite_f b35 h30
  refine RL.mv rfl rfl rfl ?_
  obtain ⟨y36, e37, h30⟩ := bind_some h30
  refine RL.idxS (sz := 1) 0 Try.underlying37 Try_ln24 rfl rfl rfl rfl rfl SlOf.imm (idx_some e37).1 (idx_some e37).2.1 ?_
  refine RL.ldS (i := ((0 : Int)).toNat) (r := (TR.sl TR.int)) (e' := y36) 0 Try_ln24 rfl rfl rfl rfl SlOf.imm (idx_some e37).2.2 Part.self ?_
  intro v38
  refine RL.lenS 2 Try.underlying24 rfl rfl rfl rfl SlOf.imm ?_
  refine RL.mv rfl rfl rfl ?_
  obtain ⟨y39, e40, h30⟩ := bind_some h30
  refine RL.idxS (sz := 1) 1 Try.underlying37 Try_ln24 rfl rfl rfl rfl rfl SlOf.imm (idx_some e40).1 (idx_some e40).2.1 ?_
  refine RL.ldS (i := ((0 : Int)).toNat) (r := (TR.sl TR.int)) (e' := y39) 1 Try_ln24 rfl rfl rfl rfl SlOf.imm (idx_some e40).2.2 Part.self ?_
  intro v41
  refine RL.reL (L' := [imm (TR.sl (TR.sl TR.int)) v0 x0, imm (TR.sl (TR.sl TR.int)) v1 x1, imm (TR.sl TR.int) v38 y36, imm (TR.sl TR.int) v41 y39]) rfl ?_
  refine RL.lenS 3 Try.underlying24 rfl rfl rfl rfl SlOf.imm ?_
  refine RL.binI (v := .bool (((y36).length : Int) != ((y39).length : Int))) rfl rfl rfl rfl rfl ?_
  refine RL.pickF rfl rfl rfl rfl ?_
  refine RL.finQ ?_
  cases h30
  exact fun a w st => mid_intro (((y36).length : Int) != ((y39).length : Int)) h31 (St.cut [] ⟨rfl, trivial⟩ (by decide) rfl st)
 rintro x27 h42
 have h43 := h32 _ h42
 try dsimp only at h43
 refine GL.weak (env' := [(32, .bool x27)]) (L' := []) (fun _ _ st => st) ?_
 refine GL.cond rfl (fun b44 => ?_) (fun b44 => ?_)
 ·replace h43 := ite_t b44 h43
  refine GL.seq ?_
  refine GL.region ?_
  refine RL.asg rfl rfl rfl ?_
  refine RL.finG ?_
  have h43 := Option.some.inj h43
  subst h43
  exact GL.ret (Gx.ret (v := .int .i64 (3 : Int)) (res1 rfl rfl) (fun a w st => st.toPostV))
 replace h43 := ite_f b44 h43
 refine GL.skip ?_
 refine GL.seq ?_
 refine GL.region ?_
 refine RL.asg rfl rfl rfl ?_
 refine RL.finG ?_
 have h43 := Option.some.inj h43
 subst h43
 exact GL.ret (Gx.ret (v := .int .i64 (0 : Int)) (res1 rfl rfl) (fun a w st => st.toPostV))

set_option maxHeartbeats 4000000 in
theorem equil_Rest_c (S : Hp) (w : World) (hS : S.sub w) (v0 : Value) (x0 : (List (List Int))) (k0 : ((TR.sl (TR.sl TR.int))).vrep S v0 x0) (v1 : Value) (x1 : (List (List Int))) (k1 : ((TR.sl (TR.sl TR.int))).vrep S v1 x1) (res : (List (List Int)) × Int) (hm : equil_Rest_m x0 x1 = some res) : Calls Try.prog 28 #[v0, v1] w (Post w S (fun (o : Value) => .tuple #[o, .int .i64 res.2]) (fun (o : Value) => [own 56 (TR.arr 2 TR.int) o res.1])) := by
 refine calls_enter 88 Try.func28 Try.ntmps28 rfl S false [(0, v0), (1, v1)] [imm (TR.sl (TR.sl TR.int)) v0 x0, imm (TR.sl (TR.sl TR.int)) v1 x1] rfl ⟨rfl, ⟨rfl, trivial⟩⟩ hS ⟨k0, ⟨k1, trivial⟩⟩ ?_
 unfold equil_Rest_m at hm
 refine GL.seq ?_
 refine GL.region ?_
 refine RL.asg rfl rfl rfl ?_
 refine RL.asg rfl rfl rfl ?_
 refine RL.finG ?_
 refine GL.seq ?_
 refine GL.seq ?_
 refine GL.region ?_
 refine RL.mv rfl rfl rfl ?_
 refine RL.mv rfl rfl rfl ?_
 obtain ⟨y5, e6, hm⟩ := bind_some hm
 refine RL.callV (v := .int .i64 y5) (vs := [v0, v1]) Try_fit87 rfl (Or.inl rfl) rfl rfl rfl rfl (fun U w hU hW hL => equil_Check_c U w hU _ _ (hL 0 _ _ rfl Seen.imm) _ _ (hL 1 _ _ rfl Seen.imm) _ e6) ?_
 refine RL.asg rfl rfl rfl ?_
 refine RL.finG ?_
 refine GL.seq ?_
 refine GL.region ?_
 refine RL.mv rfl rfl rfl ?_
 refine RL.binI (v := .bool (y5 != (0 : Int))) rfl rfl rfl rfl rfl ?_
 refine RL.finG ?_
 refine GL.cond rfl (fun b7 => ?_) (fun b7 => ?_)
 ·replace hm := ite_t b7 hm
  refine GL.seq ?_
  refine GL.region ?_
  refine RL.mv rfl rfl rfl ?_
  refine RL.asg rfl rfl rfl ?_
  refine RL.asg rfl rfl rfl ?_
  refine RL.finG ?_
  refine GL.weak (fun a w st => st.nilOwn 56 (TR.arr 2 TR.int)) ?_
  have hm := Option.some.inj hm
  subst hm
  exact GL.ret (Gx.ret (v := .tuple #[Value.slice none 0 0, .int .i64 y5]) (res2 rfl rfl rfl) (fun a w st => (st.pick [2] (by decide) rfl).toPost (Value.slice none 0 0)))
 replace hm := ite_f b7 hm
 refine GL.skip ?_
 refine GL.seq ?_
 refine GL.region ?_
 refine RL.asg rfl rfl rfl ?_
 refine RL.finG ?_
 refine GL.seq ?_
 refine GL.seq ?_
 refine GL.region ?_
 refine RL.mv rfl rfl rfl ?_
 refine RL.lenS 0 Try.underlying37 rfl rfl rfl rfl SlOf.imm ?_
 refine RL.mv rfl rfl rfl ?_
 refine RL.finG ?_
 refine GL.weak (fun a w st => st.nilOwn 56 (TR.arr 2 TR.int)) ?_
 refine GL.open_ 0 rfl (fun S h => len_imm S h) (fun n448 => ?_)
 obtain ⟨y449, K450, h451, h452, h453, h454, h455⟩ := bindR_K hm
 refine GL.join (ι := (List (List Int)) × Value) (fun (p : (List (List Int)) × Value) => [(7, p.2)]) (fun (p : (List (List Int)) × Value) => [own 56 (TR.arr 2 TR.int) p.2 p.1]) (fun (p : (List (List Int)) × Value) => K450 (.nx p.1)) ?_ ?_
 ·refine GL.block ?_
  refine GL.loop (ι := Nat × (List (List Int)) × (List (List Int)) × Value) (fun (p : Nat × (List (List Int)) × (List (List Int)) × Value) => [(0, v0), (1, v1), (7, p.2.2.2), (22, v0), (23, .int .i64 ((x0).length : Int)), (24, .int .i64 (p.1 : Int))]) (fun (p : Nat × (List (List Int)) × (List (List Int)) × Value) => [imm (TR.sl (TR.sl TR.int)) v0 x0, imm (TR.sl (TR.sl TR.int)) v1 x1, own 56 (TR.arr 2 TR.int) p.2.2.2 p.2.2.1]) (fun (p : Nat × (List (List Int)) × (List (List Int)) × Value) => p.1 + p.2.1.length = (x0).length ∧ List.drop p.1 x0 = p.2.1 ∧ rangeL (equil_Rest_b1 x0 x1) p.2.1 p.1 p.2.2.1 = some y449) (fun (p : Nat × (List (List Int)) × (List (List Int)) × Value) => p.2.1.length) (0, x0, [], Value.slice none 0 0) ⟨by simp, by simp, h451⟩ (fun a w st => St.cut [0, 1, 2] ⟨rfl, rfl, rfl, rfl, rfl, rfl, trivial⟩ (by decide) rfl st) ?_
  rintro ⟨i456, r457, l8, v9⟩ ⟨h462, h463, h461⟩
  try dsimp only at h462 h463 h461
  refine GL.weak (env' := [(0, v0), (1, v1), (7, v9), (22, v0), (23, .int .i64 ((x0).length : Int)), (24, .int .i64 (i456 : Int))]) (L' := [imm (TR.sl (TR.sl TR.int)) v0 x0, imm (TR.sl (TR.sl TR.int)) v1 x1, own 56 (TR.arr 2 TR.int) v9 l8]) (fun _ _ st => st) ?_
  refine GL.seq ?_
  refine GL.region ?_
  refine RL.binI (v := .bool (decide ((i456 : Int) < ((x0).length : Int)))) rfl rfl rfl rfl rfl ?_
  refine RL.finG ?_
  refine GL.seq ?_
  refine GL.cond rfl (fun b464 => ?_) (fun b464 => ?_)
  ·have h465 : i456 < (x0).length := by have := of_decide_eq_true b464; omega
   obtain ⟨y466, r468, hr, e467, h469⟩ := drop_cons h463 rfl h465
   subst hr
   obtain ⟨z458, h459, h460⟩ := rangeL_some h461
   unfold equil_Rest_b1 at h459
   try dsimp only at h459
   refine GL.skip ?_
   refine GL.seq ?_
   refine GL.block ?_
   refine GL.seq ?_
   refine GL.region ?_
   refine RL.mv rfl rfl rfl ?_
   refine RL.idxS (sz := 1) 0 Try.underlying37 Try_ln24 rfl rfl rfl rfl rfl SlOf.imm (by omega) (by omega) ?_
   refine RL.ldS (i := i456) (r := (TR.sl TR.int)) (e' := y466) 0 Try_ln24 rfl rfl rfl rfl SlOf.imm e467 Part.self ?_
   intro v471
   refine RL.asg rfl rfl rfl ?_
   refine RL.asg rfl rfl rfl ?_
   refine RL.finG ?_
   refine GL.seq ?_
   refine GL.region ?_
   refine RL.mv rfl rfl rfl ?_
   refine RL.lenS 3 Try.underlying24 rfl rfl rfl rfl SlOf.imm ?_
   refine RL.mv rfl rfl rfl ?_
   refine RL.finG ?_
   refine GL.open_ 3 rfl (fun S h => len_imm S h) (fun n665 => ?_)
   obtain ⟨y666, K667, h668, h669, h670, h671, h672⟩ := bindF_K h459
   refine GL.join (ι := (List (List Int)) × Value) (fun (p : (List (List Int)) × Value) => [(0, v0), (1, v1), (7, p.2), (22, v0), (23, .int .i64 ((x0).length : Int)), (24, .int .i64 (i456 : Int))]) (fun (p : (List (List Int)) × Value) => [imm (TR.sl (TR.sl TR.int)) v0 x0, imm (TR.sl (TR.sl TR.int)) v1 x1, own 56 (TR.arr 2 TR.int) p.2 p.1]) (fun (p : (List (List Int)) × Value) => K667 (.nx p.1)) ?_ ?_
   ·refine GL.block ?_
    refine GL.loop (ι := Nat × (List Int) × (List (List Int)) × Value) (fun (p : Nat × (List Int) × (List (List Int)) × Value) => [(0, v0), (1, v1), (7, p.2.2.2), (8, .int .i64 (i456 : Int)), (22, v0), (23, .int .i64 ((x0).length : Int)), (24, .int .i64 (i456 : Int)), (30, .int .i64 ((y466).length : Int)), (31, .int .i64 (p.1 : Int))]) (fun (p : Nat × (List Int) × (List (List Int)) × Value) => [imm (TR.sl (TR.sl TR.int)) v0 x0, imm (TR.sl (TR.sl TR.int)) v1 x1, own 56 (TR.arr 2 TR.int) p.2.2.2 p.2.2.1]) (fun (p : Nat × (List Int) × (List (List Int)) × Value) => p.1 + p.2.1.length = (y466).length ∧ List.drop p.1 y466 = p.2.1 ∧ rangeL (equil_Rest_b2 y466 x0 x1 i456) p.2.1 p.1 p.2.2.1 = some y666) (fun (p : Nat × (List Int) × (List (List Int)) × Value) => p.2.1.length) (0, y466, l8, v9) ⟨by simp, by simp, h668⟩ (fun a w st => St.cut [0, 1, 2] ⟨rfl, rfl, rfl, rfl, rfl, rfl, rfl, rfl, rfl, trivial⟩ (by decide) rfl st) ?_
    rintro ⟨i673, r674, l472, v473⟩ ⟨h679, h680, h678⟩
    try dsimp only at h679 h680 h678
    refine GL.weak (env' := [(0, v0), (1, v1), (7, v473), (8, .int .i64 (i456 : Int)), (22, v0), (23, .int .i64 ((x0).length : Int)), (24, .int .i64 (i456 : Int)), (30, .int .i64 ((y466).length : Int)), (31, .int .i64 (i673 : Int))]) (L' := [imm (TR.sl (TR.sl TR.int)) v0 x0, imm (TR.sl (TR.sl TR.int)) v1 x1, own 56 (TR.arr 2 TR.int) v473 l472]) (fun _ _ st => st) ?_
    refine GL.seq ?_
    refine GL.region ?_
    refine RL.binI (v := .bool (decide ((i673 : Int) < ((y466).length : Int)))) rfl rfl rfl rfl rfl ?_
    refine RL.finG ?_
    refine GL.seq ?_
    refine GL.cond rfl (fun b681 => ?_) (fun b681 => ?_)
    ·have h682 : i673 < (y466).length := by have := of_decide_eq_true b681; omega
     obtain ⟨y683, r685, hr, e684, h686⟩ := drop_cons h680 rfl h682
     subst hr
     obtain ⟨z675, h676, h677⟩ := rangeL_some h678
     unfold equil_Rest_b2 at h676
     try dsimp only at h676
     refine GL.skip ?_
     refine GL.seq ?_
     refine GL.block ?_
     refine GL.seq ?_
     refine GL.region ?_
     refine RL.mv rfl rfl rfl ?_
     refine RL.asg rfl rfl rfl ?_
     refine RL.finG ?_
     refine GL.seq ?_
     refine GL.region ?_
     refine RL.asg rfl rfl rfl ?_
     refine RL.finG ?_
     refine GL.seq ?_
     refine GL.seq ?_
     refine GL.region ?_
     refine RL.mv rfl rfl rfl ?_
     refine RL.lenS 0 Try.underlying37 rfl rfl rfl rfl SlOf.imm ?_
     refine RL.mv rfl rfl rfl ?_
     refine RL.finG ?_
     refine GL.open_ 0 rfl (fun S h => len_imm S h) (fun n722 => ?_)
     obtain ⟨y723, K724, h725, h726, h727, h728, h729⟩ := bindF_K h676
     refine GL.join (ι := Bool) (fun (p : Bool) => [(0, v0), (1, v1), (7, v473), (8, .int .i64 (i456 : Int)), (10, .int .i64 (i673 : Int)), (11, .bool p), (22, v0), (23, .int .i64 ((x0).length : Int)), (24, .int .i64 (i456 : Int)), (30, .int .i64 ((y466).length : Int)), (31, .int .i64 (i673 : Int))]) (fun (p : Bool) => [imm (TR.sl (TR.sl TR.int)) v0 x0, imm (TR.sl (TR.sl TR.int)) v1 x1, own 56 (TR.arr 2 TR.int) v473 l472]) (fun (p : Bool) => K724 (.nx p)) ?_ ?_
     ·refine GL.block ?_
      refine GL.loop (ι := Nat × (List (List Int)) × Bool) (fun (p : Nat × (List (List Int)) × Bool) => [(0, v0), (1, v1), (7, v473), (8, .int .i64 (i456 : Int)), (10, .int .i64 (i673 : Int)), (11, .bool p.2.2), (22, v0), (23, .int .i64 ((x0).length : Int)), (24, .int .i64 (i456 : Int)), (30, .int .i64 ((y466).length : Int)), (31, .int .i64 (i673 : Int)), (34, v0), (35, .int .i64 ((x0).length : Int)), (36, .int .i64 (p.1 : Int))]) (fun (p : Nat × (List (List Int)) × Bool) => [imm (TR.sl (TR.sl TR.int)) v0 x0, imm (TR.sl (TR.sl TR.int)) v1 x1, own 56 (TR.arr 2 TR.int) v473 l472]) (fun (p : Nat × (List (List Int)) × Bool) => p.1 + p.2.1.length = (x0).length ∧ List.drop p.1 x0 = p.2.1 ∧ rangeL (equil_Rest_b3 i673 y466) p.2.1 p.1 p.2.2 = some y723) (fun (p : Nat × (List (List Int)) × Bool) => p.2.1.length) (0, x0, true) ⟨by simp, by simp, h725⟩ (fun a w st => St.cut [0, 1, 2] ⟨rfl, rfl, rfl, rfl, rfl, rfl, rfl, rfl, rfl, rfl, rfl, rfl, rfl, rfl, trivial⟩ (by decide) rfl st) ?_
      rintro ⟨i730, r731, x687⟩ ⟨h736, h737, h735⟩
      try dsimp only at h736 h737 h735
      refine GL.weak (env' := [(0, v0), (1, v1), (7, v473), (8, .int .i64 (i456 : Int)), (10, .int .i64 (i673 : Int)), (11, .bool x687), (22, v0), (23, .int .i64 ((x0).length : Int)), (24, .int .i64 (i456 : Int)), (30, .int .i64 ((y466).length : Int)), (31, .int .i64 (i673 : Int)), (34, v0), (35, .int .i64 ((x0).length : Int)), (36, .int .i64 (i730 : Int))]) (L' := [imm (TR.sl (TR.sl TR.int)) v0 x0, imm (TR.sl (TR.sl TR.int)) v1 x1, own 56 (TR.arr 2 TR.int) v473 l472]) (fun _ _ st => st) ?_
      refine GL.seq ?_
      refine GL.region ?_
      refine RL.binI (v := .bool (decide ((i730 : Int) < ((x0).length : Int)))) rfl rfl rfl rfl rfl ?_
      refine RL.finG ?_
      refine GL.seq ?_
      refine GL.cond rfl (fun b738 => ?_) (fun b738 => ?_)
      ·have h739 : i730 < (x0).length := by have := of_decide_eq_true b738; omega
       obtain ⟨y740, r742, hr, e741, h743⟩ := drop_cons h737 rfl h739
       subst hr
       obtain ⟨z732, h733, h734⟩ := rangeL_some h735
       unfold equil_Rest_b3 at h733
       try dsimp only at h733
       refine GL.skip ?_
       refine GL.seq ?_
       refine GL.block ?_
       refine GL.seq ?_
       refine GL.region ?_
       refine RL.idxS (sz := 1) 0 Try.underlying37 Try_ln24 rfl rfl rfl rfl rfl SlOf.imm (by omega) (by omega) ?_
       refine RL.ldS (i := i730) (r := (TR.sl TR.int)) (e' := y740) 0 Try_ln24 rfl rfl rfl rfl SlOf.imm e741 Part.self ?_
       intro v745
       refine RL.asg rfl rfl rfl ?_
       refine RL.finG ?_
       obtain ⟨y759, K760, h761, h762, h763, h764, h765⟩ := bindF_K h733
       refine GL.join (ι := Bool) (fun (p : Bool) => [(0, v0), (1, v1), (7, v473), (8, .int .i64 (i456 : Int)), (10, .int .i64 (i673 : Int)), (11, .bool p), (22, v0), (23, .int .i64 ((x0).length : Int)), (24, .int .i64 (i456 : Int)), (30, .int .i64 ((y466).length : Int)), (31, .int .i64 (i673 : Int)), (34, v0), (35, .int .i64 ((x0).length : Int)), (36, .int .i64 (i730 : Int))]) (fun (p : Bool) => [imm (TR.sl (TR.sl TR.int)) v0 x0, imm (TR.sl (TR.sl TR.int)) v1 x1, own 56 (TR.arr 2 TR.int) v473 l472]) (fun (p : Bool) => K760 (.nx p)) ?_ ?_
       ·skip
        refine GL.regionQ rfl rfl (by kernel_rfl) ?_
        refine RL.mv rfl rfl rfl ?_
        refine RL.mv rfl rfl rfl ?_
        refine RL.split (t := 41) rfl (fun b766 => ?_) (fun b766 => ?_)
        ·replace h761 := ite_t b766 h761
         refine RL.mv rfl rfl rfl ?_
         refine RL.mv rfl rfl rfl ?_
         obtain ⟨y767, e768, h761⟩ := bind_some h761
         refine RL.idxS (sz := 1) 3 Try.underlying24 Try_ln3 rfl rfl rfl rfl rfl SlOf.imm (idx_some e768).1 (idx_some e768).2.1 ?_
         refine RL.ldSx (i := i673) (e' := y767) 3 Ex.ik Try_ln3 rfl rfl rfl rfl SlOf.imm (idx_some e768).2.2 Part.self ?_
         refine RL.mv rfl rfl rfl ?_
         refine RL.mv rfl rfl rfl ?_
         refine RL.idxS (sz := 1) 0 Try.underlying37 Try_ln24 rfl rfl rfl rfl rfl SlOf.imm (by omega) (by omega) ?_
         refine RL.ldS (i := i456) (r := (TR.sl TR.int)) (e' := y466) 0 Try_ln24 rfl rfl rfl rfl SlOf.imm e467 Part.self ?_
         intro v769
         refine RL.reL (L' := [imm (TR.sl (TR.sl TR.int)) v0 x0, imm (TR.sl (TR.sl TR.int)) v1 x1, own 56 (TR.arr 2 TR.int) v473 l472, imm (TR.sl TR.int) v745 y740, imm (TR.sl TR.int) v769 y466]) rfl ?_
         refine RL.mv rfl rfl rfl ?_
         obtain ⟨y770, e771, h761⟩ := bind_some h761
         refine RL.idxS (sz := 1) 4 Try.underlying24 Try_ln3 rfl rfl rfl rfl rfl SlOf.imm (idx_some e771).1 (idx_some e771).2.1 ?_
         refine RL.ldSx (i := i673) (e' := y770) 4 Ex.ik Try_ln3 rfl rfl rfl rfl SlOf.imm (idx_some e771).2.2 Part.self ?_
         refine RL.binI (v := .bool (decide (y767 ≤ y770))) rfl rfl rfl rfl rfl ?_
         refine RL.pickT rfl rfl rfl rfl ?_
         refine RL.asg rfl rfl rfl ?_
         refine RL.finQ ?_
         cases h761
         exact fun a w st => mid_intro (decide (y767 ≤ y770)) h762 (St.cut [0, 1, 2] ⟨rfl, rfl, rfl, rfl, rfl, rfl, rfl, rfl, rfl, rfl, rfl, rfl, rfl, rfl, trivial⟩ (by decide) rfl st)
        replace h761 := ite_f b766 h761
        refine RL.skip rfl rfl ?_
        refine RL.skip rfl rfl ?_
        refine RL.skip rfl rfl ?_
        refine RL.skip rfl rfl ?_
        refine RL.skip rfl rfl ?_
        refine RL.skip rfl rfl ?_
        refine RL.skip rfl rfl ?_
        refine RL.skip rfl rfl ?_
        refine RL.skip rfl rfl ?_
        refine RL.skip rfl rfl ?_
        refine RL.skip rfl rfl ?_
        refine RL.skip rfl rfl ?_
        refine RL.pickF rfl rfl rfl rfl ?_
        refine RL.asg rfl rfl rfl ?_
        refine RL.finQ ?_
        cases h761
        exact fun a w st => mid_intro false h762 (St.cut [0, 1, 2] ⟨rfl, rfl, rfl, rfl, rfl, rfl, rfl, rfl, rfl, rfl, rfl, rfl, rfl, rfl, trivial⟩ (by decide) rfl st)
       rintro x758 h772
       have h773 := h763 _ h772
       try dsimp only at h773
       refine GL.weak (env' := [(0, v0), (1, v1), (7, v473), (8, .int .i64 (i456 : Int)), (10, .int .i64 (i673 : Int)), (11, .bool x758), (22, v0), (23, .int .i64 ((x0).length : Int)), (24, .int .i64 (i456 : Int)), (30, .int .i64 ((y466).length : Int)), (31, .int .i64 (i673 : Int)), (34, v0), (35, .int .i64 ((x0).length : Int)), (36, .int .i64 (i730 : Int))]) (L' := [imm (TR.sl (TR.sl TR.int)) v0 x0, imm (TR.sl (TR.sl TR.int)) v1 x1, own 56 (TR.arr 2 TR.int) v473 l472]) (fun _ _ st => st) ?_
       refine GL.nilB ?_
       refine GL.region ?_
       refine RL.binI (v := .int .i64 ((i730 + 1 : Nat) : Int)) rfl rfl rfl rfl (binI_succ i730 (by omega)) ?_
       refine RL.mv rfl rfl rfl ?_
       refine RL.fin ?_
       cases h773
       exact fun a w st => lop_intro (i730 + 1, r742, x758) ⟨by show i730 + 1 + r742.length = (x0).length; simp only [List.length_cons] at h736; omega, h743, h734⟩ (by simp) (St.cut [0, 1, 2] ⟨rfl, rfl, rfl, rfl, rfl, rfl, rfl, rfl, rfl, rfl, rfl, rfl, rfl, rfl, trivial⟩ (by decide) rfl st)
      have h739 : ¬ i730 < (x0).length := by have := of_decide_eq_false b738; omega
      obtain rfl : r731 = [] := by rw [← h737]; exact List.drop_of_length_le (by omega)
      replace h735 : some (Fl.nx _) = some y723 := h735
      cases h735
      exact GL.exit (fun a w st => mid_intro x687 h726 (St.cut [0, 1, 2] ⟨rfl, rfl, rfl, rfl, rfl, rfl, rfl, rfl, rfl, rfl, rfl, trivial⟩ (by decide) rfl st))
     rintro x687 h774
     have h775 := h727 _ h774
     try dsimp only at h775
     refine GL.weak (env' := [(0, v0), (1, v1), (7, v473), (8, .int .i64 (i456 : Int)), (10, .int .i64 (i673 : Int)), (11, .bool x687), (22, v0), (23, .int .i64 ((x0).length : Int)), (24, .int .i64 (i456 : Int)), (30, .int .i64 ((y466).length : Int)), (31, .int .i64 (i673 : Int))]) (L' := [imm (TR.sl (TR.sl TR.int)) v0 x0, imm (TR.sl (TR.sl TR.int)) v1 x1, own 56 (TR.arr 2 TR.int) v473 l472]) (fun _ _ st => st) ?_
     refine GL.seq ?_
     refine GL.seq ?_
     refine GL.region ?_
     refine RL.mv rfl rfl rfl ?_
     refine RL.mv rfl rfl rfl ?_
     obtain ⟨y779, e780, h775⟩ := bind_some h775
     refine RL.idxS (sz := 1) 1 Try.underlying37 Try_ln24 rfl rfl rfl rfl rfl SlOf.imm (idx_some e780).1 (idx_some e780).2.1 ?_
     refine RL.ldS (i := i456) (r := (TR.sl TR.int)) (e' := y779) 1 Try_ln24 rfl rfl rfl rfl SlOf.imm (idx_some e780).2.2 Part.self ?_
     intro v781
     refine RL.lenS 3 Try.underlying24 rfl rfl rfl rfl SlOf.imm ?_
     refine RL.mv rfl rfl rfl ?_
     refine RL.finG ?_
     refine GL.open_ 3 rfl (fun S h => len_imm S h) (fun n815 => ?_)
     obtain ⟨y816, K817, h818, h819, h820, h821, h822⟩ := bindF_K h775
     refine GL.join (ι := Bool) (fun (p : Bool) => [(0, v0), (1, v1), (7, v473), (8, .int .i64 (i456 : Int)), (10, .int .i64 (i673 : Int)), (11, .bool p), (22, v0), (23, .int .i64 ((x0).length : Int)), (24, .int .i64 (i456 : Int)), (30, .int .i64 ((y466).length : Int)), (31, .int .i64 (i673 : Int))]) (fun (p : Bool) => [imm (TR.sl (TR.sl TR.int)) v0 x0, imm (TR.sl (TR.sl TR.int)) v1 x1, own 56 (TR.arr 2 TR.int) v473 l472]) (fun (p : Bool) => K817 (.nx p)) ?_ ?_
     ·refine GL.block ?_
      refine GL.loop (ι := Nat × (List Int) × Bool) (fun (p : Nat × (List Int) × Bool) => [(0, v0), (1, v1), (7, v473), (8, .int .i64 (i456 : Int)), (10, .int .i64 (i673 : Int)), (11, .bool p.2.2), (22, v0), (23, .int .i64 ((x0).length : Int)), (24, .int .i64 (i456 : Int)), (30, .int .i64 ((y466).length : Int)), (31, .int .i64 (i673 : Int)), (59, v781), (60, .int .i64 ((y779).length : Int)), (61, .int .i64 (p.1 : Int))]) (fun (p : Nat × (List Int) × Bool) => [imm (TR.sl (TR.sl TR.int)) v0 x0, imm (TR.sl (TR.sl TR.int)) v1 x1, own 56 (TR.arr 2 TR.int) v473 l472, imm (TR.sl TR.int) v781 y779]) (fun (p : Nat × (List Int) × Bool) => p.1 + p.2.1.length = (y779).length ∧ List.drop p.1 y779 = p.2.1 ∧ rangeL (equil_Rest_b4 x1 i456 i673) p.2.1 p.1 p.2.2 = some y816) (fun (p : Nat × (List Int) × Bool) => p.2.1.length) (0, y779, x687) ⟨by simp, by simp, h818⟩ (fun a w st => St.cut [0, 1, 2, 3] ⟨rfl, rfl, rfl, rfl, rfl, rfl, rfl, rfl, rfl, rfl, rfl, rfl, rfl, rfl, trivial⟩ (by decide) rfl st) ?_
      rintro ⟨i823, r824, x782⟩ ⟨h829, h830, h828⟩
      try dsimp only at h829 h830 h828
      refine GL.weak (env' := [(0, v0), (1, v1), (7, v473), (8, .int .i64 (i456 : Int)), (10, .int .i64 (i673 : Int)), (11, .bool x782), (22, v0), (23, .int .i64 ((x0).length : Int)), (24, .int .i64 (i456 : Int)), (30, .int .i64 ((y466).length : Int)), (31, .int .i64 (i673 : Int)), (59, v781), (60, .int .i64 ((y779).length : Int)), (61, .int .i64 (i823 : Int))]) (L' := [imm (TR.sl (TR.sl TR.int)) v0 x0, imm (TR.sl (TR.sl TR.int)) v1 x1, own 56 (TR.arr 2 TR.int) v473 l472, imm (TR.sl TR.int) v781 y779]) (fun _ _ st => st) ?_
      refine GL.seq ?_
      refine GL.region ?_
      refine RL.binI (v := .bool (decide ((i823 : Int) < ((y779).length : Int)))) rfl rfl rfl rfl rfl ?_
      refine RL.finG ?_
      refine GL.seq ?_
      refine GL.cond rfl (fun b831 => ?_) (fun b831 => ?_)
      ·have h832 : i823 < (y779).length := by have := of_decide_eq_true b831; omega
       obtain ⟨y833, r835, hr, e834, h836⟩ := drop_cons h830 rfl h832
       subst hr
       obtain ⟨z825, h826, h827⟩ := rangeL_some h828
       unfold equil_Rest_b4 at h826
       try dsimp only at h826
       refine GL.skip ?_
       refine GL.seq ?_
       refine GL.block ?_
       refine GL.seq ?_
       refine GL.region ?_
       refine RL.idxS (sz := 1) 3 Try.underlying24 Try_ln3 rfl rfl rfl rfl rfl SlOf.imm (by omega) (by omega) ?_
       refine RL.ldSx (i := i823) (e' := y833) 3 Ex.ik Try_ln3 rfl rfl rfl rfl SlOf.imm e834 Part.self ?_
       refine RL.asg rfl rfl rfl ?_
       refine RL.finG ?_
       obtain ⟨y850, K851, h852, h853, h854, h855, h856⟩ := bindF_K h826
       refine GL.join (ι := Bool) (fun (p : Bool) => [(0, v0), (1, v1), (7, v473), (8, .int .i64 (i456 : Int)), (10, .int .i64 (i673 : Int)), (11, .bool p), (22, v0), (23, .int .i64 ((x0).length : Int)), (24, .int .i64 (i456 : Int)), (30, .int .i64 ((y466).length : Int)), (31, .int .i64 (i673 : Int)), (59, v781), (60, .int .i64 ((y779).length : Int)), (61, .int .i64 (i823 : Int))]) (fun (p : Bool) => [imm (TR.sl (TR.sl TR.int)) v0 x0, imm (TR.sl (TR.sl TR.int)) v1 x1, own 56 (TR.arr 2 TR.int) v473 l472, imm (TR.sl TR.int) v781 y779]) (fun (p : Bool) => K851 (.nx p)) ?_ ?_
       ·skip
        refine GL.region ?_
        refine RL.mv rfl rfl rfl ?_
        refine RL.mv rfl rfl rfl ?_
        refine RL.split (t := 66) rfl (fun b857 => ?_) (fun b857 => ?_)
        ·replace h852 := ite_t b857 h852
         refine RL.mv rfl rfl rfl ?_
         refine RL.mv rfl rfl rfl ?_
         refine RL.mv rfl rfl rfl ?_
         obtain ⟨y858, e859, h852⟩ := bind_some h852
         refine RL.idxS (sz := 1) 1 Try.underlying37 Try_ln24 rfl rfl rfl rfl rfl SlOf.imm (idx_some e859).1 (idx_some e859).2.1 ?_
         refine RL.ldS (i := i456) (r := (TR.sl TR.int)) (e' := y858) 1 Try_ln24 rfl rfl rfl rfl SlOf.imm (idx_some e859).2.2 Part.self ?_
         intro v860
         refine RL.mv rfl rfl rfl ?_
         obtain ⟨y861, e862, h852⟩ := bind_some h852
         refine RL.idxS (sz := 1) 4 Try.underlying24 Try_ln3 rfl rfl rfl rfl rfl SlOf.imm (idx_some e862).1 (idx_some e862).2.1 ?_
         refine RL.ldSx (i := i673) (e' := y861) 4 Ex.ik Try_ln3 rfl rfl rfl rfl SlOf.imm (idx_some e862).2.2 Part.self ?_
         refine RL.binI (v := .bool (decide (y833 ≤ y861))) rfl rfl rfl rfl rfl ?_
         refine RL.pickT rfl rfl rfl rfl ?_
         refine RL.asg rfl rfl rfl ?_
         refine RL.fin ?_
         cases h852
         exact fun a w st => mid_intro (decide (y833 ≤ y861)) h853 (St.cut [0, 1, 2, 3] ⟨rfl, rfl, rfl, rfl, rfl, rfl, rfl, rfl, rfl, rfl, rfl, rfl, rfl, rfl, trivial⟩ (by decide) rfl st)
        replace h852 := ite_f b857 h852
        refine RL.skip rfl rfl ?_
        refine RL.skip rfl rfl ?_
        refine RL.skip rfl rfl ?_
        refine RL.skip rfl rfl ?_
        refine RL.skip rfl rfl ?_
        refine RL.skip rfl rfl ?_
        refine RL.skip rfl rfl ?_
        refine RL.skip rfl rfl ?_
        refine RL.skip rfl rfl ?_
        refine RL.pickF rfl rfl rfl rfl ?_
        refine RL.asg rfl rfl rfl ?_
        refine RL.fin ?_
        cases h852
        exact fun a w st => mid_intro false h853 (St.cut [0, 1, 2, 3] ⟨rfl, rfl, rfl, rfl, rfl, rfl, rfl, rfl, rfl, rfl, rfl, rfl, rfl, rfl, trivial⟩ (by decide) rfl st)
       rintro x849 h863
       have h864 := h854 _ h863
       try dsimp only at h864
       refine GL.weak (env' := [(0, v0), (1, v1), (7, v473), (8, .int .i64 (i456 : Int)), (10, .int .i64 (i673 : Int)), (11, .bool x849), (22, v0), (23, .int .i64 ((x0).length : Int)), (24, .int .i64 (i456 : Int)), (30, .int .i64 ((y466).length : Int)), (31, .int .i64 (i673 : Int)), (59, v781), (60, .int .i64 ((y779).length : Int)), (61, .int .i64 (i823 : Int))]) (L' := [imm (TR.sl (TR.sl TR.int)) v0 x0, imm (TR.sl (TR.sl TR.int)) v1 x1, own 56 (TR.arr 2 TR.int) v473 l472, imm (TR.sl TR.int) v781 y779]) (fun _ _ st => st) ?_
       refine GL.nilB ?_
       refine GL.region ?_
       refine RL.binI (v := .int .i64 ((i823 + 1 : Nat) : Int)) rfl rfl rfl rfl (binI_succ i823 (by omega)) ?_
       refine RL.mv rfl rfl rfl ?_
       refine RL.fin ?_
       cases h864
       exact fun a w st => lop_intro (i823 + 1, r835, x849) ⟨by show i823 + 1 + r835.length = (y779).length; simp only [List.length_cons] at h829; omega, h836, h827⟩ (by simp) (St.cut [0, 1, 2, 3] ⟨rfl, rfl, rfl, rfl, rfl, rfl, rfl, rfl, rfl, rfl, rfl, rfl, rfl, rfl, trivial⟩ (by decide) rfl st)
      have h832 : ¬ i823 < (y779).length := by have := of_decide_eq_false b831; omega
      obtain rfl : r824 = [] := by rw [← h830]; exact List.drop_of_length_le (by omega)
      replace h828 : some (Fl.nx _) = some y816 := h828
      cases h828
      exact GL.exit (fun a w st => mid_intro x782 h819 (St.cut [0, 1, 2] ⟨rfl, rfl, rfl, rfl, rfl, rfl, rfl, rfl, rfl, rfl, rfl, trivial⟩ (by decide) rfl st))
     rintro x782 h865
     have h866 := h820 _ h865
     try dsimp only at h866
     refine GL.weak (env' := [(0, v0), (1, v1), (7, v473), (8, .int .i64 (i456 : Int)), (10, .int .i64 (i673 : Int)), (11, .bool x782), (22, v0), (23, .int .i64 ((x0).length : Int)), (24, .int .i64 (i456 : Int)), (30, .int .i64 ((y466).length : Int)), (31, .int .i64 (i673 : Int))]) (L' := [imm (TR.sl (TR.sl TR.int)) v0 x0, imm (TR.sl (TR.sl TR.int)) v1 x1, own 56 (TR.arr 2 TR.int) v473 l472]) (fun _ _ st => st) ?_
     refine GL.seq ?_
     refine GL.region ?_
     refine RL.mv rfl rfl rfl ?_
     refine RL.finG ?_
     refine GL.cond rfl (fun b867 => ?_) (fun b867 => ?_)
     ·replace h866 := ite_t b867 h866
      refine GL.region ?_
      refine RL.mv rfl rfl rfl ?_
      refine RL.mv rfl rfl rfl ?_
      refine RL.mv rfl rfl rfl ?_
      refine RL.bldA (t := (TR.arr 2 TR.int)) (d0 := ([(i456 : Int), (i673 : Int)] : (List Int))) (pv := [(0, .int .i64 (i456 : Int)), (1, .int .i64 (i673 : Int))]) rfl Try_bld56 (by decide) rfl rfl rfl ⟨⟨_, _, TR.int, (i456 : Int), rfl, rfl, VR.int⟩, ⟨⟨_, _, TR.int, (i673 : Int), rfl, rfl, VR.int⟩, trivial⟩⟩ (fun S f hi => by
        obtain ⟨c0, e0, r0⟩ := cells_vrep (t := TR.int) (u := .int .i64 (i456 : Int)) (e := (i456 : Int)) (VR.int S f hi)
        obtain ⟨c1, e1, r1⟩ := cells_vrep (t := TR.int) (u := .int .i64 (i673 : Int)) (e := (i673 : Int)) (VR.int S f hi)
        show TR.rep (TR.arr 2 TR.int) S (List.flatten [(.int .i64 (i456 : Int) : Value).cells.toList, (.int .i64 (i673 : Int) : Value).cells.toList]) _
        simp only [e0, e1,  List.flatten_cons, List.flatten_nil, List.append_nil]
        exact ⟨rfl, ⟨_, _, rfl, r0, ⟨_, [], (List.append_nil _).symm, r1, rfl⟩⟩⟩) ?_
      intro v873
      refine RL.bS (t := (TR.arr 2 TR.int)) (vs := [v873]) ([([(i456 : Int), (i673 : Int)] : (List Int))] : (List (List Int))) Try.underlying51 Try_lo56 rfl rfl rfl rfl ⟨(VR.item 3 rfl), trivial⟩ rfl (by decide) ?_
      intro v874
      refine RL.reL (L' := [imm (TR.sl (TR.sl TR.int)) v0 x0, imm (TR.sl (TR.sl TR.int)) v1 x1, own 56 (TR.arr 2 TR.int) v473 l472, imm (TR.arr 2 TR.int) v873 ([(i456 : Int), (i673 : Int)] : (List Int)), own 56 (TR.arr 2 TR.int) v874 ([([(i456 : Int), (i673 : Int)] : (List Int))] : (List (List Int)))]) rfl ?_
      obtain ⟨y875, e876, h866⟩ := bind_some h866
      replace e876 := chk_some e876
      refine RL.app 2 4 Try.underlying51 Try_lo56 rfl rfl rfl rfl rfl rfl rfl SlOf.own e876 ?_
      intro v877
      refine RL.asg rfl rfl rfl ?_
      refine RL.finG ?_
      refine GL.nilB ?_
      refine GL.region ?_
      refine RL.binI (v := .int .i64 ((i673 + 1 : Nat) : Int)) rfl rfl rfl rfl (binI_succ i673 (by omega)) ?_
      refine RL.mv rfl rfl rfl ?_
      refine RL.fin ?_
      cases h866
      exact fun a w st => lop_intro (i673 + 1, r685, (l472 ++ ([([(i456 : Int), (i673 : Int)] : (List Int))] : (List (List Int)))), v877) ⟨by show i673 + 1 + r685.length = (y466).length; simp only [List.length_cons] at h679; omega, h686, h677⟩ (by simp) (St.cut [0, 1, 2] ⟨rfl, rfl, rfl, rfl, rfl, rfl, rfl, rfl, rfl, trivial⟩ (by decide) rfl st)
     replace h866 := ite_f b867 h866
     refine GL.skip ?_
     refine GL.nilB ?_
     refine GL.region ?_
     refine RL.binI (v := .int .i64 ((i673 + 1 : Nat) : Int)) rfl rfl rfl rfl (binI_succ i673 (by omega)) ?_
     refine RL.mv rfl rfl rfl ?_
     refine RL.fin ?_
     cases h866
     exact fun a w st => lop_intro (i673 + 1, r685, l472, v473) ⟨by show i673 + 1 + r685.length = (y466).length; simp only [List.length_cons] at h679; omega, h686, h677⟩ (by simp) (St.cut [0, 1, 2] ⟨rfl, rfl, rfl, rfl, rfl, rfl, rfl, rfl, rfl, trivial⟩ (by decide) rfl st)
    have h682 : ¬ i673 < (y466).length := by have := of_decide_eq_false b681; omega
    obtain rfl : r674 = [] := by rw [← h680]; exact List.drop_of_length_le (by omega)
    replace h678 : some (Fl.nx _) = some y666 := h678
    cases h678
    exact GL.exit (fun a w st => mid_intro (l472, v473) h669 (St.cut [0, 1, 2] ⟨rfl, rfl, rfl, rfl, rfl, rfl, trivial⟩ (by decide) rfl st))
   rintro ⟨l472, v473⟩ h878
   have h879 := h670 _ h878
   try dsimp only at h879
   refine GL.weak (env' := [(0, v0), (1, v1), (7, v473), (22, v0), (23, .int .i64 ((x0).length : Int)), (24, .int .i64 (i456 : Int))]) (L' := [imm (TR.sl (TR.sl TR.int)) v0 x0, imm (TR.sl (TR.sl TR.int)) v1 x1, own 56 (TR.arr 2 TR.int) v473 l472]) (fun _ _ st => st) ?_
   refine GL.nilB ?_
   refine GL.region ?_
   refine RL.binI (v := .int .i64 ((i456 + 1 : Nat) : Int)) rfl rfl rfl rfl (binI_succ i456 (by omega)) ?_
   refine RL.mv rfl rfl rfl ?_
   refine RL.fin ?_
   cases h879
   exact fun a w st => lop_intro (i456 + 1, r468, l472, v473) ⟨by show i456 + 1 + r468.length = (x0).length; simp only [List.length_cons] at h462; omega, h469, h460⟩ (by simp) (St.cut [0, 1, 2] ⟨rfl, rfl, rfl, rfl, rfl, rfl, trivial⟩ (by decide) rfl st)
  have h465 : ¬ i456 < (x0).length := by have := of_decide_eq_false b464; omega
  obtain rfl : r457 = [] := by rw [← h463]; exact List.drop_of_length_le (by omega)
  replace h461 : some (Fl.nx _) = some y449 := h461
  cases h461
  exact GL.exit (fun a w st => mid_intro (l8, v9) h452 (St.cut [2] ⟨rfl, trivial⟩ (by decide) rfl st))
 rintro ⟨l8, v9⟩ h880
 have h881 := h453 _ h880
 try dsimp only at h881
 refine GL.weak (env' := [(7, v9)]) (L' := [own 56 (TR.arr 2 TR.int) v9 l8]) (fun _ _ st => st) ?_
 refine GL.seq ?_
 refine GL.region ?_
 refine RL.mv rfl rfl rfl ?_
 refine RL.asg rfl rfl rfl ?_
 refine RL.asg rfl rfl rfl ?_
 refine RL.finG ?_
 have h881 := Option.some.inj h881
 subst h881
 exact GL.ret (Gx.ret (v := .tuple #[v9, .int .i64 (0 : Int)]) (res2 rfl rfl rfl) (fun a w st => (st.pick [0] (by decide) rfl).toPost v9))

set_option maxHeartbeats 4000000 in
theorem equil_turned_c (S : Hp) (w : World) (hS : S.sub w) (v0 : Value) (x0 : (List (List Int))) (k0 : ((TR.sl (TR.sl TR.int))).vrep S v0 x0) (res : (List (List Int))) (hm : equil_turned_m x0 = some res) : Calls Try.prog 89 #[v0] w (Post w S (fun (o : Value) => o) (fun (o : Value) => [imm (TR.sl (TR.sl TR.int)) o res])) := by
 refine calls_enter 39 Try.func89 Try.ntmps89 rfl S false [(0, v0)] [imm (TR.sl (TR.sl TR.int)) v0 x0] rfl ⟨rfl, trivial⟩ hS ⟨k0, trivial⟩ ?_
 unfold equil_turned_m at hm
 refine GL.seq ?_
 refine GL.region ?_
 refine RL.asg rfl rfl rfl ?_
 refine RL.finG ?_
 refine GL.seq ?_
 refine GL.region ?_
 refine RL.mv rfl rfl rfl ?_
 obtain ⟨y8, e9, hm⟩ := bind_some hm
 refine RL.idxS (sz := 1) 0 Try.underlying37 Try_ln24 rfl rfl rfl rfl rfl SlOf.imm (idx_some e9).1 (idx_some e9).2.1 ?_
 refine RL.ldS (i := ((0 : Int)).toNat) (r := (TR.sl TR.int)) (e' := y8) 0 Try_ln24 rfl rfl rfl rfl SlOf.imm (idx_some e9).2.2 Part.self ?_
 intro v10
 refine RL.lenS 1 Try.underlying24 rfl rfl rfl rfl SlOf.imm ?_
 obtain ⟨y11, e12, hm⟩ := bind_some hm
 replace e12 := chk_some e12
 refine RL.mkS (t := TR.raw) (z := .slice none 0 0) Try.underlying37 Try_lo24 (fun S => ⟨rfl, rfl⟩) rfl rfl rfl rfl e12.1 e12.2 ?_
 intro v13
 refine RL.weak (fun a w st => st.toRows 3 TR.int 2 rfl) ?_
 refine RL.reL (L' := [imm (TR.sl (TR.sl TR.int)) v0 x0, imm (TR.sl TR.int) v10 y8, own2 24 3 TR.int v13 (List.replicate (((y8).length : Int)).toNat (Value.slice none 0 0)) (List.replicate (((y8).length : Int)).toNat ([] : (List Int)))]) rfl ?_
 refine RL.asg rfl rfl rfl ?_
 refine RL.finG ?_
 refine GL.seq ?_
 refine GL.seq ?_
 refine GL.region ?_
 refine RL.mv rfl rfl rfl ?_
 refine RL.lenR 2 Try.underlying37 rfl rfl rfl rfl ?_
 refine RL.mv rfl rfl rfl ?_
 refine RL.finG ?_
 refine GL.lenR 2 rfl (fun n312 => ?_)
 obtain ⟨y313, K314, h315, h316, h317, h318, h319⟩ := bindR_K hm
 refine GL.join (ι := (List (List Int)) × (List Value)) (fun (p : (List (List Int)) × (List Value)) => [(3, v13)]) (fun (p : (List (List Int)) × (List Value)) => [own2 24 3 TR.int v13 p.2 p.1]) (fun (p : (List (List Int)) × (List Value)) => K314 (.nx p.1)) ?_ ?_
 ·refine GL.block ?_
  refine GL.loop (ι := Nat × Nat × (List (List Int)) × (List Value)) (fun (p : Nat × Nat × (List (List Int)) × (List Value)) => [(0, v0), (3, v13), (13, .int .i64 (((List.replicate (((y8).length : Int)).toNat ([] : (List Int)))).length : Int)), (14, .int .i64 (p.1 : Int))]) (fun (p : Nat × Nat × (List (List Int)) × (List Value)) => [imm (TR.sl (TR.sl TR.int)) v0 x0, own2 24 3 TR.int v13 p.2.2.2 p.2.2.1]) (fun (p : Nat × Nat × (List (List Int)) × (List Value)) => p.1 + p.2.1 = ((List.replicate (((y8).length : Int)).toNat ([] : (List Int)))).length ∧ rangeN (equil_turned_b1 x0) p.2.1 p.1 p.2.2.1 = some y313) (fun (p : Nat × Nat × (List (List Int)) × (List Value)) => p.2.1) (0, ((List.replicate (((y8).length : Int)).toNat ([] : (List Int)))).length, (List.replicate (((y8).length : Int)).toNat ([] : (List Int))), (List.replicate (((y8).length : Int)).toNat (Value.slice none 0 0))) ⟨by simp, h315⟩ (fun a w st => St.cut [0, 2] ⟨rfl, rfl, rfl, rfl, trivial⟩ (by decide) rfl st) ?_
  rintro ⟨i320, r321, l162, V163⟩ ⟨h326, h325⟩
  try dsimp only at h326 h325
  refine GL.weak (env' := [(0, v0), (3, v13), (13, .int .i64 (((List.replicate (((y8).length : Int)).toNat ([] : (List Int)))).length : Int)), (14, .int .i64 (i320 : Int))]) (L' := [imm (TR.sl (TR.sl TR.int)) v0 x0, own2 24 3 TR.int v13 V163 l162]) (fun _ _ st => st) ?_
  refine GL.seq ?_
  refine GL.region ?_
  refine RL.binI (v := .bool (decide ((i320 : Int) < (((List.replicate (((y8).length : Int)).toNat ([] : (List Int)))).length : Int)))) rfl rfl rfl rfl rfl ?_
  refine RL.finG ?_
  refine GL.seq ?_
  refine GL.cond rfl (fun b328 => ?_) (fun b328 => ?_)
  ·have h329 : i320 < ((List.replicate (((y8).length : Int)).toNat ([] : (List Int)))).length := by have := of_decide_eq_true b328; omega
   obtain ⟨r330, hr⟩ : ∃ m, r321 = m + 1 := ⟨r321 - 1, by omega⟩
   subst hr
   obtain ⟨z322, h323, h324⟩ := rangeN_some h325
   unfold equil_turned_b1 at h323
   try dsimp only at h323
   refine GL.skip ?_
   refine GL.seq ?_
   refine GL.block ?_
   refine GL.seq ?_
   refine GL.region ?_
   refine RL.mv rfl rfl rfl ?_
   refine RL.asg rfl rfl rfl ?_
   refine RL.finG ?_
   refine GL.seq ?_
   refine GL.region ?_
   refine RL.mv rfl rfl rfl ?_
   refine RL.lenS 0 Try.underlying37 rfl rfl rfl rfl SlOf.imm ?_
   refine RL.mv rfl rfl rfl ?_
   refine RL.finG ?_
   refine GL.open_ 0 rfl (fun S h => len_imm S h) (fun n417 => ?_)
   obtain ⟨y418, K419, h420, h421, h422, h423, h424⟩ := bindF_K h323
   refine GL.join (ι := (List (List Int)) × (List Value)) (fun (p : (List (List Int)) × (List Value)) => [(0, v0), (3, v13), (13, .int .i64 (((List.replicate (((y8).length : Int)).toNat ([] : (List Int)))).length : Int)), (14, .int .i64 (i320 : Int))]) (fun (p : (List (List Int)) × (List Value)) => [imm (TR.sl (TR.sl TR.int)) v0 x0, own2 24 3 TR.int v13 p.2 p.1]) (fun (p : (List (List Int)) × (List Value)) => K419 (.nx p.1)) ?_ ?_
   ·refine GL.block ?_
    refine GL.loop (ι := Nat × (List (List Int)) × (List (List Int)) × (List Value)) (fun (p : Nat × (List (List Int)) × (List (List Int)) × (List Value)) => [(0, v0), (3, v13), (4, .int .i64 (i320 : Int)), (13, .int .i64 (((List.replicate (((y8).length : Int)).toNat ([] : (List Int)))).length : Int)), (14, .int .i64 (i320 : Int)), (17, v0), (18, .int .i64 ((x0).length : Int)), (19, .int .i64 (p.1 : Int))]) (fun (p : Nat × (List (List Int)) × (List (List Int)) × (List Value)) => [imm (TR.sl (TR.sl TR.int)) v0 x0, own2 24 3 TR.int v13 p.2.2.2 p.2.2.1]) (fun (p : Nat × (List (List Int)) × (List (List Int)) × (List Value)) => p.1 + p.2.1.length = (x0).length ∧ List.drop p.1 x0 = p.2.1 ∧ rangeL (equil_turned_b2 i320) p.2.1 p.1 p.2.2.1 = some y418) (fun (p : Nat × (List (List Int)) × (List (List Int)) × (List Value)) => p.2.1.length) (0, x0, l162, V163) ⟨by simp, by simp, h420⟩ (fun a w st => St.cut [0, 1] ⟨rfl, rfl, rfl, rfl, rfl, rfl, rfl, rfl, trivial⟩ (by decide) rfl st) ?_
    rintro ⟨i425, r426, l373, V374⟩ ⟨h431, h432, h430⟩
    try dsimp only at h431 h432 h430
    refine GL.weak (env' := [(0, v0), (3, v13), (4, .int .i64 (i320 : Int)), (13, .int .i64 (((List.replicate (((y8).length : Int)).toNat ([] : (List Int)))).length : Int)), (14, .int .i64 (i320 : Int)), (17, v0), (18, .int .i64 ((x0).length : Int)), (19, .int .i64 (i425 : Int))]) (L' := [imm (TR.sl (TR.sl TR.int)) v0 x0, own2 24 3 TR.int v13 V374 l373]) (fun _ _ st => st) ?_
    refine GL.seq ?_
    refine GL.region ?_
    refine RL.binI (v := .bool (decide ((i425 : Int) < ((x0).length : Int)))) rfl rfl rfl rfl rfl ?_
    refine RL.finG ?_
    refine GL.seq ?_
    refine GL.cond rfl (fun b433 => ?_) (fun b433 => ?_)
    ·have h434 : i425 < (x0).length := by have := of_decide_eq_true b433; omega
     obtain ⟨y435, r437, hr, e436, h438⟩ := drop_cons h432 rfl h434
     subst hr
     obtain ⟨z427, h428, h429⟩ := rangeL_some h430
     unfold equil_turned_b2 at h428
     try dsimp only at h428
     refine GL.skip ?_
     refine GL.seq ?_
     refine GL.block ?_
     refine GL.seq ?_
     refine GL.region ?_
     refine RL.idxS (sz := 1) 0 Try.underlying37 Try_ln24 rfl rfl rfl rfl rfl SlOf.imm (by omega) (by omega) ?_
     refine RL.ldS (i := i425) (r := (TR.sl TR.int)) (e' := y435) 0 Try_ln24 rfl rfl rfl rfl SlOf.imm e436 Part.self ?_
     intro v440
     refine RL.asg rfl rfl rfl ?_
     refine RL.finG ?_
     refine GL.regionA rfl rfl ?_
     refine RA.mv 0 rfl (by kernel_rfl) rfl rfl rfl ?_
     refine RA.mv 1 rfl (by kernel_rfl) rfl rfl rfl ?_
     refine RA.mv 2 rfl (by kernel_rfl) rfl rfl rfl ?_
     refine RA.mv 3 rfl (by kernel_rfl) rfl rfl rfl ?_
     obtain ⟨y459, e460, h428⟩ := bind_some h428
     refine RA.idxR 1 Try.underlying37 Try_ln24 4 rfl (by kernel_rfl) rfl rfl rfl rfl rfl (idx_some e460).1 (idx_some e460).2.1 ?_
     refine RA.mv 6 rfl (by kernel_rfl) rfl rfl rfl ?_
     refine RA.mv 7 rfl (by kernel_rfl) rfl rfl rfl ?_
     obtain ⟨y461, e462, h428⟩ := bind_some h428
     refine RA.idxS (sz := 1) 2 Try.underlying24 Try_ln3 8 rfl (by kernel_rfl) rfl rfl rfl rfl rfl SlOf.imm (idx_some e462).1 (idx_some e462).2.1 ?_
     refine RA.meet (ι := Value) (fun (p : Value) => [(0, v0), (3, v13), (4, .int .i64 (i320 : Int)), (13, .int .i64 (((List.replicate (((y8).length : Int)).toNat ([] : (List Int)))).length : Int)), (14, .int .i64 (i320 : Int)), (17, v0), (18, .int .i64 ((x0).length : Int)), (19, .int .i64 (i425 : Int)), (23, v13), (24, .int .i64 (i320 : Int)), (28, rowv V374 i320), (33, p)]) (fun (p : Value) => [imm (TR.sl (TR.sl TR.int)) v0 x0, own2 24 3 TR.int v13 V374 l373, own 3 TR.int p ([y461] : (List Int))]) 3 #[true, true, true, true, true, true, true, true, true, true, true, false, false, false] (fun h465 => ?_) ?_
     ·skip
      refine RA.meet (ι := Value) (fun (p : Value) => [(0, v0), (3, v13), (4, .int .i64 (i320 : Int)), (13, .int .i64 (((List.replicate (((y8).length : Int)).toNat ([] : (List Int)))).length : Int)), (14, .int .i64 (i320 : Int)), (17, v0), (18, .int .i64 ((x0).length : Int)), (19, .int .i64 (i425 : Int)), (23, v13), (24, .int .i64 (i320 : Int)), (27, adr v13 (i320 * 1)), (33, p)]) (fun (p : Value) => [imm (TR.sl (TR.sl TR.int)) v0 x0, own2 24 3 TR.int v13 V374 l373, own 3 TR.int p ([y461] : (List Int))]) 4 #[true, true, true, true, true, false, true, true, true, true, true, false, false, false] (fun h466 => ?_) ?_
      rotate_left
      ·rintro v464
       refine RA.weak (env' := [(0, v0), (3, v13), (4, .int .i64 (i320 : Int)), (13, .int .i64 (((List.replicate (((y8).length : Int)).toNat ([] : (List Int)))).length : Int)), (14, .int .i64 (i320 : Int)), (17, v0), (18, .int .i64 ((x0).length : Int)), (19, .int .i64 (i425 : Int)), (23, v13), (24, .int .i64 (i320 : Int)), (27, adr v13 (i320 * 1)), (33, v464)]) (L' := [imm (TR.sl (TR.sl TR.int)) v0 x0, own2 24 3 TR.int v13 V374 l373, own 3 TR.int v464 ([y461] : (List Int))]) (fun _ _ st => st) ?_
       refine RA.seq 5 rfl (by kernel_rfl) ?_
       refine RL.ldR (i := i320) (r := y459) 1 Try_ln24 rfl rfl rfl rfl (idx_some e460).2.2 ?_
       refine RL.fin ?_
       refine RA.next ?_
       refine RA.relist 3 #[true, true, true, true, true, true, true, true, true, true, true, false, false, false] rfl (by kernel_rfl) ?_
       exact fun a w st => h465 v464 a w (St.cut [0, 1, 2] ⟨rfl, rfl, rfl, rfl, rfl, rfl, rfl, rfl, rfl, rfl, rfl, rfl, trivial⟩ (by decide) rfl st)
      refine RA.meet (ι := Unit) (fun (p : Unit) => [(0, v0), (3, v13), (4, .int .i64 (i320 : Int)), (13, .int .i64 (((List.replicate (((y8).length : Int)).toNat ([] : (List Int)))).length : Int)), (14, .int .i64 (i320 : Int)), (17, v0), (18, .int .i64 ((x0).length : Int)), (19, .int .i64 (i425 : Int)), (23, v13), (24, .int .i64 (i320 : Int)), (28, rowv V374 i320), (32, .int .i64 y461)]) (fun (p : Unit) => [imm (TR.sl (TR.sl TR.int)) v0 x0, own2 24 3 TR.int v13 V374 l373]) 4 #[true, true, true, true, true, true, true, true, true, true, false, false, false, false] (fun h467 => ?_) ?_
      rotate_left
      ·rintro ⟨⟩
       refine RA.weak (env' := [(0, v0), (3, v13), (4, .int .i64 (i320 : Int)), (13, .int .i64 (((List.replicate (((y8).length : Int)).toNat ([] : (List Int)))).length : Int)), (14, .int .i64 (i320 : Int)), (17, v0), (18, .int .i64 ((x0).length : Int)), (19, .int .i64 (i425 : Int)), (23, v13), (24, .int .i64 (i320 : Int)), (28, rowv V374 i320), (32, .int .i64 y461)]) (L' := [imm (TR.sl (TR.sl TR.int)) v0 x0, own2 24 3 TR.int v13 V374 l373]) (fun _ _ st => st) ?_
       refine RA.seq 10 rfl (by kernel_rfl) ?_
       refine RL.bS (t := TR.int) (vs := [.int .i64 y461]) ([y461] : (List Int)) Try.underlying24 Try_lo3 rfl rfl rfl rfl ⟨VR.int, trivial⟩ rfl (by decide) ?_
       intro v471
       refine RL.fin ?_
       refine RA.next ?_
       refine RA.relist 3 #[true, true, true, true, true, true, true, true, true, true, true, false, false, false] rfl (by kernel_rfl) ?_
       exact fun a w st => h465 v471 a w (St.cut [0, 1, 2] ⟨rfl, rfl, rfl, rfl, rfl, rfl, rfl, rfl, rfl, rfl, rfl, rfl, trivial⟩ (by decide) rfl st)
      refine RA.meet (ι := Unit) (fun (p : Unit) => [(0, v0), (3, v13), (4, .int .i64 (i320 : Int)), (13, .int .i64 (((List.replicate (((y8).length : Int)).toNat ([] : (List Int)))).length : Int)), (14, .int .i64 (i320 : Int)), (17, v0), (18, .int .i64 ((x0).length : Int)), (19, .int .i64 (i425 : Int)), (23, v13), (24, .int .i64 (i320 : Int)), (28, rowv V374 i320), (31, adr v440 (i320 * 1))]) (fun (p : Unit) => [imm (TR.sl (TR.sl TR.int)) v0 x0, own2 24 3 TR.int v13 V374 l373, imm (TR.sl TR.int) v440 y435]) 5 #[true, true, true, true, true, true, true, true, true, false, false, false, false, false] (fun h468 => ?_) ?_
      rotate_left
      ·rintro ⟨⟩
       refine RA.weak (env' := [(0, v0), (3, v13), (4, .int .i64 (i320 : Int)), (13, .int .i64 (((List.replicate (((y8).length : Int)).toNat ([] : (List Int)))).length : Int)), (14, .int .i64 (i320 : Int)), (17, v0), (18, .int .i64 ((x0).length : Int)), (19, .int .i64 (i425 : Int)), (23, v13), (24, .int .i64 (i320 : Int)), (28, rowv V374 i320), (31, adr v440 (i320 * 1))]) (L' := [imm (TR.sl (TR.sl TR.int)) v0 x0, own2 24 3 TR.int v13 V374 l373, imm (TR.sl TR.int) v440 y435]) (fun _ _ st => st) ?_
       refine RA.seq 9 rfl (by kernel_rfl) ?_
       refine RL.ldSx (i := i320) (e' := y461) 2 Ex.ik Try_ln3 rfl rfl rfl rfl SlOf.imm (idx_some e462).2.2 Part.self ?_
       refine RL.fin ?_
       refine RA.next ?_
       refine RA.relist 4 #[true, true, true, true, true, true, true, true, true, true, false, false, false, false] rfl (by kernel_rfl) ?_
       exact fun a w st => h467 () a w (St.cut [0, 1] ⟨rfl, rfl, rfl, rfl, rfl, rfl, rfl, rfl, rfl, rfl, rfl, rfl, trivial⟩ (by decide) rfl st)
      refine RA.meet (ι := Unit) (fun (p : Unit) => [(0, v0), (3, v13), (4, .int .i64 (i320 : Int)), (13, .int .i64 (((List.replicate (((y8).length : Int)).toNat ([] : (List Int)))).length : Int)), (14, .int .i64 (i320 : Int)), (17, v0), (18, .int .i64 ((x0).length : Int)), (19, .int .i64 (i425 : Int)), (23, v13), (24, .int .i64 (i320 : Int)), (27, adr v13 (i320 * 1)), (32, .int .i64 y461)]) (fun (p : Unit) => [imm (TR.sl (TR.sl TR.int)) v0 x0, own2 24 3 TR.int v13 V374 l373]) 5 #[true, true, true, true, true, false, true, true, true, true, false, false, false, false] (fun h469 => ?_) ?_
      rotate_left
      ·rintro ⟨⟩
       refine RA.weak (env' := [(0, v0), (3, v13), (4, .int .i64 (i320 : Int)), (13, .int .i64 (((List.replicate (((y8).length : Int)).toNat ([] : (List Int)))).length : Int)), (14, .int .i64 (i320 : Int)), (17, v0), (18, .int .i64 ((x0).length : Int)), (19, .int .i64 (i425 : Int)), (23, v13), (24, .int .i64 (i320 : Int)), (27, adr v13 (i320 * 1)), (32, .int .i64 y461)]) (L' := [imm (TR.sl (TR.sl TR.int)) v0 x0, own2 24 3 TR.int v13 V374 l373]) (fun _ _ st => st) ?_
       refine RA.many [5, 10] (by kernel_rfl) ⟨⟨_, rfl, ?_⟩, ⟨_, rfl, ?_⟩, trivial⟩
       ·skip
        refine RL.ldR (i := i320) (r := y459) 1 Try_ln24 rfl rfl rfl rfl (idx_some e460).2.2 ?_
        refine RL.fin ?_
        refine RA.next ?_
        refine RA.relist 4 #[true, true, true, true, true, true, true, true, true, true, false, false, false, false] rfl (by kernel_rfl) ?_
        exact fun a w st => h467 () a w (St.cut [0, 1] ⟨rfl, rfl, rfl, rfl, rfl, rfl, rfl, rfl, rfl, rfl, rfl, rfl, trivial⟩ (by decide) rfl st)
       refine RL.bS (t := TR.int) (vs := [.int .i64 y461]) ([y461] : (List Int)) Try.underlying24 Try_lo3 rfl rfl rfl rfl ⟨VR.int, trivial⟩ rfl (by decide) ?_
       intro v470
       refine RL.fin ?_
       refine RA.next ?_
       refine RA.relist 4 #[true, true, true, true, true, false, true, true, true, true, true, false, false, false] rfl (by kernel_rfl) ?_
       exact fun a w st => h466 v470 a w (St.cut [0, 1, 2] ⟨rfl, rfl, rfl, rfl, rfl, rfl, rfl, rfl, rfl, rfl, rfl, rfl, trivial⟩ (by decide) rfl st)
      refine RA.many [5, 9] (by kernel_rfl) ⟨⟨_, rfl, ?_⟩, ⟨_, rfl, ?_⟩, trivial⟩
      ·skip
       refine RL.ldR (i := i320) (r := y459) 1 Try_ln24 rfl rfl rfl rfl (idx_some e460).2.2 ?_
       refine RL.fin ?_
       refine RA.next ?_
       refine RA.relist 5 #[true, true, true, true, true, true, true, true, true, false, false, false, false, false] rfl (by kernel_rfl) ?_
       exact fun a w st => h468 () a w (St.cut [0, 1, 2] ⟨rfl, rfl, rfl, rfl, rfl, rfl, rfl, rfl, rfl, rfl, rfl, rfl, trivial⟩ (by decide) rfl st)
      refine RL.ldSx (i := i320) (e' := y461) 2 Ex.ik Try_ln3 rfl rfl rfl rfl SlOf.imm (idx_some e462).2.2 Part.self ?_
      refine RL.fin ?_
      refine RA.next ?_
      refine RA.relist 5 #[true, true, true, true, true, false, true, true, true, true, false, false, false, false] rfl (by kernel_rfl) ?_
      exact fun a w st => h469 () a w (St.cut [0, 1] ⟨rfl, rfl, rfl, rfl, rfl, rfl, rfl, rfl, rfl, rfl, rfl, rfl, trivial⟩ (by decide) rfl st)
     rintro v464
     refine RA.weak (env' := [(0, v0), (3, v13), (4, .int .i64 (i320 : Int)), (13, .int .i64 (((List.replicate (((y8).length : Int)).toNat ([] : (List Int)))).length : Int)), (14, .int .i64 (i320 : Int)), (17, v0), (18, .int .i64 ((x0).length : Int)), (19, .int .i64 (i425 : Int)), (23, v13), (24, .int .i64 (i320 : Int)), (28, rowv V374 i320), (33, v464)]) (L' := [imm (TR.sl (TR.sl TR.int)) v0 x0, own2 24 3 TR.int v13 V374 l373, own 3 TR.int v464 ([y461] : (List Int))]) (fun _ _ st => st) ?_
     refine RA.seq 11 rfl (by kernel_rfl) ?_
     refine RL.weak (fun a w st => st.takeRow 1 rfl (idx_some e460).2.2) ?_
     obtain ⟨y472, e473, h428⟩ := bind_some h428
     replace e473 := chk_some e473
     refine RL.app 3 2 Try.underlying24 Try_lo3 rfl rfl rfl rfl rfl rfl rfl SlOf.own e473 ?_
     intro v474
     refine RL.fin ?_
     refine RA.next ?_
     refine RA.seq 12 rfl (by kernel_rfl) ?_
     obtain ⟨y475, e476, h428⟩ := bind_some h428
     refine RL.idxRX 1 Try.underlying37 Try_ln24 rfl rfl rfl rfl rfl (idx_some e476).1 (idx_some e476).2.1 ?_
     refine RL.fin ?_
     refine RA.next ?_
     refine RA.seq 13 rfl (by kernel_rfl) ?_
     refine RL.stSpX (i := i320) (r0 := y475) 1 3 (by decide) Try_ln24 rfl rfl rfl rfl rfl rfl (idx_some e476).2.2 ?_
     refine RL.fin ?_
     refine RA.next ?_
     refine RA.doneG (by kernel_rfl) ?_
     refine GL.weak (env' := [(0, v0), (3, v13), (4, .int .i64 (i320 : Int)), (13, .int .i64 (((List.replicate (((y8).length : Int)).toNat ([] : (List Int)))).length : Int)), (14, .int .i64 (i320 : Int)), (17, v0), (18, .int .i64 ((x0).length : Int)), (19, .int .i64 (i425 : Int))]) (L' := [imm (TR.sl (TR.sl TR.int)) v0 x0, own2 24 3 TR.int v13 (List.set V374 i320 v474) (List.set l373 i320 (y459 ++ ([y461] : (List Int))))]) (fun a w st => St.cut [0, 1] ⟨rfl, rfl, rfl, rfl, rfl, rfl, rfl, rfl, trivial⟩ (by decide) rfl st) ?_
     refine GL.nilB ?_
     refine GL.region ?_
     refine RL.binI (v := .int .i64 ((i425 + 1 : Nat) : Int)) rfl rfl rfl rfl (binI_succ i425 (by omega)) ?_
     refine RL.mv rfl rfl rfl ?_
     refine RL.fin ?_
     cases h428
     exact fun a w st => lop_intro (i425 + 1, r437, (List.set l373 i320 (y459 ++ ([y461] : (List Int)))), (List.set V374 i320 v474)) ⟨by show i425 + 1 + r437.length = (x0).length; simp only [List.length_cons] at h431; omega, h438, h429⟩ (by simp) (St.cut [0, 1] ⟨rfl, rfl, rfl, rfl, rfl, rfl, rfl, rfl, trivial⟩ (by decide) rfl st)
    have h434 : ¬ i425 < (x0).length := by have := of_decide_eq_false b433; omega
    obtain rfl : r426 = [] := by rw [← h432]; exact List.drop_of_length_le (by omega)
    replace h430 : some (Fl.nx _) = some y418 := h430
    cases h430
    exact GL.exit (fun a w st => mid_intro (l373, V374) h421 (St.cut [0, 1] ⟨rfl, rfl, rfl, rfl, trivial⟩ (by decide) rfl st))
   rintro ⟨l373, V374⟩ h477
   have h478 := h422 _ h477
   try dsimp only at h478
   refine GL.weak (env' := [(0, v0), (3, v13), (13, .int .i64 (((List.replicate (((y8).length : Int)).toNat ([] : (List Int)))).length : Int)), (14, .int .i64 (i320 : Int))]) (L' := [imm (TR.sl (TR.sl TR.int)) v0 x0, own2 24 3 TR.int v13 V374 l373]) (fun _ _ st => st) ?_
   refine GL.nilB ?_
   refine GL.region ?_
   refine RL.binI (v := .int .i64 ((i320 + 1 : Nat) : Int)) rfl rfl rfl rfl (binI_succ i320 (by omega)) ?_
   refine RL.mv rfl rfl rfl ?_
   refine RL.fin ?_
   cases h478
   exact fun a w st => lop_intro (i320 + 1, r330, l373, V374) ⟨by show i320 + 1 + r330 = ((List.replicate (((y8).length : Int)).toNat ([] : (List Int)))).length; omega, h324⟩ (by simp) (St.cut [0, 1] ⟨rfl, rfl, rfl, rfl, trivial⟩ (by decide) rfl st)
  have h329 : ¬ i320 < ((List.replicate (((y8).length : Int)).toNat ([] : (List Int)))).length := by have := of_decide_eq_false b328; omega
  obtain rfl : r321 = 0 := by omega
  replace h325 : some (Fl.nx _) = some y313 := h325
  cases h325
  exact GL.exit (fun a w st => mid_intro (l162, V163) h316 (St.cut [1] ⟨rfl, trivial⟩ (by decide) rfl st))
 rintro ⟨l162, V163⟩ h479
 have h480 := h317 _ h479
 try dsimp only at h480
 refine GL.weak (env' := [(3, v13)]) (L' := [own2 24 3 TR.int v13 V163 l162]) (fun _ _ st => st) ?_
 refine GL.seq ?_
 refine GL.region ?_
 refine RL.mv rfl rfl rfl ?_
 refine RL.asg rfl rfl rfl ?_
 refine RL.finG ?_
 refine GL.weak (fun a w st => st.freeze2 0 rfl) ?_
 have h480 := Option.some.inj h480
 subst h480
 exact GL.ret (Gx.ret (v := v13) (res1 rfl rfl) (fun a w st => (st.pick [0] (by decide) rfl).toPost v13))

set_option maxHeartbeats 4000000 in
theorem equil_worse_c (S : Hp) (w : World) (hS : S.sub w) (v0 : Value) (x0 : (List (List Int))) (k0 : ((TR.sl (TR.sl TR.int))).vrep S v0 x0) (x1 : Int) (x2 : Int) (v3 : Value) (x3 : (List Bool)) (k3 : ((TR.arr 6 TR.bool)).vrep S v3 x3) (res : Bool) (hm : equil_worse_m x0 x1 x2 x3 = some res) : Calls Try.prog 90 #[v0, .int .i64 x1, .int .i64 x2, v3] w (PostV w (.bool res)) := by
 refine calls_enter 38 Try.func90 Try.ntmps90 rfl S false [(0, v0), (1, .int .i64 x1), (2, .int .i64 x2), (3, v3)] [imm (TR.sl (TR.sl TR.int)) v0 x0, imm (TR.arr 6 TR.bool) v3 x3] rfl ⟨rfl, ⟨rfl, ⟨rfl, ⟨rfl, trivial⟩⟩⟩⟩ hS ⟨k0, ⟨k3, trivial⟩⟩ ?_
 unfold equil_worse_m at hm
 refine GL.seq ?_
 refine GL.region ?_
 refine RL.box (t := (TR.arr 6 TR.bool)) (e := x3) rfl rfl rfl rfl (VR.item 1 rfl) ?_
 intro v6
 refine RL.asg rfl rfl rfl ?_
 refine RL.finG ?_
 refine GL.seq ?_
 refine GL.seq ?_
 refine GL.region ?_
 refine RL.mv rfl rfl rfl ?_
 obtain ⟨y10, e11, hm⟩ := bind_some hm
 refine RL.idxS (sz := 1) 0 Try.underlying37 Try_ln24 rfl rfl rfl rfl rfl SlOf.imm (idx_some e11).1 (idx_some e11).2.1 ?_
 refine RL.ldS (i := ((0 : Int)).toNat) (r := (TR.sl TR.int)) (e' := y10) 0 Try_ln24 rfl rfl rfl rfl SlOf.imm (idx_some e11).2.2 Part.self ?_
 intro v12
 refine RL.reL (L' := [imm (TR.sl (TR.sl TR.int)) v0 x0, imm (TR.arr 6 TR.bool) v3 x3, obox 112 (TR.arr 6 TR.bool) v6 x3, imm (TR.sl TR.int) v12 y10]) rfl ?_
 refine RL.lenS 3 Try.underlying24 rfl rfl rfl rfl SlOf.imm ?_
 refine RL.mv rfl rfl rfl ?_
 refine RL.finG ?_
 refine GL.open_ 3 rfl (fun S h => len_imm S h) (fun n63 => ?_)
 obtain ⟨y64, K65, h66, h67, h68, h69, h70⟩ := bindR_K hm
 refine GL.join (ι := Unit) (fun (p : Unit) => []) (fun (p : Unit) => []) (fun (p : Unit) => K65 (.nx ())) ?_ ?_
 ·refine GL.block ?_
  refine GL.loop (ι := Nat × (List Int)) (fun (p : Nat × (List Int)) => [(0, v0), (1, .int .i64 x1), (2, .int .i64 x2), (7, v6), (13, .int .i64 ((y10).length : Int)), (14, .int .i64 (p.1 : Int))]) (fun (p : Nat × (List Int)) => [imm (TR.sl (TR.sl TR.int)) v0 x0, obox 112 (TR.arr 6 TR.bool) v6 x3]) (fun (p : Nat × (List Int)) => p.1 + p.2.length = (y10).length ∧ List.drop p.1 y10 = p.2 ∧ rangeL (equil_worse_b1 x3 x0 x1 x2) p.2 p.1 () = some y64) (fun (p : Nat × (List Int)) => p.2.length) (0, y10) ⟨by simp, by simp, h66⟩ (fun a w st => St.cut [0, 2] ⟨rfl, rfl, rfl, rfl, rfl, rfl, trivial⟩ (by decide) rfl st) ?_
  rintro ⟨i71, r72⟩ ⟨h77, h78, h76⟩
  try dsimp only at h77 h78 h76
  refine GL.weak (env' := [(0, v0), (1, .int .i64 x1), (2, .int .i64 x2), (7, v6), (13, .int .i64 ((y10).length : Int)), (14, .int .i64 (i71 : Int))]) (L' := [imm (TR.sl (TR.sl TR.int)) v0 x0, obox 112 (TR.arr 6 TR.bool) v6 x3]) (fun _ _ st => st) ?_
  refine GL.seq ?_
  refine GL.region ?_
  refine RL.binI (v := .bool (decide ((i71 : Int) < ((y10).length : Int)))) rfl rfl rfl rfl rfl ?_
  refine RL.finG ?_
  refine GL.seq ?_
  refine GL.cond rfl (fun b79 => ?_) (fun b79 => ?_)
  ·have h80 : i71 < (y10).length := by have := of_decide_eq_true b79; omega
   obtain ⟨y81, r83, hr, e82, h84⟩ := drop_cons h78 rfl h80
   subst hr
   obtain ⟨z73, h74, h75⟩ := rangeL_some h76
   unfold equil_worse_b1 at h74
   try dsimp only at h74
   refine GL.skip ?_
   refine GL.seq ?_
   refine GL.block ?_
   refine GL.seq ?_
   refine GL.region ?_
   refine RL.mv rfl rfl rfl ?_
   refine RL.asg rfl rfl rfl ?_
   refine RL.finG ?_
   refine GL.seq ?_
   obtain ⟨y112, K113, h114, h115, h116, h117, h118⟩ := bindF_K h74
   refine GL.join (ι := Bool) (fun (p : Bool) => [(0, v0), (1, .int .i64 x1), (2, .int .i64 x2), (7, v6), (13, .int .i64 ((y10).length : Int)), (14, .int .i64 (i71 : Int)), (36, .bool p)]) (fun (p : Bool) => [imm (TR.sl (TR.sl TR.int)) v0 x0, obox 112 (TR.arr 6 TR.bool) v6 x3]) (fun (p : Bool) => K113 (.nx p)) ?_ ?_
   ·skip
    refine GL.regionQ rfl rfl (by kernel_rfl) ?_
    refine RL.mv rfl rfl rfl ?_
    obtain ⟨y119, e120, h114⟩ := bind_some h114
    refine RL.idxA0 (sz := 1) (t' := TR.bool) 1 Try.underlying112 Try_ln4 rfl rfl rfl PtOf.obox rfl rfl Part.self (idx_some e120).1 (idx_some e120).2.1 ?_
    refine RL.ldPx (off := (i71 * 1)) (e' := y119) 1 Ex.bool Try_ln4 rfl rfl (Or.inl rfl) rfl PtOf.obox (Part.arr (idx_some e120).2.2 Part.self) ?_
    refine RL.mv rfl rfl rfl ?_
    refine RL.split (t := 20) rfl (fun b121 => ?_) (fun b121 => ?_)
    ·replace h114 := ite_t b121 h114
     refine RL.mv rfl rfl rfl ?_
     refine RL.mv rfl rfl rfl ?_
     obtain ⟨y122, e123, h114⟩ := bind_some h114
     refine RL.idxS (sz := 1) 0 Try.underlying37 Try_ln24 rfl rfl rfl rfl rfl SlOf.imm (idx_some e123).1 (idx_some e123).2.1 ?_
     refine RL.ldS (i := (x1).toNat) (r := (TR.sl TR.int)) (e' := y122) 0 Try_ln24 rfl rfl rfl rfl SlOf.imm (idx_some e123).2.2 Part.self ?_
     intro v124
     refine RL.mv rfl rfl rfl ?_
     obtain ⟨y125, e126, h114⟩ := bind_some h114
     refine RL.idxS (sz := 1) 2 Try.underlying24 Try_ln3 rfl rfl rfl rfl rfl SlOf.imm (idx_some e126).1 (idx_some e126).2.1 ?_
     refine RL.ldSx (i := i71) (e' := y125) 2 Ex.ik Try_ln3 rfl rfl rfl rfl SlOf.imm (idx_some e126).2.2 Part.self ?_
     refine RL.mv rfl rfl rfl ?_
     refine RL.mv rfl rfl rfl ?_
     obtain ⟨y127, e128, h114⟩ := bind_some h114
     refine RL.idxS (sz := 1) 0 Try.underlying37 Try_ln24 rfl rfl rfl rfl rfl SlOf.imm (idx_some e128).1 (idx_some e128).2.1 ?_
     refine RL.ldS (i := (x2).toNat) (r := (TR.sl TR.int)) (e' := y127) 0 Try_ln24 rfl rfl rfl rfl SlOf.imm (idx_some e128).2.2 Part.self ?_
     intro v129
     refine RL.reL (L' := [imm (TR.sl (TR.sl TR.int)) v0 x0, obox 112 (TR.arr 6 TR.bool) v6 x3, imm (TR.sl TR.int) v124 y122, imm (TR.sl TR.int) v129 y127]) rfl ?_
     refine RL.mv rfl rfl rfl ?_
     obtain ⟨y130, e131, h114⟩ := bind_some h114
     refine RL.idxS (sz := 1) 3 Try.underlying24 Try_ln3 rfl rfl rfl rfl rfl SlOf.imm (idx_some e131).1 (idx_some e131).2.1 ?_
     refine RL.ldSx (i := i71) (e' := y130) 3 Ex.ik Try_ln3 rfl rfl rfl rfl SlOf.imm (idx_some e131).2.2 Part.self ?_
     refine RL.binI (v := .bool (decide (y125 ≥ y130))) rfl rfl rfl rfl rfl ?_
     refine RL.pickT rfl rfl rfl rfl ?_
     refine RL.finQ ?_
     cases h114
     exact fun a w st => mid_intro (decide (y125 ≥ y130)) h115 (St.cut [0, 1] ⟨rfl, rfl, rfl, rfl, rfl, rfl, rfl, trivial⟩ (by decide) rfl st)
    replace h114 := ite_f b121 h114
    refine RL.skip rfl rfl ?_
    refine RL.skip rfl rfl ?_
    refine RL.skip rfl rfl ?_
    refine RL.skip rfl rfl ?_
    refine RL.skip rfl rfl ?_
    refine RL.skip rfl rfl ?_
    refine RL.skip rfl rfl ?_
    refine RL.skip rfl rfl ?_
    refine RL.skip rfl rfl ?_
    refine RL.skip rfl rfl ?_
    refine RL.skip rfl rfl ?_
    refine RL.skip rfl rfl ?_
    refine RL.skip rfl rfl ?_
    refine RL.skip rfl rfl ?_
    refine RL.skip rfl rfl ?_
    refine RL.pickF rfl rfl rfl rfl ?_
    refine RL.finQ ?_
    cases h114
    exact fun a w st => mid_intro false h115 (St.cut [0, 1] ⟨rfl, rfl, rfl, rfl, rfl, rfl, rfl, trivial⟩ (by decide) rfl st)
   rintro x111 h132
   have h133 := h116 _ h132
   try dsimp only at h133
   refine GL.weak (env' := [(0, v0), (1, .int .i64 x1), (2, .int .i64 x2), (7, v6), (13, .int .i64 ((y10).length : Int)), (14, .int .i64 (i71 : Int)), (36, .bool x111)]) (L' := [imm (TR.sl (TR.sl TR.int)) v0 x0, obox 112 (TR.arr 6 TR.bool) v6 x3]) (fun _ _ st => st) ?_
   refine GL.cond rfl (fun b134 => ?_) (fun b134 => ?_)
   ·replace h133 := ite_t b134 h133
    refine GL.seq ?_
    refine GL.region ?_
    refine RL.asg rfl rfl rfl ?_
    refine RL.finG ?_
    cases h133
    replace h75 : some (Fl.rt _) = some y64 := h75
    cases h75
    have hh := h69 _ h67
    subst hh
    exact GL.ret (Gx.ret (v := .bool false) (res1 rfl rfl) (fun a w st => st.toPostV))
   replace h133 := ite_f b134 h133
   refine GL.skip ?_
   refine GL.nilB ?_
   refine GL.region ?_
   refine RL.binI (v := .int .i64 ((i71 + 1 : Nat) : Int)) rfl rfl rfl rfl (binI_succ i71 (by omega)) ?_
   refine RL.mv rfl rfl rfl ?_
   refine RL.fin ?_
   cases h133
   exact fun a w st => lop_intro (i71 + 1, r83) ⟨by show i71 + 1 + r83.length = (y10).length; simp only [List.length_cons] at h77; omega, h84, h75⟩ (by simp) (St.cut [0, 1] ⟨rfl, rfl, rfl, rfl, rfl, rfl, trivial⟩ (by decide) rfl st)
  have h80 : ¬ i71 < (y10).length := by have := of_decide_eq_false b79; omega
  obtain rfl : r72 = [] := by rw [← h78]; exact List.drop_of_length_le (by omega)
  replace h76 : some (Fl.nx _) = some y64 := h76
  cases h76
  exact GL.exit (fun a w st => mid_intro () h67 (St.cut [] trivial (by decide) rfl st))
 rintro ⟨⟩ h135
 have h136 := h68 _ h135
 try dsimp only at h136
 refine GL.weak (env' := []) (L' := []) (fun _ _ st => st) ?_
 refine GL.seq ?_
 refine GL.region ?_
 refine RL.asg rfl rfl rfl ?_
 refine RL.finG ?_
 have h136 := Option.some.inj h136
 subst h136
 exact GL.ret (Gx.ret (v := .bool true) (res1 rfl rfl) (fun a w st => st.toPostV))
end Go.Wk
