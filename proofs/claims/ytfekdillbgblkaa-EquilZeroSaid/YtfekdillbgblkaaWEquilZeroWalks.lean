/- Each function comes to what its model says; printed by a program of this repository. -/
import Derived.Test.YtfekdillbgblkaaProg
import Derived.Test.YtfekdillbgblkaaWEquilZeroModels
import Derived.Test.YtfekdillbgblkaaFwY
namespace Go.Wk
open Go.Fw Go.Mo Go.Proofs Go.RowKit
set_option linter.all false
set_option maxRecDepth 100000
theorem loopNx {ρ σ β γ : Type} {body : σ → Option (Fl ρ β σ)} {n : Nat} {s : σ} {y : Fl ρ γ β} (h : stepM body n (.nx s) = some y) : loopM body n s = some y := h
theorem Try_info3 : (Try.prog.info? 3).map (fun i => (i.zero, i.size, i.bytes)) = some (some (.int .i64 0), 1, 8) := by kernel_rfl
theorem Try_ln3 : Ln Try.prog 3 1 false := Ln.of Try_info3 Try.underlying3 rfl
theorem Try_lo3 : LnO Try.prog 3 1 [.int .i64 0] := LnO.of Try_info3 rfl rfl (by decide) (by decide)
theorem Try_info4 : (Try.prog.info? 4).map (fun i => (i.zero, i.size, i.bytes)) = some (some (.bool false), 1, 1) := by kernel_rfl
theorem Try_ln4 : Ln Try.prog 4 1 false := Ln.of Try_info4 Try.underlying4 rfl
theorem Try_lo4 : LnO Try.prog 4 1 [.bool false] := LnO.of Try_info4 rfl rfl (by decide) (by decide)
theorem Try_info24 : (Try.prog.info? 24).map (fun i => (i.zero, i.size, i.bytes)) = some (some (.slice none 0 0), 1, 24) := by kernel_rfl
theorem Try_ln24 : Ln Try.prog 24 1 false := Ln.of Try_info24 Try.underlying24 rfl
theorem Try_lo24 : LnO Try.prog 24 1 [.slice none 0 0] := LnO.of Try_info24 rfl rfl (by decide) (by decide)
theorem Try_info25 : (Try.prog.info? 25).map (fun i => (i.zero, i.size, i.bytes)) = some (some (.int .i64 0), 1, 8) := by kernel_rfl
theorem Try_ln25 : Ln Try.prog 25 1 false := Ln.of Try_info25 Try.underlying25 rfl
theorem Try_lo25 : LnO Try.prog 25 1 [.int .i64 0] := LnO.of Try_info25 rfl rfl (by decide) (by decide)
theorem Try_info56 : (Try.prog.info? 56).map (fun i => (i.zero, i.size, i.bytes)) = some (some (.agg #[.int .i64 0, .int .i64 0]), 2, 16) := by kernel_rfl
theorem Try_ln56 : Ln Try.prog 56 2 true := Ln.of Try_info56 Try.underlying56 rfl
theorem Try_lo56 : LnO Try.prog 56 2 [.int .i64 0, .int .i64 0] := LnO.of Try_info56 rfl rfl (by decide) (by decide)
theorem Try_info112 : (Try.prog.info? 112).map (fun i => (i.zero, i.size, i.bytes)) = some (some (.agg #[.bool false, .bool false, .bool false, .bool false, .bool false, .bool false]), 6, 6) := by kernel_rfl
theorem Try_ln112 : Ln Try.prog 112 6 true := Ln.of Try_info112 Try.underlying112 rfl
theorem Try_lo112 : LnO Try.prog 112 6 [.bool false, .bool false, .bool false, .bool false, .bool false, .bool false] := LnO.of Try_info112 rfl rfl (by decide) (by decide)
theorem Try_bld56 (pv : List (Nat × Value)) : Try.prog.built 56 pv = Instr.fill (fun i => some (i * 1, 1)) (List.flatten [[.int .i64 0], [.int .i64 0]]).toArray pv := by kernel_rfl
theorem Try_eq56 : EqT Try.prog 56 (TR.arr 2 TR.int) 2 := (EqT.arr Try.underlying56 Try_ln3 (EqT.int Try.underlying3) (by kernel_rfl))
theorem Try_fit125 : Fit Try.prog 125 := Fit.of Try.func125 (by kernel_rfl) rfl
theorem Try_fit20 : Fit Try.prog 20 := Fit.of Try.func20 (by kernel_rfl) rfl
theorem Try_fit22 : Fit Try.prog 22 := Fit.of Try.func22 (by kernel_rfl) rfl
theorem Try_fit26 : Fit Try.prog 26 := Fit.of Try.func26 (by kernel_rfl) rfl
theorem Try_fit27 : Fit Try.prog 27 := Fit.of Try.func27 (by kernel_rfl) rfl
theorem Try_fit28 : Fit Try.prog 28 := Fit.of Try.func28 (by kernel_rfl) rfl
theorem Try_fit29 : Fit Try.prog 29 := Fit.of Try.func29 (by kernel_rfl) rfl
theorem Try_fit30 : Fit Try.prog 30 := Fit.of Try.func30 (by kernel_rfl) rfl
theorem Try_fit35 : Fit Try.prog 35 := Fit.of Try.func35 (by kernel_rfl) rfl
theorem Try_fit82 : Fit Try.prog 82 := Fit.of Try.func82 (by kernel_rfl) rfl
theorem Try_fit83 : Fit Try.prog 83 := Fit.of Try.func83 (by kernel_rfl) rfl
theorem Try_fit86 : Fit Try.prog 86 := Fit.of Try.func86 (by kernel_rfl) rfl
theorem Try_fit87 : Fit Try.prog 87 := Fit.of Try.func87 (by kernel_rfl) rfl
theorem Try_fit88 : Fit Try.prog 88 := Fit.of Try.func88 (by kernel_rfl) rfl
theorem Try_fit89 : Fit Try.prog 89 := Fit.of Try.func89 (by kernel_rfl) rfl
theorem Try_fit90 : Fit Try.prog 90 := Fit.of Try.func90 (by kernel_rfl) rfl

set_option maxHeartbeats 4000000 in
theorem saddle_Check_c (S : Hp) (w : World) (hS : S.sub w) (v0 : Value) (x0 : (List (List Int))) (k0 : ((TR.sl (TR.sl TR.int))).vrep S v0 x0) (res : Int) (hm : saddle_Check_m x0 = some res) : Calls Try.prog 88 #[v0] w (PostC w (.int .i64 res)) := by
 refine calls_enter 50 Try.func88 Try.ntmps88 rfl S true [(0, v0)] [imm (TR.sl (TR.sl TR.int)) v0 x0] rfl ⟨rfl, trivial⟩ hS ⟨k0, trivial⟩ ?_
 unfold saddle_Check_m at hm
 refine GL.seq ?_
 refine GL.region ?_
 refine RL.asg rfl rfl rfl ?_
 refine RL.finG ?_
 refine GL.seq ?_
 refine GL.seq ?_
 obtain ⟨y5, K6, h7, h8, h9, h10, h11⟩ := bindR_K hm
 refine GL.join (ι := Bool) (fun (p : Bool) => [(0, v0), (14, .bool p)]) (fun (p : Bool) => [imm (TR.sl (TR.sl TR.int)) v0 x0]) (fun (p : Bool) => K6 (.nx p)) ?_ ?_
 ·skip
  refine GL.region ?_
  refine RL.mv rfl rfl rfl ?_
  refine RL.lenS 0 Try.underlying37 rfl rfl rfl rfl SlOf.imm ?_
  refine RL.binI (v := .bool (decide (((x0).length : Int) < (1 : Int)))) rfl rfl rfl rfl rfl ?_
  refine RL.mv rfl rfl rfl ?_
  refine RL.split (t := 10) rfl (fun b12 => ?_) (fun b12 => ?_)
  ·replace h7 := ite_t b12 h7
   refine RL.skip rfl rfl ?_
   refine RL.skip rfl rfl ?_
   refine RL.skip rfl rfl ?_
   refine RL.pickT rfl rfl rfl rfl ?_
   refine RL.fin ?_
   cases h7
   exact fun a w st => mid_intro true h8 (St.cut [0] ⟨rfl, rfl, trivial⟩ (by decide) rfl st)
  replace h7 := ite_f b12 h7
  refine RL.mv rfl rfl rfl ?_
  refine RL.lenS 0 Try.underlying37 rfl rfl rfl rfl SlOf.imm ?_
  refine RL.binI (v := .bool (decide (((x0).length : Int) > (6 : Int)))) rfl rfl rfl rfl rfl ?_
  refine RL.pickF rfl rfl rfl rfl ?_
  refine RL.fin ?_
  cases h7
  exact fun a w st => mid_intro (decide (((x0).length : Int) > (6 : Int))) h8 (St.cut [0] ⟨rfl, rfl, trivial⟩ (by decide) rfl st)
 rintro x4 h13
 have h14 := h9 _ h13
 try dsimp only at h14
 refine GL.weak (env' := [(0, v0), (14, .bool x4)]) (L' := [imm (TR.sl (TR.sl TR.int)) v0 x0]) (fun _ _ st => st) ?_
 refine GL.cond rfl (fun b15 => ?_) (fun b15 => ?_)
 ·replace h14 := ite_t b15 h14
  refine GL.seq ?_
  refine GL.region ?_
  refine RL.asg rfl rfl rfl ?_
  refine RL.finG ?_
  have h14 := Option.some.inj h14
  subst h14
  exact GL.ret (Gx.ret (v := .int .i64 (2 : Int)) (res1 rfl rfl) (fun a w st => st.toPostC rfl))
 replace h14 := ite_f b15 h14
 refine GL.skip ?_
 refine GL.seq ?_
 refine GL.seq ?_
 refine GL.region ?_
 refine RL.mv rfl rfl rfl ?_
 refine RL.lenS 0 Try.underlying37 rfl rfl rfl rfl SlOf.imm ?_
 refine RL.mv rfl rfl rfl ?_
 refine RL.finG ?_
 refine GL.open_ 0 rfl (fun S h => len_imm S h) (fun n99 => ?_)
 obtain ⟨y100, K101, h102, h103, h104, h105, h106⟩ := bindR_K h14
 refine GL.join (ι := Unit) (fun (p : Unit) => []) (fun (p : Unit) => []) (fun (p : Unit) => K101 (.nx ())) ?_ ?_
 ·refine GL.block ?_
  refine GL.loop (ι := Nat × (List (List Int))) (fun (p : Nat × (List (List Int))) => [(0, v0), (15, v0), (16, .int .i64 ((x0).length : Int)), (17, .int .i64 (p.1 : Int))]) (fun (p : Nat × (List (List Int))) => [imm (TR.sl (TR.sl TR.int)) v0 x0]) (fun (p : Nat × (List (List Int))) => p.1 + p.2.length = (x0).length ∧ List.drop p.1 x0 = p.2 ∧ rangeL (saddle_Check_b1 x0) p.2 p.1 () = some y100) (fun (p : Nat × (List (List Int))) => p.2.length) (0, x0) ⟨by simp, by simp, h102⟩ (fun a w st => St.cut [0] ⟨rfl, rfl, rfl, rfl, trivial⟩ (by decide) rfl st) ?_
  rintro ⟨i107, r108⟩ ⟨h113, h114, h112⟩
  try dsimp only at h113 h114 h112
  refine GL.weak (env' := [(0, v0), (15, v0), (16, .int .i64 ((x0).length : Int)), (17, .int .i64 (i107 : Int))]) (L' := [imm (TR.sl (TR.sl TR.int)) v0 x0]) (fun _ _ st => st) ?_
  refine GL.seq ?_
  refine GL.region ?_
  refine RL.binI (v := .bool (decide ((i107 : Int) < ((x0).length : Int)))) rfl rfl rfl rfl rfl ?_
  refine RL.finG ?_
  refine GL.seq ?_
  refine GL.cond rfl (fun b115 => ?_) (fun b115 => ?_)
  ·have h116 : i107 < (x0).length := by have := of_decide_eq_true b115; omega
   obtain ⟨y117, r119, hr, e118, h120⟩ := drop_cons h114 rfl h116
   subst hr
   obtain ⟨z109, h110, h111⟩ := rangeL_some h112
   unfold saddle_Check_b1 at h110
   try dsimp only at h110
   refine GL.skip ?_
   refine GL.seq ?_
   refine GL.block ?_
   refine GL.seq ?_
   refine GL.region ?_
   refine RL.idxS (sz := 1) 0 Try.underlying37 Try_ln24 rfl rfl rfl rfl rfl SlOf.imm (by omega) (by omega) ?_
   refine RL.ldS (i := i107) (r := (TR.sl TR.int)) (e' := y117) 0 Try_ln24 rfl rfl rfl rfl SlOf.imm e118 Part.self ?_
   intro v122
   refine RL.asg rfl rfl rfl ?_
   refine RL.finG ?_
   refine GL.seq ?_
   refine GL.seq ?_
   refine GL.region ?_
   refine RL.mv rfl rfl rfl ?_
   refine RL.lenS 1 Try.underlying24 rfl rfl rfl rfl SlOf.imm ?_
   refine RL.mv rfl rfl rfl ?_
   obtain ⟨y126, e127, h110⟩ := bind_some h110
   refine RL.idxS (sz := 1) 0 Try.underlying37 Try_ln24 rfl rfl rfl rfl rfl SlOf.imm (idx_some e127).1 (idx_some e127).2.1 ?_
   refine RL.ldS (i := ((0 : Int)).toNat) (r := (TR.sl TR.int)) (e' := y126) 0 Try_ln24 rfl rfl rfl rfl SlOf.imm (idx_some e127).2.2 Part.self ?_
   intro v128
   refine RL.reL (L' := [imm (TR.sl (TR.sl TR.int)) v0 x0, imm (TR.sl TR.int) v122 y117, imm (TR.sl TR.int) v128 y126]) rfl ?_
   refine RL.lenS 2 Try.underlying24 rfl rfl rfl rfl SlOf.imm ?_
   refine RL.binI (v := .bool (((y117).length : Int) != ((y126).length : Int))) rfl rfl rfl rfl rfl ?_
   refine RL.finG ?_
   refine GL.cond rfl (fun b129 => ?_) (fun b129 => ?_)
   ·replace h110 := ite_t b129 h110
    refine GL.seq ?_
    refine GL.region ?_
    refine RL.asg rfl rfl rfl ?_
    refine RL.finG ?_
    cases h110
    replace h111 : some (Fl.rt _) = some y100 := h111
    cases h111
    have hh := h105 _ h103
    subst hh
    exact GL.ret (Gx.ret (v := .int .i64 (3 : Int)) (res1 rfl rfl) (fun a w st => st.toPostC rfl))
   replace h110 := ite_f b129 h110
   refine GL.skip ?_
   refine GL.seq ?_
   refine GL.seq ?_
   obtain ⟨y133, K134, h135, h136, h137, h138, h139⟩ := bindF_K h110
   refine GL.join (ι := Bool) (fun (p : Bool) => [(0, v0), (4, v122), (15, v0), (16, .int .i64 ((x0).length : Int)), (17, .int .i64 (i107 : Int)), (35, .bool p)]) (fun (p : Bool) => [imm (TR.sl (TR.sl TR.int)) v0 x0, imm (TR.sl TR.int) v122 y117]) (fun (p : Bool) => K134 (.nx p)) ?_ ?_
   ·skip
    refine GL.region ?_
    refine RL.mv rfl rfl rfl ?_
    refine RL.lenS 1 Try.underlying24 rfl rfl rfl rfl SlOf.imm ?_
    refine RL.binI (v := .bool (decide (((y117).length : Int) < (1 : Int)))) rfl rfl rfl rfl rfl ?_
    refine RL.mv rfl rfl rfl ?_
    refine RL.split (t := 31) rfl (fun b140 => ?_) (fun b140 => ?_)
    ·replace h135 := ite_t b140 h135
     refine RL.skip rfl rfl ?_
     refine RL.skip rfl rfl ?_
     refine RL.skip rfl rfl ?_
     refine RL.pickT rfl rfl rfl rfl ?_
     refine RL.fin ?_
     cases h135
     exact fun a w st => mid_intro true h136 (St.cut [0, 1] ⟨rfl, rfl, rfl, rfl, rfl, rfl, trivial⟩ (by decide) rfl st)
    replace h135 := ite_f b140 h135
    refine RL.mv rfl rfl rfl ?_
    refine RL.lenS 1 Try.underlying24 rfl rfl rfl rfl SlOf.imm ?_
    refine RL.binI (v := .bool (decide (((y117).length : Int) > (6 : Int)))) rfl rfl rfl rfl rfl ?_
    refine RL.pickF rfl rfl rfl rfl ?_
    refine RL.fin ?_
    cases h135
    exact fun a w st => mid_intro (decide (((y117).length : Int) > (6 : Int))) h136 (St.cut [0, 1] ⟨rfl, rfl, rfl, rfl, rfl, rfl, trivial⟩ (by decide) rfl st)
   rintro x132 h141
   have h142 := h137 _ h141
   try dsimp only at h142
   refine GL.weak (env' := [(0, v0), (4, v122), (15, v0), (16, .int .i64 ((x0).length : Int)), (17, .int .i64 (i107 : Int)), (35, .bool x132)]) (L' := [imm (TR.sl (TR.sl TR.int)) v0 x0, imm (TR.sl TR.int) v122 y117]) (fun _ _ st => st) ?_
   refine GL.cond rfl (fun b143 => ?_) (fun b143 => ?_)
   ·replace h142 := ite_t b143 h142
    refine GL.seq ?_
    refine GL.region ?_
    refine RL.asg rfl rfl rfl ?_
    refine RL.finG ?_
    cases h142
    replace h111 : some (Fl.rt _) = some y100 := h111
    cases h111
    have hh := h105 _ h103
    subst hh
    exact GL.ret (Gx.ret (v := .int .i64 (2 : Int)) (res1 rfl rfl) (fun a w st => st.toPostC rfl))
   replace h142 := ite_f b143 h142
   refine GL.skip ?_
   refine GL.seq ?_
   refine GL.region ?_
   refine RL.mv rfl rfl rfl ?_
   refine RL.lenS 1 Try.underlying24 rfl rfl rfl rfl SlOf.imm ?_
   refine RL.mv rfl rfl rfl ?_
   refine RL.finG ?_
   refine GL.open_ 1 rfl (fun S h => len_imm S h) (fun n162 => ?_)
   obtain ⟨y163, K164, h165, h166, h167, h168, h169⟩ := bindF_K h142
   refine GL.join (ι := Unit) (fun (p : Unit) => [(0, v0), (15, v0), (16, .int .i64 ((x0).length : Int)), (17, .int .i64 (i107 : Int))]) (fun (p : Unit) => [imm (TR.sl (TR.sl TR.int)) v0 x0]) (fun (p : Unit) => K164 (.nx ())) ?_ ?_
   ·refine GL.block ?_
    refine GL.loop (ι := Nat × (List Int)) (fun (p : Nat × (List Int)) => [(0, v0), (15, v0), (16, .int .i64 ((x0).length : Int)), (17, .int .i64 (i107 : Int)), (36, v122), (37, .int .i64 ((y117).length : Int)), (38, .int .i64 (p.1 : Int))]) (fun (p : Nat × (List Int)) => [imm (TR.sl (TR.sl TR.int)) v0 x0, imm (TR.sl TR.int) v122 y117]) (fun (p : Nat × (List Int)) => p.1 + p.2.length = (y117).length ∧ List.drop p.1 y117 = p.2 ∧ rangeL saddle_Check_b2 p.2 p.1 () = some y163) (fun (p : Nat × (List Int)) => p.2.length) (0, y117) ⟨by simp, by simp, h165⟩ (fun a w st => St.cut [0, 1] ⟨rfl, rfl, rfl, rfl, rfl, rfl, rfl, trivial⟩ (by decide) rfl st) ?_
    rintro ⟨i170, r171⟩ ⟨h176, h177, h175⟩
    try dsimp only at h176 h177 h175
    refine GL.weak (env' := [(0, v0), (15, v0), (16, .int .i64 ((x0).length : Int)), (17, .int .i64 (i107 : Int)), (36, v122), (37, .int .i64 ((y117).length : Int)), (38, .int .i64 (i170 : Int))]) (L' := [imm (TR.sl (TR.sl TR.int)) v0 x0, imm (TR.sl TR.int) v122 y117]) (fun _ _ st => st) ?_
    refine GL.seq ?_
    refine GL.region ?_
    refine RL.binI (v := .bool (decide ((i170 : Int) < ((y117).length : Int)))) rfl rfl rfl rfl rfl ?_
    refine RL.finG ?_
    refine GL.seq ?_
    refine GL.cond rfl (fun b178 => ?_) (fun b178 => ?_)
    ·have h179 : i170 < (y117).length := by have := of_decide_eq_true b178; omega
     obtain ⟨y180, r182, hr, e181, h183⟩ := drop_cons h177 rfl h179
     subst hr
     obtain ⟨z172, h173, h174⟩ := rangeL_some h175
     unfold saddle_Check_b2 at h173
     try dsimp only at h173
     refine GL.skip ?_
     refine GL.seq ?_
     refine GL.block ?_
     refine GL.seq ?_
     refine GL.region ?_
     refine RL.idxS (sz := 1) 1 Try.underlying24 Try_ln3 rfl rfl rfl rfl rfl SlOf.imm (by omega) (by omega) ?_
     refine RL.ldSx (i := i170) (e' := y180) 1 Ex.ik Try_ln3 rfl rfl rfl rfl SlOf.imm e181 Part.self ?_
     refine RL.asg rfl rfl rfl ?_
     refine RL.finG ?_
     refine GL.seq ?_
     obtain ⟨y187, K188, h189, h190, h191, h192, h193⟩ := bindF_K h173
     refine GL.join (ι := Bool) (fun (p : Bool) => [(0, v0), (15, v0), (16, .int .i64 ((x0).length : Int)), (17, .int .i64 (i107 : Int)), (36, v122), (37, .int .i64 ((y117).length : Int)), (38, .int .i64 (i170 : Int)), (47, .bool p)]) (fun (p : Bool) => [imm (TR.sl (TR.sl TR.int)) v0 x0, imm (TR.sl TR.int) v122 y117]) (fun (p : Bool) => K188 (.nx p)) ?_ ?_
     ·skip
      refine GL.region ?_
      refine RL.mv rfl rfl rfl ?_
      refine RL.binI (v := .bool (decide (y180 < (-1000 : Int)))) rfl rfl rfl rfl rfl ?_
      refine RL.mv rfl rfl rfl ?_
      refine RL.split (t := 44) rfl (fun b194 => ?_) (fun b194 => ?_)
      ·replace h189 := ite_t b194 h189
       refine RL.skip rfl rfl ?_
       refine RL.skip rfl rfl ?_
       refine RL.pickT rfl rfl rfl rfl ?_
       refine RL.fin ?_
       cases h189
       exact fun a w st => mid_intro true h190 (St.cut [0, 1] ⟨rfl, rfl, rfl, rfl, rfl, rfl, rfl, rfl, trivial⟩ (by decide) rfl st)
      replace h189 := ite_f b194 h189
      refine RL.mv rfl rfl rfl ?_
      refine RL.binI (v := .bool (decide (y180 > (1000 : Int)))) rfl rfl rfl rfl rfl ?_
      refine RL.pickF rfl rfl rfl rfl ?_
      refine RL.fin ?_
      cases h189
      exact fun a w st => mid_intro (decide (y180 > (1000 : Int))) h190 (St.cut [0, 1] ⟨rfl, rfl, rfl, rfl, rfl, rfl, rfl, rfl, trivial⟩ (by decide) rfl st)
     rintro x186 h195
     have h196 := h191 _ h195
     try dsimp only at h196
     refine GL.weak (env' := [(0, v0), (15, v0), (16, .int .i64 ((x0).length : Int)), (17, .int .i64 (i107 : Int)), (36, v122), (37, .int .i64 ((y117).length : Int)), (38, .int .i64 (i170 : Int)), (47, .bool x186)]) (L' := [imm (TR.sl (TR.sl TR.int)) v0 x0, imm (TR.sl TR.int) v122 y117]) (fun _ _ st => st) ?_
     refine GL.cond rfl (fun b197 => ?_) (fun b197 => ?_)
     ·replace h196 := ite_t b197 h196
      refine GL.seq ?_
      refine GL.region ?_
      refine RL.asg rfl rfl rfl ?_
      refine RL.finG ?_
      cases h196
      replace h174 : some (Fl.rt _) = some y163 := h174
      cases h174
      have hh := h168 _ h166
      subst hh
      replace h111 : some (Fl.rt _) = some y100 := h111
      cases h111
      have hh := h105 _ h103
      subst hh
      exact GL.ret (Gx.ret (v := .int .i64 (1 : Int)) (res1 rfl rfl) (fun a w st => st.toPostC rfl))
     replace h196 := ite_f b197 h196
     refine GL.skip ?_
     refine GL.nilB ?_
     refine GL.region ?_
     refine RL.binI (v := .int .i64 ((i170 + 1 : Nat) : Int)) rfl rfl rfl rfl (binI_succ i170 (by omega)) ?_
     refine RL.mv rfl rfl rfl ?_
     refine RL.fin ?_
     cases h196
     exact fun a w st => lop_intro (i170 + 1, r182) ⟨by show i170 + 1 + r182.length = (y117).length; simp only [List.length_cons] at h176; omega, h183, h174⟩ (by simp) (St.cut [0, 1] ⟨rfl, rfl, rfl, rfl, rfl, rfl, rfl, trivial⟩ (by decide) rfl st)
    have h179 : ¬ i170 < (y117).length := by have := of_decide_eq_false b178; omega
    obtain rfl : r171 = [] := by rw [← h177]; exact List.drop_of_length_le (by omega)
    replace h175 : some (Fl.nx _) = some y163 := h175
    cases h175
    exact GL.exit (fun a w st => mid_intro () h166 (St.cut [0] ⟨rfl, rfl, rfl, rfl, trivial⟩ (by decide) rfl st))
   rintro ⟨⟩ h198
   have h199 := h167 _ h198
   try dsimp only at h199
   refine GL.weak (env' := [(0, v0), (15, v0), (16, .int .i64 ((x0).length : Int)), (17, .int .i64 (i107 : Int))]) (L' := [imm (TR.sl (TR.sl TR.int)) v0 x0]) (fun _ _ st => st) ?_
   refine GL.nilB ?_
   refine GL.region ?_
   refine RL.binI (v := .int .i64 ((i107 + 1 : Nat) : Int)) rfl rfl rfl rfl (binI_succ i107 (by omega)) ?_
   refine RL.mv rfl rfl rfl ?_
   refine RL.fin ?_
   cases h199
   exact fun a w st => lop_intro (i107 + 1, r119) ⟨by show i107 + 1 + r119.length = (x0).length; simp only [List.length_cons] at h113; omega, h120, h111⟩ (by simp) (St.cut [0] ⟨rfl, rfl, rfl, rfl, trivial⟩ (by decide) rfl st)
  have h116 : ¬ i107 < (x0).length := by have := of_decide_eq_false b115; omega
  obtain rfl : r108 = [] := by rw [← h114]; exact List.drop_of_length_le (by omega)
  replace h112 : some (Fl.nx _) = some y100 := h112
  cases h112
  exact GL.exit (fun a w st => mid_intro () h103 (St.cut [] trivial (by decide) rfl st))
 rintro ⟨⟩ h200
 have h201 := h104 _ h200
 try dsimp only at h201
 refine GL.weak (env' := []) (L' := []) (fun _ _ st => st) ?_
 refine GL.seq ?_
 refine GL.region ?_
 refine RL.asg rfl rfl rfl ?_
 refine RL.finG ?_
 have h201 := Option.some.inj h201
 subst h201
 exact GL.ret (Gx.ret (v := .int .i64 (0 : Int)) (res1 rfl rfl) (fun a w st => st.toPostC rfl))

set_option maxHeartbeats 4000000 in
theorem equil_Check_c (S : Hp) (w : World) (hS : S.sub w) (v0 : Value) (x0 : (List (List Int))) (k0 : ((TR.sl (TR.sl TR.int))).vrep S v0 x0) (v1 : Value) (x1 : (List (List Int))) (k1 : ((TR.sl (TR.sl TR.int))).vrep S v1 x1) (res : Int) (hm : equil_Check_m x0 x1 = some res) : Calls Try.prog 87 #[v0, v1] w (PostV w (.int .i64 res)) := by
 refine calls_enter 33 Try.func87 Try.ntmps87 rfl S false [(0, v0), (1, v1)] [imm (TR.sl (TR.sl TR.int)) v0 x0, imm (TR.sl (TR.sl TR.int)) v1 x1] rfl ⟨rfl, ⟨rfl, trivial⟩⟩ hS ⟨k0, ⟨k1, trivial⟩⟩ ?_
 unfold equil_Check_m at hm
 refine GL.seq ?_
 refine GL.region ?_
 refine RL.asg rfl rfl rfl ?_
 refine RL.finG ?_
 refine GL.seq ?_
 refine GL.seq ?_
 refine GL.region ?_
 refine RL.mv rfl rfl rfl ?_
 obtain ⟨y5, e6, hm⟩ := bind_some hm
 refine RL.callC (v := .int .i64 y5) (vs := [v0]) Try_fit88 rfl rfl rfl rfl (fun U w hU hW hL => saddle_Check_c U w hU _ _ (hL 0 _ _ rfl Seen.imm) _ e6) ?_
 refine RL.asg rfl rfl rfl ?_
 refine RL.finG ?_
 refine GL.seq ?_
 refine GL.region ?_
 refine RL.mv rfl rfl rfl ?_
 refine RL.binI (v := .bool (y5 != (0 : Int))) rfl rfl rfl rfl rfl ?_
 refine RL.finG ?_
 refine GL.cond rfl (fun b7 => ?_) (fun b7 => ?_)
 ·replace hm := ite_t b7 hm
  refine GL.seq ?_
  refine GL.region ?_
  refine RL.mv rfl rfl rfl ?_
  refine RL.asg rfl rfl rfl ?_
  refine RL.finG ?_
  have hm := Option.some.inj hm
  subst hm
  exact GL.ret (Gx.ret (v := .int .i64 y5) (res1 rfl rfl) (fun a w st => st.toPostV))
 replace hm := ite_f b7 hm
 refine GL.skip ?_
 refine GL.seq ?_
 refine GL.seq ?_
 refine GL.region ?_
 refine RL.mv rfl rfl rfl ?_
 obtain ⟨y10, e11, hm⟩ := bind_some hm
 refine RL.callC (v := .int .i64 y10) (vs := [v1]) Try_fit88 rfl rfl rfl rfl (fun U w hU hW hL => saddle_Check_c U w hU _ _ (hL 1 _ _ rfl Seen.imm) _ e11) ?_
 refine RL.asg rfl rfl rfl ?_
 refine RL.finG ?_
 refine GL.seq ?_
 refine GL.region ?_
 refine RL.mv rfl rfl rfl ?_
 refine RL.binI (v := .bool (y10 != (0 : Int))) rfl rfl rfl rfl rfl ?_
 refine RL.finG ?_
 refine GL.cond rfl (fun b12 => ?_) (fun b12 => ?_)
 ·replace hm := ite_t b12 hm
  refine GL.seq ?_
  refine GL.region ?_
  refine RL.mv rfl rfl rfl ?_
  refine RL.asg rfl rfl rfl ?_
  refine RL.finG ?_
  have hm := Option.some.inj hm
  subst hm
  exact GL.ret (Gx.ret (v := .int .i64 y10) (res1 rfl rfl) (fun a w st => st.toPostV))
 replace hm := ite_f b12 hm
 refine GL.skip ?_
 refine GL.seq ?_
 refine GL.seq ?_
 obtain ⟨y28, K29, h30, h31, h32, h33, h34⟩ := bindR_K hm
 refine GL.join (ι := Bool) (fun (p : Bool) => [(32, .bool p)]) (fun (p : Bool) => []) (fun (p : Bool) => K29 (.nx p)) ?_ ?_
 ·skip
  refine GL.regionQ rfl rfl (by kernel_rfl) ?_
  refine RL.mv rfl rfl rfl ?_
  refine RL.lenS 0 Try.underlying37 rfl rfl rfl rfl SlOf.imm ?_
  refine RL.mv rfl rfl rfl ?_
  refine RL.lenS 1 Try.underlying37 rfl rfl rfl rfl SlOf.imm ?_
  refine RL.binI (v := .bool (((x0).length : Int) != ((x1).length : Int))) rfl rfl rfl rfl rfl ?_
  refine RL.mv rfl rfl rfl ?_
  refine RL.split (t := 22) rfl (fun b35 => ?_) (fun b35 => ?_)
  ·replace h30 := ite_t b35 h30
   refine RL.skip rfl rfl ?_
   refine RL.skip rfl rfl ?_
   refine RL.skip rfl rfl ?_
   refine RL.skip rfl rfl ?_
   refine RL.skip rfl rfl ?_
   refine RL.skip rfl rfl ?_
   refine RL.skip rfl rfl ?_
   refine RL.skip rfl rfl ?_
   refine RL.skip rfl rfl ?_
   refine RL.pickT rfl rfl rfl rfl ?_
   refine RL.finQ ?_
   cases h30
   exact fun a w st => mid_intro true h31 (St.cut [] ⟨rfl, trivial⟩ (by decide) rfl st)
  replace h30 := ite_f b35 h30
  refine RL.mv rfl rfl rfl ?_
  obtain ⟨y36, e37, h30⟩ := bind_some h30
  refine RL.idxS (sz := 1) 0 Try.underlying37 Try_ln24 rfl rfl rfl rfl rfl SlOf.imm (idx_some e37).1 (idx_some e37).2.1 ?_
  refine RL.ldS (i := ((0 : Int)).toNat) (r := (TR.sl TR.int)) (e' := y36) 0 Try_ln24 rfl rfl rfl rfl SlOf.imm (idx_some e37).2.2 Part.self ?_
  intro v38
  refine RL.lenS 2 Try.underlying24 rfl rfl rfl rfl SlOf.imm ?_
  refine RL.mv rfl rfl rfl ?_
  obtain ⟨y39, e40, h30⟩ := bind_some h30
  refine RL.idxS (sz := 1) 1 Try.underlying37 Try_ln24 rfl rfl rfl rfl rfl SlOf.imm (idx_some e40).1 (idx_some e40).2.1 ?_
  refine RL.ldS (i := ((0 : Int)).toNat) (r := (TR.sl TR.int)) (e' := y39) 1 Try_ln24 rfl rfl rfl rfl SlOf.imm (idx_some e40).2.2 Part.self ?_
  intro v41
  refine RL.reL (L' := [imm (TR.sl (TR.sl TR.int)) v0 x0, imm (TR.sl (TR.sl TR.int)) v1 x1, imm (TR.sl TR.int) v38 y36, imm (TR.sl TR.int) v41 y39]) rfl ?_
  refine RL.lenS 3 Try.underlying24 rfl rfl rfl rfl SlOf.imm ?_
  refine RL.binI (v := .bool (((y36).length : Int) != ((y39).length : Int))) rfl rfl rfl rfl rfl ?_
  refine RL.pickF rfl rfl rfl rfl ?_
  refine RL.finQ ?_
  cases h30
  exact fun a w st => mid_intro (((y36).length : Int) != ((y39).length : Int)) h31 (St.cut [] ⟨rfl, trivial⟩ (by decide) rfl st)
 rintro x27 h42
 have h43 := h32 _ h42
 try dsimp only at h43
 refine GL.weak (env' := [(32, .bool x27)]) (L' := []) (fun _ _ st => st) ?_
 refine GL.cond rfl (fun b44 => ?_) (fun b44 => ?_)
 ·replace h43 := ite_t b44 h43
  refine GL.seq ?_
  refine GL.region ?_
  refine RL.asg rfl rfl rfl ?_
  refine RL.finG ?_
  have h43 := Option.some.inj h43
  subst h43
  exact GL.ret (Gx.ret (v := .int .i64 (3 : Int)) (res1 rfl rfl) (fun a w st => st.toPostV))
 replace h43 := ite_f b44 h43
 refine GL.skip ?_
 refine GL.seq ?_
 refine GL.region ?_
 refine RL.asg rfl rfl rfl ?_
 refine RL.finG ?_
 have h43 := Option.some.inj h43
 subst h43
 exact GL.ret (Gx.ret (v := .int .i64 (0 : Int)) (res1 rfl rfl) (fun a w st => st.toPostV))

set_option maxHeartbeats 4000000 in
theorem equil_Rest_c (S : Hp) (w : World) (hS : S.sub w) (v0 : Value) (x0 : (List (List Int))) (k0 : ((TR.sl (TR.sl TR.int))).vrep S v0 x0) (v1 : Value) (x1 : (List (List Int))) (k1 : ((TR.sl (TR.sl TR.int))).vrep S v1 x1) (res : (List (List Int)) × Int) (hm : equil_Rest_m x0 x1 = some res) : Calls Try.prog 28 #[v0, v1] w (Post w S (fun (o : Value) => .tuple #[o, .int .i64 res.2]) (fun (o : Value) => [own 56 (TR.arr 2 TR.int) o res.1])) := by
 refine calls_enter 88 Try.func28 Try.ntmps28 rfl S false [(0, v0), (1, v1)] [imm (TR.sl (TR.sl TR.int)) v0 x0, imm (TR.sl (TR.sl TR.int)) v1 x1] rfl ⟨rfl, ⟨rfl, trivial⟩⟩ hS ⟨k0, ⟨k1, trivial⟩⟩ ?_
 unfold equil_Rest_m at hm
 refine GL.seq ?_
 refine GL.region ?_
 refine RL.asg rfl rfl rfl ?_
 refine RL.asg rfl rfl rfl ?_
 refine RL.finG ?_
 refine GL.seq ?_
 refine GL.seq ?_
 refine GL.region ?_
 refine RL.mv rfl rfl rfl ?_
 refine RL.mv rfl rfl rfl ?_
 obtain ⟨y5, e6, hm⟩ := bind_some hm
 refine RL.callV (v := .int .i64 y5) (vs := [v0, v1]) Try_fit87 rfl (Or.inl rfl) rfl rfl rfl rfl (fun U w hU hW hL => equil_Check_c U w hU _ _ (hL 0 _ _ rfl Seen.imm) _ _ (hL 1 _ _ rfl Seen.imm) _ e6) ?_
 refine RL.asg rfl rfl rfl ?_
 refine RL.finG ?_
 refine GL.seq ?_
 refine GL.region ?_
 refine RL.mv rfl rfl rfl ?_
 refine RL.binI (v := .bool (y5 != (0 : Int))) rfl rfl rfl rfl rfl ?_
 refine RL.finG ?_
 refine GL.cond rfl (fun b7 => ?_) (fun b7 => ?_)
 ·replace hm := ite_t b7 hm
  refine GL.seq ?_
  refine GL.region ?_
  refine RL.mv rfl rfl rfl ?_
  refine RL.asg rfl rfl rfl ?_
  refine RL.asg rfl rfl rfl ?_
  refine RL.finG ?_
  refine GL.weak (fun a w st => st.nilOwn 56 (TR.arr 2 TR.int)) ?_
  have hm := Option.some.inj hm
  subst hm
  exact GL.ret (Gx.ret (v := .tuple #[Value.slice none 0 0, .int .i64 y5]) (res2 rfl rfl rfl) (fun a w st => (st.pick [2] (by decide) rfl).toPost (Value.slice none 0 0)))
 replace hm := ite_f b7 hm
 refine GL.skip ?_
 refine GL.seq ?_
 refine GL.region ?_
 refine RL.asg rfl rfl rfl ?_
 refine RL.finG ?_
 refine GL.seq ?_
 refine GL.seq ?_
 refine GL.region ?_
 refine RL.mv rfl rfl rfl ?_
 refine RL.lenS 0 Try.underlying37 rfl rfl rfl rfl SlOf.imm ?_
 refine RL.mv rfl rfl rfl ?_
 refine RL.finG ?_
 refine GL.weak (fun a w st => st.nilOwn 56 (TR.arr 2 TR.int)) ?_
 refine GL.open_ 0 rfl (fun S h => len_imm S h) (fun n448 => ?_)
 obtain ⟨y449, K450, h451, h452, h453, h454, h455⟩ := bindR_K hm
 refine GL.join (ι := (List (List Int)) × Value) (fun (p : (List (List Int)) × Value) => [(7, p.2)]) (fun (p : (List (List Int)) × Value) => [own 56 (TR.arr 2 TR.int) p.2 p.1]) (fun (p : (List (List Int)) × Value) => K450 (.nx p.1)) ?_ ?_
 ·refine GL.block ?_
  refine GL.loop (ι := Nat × (List (List Int)) × (List (List Int)) × Value) (fun (p : Nat × (List (List Int)) × (List (List Int)) × Value) => [(0, v0), (1, v1), (7, p.2.2.2), (22, v0), (23, .int .i64 ((x0).length : Int)), (24, .int .i64 (p.1 : Int))]) (fun (p : Nat × (List (List Int)) × (List (List Int)) × Value) => [imm (TR.sl (TR.sl TR.int)) v0 x0, imm (TR.sl (TR.sl TR.int)) v1 x1, own 56 (TR.arr 2 TR.int) p.2.2.2 p.2.2.1]) (fun (p : Nat × (List (List Int)) × (List (List Int)) × Value) => p.1 + p.2.1.length = (x0).length ∧ List.drop p.1 x0 = p.2.1 ∧ rangeL (equil_Rest_b1 x0 x1) p.2.1 p.1 p.2.2.1 = some y449) (fun (p : Nat × (List (List Int)) × (List (List Int)) × Value) => p.2.1.length) (0, x0, [], Value.slice none 0 0) ⟨by simp, by simp, h451⟩ (fun a w st => St.cut [0, 1, 2] ⟨rfl, rfl, rfl, rfl, rfl, rfl, trivial⟩ (by decide) rfl st) ?_
  rintro ⟨i456, r457, l8, v9⟩ ⟨h462, h463, h461⟩
  try dsimp only at h462 h463 h461
  refine GL.weak (env' := [(0, v0), (1, v1), (7, v9), (22, v0), (23, .int .i64 ((x0).length : Int)), (24, .int .i64 (i456 : Int))]) (L' := [imm (TR.sl (TR.sl TR.int)) v0 x0, imm (TR.sl (TR.sl TR.int)) v1 x1, own 56 (TR.arr 2 TR.int) v9 l8]) (fun _ _ st => st) ?_
  refine GL.seq ?_
  refine GL.region ?_
  refine RL.binI (v := .bool (decide ((i456 : Int) < ((x0).length : Int)))) rfl rfl rfl rfl rfl ?_
  refine RL.finG ?_
  refine GL.seq ?_
  refine GL.cond rfl (fun b464 => ?_) (fun b464 => ?_)
  ·have h465 : i456 < (x0).length := by have := of_decide_eq_true b464; omega
   obtain ⟨y466, r468, hr, e467, h469⟩ := drop_cons h463 rfl h465
   subst hr
   obtain ⟨z458, h459, h460⟩ := rangeL_some h461
   unfold equil_Rest_b1 at h459
   try dsimp only at h459
   refine GL.skip ?_
   refine GL.seq ?_
   refine GL.block ?_
   refine GL.seq ?_
   refine GL.region ?_
   refine RL.mv rfl rfl rfl ?_
   refine RL.idxS (sz := 1) 0 Try.underlying37 Try_ln24 rfl rfl rfl rfl rfl SlOf.imm (by omega) (by omega) ?_
   refine RL.ldS (i := i456) (r := (TR.sl TR.int)) (e' := y466) 0 Try_ln24 rfl rfl rfl rfl SlOf.imm e467 Part.self ?_
   intro v471
   refine RL.asg rfl rfl rfl ?_
   refine RL.asg rfl rfl rfl ?_
   refine RL.finG ?_
   refine GL.seq ?_
   refine GL.region ?_
   refine RL.mv rfl rfl rfl ?_
   refine RL.lenS 3 Try.underlying24 rfl rfl rfl rfl SlOf.imm ?_
   refine RL.mv rfl rfl rfl ?_
   refine RL.finG ?_
   refine GL.open_ 3 rfl (fun S h => len_imm S h) (fun n665 => ?_)
   obtain ⟨y666, K667, h668, h669, h670, h671, h672⟩ := bindF_K h459
   refine GL.join (ι := (List (List Int)) × Value) (fun (p : (List (List Int)) × Value) => [(0, v0), (1, v1), (7, p.2), (22, v0), (23, .int .i64 ((x0).length : Int)), (24, .int .i64 (i456 : Int))]) (fun (p : (List (List Int)) × Value) => [imm (TR.sl (TR.sl TR.int)) v0 x0, imm (TR.sl (TR.sl TR.int)) v1 x1, own 56 (TR.arr 2 TR.int) p.2 p.1]) (fun (p : (List (List Int)) × Value) => K667 (.nx p.1)) ?_ ?_
   ·refine GL.block ?_
    refine GL.loop (ι := Nat × (List Int) × (List (List Int)) × Value) (fun (p : Nat × (List Int) × (List (List Int)) × Value) => [(0, v0), (1, v1), (7, p.2.2.2), (8, .int .i64 (i456 : Int)), (22, v0), (23, .int .i64 ((x0).length : Int)), (24, .int .i64 (i456 : Int)), (30, .int .i64 ((y466).length : Int)), (31, .int .i64 (p.1 : Int))]) (fun (p : Nat × (List Int) × (List (List Int)) × Value) => [imm (TR.sl (TR.sl TR.int)) v0 x0, imm (TR.sl (TR.sl TR.int)) v1 x1, own 56 (TR.arr 2 TR.int) p.2.2.2 p.2.2.1]) (fun (p : Nat × (List Int) × (List (List Int)) × Value) => p.1 + p.2.1.length = (y466).length ∧ List.drop p.1 y466 = p.2.1 ∧ rangeL (equil_Rest_b2 y466 x0 x1 i456) p.2.1 p.1 p.2.2.1 = some y666) (fun (p : Nat × (List Int) × (List (List Int)) × Value) => p.2.1.length) (0, y466, l8, v9) ⟨by simp, by simp, h668⟩ (fun a w st => St.cut [0, 1, 2] ⟨rfl, rfl, rfl, rfl, rfl, rfl, rfl, rfl, rfl, trivial⟩ (by decide) rfl st) ?_
    rintro ⟨i673, r674, l472, v473⟩ ⟨h679, h680, h678⟩
    try dsimp only at h679 h680 h678
    refine GL.weak (env' := [(0, v0), (1, v1), (7, v473), (8, .int .i64 (i456 : Int)), (22, v0), (23, .int .i64 ((x0).length : Int)), (24, .int .i64 (i456 : Int)), (30, .int .i64 ((y466).length : Int)), (31, .int .i64 (i673 : Int))]) (L' := [imm (TR.sl (TR.sl TR.int)) v0 x0, imm (TR.sl (TR.sl TR.int)) v1 x1, own 56 (TR.arr 2 TR.int) v473 l472]) (fun _ _ st => st) ?_
    refine GL.seq ?_
    refine GL.region ?_
    refine RL.binI (v := .bool (decide ((i673 : Int) < ((y466).length : Int)))) rfl rfl rfl rfl rfl ?_
    refine RL.finG ?_
    refine GL.seq ?_
    refine GL.cond rfl (fun b681 => ?_) (fun b681 => ?_)
    ·have h682 : i673 < (y466).length := by have := of_decide_eq_true b681; omega
     obtain ⟨y683, r685, hr, e684, h686⟩ := drop_cons h680 rfl h682
     subst hr
     obtain ⟨z675, h676, h677⟩ := rangeL_some h678
     unfold equil_Rest_b2 at h676
     try dsimp only at h676
     refine GL.skip ?_
     refine GL.seq ?_
     refine GL.block ?_
     refine GL.seq ?_
     refine GL.region ?_
     refine RL.mv rfl rfl rfl ?_
     refine RL.asg rfl rfl rfl ?_
     refine RL.finG ?_
     refine GL.seq ?_
     refine GL.region ?_
     refine RL.asg rfl rfl rfl ?_
     refine RL.finG ?_
     refine GL.seq ?_
     refine GL.seq ?_
     refine GL.region ?_
     refine RL.mv rfl rfl rfl ?_
     refine RL.lenS 0 Try.underlying37 rfl rfl rfl rfl SlOf.imm ?_
     refine RL.mv rfl rfl rfl ?_
     refine RL.finG ?_
     refine GL.open_ 0 rfl (fun S h => len_imm S h) (fun n722 => ?_)
     obtain ⟨y723, K724, h725, h726, h727, h728, h729⟩ := bindF_K h676
     refine GL.join (ι := Bool) (fun (p : Bool) => [(0, v0), (1, v1), (7, v473), (8, .int .i64 (i456 : Int)), (10, .int .i64 (i673 : Int)), (11, .bool p), (22, v0), (23, .int .i64 ((x0).length : Int)), (24, .int .i64 (i456 : Int)), (30, .int .i64 ((y466).length : Int)), (31, .int .i64 (i673 : Int))]) (fun (p : Bool) => [imm (TR.sl (TR.sl TR.int)) v0 x0, imm (TR.sl (TR.sl TR.int)) v1 x1, own 56 (TR.arr 2 TR.int) v473 l472]) (fun (p : Bool) => K724 (.nx p)) ?_ ?_
     ·refine GL.block ?_
      refine GL.loop (ι := Nat × (List (List Int)) × Bool) (fun (p : Nat × (List (List Int)) × Bool) => [(0, v0), (1, v1), (7, v473), (8, .int .i64 (i456 : Int)), (10, .int .i64 (i673 : Int)), (11, .bool p.2.2), (22, v0), (23, .int .i64 ((x0).length : Int)), (24, .int .i64 (i456 : Int)), (30, .int .i64 ((y466).length : Int)), (31, .int .i64 (i673 : Int)), (34, v0), (35, .int .i64 ((x0).length : Int)), (36, .int .i64 (p.1 : Int))]) (fun (p : Nat × (List (List Int)) × Bool) => [imm (TR.sl (TR.sl TR.int)) v0 x0, imm (TR.sl (TR.sl TR.int)) v1 x1, own 56 (TR.arr 2 TR.int) v473 l472]) (fun (p : Nat × (List (List Int)) × Bool) => p.1 + p.2.1.length = (x0).length ∧ List.drop p.1 x0 = p.2.1 ∧ rangeL (equil_Rest_b3 i673 y466) p.2.1 p.1 p.2.2 = some y723) (fun (p : Nat × (List (List Int)) × Bool) => p.2.1.length) (0, x0, true) ⟨by simp, by simp, h725⟩ (fun a w st => St.cut [0, 1, 2] ⟨rfl, rfl, rfl, rfl, rfl, rfl, rfl, rfl, rfl, rfl, rfl, rfl, rfl, rfl, trivial⟩ (by decide) rfl st) ?_
      rintro ⟨i730, r731, x687⟩ ⟨h736, h737, h735⟩
      try dsimp only at h736 h737 h735
      refine GL.weak (env' := [(0, v0), (1, v1), (7, v473), (8, .int .i64 (i456 : Int)), (10, .int .i64 (i673 : Int)), (11, .bool x687), (22, v0), (23, .int .i64 ((x0).length : Int)), (24, .int .i64 (i456 : Int)), (30, .int .i64 ((y466).length : Int)), (31, .int .i64 (i673 : Int)), (34, v0), (35, .int .i64 ((x0).length : Int)), (36, .int .i64 (i730 : Int))]) (L' := [imm (TR.sl (TR.sl TR.int)) v0 x0, imm (TR.sl (TR.sl TR.int)) v1 x1, own 56 (TR.arr 2 TR.int) v473 l472]) (fun _ _ st => st) ?_
      refine GL.seq ?_
      refine GL.region ?_
      refine RL.binI (v := .bool (decide ((i730 : Int) < ((x0).length : Int)))) rfl rfl rfl rfl rfl ?_
      refine RL.finG ?_
      refine GL.seq ?_
      refine GL.cond rfl (fun b738 => ?_) (fun b738 => ?_)
      ·have h739 : i730 < (x0).length := by have := of_decide_eq_true b738; omega
       obtain ⟨y740, r742, hr, e741, h743⟩ := drop_cons h737 rfl h739
       subst hr
       obtain ⟨z732, h733, h734⟩ := rangeL_some h735
       unfold equil_Rest_b3 at h733
       try dsimp only at h733
       refine GL.skip ?_
       refine GL.seq ?_
       refine GL.block ?_
       refine GL.seq ?_
       refine GL.region ?_
       refine RL.idxS (sz := 1) 0 Try.underlying37 Try_ln24 rfl rfl rfl rfl rfl SlOf.imm (by omega) (by omega) ?_
       refine RL.ldS (i := i730) (r := (TR.sl TR.int)) (e' := y740) 0 Try_ln24 rfl rfl rfl rfl SlOf.imm e741 Part.self ?_
       intro v745
       refine RL.asg rfl rfl rfl ?_
       refine RL.finG ?_
       obtain ⟨y759, K760, h761, h762, h763, h764, h765⟩ := bindF_K h733
       refine GL.join (ι := Bool) (fun (p : Bool) => [(0, v0), (1, v1), (7, v473), (8, .int .i64 (i456 : Int)), (10, .int .i64 (i673 : Int)), (11, .bool p), (22, v0), (23, .int .i64 ((x0).length : Int)), (24, .int .i64 (i456 : Int)), (30, .int .i64 ((y466).length : Int)), (31, .int .i64 (i673 : Int)), (34, v0), (35, .int .i64 ((x0).length : Int)), (36, .int .i64 (i730 : Int))]) (fun (p : Bool) => [imm (TR.sl (TR.sl TR.int)) v0 x0, imm (TR.sl (TR.sl TR.int)) v1 x1, own 56 (TR.arr 2 TR.int) v473 l472]) (fun (p : Bool) => K760 (.nx p)) ?_ ?_
       ·skip
        refine GL.regionQ rfl rfl (by kernel_rfl) ?_
        refine RL.mv rfl rfl rfl ?_
        refine RL.mv rfl rfl rfl ?_
        refine RL.split (t := 41) rfl (fun b766 => ?_) (fun b766 => ?_)
        ·replace h761 := ite_t b766 h761
         refine RL.mv rfl rfl rfl ?_
         refine RL.mv rfl rfl rfl ?_
         obtain ⟨y767, e768, h761⟩ := bind_some h761
         refine RL.idxS (sz := 1) 3 Try.underlying24 Try_ln3 rfl rfl rfl rfl rfl SlOf.imm (idx_some e768).1 (idx_some e768).2.1 ?_
         refine RL.ldSx (i := i673) (e' := y767) 3 Ex.ik Try_ln3 rfl rfl rfl rfl SlOf.imm (idx_some e768).2.2 Part.self ?_
         refine RL.mv rfl rfl rfl ?_
         refine RL.mv rfl rfl rfl ?_
         refine RL.idxS (sz := 1) 0 Try.underlying37 Try_ln24 rfl rfl rfl rfl rfl SlOf.imm (by omega) (by omega) ?_
         refine RL.ldS (i := i456) (r := (TR.sl TR.int)) (e' := y466) 0 Try_ln24 rfl rfl rfl rfl SlOf.imm e467 Part.self ?_
         intro v769
         refine RL.reL (L' := [imm (TR.sl (TR.sl TR.int)) v0 x0, imm (TR.sl (TR.sl TR.int)) v1 x1, own 56 (TR.arr 2 TR.int) v473 l472, imm (TR.sl TR.int) v745 y740, imm (TR.sl TR.int) v769 y466]) rfl ?_
         refine RL.mv rfl rfl rfl ?_
         obtain ⟨y770, e771, h761⟩ := bind_some h761
         refine RL.idxS (sz := 1) 4 Try.underlying24 Try_ln3 rfl rfl rfl rfl rfl SlOf.imm (idx_some e771).1 (idx_some e771).2.1 ?_
         refine RL.ldSx (i := i673) (e' := y770) 4 Ex.ik Try_ln3 rfl rfl rfl rfl SlOf.imm (idx_some e771).2.2 Part.self ?_
         refine RL.binI (v := .bool (decide (y767 ≤ y770))) rfl rfl rfl rfl rfl ?_
         refine RL.pickT rfl rfl rfl rfl ?_
         refine RL.asg rfl rfl rfl ?_
         refine RL.finQ ?_
         cases h761
         exact fun a w st => mid_intro (decide (y767 ≤ y770)) h762 (St.cut [0, 1, 2] ⟨rfl, rfl, rfl, rfl, rfl, rfl, rfl, rfl, rfl, rfl, rfl, rfl, rfl, rfl, trivial⟩ (by decide) rfl st)
        replace h761 := ite_f b766 h761
        refine RL.skip rfl rfl ?_
        refine RL.skip rfl rfl ?_
        refine RL.skip rfl rfl ?_
        refine RL.skip rfl rfl ?_
        refine RL.skip rfl rfl ?_
        refine RL.skip rfl rfl ?_
        refine RL.skip rfl rfl ?_
        refine RL.skip rfl rfl ?_
        refine RL.skip rfl rfl ?_
        refine RL.skip rfl rfl ?_
        refine RL.skip rfl rfl ?_
        refine RL.skip rfl rfl ?_
        refine RL.pickF rfl rfl rfl rfl ?_
        refine RL.asg rfl rfl rfl ?_
        refine RL.finQ ?_
        cases h761
        exact fun a w st => mid_intro false h762 (St.cut [0, 1, 2] ⟨rfl, rfl, rfl, rfl, rfl, rfl, rfl, rfl, rfl, rfl, rfl, rfl, rfl, rfl, trivial⟩ (by decide) rfl st)
       rintro x758 h772
       have h773 := h763 _ h772
       try dsimp only at h773
       refine GL.weak (env' := [(0, v0), (1, v1), (7, v473), (8, .int .i64 (i456 : Int)), (10, .int .i64 (i673 : Int)), (11, .bool x758), (22, v0), (23, .int .i64 ((x0).length : Int)), (24, .int .i64 (i456 : Int)), (30, .int .i64 ((y466).length : Int)), (31, .int .i64 (i673 : Int)), (34, v0), (35, .int .i64 ((x0).length : Int)), (36, .int .i64 (i730 : Int))]) (L' := [imm (TR.sl (TR.sl TR.int)) v0 x0, imm (TR.sl (TR.sl TR.int)) v1 x1, own 56 (TR.arr 2 TR.int) v473 l472]) (fun _ _ st => st) ?_
       refine GL.nilB ?_
       refine GL.region ?_
       refine RL.binI (v := .int .i64 ((i730 + 1 : Nat) : Int)) rfl rfl rfl rfl (binI_succ i730 (by omega)) ?_
       refine RL.mv rfl rfl rfl ?_
       refine RL.fin ?_
       cases h773
       exact fun a w st => lop_intro (i730 + 1, r742, x758) ⟨by show i730 + 1 + r742.length = (x0).length; simp only [List.length_cons] at h736; omega, h743, h734⟩ (by simp) (St.cut [0, 1, 2] ⟨rfl, rfl, rfl, rfl, rfl, rfl, rfl, rfl, rfl, rfl, rfl, rfl, rfl, rfl, trivial⟩ (by decide) rfl st)
      have h739 : ¬ i730 < (x0).length := by have := of_decide_eq_false b738; omega
      obtain rfl : r731 = [] := by rw [← h737]; exact List.drop_of_length_le (by omega)
      replace h735 : some (Fl.nx _) = some y723 := h735
      cases h735
      exact GL.exit (fun a w st => mid_intro x687 h726 (St.cut [0, 1, 2] ⟨rfl, rfl, rfl, rfl, rfl, rfl, rfl, rfl, rfl, rfl, rfl, trivial⟩ (by decide) rfl st))
     rintro x687 h774
     have h775 := h727 _ h774
     try dsimp only at h775
     refine GL.weak (env' := [(0, v0), (1, v1), (7, v473), (8, .int .i64 (i456 : Int)), (10, .int .i64 (i673 : Int)), (11, .bool x687), (22, v0), (23, .int .i64 ((x0).length : Int)), (24, .int .i64 (i456 : Int)), (30, .int .i64 ((y466).length : Int)), (31, .int .i64 (i673 : Int))]) (L' := [imm (TR.sl (TR.sl TR.int)) v0 x0, imm (TR.sl (TR.sl TR.int)) v1 x1, own 56 (TR.arr 2 TR.int) v473 l472]) (fun _ _ st => st) ?_
     refine GL.seq ?_
     refine GL.seq ?_
     refine GL.region ?_
     refine RL.mv rfl rfl rfl ?_
     refine RL.mv rfl rfl rfl ?_
     obtain ⟨y779, e780, h775⟩ := bind_some h775
     refine RL.idxS (sz := 1) 1 Try.underlying37 Try_ln24 rfl rfl rfl rfl rfl SlOf.imm (idx_some e780).1 (idx_some e780).2.1 ?_
     refine RL.ldS (i := i456) (r := (TR.sl TR.int)) (e' := y779) 1 Try_ln24 rfl rfl rfl rfl SlOf.imm (idx_some e780).2.2 Part.self ?_
     intro v781
     refine RL.lenS 3 Try.underlying24 rfl rfl rfl rfl SlOf.imm ?_
     refine RL.mv rfl rfl rfl ?_
     refine RL.finG ?_
     refine GL.open_ 3 rfl (fun S h => len_imm S h) (fun n815 => ?_)
     obtain ⟨y816, K817, h818, h819, h820, h821, h822⟩ := bindF_K h775
     refine GL.join (ι := Bool) (fun (p : Bool) => [(0, v0), (1, v1), (7, v473), (8, .int .i64 (i456 : Int)), (10, .int .i64 (i673 : Int)), (11, .bool p), (22, v0), (23, .int .i64 ((x0).length : Int)), (24, .int .i64 (i456 : Int)), (30, .int .i64 ((y466).length : Int)), (31, .int .i64 (i673 : Int))]) (fun (p : Bool) => [imm (TR.sl (TR.sl TR.int)) v0 x0, imm (TR.sl (TR.sl TR.int)) v1 x1, own 56 (TR.arr 2 TR.int) v473 l472]) (fun (p : Bool) => K817 (.nx p)) ?_ ?_
     ·refine GL.block ?_
      refine GL.loop (ι := Nat × (List Int) × Bool) (fun (p : Nat × (List Int) × Bool) => [(0, v0), (1, v1), (7, v473), (8, .int .i64 (i456 : Int)), (10, .int .i64 (i673 : Int)), (11, .bool p.2.2), (22, v0), (23, .int .i64 ((x0).length : Int)), (24, .int .i64 (i456 : Int)), (30, .int .i64 ((y466).length : Int)), (31, .int .i64 (i673 : Int)), (59, v781), (60, .int .i64 ((y779).length : Int)), (61, .int .i64 (p.1 : Int))]) (fun (p : Nat × (List Int) × Bool) => [imm (TR.sl (TR.sl TR.int)) v0 x0, imm (TR.sl (TR.sl TR.int)) v1 x1, own 56 (TR.arr 2 TR.int) v473 l472, imm (TR.sl TR.int) v781 y779]) (fun (p : Nat × (List Int) × Bool) => p.1 + p.2.1.length = (y779).length ∧ List.drop p.1 y779 = p.2.1 ∧ rangeL (equil_Rest_b4 x1 i456 i673) p.2.1 p.1 p.2.2 = some y816) (fun (p : Nat × (List Int) × Bool) => p.2.1.length) (0, y779, x687) ⟨by simp, by simp, h818⟩ (fun a w st => St.cut [0, 1, 2, 3] ⟨rfl, rfl, rfl, rfl, rfl, rfl, rfl, rfl, rfl, rfl, rfl, rfl, rfl, rfl, trivial⟩ (by decide) rfl st) ?_
      rintro ⟨i823, r824, x782⟩ ⟨h829, h830, h828⟩
      try dsimp only at h829 h830 h828
      refine GL.weak (env' := [(0, v0), (1, v1), (7, v473), (8, .int .i64 (i456 : Int)), (10, .int .i64 (i673 : Int)), (11, .bool x782), (22, v0), (23, .int .i64 ((x0).length : Int)), (24, .int .i64 (i456 : Int)), (30, .int .i64 ((y466).length : Int)), (31, .int .i64 (i673 : Int)), (59, v781), (60, .int .i64 ((y779).length : Int)), (61, .int .i64 (i823 : Int))]) (L' := [imm (TR.sl (TR.sl TR.int)) v0 x0, imm (TR.sl (TR.sl TR.int)) v1 x1, own 56 (TR.arr 2 TR.int) v473 l472, imm (TR.sl TR.int) v781 y779]) (fun _ _ st => st) ?_
      refine GL.seq ?_
      refine GL.region ?_
      refine RL.binI (v := .bool (decide ((i823 : Int) < ((y779).length : Int)))) rfl rfl rfl rfl rfl ?_
      refine RL.finG ?_
      refine GL.seq ?_
      refine GL.cond rfl (fun b831 => ?_) (fun b831 => ?_)
      ·have h832 : i823 < (y779).length := by have := of_decide_eq_true b831; omega
       obtain ⟨y833, r835, hr, e834, h836⟩ := drop_cons h830 rfl h832
       subst hr
       obtain ⟨z825, h826, h827⟩ := rangeL_some h828
       unfold equil_Rest_b4 at h826
       try dsimp only at h826
       refine GL.skip ?_
       refine GL.seq ?_
       refine GL.block ?_
       refine GL.seq ?_
       refine GL.region ?_
       refine RL.idxS (sz := 1) 3 Try.underlying24 Try_ln3 rfl rfl rfl rfl rfl SlOf.imm (by omega) (by omega) ?_
       refine RL.ldSx (i := i823) (e' := y833) 3 Ex.ik Try_ln3 rfl rfl rfl rfl SlOf.imm e834 Part.self ?_
       refine RL.asg rfl rfl rfl ?_
       refine RL.finG ?_
       obtain ⟨y850, K851, h852, h853, h854, h855, h856⟩ := bindF_K h826
       refine GL.join (ι := Bool) (fun (p : Bool) => [(0, v0), (1, v1), (7, v473), (8, .int .i64 (i456 : Int)), (10, .int .i64 (i673 : Int)), (11, .bool p), (22, v0), (23, .int .i64 ((x0).length : Int)), (24, .int .i64 (i456 : Int)), (30, .int .i64 ((y466).length : Int)), (31, .int .i64 (i673 : Int)), (59, v781), (60, .int .i64 ((y779).length : Int)), (61, .int .i64 (i823 : Int))]) (fun (p : Bool) => [imm (TR.sl (TR.sl TR.int)) v0 x0, imm (TR.sl (TR.sl TR.int)) v1 x1, own 56 (TR.arr 2 TR.int) v473 l472, imm (TR.sl TR.int) v781 y779]) (fun (p : Bool) => K851 (.nx p)) ?_ ?_
       ·skip
        refine GL.region ?_
        refine RL.mv rfl rfl rfl ?_
        refine RL.mv rfl rfl rfl ?_
        refine RL.split (t := 66) rfl (fun b857 => ?_) (fun b857 => ?_)
        ·replace h852 := ite_t b857 h852
         refine RL.mv rfl rfl rfl ?_
         refine RL.mv rfl rfl rfl ?_
         refine RL.mv rfl rfl rfl ?_
         obtain ⟨y858, e859, h852⟩ := bind_some h852
         refine RL.idxS (sz := 1) 1 Try.underlying37 Try_ln24 rfl rfl rfl rfl rfl SlOf.imm (idx_some e859).1 (idx_some e859).2.1 ?_
         refine RL.ldS (i := i456) (r := (TR.sl TR.int)) (e' := y858) 1 Try_ln24 rfl rfl rfl rfl SlOf.imm (idx_some e859).2.2 Part.self ?_
         intro v860
         refine RL.mv rfl rfl rfl ?_
         obtain ⟨y861, e862, h852⟩ := bind_some h852
         refine RL.idxS (sz := 1) 4 Try.underlying24 Try_ln3 rfl rfl rfl rfl rfl SlOf.imm (idx_some e862).1 (idx_some e862).2.1 ?_
         refine RL.ldSx (i := i673) (e' := y861) 4 Ex.ik Try_ln3 rfl rfl rfl rfl SlOf.imm (idx_some e862).2.2 Part.self ?_
         refine RL.binI (v := .bool (decide (y833 ≤ y861))) rfl rfl rfl rfl rfl ?_
         refine RL.pickT rfl rfl rfl rfl ?_
         refine RL.asg rfl rfl rfl ?_
         refine RL.fin ?_
         cases h852
         exact fun a w st => mid_intro (decide (y833 ≤ y861)) h853 (St.cut [0, 1, 2, 3] ⟨rfl, rfl, rfl, rfl, rfl, rfl, rfl, rfl, rfl, rfl, rfl, rfl, rfl, rfl, trivial⟩ (by decide) rfl st)
        replace h852 := ite_f b857 h852
        refine RL.skip rfl rfl ?_
        refine RL.skip rfl rfl ?_
        refine RL.skip rfl rfl ?_
        refine RL.skip rfl rfl ?_
        refine RL.skip rfl rfl ?_
        refine RL.skip rfl rfl ?_
        refine RL.skip rfl rfl ?_
        refine RL.skip rfl rfl ?_
        refine RL.skip rfl rfl ?_
        refine RL.pickF rfl rfl rfl rfl ?_
        refine RL.asg rfl rfl rfl ?_
        refine RL.fin ?_
        cases h852
        exact fun a w st => mid_intro false h853 (St.cut [0, 1, 2, 3] ⟨rfl, rfl, rfl, rfl, rfl, rfl, rfl, rfl, rfl, rfl, rfl, rfl, rfl, rfl, trivial⟩ (by decide) rfl st)
       rintro x849 h863
       have h864 := h854 _ h863
       try dsimp only at h864
       refine GL.weak (env' := [(0, v0), (1, v1), (7, v473), (8, .int .i64 (i456 : Int)), (10, .int .i64 (i673 : Int)), (11, .bool x849), (22, v0), (23, .int .i64 ((x0).length : Int)), (24, .int .i64 (i456 : Int)), (30, .int .i64 ((y466).length : Int)), (31, .int .i64 (i673 : Int)), (59, v781), (60, .int .i64 ((y779).length : Int)), (61, .int .i64 (i823 : Int))]) (L' := [imm (TR.sl (TR.sl TR.int)) v0 x0, imm (TR.sl (TR.sl TR.int)) v1 x1, own 56 (TR.arr 2 TR.int) v473 l472, imm (TR.sl TR.int) v781 y779]) (fun _ _ st => st) ?_
       refine GL.nilB ?_
       refine GL.region ?_
       refine RL.binI (v := .int .i64 ((i823 + 1 : Nat) : Int)) rfl rfl rfl rfl (binI_succ i823 (by omega)) ?_
       refine RL.mv rfl rfl rfl ?_
       refine RL.fin ?_
       cases h864
       exact fun a w st => lop_intro (i823 + 1, r835, x849) ⟨by show i823 + 1 + r835.length = (y779).length; simp only [List.length_cons] at h829; omega, h836, h827⟩ (by simp) (St.cut [0, 1, 2, 3] ⟨rfl, rfl, rfl, rfl, rfl, rfl, rfl, rfl, rfl, rfl, rfl, rfl, rfl, rfl, trivial⟩ (by decide) rfl st)
      have h832 : ¬ i823 < (y779).length := by have := of_decide_eq_false b831; omega
      obtain rfl : r824 = [] := by rw [← h830]; exact List.drop_of_length_le (by omega)
      replace h828 : some (Fl.nx _) = some y816 := h828
      cases h828
      exact GL.exit (fun a w st => mid_intro x782 h819 (St.cut [0, 1, 2] ⟨rfl, rfl, rfl, rfl, rfl, rfl, rfl, rfl, rfl, rfl, rfl, trivial⟩ (by decide) rfl st))
     rintro x782 h865
     have h866 := h820 _ h865
     try dsimp only at h866
     refine GL.weak (env' := [(0, v0), (1, v1), (7, v473), (8, .int .i64 (i456 : Int)), (10, .int .i64 (i673 : Int)), (11, .bool x782), (22, v0), (23, .int .i64 ((x0).length : Int)), (24, .int .i64 (i456 : Int)), (30, .int .i64 ((y466).length : Int)), (31, .int .i64 (i673 : Int))]) (L' := [imm (TR.sl (TR.sl TR.int)) v0 x0, imm (TR.sl (TR.sl TR.int)) v1 x1, own 56 (TR.arr 2 TR.int) v473 l472]) (fun _ _ st => st) ?_
     refine GL.seq ?_
     refine GL.region ?_
     refine RL.mv rfl rfl rfl ?_
     refine RL.finG ?_
     refine GL.cond rfl (fun b867 => ?_) (fun b867 => ?_)
     ·replace h866 := ite_t b867 h866
      refine GL.region ?_
      refine RL.mv rfl rfl rfl ?_
      refine RL.mv rfl rfl rfl ?_
      refine RL.mv rfl rfl rfl ?_
      refine RL.bldA (t := (TR.arr 2 TR.int)) (d0 := ([(i456 : Int), (i673 : Int)] : (List Int))) (pv := [(0, .int .i64 (i456 : Int)), (1, .int .i64 (i673 : Int))]) rfl Try_bld56 (by decide) rfl rfl rfl ⟨⟨_, _, TR.int, (i456 : Int), rfl, rfl, VR.int⟩, ⟨⟨_, _, TR.int, (i673 : Int), rfl, rfl, VR.int⟩, trivial⟩⟩ (fun S f hi => by
        obtain ⟨c0, e0, r0⟩ := cells_vrep (t := TR.int) (u := .int .i64 (i456 : Int)) (e := (i456 : Int)) (VR.int S f hi)
        obtain ⟨c1, e1, r1⟩ := cells_vrep (t := TR.int) (u := .int .i64 (i673 : Int)) (e := (i673 : Int)) (VR.int S f hi)
        show TR.rep (TR.arr 2 TR.int) S (List.flatten [(.int .i64 (i456 : Int) : Value).cells.toList, (.int .i64 (i673 : Int) : Value).cells.toList]) _
        simp only [e0, e1,  List.flatten_cons, List.flatten_nil, List.append_nil]
        exact ⟨rfl, ⟨_, _, rfl, r0, ⟨_, [], (List.append_nil _).symm, r1, rfl⟩⟩⟩) ?_
      intro v873
      refine RL.bS (t := (TR.arr 2 TR.int)) (vs := [v873]) ([([(i456 : Int), (i673 : Int)] : (List Int))] : (List (List Int))) Try.underlying51 Try_lo56 rfl rfl rfl rfl ⟨(VR.item 3 rfl), trivial⟩ rfl (by decide) ?_
      intro v874
      refine RL.reL (L' := [imm (TR.sl (TR.sl TR.int)) v0 x0, imm (TR.sl (TR.sl TR.int)) v1 x1, own 56 (TR.arr 2 TR.int) v473 l472, imm (TR.arr 2 TR.int) v873 ([(i456 : Int), (i673 : Int)] : (List Int)), own 56 (TR.arr 2 TR.int) v874 ([([(i456 : Int), (i673 : Int)] : (List Int))] : (List (List Int)))]) rfl ?_
      obtain ⟨y875, e876, h866⟩ := bind_some h866
      replace e876 := chk_some e876
      refine RL.app 2 4 Try.underlying51 Try_lo56 rfl rfl rfl rfl rfl rfl rfl SlOf.own e876 ?_
      intro v877
      refine RL.asg rfl rfl rfl ?_
      refine RL.finG ?_
      refine GL.nilB ?_
      refine GL.region ?_
      refine RL.binI (v := .int .i64 ((i673 + 1 : Nat) : Int)) rfl rfl rfl rfl (binI_succ i673 (by omega)) ?_
      refine RL.mv rfl rfl rfl ?_
      refine RL.fin ?_
      cases h866
      exact fun a w st => lop_intro (i673 + 1, r685, (l472 ++ ([([(i456 : Int), (i673 : Int)] : (List Int))] : (List (List Int)))), v877) ⟨by show i673 + 1 + r685.length = (y466).length; simp only [List.length_cons] at h679; omega, h686, h677⟩ (by simp) (St.cut [0, 1, 2] ⟨rfl, rfl, rfl, rfl, rfl, rfl, rfl, rfl, rfl, trivial⟩ (by decide) rfl st)
     replace h866 := ite_f b867 h866
     refine GL.skip ?_
     refine GL.nilB ?_
     refine GL.region ?_
     refine RL.binI (v := .int .i64 ((i673 + 1 : Nat) : Int)) rfl rfl rfl rfl (binI_succ i673 (by omega)) ?_
     refine RL.mv rfl rfl rfl ?_
     refine RL.fin ?_
     cases h866
     exact fun a w st => lop_intro (i673 + 1, r685, l472, v473) ⟨by show i673 + 1 + r685.length = (y466).length; simp only [List.length_cons] at h679; omega, h686, h677⟩ (by simp) (St.cut [0, 1, 2] ⟨rfl, rfl, rfl, rfl, rfl, rfl, rfl, rfl, rfl, trivial⟩ (by decide) rfl st)
    have h682 : ¬ i673 < (y466).length := by have := of_decide_eq_false b681; omega
    obtain rfl : r674 = [] := by rw [← h680]; exact List.drop_of_length_le (by omega)
    replace h678 : some (Fl.nx _) = some y666 := h678
    cases h678
    exact GL.exit (fun a w st => mid_intro (l472, v473) h669 (St.cut [0, 1, 2] ⟨rfl, rfl, rfl, rfl, rfl, rfl, trivial⟩ (by decide) rfl st))
   rintro ⟨l472, v473⟩ h878
   have h879 := h670 _ h878
   try dsimp only at h879
   refine GL.weak (env' := [(0, v0), (1, v1), (7, v473), (22, v0), (23, .int .i64 ((x0).length : Int)), (24, .int .i64 (i456 : Int))]) (L' := [imm (TR.sl (TR.sl TR.int)) v0 x0, imm (TR.sl (TR.sl TR.int)) v1 x1, own 56 (TR.arr 2 TR.int) v473 l472]) (fun _ _ st => st) ?_
   refine GL.nilB ?_
   refine GL.region ?_
   refine RL.binI (v := .int .i64 ((i456 + 1 : Nat) : Int)) rfl rfl rfl rfl (binI_succ i456 (by omega)) ?_
   refine RL.mv rfl rfl rfl ?_
   refine RL.fin ?_
   cases h879
   exact fun a w st => lop_intro (i456 + 1, r468, l472, v473) ⟨by show i456 + 1 + r468.length = (x0).length; simp only [List.length_cons] at h462; omega, h469, h460⟩ (by simp) (St.cut [0, 1, 2] ⟨rfl, rfl, rfl, rfl, rfl, rfl, trivial⟩ (by decide) rfl st)
  have h465 : ¬ i456 < (x0).length := by have := of_decide_eq_false b464; omega
  obtain rfl : r457 = [] := by rw [← h463]; exact List.drop_of_length_le (by omega)
  replace h461 : some (Fl.nx _) = some y449 := h461
  cases h461
  exact GL.exit (fun a w st => mid_intro (l8, v9) h452 (St.cut [2] ⟨rfl, trivial⟩ (by decide) rfl st))
 rintro ⟨l8, v9⟩ h880
 have h881 := h453 _ h880
 try dsimp only at h881
 refine GL.weak (env' := [(7, v9)]) (L' := [own 56 (TR.arr 2 TR.int) v9 l8]) (fun _ _ st => st) ?_
 refine GL.seq ?_
 refine GL.region ?_
 refine RL.mv rfl rfl rfl ?_
 refine RL.asg rfl rfl rfl ?_
 refine RL.asg rfl rfl rfl ?_
 refine RL.finG ?_
 have h881 := Option.some.inj h881
 subst h881
 exact GL.ret (Gx.ret (v := .tuple #[v9, .int .i64 (0 : Int)]) (res2 rfl rfl rfl) (fun a w st => (st.pick [0] (by decide) rfl).toPost v9))

set_option maxHeartbeats 4000000 in
theorem equil_turned_c (S : Hp) (w : World) (hS : S.sub w) (v0 : Value) (x0 : (List (List Int))) (k0 : ((TR.sl (TR.sl TR.int))).vrep S v0 x0) (res : (List (List Int))) (hm : equil_turned_m x0 = some res) : Calls Try.prog 89 #[v0] w (Post w S (fun (o : Value) => o) (fun (o : Value) => [imm (TR.sl (TR.sl TR.int)) o res])) := by
 refine calls_enter 39 Try.func89 Try.ntmps89 rfl S false [(0, v0)] [imm (TR.sl (TR.sl TR.int)) v0 x0] rfl ⟨rfl, trivial⟩ hS ⟨k0, trivial⟩ ?_
 unfold equil_turned_m at hm
 refine GL.seq ?_
 refine GL.region ?_
 refine RL.asg rfl rfl rfl ?_
 refine RL.finG ?_
 refine GL.seq ?_
 refine GL.region ?_
 refine RL.mv rfl rfl rfl ?_
 obtain ⟨y8, e9, hm⟩ := bind_some hm
 refine RL.idxS (sz := 1) 0 Try.underlying37 Try_ln24 rfl rfl rfl rfl rfl SlOf.imm (idx_some e9).1 (idx_some e9).2.1 ?_
 refine RL.ldS (i := ((0 : Int)).toNat) (r := (TR.sl TR.int)) (e' := y8) 0 Try_ln24 rfl rfl rfl rfl SlOf.imm (idx_some e9).2.2 Part.self ?_
 intro v10
 refine RL.lenS 1 Try.underlying24 rfl rfl rfl rfl SlOf.imm ?_
 obtain ⟨y11, e12, hm⟩ := bind_some hm
 replace e12 := chk_some e12
 refine RL.mkS (t := TR.raw) (z := .slice none 0 0) Try.underlying37 Try_lo24 (fun S => ⟨rfl, rfl⟩) rfl rfl rfl rfl e12.1 e12.2 ?_
 intro v13
 refine RL.weak (fun a w st => st.toRows 3 TR.int 2 rfl) ?_
 refine RL.reL (L' := [imm (TR.sl (TR.sl TR.int)) v0 x0, imm (TR.sl TR.int) v10 y8, own2 24 3 TR.int v13 (List.replicate (((y8).length : Int)).toNat (Value.slice none 0 0)) (List.replicate (((y8).length : Int)).toNat ([] : (List Int)))]) rfl ?_
 refine RL.asg rfl rfl rfl ?_
 refine RL.finG ?_
 refine GL.seq ?_
 refine GL.seq ?_
 refine GL.region ?_
 refine RL.mv rfl rfl rfl ?_
 refine RL.lenR 2 Try.underlying37 rfl rfl rfl rfl ?_
 refine RL.mv rfl rfl rfl ?_
 refine RL.finG ?_
 refine GL.lenR 2 rfl (fun n312 => ?_)
 obtain ⟨y313, K314, h315, h316, h317, h318, h319⟩ := bindR_K hm
 refine GL.join (ι := (List (List Int)) × (List Value)) (fun (p : (List (List Int)) × (List Value)) => [(3, v13)]) (fun (p : (List (List Int)) × (List Value)) => [own2 24 3 TR.int v13 p.2 p.1]) (fun (p : (List (List Int)) × (List Value)) => K314 (.nx p.1)) ?_ ?_
 ·refine GL.block ?_
  refine GL.loop (ι := Nat × Nat × (List (List Int)) × (List Value)) (fun (p : Nat × Nat × (List (List Int)) × (List Value)) => [(0, v0), (3, v13), (13, .int .i64 (((List.replicate (((y8).length : Int)).toNat ([] : (List Int)))).length : Int)), (14, .int .i64 (p.1 : Int))]) (fun (p : Nat × Nat × (List (List Int)) × (List Value)) => [imm (TR.sl (TR.sl TR.int)) v0 x0, own2 24 3 TR.int v13 p.2.2.2 p.2.2.1]) (fun (p : Nat × Nat × (List (List Int)) × (List Value)) => p.1 + p.2.1 = ((List.replicate (((y8).length : Int)).toNat ([] : (List Int)))).length ∧ rangeN (equil_turned_b1 x0) p.2.1 p.1 p.2.2.1 = some y313) (fun (p : Nat × Nat × (List (List Int)) × (List Value)) => p.2.1) (0, ((List.replicate (((y8).length : Int)).toNat ([] : (List Int)))).length, (List.replicate (((y8).length : Int)).toNat ([] : (List Int))), (List.replicate (((y8).length : Int)).toNat (Value.slice none 0 0))) ⟨by simp, h315⟩ (fun a w st => St.cut [0, 2] ⟨rfl, rfl, rfl, rfl, trivial⟩ (by decide) rfl st) ?_
  rintro ⟨i320, r321, l162, V163⟩ ⟨h326, h325⟩
  try dsimp only at h326 h325
  refine GL.weak (env' := [(0, v0), (3, v13), (13, .int .i64 (((List.replicate (((y8).length : Int)).toNat ([] : (List Int)))).length : Int)), (14, .int .i64 (i320 : Int))]) (L' := [imm (TR.sl (TR.sl TR.int)) v0 x0, own2 24 3 TR.int v13 V163 l162]) (fun _ _ st => st) ?_
  refine GL.seq ?_
  refine GL.region ?_
  refine RL.binI (v := .bool (decide ((i320 : Int) < (((List.replicate (((y8).length : Int)).toNat ([] : (List Int)))).length : Int)))) rfl rfl rfl rfl rfl ?_
  refine RL.finG ?_
  refine GL.seq ?_
  refine GL.cond rfl (fun b328 => ?_) (fun b328 => ?_)
  ·have h329 : i320 < ((List.replicate (((y8).length : Int)).toNat ([] : (List Int)))).length := by have := of_decide_eq_true b328; omega
   obtain ⟨r330, hr⟩ : ∃ m, r321 = m + 1 := ⟨r321 - 1, by omega⟩
   subst hr
   obtain ⟨z322, h323, h324⟩ := rangeN_some h325
   unfold equil_turned_b1 at h323
   try dsimp only at h323
   refine GL.skip ?_
   refine GL.seq ?_
   refine GL.block ?_
   refine GL.seq ?_
   refine GL.region ?_
   refine RL.mv rfl rfl rfl ?_
   refine RL.asg rfl rfl rfl ?_
   refine RL.finG ?_
   refine GL.seq ?_
   refine GL.region ?_
   refine RL.mv rfl rfl rfl ?_
   refine RL.lenS 0 Try.underlying37 rfl rfl rfl rfl SlOf.imm ?_
   refine RL.mv rfl rfl rfl ?_
   refine RL.finG ?_
   refine GL.open_ 0 rfl (fun S h => len_imm S h) (fun n417 => ?_)
   obtain ⟨y418, K419, h420, h421, h422, h423, h424⟩ := bindF_K h323
   refine GL.join (ι := (List (List Int)) × (List Value)) (fun (p : (List (List Int)) × (List Value)) => [(0, v0), (3, v13), (13, .int .i64 (((List.replicate (((y8).length : Int)).toNat ([] : (List Int)))).length : Int)), (14, .int .i64 (i320 : Int))]) (fun (p : (List (List Int)) × (List Value)) => [imm (TR.sl (TR.sl TR.int)) v0 x0, own2 24 3 TR.int v13 p.2 p.1]) (fun (p : (List (List Int)) × (List Value)) => K419 (.nx p.1)) ?_ ?_
   ·refine GL.block ?_
    refine GL.loop (ι := Nat × (List (List Int)) × (List (List Int)) × (List Value)) (fun (p : Nat × (List (List Int)) × (List (List Int)) × (List Value)) => [(0, v0), (3, v13), (4, .int .i64 (i320 : Int)), (13, .int .i64 (((List.replicate (((y8).length : Int)).toNat ([] : (List Int)))).length : Int)), (14, .int .i64 (i320 : Int)), (17, v0), (18, .int .i64 ((x0).length : Int)), (19, .int .i64 (p.1 : Int))]) (fun (p : Nat × (List (List Int)) × (List (List Int)) × (List Value)) => [imm (TR.sl (TR.sl TR.int)) v0 x0, own2 24 3 TR.int v13 p.2.2.2 p.2.2.1]) (fun (p : Nat × (List (List Int)) × (List (List Int)) × (List Value)) => p.1 + p.2.1.length = (x0).length ∧ List.drop p.1 x0 = p.2.1 ∧ rangeL (equil_turned_b2 i320) p.2.1 p.1 p.2.2.1 = some y418) (fun (p : Nat × (List (List Int)) × (List (List Int)) × (List Value)) => p.2.1.length) (0, x0, l162, V163) ⟨by simp, by simp, h420⟩ (fun a w st => St.cut [0, 1] ⟨rfl, rfl, rfl, rfl, rfl, rfl, rfl, rfl, trivial⟩ (by decide) rfl st) ?_
    rintro ⟨i425, r426, l373, V374⟩ ⟨h431, h432, h430⟩
    try dsimp only at h431 h432 h430
    refine GL.weak (env' := [(0, v0), (3, v13), (4, .int .i64 (i320 : Int)), (13, .int .i64 (((List.replicate (((y8).length : Int)).toNat ([] : (List Int)))).length : Int)), (14, .int .i64 (i320 : Int)), (17, v0), (18, .int .i64 ((x0).length : Int)), (19, .int .i64 (i425 : Int))]) (L' := [imm (TR.sl (TR.sl TR.int)) v0 x0, own2 24 3 TR.int v13 V374 l373]) (fun _ _ st => st) ?_
    refine GL.seq ?_
    refine GL.region ?_
    refine RL.binI (v := .bool (decide ((i425 : Int) < ((x0).length : Int)))) rfl rfl rfl rfl rfl ?_
    refine RL.finG ?_
    refine GL.seq ?_
    refine GL.cond rfl (fun b433 => ?_) (fun b433 => ?_)
    ·have h434 : i425 < (x0).length := by have := of_decide_eq_true b433; omega
     obtain ⟨y435, r437, hr, e436, h438⟩ := drop_cons h432 rfl h434
     subst hr
     obtain ⟨z427, h428, h429⟩ := rangeL_some h430
     unfold equil_turned_b2 at h428
     try dsimp only at h428
     refine GL.skip ?_
     refine GL.seq ?_
     refine GL.block ?_
     refine GL.seq ?_
     refine GL.region ?_
     refine RL.idxS (sz := 1) 0 Try.underlying37 Try_ln24 rfl rfl rfl rfl rfl SlOf.imm (by omega) (by omega) ?_
     refine RL.ldS (i := i425) (r := (TR.sl TR.int)) (e' := y435) 0 Try_ln24 rfl rfl rfl rfl SlOf.imm e436 Part.self ?_
     intro v440
     refine RL.asg rfl rfl rfl ?_
     refine RL.finG ?_
     refine GL.regionA rfl rfl ?_
     refine RA.mv 0 rfl (by kernel_rfl) rfl rfl rfl ?_
     refine RA.mv 1 rfl (by kernel_rfl) rfl rfl rfl ?_
     refine RA.mv 2 rfl (by kernel_rfl) rfl rfl rfl ?_
     refine RA.mv 3 rfl (by kernel_rfl) rfl rfl rfl ?_
     obtain ⟨y459, e460, h428⟩ := bind_some h428
     refine RA.idxR 1 Try.underlying37 Try_ln24 4 rfl (by kernel_rfl) rfl rfl rfl rfl rfl (idx_some e460).1 (idx_some e460).2.1 ?_
     refine RA.mv 6 rfl (by kernel_rfl) rfl rfl rfl ?_
     refine RA.mv 7 rfl (by kernel_rfl) rfl rfl rfl ?_
     obtain ⟨y461, e462, h428⟩ := bind_some h428
     refine RA.idxS (sz := 1) 2 Try.underlying24 Try_ln3 8 rfl (by kernel_rfl) rfl rfl rfl rfl rfl SlOf.imm (idx_some e462).1 (idx_some e462).2.1 ?_
     refine RA.meet (ι := Value) (fun (p : Value) => [(0, v0), (3, v13), (4, .int .i64 (i320 : Int)), (13, .int .i64 (((List.replicate (((y8).length : Int)).toNat ([] : (List Int)))).length : Int)), (14, .int .i64 (i320 : Int)), (17, v0), (18, .int .i64 ((x0).length : Int)), (19, .int .i64 (i425 : Int)), (23, v13), (24, .int .i64 (i320 : Int)), (28, rowv V374 i320), (33, p)]) (fun (p : Value) => [imm (TR.sl (TR.sl TR.int)) v0 x0, own2 24 3 TR.int v13 V374 l373, own 3 TR.int p ([y461] : (List Int))]) 3 #[true, true, true, true, true, true, true, true, true, true, true, false, false, false] (fun h465 => ?_) ?_
     ·skip
      refine RA.meet (ι := Value) (fun (p : Value) => [(0, v0), (3, v13), (4, .int .i64 (i320 : Int)), (13, .int .i64 (((List.replicate (((y8).length : Int)).toNat ([] : (List Int)))).length : Int)), (14, .int .i64 (i320 : Int)), (17, v0), (18, .int .i64 ((x0).length : Int)), (19, .int .i64 (i425 : Int)), (23, v13), (24, .int .i64 (i320 : Int)), (27, adr v13 (i320 * 1)), (33, p)]) (fun (p : Value) => [imm (TR.sl (TR.sl TR.int)) v0 x0, own2 24 3 TR.int v13 V374 l373, own 3 TR.int p ([y461] : (List Int))]) 4 #[true, true, true, true, true, false, true, true, true, true, true, false, false, false] (fun h466 => ?_) ?_
      rotate_left
      ·rintro v464
       refine RA.weak (env' := [(0, v0), (3, v13), (4, .int .i64 (i320 : Int)), (13, .int .i64 (((List.replicate (((y8).length : Int)).toNat ([] : (List Int)))).length : Int)), (14, .int .i64 (i320 : Int)), (17, v0), (18, .int .i64 ((x0).length : Int)), (19, .int .i64 (i425 : Int)), (23, v13), (24, .int .i64 (i320 : Int)), (27, adr v13 (i320 * 1)), (33, v464)]) (L' := [imm (TR.sl (TR.sl TR.int)) v0 x0, own2 24 3 TR.int v13 V374 l373, own 3 TR.int v464 ([y461] : (List Int))]) (fun _ _ st => st) ?_
       refine RA.seq 5 rfl (by kernel_rfl) ?_
       refine RL.ldR (i := i320) (r := y459) 1 Try_ln24 rfl rfl rfl rfl (idx_some e460).2.2 ?_
       refine RL.fin ?_
       refine RA.next ?_
       refine RA.relist 3 #[true, true, true, true, true, true, true, true, true, true, true, false, false, false] rfl (by kernel_rfl) ?_
       exact fun a w st => h465 v464 a w (St.cut [0, 1, 2] ⟨rfl, rfl, rfl, rfl, rfl, rfl, rfl, rfl, rfl, rfl, rfl, rfl, trivial⟩ (by decide) rfl st)
      refine RA.meet (ι := Unit) (fun (p : Unit) => [(0, v0), (3, v13), (4, .int .i64 (i320 : Int)), (13, .int .i64 (((List.replicate (((y8).length : Int)).toNat ([] : (List Int)))).length : Int)), (14, .int .i64 (i320 : Int)), (17, v0), (18, .int .i64 ((x0).length : Int)), (19, .int .i64 (i425 : Int)), (23, v13), (24, .int .i64 (i320 : Int)), (28, rowv V374 i320), (32, .int .i64 y461)]) (fun (p : Unit) => [imm (TR.sl (TR.sl TR.int)) v0 x0, own2 24 3 TR.int v13 V374 l373]) 4 #[true, true, true, true, true, true, true, true, true, true, false, false, false, false] (fun h467 => ?_) ?_
      rotate_left
      ·rintro ⟨⟩
       refine RA.weak (env' := [(0, v0), (3, v13), (4, .int .i64 (i320 : Int)), (13, .int .i64 (((List.replicate (((y8).length : Int)).toNat ([] : (List Int)))).length : Int)), (14, .int .i64 (i320 : Int)), (17, v0), (18, .int .i64 ((x0).length : Int)), (19, .int .i64 (i425 : Int)), (23, v13), (24, .int .i64 (i320 : Int)), (28, rowv V374 i320), (32, .int .i64 y461)]) (L' := [imm (TR.sl (TR.sl TR.int)) v0 x0, own2 24 3 TR.int v13 V374 l373]) (fun _ _ st => st) ?_
       refine RA.seq 10 rfl (by kernel_rfl) ?_
       refine RL.bS (t := TR.int) (vs := [.int .i64 y461]) ([y461] : (List Int)) Try.underlying24 Try_lo3 rfl rfl rfl rfl ⟨VR.int, trivial⟩ rfl (by decide) ?_
       intro v471
       refine RL.fin ?_
       refine RA.next ?_
       refine RA.relist 3 #[true, true, true, true, true, true, true, true, true, true, true, false, false, false] rfl (by kernel_rfl) ?_
       exact fun a w st => h465 v471 a w (St.cut [0, 1, 2] ⟨rfl, rfl, rfl, rfl, rfl, rfl, rfl, rfl, rfl, rfl, rfl, rfl, trivial⟩ (by decide) rfl st)
      refine RA.meet (ι := Unit) (fun (p : Unit) => [(0, v0), (3, v13), (4, .int .i64 (i320 : Int)), (13, .int .i64 (((List.replicate (((y8).length : Int)).toNat ([] : (List Int)))).length : Int)), (14, .int .i64 (i320 : Int)), (17, v0), (18, .int .i64 ((x0).length : Int)), (19, .int .i64 (i425 : Int)), (23, v13), (24, .int .i64 (i320 : Int)), (28, rowv V374 i320), (31, adr v440 (i320 * 1))]) (fun (p : Unit) => [imm (TR.sl (TR.sl TR.int)) v0 x0, own2 24 3 TR.int v13 V374 l373, imm (TR.sl TR.int) v440 y435]) 5 #[true, true, true, true, true, true, true, true, true, false, false, false, false, false] (fun h468 => ?_) ?_
      rotate_left
      ·rintro ⟨⟩
       refine RA.weak (env' := [(0, v0), (3, v13), (4, .int .i64 (i320 : Int)), (13, .int .i64 (((List.replicate (((y8).length : Int)).toNat ([] : (List Int)))).length : Int)), (14, .int .i64 (i320 : Int)), (17, v0), (18, .int .i64 ((x0).length : Int)), (19, .int .i64 (i425 : Int)), (23, v13), (24, .int .i64 (i320 : Int)), (28, rowv V374 i320), (31, adr v440 (i320 * 1))]) (L' := [imm (TR.sl (TR.sl TR.int)) v0 x0, own2 24 3 TR.int v13 V374 l373, imm (TR.sl TR.int) v440 y435]) (fun _ _ st => st) ?_
       refine RA.seq 9 rfl (by kernel_rfl) ?_
       refine RL.ldSx (i := i320) (e' := y461) 2 Ex.ik Try_ln3 rfl rfl rfl rfl SlOf.imm (idx_some e462).2.2 Part.self ?_
       refine RL.fin ?_
       refine RA.next ?_
       refine RA.relist 4 #[true, true, true, true, true, true, true, true, true, true, false, false, false, false] rfl (by kernel_rfl) ?_
       exact fun a w st => h467 () a w (St.cut [0, 1] ⟨rfl, rfl, rfl, rfl, rfl, rfl, rfl, rfl, rfl, rfl, rfl, rfl, trivial⟩ (by decide) rfl st)
      refine RA.meet (ι := Unit) (fun (p : Unit) => [(0, v0), (3, v13), (4, .int .i64 (i320 : Int)), (13, .int .i64 (((List.replicate (((y8).length : Int)).toNat ([] : (List Int)))).length : Int)), (14, .int .i64 (i320 : Int)), (17, v0), (18, .int .i64 ((x0).length : Int)), (19, .int .i64 (i425 : Int)), (23, v13), (24, .int .i64 (i320 : Int)), (27, adr v13 (i320 * 1)), (32, .int .i64 y461)]) (fun (p : Unit) => [imm (TR.sl (TR.sl TR.int)) v0 x0, own2 24 3 TR.int v13 V374 l373]) 5 #[true, true, true, true, true, false, true, true, true, true, false, false, false, false] (fun h469 => ?_) ?_
      rotate_left
      ·rintro ⟨⟩
       refine RA.weak (env' := [(0, v0), (3, v13), (4, .int .i64 (i320 : Int)), (13, .int .i64 (((List.replicate (((y8).length : Int)).toNat ([] : (List Int)))).length : Int)), (14, .int .i64 (i320 : Int)), (17, v0), (18, .int .i64 ((x0).length : Int)), (19, .int .i64 (i425 : Int)), (23, v13), (24, .int .i64 (i320 : Int)), (27, adr v13 (i320 * 1)), (32, .int .i64 y461)]) (L' := [imm (TR.sl (TR.sl TR.int)) v0 x0, own2 24 3 TR.int v13 V374 l373]) (fun _ _ st => st) ?_
       refine RA.many [5, 10] (by kernel_rfl) ⟨⟨_, rfl, ?_⟩, ⟨_, rfl, ?_⟩, trivial⟩
       ·skip
        refine RL.ldR (i := i320) (r := y459) 1 Try_ln24 rfl rfl rfl rfl (idx_some e460).2.2 ?_
        refine RL.fin ?_
        refine RA.next ?_
        refine RA.relist 4 #[true, true, true, true, true, true, true, true, true, true, false, false, false, false] rfl (by kernel_rfl) ?_
        exact fun a w st => h467 () a w (St.cut [0, 1] ⟨rfl, rfl, rfl, rfl, rfl, rfl, rfl, rfl, rfl, rfl, rfl, rfl, trivial⟩ (by decide) rfl st)
       refine RL.bS (t := TR.int) (vs := [.int .i64 y461]) ([y461] : (List Int)) Try.underlying24 Try_lo3 rfl rfl rfl rfl ⟨VR.int, trivial⟩ rfl (by decide) ?_
       intro v470
       refine RL.fin ?_
       refine RA.next ?_
       refine RA.relist 4 #[true, true, true, true, true, false, true, true, true, true, true, false, false, false] rfl (by kernel_rfl) ?_
       exact fun a w st => h466 v470 a w (St.cut [0, 1, 2] ⟨rfl, rfl, rfl, rfl, rfl, rfl, rfl, rfl, rfl, rfl, rfl, rfl, trivial⟩ (by decide) rfl st)
      refine RA.many [5, 9] (by kernel_rfl) ⟨⟨_, rfl, ?_⟩, ⟨_, rfl, ?_⟩, trivial⟩
      ·skip
       refine RL.ldR (i := i320) (r := y459) 1 Try_ln24 rfl rfl rfl rfl (idx_some e460).2.2 ?_
       refine RL.fin ?_
       refine RA.next ?_
       refine RA.relist 5 #[true, true, true, true, true, true, true, true, true, false, false, false, false, false] rfl (by kernel_rfl) ?_
       exact fun a w st => h468 () a w (St.cut [0, 1, 2] ⟨rfl, rfl, rfl, rfl, rfl, rfl, rfl, rfl, rfl, rfl, rfl, rfl, trivial⟩ (by decide) rfl st)
      refine RL.ldSx (i := i320) (e' := y461) 2 Ex.ik Try_ln3 rfl rfl rfl rfl SlOf.imm (idx_some e462).2.2 Part.self ?_
      refine RL.fin ?_
      refine RA.next ?_
      refine RA.relist 5 #[true, true, true, true, true, false, true, true, true, true, false, false, false, false] rfl (by kernel_rfl) ?_
      exact fun a w st => h469 () a w (St.cut [0, 1] ⟨rfl, rfl, rfl, rfl, rfl, rfl, rfl, rfl, rfl, rfl, rfl, rfl, trivial⟩ (by decide) rfl st)
     rintro v464
     refine RA.weak (env' := [(0, v0), (3, v13), (4, .int .i64 (i320 : Int)), (13, .int .i64 (((List.replicate (((y8).length : Int)).toNat ([] : (List Int)))).length : Int)), (14, .int .i64 (i320 : Int)), (17, v0), (18, .int .i64 ((x0).length : Int)), (19, .int .i64 (i425 : Int)), (23, v13), (24, .int .i64 (i320 : Int)), (28, rowv V374 i320), (33, v464)]) (L' := [imm (TR.sl (TR.sl TR.int)) v0 x0, own2 24 3 TR.int v13 V374 l373, own 3 TR.int v464 ([y461] : (List Int))]) (fun _ _ st => st) ?_
     refine RA.seq 11 rfl (by kernel_rfl) ?_
     refine RL.weak (fun a w st => st.takeRow 1 rfl (idx_some e460).2.2) ?_
     obtain ⟨y472, e473, h428⟩ := bind_some h428
     replace e473 := chk_some e473
     refine RL.app 3 2 Try.underlying24 Try_lo3 rfl rfl rfl rfl rfl rfl rfl SlOf.own e473 ?_
     intro v474
     refine RL.fin ?_
     refine RA.next ?_
     refine RA.seq 12 rfl (by kernel_rfl) ?_
     obtain ⟨y475, e476, h428⟩ := bind_some h428
     refine RL.idxRX 1 Try.underlying37 Try_ln24 rfl rfl rfl rfl rfl (idx_some e476).1 (idx_some e476).2.1 ?_
     refine RL.fin ?_
     refine RA.next ?_
     refine RA.seq 13 rfl (by kernel_rfl) ?_
     refine RL.stSpX (i := i320) (r0 := y475) 1 3 (by decide) Try_ln24 rfl rfl rfl rfl rfl rfl (idx_some e476).2.2 ?_
     refine RL.fin ?_
     refine RA.next ?_
     refine RA.doneG (by kernel_rfl) ?_
     refine GL.weak (env' := [(0, v0), (3, v13), (4, .int .i64 (i320 : Int)), (13, .int .i64 (((List.replicate (((y8).length : Int)).toNat ([] : (List Int)))).length : Int)), (14, .int .i64 (i320 : Int)), (17, v0), (18, .int .i64 ((x0).length : Int)), (19, .int .i64 (i425 : Int))]) (L' := [imm (TR.sl (TR.sl TR.int)) v0 x0, own2 24 3 TR.int v13 (List.set V374 i320 v474) (List.set l373 i320 (y459 ++ ([y461] : (List Int))))]) (fun a w st => St.cut [0, 1] ⟨rfl, rfl, rfl, rfl, rfl, rfl, rfl, rfl, trivial⟩ (by decide) rfl st) ?_
     refine GL.nilB ?_
     refine GL.region ?_
     refine RL.binI (v := .int .i64 ((i425 + 1 : Nat) : Int)) rfl rfl rfl rfl (binI_succ i425 (by omega)) ?_
     refine RL.mv rfl rfl rfl ?_
     refine RL.fin ?_
     cases h428
     exact fun a w st => lop_intro (i425 + 1, r437, (List.set l373 i320 (y459 ++ ([y461] : (List Int)))), (List.set V374 i320 v474)) ⟨by show i425 + 1 + r437.length = (x0).length; simp only [List.length_cons] at h431; omega, h438, h429⟩ (by simp) (St.cut [0, 1] ⟨rfl, rfl, rfl, rfl, rfl, rfl, rfl, rfl, trivial⟩ (by decide) rfl st)
    have h434 : ¬ i425 < (x0).length := by have := of_decide_eq_false b433; omega
    obtain rfl : r426 = [] := by rw [← h432]; exact List.drop_of_length_le (by omega)
    replace h430 : some (Fl.nx _) = some y418 := h430
    cases h430
    exact GL.exit (fun a w st => mid_intro (l373, V374) h421 (St.cut [0, 1] ⟨rfl, rfl, rfl, rfl, trivial⟩ (by decide) rfl st))
   rintro ⟨l373, V374⟩ h477
   have h478 := h422 _ h477
   try dsimp only at h478
   refine GL.weak (env' := [(0, v0), (3, v13), (13, .int .i64 (((List.replicate (((y8).length : Int)).toNat ([] : (List Int)))).length : Int)), (14, .int .i64 (i320 : Int))]) (L' := [imm (TR.sl (TR.sl TR.int)) v0 x0, own2 24 3 TR.int v13 V374 l373]) (fun _ _ st => st) ?_
   refine GL.nilB ?_
   refine GL.region ?_
   refine RL.binI (v := .int .i64 ((i320 + 1 : Nat) : Int)) rfl rfl rfl rfl (binI_succ i320 (by omega)) ?_
   refine RL.mv rfl rfl rfl ?_
   refine RL.fin ?_
   cases h478
   exact fun a w st => lop_intro (i320 + 1, r330, l373, V374) ⟨by show i320 + 1 + r330 = ((List.replicate (((y8).length : Int)).toNat ([] : (List Int)))).length; omega, h324⟩ (by simp) (St.cut [0, 1] ⟨rfl, rfl, rfl, rfl, trivial⟩ (by decide) rfl st)
  have h329 : ¬ i320 < ((List.replicate (((y8).length : Int)).toNat ([] : (List Int)))).length := by have := of_decide_eq_false b328; omega
  obtain rfl : r321 = 0 := by omega
  replace h325 : some (Fl.nx _) = some y313 := h325
  cases h325
  exact GL.exit (fun a w st => mid_intro (l162, V163) h316 (St.cut [1] ⟨rfl, trivial⟩ (by decide) rfl st))
 rintro ⟨l162, V163⟩ h479
 have h480 := h317 _ h479
 try dsimp only at h480
 refine GL.weak (env' := [(3, v13)]) (L' := [own2 24 3 TR.int v13 V163 l162]) (fun _ _ st => st) ?_
 refine GL.seq ?_
 refine GL.region ?_
 refine RL.mv rfl rfl rfl ?_
 refine RL.asg rfl rfl rfl ?_
 refine RL.finG ?_
 refine GL.weak (fun a w st => st.freeze2 0 rfl) ?_
 have h480 := Option.some.inj h480
 subst h480
 exact GL.ret (Gx.ret (v := v13) (res1 rfl rfl) (fun a w st => (st.pick [0] (by decide) rfl).toPost v13))

set_option maxHeartbeats 4000000 in
theorem equil_worse_c (S : Hp) (w : World) (hS : S.sub w) (v0 : Value) (x0 : (List (List Int))) (k0 : ((TR.sl (TR.sl TR.int))).vrep S v0 x0) (x1 : Int) (x2 : Int) (v3 : Value) (x3 : (List Bool)) (k3 : ((TR.arr 6 TR.bool)).vrep S v3 x3) (res : Bool) (hm : equil_worse_m x0 x1 x2 x3 = some res) : Calls Try.prog 90 #[v0, .int .i64 x1, .int .i64 x2, v3] w (PostV w (.bool res)) := by
 refine calls_enter 38 Try.func90 Try.ntmps90 rfl S false [(0, v0), (1, .int .i64 x1), (2, .int .i64 x2), (3, v3)] [imm (TR.sl (TR.sl TR.int)) v0 x0, imm (TR.arr 6 TR.bool) v3 x3] rfl ⟨rfl, ⟨rfl, ⟨rfl, ⟨rfl, trivial⟩⟩⟩⟩ hS ⟨k0, ⟨k3, trivial⟩⟩ ?_
 unfold equil_worse_m at hm
 refine GL.seq ?_
 refine GL.region ?_
 refine RL.box (t := (TR.arr 6 TR.bool)) (e := x3) rfl rfl rfl rfl (VR.item 1 rfl) ?_
 intro v6
 refine RL.asg rfl rfl rfl ?_
 refine RL.finG ?_
 refine GL.seq ?_
 refine GL.seq ?_
 refine GL.region ?_
 refine RL.mv rfl rfl rfl ?_
 obtain ⟨y10, e11, hm⟩ := bind_some hm
 refine RL.idxS (sz := 1) 0 Try.underlying37 Try_ln24 rfl rfl rfl rfl rfl SlOf.imm (idx_some e11).1 (idx_some e11).2.1 ?_
 refine RL.ldS (i := ((0 : Int)).toNat) (r := (TR.sl TR.int)) (e' := y10) 0 Try_ln24 rfl rfl rfl rfl SlOf.imm (idx_some e11).2.2 Part.self ?_
 intro v12
 refine RL.reL (L' := [imm (TR.sl (TR.sl TR.int)) v0 x0, imm (TR.arr 6 TR.bool) v3 x3, obox 112 (TR.arr 6 TR.bool) v6 x3, imm (TR.sl TR.int) v12 y10]) rfl ?_
 refine RL.lenS 3 Try.underlying24 rfl rfl rfl rfl SlOf.imm ?_
 refine RL.mv rfl rfl rfl ?_
 refine RL.finG ?_
 refine GL.open_ 3 rfl (fun S h => len_imm S h) (fun n63 => ?_)
 obtain ⟨y64, K65, h66, h67, h68, h69, h70⟩ := bindR_K hm
 refine GL.join (ι := Unit) (fun (p : Unit) => []) (fun (p : Unit) => []) (fun (p : Unit) => K65 (.nx ())) ?_ ?_
 ·refine GL.block ?_
  refine GL.loop (ι := Nat × (List Int)) (fun (p : Nat × (List Int)) => [(0, v0), (1, .int .i64 x1), (2, .int .i64 x2), (7, v6), (13, .int .i64 ((y10).length : Int)), (14, .int .i64 (p.1 : Int))]) (fun (p : Nat × (List Int)) => [imm (TR.sl (TR.sl TR.int)) v0 x0, obox 112 (TR.arr 6 TR.bool) v6 x3]) (fun (p : Nat × (List Int)) => p.1 + p.2.length = (y10).length ∧ List.drop p.1 y10 = p.2 ∧ rangeL (equil_worse_b1 x3 x0 x1 x2) p.2 p.1 () = some y64) (fun (p : Nat × (List Int)) => p.2.length) (0, y10) ⟨by simp, by simp, h66⟩ (fun a w st => St.cut [0, 2] ⟨rfl, rfl, rfl, rfl, rfl, rfl, trivial⟩ (by decide) rfl st) ?_
  rintro ⟨i71, r72⟩ ⟨h77, h78, h76⟩
  try dsimp only at h77 h78 h76
  refine GL.weak (env' := [(0, v0), (1, .int .i64 x1), (2, .int .i64 x2), (7, v6), (13, .int .i64 ((y10).length : Int)), (14, .int .i64 (i71 : Int))]) (L' := [imm (TR.sl (TR.sl TR.int)) v0 x0, obox 112 (TR.arr 6 TR.bool) v6 x3]) (fun _ _ st => st) ?_
  refine GL.seq ?_
  refine GL.region ?_
  refine RL.binI (v := .bool (decide ((i71 : Int) < ((y10).length : Int)))) rfl rfl rfl rfl rfl ?_
  refine RL.finG ?_
  refine GL.seq ?_
  refine GL.cond rfl (fun b79 => ?_) (fun b79 => ?_)
  ·have h80 : i71 < (y10).length := by have := of_decide_eq_true b79; omega
   obtain ⟨y81, r83, hr, e82, h84⟩ := drop_cons h78 rfl h80
   subst hr
   obtain ⟨z73, h74, h75⟩ := rangeL_some h76
   unfold equil_worse_b1 at h74
   try dsimp only at h74
   refine GL.skip ?_
   refine GL.seq ?_
   refine GL.block ?_
   refine GL.seq ?_
   refine GL.region ?_
   refine RL.mv rfl rfl rfl ?_
   refine RL.asg rfl rfl rfl ?_
   refine RL.finG ?_
   refine GL.seq ?_
   obtain ⟨y112, K113, h114, h115, h116, h117, h118⟩ := bindF_K h74
   refine GL.join (ι := Bool) (fun (p : Bool) => [(0, v0), (1, .int .i64 x1), (2, .int .i64 x2), (7, v6), (13, .int .i64 ((y10).length : Int)), (14, .int .i64 (i71 : Int)), (36, .bool p)]) (fun (p : Bool) => [imm (TR.sl (TR.sl TR.int)) v0 x0, obox 112 (TR.arr 6 TR.bool) v6 x3]) (fun (p : Bool) => K113 (.nx p)) ?_ ?_
   ·skip
    refine GL.regionQ rfl rfl (by kernel_rfl) ?_
    refine RL.mv rfl rfl rfl ?_
    obtain ⟨y119, e120, h114⟩ := bind_some h114
    refine RL.idxA0 (sz := 1) (t' := TR.bool) 1 Try.underlying112 Try_ln4 rfl rfl rfl PtOf.obox rfl rfl Part.self (idx_some e120).1 (idx_some e120).2.1 ?_
    refine RL.ldPx (off := (i71 * 1)) (e' := y119) 1 Ex.bool Try_ln4 rfl rfl (Or.inl rfl) rfl PtOf.obox (Part.arr (idx_some e120).2.2 Part.self) ?_
    refine RL.mv rfl rfl rfl ?_
    refine RL.split (t := 20) rfl (fun b121 => ?_) (fun b121 => ?_)
    ·replace h114 := ite_t b121 h114
     refine RL.mv rfl rfl rfl ?_
     refine RL.mv rfl rfl rfl ?_
     obtain ⟨y122, e123, h114⟩ := bind_some h114
     refine RL.idxS (sz := 1) 0 Try.underlying37 Try_ln24 rfl rfl rfl rfl rfl SlOf.imm (idx_some e123).1 (idx_some e123).2.1 ?_
     refine RL.ldS (i := (x1).toNat) (r := (TR.sl TR.int)) (e' := y122) 0 Try_ln24 rfl rfl rfl rfl SlOf.imm (idx_some e123).2.2 Part.self ?_
     intro v124
     refine RL.mv rfl rfl rfl ?_
     obtain ⟨y125, e126, h114⟩ := bind_some h114
     refine RL.idxS (sz := 1) 2 Try.underlying24 Try_ln3 rfl rfl rfl rfl rfl SlOf.imm (idx_some e126).1 (idx_some e126).2.1 ?_
     refine RL.ldSx (i := i71) (e' := y125) 2 Ex.ik Try_ln3 rfl rfl rfl rfl SlOf.imm (idx_some e126).2.2 Part.self ?_
     refine RL.mv rfl rfl rfl ?_
     refine RL.mv rfl rfl rfl ?_
     obtain ⟨y127, e128, h114⟩ := bind_some h114
     refine RL.idxS (sz := 1) 0 Try.underlying37 Try_ln24 rfl rfl rfl rfl rfl SlOf.imm (idx_some e128).1 (idx_some e128).2.1 ?_
     refine RL.ldS (i := (x2).toNat) (r := (TR.sl TR.int)) (e' := y127) 0 Try_ln24 rfl rfl rfl rfl SlOf.imm (idx_some e128).2.2 Part.self ?_
     intro v129
     refine RL.reL (L' := [imm (TR.sl (TR.sl TR.int)) v0 x0, obox 112 (TR.arr 6 TR.bool) v6 x3, imm (TR.sl TR.int) v124 y122, imm (TR.sl TR.int) v129 y127]) rfl ?_
     refine RL.mv rfl rfl rfl ?_
     obtain ⟨y130, e131, h114⟩ := bind_some h114
     refine RL.idxS (sz := 1) 3 Try.underlying24 Try_ln3 rfl rfl rfl rfl rfl SlOf.imm (idx_some e131).1 (idx_some e131).2.1 ?_
     refine RL.ldSx (i := i71) (e' := y130) 3 Ex.ik Try_ln3 rfl rfl rfl rfl SlOf.imm (idx_some e131).2.2 Part.self ?_
     refine RL.binI (v := .bool (decide (y125 ≥ y130))) rfl rfl rfl rfl rfl ?_
     refine RL.pickT rfl rfl rfl rfl ?_
     refine RL.finQ ?_
     cases h114
     exact fun a w st => mid_intro (decide (y125 ≥ y130)) h115 (St.cut [0, 1] ⟨rfl, rfl, rfl, rfl, rfl, rfl, rfl, trivial⟩ (by decide) rfl st)
    replace h114 := ite_f b121 h114
    refine RL.skip rfl rfl ?_
    refine RL.skip rfl rfl ?_
    refine RL.skip rfl rfl ?_
    refine RL.skip rfl rfl ?_
    refine RL.skip rfl rfl ?_
    refine RL.skip rfl rfl ?_
    refine RL.skip rfl rfl ?_
    refine RL.skip rfl rfl ?_
    refine RL.skip rfl rfl ?_
    refine RL.skip rfl rfl ?_
    refine RL.skip rfl rfl ?_
    refine RL.skip rfl rfl ?_
    refine RL.skip rfl rfl ?_
    refine RL.skip rfl rfl ?_
    refine RL.skip rfl rfl ?_
    refine RL.pickF rfl rfl rfl rfl ?_
    refine RL.finQ ?_
    cases h114
    exact fun a w st => mid_intro false h115 (St.cut [0, 1] ⟨rfl, rfl, rfl, rfl, rfl, rfl, rfl, trivial⟩ (by decide) rfl st)
   rintro x111 h132
   have h133 := h116 _ h132
   try dsimp only at h133
   refine GL.weak (env' := [(0, v0), (1, .int .i64 x1), (2, .int .i64 x2), (7, v6), (13, .int .i64 ((y10).length : Int)), (14, .int .i64 (i71 : Int)), (36, .bool x111)]) (L' := [imm (TR.sl (TR.sl TR.int)) v0 x0, obox 112 (TR.arr 6 TR.bool) v6 x3]) (fun _ _ st => st) ?_
   refine GL.cond rfl (fun b134 => ?_) (fun b134 => ?_)
   ·replace h133 := ite_t b134 h133
    refine GL.seq ?_
    refine GL.region ?_
    refine RL.asg rfl rfl rfl ?_
    refine RL.finG ?_
    cases h133
    replace h75 : some (Fl.rt _) = some y64 := h75
    cases h75
    have hh := h69 _ h67
    subst hh
    exact GL.ret (Gx.ret (v := .bool false) (res1 rfl rfl) (fun a w st => st.toPostV))
   replace h133 := ite_f b134 h133
   refine GL.skip ?_
   refine GL.nilB ?_
   refine GL.region ?_
   refine RL.binI (v := .int .i64 ((i71 + 1 : Nat) : Int)) rfl rfl rfl rfl (binI_succ i71 (by omega)) ?_
   refine RL.mv rfl rfl rfl ?_
   refine RL.fin ?_
   cases h133
   exact fun a w st => lop_intro (i71 + 1, r83) ⟨by show i71 + 1 + r83.length = (y10).length; simp only [List.length_cons] at h77; omega, h84, h75⟩ (by simp) (St.cut [0, 1] ⟨rfl, rfl, rfl, rfl, rfl, rfl, trivial⟩ (by decide) rfl st)
  have h80 : ¬ i71 < (y10).length := by have := of_decide_eq_false b79; omega
  obtain rfl : r72 = [] := by rw [← h78]; exact List.drop_of_length_le (by omega)
  replace h76 : some (Fl.nx _) = some y64 := h76
  cases h76
  exact GL.exit (fun a w st => mid_intro () h67 (St.cut [] trivial (by decide) rfl st))
 rintro ⟨⟩ h135
 have h136 := h68 _ h135
 try dsimp only at h136
 refine GL.weak (env' := []) (L' := []) (fun _ _ st => st) ?_
 refine GL.seq ?_
 refine GL.region ?_
 refine RL.asg rfl rfl rfl ?_
 refine RL.finG ?_
 have h136 := Option.some.inj h136
 subst h136
 exact GL.ret (Gx.ret (v := .bool true) (res1 rfl rfl) (fun a w st => st.toPostV))

set_option maxHeartbeats 4000000 in
theorem equil_Left_c (S : Hp) (w : World) (hS : S.sub w) (v0 : Value) (x0 : (List (List Int))) (k0 : ((TR.sl (TR.sl TR.int))).vrep S v0 x0) (v1 : Value) (x1 : (List (List Int))) (k1 : ((TR.sl (TR.sl TR.int))).vrep S v1 x1) (res : (List Int) × (List Int) × Int) (hm : equil_Left_m x0 x1 = some res) : Calls Try.prog 35 #[v0, v1] w (Post w S (fun (o : Value × Value) => .tuple #[o.1, o.2, .int .i64 res.2.2]) (fun (o : Value × Value) => [own 3 TR.int o.1 res.1, own 3 TR.int o.2 res.2.1])) := by
 refine calls_enter 133 Try.func35 Try.ntmps35 rfl S false [(0, v0), (1, v1)] [imm (TR.sl (TR.sl TR.int)) v0 x0, imm (TR.sl (TR.sl TR.int)) v1 x1] rfl ⟨rfl, ⟨rfl, trivial⟩⟩ hS ⟨k0, ⟨k1, trivial⟩⟩ ?_
 unfold equil_Left_m at hm
 refine GL.seq ?_
 refine GL.region ?_
 refine RL.asg rfl rfl rfl ?_
 refine RL.asg rfl rfl rfl ?_
 refine RL.asg rfl rfl rfl ?_
 refine RL.finG ?_
 refine GL.seq ?_
 refine GL.seq ?_
 refine GL.region ?_
 refine RL.mv rfl rfl rfl ?_
 refine RL.mv rfl rfl rfl ?_
 obtain ⟨y5, e6, hm⟩ := bind_some hm
 refine RL.callV (v := .int .i64 y5) (vs := [v0, v1]) Try_fit87 rfl (Or.inl rfl) rfl rfl rfl rfl (fun U w hU hW hL => equil_Check_c U w hU _ _ (hL 0 _ _ rfl Seen.imm) _ _ (hL 1 _ _ rfl Seen.imm) _ e6) ?_
 refine RL.asg rfl rfl rfl ?_
 refine RL.finG ?_
 refine GL.seq ?_
 refine GL.region ?_
 refine RL.mv rfl rfl rfl ?_
 refine RL.binI (v := .bool (y5 != (0 : Int))) rfl rfl rfl rfl rfl ?_
 refine RL.finG ?_
 refine GL.cond rfl (fun b7 => ?_) (fun b7 => ?_)
 ·replace hm := ite_t b7 hm
  refine GL.seq ?_
  refine GL.region ?_
  refine RL.mv rfl rfl rfl ?_
  refine RL.asg rfl rfl rfl ?_
  refine RL.asg rfl rfl rfl ?_
  refine RL.asg rfl rfl rfl ?_
  refine RL.finG ?_
  refine GL.weak (fun a w st => st.nilOwn 3 TR.int) ?_
  refine GL.weak (fun a w st => st.nilOwn 3 TR.int) ?_
  have hm := Option.some.inj hm
  subst hm
  exact GL.ret (Gx.ret (v := .tuple #[Value.slice none 0 0, Value.slice none 0 0, .int .i64 y5]) (res3 rfl rfl rfl rfl) (fun a w st => (st.pick [2, 3] (by decide) rfl).toPost (Value.slice none 0 0, Value.slice none 0 0)))
 replace hm := ite_f b7 hm
 refine GL.skip ?_
 refine GL.seq ?_
 refine GL.region ?_
 refine RL.mv rfl rfl rfl ?_
 obtain ⟨y11, e12, hm⟩ := bind_some hm
 refine RL.call (vs := [v1]) Try_fit89 rfl rfl rfl rfl rfl (fun S f w hS hW hi => equil_turned_c S w hS _ _ (hi 1 _ rfl) _ e12) ?_
 intro v13
 refine RL.asg rfl rfl rfl ?_
 refine RL.finG ?_
 refine GL.seq ?_
 refine GL.region ?_
 refine RL.alloc (t := (TR.arr 6 TR.bool)) (z := (List.replicate 6 false)) Try_lo112 (fun S => ⟨rfl, ⟨_, _, rfl, rfl, ⟨_, _, rfl, rfl, ⟨_, _, rfl, rfl, ⟨_, _, rfl, rfl, ⟨_, _, rfl, rfl, ⟨_, _, rfl, rfl, rfl⟩⟩⟩⟩⟩⟩⟩) rfl rfl rfl ?_
 intro v16
 refine RL.reL (L' := [imm (TR.sl (TR.sl TR.int)) v0 x0, imm (TR.sl (TR.sl TR.int)) v1 x1, imm (TR.sl (TR.sl TR.int)) v13 y11, obox 112 (TR.arr 6 TR.bool) v16 (List.replicate 6 false)]) rfl ?_
 refine RL.alloc (t := (TR.arr 6 TR.bool)) (z := (List.replicate 6 false)) Try_lo112 (fun S => ⟨rfl, ⟨_, _, rfl, rfl, ⟨_, _, rfl, rfl, ⟨_, _, rfl, rfl, ⟨_, _, rfl, rfl, ⟨_, _, rfl, rfl, ⟨_, _, rfl, rfl, rfl⟩⟩⟩⟩⟩⟩⟩) rfl rfl rfl ?_
 intro v17
 refine RL.finG ?_
 refine GL.seq ?_
 refine GL.seq ?_
 refine GL.region ?_
 refine RL.mv rfl rfl rfl ?_
 refine RL.lenS 0 Try.underlying37 rfl rfl rfl rfl SlOf.imm ?_
 refine RL.mv rfl rfl rfl ?_
 refine RL.finG ?_
 refine GL.open_ 0 rfl (fun S h => len_imm S h) (fun n27 => ?_)
 obtain ⟨y28, K29, h30, h31, h32, h33, h34⟩ := bindR_K hm
 refine GL.join (ι := (List Bool)) (fun (p : (List Bool)) => [(0, v0), (8, v13), (9, v16), (10, v17)]) (fun (p : (List Bool)) => [imm (TR.sl (TR.sl TR.int)) v0 x0, imm (TR.sl (TR.sl TR.int)) v13 y11, obox 112 (TR.arr 6 TR.bool) v16 p, obox 112 (TR.arr 6 TR.bool) v17 (List.replicate 6 false)]) (fun (p : (List Bool)) => K29 (.nx p)) ?_ ?_
 ·refine GL.block ?_
  refine GL.loop (ι := Nat × (List (List Int)) × (List Bool)) (fun (p : Nat × (List (List Int)) × (List Bool)) => [(0, v0), (8, v13), (9, v16), (10, v17), (31, .int .i64 ((x0).length : Int)), (32, .int .i64 (p.1 : Int))]) (fun (p : Nat × (List (List Int)) × (List Bool)) => [imm (TR.sl (TR.sl TR.int)) v0 x0, imm (TR.sl (TR.sl TR.int)) v13 y11, obox 112 (TR.arr 6 TR.bool) v16 p.2.2, obox 112 (TR.arr 6 TR.bool) v17 (List.replicate 6 false)]) (fun (p : Nat × (List (List Int)) × (List Bool)) => p.1 + p.2.1.length = (x0).length ∧ List.drop p.1 x0 = p.2.1 ∧ rangeL equil_Left_b1 p.2.1 p.1 p.2.2 = some y28) (fun (p : Nat × (List (List Int)) × (List Bool)) => p.2.1.length) (0, x0, (List.replicate 6 false)) ⟨by simp, by simp, h30⟩ (fun a w st => St.cut [0, 2, 3, 4] ⟨rfl, rfl, rfl, rfl, rfl, rfl, trivial⟩ (by decide) rfl st) ?_
  rintro ⟨i35, r36, l22⟩ ⟨h41, h42, h40⟩
  try dsimp only at h41 h42 h40
  refine GL.weak (env' := [(0, v0), (8, v13), (9, v16), (10, v17), (31, .int .i64 ((x0).length : Int)), (32, .int .i64 (i35 : Int))]) (L' := [imm (TR.sl (TR.sl TR.int)) v0 x0, imm (TR.sl (TR.sl TR.int)) v13 y11, obox 112 (TR.arr 6 TR.bool) v16 l22, obox 112 (TR.arr 6 TR.bool) v17 (List.replicate 6 false)]) (fun _ _ st => st) ?_
  refine GL.seq ?_
  refine GL.region ?_
  refine RL.binI (v := .bool (decide ((i35 : Int) < ((x0).length : Int)))) rfl rfl rfl rfl rfl ?_
  refine RL.finG ?_
  refine GL.seq ?_
  refine GL.cond rfl (fun b43 => ?_) (fun b43 => ?_)
  ·have h44 : i35 < (x0).length := by have := of_decide_eq_true b43; omega
   obtain ⟨y45, r47, hr, e46, h48⟩ := drop_cons h42 rfl h44
   subst hr
   obtain ⟨z37, h38, h39⟩ := rangeL_some h40
   unfold equil_Left_b1 at h38
   try dsimp only at h38
   refine GL.skip ?_
   refine GL.seq ?_
   refine GL.block ?_
   refine GL.seq ?_
   refine GL.region ?_
   refine RL.mv rfl rfl rfl ?_
   refine RL.asg rfl rfl rfl ?_
   refine RL.finG ?_
   refine GL.region ?_
   refine RL.mv rfl rfl rfl ?_
   obtain ⟨y51, e52, h38⟩ := bind_some h38
   refine RL.idxA0 (sz := 1) (t' := TR.bool) 2 Try.underlying112 Try_ln4 rfl rfl rfl PtOf.obox rfl rfl Part.self (idx_some e52).1 (idx_some e52).2.1 ?_
   refine RL.stP (off := (i35 * 1)) (e' := true) (d1 := (List.set l22 i35 true)) (r := TR.bool) 2 Try_ln4 rfl rfl (Or.inl rfl) rfl VR.bool rfl (Upd.arr (idx_some e52).2.2 Upd.self) ?_
   refine RL.finG ?_
   refine GL.nilB ?_
   refine GL.region ?_
   refine RL.binI (v := .int .i64 ((i35 + 1 : Nat) : Int)) rfl rfl rfl rfl (binI_succ i35 (by omega)) ?_
   refine RL.mv rfl rfl rfl ?_
   refine RL.fin ?_
   cases h38
   exact fun a w st => lop_intro (i35 + 1, r47, (List.set l22 i35 true)) ⟨by show i35 + 1 + r47.length = (x0).length; simp only [List.length_cons] at h41; omega, h48, h39⟩ (by simp) (St.cut [0, 1, 2, 3] ⟨rfl, rfl, rfl, rfl, rfl, rfl, trivial⟩ (by decide) rfl st)
  have h44 : ¬ i35 < (x0).length := by have := of_decide_eq_false b43; omega
  obtain rfl : r36 = [] := by rw [← h42]; exact List.drop_of_length_le (by omega)
  replace h40 : some (Fl.nx _) = some y28 := h40
  cases h40
  exact GL.exit (fun a w st => mid_intro l22 h31 (St.cut [0, 1, 2, 3] ⟨rfl, rfl, rfl, rfl, trivial⟩ (by decide) rfl st))
 rintro l22 h53
 have h54 := h32 _ h53
 try dsimp only at h54
 refine GL.weak (env' := [(0, v0), (8, v13), (9, v16), (10, v17)]) (L' := [imm (TR.sl (TR.sl TR.int)) v0 x0, imm (TR.sl (TR.sl TR.int)) v13 y11, obox 112 (TR.arr 6 TR.bool) v16 l22, obox 112 (TR.arr 6 TR.bool) v17 (List.replicate 6 false)]) (fun _ _ st => st) ?_
 refine GL.seq ?_
 refine GL.seq ?_
 refine GL.region ?_
 refine RL.mv rfl rfl rfl ?_
 refine RL.lenS 1 Try.underlying37 rfl rfl rfl rfl SlOf.imm ?_
 refine RL.mv rfl rfl rfl ?_
 refine RL.finG ?_
 refine GL.open_ 1 rfl (fun S h => len_imm S h) (fun n64 => ?_)
 obtain ⟨y65, K66, h67, h68, h69, h70, h71⟩ := bindR_K h54
 refine GL.join (ι := (List Bool)) (fun (p : (List Bool)) => [(0, v0), (8, v13), (9, v16), (10, v17)]) (fun (p : (List Bool)) => [imm (TR.sl (TR.sl TR.int)) v0 x0, imm (TR.sl (TR.sl TR.int)) v13 y11, obox 112 (TR.arr 6 TR.bool) v16 l22, obox 112 (TR.arr 6 TR.bool) v17 p]) (fun (p : (List Bool)) => K66 (.nx p)) ?_ ?_
 ·refine GL.block ?_
  refine GL.loop (ι := Nat × (List (List Int)) × (List Bool)) (fun (p : Nat × (List (List Int)) × (List Bool)) => [(0, v0), (8, v13), (9, v16), (10, v17), (39, .int .i64 ((y11).length : Int)), (40, .int .i64 (p.1 : Int))]) (fun (p : Nat × (List (List Int)) × (List Bool)) => [imm (TR.sl (TR.sl TR.int)) v0 x0, imm (TR.sl (TR.sl TR.int)) v13 y11, obox 112 (TR.arr 6 TR.bool) v16 l22, obox 112 (TR.arr 6 TR.bool) v17 p.2.2]) (fun (p : Nat × (List (List Int)) × (List Bool)) => p.1 + p.2.1.length = (y11).length ∧ List.drop p.1 y11 = p.2.1 ∧ rangeL equil_Left_b2 p.2.1 p.1 p.2.2 = some y65) (fun (p : Nat × (List (List Int)) × (List Bool)) => p.2.1.length) (0, y11, (List.replicate 6 false)) ⟨by simp, by simp, h67⟩ (fun a w st => St.cut [0, 1, 2, 3] ⟨rfl, rfl, rfl, rfl, rfl, rfl, trivial⟩ (by decide) rfl st) ?_
  rintro ⟨i72, r73, l59⟩ ⟨h78, h79, h77⟩
  try dsimp only at h78 h79 h77
  refine GL.weak (env' := [(0, v0), (8, v13), (9, v16), (10, v17), (39, .int .i64 ((y11).length : Int)), (40, .int .i64 (i72 : Int))]) (L' := [imm (TR.sl (TR.sl TR.int)) v0 x0, imm (TR.sl (TR.sl TR.int)) v13 y11, obox 112 (TR.arr 6 TR.bool) v16 l22, obox 112 (TR.arr 6 TR.bool) v17 l59]) (fun _ _ st => st) ?_
  refine GL.seq ?_
  refine GL.region ?_
  refine RL.binI (v := .bool (decide ((i72 : Int) < ((y11).length : Int)))) rfl rfl rfl rfl rfl ?_
  refine RL.finG ?_
  refine GL.seq ?_
  refine GL.cond rfl (fun b80 => ?_) (fun b80 => ?_)
  ·have h81 : i72 < (y11).length := by have := of_decide_eq_true b80; omega
   obtain ⟨y82, r84, hr, e83, h85⟩ := drop_cons h79 rfl h81
   subst hr
   obtain ⟨z74, h75, h76⟩ := rangeL_some h77
   unfold equil_Left_b2 at h75
   try dsimp only at h75
   refine GL.skip ?_
   refine GL.seq ?_
   refine GL.block ?_
   refine GL.seq ?_
   refine GL.region ?_
   refine RL.mv rfl rfl rfl ?_
   refine RL.asg rfl rfl rfl ?_
   refine RL.finG ?_
   refine GL.region ?_
   refine RL.mv rfl rfl rfl ?_
   obtain ⟨y88, e89, h75⟩ := bind_some h75
   refine RL.idxA0 (sz := 1) (t' := TR.bool) 3 Try.underlying112 Try_ln4 rfl rfl rfl PtOf.obox rfl rfl Part.self (idx_some e89).1 (idx_some e89).2.1 ?_
   refine RL.stP (off := (i72 * 1)) (e' := true) (d1 := (List.set l59 i72 true)) (r := TR.bool) 3 Try_ln4 rfl rfl (Or.inl rfl) rfl VR.bool rfl (Upd.arr (idx_some e89).2.2 Upd.self) ?_
   refine RL.finG ?_
   refine GL.nilB ?_
   refine GL.region ?_
   refine RL.binI (v := .int .i64 ((i72 + 1 : Nat) : Int)) rfl rfl rfl rfl (binI_succ i72 (by omega)) ?_
   refine RL.mv rfl rfl rfl ?_
   refine RL.fin ?_
   cases h75
   exact fun a w st => lop_intro (i72 + 1, r84, (List.set l59 i72 true)) ⟨by show i72 + 1 + r84.length = (y11).length; simp only [List.length_cons] at h78; omega, h85, h76⟩ (by simp) (St.cut [0, 1, 2, 3] ⟨rfl, rfl, rfl, rfl, rfl, rfl, trivial⟩ (by decide) rfl st)
  have h81 : ¬ i72 < (y11).length := by have := of_decide_eq_false b80; omega
  obtain rfl : r73 = [] := by rw [← h79]; exact List.drop_of_length_le (by omega)
  replace h77 : some (Fl.nx _) = some y65 := h77
  cases h77
  exact GL.exit (fun a w st => mid_intro l59 h68 (St.cut [0, 1, 2, 3] ⟨rfl, rfl, rfl, rfl, trivial⟩ (by decide) rfl st))
 rintro l59 h90
 have h91 := h69 _ h90
 try dsimp only at h91
 refine GL.weak (env' := [(0, v0), (8, v13), (9, v16), (10, v17)]) (L' := [imm (TR.sl (TR.sl TR.int)) v0 x0, imm (TR.sl (TR.sl TR.int)) v13 y11, obox 112 (TR.arr 6 TR.bool) v16 l22, obox 112 (TR.arr 6 TR.bool) v17 l59]) (fun _ _ st => st) ?_
 refine GL.seq ?_
 refine GL.seq ?_
 refine GL.region ?_
 refine RL.asg rfl rfl rfl ?_
 refine RL.finG ?_
 obtain ⟨y2042, K2043, h2044, h2045, h2046, h2047, h2048⟩ := bindR_K h91
 refine GL.join (ι := (List Bool) × (List Bool) × Bool) (fun (p : (List Bool) × (List Bool) × Bool) => [(0, v0), (8, v13), (9, v16), (10, v17)]) (fun (p : (List Bool) × (List Bool) × Bool) => [imm (TR.sl (TR.sl TR.int)) v0 x0, imm (TR.sl (TR.sl TR.int)) v13 y11, obox 112 (TR.arr 6 TR.bool) v16 p.1, obox 112 (TR.arr 6 TR.bool) v17 p.2.1]) (fun (p : (List Bool) × (List Bool) × Bool) => K2043 (.nx (p.1, p.2.1, p.2.2))) ?_ ?_
 ·refine GL.block ?_
  refine GL.loop (ι := Nat × (List Bool) × (List Bool) × Bool) (fun (p : Nat × (List Bool) × (List Bool) × Bool) => [(0, v0), (8, v13), (9, v16), (10, v17), (13, .bool p.2.2.2)]) (fun (p : Nat × (List Bool) × (List Bool) × Bool) => [imm (TR.sl (TR.sl TR.int)) v0 x0, imm (TR.sl (TR.sl TR.int)) v13 y11, obox 112 (TR.arr 6 TR.bool) v16 p.2.1, obox 112 (TR.arr 6 TR.bool) v17 p.2.2.1]) (fun (p : Nat × (List Bool) × (List Bool) × Bool) => loopM (equil_Left_b3 x0 y11) p.1 (p.2.1, p.2.2.1, p.2.2.2) = some y2042) (fun (p : Nat × (List Bool) × (List Bool) × Bool) => p.1) (1048576, l22, l59, true) h2044 (fun a w st => St.cut [0, 1, 2, 3] ⟨rfl, rfl, rfl, rfl, rfl, trivial⟩ (by decide) rfl st) ?_
  rintro ⟨r2050, l1066, l1067, x1068⟩ h2054
  try dsimp only at h2054
  refine GL.weak (env' := [(0, v0), (8, v13), (9, v16), (10, v17), (13, .bool x1068)]) (L' := [imm (TR.sl (TR.sl TR.int)) v0 x0, imm (TR.sl (TR.sl TR.int)) v13 y11, obox 112 (TR.arr 6 TR.bool) v16 l1066, obox 112 (TR.arr 6 TR.bool) v17 l1067]) (fun _ _ st => st) ?_
  obtain ⟨r2057, z2051, hr, h2052, h2053⟩ := loopM_some h2054
  subst hr
  unfold equil_Left_b3 at h2052
  try dsimp only at h2052
  refine GL.seq ?_
  refine GL.seq ?_
  refine GL.region ?_
  refine RL.mv rfl rfl rfl ?_
  refine RL.finG ?_
  refine GL.cond rfl (fun b2058 => ?_) (fun b2058 => ?_)
  ·replace h2052 := ite_t b2058 h2052
   refine GL.skip ?_
   refine GL.block ?_
   refine GL.seq ?_
   refine GL.region ?_
   refine RL.asg rfl rfl rfl ?_
   refine RL.finG ?_
   refine GL.seq ?_
   refine GL.seq ?_
   refine GL.region ?_
   refine RL.mv rfl rfl rfl ?_
   refine RL.lenS 0 Try.underlying37 rfl rfl rfl rfl SlOf.imm ?_
   refine RL.mv rfl rfl rfl ?_
   refine RL.finG ?_
   refine GL.open_ 0 rfl (fun S h => len_imm S h) (fun n2368 => ?_)
   obtain ⟨y2369, K2370, h2371, h2372, h2373, h2374, h2375⟩ := bindF_K h2052
   refine GL.join (ι := (List Bool) × Bool) (fun (p : (List Bool) × Bool) => [(0, v0), (8, v13), (9, v16), (10, v17), (13, .bool p.2)]) (fun (p : (List Bool) × Bool) => [imm (TR.sl (TR.sl TR.int)) v0 x0, imm (TR.sl (TR.sl TR.int)) v13 y11, obox 112 (TR.arr 6 TR.bool) v16 p.1, obox 112 (TR.arr 6 TR.bool) v17 l1067]) (fun (p : (List Bool) × Bool) => K2370 (.nx (p.1, p.2))) ?_ ?_
   ·refine GL.block ?_
    refine GL.loop (ι := Nat × (List (List Int)) × (List Bool) × Bool) (fun (p : Nat × (List (List Int)) × (List Bool) × Bool) => [(0, v0), (8, v13), (9, v16), (10, v17), (13, .bool p.2.2.2), (48, .int .i64 ((x0).length : Int)), (49, .int .i64 (p.1 : Int))]) (fun (p : Nat × (List (List Int)) × (List Bool) × Bool) => [imm (TR.sl (TR.sl TR.int)) v0 x0, imm (TR.sl (TR.sl TR.int)) v13 y11, obox 112 (TR.arr 6 TR.bool) v16 p.2.2.1, obox 112 (TR.arr 6 TR.bool) v17 l1067]) (fun (p : Nat × (List (List Int)) × (List Bool) × Bool) => p.1 + p.2.1.length = (x0).length ∧ List.drop p.1 x0 = p.2.1 ∧ rangeL (equil_Left_b4 x0 l1067) p.2.1 p.1 (p.2.2.1, p.2.2.2) = some y2369) (fun (p : Nat × (List (List Int)) × (List Bool) × Bool) => p.2.1.length) (0, x0, l1066, false) ⟨by simp, by simp, h2371⟩ (fun a w st => St.cut [0, 1, 2, 3] ⟨rfl, rfl, rfl, rfl, rfl, rfl, rfl, trivial⟩ (by decide) rfl st) ?_
    rintro ⟨i2376, r2377, l2213, x2214⟩ ⟨h2382, h2383, h2381⟩
    try dsimp only at h2382 h2383 h2381
    refine GL.weak (env' := [(0, v0), (8, v13), (9, v16), (10, v17), (13, .bool x2214), (48, .int .i64 ((x0).length : Int)), (49, .int .i64 (i2376 : Int))]) (L' := [imm (TR.sl (TR.sl TR.int)) v0 x0, imm (TR.sl (TR.sl TR.int)) v13 y11, obox 112 (TR.arr 6 TR.bool) v16 l2213, obox 112 (TR.arr 6 TR.bool) v17 l1067]) (fun _ _ st => st) ?_
    refine GL.seq ?_
    refine GL.region ?_
    refine RL.binI (v := .bool (decide ((i2376 : Int) < ((x0).length : Int)))) rfl rfl rfl rfl rfl ?_
    refine RL.finG ?_
    refine GL.seq ?_
    refine GL.cond rfl (fun b2384 => ?_) (fun b2384 => ?_)
    ·have h2385 : i2376 < (x0).length := by have := of_decide_eq_true b2384; omega
     obtain ⟨y2386, r2388, hr, e2387, h2389⟩ := drop_cons h2383 rfl h2385
     subst hr
     obtain ⟨z2378, h2379, h2380⟩ := rangeL_some h2381
     unfold equil_Left_b4 at h2379
     try dsimp only at h2379
     refine GL.skip ?_
     refine GL.seq ?_
     refine GL.block ?_
     refine GL.seq ?_
     refine GL.region ?_
     refine RL.mv rfl rfl rfl ?_
     refine RL.asg rfl rfl rfl ?_
     refine RL.finG ?_
     refine GL.seq ?_
     refine GL.region ?_
     refine RL.mv rfl rfl rfl ?_
     refine RL.lenS 0 Try.underlying37 rfl rfl rfl rfl SlOf.imm ?_
     refine RL.mv rfl rfl rfl ?_
     refine RL.finG ?_
     refine GL.open_ 0 rfl (fun S h => len_imm S h) (fun n2477 => ?_)
     obtain ⟨y2478, K2479, h2480, h2481, h2482, h2483, h2484⟩ := bindF_K h2379
     refine GL.join (ι := (List Bool) × Bool) (fun (p : (List Bool) × Bool) => [(0, v0), (8, v13), (9, v16), (10, v17), (13, .bool p.2), (48, .int .i64 ((x0).length : Int)), (49, .int .i64 (i2376 : Int))]) (fun (p : (List Bool) × Bool) => [imm (TR.sl (TR.sl TR.int)) v0 x0, imm (TR.sl (TR.sl TR.int)) v13 y11, obox 112 (TR.arr 6 TR.bool) v16 p.1, obox 112 (TR.arr 6 TR.bool) v17 l1067]) (fun (p : (List Bool) × Bool) => K2479 (.nx (p.1, p.2))) ?_ ?_
     ·refine GL.block ?_
      refine GL.loop (ι := Nat × (List (List Int)) × (List Bool) × Bool) (fun (p : Nat × (List (List Int)) × (List Bool) × Bool) => [(0, v0), (8, v13), (9, v16), (10, v17), (13, .bool p.2.2.2), (14, .int .i64 (i2376 : Int)), (48, .int .i64 ((x0).length : Int)), (49, .int .i64 (i2376 : Int)), (53, .int .i64 ((x0).length : Int)), (54, .int .i64 (p.1 : Int))]) (fun (p : Nat × (List (List Int)) × (List Bool) × Bool) => [imm (TR.sl (TR.sl TR.int)) v0 x0, imm (TR.sl (TR.sl TR.int)) v13 y11, obox 112 (TR.arr 6 TR.bool) v16 p.2.2.1, obox 112 (TR.arr 6 TR.bool) v17 l1067]) (fun (p : Nat × (List (List Int)) × (List Bool) × Bool) => p.1 + p.2.1.length = (x0).length ∧ List.drop p.1 x0 = p.2.1 ∧ rangeL (equil_Left_b5 i2376 x0 l1067) p.2.1 p.1 (p.2.2.1, p.2.2.2) = some y2478) (fun (p : Nat × (List (List Int)) × (List Bool) × Bool) => p.2.1.length) (0, x0, l2213, x2214) ⟨by simp, by simp, h2480⟩ (fun a w st => St.cut [0, 1, 2, 3] ⟨rfl, rfl, rfl, rfl, rfl, rfl, rfl, rfl, rfl, rfl, trivial⟩ (by decide) rfl st) ?_
      rintro ⟨i2485, r2486, l2433, x2434⟩ ⟨h2491, h2492, h2490⟩
      try dsimp only at h2491 h2492 h2490
      refine GL.weak (env' := [(0, v0), (8, v13), (9, v16), (10, v17), (13, .bool x2434), (14, .int .i64 (i2376 : Int)), (48, .int .i64 ((x0).length : Int)), (49, .int .i64 (i2376 : Int)), (53, .int .i64 ((x0).length : Int)), (54, .int .i64 (i2485 : Int))]) (L' := [imm (TR.sl (TR.sl TR.int)) v0 x0, imm (TR.sl (TR.sl TR.int)) v13 y11, obox 112 (TR.arr 6 TR.bool) v16 l2433, obox 112 (TR.arr 6 TR.bool) v17 l1067]) (fun _ _ st => st) ?_
      refine GL.seq ?_
      refine GL.region ?_
      refine RL.binI (v := .bool (decide ((i2485 : Int) < ((x0).length : Int)))) rfl rfl rfl rfl rfl ?_
      refine RL.finG ?_
      refine GL.seq ?_
      refine GL.cond rfl (fun b2493 => ?_) (fun b2493 => ?_)
      ·have h2494 : i2485 < (x0).length := by have := of_decide_eq_true b2493; omega
       obtain ⟨y2495, r2497, hr, e2496, h2498⟩ := drop_cons h2492 rfl h2494
       subst hr
       obtain ⟨z2487, h2488, h2489⟩ := rangeL_some h2490
       unfold equil_Left_b5 at h2488
       try dsimp only at h2488
       refine GL.skip ?_
       refine GL.seq ?_
       refine GL.block ?_
       refine GL.seq ?_
       refine GL.region ?_
       refine RL.mv rfl rfl rfl ?_
       refine RL.asg rfl rfl rfl ?_
       refine RL.finG ?_
       refine GL.seq ?_
       obtain ⟨y2518, K2519, h2520, h2521, h2522, h2523, h2524⟩ := bindF_K h2488
       refine GL.join (ι := Bool) (fun (p : Bool) => [(0, v0), (8, v13), (9, v16), (10, v17), (13, .bool x2434), (14, .int .i64 (i2376 : Int)), (48, .int .i64 ((x0).length : Int)), (49, .int .i64 (i2376 : Int)), (53, .int .i64 ((x0).length : Int)), (54, .int .i64 (i2485 : Int)), (71, .bool p)]) (fun (p : Bool) => [imm (TR.sl (TR.sl TR.int)) v0 x0, imm (TR.sl (TR.sl TR.int)) v13 y11, obox 112 (TR.arr 6 TR.bool) v16 l2433, obox 112 (TR.arr 6 TR.bool) v17 l1067]) (fun (p : Bool) => K2519 (.nx p)) ?_ ?_
       ·skip
        refine GL.region ?_
        refine RL.mv rfl rfl rfl ?_
        obtain ⟨y2525, e2526, h2520⟩ := bind_some h2520
        refine RL.idxA0 (sz := 1) (t' := TR.bool) 2 Try.underlying112 Try_ln4 rfl rfl rfl PtOf.obox rfl rfl Part.self (idx_some e2526).1 (idx_some e2526).2.1 ?_
        refine RL.ldPx (off := (i2376 * 1)) (e' := y2525) 2 Ex.bool Try_ln4 rfl rfl (Or.inl rfl) rfl PtOf.obox (Part.arr (idx_some e2526).2.2 Part.self) ?_
        refine RL.mv rfl rfl rfl ?_
        refine RL.split (t := 60) rfl (fun b2527 => ?_) (fun b2527 => ?_)
        ·replace h2520 := ite_t b2527 h2520
         refine RL.mv rfl rfl rfl ?_
         obtain ⟨y2528, e2529, h2520⟩ := bind_some h2520
         refine RL.idxA0 (sz := 1) (t' := TR.bool) 2 Try.underlying112 Try_ln4 rfl rfl rfl PtOf.obox rfl rfl Part.self (idx_some e2529).1 (idx_some e2529).2.1 ?_
         refine RL.ldPx (off := (i2485 * 1)) (e' := y2528) 2 Ex.bool Try_ln4 rfl rfl (Or.inl rfl) rfl PtOf.obox (Part.arr (idx_some e2529).2.2 Part.self) ?_
         refine RL.pickT rfl rfl rfl rfl ?_
         refine RL.mv rfl rfl rfl ?_
         refine RL.split (t := 65) rfl (fun b2530 => ?_) (fun b2530 => ?_)
         ·replace h2520 := ite_t b2530 h2520
          refine RL.mv rfl rfl rfl ?_
          refine RL.mv rfl rfl rfl ?_
          refine RL.mv rfl rfl rfl ?_
          refine RL.ldP (off := 0) (r := (TR.arr 6 TR.bool)) (e' := l1067) 3 Try_ln112 rfl rfl (Or.inr ⟨rfl, rfl⟩) rfl PtOf.obox Part.self ?_
          intro v2531
          obtain ⟨y2532, e2533, h2520⟩ := bind_some h2520
          refine RL.callV (v := .bool y2532) (vs := [v0, .int .i64 (i2376 : Int), .int .i64 (i2485 : Int), v2531]) Try_fit90 rfl (Or.inl rfl) rfl rfl rfl rfl (fun U w hU hW hL => equil_worse_c U w hU _ _ (hL 0 _ _ rfl Seen.imm) (i2376 : Int) (i2485 : Int) _ _ (hL 4 _ _ rfl Seen.imm) _ e2533) ?_
          refine RL.pickT rfl rfl rfl rfl ?_
          refine RL.fin ?_
          cases h2520
          exact fun a w st => mid_intro y2532 h2521 (St.cut [0, 1, 2, 3] ⟨rfl, rfl, rfl, rfl, rfl, rfl, rfl, rfl, rfl, rfl, rfl, trivial⟩ (by decide) rfl st)
         replace h2520 := ite_f b2530 h2520
         refine RL.skip rfl rfl ?_
         refine RL.skip rfl rfl ?_
         refine RL.skip rfl rfl ?_
         refine RL.skip rfl rfl ?_
         refine RL.skip rfl rfl ?_
         refine RL.pickF rfl rfl rfl rfl ?_
         refine RL.fin ?_
         cases h2520
         exact fun a w st => mid_intro false h2521 (St.cut [0, 1, 2, 3] ⟨rfl, rfl, rfl, rfl, rfl, rfl, rfl, rfl, rfl, rfl, rfl, trivial⟩ (by decide) rfl st)
        replace h2520 := ite_f b2527 h2520
        refine RL.skip rfl rfl ?_
        refine RL.skip rfl rfl ?_
        refine RL.skip rfl rfl ?_
        refine RL.pickF rfl rfl rfl rfl ?_
        refine RL.mv rfl rfl rfl ?_
        refine RL.skip rfl rfl ?_
        refine RL.skip rfl rfl ?_
        refine RL.skip rfl rfl ?_
        refine RL.skip rfl rfl ?_
        refine RL.skip rfl rfl ?_
        refine RL.pickF rfl rfl rfl rfl ?_
        refine RL.fin ?_
        cases h2520
        exact fun a w st => mid_intro false h2521 (St.cut [0, 1, 2, 3] ⟨rfl, rfl, rfl, rfl, rfl, rfl, rfl, rfl, rfl, rfl, rfl, trivial⟩ (by decide) rfl st)
       rintro x2517 h2534
       have h2535 := h2522 _ h2534
       try dsimp only at h2535
       refine GL.weak (env' := [(0, v0), (8, v13), (9, v16), (10, v17), (13, .bool x2434), (14, .int .i64 (i2376 : Int)), (48, .int .i64 ((x0).length : Int)), (49, .int .i64 (i2376 : Int)), (53, .int .i64 ((x0).length : Int)), (54, .int .i64 (i2485 : Int)), (71, .bool x2517)]) (L' := [imm (TR.sl (TR.sl TR.int)) v0 x0, imm (TR.sl (TR.sl TR.int)) v13 y11, obox 112 (TR.arr 6 TR.bool) v16 l2433, obox 112 (TR.arr 6 TR.bool) v17 l1067]) (fun _ _ st => st) ?_
       refine GL.cond rfl (fun b2536 => ?_) (fun b2536 => ?_)
       ·replace h2535 := ite_t b2536 h2535
        refine GL.region ?_
        refine RL.mv rfl rfl rfl ?_
        obtain ⟨y2539, e2540, h2535⟩ := bind_some h2535
        refine RL.idxA0 (sz := 1) (t' := TR.bool) 2 Try.underlying112 Try_ln4 rfl rfl rfl PtOf.obox rfl rfl Part.self (idx_some e2540).1 (idx_some e2540).2.1 ?_
        refine RL.stP (off := (i2376 * 1)) (e' := false) (d1 := (List.set l2433 i2376 false)) (r := TR.bool) 2 Try_ln4 rfl rfl (Or.inl rfl) rfl VR.bool rfl (Upd.arr (idx_some e2540).2.2 Upd.self) ?_
        refine RL.asg rfl rfl rfl ?_
        refine RL.finG ?_
        refine GL.nilB ?_
        refine GL.region ?_
        refine RL.binI (v := .int .i64 ((i2485 + 1 : Nat) : Int)) rfl rfl rfl rfl (binI_succ i2485 (by omega)) ?_
        refine RL.mv rfl rfl rfl ?_
        refine RL.fin ?_
        cases h2535
        exact fun a w st => lop_intro (i2485 + 1, r2497, (List.set l2433 i2376 false), true) ⟨by show i2485 + 1 + r2497.length = (x0).length; simp only [List.length_cons] at h2491; omega, h2498, h2489⟩ (by simp) (St.cut [0, 1, 2, 3] ⟨rfl, rfl, rfl, rfl, rfl, rfl, rfl, rfl, rfl, rfl, trivial⟩ (by decide) rfl st)
       replace h2535 := ite_f b2536 h2535
       refine GL.skip ?_
       refine GL.nilB ?_
       refine GL.region ?_
       refine RL.binI (v := .int .i64 ((i2485 + 1 : Nat) : Int)) rfl rfl rfl rfl (binI_succ i2485 (by omega)) ?_
       refine RL.mv rfl rfl rfl ?_
       refine RL.fin ?_
       cases h2535
       exact fun a w st => lop_intro (i2485 + 1, r2497, l2433, x2434) ⟨by show i2485 + 1 + r2497.length = (x0).length; simp only [List.length_cons] at h2491; omega, h2498, h2489⟩ (by simp) (St.cut [0, 1, 2, 3] ⟨rfl, rfl, rfl, rfl, rfl, rfl, rfl, rfl, rfl, rfl, trivial⟩ (by decide) rfl st)
      have h2494 : ¬ i2485 < (x0).length := by have := of_decide_eq_false b2493; omega
      obtain rfl : r2486 = [] := by rw [← h2492]; exact List.drop_of_length_le (by omega)
      replace h2490 : some (Fl.nx _) = some y2478 := h2490
      cases h2490
      exact GL.exit (fun a w st => mid_intro (l2433, x2434) h2481 (St.cut [0, 1, 2, 3] ⟨rfl, rfl, rfl, rfl, rfl, rfl, rfl, trivial⟩ (by decide) rfl st))
     rintro ⟨l2433, x2434⟩ h2541
     have h2542 := h2482 _ h2541
     try dsimp only at h2542
     refine GL.weak (env' := [(0, v0), (8, v13), (9, v16), (10, v17), (13, .bool x2434), (48, .int .i64 ((x0).length : Int)), (49, .int .i64 (i2376 : Int))]) (L' := [imm (TR.sl (TR.sl TR.int)) v0 x0, imm (TR.sl (TR.sl TR.int)) v13 y11, obox 112 (TR.arr 6 TR.bool) v16 l2433, obox 112 (TR.arr 6 TR.bool) v17 l1067]) (fun _ _ st => st) ?_
     refine GL.nilB ?_
     refine GL.region ?_
     refine RL.binI (v := .int .i64 ((i2376 + 1 : Nat) : Int)) rfl rfl rfl rfl (binI_succ i2376 (by omega)) ?_
     refine RL.mv rfl rfl rfl ?_
     refine RL.fin ?_
     cases h2542
     exact fun a w st => lop_intro (i2376 + 1, r2388, l2433, x2434) ⟨by show i2376 + 1 + r2388.length = (x0).length; simp only [List.length_cons] at h2382; omega, h2389, h2380⟩ (by simp) (St.cut [0, 1, 2, 3] ⟨rfl, rfl, rfl, rfl, rfl, rfl, rfl, trivial⟩ (by decide) rfl st)
    have h2385 : ¬ i2376 < (x0).length := by have := of_decide_eq_false b2384; omega
    obtain rfl : r2377 = [] := by rw [← h2383]; exact List.drop_of_length_le (by omega)
    replace h2381 : some (Fl.nx _) = some y2369 := h2381
    cases h2381
    exact GL.exit (fun a w st => mid_intro (l2213, x2214) h2372 (St.cut [0, 1, 2, 3] ⟨rfl, rfl, rfl, rfl, rfl, trivial⟩ (by decide) rfl st))
   rintro ⟨l2213, x2214⟩ h2543
   have h2544 := h2373 _ h2543
   try dsimp only at h2544
   refine GL.weak (env' := [(0, v0), (8, v13), (9, v16), (10, v17), (13, .bool x2214)]) (L' := [imm (TR.sl (TR.sl TR.int)) v0 x0, imm (TR.sl (TR.sl TR.int)) v13 y11, obox 112 (TR.arr 6 TR.bool) v16 l2213, obox 112 (TR.arr 6 TR.bool) v17 l1067]) (fun _ _ st => st) ?_
   refine GL.seq ?_
   refine GL.region ?_
   refine RL.mv rfl rfl rfl ?_
   refine RL.lenS 1 Try.underlying37 rfl rfl rfl rfl SlOf.imm ?_
   refine RL.mv rfl rfl rfl ?_
   refine RL.finG ?_
   refine GL.open_ 1 rfl (fun S h => len_imm S h) (fun n2854 => ?_)
   obtain ⟨y2855, K2856, h2857, h2858, h2859, h2860, h2861⟩ := bindF_K h2544
   refine GL.join (ι := (List Bool) × Bool) (fun (p : (List Bool) × Bool) => [(0, v0), (8, v13), (9, v16), (10, v17), (13, .bool p.2)]) (fun (p : (List Bool) × Bool) => [imm (TR.sl (TR.sl TR.int)) v0 x0, imm (TR.sl (TR.sl TR.int)) v13 y11, obox 112 (TR.arr 6 TR.bool) v16 l2213, obox 112 (TR.arr 6 TR.bool) v17 p.1]) (fun (p : (List Bool) × Bool) => K2856 (.nx (p.1, p.2))) ?_ ?_
   ·refine GL.block ?_
    refine GL.loop (ι := Nat × (List (List Int)) × (List Bool) × Bool) (fun (p : Nat × (List (List Int)) × (List Bool) × Bool) => [(0, v0), (8, v13), (9, v16), (10, v17), (13, .bool p.2.2.2), (77, .int .i64 ((y11).length : Int)), (78, .int .i64 (p.1 : Int))]) (fun (p : Nat × (List (List Int)) × (List Bool) × Bool) => [imm (TR.sl (TR.sl TR.int)) v0 x0, imm (TR.sl (TR.sl TR.int)) v13 y11, obox 112 (TR.arr 6 TR.bool) v16 l2213, obox 112 (TR.arr 6 TR.bool) v17 p.2.2.1]) (fun (p : Nat × (List (List Int)) × (List Bool) × Bool) => p.1 + p.2.1.length = (y11).length ∧ List.drop p.1 y11 = p.2.1 ∧ rangeL (equil_Left_b6 y11 l2213) p.2.1 p.1 (p.2.2.1, p.2.2.2) = some y2855) (fun (p : Nat × (List (List Int)) × (List Bool) × Bool) => p.2.1.length) (0, y11, l1067, x2214) ⟨by simp, by simp, h2857⟩ (fun a w st => St.cut [0, 1, 2, 3] ⟨rfl, rfl, rfl, rfl, rfl, rfl, rfl, trivial⟩ (by decide) rfl st) ?_
    rintro ⟨i2862, r2863, l2699, x2700⟩ ⟨h2868, h2869, h2867⟩
    try dsimp only at h2868 h2869 h2867
    refine GL.weak (env' := [(0, v0), (8, v13), (9, v16), (10, v17), (13, .bool x2700), (77, .int .i64 ((y11).length : Int)), (78, .int .i64 (i2862 : Int))]) (L' := [imm (TR.sl (TR.sl TR.int)) v0 x0, imm (TR.sl (TR.sl TR.int)) v13 y11, obox 112 (TR.arr 6 TR.bool) v16 l2213, obox 112 (TR.arr 6 TR.bool) v17 l2699]) (fun _ _ st => st) ?_
    refine GL.seq ?_
    refine GL.region ?_
    refine RL.binI (v := .bool (decide ((i2862 : Int) < ((y11).length : Int)))) rfl rfl rfl rfl rfl ?_
    refine RL.finG ?_
    refine GL.seq ?_
    refine GL.cond rfl (fun b2870 => ?_) (fun b2870 => ?_)
    ·have h2871 : i2862 < (y11).length := by have := of_decide_eq_true b2870; omega
     obtain ⟨y2872, r2874, hr, e2873, h2875⟩ := drop_cons h2869 rfl h2871
     subst hr
     obtain ⟨z2864, h2865, h2866⟩ := rangeL_some h2867
     unfold equil_Left_b6 at h2865
     try dsimp only at h2865
     refine GL.skip ?_
     refine GL.seq ?_
     refine GL.block ?_
     refine GL.seq ?_
     refine GL.region ?_
     refine RL.mv rfl rfl rfl ?_
     refine RL.asg rfl rfl rfl ?_
     refine RL.finG ?_
     refine GL.seq ?_
     refine GL.region ?_
     refine RL.mv rfl rfl rfl ?_
     refine RL.lenS 1 Try.underlying37 rfl rfl rfl rfl SlOf.imm ?_
     refine RL.mv rfl rfl rfl ?_
     refine RL.finG ?_
     refine GL.open_ 1 rfl (fun S h => len_imm S h) (fun n2963 => ?_)
     obtain ⟨y2964, K2965, h2966, h2967, h2968, h2969, h2970⟩ := bindF_K h2865
     refine GL.join (ι := (List Bool) × Bool) (fun (p : (List Bool) × Bool) => [(0, v0), (8, v13), (9, v16), (10, v17), (13, .bool p.2), (77, .int .i64 ((y11).length : Int)), (78, .int .i64 (i2862 : Int))]) (fun (p : (List Bool) × Bool) => [imm (TR.sl (TR.sl TR.int)) v0 x0, imm (TR.sl (TR.sl TR.int)) v13 y11, obox 112 (TR.arr 6 TR.bool) v16 l2213, obox 112 (TR.arr 6 TR.bool) v17 p.1]) (fun (p : (List Bool) × Bool) => K2965 (.nx (p.1, p.2))) ?_ ?_
     ·refine GL.block ?_
      refine GL.loop (ι := Nat × (List (List Int)) × (List Bool) × Bool) (fun (p : Nat × (List (List Int)) × (List Bool) × Bool) => [(0, v0), (8, v13), (9, v16), (10, v17), (13, .bool p.2.2.2), (16, .int .i64 (i2862 : Int)), (77, .int .i64 ((y11).length : Int)), (78, .int .i64 (i2862 : Int)), (82, .int .i64 ((y11).length : Int)), (83, .int .i64 (p.1 : Int))]) (fun (p : Nat × (List (List Int)) × (List Bool) × Bool) => [imm (TR.sl (TR.sl TR.int)) v0 x0, imm (TR.sl (TR.sl TR.int)) v13 y11, obox 112 (TR.arr 6 TR.bool) v16 l2213, obox 112 (TR.arr 6 TR.bool) v17 p.2.2.1]) (fun (p : Nat × (List (List Int)) × (List Bool) × Bool) => p.1 + p.2.1.length = (y11).length ∧ List.drop p.1 y11 = p.2.1 ∧ rangeL (equil_Left_b7 i2862 y11 l2213) p.2.1 p.1 (p.2.2.1, p.2.2.2) = some y2964) (fun (p : Nat × (List (List Int)) × (List Bool) × Bool) => p.2.1.length) (0, y11, l2699, x2700) ⟨by simp, by simp, h2966⟩ (fun a w st => St.cut [0, 1, 2, 3] ⟨rfl, rfl, rfl, rfl, rfl, rfl, rfl, rfl, rfl, rfl, trivial⟩ (by decide) rfl st) ?_
      rintro ⟨i2971, r2972, l2919, x2920⟩ ⟨h2977, h2978, h2976⟩
      try dsimp only at h2977 h2978 h2976
      refine GL.weak (env' := [(0, v0), (8, v13), (9, v16), (10, v17), (13, .bool x2920), (16, .int .i64 (i2862 : Int)), (77, .int .i64 ((y11).length : Int)), (78, .int .i64 (i2862 : Int)), (82, .int .i64 ((y11).length : Int)), (83, .int .i64 (i2971 : Int))]) (L' := [imm (TR.sl (TR.sl TR.int)) v0 x0, imm (TR.sl (TR.sl TR.int)) v13 y11, obox 112 (TR.arr 6 TR.bool) v16 l2213, obox 112 (TR.arr 6 TR.bool) v17 l2919]) (fun _ _ st => st) ?_
      refine GL.seq ?_
      refine GL.region ?_
      refine RL.binI (v := .bool (decide ((i2971 : Int) < ((y11).length : Int)))) rfl rfl rfl rfl rfl ?_
      refine RL.finG ?_
      refine GL.seq ?_
      refine GL.cond rfl (fun b2979 => ?_) (fun b2979 => ?_)
      ·have h2980 : i2971 < (y11).length := by have := of_decide_eq_true b2979; omega
       obtain ⟨y2981, r2983, hr, e2982, h2984⟩ := drop_cons h2978 rfl h2980
       subst hr
       obtain ⟨z2973, h2974, h2975⟩ := rangeL_some h2976
       unfold equil_Left_b7 at h2974
       try dsimp only at h2974
       refine GL.skip ?_
       refine GL.seq ?_
       refine GL.block ?_
       refine GL.seq ?_
       refine GL.region ?_
       refine RL.mv rfl rfl rfl ?_
       refine RL.asg rfl rfl rfl ?_
       refine RL.finG ?_
       refine GL.seq ?_
       obtain ⟨y3004, K3005, h3006, h3007, h3008, h3009, h3010⟩ := bindF_K h2974
       refine GL.join (ι := Bool) (fun (p : Bool) => [(0, v0), (8, v13), (9, v16), (10, v17), (13, .bool x2920), (16, .int .i64 (i2862 : Int)), (77, .int .i64 ((y11).length : Int)), (78, .int .i64 (i2862 : Int)), (82, .int .i64 ((y11).length : Int)), (83, .int .i64 (i2971 : Int)), (100, .bool p)]) (fun (p : Bool) => [imm (TR.sl (TR.sl TR.int)) v0 x0, imm (TR.sl (TR.sl TR.int)) v13 y11, obox 112 (TR.arr 6 TR.bool) v16 l2213, obox 112 (TR.arr 6 TR.bool) v17 l2919]) (fun (p : Bool) => K3005 (.nx p)) ?_ ?_
       ·skip
        refine GL.region ?_
        refine RL.mv rfl rfl rfl ?_
        obtain ⟨y3011, e3012, h3006⟩ := bind_some h3006
        refine RL.idxA0 (sz := 1) (t' := TR.bool) 3 Try.underlying112 Try_ln4 rfl rfl rfl PtOf.obox rfl rfl Part.self (idx_some e3012).1 (idx_some e3012).2.1 ?_
        refine RL.ldPx (off := (i2862 * 1)) (e' := y3011) 3 Ex.bool Try_ln4 rfl rfl (Or.inl rfl) rfl PtOf.obox (Part.arr (idx_some e3012).2.2 Part.self) ?_
        refine RL.mv rfl rfl rfl ?_
        refine RL.split (t := 89) rfl (fun b3013 => ?_) (fun b3013 => ?_)
        ·replace h3006 := ite_t b3013 h3006
         refine RL.mv rfl rfl rfl ?_
         obtain ⟨y3014, e3015, h3006⟩ := bind_some h3006
         refine RL.idxA0 (sz := 1) (t' := TR.bool) 3 Try.underlying112 Try_ln4 rfl rfl rfl PtOf.obox rfl rfl Part.self (idx_some e3015).1 (idx_some e3015).2.1 ?_
         refine RL.ldPx (off := (i2971 * 1)) (e' := y3014) 3 Ex.bool Try_ln4 rfl rfl (Or.inl rfl) rfl PtOf.obox (Part.arr (idx_some e3015).2.2 Part.self) ?_
         refine RL.pickT rfl rfl rfl rfl ?_
         refine RL.mv rfl rfl rfl ?_
         refine RL.split (t := 94) rfl (fun b3016 => ?_) (fun b3016 => ?_)
         ·replace h3006 := ite_t b3016 h3006
          refine RL.mv rfl rfl rfl ?_
          refine RL.mv rfl rfl rfl ?_
          refine RL.mv rfl rfl rfl ?_
          refine RL.ldP (off := 0) (r := (TR.arr 6 TR.bool)) (e' := l2213) 2 Try_ln112 rfl rfl (Or.inr ⟨rfl, rfl⟩) rfl PtOf.obox Part.self ?_
          intro v3017
          obtain ⟨y3018, e3019, h3006⟩ := bind_some h3006
          refine RL.callV (v := .bool y3018) (vs := [v13, .int .i64 (i2862 : Int), .int .i64 (i2971 : Int), v3017]) Try_fit90 rfl (Or.inl rfl) rfl rfl rfl rfl (fun U w hU hW hL => equil_worse_c U w hU _ _ (hL 1 _ _ rfl Seen.imm) (i2862 : Int) (i2971 : Int) _ _ (hL 4 _ _ rfl Seen.imm) _ e3019) ?_
          refine RL.pickT rfl rfl rfl rfl ?_
          refine RL.fin ?_
          cases h3006
          exact fun a w st => mid_intro y3018 h3007 (St.cut [0, 1, 2, 3] ⟨rfl, rfl, rfl, rfl, rfl, rfl, rfl, rfl, rfl, rfl, rfl, trivial⟩ (by decide) rfl st)
         replace h3006 := ite_f b3016 h3006
         refine RL.skip rfl rfl ?_
         refine RL.skip rfl rfl ?_
         refine RL.skip rfl rfl ?_
         refine RL.skip rfl rfl ?_
         refine RL.skip rfl rfl ?_
         refine RL.pickF rfl rfl rfl rfl ?_
         refine RL.fin ?_
         cases h3006
         exact fun a w st => mid_intro false h3007 (St.cut [0, 1, 2, 3] ⟨rfl, rfl, rfl, rfl, rfl, rfl, rfl, rfl, rfl, rfl, rfl, trivial⟩ (by decide) rfl st)
        replace h3006 := ite_f b3013 h3006
        refine RL.skip rfl rfl ?_
        refine RL.skip rfl rfl ?_
        refine RL.skip rfl rfl ?_
        refine RL.pickF rfl rfl rfl rfl ?_
        refine RL.mv rfl rfl rfl ?_
        refine RL.skip rfl rfl ?_
        refine RL.skip rfl rfl ?_
        refine RL.skip rfl rfl ?_
        refine RL.skip rfl rfl ?_
        refine RL.skip rfl rfl ?_
        refine RL.pickF rfl rfl rfl rfl ?_
        refine RL.fin ?_
        cases h3006
        exact fun a w st => mid_intro false h3007 (St.cut [0, 1, 2, 3] ⟨rfl, rfl, rfl, rfl, rfl, rfl, rfl, rfl, rfl, rfl, rfl, trivial⟩ (by decide) rfl st)
       rintro x3003 h3020
       have h3021 := h3008 _ h3020
       try dsimp only at h3021
       refine GL.weak (env' := [(0, v0), (8, v13), (9, v16), (10, v17), (13, .bool x2920), (16, .int .i64 (i2862 : Int)), (77, .int .i64 ((y11).length : Int)), (78, .int .i64 (i2862 : Int)), (82, .int .i64 ((y11).length : Int)), (83, .int .i64 (i2971 : Int)), (100, .bool x3003)]) (L' := [imm (TR.sl (TR.sl TR.int)) v0 x0, imm (TR.sl (TR.sl TR.int)) v13 y11, obox 112 (TR.arr 6 TR.bool) v16 l2213, obox 112 (TR.arr 6 TR.bool) v17 l2919]) (fun _ _ st => st) ?_
       refine GL.cond rfl (fun b3022 => ?_) (fun b3022 => ?_)
       ·replace h3021 := ite_t b3022 h3021
        refine GL.region ?_
        refine RL.mv rfl rfl rfl ?_
        obtain ⟨y3025, e3026, h3021⟩ := bind_some h3021
        refine RL.idxA0 (sz := 1) (t' := TR.bool) 3 Try.underlying112 Try_ln4 rfl rfl rfl PtOf.obox rfl rfl Part.self (idx_some e3026).1 (idx_some e3026).2.1 ?_
        refine RL.stP (off := (i2862 * 1)) (e' := false) (d1 := (List.set l2919 i2862 false)) (r := TR.bool) 3 Try_ln4 rfl rfl (Or.inl rfl) rfl VR.bool rfl (Upd.arr (idx_some e3026).2.2 Upd.self) ?_
        refine RL.asg rfl rfl rfl ?_
        refine RL.finG ?_
        refine GL.nilB ?_
        refine GL.region ?_
        refine RL.binI (v := .int .i64 ((i2971 + 1 : Nat) : Int)) rfl rfl rfl rfl (binI_succ i2971 (by omega)) ?_
        refine RL.mv rfl rfl rfl ?_
        refine RL.fin ?_
        cases h3021
        exact fun a w st => lop_intro (i2971 + 1, r2983, (List.set l2919 i2862 false), true) ⟨by show i2971 + 1 + r2983.length = (y11).length; simp only [List.length_cons] at h2977; omega, h2984, h2975⟩ (by simp) (St.cut [0, 1, 2, 3] ⟨rfl, rfl, rfl, rfl, rfl, rfl, rfl, rfl, rfl, rfl, trivial⟩ (by decide) rfl st)
       replace h3021 := ite_f b3022 h3021
       refine GL.skip ?_
       refine GL.nilB ?_
       refine GL.region ?_
       refine RL.binI (v := .int .i64 ((i2971 + 1 : Nat) : Int)) rfl rfl rfl rfl (binI_succ i2971 (by omega)) ?_
       refine RL.mv rfl rfl rfl ?_
       refine RL.fin ?_
       cases h3021
       exact fun a w st => lop_intro (i2971 + 1, r2983, l2919, x2920) ⟨by show i2971 + 1 + r2983.length = (y11).length; simp only [List.length_cons] at h2977; omega, h2984, h2975⟩ (by simp) (St.cut [0, 1, 2, 3] ⟨rfl, rfl, rfl, rfl, rfl, rfl, rfl, rfl, rfl, rfl, trivial⟩ (by decide) rfl st)
      have h2980 : ¬ i2971 < (y11).length := by have := of_decide_eq_false b2979; omega
      obtain rfl : r2972 = [] := by rw [← h2978]; exact List.drop_of_length_le (by omega)
      replace h2976 : some (Fl.nx _) = some y2964 := h2976
      cases h2976
      exact GL.exit (fun a w st => mid_intro (l2919, x2920) h2967 (St.cut [0, 1, 2, 3] ⟨rfl, rfl, rfl, rfl, rfl, rfl, rfl, trivial⟩ (by decide) rfl st))
     rintro ⟨l2919, x2920⟩ h3027
     have h3028 := h2968 _ h3027
     try dsimp only at h3028
     refine GL.weak (env' := [(0, v0), (8, v13), (9, v16), (10, v17), (13, .bool x2920), (77, .int .i64 ((y11).length : Int)), (78, .int .i64 (i2862 : Int))]) (L' := [imm (TR.sl (TR.sl TR.int)) v0 x0, imm (TR.sl (TR.sl TR.int)) v13 y11, obox 112 (TR.arr 6 TR.bool) v16 l2213, obox 112 (TR.arr 6 TR.bool) v17 l2919]) (fun _ _ st => st) ?_
     refine GL.nilB ?_
     refine GL.region ?_
     refine RL.binI (v := .int .i64 ((i2862 + 1 : Nat) : Int)) rfl rfl rfl rfl (binI_succ i2862 (by omega)) ?_
     refine RL.mv rfl rfl rfl ?_
     refine RL.fin ?_
     cases h3028
     exact fun a w st => lop_intro (i2862 + 1, r2874, l2919, x2920) ⟨by show i2862 + 1 + r2874.length = (y11).length; simp only [List.length_cons] at h2868; omega, h2875, h2866⟩ (by simp) (St.cut [0, 1, 2, 3] ⟨rfl, rfl, rfl, rfl, rfl, rfl, rfl, trivial⟩ (by decide) rfl st)
    have h2871 : ¬ i2862 < (y11).length := by have := of_decide_eq_false b2870; omega
    obtain rfl : r2863 = [] := by rw [← h2869]; exact List.drop_of_length_le (by omega)
    replace h2867 : some (Fl.nx _) = some y2855 := h2867
    cases h2867
    exact GL.exit (fun a w st => mid_intro (l2699, x2700) h2858 (St.cut [0, 1, 2, 3] ⟨rfl, rfl, rfl, rfl, rfl, trivial⟩ (by decide) rfl st))
   rintro ⟨l2699, x2700⟩ h3029
   have h3030 := h2859 _ h3029
   try dsimp only at h3030
   refine GL.weak (env' := [(0, v0), (8, v13), (9, v16), (10, v17), (13, .bool x2700)]) (L' := [imm (TR.sl (TR.sl TR.int)) v0 x0, imm (TR.sl (TR.sl TR.int)) v13 y11, obox 112 (TR.arr 6 TR.bool) v16 l2213, obox 112 (TR.arr 6 TR.bool) v17 l2699]) (fun _ _ st => st) ?_
   refine GL.nilB ?_
   cases h3030
   exact fun a w st => lop_intro (r2057, l2213, l2699, x2700) (by exact h2053) (by simp) (St.cut [0, 1, 2, 3] ⟨rfl, rfl, rfl, rfl, rfl, trivial⟩ (by decide) rfl st)
  replace h2052 := ite_f b2058 h2052
  cases h2052
  replace h2053 : some (Fl.nx _) = some y2042 := h2053
  cases h2053
  exact GL.exit (fun a w st => mid_intro (l1066, l1067, x1068) h2045 (St.cut [0, 1, 2, 3] ⟨rfl, rfl, rfl, rfl, trivial⟩ (by decide) rfl st))
 rintro ⟨l1066, l1067, x1068⟩ h3031
 have h3032 := h2046 _ h3031
 try dsimp only at h3032
 refine GL.weak (env' := [(0, v0), (8, v13), (9, v16), (10, v17)]) (L' := [imm (TR.sl (TR.sl TR.int)) v0 x0, imm (TR.sl (TR.sl TR.int)) v13 y11, obox 112 (TR.arr 6 TR.bool) v16 l1066, obox 112 (TR.arr 6 TR.bool) v17 l1067]) (fun _ _ st => st) ?_
 refine GL.seq ?_
 refine GL.region ?_
 refine RL.asg rfl rfl rfl ?_
 refine RL.asg rfl rfl rfl ?_
 refine RL.finG ?_
 refine GL.seq ?_
 refine GL.seq ?_
 refine GL.region ?_
 refine RL.mv rfl rfl rfl ?_
 refine RL.lenS 0 Try.underlying37 rfl rfl rfl rfl SlOf.imm ?_
 refine RL.mv rfl rfl rfl ?_
 refine RL.finG ?_
 refine GL.weak (fun a w st => st.nilOwn 3 TR.int) ?_
 refine GL.open_ 0 rfl (fun S h => len_imm S h) (fun n3048 => ?_)
 obtain ⟨y3049, K3050, h3051, h3052, h3053, h3054, h3055⟩ := bindR_K h3032
 refine GL.join (ι := (List Int) × Value) (fun (p : (List Int) × Value) => [(8, v13), (10, v17), (18, p.2), (19, Value.slice none 0 0)]) (fun (p : (List Int) × Value) => [imm (TR.sl (TR.sl TR.int)) v13 y11, obox 112 (TR.arr 6 TR.bool) v17 l1067, own 3 TR.int p.2 p.1]) (fun (p : (List Int) × Value) => K3050 (.nx p.1)) ?_ ?_
 ·refine GL.block ?_
  refine GL.loop (ι := Nat × (List (List Int)) × (List Int) × Value) (fun (p : Nat × (List (List Int)) × (List Int) × Value) => [(8, v13), (9, v16), (10, v17), (18, p.2.2.2), (19, Value.slice none 0 0), (106, .int .i64 ((x0).length : Int)), (107, .int .i64 (p.1 : Int))]) (fun (p : Nat × (List (List Int)) × (List Int) × Value) => [imm (TR.sl (TR.sl TR.int)) v13 y11, obox 112 (TR.arr 6 TR.bool) v16 l1066, obox 112 (TR.arr 6 TR.bool) v17 l1067, own 3 TR.int p.2.2.2 p.2.2.1]) (fun (p : Nat × (List (List Int)) × (List Int) × Value) => p.1 + p.2.1.length = (x0).length ∧ List.drop p.1 x0 = p.2.1 ∧ rangeL (equil_Left_b8 l1066) p.2.1 p.1 p.2.2.1 = some y3049) (fun (p : Nat × (List (List Int)) × (List Int) × Value) => p.2.1.length) (0, x0, [], Value.slice none 0 0) ⟨by simp, by simp, h3051⟩ (fun a w st => St.cut [1, 2, 3, 4] ⟨rfl, rfl, rfl, rfl, rfl, rfl, rfl, trivial⟩ (by decide) rfl st) ?_
  rintro ⟨i3056, r3057, l3033, v3034⟩ ⟨h3062, h3063, h3061⟩
  try dsimp only at h3062 h3063 h3061
  refine GL.weak (env' := [(8, v13), (9, v16), (10, v17), (18, v3034), (19, Value.slice none 0 0), (106, .int .i64 ((x0).length : Int)), (107, .int .i64 (i3056 : Int))]) (L' := [imm (TR.sl (TR.sl TR.int)) v13 y11, obox 112 (TR.arr 6 TR.bool) v16 l1066, obox 112 (TR.arr 6 TR.bool) v17 l1067, own 3 TR.int v3034 l3033]) (fun _ _ st => st) ?_
  refine GL.seq ?_
  refine GL.region ?_
  refine RL.binI (v := .bool (decide ((i3056 : Int) < ((x0).length : Int)))) rfl rfl rfl rfl rfl ?_
  refine RL.finG ?_
  refine GL.seq ?_
  refine GL.cond rfl (fun b3064 => ?_) (fun b3064 => ?_)
  ·have h3065 : i3056 < (x0).length := by have := of_decide_eq_true b3064; omega
   obtain ⟨y3066, r3068, hr, e3067, h3069⟩ := drop_cons h3063 rfl h3065
   subst hr
   obtain ⟨z3058, h3059, h3060⟩ := rangeL_some h3061
   unfold equil_Left_b8 at h3059
   try dsimp only at h3059
   refine GL.skip ?_
   refine GL.seq ?_
   refine GL.block ?_
   refine GL.seq ?_
   refine GL.region ?_
   refine RL.mv rfl rfl rfl ?_
   refine RL.asg rfl rfl rfl ?_
   refine RL.finG ?_
   refine GL.seq ?_
   refine GL.region ?_
   refine RL.mv rfl rfl rfl ?_
   obtain ⟨y3072, e3073, h3059⟩ := bind_some h3059
   refine RL.idxA0 (sz := 1) (t' := TR.bool) 1 Try.underlying112 Try_ln4 rfl rfl rfl PtOf.obox rfl rfl Part.self (idx_some e3073).1 (idx_some e3073).2.1 ?_
   refine RL.ldPx (off := (i3056 * 1)) (e' := y3072) 1 Ex.bool Try_ln4 rfl rfl (Or.inl rfl) rfl PtOf.obox (Part.arr (idx_some e3073).2.2 Part.self) ?_
   refine RL.finG ?_
   refine GL.cond rfl (fun b3074 => ?_) (fun b3074 => ?_)
   ·replace h3059 := ite_t b3074 h3059
    refine GL.region ?_
    refine RL.mv rfl rfl rfl ?_
    refine RL.mv rfl rfl rfl ?_
    refine RL.bS (t := TR.int) (vs := [.int .i64 (i3056 : Int)]) ([(i3056 : Int)] : (List Int)) Try.underlying24 Try_lo3 rfl rfl rfl rfl ⟨VR.int, trivial⟩ rfl (by decide) ?_
    intro v3079
    obtain ⟨y3080, e3081, h3059⟩ := bind_some h3059
    replace e3081 := chk_some e3081
    refine RL.app 3 4 Try.underlying24 Try_lo3 rfl rfl rfl rfl rfl rfl rfl SlOf.own e3081 ?_
    intro v3082
    refine RL.reL (L' := [imm (TR.sl (TR.sl TR.int)) v13 y11, obox 112 (TR.arr 6 TR.bool) v16 l1066, obox 112 (TR.arr 6 TR.bool) v17 l1067, own 3 TR.int v3082 (l3033 ++ ([(i3056 : Int)] : (List Int))), own 3 TR.int v3079 ([(i3056 : Int)] : (List Int))]) rfl ?_
    refine RL.asg rfl rfl rfl ?_
    refine RL.finG ?_
    refine GL.nilB ?_
    refine GL.region ?_
    refine RL.binI (v := .int .i64 ((i3056 + 1 : Nat) : Int)) rfl rfl rfl rfl (binI_succ i3056 (by omega)) ?_
    refine RL.mv rfl rfl rfl ?_
    refine RL.fin ?_
    cases h3059
    exact fun a w st => lop_intro (i3056 + 1, r3068, (l3033 ++ ([(i3056 : Int)] : (List Int))), v3082) ⟨by show i3056 + 1 + r3068.length = (x0).length; simp only [List.length_cons] at h3062; omega, h3069, h3060⟩ (by simp) (St.cut [0, 1, 2, 3] ⟨rfl, rfl, rfl, rfl, rfl, rfl, rfl, trivial⟩ (by decide) rfl st)
   replace h3059 := ite_f b3074 h3059
   refine GL.skip ?_
   refine GL.nilB ?_
   refine GL.region ?_
   refine RL.binI (v := .int .i64 ((i3056 + 1 : Nat) : Int)) rfl rfl rfl rfl (binI_succ i3056 (by omega)) ?_
   refine RL.mv rfl rfl rfl ?_
   refine RL.fin ?_
   cases h3059
   exact fun a w st => lop_intro (i3056 + 1, r3068, l3033, v3034) ⟨by show i3056 + 1 + r3068.length = (x0).length; simp only [List.length_cons] at h3062; omega, h3069, h3060⟩ (by simp) (St.cut [0, 1, 2, 3] ⟨rfl, rfl, rfl, rfl, rfl, rfl, rfl, trivial⟩ (by decide) rfl st)
  have h3065 : ¬ i3056 < (x0).length := by have := of_decide_eq_false b3064; omega
  obtain rfl : r3057 = [] := by rw [← h3063]; exact List.drop_of_length_le (by omega)
  replace h3061 : some (Fl.nx _) = some y3049 := h3061
  cases h3061
  exact GL.exit (fun a w st => mid_intro (l3033, v3034) h3052 (St.cut [0, 2, 3] ⟨rfl, rfl, rfl, rfl, trivial⟩ (by decide) rfl st))
 rintro ⟨l3033, v3034⟩ h3083
 have h3084 := h3053 _ h3083
 try dsimp only at h3084
 refine GL.weak (env' := [(8, v13), (10, v17), (18, v3034), (19, Value.slice none 0 0)]) (L' := [imm (TR.sl (TR.sl TR.int)) v13 y11, obox 112 (TR.arr 6 TR.bool) v17 l1067, own 3 TR.int v3034 l3033]) (fun _ _ st => st) ?_
 refine GL.seq ?_
 refine GL.seq ?_
 refine GL.region ?_
 refine RL.mv rfl rfl rfl ?_
 refine RL.lenS 0 Try.underlying37 rfl rfl rfl rfl SlOf.imm ?_
 refine RL.mv rfl rfl rfl ?_
 refine RL.finG ?_
 refine GL.weak (fun a w st => st.nilOwn 3 TR.int) ?_
 refine GL.open_ 0 rfl (fun S h => len_imm S h) (fun n3100 => ?_)
 obtain ⟨y3101, K3102, h3103, h3104, h3105, h3106, h3107⟩ := bindR_K h3084
 refine GL.join (ι := (List Int) × Value) (fun (p : (List Int) × Value) => [(18, v3034), (19, p.2)]) (fun (p : (List Int) × Value) => [own 3 TR.int v3034 l3033, own 3 TR.int p.2 p.1]) (fun (p : (List Int) × Value) => K3102 (.nx p.1)) ?_ ?_
 ·refine GL.block ?_
  refine GL.loop (ι := Nat × (List (List Int)) × (List Int) × Value) (fun (p : Nat × (List (List Int)) × (List Int) × Value) => [(10, v17), (18, v3034), (19, p.2.2.2), (119, .int .i64 ((y11).length : Int)), (120, .int .i64 (p.1 : Int))]) (fun (p : Nat × (List (List Int)) × (List Int) × Value) => [obox 112 (TR.arr 6 TR.bool) v17 l1067, own 3 TR.int v3034 l3033, own 3 TR.int p.2.2.2 p.2.2.1]) (fun (p : Nat × (List (List Int)) × (List Int) × Value) => p.1 + p.2.1.length = (y11).length ∧ List.drop p.1 y11 = p.2.1 ∧ rangeL (equil_Left_b9 l1067) p.2.1 p.1 p.2.2.1 = some y3101) (fun (p : Nat × (List (List Int)) × (List Int) × Value) => p.2.1.length) (0, y11, [], Value.slice none 0 0) ⟨by simp, by simp, h3103⟩ (fun a w st => St.cut [1, 2, 3] ⟨rfl, rfl, rfl, rfl, rfl, trivial⟩ (by decide) rfl st) ?_
  rintro ⟨i3108, r3109, l3085, v3086⟩ ⟨h3114, h3115, h3113⟩
  try dsimp only at h3114 h3115 h3113
  refine GL.weak (env' := [(10, v17), (18, v3034), (19, v3086), (119, .int .i64 ((y11).length : Int)), (120, .int .i64 (i3108 : Int))]) (L' := [obox 112 (TR.arr 6 TR.bool) v17 l1067, own 3 TR.int v3034 l3033, own 3 TR.int v3086 l3085]) (fun _ _ st => st) ?_
  refine GL.seq ?_
  refine GL.region ?_
  refine RL.binI (v := .bool (decide ((i3108 : Int) < ((y11).length : Int)))) rfl rfl rfl rfl rfl ?_
  refine RL.finG ?_
  refine GL.seq ?_
  refine GL.cond rfl (fun b3116 => ?_) (fun b3116 => ?_)
  ·have h3117 : i3108 < (y11).length := by have := of_decide_eq_true b3116; omega
   obtain ⟨y3118, r3120, hr, e3119, h3121⟩ := drop_cons h3115 rfl h3117
   subst hr
   obtain ⟨z3110, h3111, h3112⟩ := rangeL_some h3113
   unfold equil_Left_b9 at h3111
   try dsimp only at h3111
   refine GL.skip ?_
   refine GL.seq ?_
   refine GL.block ?_
   refine GL.seq ?_
   refine GL.region ?_
   refine RL.mv rfl rfl rfl ?_
   refine RL.asg rfl rfl rfl ?_
   refine RL.finG ?_
   refine GL.seq ?_
   refine GL.region ?_
   refine RL.mv rfl rfl rfl ?_
   obtain ⟨y3124, e3125, h3111⟩ := bind_some h3111
   refine RL.idxA0 (sz := 1) (t' := TR.bool) 0 Try.underlying112 Try_ln4 rfl rfl rfl PtOf.obox rfl rfl Part.self (idx_some e3125).1 (idx_some e3125).2.1 ?_
   refine RL.ldPx (off := (i3108 * 1)) (e' := y3124) 0 Ex.bool Try_ln4 rfl rfl (Or.inl rfl) rfl PtOf.obox (Part.arr (idx_some e3125).2.2 Part.self) ?_
   refine RL.finG ?_
   refine GL.cond rfl (fun b3126 => ?_) (fun b3126 => ?_)
   ·replace h3111 := ite_t b3126 h3111
    refine GL.region ?_
    refine RL.mv rfl rfl rfl ?_
    refine RL.mv rfl rfl rfl ?_
    refine RL.bS (t := TR.int) (vs := [.int .i64 (i3108 : Int)]) ([(i3108 : Int)] : (List Int)) Try.underlying24 Try_lo3 rfl rfl rfl rfl ⟨VR.int, trivial⟩ rfl (by decide) ?_
    intro v3131
    obtain ⟨y3132, e3133, h3111⟩ := bind_some h3111
    replace e3133 := chk_some e3133
    refine RL.app 2 3 Try.underlying24 Try_lo3 rfl rfl rfl rfl rfl rfl rfl SlOf.own e3133 ?_
    intro v3134
    refine RL.reL (L' := [obox 112 (TR.arr 6 TR.bool) v17 l1067, own 3 TR.int v3034 l3033, own 3 TR.int v3134 (l3085 ++ ([(i3108 : Int)] : (List Int))), own 3 TR.int v3131 ([(i3108 : Int)] : (List Int))]) rfl ?_
    refine RL.asg rfl rfl rfl ?_
    refine RL.finG ?_
    refine GL.nilB ?_
    refine GL.region ?_
    refine RL.binI (v := .int .i64 ((i3108 + 1 : Nat) : Int)) rfl rfl rfl rfl (binI_succ i3108 (by omega)) ?_
    refine RL.mv rfl rfl rfl ?_
    refine RL.fin ?_
    cases h3111
    exact fun a w st => lop_intro (i3108 + 1, r3120, (l3085 ++ ([(i3108 : Int)] : (List Int))), v3134) ⟨by show i3108 + 1 + r3120.length = (y11).length; simp only [List.length_cons] at h3114; omega, h3121, h3112⟩ (by simp) (St.cut [0, 1, 2] ⟨rfl, rfl, rfl, rfl, rfl, trivial⟩ (by decide) rfl st)
   replace h3111 := ite_f b3126 h3111
   refine GL.skip ?_
   refine GL.nilB ?_
   refine GL.region ?_
   refine RL.binI (v := .int .i64 ((i3108 + 1 : Nat) : Int)) rfl rfl rfl rfl (binI_succ i3108 (by omega)) ?_
   refine RL.mv rfl rfl rfl ?_
   refine RL.fin ?_
   cases h3111
   exact fun a w st => lop_intro (i3108 + 1, r3120, l3085, v3086) ⟨by show i3108 + 1 + r3120.length = (y11).length; simp only [List.length_cons] at h3114; omega, h3121, h3112⟩ (by simp) (St.cut [0, 1, 2] ⟨rfl, rfl, rfl, rfl, rfl, trivial⟩ (by decide) rfl st)
  have h3117 : ¬ i3108 < (y11).length := by have := of_decide_eq_false b3116; omega
  obtain rfl : r3109 = [] := by rw [← h3115]; exact List.drop_of_length_le (by omega)
  replace h3113 : some (Fl.nx _) = some y3101 := h3113
  cases h3113
  exact GL.exit (fun a w st => mid_intro (l3085, v3086) h3104 (St.cut [1, 2] ⟨rfl, rfl, trivial⟩ (by decide) rfl st))
 rintro ⟨l3085, v3086⟩ h3135
 have h3136 := h3105 _ h3135
 try dsimp only at h3136
 refine GL.weak (env' := [(18, v3034), (19, v3086)]) (L' := [own 3 TR.int v3034 l3033, own 3 TR.int v3086 l3085]) (fun _ _ st => st) ?_
 refine GL.seq ?_
 refine GL.region ?_
 refine RL.mv rfl rfl rfl ?_
 refine RL.mv rfl rfl rfl ?_
 refine RL.asg rfl rfl rfl ?_
 refine RL.asg rfl rfl rfl ?_
 refine RL.asg rfl rfl rfl ?_
 refine RL.finG ?_
 have h3136 := Option.some.inj h3136
 subst h3136
 exact GL.ret (Gx.ret (v := .tuple #[v3034, v3086, .int .i64 (0 : Int)]) (res3 rfl rfl rfl rfl) (fun a w st => (st.pick [0, 1] (by decide) rfl).toPost (v3034, v3086)))

set_option maxHeartbeats 4000000 in
theorem slices_IndexFunc_api_Errno_api_Errno_c (S : Hp) (w : World) (hS : S.sub w) (v0 : Value) (x0 : (List Int)) (k0 : ((TR.sl TR.int)).vrep S v0 x0) (f1 : FuncId) (c1 : Array Value) (t1 : Fit Try.prog f1) (g1 : Int → Option Bool) (k1 : ∀ (U : Hp) (w' : World), Hp.le S U → U.sub w' → ∀ (a0 : Int) (rr : Bool), g1 a0 = some rr → Calls Try.prog f1 (#[.int .i64 a0] ++ c1) w' (PostV w' (.bool rr))) (res : Int) (hm : slices_IndexFunc_api_Errno_api_Errno_m x0 g1 = some res) : Calls Try.prog 125 #[v0, .func (.func f1) #[] c1] w (PostV w (.int .i64 res)) := by
 refine calls_enter 19 Try.func125 Try.ntmps125 rfl S false [(0, v0), (1, .func (.func f1) #[] c1)] [imm (TR.sl TR.int) v0 x0] rfl ⟨rfl, ⟨rfl, trivial⟩⟩ hS ⟨k0, trivial⟩ ?_
 unfold slices_IndexFunc_api_Errno_api_Errno_m at hm
 refine GL.seq ?_
 refine GL.region ?_
 refine RL.asg rfl rfl rfl ?_
 refine RL.finG ?_
 refine GL.seq ?_
 refine GL.seq ?_
 refine GL.region ?_
 refine RL.mv rfl rfl rfl ?_
 refine RL.lenS 0 Try.underlying101 rfl rfl rfl rfl SlOf.imm ?_
 refine RL.mv rfl rfl rfl ?_
 refine RL.finG ?_
 refine GL.open_ 0 rfl (fun S h => len_imm S h) (fun n12 => ?_)
 obtain ⟨y13, K14, h15, h16, h17, h18, h19⟩ := bindR_K hm
 refine GL.join (ι := Unit) (fun (p : Unit) => []) (fun (p : Unit) => []) (fun (p : Unit) => K14 (.nx ())) ?_ ?_
 ·refine GL.block ?_
  refine GL.loop (ι := Nat × (List Int)) (fun (p : Nat × (List Int)) => [(0, v0), (1, .func (.func f1) #[] c1), (7, .int .i64 ((x0).length : Int)), (8, .int .i64 (p.1 : Int))]) (fun (p : Nat × (List Int)) => [imm (TR.sl TR.int) v0 x0]) (fun (p : Nat × (List Int)) => p.1 + p.2.length = (x0).length ∧ List.drop p.1 x0 = p.2 ∧ rangeL (slices_IndexFunc_api_Errno_api_Errno_b1 g1) p.2 p.1 () = some y13) (fun (p : Nat × (List Int)) => p.2.length) (0, x0) ⟨by simp, by simp, h15⟩ (fun a w st => St.cut [0] ⟨rfl, rfl, rfl, rfl, trivial⟩ (by decide) rfl st) ?_
  rintro ⟨i20, r21⟩ ⟨h26, h27, h25⟩
  try dsimp only at h26 h27 h25
  refine GL.weak (env' := [(0, v0), (1, .func (.func f1) #[] c1), (7, .int .i64 ((x0).length : Int)), (8, .int .i64 (i20 : Int))]) (L' := [imm (TR.sl TR.int) v0 x0]) (fun _ _ st => st) ?_
  refine GL.seq ?_
  refine GL.region ?_
  refine RL.binI (v := .bool (decide ((i20 : Int) < ((x0).length : Int)))) rfl rfl rfl rfl rfl ?_
  refine RL.finG ?_
  refine GL.seq ?_
  refine GL.cond rfl (fun b28 => ?_) (fun b28 => ?_)
  ·have h29 : i20 < (x0).length := by have := of_decide_eq_true b28; omega
   obtain ⟨y30, r32, hr, e31, h33⟩ := drop_cons h27 rfl h29
   subst hr
   obtain ⟨z22, h23, h24⟩ := rangeL_some h25
   unfold slices_IndexFunc_api_Errno_api_Errno_b1 at h23
   try dsimp only at h23
   refine GL.skip ?_
   refine GL.seq ?_
   refine GL.block ?_
   refine GL.seq ?_
   refine GL.region ?_
   refine RL.mv rfl rfl rfl ?_
   refine RL.asg rfl rfl rfl ?_
   refine RL.finG ?_
   refine GL.seq ?_
   refine GL.region ?_
   refine RL.mv rfl rfl rfl ?_
   refine RL.mv rfl rfl rfl ?_
   refine RL.mv rfl rfl rfl ?_
   refine RL.idxS (sz := 1) 0 Try.underlying101 Try_ln25 rfl rfl rfl rfl rfl SlOf.imm (by omega) (by omega) ?_
   refine RL.ldSx (i := i20) (e' := y30) 0 Ex.ik Try_ln25 rfl rfl rfl rfl SlOf.imm e31 Part.self ?_
   obtain ⟨y36, e37, h23⟩ := bind_some h23
   refine RL.callV (v := .bool y36) (vs := [.int .i64 y30]) t1 rfl (Or.inl rfl) rfl rfl rfl rfl (fun U w hU hW hL => k1 U w hW hU y30 _ e37) ?_
   refine RL.finG ?_
   refine GL.cond rfl (fun b38 => ?_) (fun b38 => ?_)
   ·replace h23 := ite_t b38 h23
    refine GL.seq ?_
    refine GL.region ?_
    refine RL.mv rfl rfl rfl ?_
    refine RL.asg rfl rfl rfl ?_
    refine RL.finG ?_
    cases h23
    replace h24 : some (Fl.rt _) = some y13 := h24
    cases h24
    have hh := h18 _ h16
    subst hh
    exact GL.ret (Gx.ret (v := .int .i64 (i20 : Int)) (res1 rfl rfl) (fun a w st => st.toPostV))
   replace h23 := ite_f b38 h23
   refine GL.skip ?_
   refine GL.nilB ?_
   refine GL.region ?_
   refine RL.binI (v := .int .i64 ((i20 + 1 : Nat) : Int)) rfl rfl rfl rfl (binI_succ i20 (by omega)) ?_
   refine RL.mv rfl rfl rfl ?_
   refine RL.fin ?_
   cases h23
   exact fun a w st => lop_intro (i20 + 1, r32) ⟨by show i20 + 1 + r32.length = (x0).length; simp only [List.length_cons] at h26; omega, h33, h24⟩ (by simp) (St.cut [0] ⟨rfl, rfl, rfl, rfl, trivial⟩ (by decide) rfl st)
  have h29 : ¬ i20 < (x0).length := by have := of_decide_eq_false b28; omega
  obtain rfl : r21 = [] := by rw [← h27]; exact List.drop_of_length_le (by omega)
  replace h25 : some (Fl.nx _) = some y13 := h25
  cases h25
  exact GL.exit (fun a w st => mid_intro () h16 (St.cut [] trivial (by decide) rfl st))
 rintro ⟨⟩ h39
 have h40 := h17 _ h39
 try dsimp only at h40
 refine GL.weak (env' := []) (L' := []) (fun _ _ st => st) ?_
 refine GL.seq ?_
 refine GL.region ?_
 refine RL.asg rfl rfl rfl ?_
 refine RL.finG ?_
 have h40 := Option.some.inj h40
 subst h40
 exact GL.ret (Gx.ret (v := .int .i64 (-1 : Int)) (res1 rfl rfl) (fun a w st => st.toPostV))

set_option maxHeartbeats 4000000 in
theorem slices_ContainsFunc_api_Errno_api_Errno_c (S : Hp) (w : World) (hS : S.sub w) (v0 : Value) (x0 : (List Int)) (k0 : ((TR.sl TR.int)).vrep S v0 x0) (f1 : FuncId) (c1 : Array Value) (t1 : Fit Try.prog f1) (g1 : Int → Option Bool) (k1 : ∀ (U : Hp) (w' : World), Hp.le S U → U.sub w' → ∀ (a0 : Int) (rr : Bool), g1 a0 = some rr → Calls Try.prog f1 (#[.int .i64 a0] ++ c1) w' (PostV w' (.bool rr))) (res : Bool) (hm : slices_ContainsFunc_api_Errno_api_Errno_m x0 g1 = some res) : Calls Try.prog 82 #[v0, .func (.func f1) #[] c1] w (PostV w (.bool res)) := by
 refine calls_enter 9 Try.func82 Try.ntmps82 rfl S false [(0, v0), (1, .func (.func f1) #[] c1)] [imm (TR.sl TR.int) v0 x0] rfl ⟨rfl, ⟨rfl, trivial⟩⟩ hS ⟨k0, trivial⟩ ?_
 unfold slices_ContainsFunc_api_Errno_api_Errno_m at hm
 refine GL.seq ?_
 refine GL.region ?_
 refine RL.asg rfl rfl rfl ?_
 refine RL.finG ?_
 refine GL.seq ?_
 refine GL.region ?_
 refine RL.mv rfl rfl rfl ?_
 refine RL.mv rfl rfl rfl ?_
 obtain ⟨y5, e6, hm⟩ := bind_some hm
 refine RL.callV (v := .int .i64 y5) (vs := [v0, .func (.func f1) #[] c1]) Try_fit125 rfl (Or.inl rfl) rfl rfl rfl rfl (fun U w hU hW hL => slices_IndexFunc_api_Errno_api_Errno_c U w hU _ _ (hL 0 _ _ rfl Seen.imm) f1 c1 t1 g1 (fun U' w' hle => k1 U' w' (Hp.le_trans hW hle)) _ e6) ?_
 refine RL.binI (v := .bool (decide (y5 ≥ (0 : Int)))) rfl rfl rfl rfl rfl ?_
 refine RL.asg rfl rfl rfl ?_
 refine RL.finG ?_
 have hm := Option.some.inj hm
 subst hm
 exact GL.ret (Gx.ret (v := .bool (decide (y5 ≥ (0 : Int)))) (res1 rfl rfl) (fun a w st => st.toPostV))

set_option maxHeartbeats 4000000 in
theorem pk_good_1_c (S : Hp) (w : World) (hS : S.sub w) (x0 : Int) (res : Bool) (hm : pk_good_1_m x0 = some res) : Calls Try.prog 83 #[.int .i64 x0] w (PostC w (.bool res)) := by
 refine calls_enter 5 Try.func83 Try.ntmps83 rfl S true [(0, .int .i64 x0)] [] rfl ⟨rfl, trivial⟩ hS trivial ?_
 unfold pk_good_1_m at hm
 refine GL.seq ?_
 refine GL.region ?_
 refine RL.asg rfl rfl rfl ?_
 refine RL.finG ?_
 refine GL.seq ?_
 refine GL.region ?_
 refine RL.mv rfl rfl rfl ?_
 refine RL.binI (v := .bool (x0 != (0 : Int))) rfl rfl rfl rfl rfl ?_
 refine RL.asg rfl rfl rfl ?_
 refine RL.finG ?_
 have hm := Option.some.inj hm
 subst hm
 exact GL.ret (Gx.ret (v := .bool (x0 != (0 : Int))) (res1 rfl rfl) (fun a w st => st.toPostC rfl))

set_option maxHeartbeats 4000000 in
theorem pk_good_c (S : Hp) (w : World) (hS : S.sub w) (v0 : Value) (x0 : (List Int)) (k0 : ((TR.sl TR.int)).vrep S v0 x0) (res : Bool) (hm : pk_good_m x0 = some res) : Calls Try.prog 20 #[v0] w (PostV w (.bool res)) := by
 refine calls_enter 6 Try.func20 Try.ntmps20 rfl S false [(0, v0)] [imm (TR.sl TR.int) v0 x0] rfl ⟨rfl, trivial⟩ hS ⟨k0, trivial⟩ ?_
 unfold pk_good_m at hm
 refine GL.seq ?_
 refine GL.region ?_
 refine RL.asg rfl rfl rfl ?_
 refine RL.finG ?_
 refine GL.seq ?_
 refine GL.region ?_
 refine RL.mv rfl rfl rfl ?_
 obtain ⟨y4, e5, hm⟩ := bind_some hm
 refine RL.callV (v := .bool y4) (vs := [v0, .func (.func 83) #[] #[]]) Try_fit82 rfl (Or.inl rfl) rfl rfl rfl rfl (fun U w hU hW hL => slices_ContainsFunc_api_Errno_api_Errno_c U w hU _ _ (hL 0 _ _ rfl Seen.imm) 83 #[] Try_fit83 (fun a0 => pk_good_1_m a0) (fun U' w' hle hU' a0 rr hr => (pk_good_1_c U' w' hU' a0 rr hr).mono (fun _ _ z => z.toV)) _ e5) ?_
 refine RL.notB rfl rfl rfl ?_
 refine RL.asg rfl rfl rfl ?_
 refine RL.finG ?_
 have hm := Option.some.inj hm
 subst hm
 exact GL.ret (Gx.ret (v := .bool (!y4)) (res1 rfl rfl) (fun a w st => st.toPostV))

set_option maxHeartbeats 4000000 in
theorem slices_Equal_pairs_c (S : Hp) (w : World) (hS : S.sub w) (v0 : Value) (x0 : (List (List Int))) (k0 : ((TR.sl (TR.arr 2 TR.int))).vrep S v0 x0) (v1 : Value) (x1 : (List (List Int))) (k1 : ((TR.sl (TR.arr 2 TR.int))).vrep S v1 x1) (res : Bool) (hm : slices_Equal_pairs_m x0 x1 = some res) : Calls Try.prog 30 #[v0, v1] w (PostV w (.bool res)) := by
 refine calls_enter 26 Try.func30 Try.ntmps30 rfl S false [(0, v0), (1, v1)] [imm (TR.sl (TR.arr 2 TR.int)) v0 x0, imm (TR.sl (TR.arr 2 TR.int)) v1 x1] rfl ⟨rfl, ⟨rfl, trivial⟩⟩ hS ⟨k0, ⟨k1, trivial⟩⟩ ?_
 unfold slices_Equal_pairs_m at hm
 refine GL.seq ?_
 refine GL.region ?_
 refine RL.asg rfl rfl rfl ?_
 refine RL.finG ?_
 refine GL.seq ?_
 refine GL.seq ?_
 refine GL.region ?_
 refine RL.mv rfl rfl rfl ?_
 refine RL.lenS 0 Try.underlying51 rfl rfl rfl rfl SlOf.imm ?_
 refine RL.mv rfl rfl rfl ?_
 refine RL.lenS 1 Try.underlying51 rfl rfl rfl rfl SlOf.imm ?_
 refine RL.binI (v := .bool (((x0).length : Int) != ((x1).length : Int))) rfl rfl rfl rfl rfl ?_
 refine RL.finG ?_
 refine GL.cond rfl (fun b3 => ?_) (fun b3 => ?_)
 ·replace hm := ite_t b3 hm
  refine GL.seq ?_
  refine GL.region ?_
  refine RL.asg rfl rfl rfl ?_
  refine RL.finG ?_
  have hm := Option.some.inj hm
  subst hm
  exact GL.ret (Gx.ret (v := .bool false) (res1 rfl rfl) (fun a w st => st.toPostV))
 replace hm := ite_f b3 hm
 refine GL.skip ?_
 refine GL.seq ?_
 refine GL.seq ?_
 refine GL.region ?_
 refine RL.mv rfl rfl rfl ?_
 refine RL.lenS 0 Try.underlying51 rfl rfl rfl rfl SlOf.imm ?_
 refine RL.mv rfl rfl rfl ?_
 refine RL.finG ?_
 refine GL.open_ 0 rfl (fun S h => len_imm S h) (fun n17 => ?_)
 obtain ⟨y18, K19, h20, h21, h22, h23, h24⟩ := bindR_K hm
 refine GL.join (ι := Unit) (fun (p : Unit) => []) (fun (p : Unit) => []) (fun (p : Unit) => K19 (.nx ())) ?_ ?_
 ·refine GL.block ?_
  refine GL.loop (ι := Nat × (List (List Int))) (fun (p : Nat × (List (List Int))) => [(0, v0), (1, v1), (12, .int .i64 ((x0).length : Int)), (13, .int .i64 (p.1 : Int))]) (fun (p : Nat × (List (List Int))) => [imm (TR.sl (TR.arr 2 TR.int)) v0 x0, imm (TR.sl (TR.arr 2 TR.int)) v1 x1]) (fun (p : Nat × (List (List Int))) => p.1 + p.2.length = (x0).length ∧ List.drop p.1 x0 = p.2 ∧ rangeL (slices_Equal_pairs_b1 x1) p.2 p.1 () = some y18) (fun (p : Nat × (List (List Int))) => p.2.length) (0, x0) ⟨by simp, by simp, h20⟩ (fun a w st => St.cut [0, 1] ⟨rfl, rfl, rfl, rfl, trivial⟩ (by decide) rfl st) ?_
  rintro ⟨i25, r26⟩ ⟨h31, h32, h30⟩
  try dsimp only at h31 h32 h30
  refine GL.weak (env' := [(0, v0), (1, v1), (12, .int .i64 ((x0).length : Int)), (13, .int .i64 (i25 : Int))]) (L' := [imm (TR.sl (TR.arr 2 TR.int)) v0 x0, imm (TR.sl (TR.arr 2 TR.int)) v1 x1]) (fun _ _ st => st) ?_
  refine GL.seq ?_
  refine GL.region ?_
  refine RL.binI (v := .bool (decide ((i25 : Int) < ((x0).length : Int)))) rfl rfl rfl rfl rfl ?_
  refine RL.finG ?_
  refine GL.seq ?_
  refine GL.cond rfl (fun b33 => ?_) (fun b33 => ?_)
  ·have h34 : i25 < (x0).length := by have := of_decide_eq_true b33; omega
   obtain ⟨y35, r37, hr, e36, h38⟩ := drop_cons h32 rfl h34
   subst hr
   obtain ⟨z27, h28, h29⟩ := rangeL_some h30
   unfold slices_Equal_pairs_b1 at h28
   try dsimp only at h28
   refine GL.skip ?_
   refine GL.seq ?_
   refine GL.block ?_
   refine GL.seq ?_
   refine GL.region ?_
   refine RL.mv rfl rfl rfl ?_
   refine RL.asg rfl rfl rfl ?_
   refine RL.finG ?_
   refine GL.seq ?_
   refine GL.regionQ rfl rfl (by kernel_rfl) ?_
   refine RL.mv rfl rfl rfl ?_
   refine RL.mv rfl rfl rfl ?_
   refine RL.idxS (sz := 2) 0 Try.underlying51 Try_ln56 rfl rfl rfl rfl rfl SlOf.imm (by omega) (by omega) ?_
   refine RL.ldS (i := i25) (r := (TR.arr 2 TR.int)) (e' := y35) 0 Try_ln56 rfl rfl rfl rfl SlOf.imm e36 Part.self ?_
   intro v43
   refine RL.mv rfl rfl rfl ?_
   refine RL.mv rfl rfl rfl ?_
   obtain ⟨y44, e45, h28⟩ := bind_some h28
   refine RL.idxS (sz := 2) 1 Try.underlying51 Try_ln56 rfl rfl rfl rfl rfl SlOf.imm (idx_some e45).1 (idx_some e45).2.1 ?_
   refine RL.ldS (i := i25) (r := (TR.arr 2 TR.int)) (e' := y44) 1 Try_ln56 rfl rfl rfl rfl SlOf.imm (idx_some e45).2.2 Part.self ?_
   intro v46
   refine RL.reL (L' := [imm (TR.sl (TR.arr 2 TR.int)) v0 x0, imm (TR.sl (TR.arr 2 TR.int)) v1 x1, imm (TR.arr 2 TR.int) v43 y35, imm (TR.arr 2 TR.int) v46 y44]) rfl ?_
   refine RL.neG (t := (TR.arr 2 TR.int)) (e := y35) (e' := y44) rfl Try_eq56 (by decide) Try.eqGuardType56 rfl rfl rfl rfl (VR.item 2 rfl) (VR.item 3 rfl) ?_
   refine RL.finQG ?_
   refine GL.cond rfl (fun b47 => ?_) (fun b47 => ?_)
   ·replace h28 := ite_t b47 h28
    refine GL.seq ?_
    refine GL.region ?_
    refine RL.asg rfl rfl rfl ?_
    refine RL.finG ?_
    cases h28
    replace h29 : some (Fl.rt _) = some y18 := h29
    cases h29
    have hh := h23 _ h21
    subst hh
    exact GL.ret (Gx.ret (v := .bool false) (res1 rfl rfl) (fun a w st => st.toPostV))
   replace h28 := ite_f b47 h28
   refine GL.skip ?_
   refine GL.nilB ?_
   refine GL.region ?_
   refine RL.binI (v := .int .i64 ((i25 + 1 : Nat) : Int)) rfl rfl rfl rfl (binI_succ i25 (by omega)) ?_
   refine RL.mv rfl rfl rfl ?_
   refine RL.fin ?_
   cases h28
   exact fun a w st => lop_intro (i25 + 1, r37) ⟨by show i25 + 1 + r37.length = (x0).length; simp only [List.length_cons] at h31; omega, h38, h29⟩ (by simp) (St.cut [0, 1] ⟨rfl, rfl, rfl, rfl, trivial⟩ (by decide) rfl st)
  have h34 : ¬ i25 < (x0).length := by have := of_decide_eq_false b33; omega
  obtain rfl : r26 = [] := by rw [← h32]; exact List.drop_of_length_le (by omega)
  replace h30 : some (Fl.nx _) = some y18 := h30
  cases h30
  exact GL.exit (fun a w st => mid_intro () h21 (St.cut [] trivial (by decide) rfl st))
 rintro ⟨⟩ h48
 have h49 := h22 _ h48
 try dsimp only at h49
 refine GL.weak (env' := []) (L' := []) (fun _ _ st => st) ?_
 refine GL.seq ?_
 refine GL.region ?_
 refine RL.asg rfl rfl rfl ?_
 refine RL.finG ?_
 have h49 := Option.some.inj h49
 subst h49
 exact GL.ret (Gx.ret (v := .bool true) (res1 rfl rfl) (fun a w st => st.toPostV))

set_option maxHeartbeats 4000000 in
theorem slices_Equal_int_int_c (S : Hp) (w : World) (hS : S.sub w) (v0 : Value) (x0 : (List Int)) (k0 : ((TR.sl TR.int)).vrep S v0 x0) (v1 : Value) (x1 : (List Int)) (k1 : ((TR.sl TR.int)).vrep S v1 x1) (res : Bool) (hm : slices_Equal_int_int_m x0 x1 = some res) : Calls Try.prog 22 #[v0, v1] w (PostV w (.bool res)) := by
 refine calls_enter 26 Try.func22 Try.ntmps22 rfl S false [(0, v0), (1, v1)] [imm (TR.sl TR.int) v0 x0, imm (TR.sl TR.int) v1 x1] rfl ⟨rfl, ⟨rfl, trivial⟩⟩ hS ⟨k0, ⟨k1, trivial⟩⟩ ?_
 unfold slices_Equal_int_int_m at hm
 refine GL.seq ?_
 refine GL.region ?_
 refine RL.asg rfl rfl rfl ?_
 refine RL.finG ?_
 refine GL.seq ?_
 refine GL.seq ?_
 refine GL.region ?_
 refine RL.mv rfl rfl rfl ?_
 refine RL.lenS 0 Try.underlying24 rfl rfl rfl rfl SlOf.imm ?_
 refine RL.mv rfl rfl rfl ?_
 refine RL.lenS 1 Try.underlying24 rfl rfl rfl rfl SlOf.imm ?_
 refine RL.binI (v := .bool (((x0).length : Int) != ((x1).length : Int))) rfl rfl rfl rfl rfl ?_
 refine RL.finG ?_
 refine GL.cond rfl (fun b3 => ?_) (fun b3 => ?_)
 ·replace hm := ite_t b3 hm
  refine GL.seq ?_
  refine GL.region ?_
  refine RL.asg rfl rfl rfl ?_
  refine RL.finG ?_
  have hm := Option.some.inj hm
  subst hm
  exact GL.ret (Gx.ret (v := .bool false) (res1 rfl rfl) (fun a w st => st.toPostV))
 replace hm := ite_f b3 hm
 refine GL.skip ?_
 refine GL.seq ?_
 refine GL.seq ?_
 refine GL.region ?_
 refine RL.mv rfl rfl rfl ?_
 refine RL.lenS 0 Try.underlying24 rfl rfl rfl rfl SlOf.imm ?_
 refine RL.mv rfl rfl rfl ?_
 refine RL.finG ?_
 refine GL.open_ 0 rfl (fun S h => len_imm S h) (fun n13 => ?_)
 obtain ⟨y14, K15, h16, h17, h18, h19, h20⟩ := bindR_K hm
 refine GL.join (ι := Unit) (fun (p : Unit) => []) (fun (p : Unit) => []) (fun (p : Unit) => K15 (.nx ())) ?_ ?_
 ·refine GL.block ?_
  refine GL.loop (ι := Nat × (List Int)) (fun (p : Nat × (List Int)) => [(0, v0), (1, v1), (12, .int .i64 ((x0).length : Int)), (13, .int .i64 (p.1 : Int))]) (fun (p : Nat × (List Int)) => [imm (TR.sl TR.int) v0 x0, imm (TR.sl TR.int) v1 x1]) (fun (p : Nat × (List Int)) => p.1 + p.2.length = (x0).length ∧ List.drop p.1 x0 = p.2 ∧ rangeL (slices_Equal_int_int_b1 x1) p.2 p.1 () = some y14) (fun (p : Nat × (List Int)) => p.2.length) (0, x0) ⟨by simp, by simp, h16⟩ (fun a w st => St.cut [0, 1] ⟨rfl, rfl, rfl, rfl, trivial⟩ (by decide) rfl st) ?_
  rintro ⟨i21, r22⟩ ⟨h27, h28, h26⟩
  try dsimp only at h27 h28 h26
  refine GL.weak (env' := [(0, v0), (1, v1), (12, .int .i64 ((x0).length : Int)), (13, .int .i64 (i21 : Int))]) (L' := [imm (TR.sl TR.int) v0 x0, imm (TR.sl TR.int) v1 x1]) (fun _ _ st => st) ?_
  refine GL.seq ?_
  refine GL.region ?_
  refine RL.binI (v := .bool (decide ((i21 : Int) < ((x0).length : Int)))) rfl rfl rfl rfl rfl ?_
  refine RL.finG ?_
  refine GL.seq ?_
  refine GL.cond rfl (fun b29 => ?_) (fun b29 => ?_)
  ·have h30 : i21 < (x0).length := by have := of_decide_eq_true b29; omega
   obtain ⟨y31, r33, hr, e32, h34⟩ := drop_cons h28 rfl h30
   subst hr
   obtain ⟨z23, h24, h25⟩ := rangeL_some h26
   unfold slices_Equal_int_int_b1 at h24
   try dsimp only at h24
   refine GL.skip ?_
   refine GL.seq ?_
   refine GL.block ?_
   refine GL.seq ?_
   refine GL.region ?_
   refine RL.mv rfl rfl rfl ?_
   refine RL.asg rfl rfl rfl ?_
   refine RL.finG ?_
   refine GL.seq ?_
   refine GL.regionQ rfl rfl (by kernel_rfl) ?_
   refine RL.mv rfl rfl rfl ?_
   refine RL.mv rfl rfl rfl ?_
   refine RL.idxS (sz := 1) 0 Try.underlying24 Try_ln3 rfl rfl rfl rfl rfl SlOf.imm (by omega) (by omega) ?_
   refine RL.ldSx (i := i21) (e' := y31) 0 Ex.ik Try_ln3 rfl rfl rfl rfl SlOf.imm e32 Part.self ?_
   refine RL.mv rfl rfl rfl ?_
   refine RL.mv rfl rfl rfl ?_
   obtain ⟨y37, e38, h24⟩ := bind_some h24
   refine RL.idxS (sz := 1) 1 Try.underlying24 Try_ln3 rfl rfl rfl rfl rfl SlOf.imm (idx_some e38).1 (idx_some e38).2.1 ?_
   refine RL.ldSx (i := i21) (e' := y37) 1 Ex.ik Try_ln3 rfl rfl rfl rfl SlOf.imm (idx_some e38).2.2 Part.self ?_
   refine RL.binI (v := .bool (y31 != y37)) rfl rfl rfl rfl rfl ?_
   refine RL.finQG ?_
   refine GL.cond rfl (fun b39 => ?_) (fun b39 => ?_)
   ·replace h24 := ite_t b39 h24
    refine GL.seq ?_
    refine GL.region ?_
    refine RL.asg rfl rfl rfl ?_
    refine RL.finG ?_
    cases h24
    replace h25 : some (Fl.rt _) = some y14 := h25
    cases h25
    have hh := h19 _ h17
    subst hh
    exact GL.ret (Gx.ret (v := .bool false) (res1 rfl rfl) (fun a w st => st.toPostV))
   replace h24 := ite_f b39 h24
   refine GL.skip ?_
   refine GL.nilB ?_
   refine GL.region ?_
   refine RL.binI (v := .int .i64 ((i21 + 1 : Nat) : Int)) rfl rfl rfl rfl (binI_succ i21 (by omega)) ?_
   refine RL.mv rfl rfl rfl ?_
   refine RL.fin ?_
   cases h24
   exact fun a w st => lop_intro (i21 + 1, r33) ⟨by show i21 + 1 + r33.length = (x0).length; simp only [List.length_cons] at h27; omega, h34, h25⟩ (by simp) (St.cut [0, 1] ⟨rfl, rfl, rfl, rfl, trivial⟩ (by decide) rfl st)
  have h30 : ¬ i21 < (x0).length := by have := of_decide_eq_false b29; omega
  obtain rfl : r22 = [] := by rw [← h28]; exact List.drop_of_length_le (by omega)
  replace h26 : some (Fl.nx _) = some y14 := h26
  cases h26
  exact GL.exit (fun a w st => mid_intro () h17 (St.cut [] trivial (by decide) rfl st))
 rintro ⟨⟩ h40
 have h41 := h18 _ h40
 try dsimp only at h41
 refine GL.weak (env' := []) (L' := []) (fun _ _ st => st) ?_
 refine GL.seq ?_
 refine GL.region ?_
 refine RL.asg rfl rfl rfl ?_
 refine RL.finG ?_
 have h41 := Option.some.inj h41
 subst h41
 exact GL.ret (Gx.ret (v := .bool true) (res1 rfl rfl) (fun a w st => st.toPostV))

set_option maxHeartbeats 4000000 in
theorem pk_equils_c (S : Hp) (w : World) (hS : S.sub w)  (res : Bool) (hm : pk_equils_m = some res) : Calls Try.prog 26 #[] w (PostV w (.bool res)) := by
 refine calls_enter 47 Try.func26 Try.ntmps26 rfl S false [] [] rfl trivial hS trivial ?_
 unfold pk_equils_m at hm
 refine GL.seq ?_
 refine GL.region ?_
 refine RL.asg rfl rfl rfl ?_
 refine RL.finG ?_
 refine GL.seq ?_
 refine GL.region ?_
 refine RL.bS (t := TR.int) (vs := [.int .i64 (3 : Int), .int .i64 (0 : Int)]) ([(3 : Int), (0 : Int)] : (List Int)) Try.underlying24 Try_lo3 rfl rfl rfl rfl ⟨VR.int, ⟨VR.int, trivial⟩⟩ rfl (by decide) ?_
 intro v7
 refine RL.bS (t := TR.int) (vs := [.int .i64 (5 : Int), .int .i64 (1 : Int)]) ([(5 : Int), (1 : Int)] : (List Int)) Try.underlying24 Try_lo3 rfl rfl rfl rfl ⟨VR.int, ⟨VR.int, trivial⟩⟩ rfl (by decide) ?_
 intro v8
 refine RL.reL (L' := [own 3 TR.int v7 ([(3 : Int), (0 : Int)] : (List Int)), own 3 TR.int v8 ([(5 : Int), (1 : Int)] : (List Int))]) rfl ?_
 refine RL.weak (fun a w st => st.freeze 0 rfl) ?_
 refine RL.weak (fun a w st => st.freeze 1 rfl) ?_
 refine RL.bS (t := (TR.sl TR.int)) (vs := [v7, v8]) ([([(3 : Int), (0 : Int)] : (List Int)), ([(5 : Int), (1 : Int)] : (List Int))] : (List (List Int))) Try.underlying37 Try_lo24 rfl rfl rfl rfl ⟨(VR.item 0 rfl), ⟨(VR.item 1 rfl), trivial⟩⟩ rfl (by decide) ?_
 intro v9
 refine RL.reL (L' := [imm (TR.sl TR.int) v7 ([(3 : Int), (0 : Int)] : (List Int)), imm (TR.sl TR.int) v8 ([(5 : Int), (1 : Int)] : (List Int)), own 24 (TR.sl TR.int) v9 ([([(3 : Int), (0 : Int)] : (List Int)), ([(5 : Int), (1 : Int)] : (List Int))] : (List (List Int)))]) rfl ?_
 refine RL.bS (t := TR.int) (vs := [.int .i64 (3 : Int), .int .i64 (5 : Int)]) ([(3 : Int), (5 : Int)] : (List Int)) Try.underlying24 Try_lo3 rfl rfl rfl rfl ⟨VR.int, ⟨VR.int, trivial⟩⟩ rfl (by decide) ?_
 intro v10
 refine RL.bS (t := TR.int) (vs := [.int .i64 (0 : Int), .int .i64 (1 : Int)]) ([(0 : Int), (1 : Int)] : (List Int)) Try.underlying24 Try_lo3 rfl rfl rfl rfl ⟨VR.int, ⟨VR.int, trivial⟩⟩ rfl (by decide) ?_
 intro v11
 refine RL.reL (L' := [imm (TR.sl TR.int) v7 ([(3 : Int), (0 : Int)] : (List Int)), imm (TR.sl TR.int) v8 ([(5 : Int), (1 : Int)] : (List Int)), own 24 (TR.sl TR.int) v9 ([([(3 : Int), (0 : Int)] : (List Int)), ([(5 : Int), (1 : Int)] : (List Int))] : (List (List Int))), own 3 TR.int v10 ([(3 : Int), (5 : Int)] : (List Int)), own 3 TR.int v11 ([(0 : Int), (1 : Int)] : (List Int))]) rfl ?_
 refine RL.weak (fun a w st => st.freeze 3 rfl) ?_
 refine RL.weak (fun a w st => st.freeze 4 rfl) ?_
 refine RL.bS (t := (TR.sl TR.int)) (vs := [v10, v11]) ([([(3 : Int), (5 : Int)] : (List Int)), ([(0 : Int), (1 : Int)] : (List Int))] : (List (List Int))) Try.underlying37 Try_lo24 rfl rfl rfl rfl ⟨(VR.item 3 rfl), ⟨(VR.item 4 rfl), trivial⟩⟩ rfl (by decide) ?_
 intro v12
 refine RL.reL (L' := [imm (TR.sl TR.int) v7 ([(3 : Int), (0 : Int)] : (List Int)), imm (TR.sl TR.int) v8 ([(5 : Int), (1 : Int)] : (List Int)), own 24 (TR.sl TR.int) v9 ([([(3 : Int), (0 : Int)] : (List Int)), ([(5 : Int), (1 : Int)] : (List Int))] : (List (List Int))), imm (TR.sl TR.int) v10 ([(3 : Int), (5 : Int)] : (List Int)), imm (TR.sl TR.int) v11 ([(0 : Int), (1 : Int)] : (List Int)), own 24 (TR.sl TR.int) v12 ([([(3 : Int), (5 : Int)] : (List Int)), ([(0 : Int), (1 : Int)] : (List Int))] : (List (List Int)))]) rfl ?_
 refine RL.asg rfl rfl rfl ?_
 refine RL.asg rfl rfl rfl ?_
 refine RL.finG ?_
 refine GL.seq ?_
 refine GL.region ?_
 refine RL.mv rfl rfl rfl ?_
 refine RL.mv rfl rfl rfl ?_
 obtain ⟨y16, e17, hm⟩ := bind_some hm
 refine RL.callU (vs := [v9, v12]) (LR := fun (o : Value) => [own 56 (TR.arr 2 TR.int) o y16.1]) (fun o => ⟨Loc.own (TR.flatT_arr TR.flatT_ik), trivial⟩) Try_fit28 rfl rfl rfl rfl rfl (fun U w hU hW hL => equil_Rest_c U w hU _ _ (hL 2 _ _ rfl Seen.own) _ _ (hL 5 _ _ rfl Seen.own) _ e17) ?_
 intro v18
 refine RL.mv rfl rfl rfl ?_
 refine RL.ext rfl rfl rfl rfl ?_
 refine RL.ext rfl rfl rfl rfl ?_
 refine RL.asg rfl rfl rfl ?_
 refine RL.asg rfl rfl rfl ?_
 refine RL.finG ?_
 refine GL.seq ?_
 refine GL.region ?_
 refine RL.mv rfl rfl rfl ?_
 refine RL.mv rfl rfl rfl ?_
 obtain ⟨y23, e24, hm⟩ := bind_some hm
 refine RL.callU (vs := [v9, v12]) (LR := fun (o : Value × Value) => [own 3 TR.int o.1 y23.1, own 3 TR.int o.2 y23.2.1]) (fun o => ⟨Loc.own TR.flatT_ik, ⟨Loc.own TR.flatT_ik, trivial⟩⟩) Try_fit35 rfl rfl rfl rfl rfl (fun U w hU hW hL => equil_Left_c U w hU _ _ (hL 2 _ _ rfl Seen.own) _ _ (hL 5 _ _ rfl Seen.own) _ e24) ?_
 intro ⟨v25, v26⟩
 refine RL.mv rfl rfl rfl ?_
 refine RL.ext rfl rfl rfl rfl ?_
 refine RL.ext rfl rfl rfl rfl ?_
 refine RL.ext rfl rfl rfl rfl ?_
 refine RL.asg rfl rfl rfl ?_
 refine RL.asg rfl rfl rfl ?_
 refine RL.asg rfl rfl rfl ?_
 refine RL.finG ?_
 refine GL.seq ?_
 obtain ⟨y60, K61, h62, h63, h64, h65, h66⟩ := bindR_K hm
 refine GL.join (ι := Bool) (fun (p : Bool) => [(0, .bool p)]) (fun (p : Bool) => []) (fun (p : Bool) => K61 (.nx p)) ?_ ?_
 ·skip
  refine GL.region ?_
  refine RL.mv rfl rfl rfl ?_
  refine RL.mv rfl rfl rfl ?_
  refine RL.bS (t := TR.int) (vs := [.int .i64 y16.2, .int .i64 y23.2.2]) ([y16.2, y23.2.2] : (List Int)) Try.underlying101 Try_lo25 rfl rfl rfl rfl ⟨VR.int, ⟨VR.int, trivial⟩⟩ rfl (by decide) ?_
  intro v67
  obtain ⟨y68, e69, h62⟩ := bind_some h62
  refine RL.callV (v := .bool y68) (vs := [v67]) Try_fit20 rfl (Or.inl rfl) rfl rfl rfl rfl (fun U w hU hW hL => pk_good_c U w hU _ _ (hL 9 _ _ rfl Seen.own) _ e69) ?_
  refine RL.mv rfl rfl rfl ?_
  refine RL.split (t := 31) rfl (fun b70 => ?_) (fun b70 => ?_)
  ·replace h62 := ite_t b70 h62
   refine RL.mv rfl rfl rfl ?_
   refine RL.bldA (t := (TR.arr 2 TR.int)) (d0 := ([(1 : Int), (1 : Int)] : (List Int))) (pv := [(0, .int .i64 (1 : Int)), (1, .int .i64 (1 : Int))]) rfl Try_bld56 (by decide) rfl rfl rfl ⟨⟨_, _, TR.int, (1 : Int), rfl, rfl, VR.int⟩, ⟨⟨_, _, TR.int, (1 : Int), rfl, rfl, VR.int⟩, trivial⟩⟩ (fun S f hi => by
     obtain ⟨c0, e0, r0⟩ := cells_vrep (t := TR.int) (u := .int .i64 (1 : Int)) (e := (1 : Int)) (VR.int S f hi)
     obtain ⟨c1, e1, r1⟩ := cells_vrep (t := TR.int) (u := .int .i64 (1 : Int)) (e := (1 : Int)) (VR.int S f hi)
     show TR.rep (TR.arr 2 TR.int) S (List.flatten [(.int .i64 (1 : Int) : Value).cells.toList, (.int .i64 (1 : Int) : Value).cells.toList]) _
     simp only [e0, e1,  List.flatten_cons, List.flatten_nil, List.append_nil]
     exact ⟨rfl, ⟨_, _, rfl, r0, ⟨_, [], (List.append_nil _).symm, r0, rfl⟩⟩⟩) ?_
   intro v71
   refine RL.reL (L' := [imm (TR.sl TR.int) v7 ([(3 : Int), (0 : Int)] : (List Int)), imm (TR.sl TR.int) v8 ([(5 : Int), (1 : Int)] : (List Int)), own 24 (TR.sl TR.int) v9 ([([(3 : Int), (0 : Int)] : (List Int)), ([(5 : Int), (1 : Int)] : (List Int))] : (List (List Int))), imm (TR.sl TR.int) v10 ([(3 : Int), (5 : Int)] : (List Int)), imm (TR.sl TR.int) v11 ([(0 : Int), (1 : Int)] : (List Int)), own 24 (TR.sl TR.int) v12 ([([(3 : Int), (5 : Int)] : (List Int)), ([(0 : Int), (1 : Int)] : (List Int))] : (List (List Int))), own 56 (TR.arr 2 TR.int) v18 y16.1, own 3 TR.int v25 y23.1, own 3 TR.int v26 y23.2.1, own 25 TR.int v67 ([y16.2, y23.2.2] : (List Int)), imm (TR.arr 2 TR.int) v71 ([(1 : Int), (1 : Int)] : (List Int))]) rfl ?_
   refine RL.bS (t := (TR.arr 2 TR.int)) (vs := [v71]) ([([(1 : Int), (1 : Int)] : (List Int))] : (List (List Int))) Try.underlying51 Try_lo56 rfl rfl rfl rfl ⟨(VR.item 10 rfl), trivial⟩ rfl (by decide) ?_
   intro v72
   obtain ⟨y73, e74, h62⟩ := bind_some h62
   refine RL.callV (v := .bool y73) (vs := [v18, v72]) Try_fit30 rfl (Or.inl rfl) rfl rfl rfl rfl (fun U w hU hW hL => slices_Equal_pairs_c U w hU _ _ (hL 6 _ _ rfl Seen.own) _ _ (hL 11 _ _ rfl Seen.own) _ e74) ?_
   refine RL.pickT rfl rfl rfl rfl ?_
   refine RL.mv rfl rfl rfl ?_
   refine RL.split (t := 37) rfl (fun b75 => ?_) (fun b75 => ?_)
   ·replace h62 := ite_t b75 h62
    refine RL.mv rfl rfl rfl ?_
    refine RL.bS (t := TR.int) (vs := [.int .i64 (1 : Int)]) ([(1 : Int)] : (List Int)) Try.underlying24 Try_lo3 rfl rfl rfl rfl ⟨VR.int, trivial⟩ rfl (by decide) ?_
    intro v76
    refine RL.reL (L' := [imm (TR.sl TR.int) v7 ([(3 : Int), (0 : Int)] : (List Int)), imm (TR.sl TR.int) v8 ([(5 : Int), (1 : Int)] : (List Int)), own 24 (TR.sl TR.int) v9 ([([(3 : Int), (0 : Int)] : (List Int)), ([(5 : Int), (1 : Int)] : (List Int))] : (List (List Int))), imm (TR.sl TR.int) v10 ([(3 : Int), (5 : Int)] : (List Int)), imm (TR.sl TR.int) v11 ([(0 : Int), (1 : Int)] : (List Int)), own 24 (TR.sl TR.int) v12 ([([(3 : Int), (5 : Int)] : (List Int)), ([(0 : Int), (1 : Int)] : (List Int))] : (List (List Int))), own 56 (TR.arr 2 TR.int) v18 y16.1, own 3 TR.int v25 y23.1, own 3 TR.int v26 y23.2.1, own 25 TR.int v67 ([y16.2, y23.2.2] : (List Int)), imm (TR.arr 2 TR.int) v71 ([(1 : Int), (1 : Int)] : (List Int)), own 56 (TR.arr 2 TR.int) v72 ([([(1 : Int), (1 : Int)] : (List Int))] : (List (List Int))), own 3 TR.int v76 ([(1 : Int)] : (List Int))]) rfl ?_
    obtain ⟨y77, e78, h62⟩ := bind_some h62
    refine RL.callV (v := .bool y77) (vs := [v25, v76]) Try_fit22 rfl (Or.inl rfl) rfl rfl rfl rfl (fun U w hU hW hL => slices_Equal_int_int_c U w hU _ _ (hL 7 _ _ rfl Seen.own) _ _ (hL 12 _ _ rfl Seen.own) _ e78) ?_
    refine RL.pickT rfl rfl rfl rfl ?_
    refine RL.mv rfl rfl rfl ?_
    refine RL.split (t := 42) rfl (fun b79 => ?_) (fun b79 => ?_)
    ·replace h62 := ite_t b79 h62
     refine RL.mv rfl rfl rfl ?_
     refine RL.bS (t := TR.int) (vs := [.int .i64 (1 : Int)]) ([(1 : Int)] : (List Int)) Try.underlying24 Try_lo3 rfl rfl rfl rfl ⟨VR.int, trivial⟩ rfl (by decide) ?_
     intro v80
     obtain ⟨y81, e82, h62⟩ := bind_some h62
     refine RL.callV (v := .bool y81) (vs := [v26, v80]) Try_fit22 rfl (Or.inl rfl) rfl rfl rfl rfl (fun U w hU hW hL => slices_Equal_int_int_c U w hU _ _ (hL 8 _ _ rfl Seen.own) _ _ (hL 13 _ _ rfl Seen.own) _ e82) ?_
     refine RL.pickT rfl rfl rfl rfl ?_
     refine RL.asg rfl rfl rfl ?_
     refine RL.fin ?_
     cases h62
     exact fun a w st => mid_intro y81 h63 (St.cut [] ⟨rfl, trivial⟩ (by decide) rfl st)
    replace h62 := ite_f b79 h62
    refine RL.skip rfl rfl ?_
    refine RL.skip rfl rfl ?_
    refine RL.skip rfl rfl ?_
    refine RL.pickF rfl rfl rfl rfl ?_
    refine RL.asg rfl rfl rfl ?_
    refine RL.fin ?_
    cases h62
    exact fun a w st => mid_intro false h63 (St.cut [] ⟨rfl, trivial⟩ (by decide) rfl st)
   replace h62 := ite_f b75 h62
   refine RL.skip rfl rfl ?_
   refine RL.skip rfl rfl ?_
   refine RL.skip rfl rfl ?_
   refine RL.pickF rfl rfl rfl rfl ?_
   refine RL.mv rfl rfl rfl ?_
   refine RL.skip rfl rfl ?_
   refine RL.skip rfl rfl ?_
   refine RL.skip rfl rfl ?_
   refine RL.pickF rfl rfl rfl rfl ?_
   refine RL.asg rfl rfl rfl ?_
   refine RL.fin ?_
   cases h62
   exact fun a w st => mid_intro false h63 (St.cut [] ⟨rfl, trivial⟩ (by decide) rfl st)
  replace h62 := ite_f b70 h62
  refine RL.skip rfl rfl ?_
  refine RL.skip rfl rfl ?_
  refine RL.skip rfl rfl ?_
  refine RL.skip rfl rfl ?_
  refine RL.pickF rfl rfl rfl rfl ?_
  refine RL.mv rfl rfl rfl ?_
  refine RL.skip rfl rfl ?_
  refine RL.skip rfl rfl ?_
  refine RL.skip rfl rfl ?_
  refine RL.pickF rfl rfl rfl rfl ?_
  refine RL.mv rfl rfl rfl ?_
  refine RL.skip rfl rfl ?_
  refine RL.skip rfl rfl ?_
  refine RL.skip rfl rfl ?_
  refine RL.pickF rfl rfl rfl rfl ?_
  refine RL.asg rfl rfl rfl ?_
  refine RL.fin ?_
  cases h62
  exact fun a w st => mid_intro false h63 (St.cut [] ⟨rfl, trivial⟩ (by decide) rfl st)
 rintro x59 h83
 have h84 := h64 _ h83
 try dsimp only at h84
 refine GL.weak (env' := [(0, .bool x59)]) (L' := []) (fun _ _ st => st) ?_
 have h84 := Option.some.inj h84
 subst h84
 exact GL.ret (Gx.ret (v := .bool x59) (res1 rfl rfl) (fun a w st => st.toPostV))

set_option maxHeartbeats 4000000 in
theorem saddle_Bounds_c (S : Hp) (w : World) (hS : S.sub w) (v0 : Value) (x0 : (List (List Int))) (k0 : ((TR.sl (TR.sl TR.int))).vrep S v0 x0) (res : Int × Int × Int) (hm : saddle_Bounds_m x0 = some res) : Calls Try.prog 86 #[v0] w (PostC w (.tuple #[.int .i64 res.1, .int .i64 res.2.1, .int .i64 res.2.2])) := by
 refine calls_enter 68 Try.func86 Try.ntmps86 rfl S true [(0, v0)] [imm (TR.sl (TR.sl TR.int)) v0 x0] rfl ⟨rfl, trivial⟩ hS ⟨k0, trivial⟩ ?_
 unfold saddle_Bounds_m at hm
 refine GL.seq ?_
 refine GL.region ?_
 refine RL.asg rfl rfl rfl ?_
 refine RL.asg rfl rfl rfl ?_
 refine RL.asg rfl rfl rfl ?_
 refine RL.finG ?_
 refine GL.seq ?_
 refine GL.seq ?_
 refine GL.region ?_
 refine RL.mv rfl rfl rfl ?_
 obtain ⟨y4, e5, hm⟩ := bind_some hm
 refine RL.callC (v := .int .i64 y4) (vs := [v0]) Try_fit88 rfl rfl rfl rfl (fun U w hU hW hL => saddle_Check_c U w hU _ _ (hL 0 _ _ rfl Seen.imm) _ e5) ?_
 refine RL.asg rfl rfl rfl ?_
 refine RL.finG ?_
 refine GL.seq ?_
 refine GL.region ?_
 refine RL.mv rfl rfl rfl ?_
 refine RL.binI (v := .bool (y4 != (0 : Int))) rfl rfl rfl rfl rfl ?_
 refine RL.finG ?_
 refine GL.cond rfl (fun b6 => ?_) (fun b6 => ?_)
 ·replace hm := ite_t b6 hm
  refine GL.seq ?_
  refine GL.region ?_
  refine RL.mv rfl rfl rfl ?_
  refine RL.asg rfl rfl rfl ?_
  refine RL.asg rfl rfl rfl ?_
  refine RL.asg rfl rfl rfl ?_
  refine RL.finG ?_
  have hm := Option.some.inj hm
  subst hm
  exact GL.ret (Gx.ret (v := .tuple #[.int .i64 (0 : Int), .int .i64 (0 : Int), .int .i64 y4]) (res3 rfl rfl rfl rfl) (fun a w st => st.toPostC rfl))
 replace hm := ite_f b6 hm
 refine GL.skip ?_
 refine GL.seq ?_
 refine GL.region ?_
 refine RL.asg rfl rfl rfl ?_
 refine RL.asg rfl rfl rfl ?_
 refine RL.finG ?_
 refine GL.seq ?_
 refine GL.seq ?_
 refine GL.region ?_
 refine RL.mv rfl rfl rfl ?_
 refine RL.lenS 0 Try.underlying37 rfl rfl rfl rfl SlOf.imm ?_
 refine RL.mv rfl rfl rfl ?_
 refine RL.finG ?_
 refine GL.open_ 0 rfl (fun S h => len_imm S h) (fun n43 => ?_)
 obtain ⟨y44, K45, h46, h47, h48, h49, h50⟩ := bindR_K hm
 refine GL.join (ι := Int) (fun (p : Int) => [(0, v0), (6, .int .i64 p), (7, .int .i64 (1000 : Int))]) (fun (p : Int) => [imm (TR.sl (TR.sl TR.int)) v0 x0]) (fun (p : Int) => K45 (.nx p)) ?_ ?_
 ·refine GL.block ?_
  refine GL.loop (ι := Nat × (List (List Int)) × Int) (fun (p : Nat × (List (List Int)) × Int) => [(0, v0), (6, .int .i64 p.2.2), (7, .int .i64 (1000 : Int)), (22, v0), (23, .int .i64 ((x0).length : Int)), (24, .int .i64 (p.1 : Int))]) (fun (p : Nat × (List (List Int)) × Int) => [imm (TR.sl (TR.sl TR.int)) v0 x0]) (fun (p : Nat × (List (List Int)) × Int) => p.1 + p.2.1.length = (x0).length ∧ List.drop p.1 x0 = p.2.1 ∧ rangeL saddle_Bounds_b1 p.2.1 p.1 p.2.2 = some y44) (fun (p : Nat × (List (List Int)) × Int) => p.2.1.length) (0, x0, (-1000 : Int)) ⟨by simp, by simp, h46⟩ (fun a w st => St.cut [0] ⟨rfl, rfl, rfl, rfl, rfl, rfl, trivial⟩ (by decide) rfl st) ?_
  rintro ⟨i51, r52, x7⟩ ⟨h57, h58, h56⟩
  try dsimp only at h57 h58 h56
  refine GL.weak (env' := [(0, v0), (6, .int .i64 x7), (7, .int .i64 (1000 : Int)), (22, v0), (23, .int .i64 ((x0).length : Int)), (24, .int .i64 (i51 : Int))]) (L' := [imm (TR.sl (TR.sl TR.int)) v0 x0]) (fun _ _ st => st) ?_
  refine GL.seq ?_
  refine GL.region ?_
  refine RL.binI (v := .bool (decide ((i51 : Int) < ((x0).length : Int)))) rfl rfl rfl rfl rfl ?_
  refine RL.finG ?_
  refine GL.seq ?_
  refine GL.cond rfl (fun b59 => ?_) (fun b59 => ?_)
  ·have h60 : i51 < (x0).length := by have := of_decide_eq_true b59; omega
   obtain ⟨y61, r63, hr, e62, h64⟩ := drop_cons h58 rfl h60
   subst hr
   obtain ⟨z53, h54, h55⟩ := rangeL_some h56
   unfold saddle_Bounds_b1 at h54
   try dsimp only at h54
   refine GL.skip ?_
   refine GL.seq ?_
   refine GL.block ?_
   refine GL.seq ?_
   refine GL.region ?_
   refine RL.idxS (sz := 1) 0 Try.underlying37 Try_ln24 rfl rfl rfl rfl rfl SlOf.imm (by omega) (by omega) ?_
   refine RL.ldS (i := i51) (r := (TR.sl TR.int)) (e' := y61) 0 Try_ln24 rfl rfl rfl rfl SlOf.imm e62 Part.self ?_
   intro v66
   refine RL.asg rfl rfl rfl ?_
   refine RL.finG ?_
   refine GL.seq ?_
   refine GL.region ?_
   refine RL.asg rfl rfl rfl ?_
   refine RL.finG ?_
   refine GL.seq ?_
   refine GL.seq ?_
   refine GL.region ?_
   refine RL.mv rfl rfl rfl ?_
   refine RL.lenS 1 Try.underlying24 rfl rfl rfl rfl SlOf.imm ?_
   refine RL.mv rfl rfl rfl ?_
   refine RL.finG ?_
   refine GL.open_ 1 rfl (fun S h => len_imm S h) (fun n72 => ?_)
   obtain ⟨y73, K74, h75, h76, h77, h78, h79⟩ := bindF_K h54
   refine GL.join (ι := Int) (fun (p : Int) => [(0, v0), (6, .int .i64 x7), (7, .int .i64 (1000 : Int)), (10, .int .i64 p), (22, v0), (23, .int .i64 ((x0).length : Int)), (24, .int .i64 (i51 : Int))]) (fun (p : Int) => [imm (TR.sl (TR.sl TR.int)) v0 x0]) (fun (p : Int) => K74 (.nx p)) ?_ ?_
   ·refine GL.block ?_
    refine GL.loop (ι := Nat × (List Int) × Int) (fun (p : Nat × (List Int) × Int) => [(0, v0), (6, .int .i64 x7), (7, .int .i64 (1000 : Int)), (10, .int .i64 p.2.2), (22, v0), (23, .int .i64 ((x0).length : Int)), (24, .int .i64 (i51 : Int)), (28, v66), (29, .int .i64 ((y61).length : Int)), (30, .int .i64 (p.1 : Int))]) (fun (p : Nat × (List Int) × Int) => [imm (TR.sl (TR.sl TR.int)) v0 x0, imm (TR.sl TR.int) v66 y61]) (fun (p : Nat × (List Int) × Int) => p.1 + p.2.1.length = (y61).length ∧ List.drop p.1 y61 = p.2.1 ∧ rangeL saddle_Bounds_b2 p.2.1 p.1 p.2.2 = some y73) (fun (p : Nat × (List Int) × Int) => p.2.1.length) (0, y61, (1000 : Int)) ⟨by simp, by simp, h75⟩ (fun a w st => St.cut [0, 1] ⟨rfl, rfl, rfl, rfl, rfl, rfl, rfl, rfl, rfl, rfl, trivial⟩ (by decide) rfl st) ?_
    rintro ⟨i80, r81, x67⟩ ⟨h86, h87, h85⟩
    try dsimp only at h86 h87 h85
    refine GL.weak (env' := [(0, v0), (6, .int .i64 x7), (7, .int .i64 (1000 : Int)), (10, .int .i64 x67), (22, v0), (23, .int .i64 ((x0).length : Int)), (24, .int .i64 (i51 : Int)), (28, v66), (29, .int .i64 ((y61).length : Int)), (30, .int .i64 (i80 : Int))]) (L' := [imm (TR.sl (TR.sl TR.int)) v0 x0, imm (TR.sl TR.int) v66 y61]) (fun _ _ st => st) ?_
    refine GL.seq ?_
    refine GL.region ?_
    refine RL.binI (v := .bool (decide ((i80 : Int) < ((y61).length : Int)))) rfl rfl rfl rfl rfl ?_
    refine RL.finG ?_
    refine GL.seq ?_
    refine GL.cond rfl (fun b88 => ?_) (fun b88 => ?_)
    ·have h89 : i80 < (y61).length := by have := of_decide_eq_true b88; omega
     obtain ⟨y90, r92, hr, e91, h93⟩ := drop_cons h87 rfl h89
     subst hr
     obtain ⟨z82, h83, h84⟩ := rangeL_some h85
     unfold saddle_Bounds_b2 at h83
     try dsimp only at h83
     refine GL.skip ?_
     refine GL.seq ?_
     refine GL.block ?_
     refine GL.seq ?_
     refine GL.region ?_
     refine RL.idxS (sz := 1) 1 Try.underlying24 Try_ln3 rfl rfl rfl rfl rfl SlOf.imm (by omega) (by omega) ?_
     refine RL.ldSx (i := i80) (e' := y90) 1 Ex.ik Try_ln3 rfl rfl rfl rfl SlOf.imm e91 Part.self ?_
     refine RL.asg rfl rfl rfl ?_
     refine RL.finG ?_
     refine GL.region ?_
     refine RL.mv rfl rfl rfl ?_
     refine RL.mv rfl rfl rfl ?_
     refine RL.minI rfl rfl rfl rfl ?_
     refine RL.asg rfl rfl rfl ?_
     refine RL.finG ?_
     refine GL.nilB ?_
     refine GL.region ?_
     refine RL.binI (v := .int .i64 ((i80 + 1 : Nat) : Int)) rfl rfl rfl rfl (binI_succ i80 (by omega)) ?_
     refine RL.mv rfl rfl rfl ?_
     refine RL.fin ?_
     cases h83
     exact fun a w st => lop_intro (i80 + 1, r92, if y90 < x67 then y90 else x67) ⟨by show i80 + 1 + r92.length = (y61).length; simp only [List.length_cons] at h86; omega, h93, h84⟩ (by simp) (St.cut [0, 1] ⟨rfl, rfl, rfl, rfl, rfl, rfl, rfl, rfl, rfl, rfl, trivial⟩ (by decide) rfl st)
    have h89 : ¬ i80 < (y61).length := by have := of_decide_eq_false b88; omega
    obtain rfl : r81 = [] := by rw [← h87]; exact List.drop_of_length_le (by omega)
    replace h85 : some (Fl.nx _) = some y73 := h85
    cases h85
    exact GL.exit (fun a w st => mid_intro x67 h76 (St.cut [0] ⟨rfl, rfl, rfl, rfl, rfl, rfl, rfl, trivial⟩ (by decide) rfl st))
   rintro x67 h94
   have h95 := h77 _ h94
   try dsimp only at h95
   refine GL.weak (env' := [(0, v0), (6, .int .i64 x7), (7, .int .i64 (1000 : Int)), (10, .int .i64 x67), (22, v0), (23, .int .i64 ((x0).length : Int)), (24, .int .i64 (i51 : Int))]) (L' := [imm (TR.sl (TR.sl TR.int)) v0 x0]) (fun _ _ st => st) ?_
   refine GL.region ?_
   refine RL.mv rfl rfl rfl ?_
   refine RL.mv rfl rfl rfl ?_
   refine RL.maxI rfl rfl rfl rfl ?_
   refine RL.asg rfl rfl rfl ?_
   refine RL.finG ?_
   refine GL.nilB ?_
   refine GL.region ?_
   refine RL.binI (v := .int .i64 ((i51 + 1 : Nat) : Int)) rfl rfl rfl rfl (binI_succ i51 (by omega)) ?_
   refine RL.mv rfl rfl rfl ?_
   refine RL.fin ?_
   cases h95
   exact fun a w st => lop_intro (i51 + 1, r63, if x67 > x7 then x67 else x7) ⟨by show i51 + 1 + r63.length = (x0).length; simp only [List.length_cons] at h57; omega, h64, h55⟩ (by simp) (St.cut [0] ⟨rfl, rfl, rfl, rfl, rfl, rfl, trivial⟩ (by decide) rfl st)
  have h60 : ¬ i51 < (x0).length := by have := of_decide_eq_false b59; omega
  obtain rfl : r52 = [] := by rw [← h58]; exact List.drop_of_length_le (by omega)
  replace h56 : some (Fl.nx _) = some y44 := h56
  cases h56
  exact GL.exit (fun a w st => mid_intro x7 h47 (St.cut [0] ⟨rfl, rfl, rfl, trivial⟩ (by decide) rfl st))
 rintro x7 h96
 have h97 := h48 _ h96
 try dsimp only at h97
 refine GL.weak (env' := [(0, v0), (6, .int .i64 x7), (7, .int .i64 (1000 : Int))]) (L' := [imm (TR.sl (TR.sl TR.int)) v0 x0]) (fun _ _ st => st) ?_
 refine GL.seq ?_
 refine GL.seq ?_
 refine GL.region ?_
 refine RL.mv rfl rfl rfl ?_
 obtain ⟨y101, e102, h97⟩ := bind_some h97
 refine RL.idxS (sz := 1) 0 Try.underlying37 Try_ln24 rfl rfl rfl rfl rfl SlOf.imm (idx_some e102).1 (idx_some e102).2.1 ?_
 refine RL.ldS (i := ((0 : Int)).toNat) (r := (TR.sl TR.int)) (e' := y101) 0 Try_ln24 rfl rfl rfl rfl SlOf.imm (idx_some e102).2.2 Part.self ?_
 intro v103
 refine RL.lenS 1 Try.underlying24 rfl rfl rfl rfl SlOf.imm ?_
 refine RL.mv rfl rfl rfl ?_
 refine RL.finG ?_
 refine GL.open_ 1 rfl (fun S h => len_imm S h) (fun n146 => ?_)
 obtain ⟨y147, K148, h149, h150, h151, h152, h153⟩ := bindR_K h97
 refine GL.join (ι := Int) (fun (p : Int) => [(6, .int .i64 x7), (7, .int .i64 p)]) (fun (p : Int) => []) (fun (p : Int) => K148 (.nx p)) ?_ ?_
 ·refine GL.block ?_
  refine GL.loop (ι := Nat × (List Int) × Int) (fun (p : Nat × (List Int) × Int) => [(0, v0), (6, .int .i64 x7), (7, .int .i64 p.2.2), (45, .int .i64 ((y101).length : Int)), (46, .int .i64 (p.1 : Int))]) (fun (p : Nat × (List Int) × Int) => [imm (TR.sl (TR.sl TR.int)) v0 x0]) (fun (p : Nat × (List Int) × Int) => p.1 + p.2.1.length = (y101).length ∧ List.drop p.1 y101 = p.2.1 ∧ rangeL (saddle_Bounds_b3 x0) p.2.1 p.1 p.2.2 = some y147) (fun (p : Nat × (List Int) × Int) => p.2.1.length) (0, y101, (1000 : Int)) ⟨by simp, by simp, h149⟩ (fun a w st => St.cut [0] ⟨rfl, rfl, rfl, rfl, rfl, trivial⟩ (by decide) rfl st) ?_
  rintro ⟨i154, r155, x104⟩ ⟨h160, h161, h159⟩
  try dsimp only at h160 h161 h159
  refine GL.weak (env' := [(0, v0), (6, .int .i64 x7), (7, .int .i64 x104), (45, .int .i64 ((y101).length : Int)), (46, .int .i64 (i154 : Int))]) (L' := [imm (TR.sl (TR.sl TR.int)) v0 x0]) (fun _ _ st => st) ?_
  refine GL.seq ?_
  refine GL.region ?_
  refine RL.binI (v := .bool (decide ((i154 : Int) < ((y101).length : Int)))) rfl rfl rfl rfl rfl ?_
  refine RL.finG ?_
  refine GL.seq ?_
  refine GL.cond rfl (fun b162 => ?_) (fun b162 => ?_)
  ·have h163 : i154 < (y101).length := by have := of_decide_eq_true b162; omega
   obtain ⟨y164, r166, hr, e165, h167⟩ := drop_cons h161 rfl h163
   subst hr
   obtain ⟨z156, h157, h158⟩ := rangeL_some h159
   unfold saddle_Bounds_b3 at h157
   try dsimp only at h157
   refine GL.skip ?_
   refine GL.seq ?_
   refine GL.block ?_
   refine GL.seq ?_
   refine GL.region ?_
   refine RL.mv rfl rfl rfl ?_
   refine RL.asg rfl rfl rfl ?_
   refine RL.finG ?_
   refine GL.seq ?_
   refine GL.region ?_
   refine RL.asg rfl rfl rfl ?_
   refine RL.finG ?_
   refine GL.seq ?_
   refine GL.seq ?_
   refine GL.region ?_
   refine RL.mv rfl rfl rfl ?_
   refine RL.lenS 0 Try.underlying37 rfl rfl rfl rfl SlOf.imm ?_
   refine RL.mv rfl rfl rfl ?_
   refine RL.finG ?_
   refine GL.open_ 0 rfl (fun S h => len_imm S h) (fun n179 => ?_)
   obtain ⟨y180, K181, h182, h183, h184, h185, h186⟩ := bindF_K h157
   refine GL.join (ι := Int) (fun (p : Int) => [(0, v0), (6, .int .i64 x7), (7, .int .i64 x104), (14, .int .i64 p), (45, .int .i64 ((y101).length : Int)), (46, .int .i64 (i154 : Int))]) (fun (p : Int) => [imm (TR.sl (TR.sl TR.int)) v0 x0]) (fun (p : Int) => K181 (.nx p)) ?_ ?_
   ·refine GL.block ?_
    refine GL.loop (ι := Nat × (List (List Int)) × Int) (fun (p : Nat × (List (List Int)) × Int) => [(0, v0), (6, .int .i64 x7), (7, .int .i64 x104), (13, .int .i64 (i154 : Int)), (14, .int .i64 p.2.2), (45, .int .i64 ((y101).length : Int)), (46, .int .i64 (i154 : Int)), (49, v0), (50, .int .i64 ((x0).length : Int)), (51, .int .i64 (p.1 : Int))]) (fun (p : Nat × (List (List Int)) × Int) => [imm (TR.sl (TR.sl TR.int)) v0 x0]) (fun (p : Nat × (List (List Int)) × Int) => p.1 + p.2.1.length = (x0).length ∧ List.drop p.1 x0 = p.2.1 ∧ rangeL (saddle_Bounds_b4 i154) p.2.1 p.1 p.2.2 = some y180) (fun (p : Nat × (List (List Int)) × Int) => p.2.1.length) (0, x0, (-1000 : Int)) ⟨by simp, by simp, h182⟩ (fun a w st => St.cut [0] ⟨rfl, rfl, rfl, rfl, rfl, rfl, rfl, rfl, rfl, rfl, trivial⟩ (by decide) rfl st) ?_
    rintro ⟨i187, r188, x168⟩ ⟨h193, h194, h192⟩
    try dsimp only at h193 h194 h192
    refine GL.weak (env' := [(0, v0), (6, .int .i64 x7), (7, .int .i64 x104), (13, .int .i64 (i154 : Int)), (14, .int .i64 x168), (45, .int .i64 ((y101).length : Int)), (46, .int .i64 (i154 : Int)), (49, v0), (50, .int .i64 ((x0).length : Int)), (51, .int .i64 (i187 : Int))]) (L' := [imm (TR.sl (TR.sl TR.int)) v0 x0]) (fun _ _ st => st) ?_
    refine GL.seq ?_
    refine GL.region ?_
    refine RL.binI (v := .bool (decide ((i187 : Int) < ((x0).length : Int)))) rfl rfl rfl rfl rfl ?_
    refine RL.finG ?_
    refine GL.seq ?_
    refine GL.cond rfl (fun b195 => ?_) (fun b195 => ?_)
    ·have h196 : i187 < (x0).length := by have := of_decide_eq_true b195; omega
     obtain ⟨y197, r199, hr, e198, h200⟩ := drop_cons h194 rfl h196
     subst hr
     obtain ⟨z189, h190, h191⟩ := rangeL_some h192
     unfold saddle_Bounds_b4 at h190
     try dsimp only at h190
     refine GL.skip ?_
     refine GL.seq ?_
     refine GL.block ?_
     refine GL.seq ?_
     refine GL.region ?_
     refine RL.idxS (sz := 1) 0 Try.underlying37 Try_ln24 rfl rfl rfl rfl rfl SlOf.imm (by omega) (by omega) ?_
     refine RL.ldS (i := i187) (r := (TR.sl TR.int)) (e' := y197) 0 Try_ln24 rfl rfl rfl rfl SlOf.imm e198 Part.self ?_
     intro v202
     refine RL.asg rfl rfl rfl ?_
     refine RL.finG ?_
     refine GL.region ?_
     refine RL.mv rfl rfl rfl ?_
     refine RL.mv rfl rfl rfl ?_
     refine RL.mv rfl rfl rfl ?_
     obtain ⟨y205, e206, h190⟩ := bind_some h190
     refine RL.idxS (sz := 1) 1 Try.underlying24 Try_ln3 rfl rfl rfl rfl rfl SlOf.imm (idx_some e206).1 (idx_some e206).2.1 ?_
     refine RL.ldSx (i := i154) (e' := y205) 1 Ex.ik Try_ln3 rfl rfl rfl rfl SlOf.imm (idx_some e206).2.2 Part.self ?_
     refine RL.maxI rfl rfl rfl rfl ?_
     refine RL.asg rfl rfl rfl ?_
     refine RL.finG ?_
     refine GL.nilB ?_
     refine GL.region ?_
     refine RL.binI (v := .int .i64 ((i187 + 1 : Nat) : Int)) rfl rfl rfl rfl (binI_succ i187 (by omega)) ?_
     refine RL.mv rfl rfl rfl ?_
     refine RL.fin ?_
     cases h190
     exact fun a w st => lop_intro (i187 + 1, r199, if y205 > x168 then y205 else x168) ⟨by show i187 + 1 + r199.length = (x0).length; simp only [List.length_cons] at h193; omega, h200, h191⟩ (by simp) (St.cut [0] ⟨rfl, rfl, rfl, rfl, rfl, rfl, rfl, rfl, rfl, rfl, trivial⟩ (by decide) rfl st)
    have h196 : ¬ i187 < (x0).length := by have := of_decide_eq_false b195; omega
    obtain rfl : r188 = [] := by rw [← h194]; exact List.drop_of_length_le (by omega)
    replace h192 : some (Fl.nx _) = some y180 := h192
    cases h192
    exact GL.exit (fun a w st => mid_intro x168 h183 (St.cut [0] ⟨rfl, rfl, rfl, rfl, rfl, rfl, trivial⟩ (by decide) rfl st))
   rintro x168 h207
   have h208 := h184 _ h207
   try dsimp only at h208
   refine GL.weak (env' := [(0, v0), (6, .int .i64 x7), (7, .int .i64 x104), (14, .int .i64 x168), (45, .int .i64 ((y101).length : Int)), (46, .int .i64 (i154 : Int))]) (L' := [imm (TR.sl (TR.sl TR.int)) v0 x0]) (fun _ _ st => st) ?_
   refine GL.region ?_
   refine RL.mv rfl rfl rfl ?_
   refine RL.mv rfl rfl rfl ?_
   refine RL.minI rfl rfl rfl rfl ?_
   refine RL.asg rfl rfl rfl ?_
   refine RL.finG ?_
   refine GL.nilB ?_
   refine GL.region ?_
   refine RL.binI (v := .int .i64 ((i154 + 1 : Nat) : Int)) rfl rfl rfl rfl (binI_succ i154 (by omega)) ?_
   refine RL.mv rfl rfl rfl ?_
   refine RL.fin ?_
   cases h208
   exact fun a w st => lop_intro (i154 + 1, r166, if x168 < x104 then x168 else x104) ⟨by show i154 + 1 + r166.length = (y101).length; simp only [List.length_cons] at h160; omega, h167, h158⟩ (by simp) (St.cut [0] ⟨rfl, rfl, rfl, rfl, rfl, trivial⟩ (by decide) rfl st)
  have h163 : ¬ i154 < (y101).length := by have := of_decide_eq_false b162; omega
  obtain rfl : r155 = [] := by rw [← h161]; exact List.drop_of_length_le (by omega)
  replace h159 : some (Fl.nx _) = some y147 := h159
  cases h159
  exact GL.exit (fun a w st => mid_intro x104 h150 (St.cut [] ⟨rfl, rfl, trivial⟩ (by decide) rfl st))
 rintro x104 h209
 have h210 := h151 _ h209
 try dsimp only at h210
 refine GL.weak (env' := [(6, .int .i64 x7), (7, .int .i64 x104)]) (L' := []) (fun _ _ st => st) ?_
 refine GL.seq ?_
 refine GL.region ?_
 refine RL.mv rfl rfl rfl ?_
 refine RL.mv rfl rfl rfl ?_
 refine RL.asg rfl rfl rfl ?_
 refine RL.asg rfl rfl rfl ?_
 refine RL.asg rfl rfl rfl ?_
 refine RL.finG ?_
 have h210 := Option.some.inj h210
 subst h210
 exact GL.ret (Gx.ret (v := .tuple #[.int .i64 x7, .int .i64 x104, .int .i64 (0 : Int)]) (res3 rfl rfl rfl rfl) (fun a w st => st.toPostC rfl))

set_option maxHeartbeats 4000000 in
theorem saddle_Points_c (S : Hp) (w : World) (hS : S.sub w) (v0 : Value) (x0 : (List (List Int))) (k0 : ((TR.sl (TR.sl TR.int))).vrep S v0 x0) (res : (List (List Int)) × Int) (hm : saddle_Points_m x0 = some res) : Calls Try.prog 29 #[v0] w (Post w S (fun (o : Value) => .tuple #[o, .int .i64 res.2]) (fun (o : Value) => [own 56 (TR.arr 2 TR.int) o res.1])) := by
 refine calls_enter 73 Try.func29 Try.ntmps29 rfl S false [(0, v0)] [imm (TR.sl (TR.sl TR.int)) v0 x0] rfl ⟨rfl, trivial⟩ hS ⟨k0, trivial⟩ ?_
 unfold saddle_Points_m at hm
 refine GL.seq ?_
 refine GL.region ?_
 refine RL.asg rfl rfl rfl ?_
 refine RL.asg rfl rfl rfl ?_
 refine RL.finG ?_
 refine GL.seq ?_
 refine GL.seq ?_
 refine GL.region ?_
 refine RL.mv rfl rfl rfl ?_
 obtain ⟨y4, e5, hm⟩ := bind_some hm
 refine RL.callC (v := .int .i64 y4) (vs := [v0]) Try_fit88 rfl rfl rfl rfl (fun U w hU hW hL => saddle_Check_c U w hU _ _ (hL 0 _ _ rfl Seen.imm) _ e5) ?_
 refine RL.asg rfl rfl rfl ?_
 refine RL.finG ?_
 refine GL.seq ?_
 refine GL.region ?_
 refine RL.mv rfl rfl rfl ?_
 refine RL.binI (v := .bool (y4 != (0 : Int))) rfl rfl rfl rfl rfl ?_
 refine RL.finG ?_
 refine GL.cond rfl (fun b6 => ?_) (fun b6 => ?_)
 ·replace hm := ite_t b6 hm
  refine GL.seq ?_
  refine GL.region ?_
  refine RL.mv rfl rfl rfl ?_
  refine RL.asg rfl rfl rfl ?_
  refine RL.asg rfl rfl rfl ?_
  refine RL.finG ?_
  refine GL.weak (fun a w st => st.nilOwn 56 (TR.arr 2 TR.int)) ?_
  have hm := Option.some.inj hm
  subst hm
  exact GL.ret (Gx.ret (v := .tuple #[Value.slice none 0 0, .int .i64 y4]) (res2 rfl rfl rfl) (fun a w st => (st.pick [1] (by decide) rfl).toPost (Value.slice none 0 0)))
 replace hm := ite_f b6 hm
 refine GL.skip ?_
 refine GL.seq ?_
 refine GL.region ?_
 refine RL.asg rfl rfl rfl ?_
 refine RL.finG ?_
 refine GL.seq ?_
 refine GL.seq ?_
 refine GL.region ?_
 refine RL.mv rfl rfl rfl ?_
 refine RL.lenS 0 Try.underlying37 rfl rfl rfl rfl SlOf.imm ?_
 refine RL.mv rfl rfl rfl ?_
 refine RL.finG ?_
 refine GL.weak (fun a w st => st.nilOwn 56 (TR.arr 2 TR.int)) ?_
 refine GL.open_ 0 rfl (fun S h => len_imm S h) (fun n319 => ?_)
 obtain ⟨y320, K321, h322, h323, h324, h325, h326⟩ := bindR_K hm
 refine GL.join (ι := (List (List Int)) × Value) (fun (p : (List (List Int)) × Value) => [(5, p.2)]) (fun (p : (List (List Int)) × Value) => [own 56 (TR.arr 2 TR.int) p.2 p.1]) (fun (p : (List (List Int)) × Value) => K321 (.nx p.1)) ?_ ?_
 ·refine GL.block ?_
  refine GL.loop (ι := Nat × (List (List Int)) × (List (List Int)) × Value) (fun (p : Nat × (List (List Int)) × (List (List Int)) × Value) => [(0, v0), (5, p.2.2.2), (20, v0), (21, .int .i64 ((x0).length : Int)), (22, .int .i64 (p.1 : Int))]) (fun (p : Nat × (List (List Int)) × (List (List Int)) × Value) => [imm (TR.sl (TR.sl TR.int)) v0 x0, own 56 (TR.arr 2 TR.int) p.2.2.2 p.2.2.1]) (fun (p : Nat × (List (List Int)) × (List (List Int)) × Value) => p.1 + p.2.1.length = (x0).length ∧ List.drop p.1 x0 = p.2.1 ∧ rangeL (saddle_Points_b1 x0) p.2.1 p.1 p.2.2.1 = some y320) (fun (p : Nat × (List (List Int)) × (List (List Int)) × Value) => p.2.1.length) (0, x0, [], Value.slice none 0 0) ⟨by simp, by simp, h322⟩ (fun a w st => St.cut [0, 1] ⟨rfl, rfl, rfl, rfl, rfl, trivial⟩ (by decide) rfl st) ?_
  rintro ⟨i327, r328, l7, v8⟩ ⟨h333, h334, h332⟩
  try dsimp only at h333 h334 h332
  refine GL.weak (env' := [(0, v0), (5, v8), (20, v0), (21, .int .i64 ((x0).length : Int)), (22, .int .i64 (i327 : Int))]) (L' := [imm (TR.sl (TR.sl TR.int)) v0 x0, own 56 (TR.arr 2 TR.int) v8 l7]) (fun _ _ st => st) ?_
  refine GL.seq ?_
  refine GL.region ?_
  refine RL.binI (v := .bool (decide ((i327 : Int) < ((x0).length : Int)))) rfl rfl rfl rfl rfl ?_
  refine RL.finG ?_
  refine GL.seq ?_
  refine GL.cond rfl (fun b335 => ?_) (fun b335 => ?_)
  ·have h336 : i327 < (x0).length := by have := of_decide_eq_true b335; omega
   obtain ⟨y337, r339, hr, e338, h340⟩ := drop_cons h334 rfl h336
   subst hr
   obtain ⟨z329, h330, h331⟩ := rangeL_some h332
   unfold saddle_Points_b1 at h330
   try dsimp only at h330
   refine GL.skip ?_
   refine GL.seq ?_
   refine GL.block ?_
   refine GL.seq ?_
   refine GL.region ?_
   refine RL.mv rfl rfl rfl ?_
   refine RL.idxS (sz := 1) 0 Try.underlying37 Try_ln24 rfl rfl rfl rfl rfl SlOf.imm (by omega) (by omega) ?_
   refine RL.ldS (i := i327) (r := (TR.sl TR.int)) (e' := y337) 0 Try_ln24 rfl rfl rfl rfl SlOf.imm e338 Part.self ?_
   intro v342
   refine RL.asg rfl rfl rfl ?_
   refine RL.asg rfl rfl rfl ?_
   refine RL.finG ?_
   refine GL.seq ?_
   refine GL.region ?_
   refine RL.mv rfl rfl rfl ?_
   refine RL.lenS 2 Try.underlying24 rfl rfl rfl rfl SlOf.imm ?_
   refine RL.mv rfl rfl rfl ?_
   refine RL.finG ?_
   refine GL.open_ 2 rfl (fun S h => len_imm S h) (fun n486 => ?_)
   obtain ⟨y487, K488, h489, h490, h491, h492, h493⟩ := bindF_K h330
   refine GL.join (ι := (List (List Int)) × Value) (fun (p : (List (List Int)) × Value) => [(0, v0), (5, p.2), (20, v0), (21, .int .i64 ((x0).length : Int)), (22, .int .i64 (i327 : Int))]) (fun (p : (List (List Int)) × Value) => [imm (TR.sl (TR.sl TR.int)) v0 x0, own 56 (TR.arr 2 TR.int) p.2 p.1]) (fun (p : (List (List Int)) × Value) => K488 (.nx p.1)) ?_ ?_
   ·refine GL.block ?_
    refine GL.loop (ι := Nat × (List Int) × (List (List Int)) × Value) (fun (p : Nat × (List Int) × (List (List Int)) × Value) => [(0, v0), (5, p.2.2.2), (6, .int .i64 (i327 : Int)), (7, v342), (20, v0), (21, .int .i64 ((x0).length : Int)), (22, .int .i64 (i327 : Int)), (27, v342), (28, .int .i64 ((y337).length : Int)), (29, .int .i64 (p.1 : Int))]) (fun (p : Nat × (List Int) × (List (List Int)) × Value) => [imm (TR.sl (TR.sl TR.int)) v0 x0, own 56 (TR.arr 2 TR.int) p.2.2.2 p.2.2.1, imm (TR.sl TR.int) v342 y337]) (fun (p : Nat × (List Int) × (List (List Int)) × Value) => p.1 + p.2.1.length = (y337).length ∧ List.drop p.1 y337 = p.2.1 ∧ rangeL (saddle_Points_b2 y337 x0 i327) p.2.1 p.1 p.2.2.1 = some y487) (fun (p : Nat × (List Int) × (List (List Int)) × Value) => p.2.1.length) (0, y337, l7, v8) ⟨by simp, by simp, h489⟩ (fun a w st => St.cut [0, 1, 2] ⟨rfl, rfl, rfl, rfl, rfl, rfl, rfl, rfl, rfl, rfl, trivial⟩ (by decide) rfl st) ?_
    rintro ⟨i494, r495, l343, v344⟩ ⟨h500, h501, h499⟩
    try dsimp only at h500 h501 h499
    refine GL.weak (env' := [(0, v0), (5, v344), (6, .int .i64 (i327 : Int)), (7, v342), (20, v0), (21, .int .i64 ((x0).length : Int)), (22, .int .i64 (i327 : Int)), (27, v342), (28, .int .i64 ((y337).length : Int)), (29, .int .i64 (i494 : Int))]) (L' := [imm (TR.sl (TR.sl TR.int)) v0 x0, own 56 (TR.arr 2 TR.int) v344 l343, imm (TR.sl TR.int) v342 y337]) (fun _ _ st => st) ?_
    refine GL.seq ?_
    refine GL.region ?_
    refine RL.binI (v := .bool (decide ((i494 : Int) < ((y337).length : Int)))) rfl rfl rfl rfl rfl ?_
    refine RL.finG ?_
    refine GL.seq ?_
    refine GL.cond rfl (fun b502 => ?_) (fun b502 => ?_)
    ·have h503 : i494 < (y337).length := by have := of_decide_eq_true b502; omega
     obtain ⟨y504, r506, hr, e505, h507⟩ := drop_cons h501 rfl h503
     subst hr
     obtain ⟨z496, h497, h498⟩ := rangeL_some h499
     unfold saddle_Points_b2 at h497
     try dsimp only at h497
     refine GL.skip ?_
     refine GL.seq ?_
     refine GL.block ?_
     refine GL.seq ?_
     refine GL.region ?_
     refine RL.mv rfl rfl rfl ?_
     refine RL.idxS (sz := 1) 2 Try.underlying24 Try_ln3 rfl rfl rfl rfl rfl SlOf.imm (by omega) (by omega) ?_
     refine RL.ldSx (i := i494) (e' := y504) 2 Ex.ik Try_ln3 rfl rfl rfl rfl SlOf.imm e505 Part.self ?_
     refine RL.asg rfl rfl rfl ?_
     refine RL.asg rfl rfl rfl ?_
     refine RL.finG ?_
     refine GL.seq ?_
     refine GL.region ?_
     refine RL.asg rfl rfl rfl ?_
     refine RL.finG ?_
     refine GL.seq ?_
     refine GL.seq ?_
     refine GL.region ?_
     refine RL.mv rfl rfl rfl ?_
     refine RL.lenS 2 Try.underlying24 rfl rfl rfl rfl SlOf.imm ?_
     refine RL.mv rfl rfl rfl ?_
     refine RL.finG ?_
     refine GL.open_ 2 rfl (fun S h => len_imm S h) (fun n526 => ?_)
     obtain ⟨y527, K528, h529, h530, h531, h532, h533⟩ := bindF_K h497
     refine GL.join (ι := Bool) (fun (p : Bool) => [(0, v0), (5, v344), (6, .int .i64 (i327 : Int)), (7, v342), (8, .int .i64 (i494 : Int)), (9, .int .i64 y504), (10, .bool p), (20, v0), (21, .int .i64 ((x0).length : Int)), (22, .int .i64 (i327 : Int)), (27, v342), (28, .int .i64 ((y337).length : Int)), (29, .int .i64 (i494 : Int))]) (fun (p : Bool) => [imm (TR.sl (TR.sl TR.int)) v0 x0, own 56 (TR.arr 2 TR.int) v344 l343, imm (TR.sl TR.int) v342 y337]) (fun (p : Bool) => K528 (.nx p)) ?_ ?_
     ·refine GL.block ?_
      refine GL.loop (ι := Nat × (List Int) × Bool) (fun (p : Nat × (List Int) × Bool) => [(0, v0), (5, v344), (6, .int .i64 (i327 : Int)), (7, v342), (8, .int .i64 (i494 : Int)), (9, .int .i64 y504), (10, .bool p.2.2), (20, v0), (21, .int .i64 ((x0).length : Int)), (22, .int .i64 (i327 : Int)), (27, v342), (28, .int .i64 ((y337).length : Int)), (29, .int .i64 (i494 : Int)), (34, v342), (35, .int .i64 ((y337).length : Int)), (36, .int .i64 (p.1 : Int))]) (fun (p : Nat × (List Int) × Bool) => [imm (TR.sl (TR.sl TR.int)) v0 x0, own 56 (TR.arr 2 TR.int) v344 l343, imm (TR.sl TR.int) v342 y337]) (fun (p : Nat × (List Int) × Bool) => p.1 + p.2.1.length = (y337).length ∧ List.drop p.1 y337 = p.2.1 ∧ rangeL (saddle_Points_b3 y504) p.2.1 p.1 p.2.2 = some y527) (fun (p : Nat × (List Int) × Bool) => p.2.1.length) (0, y337, true) ⟨by simp, by simp, h529⟩ (fun a w st => St.cut [0, 1, 2] ⟨rfl, rfl, rfl, rfl, rfl, rfl, rfl, rfl, rfl, rfl, rfl, rfl, rfl, rfl, rfl, rfl, trivial⟩ (by decide) rfl st) ?_
      rintro ⟨i534, r535, x508⟩ ⟨h540, h541, h539⟩
      try dsimp only at h540 h541 h539
      refine GL.weak (env' := [(0, v0), (5, v344), (6, .int .i64 (i327 : Int)), (7, v342), (8, .int .i64 (i494 : Int)), (9, .int .i64 y504), (10, .bool x508), (20, v0), (21, .int .i64 ((x0).length : Int)), (22, .int .i64 (i327 : Int)), (27, v342), (28, .int .i64 ((y337).length : Int)), (29, .int .i64 (i494 : Int)), (34, v342), (35, .int .i64 ((y337).length : Int)), (36, .int .i64 (i534 : Int))]) (L' := [imm (TR.sl (TR.sl TR.int)) v0 x0, own 56 (TR.arr 2 TR.int) v344 l343, imm (TR.sl TR.int) v342 y337]) (fun _ _ st => st) ?_
      refine GL.seq ?_
      refine GL.region ?_
      refine RL.binI (v := .bool (decide ((i534 : Int) < ((y337).length : Int)))) rfl rfl rfl rfl rfl ?_
      refine RL.finG ?_
      refine GL.seq ?_
      refine GL.cond rfl (fun b542 => ?_) (fun b542 => ?_)
      ·have h543 : i534 < (y337).length := by have := of_decide_eq_true b542; omega
       obtain ⟨y544, r546, hr, e545, h547⟩ := drop_cons h541 rfl h543
       subst hr
       obtain ⟨z536, h537, h538⟩ := rangeL_some h539
       unfold saddle_Points_b3 at h537
       try dsimp only at h537
       refine GL.skip ?_
       refine GL.seq ?_
       refine GL.block ?_
       refine GL.seq ?_
       refine GL.region ?_
       refine RL.idxS (sz := 1) 2 Try.underlying24 Try_ln3 rfl rfl rfl rfl rfl SlOf.imm (by omega) (by omega) ?_
       refine RL.ldSx (i := i534) (e' := y544) 2 Ex.ik Try_ln3 rfl rfl rfl rfl SlOf.imm e545 Part.self ?_
       refine RL.asg rfl rfl rfl ?_
       refine RL.finG ?_
       obtain ⟨y551, K552, h553, h554, h555, h556, h557⟩ := bindF_K h537
       refine GL.join (ι := Bool) (fun (p : Bool) => [(0, v0), (5, v344), (6, .int .i64 (i327 : Int)), (7, v342), (8, .int .i64 (i494 : Int)), (9, .int .i64 y504), (10, .bool p), (20, v0), (21, .int .i64 ((x0).length : Int)), (22, .int .i64 (i327 : Int)), (27, v342), (28, .int .i64 ((y337).length : Int)), (29, .int .i64 (i494 : Int)), (34, v342), (35, .int .i64 ((y337).length : Int)), (36, .int .i64 (i534 : Int))]) (fun (p : Bool) => [imm (TR.sl (TR.sl TR.int)) v0 x0, own 56 (TR.arr 2 TR.int) v344 l343, imm (TR.sl TR.int) v342 y337]) (fun (p : Bool) => K552 (.nx p)) ?_ ?_
       ·skip
        refine GL.region ?_
        refine RL.mv rfl rfl rfl ?_
        refine RL.mv rfl rfl rfl ?_
        refine RL.split (t := 41) rfl (fun b558 => ?_) (fun b558 => ?_)
        ·replace h553 := ite_t b558 h553
         refine RL.mv rfl rfl rfl ?_
         refine RL.mv rfl rfl rfl ?_
         refine RL.binI (v := .bool (decide (y504 ≤ y544))) rfl rfl rfl rfl rfl ?_
         refine RL.pickT rfl rfl rfl rfl ?_
         refine RL.asg rfl rfl rfl ?_
         refine RL.fin ?_
         cases h553
         exact fun a w st => mid_intro (decide (y504 ≤ y544)) h554 (St.cut [0, 1, 2] ⟨rfl, rfl, rfl, rfl, rfl, rfl, rfl, rfl, rfl, rfl, rfl, rfl, rfl, rfl, rfl, rfl, trivial⟩ (by decide) rfl st)
        replace h553 := ite_f b558 h553
        refine RL.skip rfl rfl ?_
        refine RL.skip rfl rfl ?_
        refine RL.skip rfl rfl ?_
        refine RL.pickF rfl rfl rfl rfl ?_
        refine RL.asg rfl rfl rfl ?_
        refine RL.fin ?_
        cases h553
        exact fun a w st => mid_intro false h554 (St.cut [0, 1, 2] ⟨rfl, rfl, rfl, rfl, rfl, rfl, rfl, rfl, rfl, rfl, rfl, rfl, rfl, rfl, rfl, rfl, trivial⟩ (by decide) rfl st)
       rintro x550 h559
       have h560 := h555 _ h559
       try dsimp only at h560
       refine GL.weak (env' := [(0, v0), (5, v344), (6, .int .i64 (i327 : Int)), (7, v342), (8, .int .i64 (i494 : Int)), (9, .int .i64 y504), (10, .bool x550), (20, v0), (21, .int .i64 ((x0).length : Int)), (22, .int .i64 (i327 : Int)), (27, v342), (28, .int .i64 ((y337).length : Int)), (29, .int .i64 (i494 : Int)), (34, v342), (35, .int .i64 ((y337).length : Int)), (36, .int .i64 (i534 : Int))]) (L' := [imm (TR.sl (TR.sl TR.int)) v0 x0, own 56 (TR.arr 2 TR.int) v344 l343, imm (TR.sl TR.int) v342 y337]) (fun _ _ st => st) ?_
       refine GL.nilB ?_
       refine GL.region ?_
       refine RL.binI (v := .int .i64 ((i534 + 1 : Nat) : Int)) rfl rfl rfl rfl (binI_succ i534 (by omega)) ?_
       refine RL.mv rfl rfl rfl ?_
       refine RL.fin ?_
       cases h560
       exact fun a w st => lop_intro (i534 + 1, r546, x550) ⟨by show i534 + 1 + r546.length = (y337).length; simp only [List.length_cons] at h540; omega, h547, h538⟩ (by simp) (St.cut [0, 1, 2] ⟨rfl, rfl, rfl, rfl, rfl, rfl, rfl, rfl, rfl, rfl, rfl, rfl, rfl, rfl, rfl, rfl, trivial⟩ (by decide) rfl st)
      have h543 : ¬ i534 < (y337).length := by have := of_decide_eq_false b542; omega
      obtain rfl : r535 = [] := by rw [← h541]; exact List.drop_of_length_le (by omega)
      replace h539 : some (Fl.nx _) = some y527 := h539
      cases h539
      exact GL.exit (fun a w st => mid_intro x508 h530 (St.cut [0, 1, 2] ⟨rfl, rfl, rfl, rfl, rfl, rfl, rfl, rfl, rfl, rfl, rfl, rfl, rfl, trivial⟩ (by decide) rfl st))
     rintro x508 h561
     have h562 := h531 _ h561
     try dsimp only at h562
     refine GL.weak (env' := [(0, v0), (5, v344), (6, .int .i64 (i327 : Int)), (7, v342), (8, .int .i64 (i494 : Int)), (9, .int .i64 y504), (10, .bool x508), (20, v0), (21, .int .i64 ((x0).length : Int)), (22, .int .i64 (i327 : Int)), (27, v342), (28, .int .i64 ((y337).length : Int)), (29, .int .i64 (i494 : Int))]) (L' := [imm (TR.sl (TR.sl TR.int)) v0 x0, own 56 (TR.arr 2 TR.int) v344 l343, imm (TR.sl TR.int) v342 y337]) (fun _ _ st => st) ?_
     refine GL.seq ?_
     refine GL.seq ?_
     refine GL.region ?_
     refine RL.mv rfl rfl rfl ?_
     refine RL.lenS 0 Try.underlying37 rfl rfl rfl rfl SlOf.imm ?_
     refine RL.mv rfl rfl rfl ?_
     refine RL.finG ?_
     refine GL.open_ 0 rfl (fun S h => len_imm S h) (fun n589 => ?_)
     obtain ⟨y590, K591, h592, h593, h594, h595, h596⟩ := bindF_K h562
     refine GL.join (ι := Bool) (fun (p : Bool) => [(0, v0), (5, v344), (6, .int .i64 (i327 : Int)), (7, v342), (8, .int .i64 (i494 : Int)), (10, .bool p), (20, v0), (21, .int .i64 ((x0).length : Int)), (22, .int .i64 (i327 : Int)), (27, v342), (28, .int .i64 ((y337).length : Int)), (29, .int .i64 (i494 : Int))]) (fun (p : Bool) => [imm (TR.sl (TR.sl TR.int)) v0 x0, own 56 (TR.arr 2 TR.int) v344 l343, imm (TR.sl TR.int) v342 y337]) (fun (p : Bool) => K591 (.nx p)) ?_ ?_
     ·refine GL.block ?_
      refine GL.loop (ι := Nat × (List (List Int)) × Bool) (fun (p : Nat × (List (List Int)) × Bool) => [(0, v0), (5, v344), (6, .int .i64 (i327 : Int)), (7, v342), (8, .int .i64 (i494 : Int)), (9, .int .i64 y504), (10, .bool p.2.2), (20, v0), (21, .int .i64 ((x0).length : Int)), (22, .int .i64 (i327 : Int)), (27, v342), (28, .int .i64 ((y337).length : Int)), (29, .int .i64 (i494 : Int)), (47, v0), (48, .int .i64 ((x0).length : Int)), (49, .int .i64 (p.1 : Int))]) (fun (p : Nat × (List (List Int)) × Bool) => [imm (TR.sl (TR.sl TR.int)) v0 x0, own 56 (TR.arr 2 TR.int) v344 l343, imm (TR.sl TR.int) v342 y337]) (fun (p : Nat × (List (List Int)) × Bool) => p.1 + p.2.1.length = (x0).length ∧ List.drop p.1 x0 = p.2.1 ∧ rangeL (saddle_Points_b4 i494 y504) p.2.1 p.1 p.2.2 = some y590) (fun (p : Nat × (List (List Int)) × Bool) => p.2.1.length) (0, x0, x508) ⟨by simp, by simp, h592⟩ (fun a w st => St.cut [0, 1, 2] ⟨rfl, rfl, rfl, rfl, rfl, rfl, rfl, rfl, rfl, rfl, rfl, rfl, rfl, rfl, rfl, rfl, trivial⟩ (by decide) rfl st) ?_
      rintro ⟨i597, r598, x563⟩ ⟨h603, h604, h602⟩
      try dsimp only at h603 h604 h602
      refine GL.weak (env' := [(0, v0), (5, v344), (6, .int .i64 (i327 : Int)), (7, v342), (8, .int .i64 (i494 : Int)), (9, .int .i64 y504), (10, .bool x563), (20, v0), (21, .int .i64 ((x0).length : Int)), (22, .int .i64 (i327 : Int)), (27, v342), (28, .int .i64 ((y337).length : Int)), (29, .int .i64 (i494 : Int)), (47, v0), (48, .int .i64 ((x0).length : Int)), (49, .int .i64 (i597 : Int))]) (L' := [imm (TR.sl (TR.sl TR.int)) v0 x0, own 56 (TR.arr 2 TR.int) v344 l343, imm (TR.sl TR.int) v342 y337]) (fun _ _ st => st) ?_
      refine GL.seq ?_
      refine GL.region ?_
      refine RL.binI (v := .bool (decide ((i597 : Int) < ((x0).length : Int)))) rfl rfl rfl rfl rfl ?_
      refine RL.finG ?_
      refine GL.seq ?_
      refine GL.cond rfl (fun b605 => ?_) (fun b605 => ?_)
      ·have h606 : i597 < (x0).length := by have := of_decide_eq_true b605; omega
       obtain ⟨y607, r609, hr, e608, h610⟩ := drop_cons h604 rfl h606
       subst hr
       obtain ⟨z599, h600, h601⟩ := rangeL_some h602
       unfold saddle_Points_b4 at h600
       try dsimp only at h600
       refine GL.skip ?_
       refine GL.seq ?_
       refine GL.block ?_
       refine GL.seq ?_
       refine GL.region ?_
       refine RL.idxS (sz := 1) 0 Try.underlying37 Try_ln24 rfl rfl rfl rfl rfl SlOf.imm (by omega) (by omega) ?_
       refine RL.ldS (i := i597) (r := (TR.sl TR.int)) (e' := y607) 0 Try_ln24 rfl rfl rfl rfl SlOf.imm e608 Part.self ?_
       intro v612
       refine RL.asg rfl rfl rfl ?_
       refine RL.finG ?_
       obtain ⟨y620, K621, h622, h623, h624, h625, h626⟩ := bindF_K h600
       refine GL.join (ι := Bool) (fun (p : Bool) => [(0, v0), (5, v344), (6, .int .i64 (i327 : Int)), (7, v342), (8, .int .i64 (i494 : Int)), (9, .int .i64 y504), (10, .bool p), (20, v0), (21, .int .i64 ((x0).length : Int)), (22, .int .i64 (i327 : Int)), (27, v342), (28, .int .i64 ((y337).length : Int)), (29, .int .i64 (i494 : Int)), (47, v0), (48, .int .i64 ((x0).length : Int)), (49, .int .i64 (i597 : Int))]) (fun (p : Bool) => [imm (TR.sl (TR.sl TR.int)) v0 x0, own 56 (TR.arr 2 TR.int) v344 l343, imm (TR.sl TR.int) v342 y337]) (fun (p : Bool) => K621 (.nx p)) ?_ ?_
       ·skip
        refine GL.region ?_
        refine RL.mv rfl rfl rfl ?_
        refine RL.mv rfl rfl rfl ?_
        refine RL.split (t := 54) rfl (fun b627 => ?_) (fun b627 => ?_)
        ·replace h622 := ite_t b627 h622
         refine RL.mv rfl rfl rfl ?_
         refine RL.mv rfl rfl rfl ?_
         refine RL.mv rfl rfl rfl ?_
         obtain ⟨y628, e629, h622⟩ := bind_some h622
         refine RL.idxS (sz := 1) 3 Try.underlying24 Try_ln3 rfl rfl rfl rfl rfl SlOf.imm (idx_some e629).1 (idx_some e629).2.1 ?_
         refine RL.ldSx (i := i494) (e' := y628) 3 Ex.ik Try_ln3 rfl rfl rfl rfl SlOf.imm (idx_some e629).2.2 Part.self ?_
         refine RL.binI (v := .bool (decide (y504 ≥ y628))) rfl rfl rfl rfl rfl ?_
         refine RL.pickT rfl rfl rfl rfl ?_
         refine RL.asg rfl rfl rfl ?_
         refine RL.fin ?_
         cases h622
         exact fun a w st => mid_intro (decide (y504 ≥ y628)) h623 (St.cut [0, 1, 2] ⟨rfl, rfl, rfl, rfl, rfl, rfl, rfl, rfl, rfl, rfl, rfl, rfl, rfl, rfl, rfl, rfl, trivial⟩ (by decide) rfl st)
        replace h622 := ite_f b627 h622
        refine RL.skip rfl rfl ?_
        refine RL.skip rfl rfl ?_
        refine RL.skip rfl rfl ?_
        refine RL.skip rfl rfl ?_
        refine RL.skip rfl rfl ?_
        refine RL.skip rfl rfl ?_
        refine RL.pickF rfl rfl rfl rfl ?_
        refine RL.asg rfl rfl rfl ?_
        refine RL.fin ?_
        cases h622
        exact fun a w st => mid_intro false h623 (St.cut [0, 1, 2] ⟨rfl, rfl, rfl, rfl, rfl, rfl, rfl, rfl, rfl, rfl, rfl, rfl, rfl, rfl, rfl, rfl, trivial⟩ (by decide) rfl st)
       rintro x619 h630
       have h631 := h624 _ h630
       try dsimp only at h631
       refine GL.weak (env' := [(0, v0), (5, v344), (6, .int .i64 (i327 : Int)), (7, v342), (8, .int .i64 (i494 : Int)), (9, .int .i64 y504), (10, .bool x619), (20, v0), (21, .int .i64 ((x0).length : Int)), (22, .int .i64 (i327 : Int)), (27, v342), (28, .int .i64 ((y337).length : Int)), (29, .int .i64 (i494 : Int)), (47, v0), (48, .int .i64 ((x0).length : Int)), (49, .int .i64 (i597 : Int))]) (L' := [imm (TR.sl (TR.sl TR.int)) v0 x0, own 56 (TR.arr 2 TR.int) v344 l343, imm (TR.sl TR.int) v342 y337]) (fun _ _ st => st) ?_
       refine GL.nilB ?_
       refine GL.region ?_
       refine RL.binI (v := .int .i64 ((i597 + 1 : Nat) : Int)) rfl rfl rfl rfl (binI_succ i597 (by omega)) ?_
       refine RL.mv rfl rfl rfl ?_
       refine RL.fin ?_
       cases h631
       exact fun a w st => lop_intro (i597 + 1, r609, x619) ⟨by show i597 + 1 + r609.length = (x0).length; simp only [List.length_cons] at h603; omega, h610, h601⟩ (by simp) (St.cut [0, 1, 2] ⟨rfl, rfl, rfl, rfl, rfl, rfl, rfl, rfl, rfl, rfl, rfl, rfl, rfl, rfl, rfl, rfl, trivial⟩ (by decide) rfl st)
      have h606 : ¬ i597 < (x0).length := by have := of_decide_eq_false b605; omega
      obtain rfl : r598 = [] := by rw [← h604]; exact List.drop_of_length_le (by omega)
      replace h602 : some (Fl.nx _) = some y590 := h602
      cases h602
      exact GL.exit (fun a w st => mid_intro x563 h593 (St.cut [0, 1, 2] ⟨rfl, rfl, rfl, rfl, rfl, rfl, rfl, rfl, rfl, rfl, rfl, rfl, trivial⟩ (by decide) rfl st))
     rintro x563 h632
     have h633 := h594 _ h632
     try dsimp only at h633
     refine GL.weak (env' := [(0, v0), (5, v344), (6, .int .i64 (i327 : Int)), (7, v342), (8, .int .i64 (i494 : Int)), (10, .bool x563), (20, v0), (21, .int .i64 ((x0).length : Int)), (22, .int .i64 (i327 : Int)), (27, v342), (28, .int .i64 ((y337).length : Int)), (29, .int .i64 (i494 : Int))]) (L' := [imm (TR.sl (TR.sl TR.int)) v0 x0, own 56 (TR.arr 2 TR.int) v344 l343, imm (TR.sl TR.int) v342 y337]) (fun _ _ st => st) ?_
     refine GL.seq ?_
     refine GL.region ?_
     refine RL.mv rfl rfl rfl ?_
     refine RL.finG ?_
     refine GL.cond rfl (fun b634 => ?_) (fun b634 => ?_)
     ·replace h633 := ite_t b634 h633
      refine GL.region ?_
      refine RL.mv rfl rfl rfl ?_
      refine RL.mv rfl rfl rfl ?_
      refine RL.mv rfl rfl rfl ?_
      refine RL.bldA (t := (TR.arr 2 TR.int)) (d0 := ([(i327 : Int), (i494 : Int)] : (List Int))) (pv := [(0, .int .i64 (i327 : Int)), (1, .int .i64 (i494 : Int))]) rfl Try_bld56 (by decide) rfl rfl rfl ⟨⟨_, _, TR.int, (i327 : Int), rfl, rfl, VR.int⟩, ⟨⟨_, _, TR.int, (i494 : Int), rfl, rfl, VR.int⟩, trivial⟩⟩ (fun S f hi => by
        obtain ⟨c0, e0, r0⟩ := cells_vrep (t := TR.int) (u := .int .i64 (i327 : Int)) (e := (i327 : Int)) (VR.int S f hi)
        obtain ⟨c1, e1, r1⟩ := cells_vrep (t := TR.int) (u := .int .i64 (i494 : Int)) (e := (i494 : Int)) (VR.int S f hi)
        show TR.rep (TR.arr 2 TR.int) S (List.flatten [(.int .i64 (i327 : Int) : Value).cells.toList, (.int .i64 (i494 : Int) : Value).cells.toList]) _
        simp only [e0, e1,  List.flatten_cons, List.flatten_nil, List.append_nil]
        exact ⟨rfl, ⟨_, _, rfl, r0, ⟨_, [], (List.append_nil _).symm, r1, rfl⟩⟩⟩) ?_
      intro v640
      refine RL.bS (t := (TR.arr 2 TR.int)) (vs := [v640]) ([([(i327 : Int), (i494 : Int)] : (List Int))] : (List (List Int))) Try.underlying51 Try_lo56 rfl rfl rfl rfl ⟨(VR.item 3 rfl), trivial⟩ rfl (by decide) ?_
      intro v641
      refine RL.reL (L' := [imm (TR.sl (TR.sl TR.int)) v0 x0, own 56 (TR.arr 2 TR.int) v344 l343, imm (TR.sl TR.int) v342 y337, imm (TR.arr 2 TR.int) v640 ([(i327 : Int), (i494 : Int)] : (List Int)), own 56 (TR.arr 2 TR.int) v641 ([([(i327 : Int), (i494 : Int)] : (List Int))] : (List (List Int)))]) rfl ?_
      obtain ⟨y642, e643, h633⟩ := bind_some h633
      replace e643 := chk_some e643
      refine RL.app 1 4 Try.underlying51 Try_lo56 rfl rfl rfl rfl rfl rfl rfl SlOf.own e643 ?_
      intro v644
      refine RL.asg rfl rfl rfl ?_
      refine RL.finG ?_
      refine GL.nilB ?_
      refine GL.region ?_
      refine RL.binI (v := .int .i64 ((i494 + 1 : Nat) : Int)) rfl rfl rfl rfl (binI_succ i494 (by omega)) ?_
      refine RL.mv rfl rfl rfl ?_
      refine RL.fin ?_
      cases h633
      exact fun a w st => lop_intro (i494 + 1, r506, (l343 ++ ([([(i327 : Int), (i494 : Int)] : (List Int))] : (List (List Int)))), v644) ⟨by show i494 + 1 + r506.length = (y337).length; simp only [List.length_cons] at h500; omega, h507, h498⟩ (by simp) (St.cut [0, 1, 2] ⟨rfl, rfl, rfl, rfl, rfl, rfl, rfl, rfl, rfl, rfl, trivial⟩ (by decide) rfl st)
     replace h633 := ite_f b634 h633
     refine GL.skip ?_
     refine GL.nilB ?_
     refine GL.region ?_
     refine RL.binI (v := .int .i64 ((i494 + 1 : Nat) : Int)) rfl rfl rfl rfl (binI_succ i494 (by omega)) ?_
     refine RL.mv rfl rfl rfl ?_
     refine RL.fin ?_
     cases h633
     exact fun a w st => lop_intro (i494 + 1, r506, l343, v344) ⟨by show i494 + 1 + r506.length = (y337).length; simp only [List.length_cons] at h500; omega, h507, h498⟩ (by simp) (St.cut [0, 1, 2] ⟨rfl, rfl, rfl, rfl, rfl, rfl, rfl, rfl, rfl, rfl, trivial⟩ (by decide) rfl st)
    have h503 : ¬ i494 < (y337).length := by have := of_decide_eq_false b502; omega
    obtain rfl : r495 = [] := by rw [← h501]; exact List.drop_of_length_le (by omega)
    replace h499 : some (Fl.nx _) = some y487 := h499
    cases h499
    exact GL.exit (fun a w st => mid_intro (l343, v344) h490 (St.cut [0, 1] ⟨rfl, rfl, rfl, rfl, rfl, trivial⟩ (by decide) rfl st))
   rintro ⟨l343, v344⟩ h645
   have h646 := h491 _ h645
   try dsimp only at h646
   refine GL.weak (env' := [(0, v0), (5, v344), (20, v0), (21, .int .i64 ((x0).length : Int)), (22, .int .i64 (i327 : Int))]) (L' := [imm (TR.sl (TR.sl TR.int)) v0 x0, own 56 (TR.arr 2 TR.int) v344 l343]) (fun _ _ st => st) ?_
   refine GL.nilB ?_
   refine GL.region ?_
   refine RL.binI (v := .int .i64 ((i327 + 1 : Nat) : Int)) rfl rfl rfl rfl (binI_succ i327 (by omega)) ?_
   refine RL.mv rfl rfl rfl ?_
   refine RL.fin ?_
   cases h646
   exact fun a w st => lop_intro (i327 + 1, r339, l343, v344) ⟨by show i327 + 1 + r339.length = (x0).length; simp only [List.length_cons] at h333; omega, h340, h331⟩ (by simp) (St.cut [0, 1] ⟨rfl, rfl, rfl, rfl, rfl, trivial⟩ (by decide) rfl st)
  have h336 : ¬ i327 < (x0).length := by have := of_decide_eq_false b335; omega
  obtain rfl : r328 = [] := by rw [← h334]; exact List.drop_of_length_le (by omega)
  replace h332 : some (Fl.nx _) = some y320 := h332
  cases h332
  exact GL.exit (fun a w st => mid_intro (l7, v8) h323 (St.cut [1] ⟨rfl, trivial⟩ (by decide) rfl st))
 rintro ⟨l7, v8⟩ h647
 have h648 := h324 _ h647
 try dsimp only at h648
 refine GL.weak (env' := [(5, v8)]) (L' := [own 56 (TR.arr 2 TR.int) v8 l7]) (fun _ _ st => st) ?_
 refine GL.seq ?_
 refine GL.region ?_
 refine RL.mv rfl rfl rfl ?_
 refine RL.asg rfl rfl rfl ?_
 refine RL.asg rfl rfl rfl ?_
 refine RL.finG ?_
 have h648 := Option.some.inj h648
 subst h648
 exact GL.ret (Gx.ret (v := .tuple #[v8, .int .i64 (0 : Int)]) (res2 rfl rfl rfl) (fun a w st => (st.pick [0] (by decide) rfl).toPost v8))

set_option maxHeartbeats 4000000 in
theorem pk_saddles_c (S : Hp) (w : World) (hS : S.sub w)  (res : Bool) (hm : pk_saddles_m = some res) : Calls Try.prog 27 #[] w (PostV w (.bool res)) := by
 refine calls_enter 39 Try.func27 Try.ntmps27 rfl S false [] [] rfl trivial hS trivial ?_
 unfold pk_saddles_m at hm
 refine GL.seq ?_
 refine GL.region ?_
 refine RL.asg rfl rfl rfl ?_
 refine RL.finG ?_
 refine GL.seq ?_
 refine GL.region ?_
 refine RL.bS (t := TR.int) (vs := [.int .i64 (3 : Int), .int .i64 (1 : Int)]) ([(3 : Int), (1 : Int)] : (List Int)) Try.underlying24 Try_lo3 rfl rfl rfl rfl ⟨VR.int, ⟨VR.int, trivial⟩⟩ rfl (by decide) ?_
 intro v6
 refine RL.bS (t := TR.int) (vs := [.int .i64 (4 : Int), .int .i64 (2 : Int)]) ([(4 : Int), (2 : Int)] : (List Int)) Try.underlying24 Try_lo3 rfl rfl rfl rfl ⟨VR.int, ⟨VR.int, trivial⟩⟩ rfl (by decide) ?_
 intro v7
 refine RL.reL (L' := [own 3 TR.int v6 ([(3 : Int), (1 : Int)] : (List Int)), own 3 TR.int v7 ([(4 : Int), (2 : Int)] : (List Int))]) rfl ?_
 refine RL.weak (fun a w st => st.freeze 0 rfl) ?_
 refine RL.weak (fun a w st => st.freeze 1 rfl) ?_
 refine RL.bS (t := (TR.sl TR.int)) (vs := [v6, v7]) ([([(3 : Int), (1 : Int)] : (List Int)), ([(4 : Int), (2 : Int)] : (List Int))] : (List (List Int))) Try.underlying37 Try_lo24 rfl rfl rfl rfl ⟨(VR.item 0 rfl), ⟨(VR.item 1 rfl), trivial⟩⟩ rfl (by decide) ?_
 intro v8
 refine RL.reL (L' := [imm (TR.sl TR.int) v6 ([(3 : Int), (1 : Int)] : (List Int)), imm (TR.sl TR.int) v7 ([(4 : Int), (2 : Int)] : (List Int)), own 24 (TR.sl TR.int) v8 ([([(3 : Int), (1 : Int)] : (List Int)), ([(4 : Int), (2 : Int)] : (List Int))] : (List (List Int)))]) rfl ?_
 obtain ⟨y9, e10, hm⟩ := bind_some hm
 refine RL.callC (v := .tuple #[.int .i64 y9.1, .int .i64 y9.2.1, .int .i64 y9.2.2]) (vs := [v8]) Try_fit86 rfl rfl rfl rfl (fun U w hU hW hL => saddle_Bounds_c U w hU _ _ (hL 2 _ _ rfl Seen.own) _ e10) ?_
 refine RL.mv rfl rfl rfl ?_
 refine RL.ext rfl rfl rfl rfl ?_
 refine RL.ext rfl rfl rfl rfl ?_
 refine RL.ext rfl rfl rfl rfl ?_
 refine RL.asg rfl rfl rfl ?_
 refine RL.asg rfl rfl rfl ?_
 refine RL.asg rfl rfl rfl ?_
 refine RL.finG ?_
 refine GL.seq ?_
 refine GL.region ?_
 refine RL.bS (t := TR.int) (vs := [.int .i64 (3 : Int), .int .i64 (1 : Int)]) ([(3 : Int), (1 : Int)] : (List Int)) Try.underlying24 Try_lo3 rfl rfl rfl rfl ⟨VR.int, ⟨VR.int, trivial⟩⟩ rfl (by decide) ?_
 intro v17
 refine RL.bS (t := TR.int) (vs := [.int .i64 (4 : Int), .int .i64 (2 : Int)]) ([(4 : Int), (2 : Int)] : (List Int)) Try.underlying24 Try_lo3 rfl rfl rfl rfl ⟨VR.int, ⟨VR.int, trivial⟩⟩ rfl (by decide) ?_
 intro v18
 refine RL.reL (L' := [imm (TR.sl TR.int) v6 ([(3 : Int), (1 : Int)] : (List Int)), imm (TR.sl TR.int) v7 ([(4 : Int), (2 : Int)] : (List Int)), own 24 (TR.sl TR.int) v8 ([([(3 : Int), (1 : Int)] : (List Int)), ([(4 : Int), (2 : Int)] : (List Int))] : (List (List Int))), own 3 TR.int v17 ([(3 : Int), (1 : Int)] : (List Int)), own 3 TR.int v18 ([(4 : Int), (2 : Int)] : (List Int))]) rfl ?_
 refine RL.weak (fun a w st => st.freeze 3 rfl) ?_
 refine RL.weak (fun a w st => st.freeze 4 rfl) ?_
 refine RL.bS (t := (TR.sl TR.int)) (vs := [v17, v18]) ([([(3 : Int), (1 : Int)] : (List Int)), ([(4 : Int), (2 : Int)] : (List Int))] : (List (List Int))) Try.underlying37 Try_lo24 rfl rfl rfl rfl ⟨(VR.item 3 rfl), ⟨(VR.item 4 rfl), trivial⟩⟩ rfl (by decide) ?_
 intro v19
 refine RL.reL (L' := [imm (TR.sl TR.int) v6 ([(3 : Int), (1 : Int)] : (List Int)), imm (TR.sl TR.int) v7 ([(4 : Int), (2 : Int)] : (List Int)), own 24 (TR.sl TR.int) v8 ([([(3 : Int), (1 : Int)] : (List Int)), ([(4 : Int), (2 : Int)] : (List Int))] : (List (List Int))), imm (TR.sl TR.int) v17 ([(3 : Int), (1 : Int)] : (List Int)), imm (TR.sl TR.int) v18 ([(4 : Int), (2 : Int)] : (List Int)), own 24 (TR.sl TR.int) v19 ([([(3 : Int), (1 : Int)] : (List Int)), ([(4 : Int), (2 : Int)] : (List Int))] : (List (List Int)))]) rfl ?_
 obtain ⟨y20, e21, hm⟩ := bind_some hm
 refine RL.callU (vs := [v19]) (LR := fun (o : Value) => [own 56 (TR.arr 2 TR.int) o y20.1]) (fun o => ⟨Loc.own (TR.flatT_arr TR.flatT_ik), trivial⟩) Try_fit29 rfl rfl rfl rfl rfl (fun U w hU hW hL => saddle_Points_c U w hU _ _ (hL 5 _ _ rfl Seen.own) _ e21) ?_
 intro v22
 refine RL.mv rfl rfl rfl ?_
 refine RL.ext rfl rfl rfl rfl ?_
 refine RL.ext rfl rfl rfl rfl ?_
 refine RL.asg rfl rfl rfl ?_
 refine RL.asg rfl rfl rfl ?_
 refine RL.finG ?_
 refine GL.seq ?_
 obtain ⟨y44, K45, h46, h47, h48, h49, h50⟩ := bindR_K hm
 refine GL.join (ι := Bool) (fun (p : Bool) => [(0, .bool p)]) (fun (p : Bool) => []) (fun (p : Bool) => K45 (.nx p)) ?_ ?_
 ·skip
  refine GL.region ?_
  refine RL.mv rfl rfl rfl ?_
  refine RL.mv rfl rfl rfl ?_
  refine RL.bS (t := TR.int) (vs := [.int .i64 y9.2.2, .int .i64 y20.2]) ([y9.2.2, y20.2] : (List Int)) Try.underlying101 Try_lo25 rfl rfl rfl rfl ⟨VR.int, ⟨VR.int, trivial⟩⟩ rfl (by decide) ?_
  intro v51
  obtain ⟨y52, e53, h46⟩ := bind_some h46
  refine RL.callV (v := .bool y52) (vs := [v51]) Try_fit20 rfl (Or.inl rfl) rfl rfl rfl rfl (fun U w hU hW hL => pk_good_c U w hU _ _ (hL 7 _ _ rfl Seen.own) _ e53) ?_
  refine RL.mv rfl rfl rfl ?_
  refine RL.split (t := 25) rfl (fun b54 => ?_) (fun b54 => ?_)
  ·replace h46 := ite_t b54 h46
   refine RL.mv rfl rfl rfl ?_
   refine RL.binI (v := .bool (y9.1 == (2 : Int))) rfl rfl rfl rfl rfl ?_
   refine RL.pickT rfl rfl rfl rfl ?_
   refine RL.mv rfl rfl rfl ?_
   refine RL.split (t := 29) rfl (fun b55 => ?_) (fun b55 => ?_)
   ·replace h46 := ite_t b55 h46
    refine RL.mv rfl rfl rfl ?_
    refine RL.binI (v := .bool (y9.2.1 == (2 : Int))) rfl rfl rfl rfl rfl ?_
    refine RL.pickT rfl rfl rfl rfl ?_
    refine RL.mv rfl rfl rfl ?_
    refine RL.split (t := 33) rfl (fun b56 => ?_) (fun b56 => ?_)
    ·replace h46 := ite_t b56 h46
     refine RL.mv rfl rfl rfl ?_
     refine RL.bldA (t := (TR.arr 2 TR.int)) (d0 := ([(1 : Int), (1 : Int)] : (List Int))) (pv := [(0, .int .i64 (1 : Int)), (1, .int .i64 (1 : Int))]) rfl Try_bld56 (by decide) rfl rfl rfl ⟨⟨_, _, TR.int, (1 : Int), rfl, rfl, VR.int⟩, ⟨⟨_, _, TR.int, (1 : Int), rfl, rfl, VR.int⟩, trivial⟩⟩ (fun S f hi => by
       obtain ⟨c0, e0, r0⟩ := cells_vrep (t := TR.int) (u := .int .i64 (1 : Int)) (e := (1 : Int)) (VR.int S f hi)
       obtain ⟨c1, e1, r1⟩ := cells_vrep (t := TR.int) (u := .int .i64 (1 : Int)) (e := (1 : Int)) (VR.int S f hi)
       show TR.rep (TR.arr 2 TR.int) S (List.flatten [(.int .i64 (1 : Int) : Value).cells.toList, (.int .i64 (1 : Int) : Value).cells.toList]) _
       simp only [e0, e1,  List.flatten_cons, List.flatten_nil, List.append_nil]
       exact ⟨rfl, ⟨_, _, rfl, r0, ⟨_, [], (List.append_nil _).symm, r0, rfl⟩⟩⟩) ?_
     intro v57
     refine RL.reL (L' := [imm (TR.sl TR.int) v6 ([(3 : Int), (1 : Int)] : (List Int)), imm (TR.sl TR.int) v7 ([(4 : Int), (2 : Int)] : (List Int)), own 24 (TR.sl TR.int) v8 ([([(3 : Int), (1 : Int)] : (List Int)), ([(4 : Int), (2 : Int)] : (List Int))] : (List (List Int))), imm (TR.sl TR.int) v17 ([(3 : Int), (1 : Int)] : (List Int)), imm (TR.sl TR.int) v18 ([(4 : Int), (2 : Int)] : (List Int)), own 24 (TR.sl TR.int) v19 ([([(3 : Int), (1 : Int)] : (List Int)), ([(4 : Int), (2 : Int)] : (List Int))] : (List (List Int))), own 56 (TR.arr 2 TR.int) v22 y20.1, own 25 TR.int v51 ([y9.2.2, y20.2] : (List Int)), imm (TR.arr 2 TR.int) v57 ([(1 : Int), (1 : Int)] : (List Int))]) rfl ?_
     refine RL.bS (t := (TR.arr 2 TR.int)) (vs := [v57]) ([([(1 : Int), (1 : Int)] : (List Int))] : (List (List Int))) Try.underlying51 Try_lo56 rfl rfl rfl rfl ⟨(VR.item 8 rfl), trivial⟩ rfl (by decide) ?_
     intro v58
     obtain ⟨y59, e60, h46⟩ := bind_some h46
     refine RL.callV (v := .bool y59) (vs := [v22, v58]) Try_fit30 rfl (Or.inl rfl) rfl rfl rfl rfl (fun U w hU hW hL => slices_Equal_pairs_c U w hU _ _ (hL 6 _ _ rfl Seen.own) _ _ (hL 9 _ _ rfl Seen.own) _ e60) ?_
     refine RL.pickT rfl rfl rfl rfl ?_
     refine RL.asg rfl rfl rfl ?_
     refine RL.fin ?_
     cases h46
     exact fun a w st => mid_intro y59 h47 (St.cut [] ⟨rfl, trivial⟩ (by decide) rfl st)
    replace h46 := ite_f b56 h46
    refine RL.skip rfl rfl ?_
    refine RL.skip rfl rfl ?_
    refine RL.skip rfl rfl ?_
    refine RL.skip rfl rfl ?_
    refine RL.pickF rfl rfl rfl rfl ?_
    refine RL.asg rfl rfl rfl ?_
    refine RL.fin ?_
    cases h46
    exact fun a w st => mid_intro false h47 (St.cut [] ⟨rfl, trivial⟩ (by decide) rfl st)
   replace h46 := ite_f b55 h46
   refine RL.skip rfl rfl ?_
   refine RL.skip rfl rfl ?_
   refine RL.pickF rfl rfl rfl rfl ?_
   refine RL.mv rfl rfl rfl ?_
   refine RL.skip rfl rfl ?_
   refine RL.skip rfl rfl ?_
   refine RL.skip rfl rfl ?_
   refine RL.skip rfl rfl ?_
   refine RL.pickF rfl rfl rfl rfl ?_
   refine RL.asg rfl rfl rfl ?_
   refine RL.fin ?_
   cases h46
   exact fun a w st => mid_intro false h47 (St.cut [] ⟨rfl, trivial⟩ (by decide) rfl st)
  replace h46 := ite_f b54 h46
  refine RL.skip rfl rfl ?_
  refine RL.skip rfl rfl ?_
  refine RL.pickF rfl rfl rfl rfl ?_
  refine RL.mv rfl rfl rfl ?_
  refine RL.skip rfl rfl ?_
  refine RL.skip rfl rfl ?_
  refine RL.pickF rfl rfl rfl rfl ?_
  refine RL.mv rfl rfl rfl ?_
  refine RL.skip rfl rfl ?_
  refine RL.skip rfl rfl ?_
  refine RL.skip rfl rfl ?_
  refine RL.skip rfl rfl ?_
  refine RL.pickF rfl rfl rfl rfl ?_
  refine RL.asg rfl rfl rfl ?_
  refine RL.fin ?_
  cases h46
  exact fun a w st => mid_intro false h47 (St.cut [] ⟨rfl, trivial⟩ (by decide) rfl st)
 rintro x43 h61
 have h62 := h48 _ h61
 try dsimp only at h62
 refine GL.weak (env' := [(0, .bool x43)]) (L' := []) (fun _ _ st => st) ?_
 have h62 := Option.some.inj h62
 subst h62
 exact GL.ret (Gx.ret (v := .bool x43) (res1 rfl rfl) (fun a w st => st.toPostV))

set_option maxHeartbeats 4000000 in
theorem pk_EquilZero_c (S : Hp) (w : World) (hS : S.sub w) (v0 : Value) (x0 : (List (List Int))) (k0 : ((TR.sl (TR.sl TR.int))).vrep S v0 x0) (res : Bool) (hm : pk_EquilZero_m x0 = some res) : Calls Try.prog 6 #[v0] w (PostV w (.bool res)) := by
 refine calls_enter 63 Try.func6 Try.ntmps6 rfl S false [(0, v0)] [imm (TR.sl (TR.sl TR.int)) v0 x0] rfl ⟨rfl, trivial⟩ hS ⟨k0, trivial⟩ ?_
 unfold pk_EquilZero_m at hm
 refine GL.seq ?_
 refine GL.region ?_
 refine RL.asg rfl rfl rfl ?_
 refine RL.finG ?_
 refine GL.seq ?_
 refine GL.seq ?_
 obtain ⟨y13, K14, h15, h16, h17, h18, h19⟩ := bindR_K hm
 refine GL.join (ι := Bool) (fun (p : Bool) => [(0, v0), (18, .bool p)]) (fun (p : Bool) => [imm (TR.sl (TR.sl TR.int)) v0 x0]) (fun (p : Bool) => K14 (.nx p)) ?_ ?_
 ·skip
  refine GL.region ?_
  obtain ⟨y20, e21, h15⟩ := bind_some h15
  refine RL.callV (v := .bool y20) (vs := []) Try_fit26 rfl (Or.inl rfl) rfl rfl rfl rfl (fun U w hU hW hL => pk_equils_c U w hU  _ e21) ?_
  refine RL.notB rfl rfl rfl ?_
  refine RL.mv rfl rfl rfl ?_
  refine RL.split (t := 15) rfl (fun b22 => ?_) (fun b22 => ?_)
  ·replace h15 := ite_t b22 h15
   refine RL.skip rfl rfl ?_
   refine RL.skip rfl rfl ?_
   refine RL.pickT rfl rfl rfl rfl ?_
   refine RL.fin ?_
   cases h15
   exact fun a w st => mid_intro true h16 (St.cut [0] ⟨rfl, rfl, trivial⟩ (by decide) rfl st)
  replace h15 := ite_f b22 h15
  obtain ⟨y23, e24, h15⟩ := bind_some h15
  refine RL.callV (v := .bool y23) (vs := []) Try_fit27 rfl (Or.inl rfl) rfl rfl rfl rfl (fun U w hU hW hL => pk_saddles_c U w hU  _ e24) ?_
  refine RL.notB rfl rfl rfl ?_
  refine RL.pickF rfl rfl rfl rfl ?_
  refine RL.fin ?_
  cases h15
  exact fun a w st => mid_intro (!y23) h16 (St.cut [0] ⟨rfl, rfl, trivial⟩ (by decide) rfl st)
 rintro x12 h25
 have h26 := h17 _ h25
 try dsimp only at h26
 refine GL.weak (env' := [(0, v0), (18, .bool x12)]) (L' := [imm (TR.sl (TR.sl TR.int)) v0 x0]) (fun _ _ st => st) ?_
 refine GL.cond rfl (fun b27 => ?_) (fun b27 => ?_)
 ·replace h26 := ite_t b27 h26
  refine GL.seq ?_
  refine GL.region ?_
  refine RL.asg rfl rfl rfl ?_
  refine RL.finG ?_
  have h26 := Option.some.inj h26
  subst h26
  exact GL.ret (Gx.ret (v := .bool false) (res1 rfl rfl) (fun a w st => st.toPostV))
 replace h26 := ite_f b27 h26
 refine GL.skip ?_
 refine GL.seq ?_
 refine GL.region ?_
 refine RL.asg rfl rfl rfl ?_
 refine RL.finG ?_
 refine GL.seq ?_
 refine GL.seq ?_
 refine GL.region ?_
 refine RL.mv rfl rfl rfl ?_
 refine RL.lenS 0 Try.underlying37 rfl rfl rfl rfl SlOf.imm ?_
 refine RL.mv rfl rfl rfl ?_
 refine RL.finG ?_
 refine GL.weak (fun a w st => st.nilOwn 24 (TR.sl TR.int)) ?_
 refine GL.open_ 0 rfl (fun S h => len_imm S h) (fun n90 => ?_)
 obtain ⟨y91, K92, h93, h94, h95, h96, h97⟩ := bindR_K h26
 refine GL.join (ι := (List (List Int)) × Value) (fun (p : (List (List Int)) × Value) => [(0, v0), (3, p.2)]) (fun (p : (List (List Int)) × Value) => [imm (TR.sl (TR.sl TR.int)) v0 x0, own 24 (TR.sl TR.int) p.2 p.1]) (fun (p : (List (List Int)) × Value) => K92 (.nx p.1)) ?_ ?_
 ·refine GL.block ?_
  refine GL.loop (ι := Nat × (List (List Int)) × (List (List Int)) × Value) (fun (p : Nat × (List (List Int)) × (List (List Int)) × Value) => [(0, v0), (3, p.2.2.2), (19, v0), (20, .int .i64 ((x0).length : Int)), (21, .int .i64 (p.1 : Int))]) (fun (p : Nat × (List (List Int)) × (List (List Int)) × Value) => [imm (TR.sl (TR.sl TR.int)) v0 x0, own 24 (TR.sl TR.int) p.2.2.2 p.2.2.1]) (fun (p : Nat × (List (List Int)) × (List (List Int)) × Value) => p.1 + p.2.1.length = (x0).length ∧ List.drop p.1 x0 = p.2.1 ∧ rangeL pk_EquilZero_b1 p.2.1 p.1 p.2.2.1 = some y91) (fun (p : Nat × (List (List Int)) × (List (List Int)) × Value) => p.2.1.length) (0, x0, [], Value.slice none 0 0) ⟨by simp, by simp, h93⟩ (fun a w st => St.cut [0, 1] ⟨rfl, rfl, rfl, rfl, rfl, trivial⟩ (by decide) rfl st) ?_
  rintro ⟨i98, r99, l28, v29⟩ ⟨h104, h105, h103⟩
  try dsimp only at h104 h105 h103
  refine GL.weak (env' := [(0, v0), (3, v29), (19, v0), (20, .int .i64 ((x0).length : Int)), (21, .int .i64 (i98 : Int))]) (L' := [imm (TR.sl (TR.sl TR.int)) v0 x0, own 24 (TR.sl TR.int) v29 l28]) (fun _ _ st => st) ?_
  refine GL.seq ?_
  refine GL.region ?_
  refine RL.binI (v := .bool (decide ((i98 : Int) < ((x0).length : Int)))) rfl rfl rfl rfl rfl ?_
  refine RL.finG ?_
  refine GL.seq ?_
  refine GL.cond rfl (fun b106 => ?_) (fun b106 => ?_)
  ·have h107 : i98 < (x0).length := by have := of_decide_eq_true b106; omega
   obtain ⟨y108, r110, hr, e109, h111⟩ := drop_cons h105 rfl h107
   subst hr
   obtain ⟨z100, h101, h102⟩ := rangeL_some h103
   unfold pk_EquilZero_b1 at h101
   try dsimp only at h101
   refine GL.skip ?_
   refine GL.seq ?_
   refine GL.block ?_
   refine GL.seq ?_
   refine GL.region ?_
   refine RL.idxS (sz := 1) 0 Try.underlying37 Try_ln24 rfl rfl rfl rfl rfl SlOf.imm (by omega) (by omega) ?_
   refine RL.ldS (i := i98) (r := (TR.sl TR.int)) (e' := y108) 0 Try_ln24 rfl rfl rfl rfl SlOf.imm e109 Part.self ?_
   intro v113
   refine RL.asg rfl rfl rfl ?_
   refine RL.finG ?_
   refine GL.seq ?_
   refine GL.region ?_
   refine RL.asg rfl rfl rfl ?_
   refine RL.finG ?_
   refine GL.seq ?_
   refine GL.seq ?_
   refine GL.region ?_
   refine RL.mv rfl rfl rfl ?_
   refine RL.lenS 2 Try.underlying24 rfl rfl rfl rfl SlOf.imm ?_
   refine RL.mv rfl rfl rfl ?_
   refine RL.finG ?_
   refine GL.weak (fun a w st => st.nilOwn 3 TR.int) ?_
   refine GL.open_ 2 rfl (fun S h => len_imm S h) (fun n128 => ?_)
   obtain ⟨y129, K130, h131, h132, h133, h134, h135⟩ := bindF_K h101
   refine GL.join (ι := (List Int) × Value) (fun (p : (List Int) × Value) => [(0, v0), (3, v29), (6, p.2), (19, v0), (20, .int .i64 ((x0).length : Int)), (21, .int .i64 (i98 : Int))]) (fun (p : (List Int) × Value) => [imm (TR.sl (TR.sl TR.int)) v0 x0, own 24 (TR.sl TR.int) v29 l28, own 3 TR.int p.2 p.1]) (fun (p : (List Int) × Value) => K130 (.nx p.1)) ?_ ?_
   ·refine GL.block ?_
    refine GL.loop (ι := Nat × (List Int) × (List Int) × Value) (fun (p : Nat × (List Int) × (List Int) × Value) => [(0, v0), (3, v29), (6, p.2.2.2), (19, v0), (20, .int .i64 ((x0).length : Int)), (21, .int .i64 (i98 : Int)), (25, v113), (26, .int .i64 ((y108).length : Int)), (27, .int .i64 (p.1 : Int))]) (fun (p : Nat × (List Int) × (List Int) × Value) => [imm (TR.sl (TR.sl TR.int)) v0 x0, own 24 (TR.sl TR.int) v29 l28, own 3 TR.int p.2.2.2 p.2.2.1, imm (TR.sl TR.int) v113 y108]) (fun (p : Nat × (List Int) × (List Int) × Value) => p.1 + p.2.1.length = (y108).length ∧ List.drop p.1 y108 = p.2.1 ∧ rangeL pk_EquilZero_b2 p.2.1 p.1 p.2.2.1 = some y129) (fun (p : Nat × (List Int) × (List Int) × Value) => p.2.1.length) (0, y108, [], Value.slice none 0 0) ⟨by simp, by simp, h131⟩ (fun a w st => St.cut [0, 1, 3, 2] ⟨rfl, rfl, rfl, rfl, rfl, rfl, rfl, rfl, rfl, trivial⟩ (by decide) rfl st) ?_
    rintro ⟨i136, r137, l114, v115⟩ ⟨h142, h143, h141⟩
    try dsimp only at h142 h143 h141
    refine GL.weak (env' := [(0, v0), (3, v29), (6, v115), (19, v0), (20, .int .i64 ((x0).length : Int)), (21, .int .i64 (i98 : Int)), (25, v113), (26, .int .i64 ((y108).length : Int)), (27, .int .i64 (i136 : Int))]) (L' := [imm (TR.sl (TR.sl TR.int)) v0 x0, own 24 (TR.sl TR.int) v29 l28, own 3 TR.int v115 l114, imm (TR.sl TR.int) v113 y108]) (fun _ _ st => st) ?_
    refine GL.seq ?_
    refine GL.region ?_
    refine RL.binI (v := .bool (decide ((i136 : Int) < ((y108).length : Int)))) rfl rfl rfl rfl rfl ?_
    refine RL.finG ?_
    refine GL.seq ?_
    refine GL.cond rfl (fun b144 => ?_) (fun b144 => ?_)
    ·have h145 : i136 < (y108).length := by have := of_decide_eq_true b144; omega
     obtain ⟨y146, r148, hr, e147, h149⟩ := drop_cons h143 rfl h145
     subst hr
     obtain ⟨z138, h139, h140⟩ := rangeL_some h141
     unfold pk_EquilZero_b2 at h139
     try dsimp only at h139
     refine GL.skip ?_
     refine GL.seq ?_
     refine GL.block ?_
     refine GL.seq ?_
     refine GL.region ?_
     refine RL.idxS (sz := 1) 3 Try.underlying24 Try_ln3 rfl rfl rfl rfl rfl SlOf.imm (by omega) (by omega) ?_
     refine RL.ldSx (i := i136) (e' := y146) 3 Ex.ik Try_ln3 rfl rfl rfl rfl SlOf.imm e147 Part.self ?_
     refine RL.asg rfl rfl rfl ?_
     refine RL.finG ?_
     refine GL.region ?_
     refine RL.mv rfl rfl rfl ?_
     refine RL.mv rfl rfl rfl ?_
     refine RL.negI rfl rfl rfl ?_
     refine RL.bS (t := TR.int) (vs := [.int .i64 (wsub 0 y146)]) ([wsub 0 y146] : (List Int)) Try.underlying24 Try_lo3 rfl rfl rfl rfl ⟨VR.int, trivial⟩ rfl (by decide) ?_
     intro v154
     obtain ⟨y155, e156, h139⟩ := bind_some h139
     replace e156 := chk_some e156
     refine RL.appB 2 4 Try.underlying24 Try_lo3 rfl rfl rfl rfl rfl rfl rfl SlOf.own (RoomN.of Try_info3 (by decide) (by decide)) e156 ?_
     intro v157
     refine RL.reL (L' := [imm (TR.sl (TR.sl TR.int)) v0 x0, own 24 (TR.sl TR.int) v29 l28, own 3 TR.int v157 (l114 ++ ([wsub 0 y146] : (List Int))), imm (TR.sl TR.int) v113 y108, own 3 TR.int v154 ([wsub 0 y146] : (List Int))]) rfl ?_
     refine RL.asg rfl rfl rfl ?_
     refine RL.finG ?_
     refine GL.nilB ?_
     refine GL.region ?_
     refine RL.binI (v := .int .i64 ((i136 + 1 : Nat) : Int)) rfl rfl rfl rfl (binI_succ i136 (by omega)) ?_
     refine RL.mv rfl rfl rfl ?_
     refine RL.fin ?_
     cases h139
     exact fun a w st => lop_intro (i136 + 1, r148, (l114 ++ ([wsub 0 y146] : (List Int))), v157) ⟨by show i136 + 1 + r148.length = (y108).length; simp only [List.length_cons] at h142; omega, h149, h140⟩ (by simp) (St.cut [0, 1, 2, 3] ⟨rfl, rfl, rfl, rfl, rfl, rfl, rfl, rfl, rfl, trivial⟩ (by decide) rfl st)
    have h145 : ¬ i136 < (y108).length := by have := of_decide_eq_false b144; omega
    obtain rfl : r137 = [] := by rw [← h143]; exact List.drop_of_length_le (by omega)
    replace h141 : some (Fl.nx _) = some y129 := h141
    cases h141
    exact GL.exit (fun a w st => mid_intro (l114, v115) h132 (St.cut [0, 1, 2] ⟨rfl, rfl, rfl, rfl, rfl, rfl, trivial⟩ (by decide) rfl st))
   rintro ⟨l114, v115⟩ h158
   have h159 := h133 _ h158
   try dsimp only at h159
   refine GL.weak (env' := [(0, v0), (3, v29), (6, v115), (19, v0), (20, .int .i64 ((x0).length : Int)), (21, .int .i64 (i98 : Int))]) (L' := [imm (TR.sl (TR.sl TR.int)) v0 x0, own 24 (TR.sl TR.int) v29 l28, own 3 TR.int v115 l114]) (fun _ _ st => st) ?_
   refine GL.region ?_
   refine RL.mv rfl rfl rfl ?_
   refine RL.mv rfl rfl rfl ?_
   refine RL.weak (fun a w st => st.freeze 2 rfl) ?_
   refine RL.bS (t := (TR.sl TR.int)) (vs := [v115]) ([l114] : (List (List Int))) Try.underlying37 Try_lo24 rfl rfl rfl rfl ⟨(VR.item 2 rfl), trivial⟩ rfl (by decide) ?_
   intro v164
   refine RL.reL (L' := [imm (TR.sl (TR.sl TR.int)) v0 x0, own 24 (TR.sl TR.int) v29 l28, imm (TR.sl TR.int) v115 l114, own 24 (TR.sl TR.int) v164 ([l114] : (List (List Int)))]) rfl ?_
   obtain ⟨y165, e166, h159⟩ := bind_some h159
   replace e166 := chk_some e166
   refine RL.appB 1 3 Try.underlying37 Try_lo24 rfl rfl rfl rfl rfl rfl rfl SlOf.own (RoomN.of Try_info24 (by decide) (by decide)) e166 ?_
   intro v167
   refine RL.asg rfl rfl rfl ?_
   refine RL.finG ?_
   refine GL.nilB ?_
   refine GL.region ?_
   refine RL.binI (v := .int .i64 ((i98 + 1 : Nat) : Int)) rfl rfl rfl rfl (binI_succ i98 (by omega)) ?_
   refine RL.mv rfl rfl rfl ?_
   refine RL.fin ?_
   cases h159
   exact fun a w st => lop_intro (i98 + 1, r110, (l28 ++ ([l114] : (List (List Int)))), v167) ⟨by show i98 + 1 + r110.length = (x0).length; simp only [List.length_cons] at h104; omega, h111, h102⟩ (by simp) (St.cut [0, 1] ⟨rfl, rfl, rfl, rfl, rfl, trivial⟩ (by decide) rfl st)
  have h107 : ¬ i98 < (x0).length := by have := of_decide_eq_false b106; omega
  obtain rfl : r99 = [] := by rw [← h105]; exact List.drop_of_length_le (by omega)
  replace h103 : some (Fl.nx _) = some y91 := h103
  cases h103
  exact GL.exit (fun a w st => mid_intro (l28, v29) h94 (St.cut [0, 1] ⟨rfl, rfl, trivial⟩ (by decide) rfl st))
 rintro ⟨l28, v29⟩ h168
 have h169 := h95 _ h168
 try dsimp only at h169
 refine GL.weak (env' := [(0, v0), (3, v29)]) (L' := [imm (TR.sl (TR.sl TR.int)) v0 x0, own 24 (TR.sl TR.int) v29 l28]) (fun _ _ st => st) ?_
 refine GL.seq ?_
 refine GL.region ?_
 refine RL.mv rfl rfl rfl ?_
 refine RL.mv rfl rfl rfl ?_
 obtain ⟨y173, e174, h169⟩ := bind_some h169
 refine RL.callU (vs := [v0, v29]) (LR := fun (o : Value) => [own 56 (TR.arr 2 TR.int) o y173.1]) (fun o => ⟨Loc.own (TR.flatT_arr TR.flatT_ik), trivial⟩) Try_fit28 rfl rfl rfl rfl rfl (fun U w hU hW hL => equil_Rest_c U w hU _ _ (hL 0 _ _ rfl Seen.imm) _ _ (hL 1 _ _ rfl Seen.own) _ e174) ?_
 intro v175
 refine RL.mv rfl rfl rfl ?_
 refine RL.ext rfl rfl rfl rfl ?_
 refine RL.ext rfl rfl rfl rfl ?_
 refine RL.asg rfl rfl rfl ?_
 refine RL.asg rfl rfl rfl ?_
 refine RL.finG ?_
 refine GL.seq ?_
 refine GL.region ?_
 refine RL.mv rfl rfl rfl ?_
 obtain ⟨y179, e180, h169⟩ := bind_some h169
 refine RL.call (vs := [v0]) Try_fit29 rfl rfl rfl rfl rfl (fun S f w hS hW hi => saddle_Points_c S w hS _ _ (hi 0 _ rfl) _ e180) ?_
 intro v181
 refine RL.mv rfl rfl rfl ?_
 refine RL.ext rfl rfl rfl rfl ?_
 refine RL.ext rfl rfl rfl rfl ?_
 refine RL.asg rfl rfl rfl ?_
 refine RL.asg rfl rfl rfl ?_
 refine RL.finG ?_
 refine GL.seq ?_
 obtain ⟨y189, K190, h191, h192, h193, h194, h195⟩ := bindR_K h169
 refine GL.join (ι := Bool) (fun (p : Bool) => [(2, .bool p)]) (fun (p : Bool) => []) (fun (p : Bool) => K190 (.nx p)) ?_ ?_
 ·skip
  refine GL.region ?_
  refine RL.mv rfl rfl rfl ?_
  refine RL.binI (v := .bool (y173.2 == (0 : Int))) rfl rfl rfl rfl rfl ?_
  refine RL.mv rfl rfl rfl ?_
  refine RL.binI (v := .bool (y179.2 == (0 : Int))) rfl rfl rfl rfl rfl ?_
  refine RL.eqB Try.underlying4 rfl rfl rfl rfl ?_
  refine RL.mv rfl rfl rfl ?_
  refine RL.split (t := 58) rfl (fun b196 => ?_) (fun b196 => ?_)
  ·replace h191 := ite_t b196 h191
   refine RL.mv rfl rfl rfl ?_
   refine RL.mv rfl rfl rfl ?_
   obtain ⟨y197, e198, h191⟩ := bind_some h191
   refine RL.callV (v := .bool y197) (vs := [v175, v181]) Try_fit30 rfl (Or.inl rfl) rfl rfl rfl rfl (fun U w hU hW hL => slices_Equal_pairs_c U w hU _ _ (hL 2 _ _ rfl Seen.own) _ _ (hL 3 _ _ rfl Seen.own) _ e198) ?_
   refine RL.pickT rfl rfl rfl rfl ?_
   refine RL.asg rfl rfl rfl ?_
   refine RL.fin ?_
   cases h191
   exact fun a w st => mid_intro y197 h192 (St.cut [] ⟨rfl, trivial⟩ (by decide) rfl st)
  replace h191 := ite_f b196 h191
  refine RL.skip rfl rfl ?_
  refine RL.skip rfl rfl ?_
  refine RL.skip rfl rfl ?_
  refine RL.pickF rfl rfl rfl rfl ?_
  refine RL.asg rfl rfl rfl ?_
  refine RL.fin ?_
  cases h191
  exact fun a w st => mid_intro false h192 (St.cut [] ⟨rfl, trivial⟩ (by decide) rfl st)
 rintro x188 h199
 have h200 := h193 _ h199
 try dsimp only at h200
 refine GL.weak (env' := [(2, .bool x188)]) (L' := []) (fun _ _ st => st) ?_
 have h200 := Option.some.inj h200
 subst h200
 exact GL.ret (Gx.ret (v := .bool x188) (res1 rfl rfl) (fun a w st => st.toPostV))
end Go.Wk
