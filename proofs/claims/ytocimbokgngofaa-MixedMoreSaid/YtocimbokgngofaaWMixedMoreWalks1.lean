/- Each function comes to what its model says; printed by a program of this repository. -/
import Derived.Test.YtocimbokgngofaaProg
import Derived.Test.YtocimbokgngofaaWMixedMoreModels
namespace Go.Wk
open Go.Fw Go.Mo Go.Proofs Go.RowKit
set_option linter.all false
set_option maxRecDepth 100000
theorem loopNx {ρ σ β γ : Type} {body : σ → Option (Fl ρ β σ)} {n : Nat} {s : σ} {y : Fl ρ γ β} (h : stepM body n (.nx s) = some y) : loopM body n s = some y := h
theorem Try_info3 : (Try.prog.info? 3).map (fun i => (i.zero, i.size, i.bytes)) = some (some (.int .i64 0), 1, 8) := by kernel_rfl
theorem Try_ln3 : Ln Try.prog 3 1 false := Ln.of Try_info3 Try.underlying3 rfl
theorem Try_lo3 : LnO Try.prog 3 1 [.int .i64 0] := LnO.of Try_info3 rfl rfl (by decide) (by decide)
theorem Try_info22 : (Try.prog.info? 22).map (fun i => (i.zero, i.size, i.bytes)) = some (some (.slice none 0 0), 1, 24) := by kernel_rfl
theorem Try_ln22 : Ln Try.prog 22 1 false := Ln.of Try_info22 Try.underlying22 rfl
theorem Try_lo22 : LnO Try.prog 22 1 [.slice none 0 0] := LnO.of Try_info22 rfl rfl (by decide) (by decide)
theorem Try_info26 : (Try.prog.info? 26).map (fun i => (i.zero, i.size, i.bytes)) = some (some (.agg #[.int .i64 0, .int .i64 0]), 2, 16) := by kernel_rfl
theorem Try_ln26 : Ln Try.prog 26 2 true := Ln.of Try_info26 Try.underlying26 rfl
theorem Try_lo26 : LnO Try.prog 26 2 [.int .i64 0, .int .i64 0] := LnO.of Try_info26 rfl rfl (by decide) (by decide)
theorem Try_info32 : (Try.prog.info? 32).map (fun i => (i.zero, i.size, i.bytes)) = some (some (.slice none 0 0), 1, 24) := by kernel_rfl
theorem Try_ln32 : Ln Try.prog 32 1 false := Ln.of Try_info32 Try.underlying32 rfl
theorem Try_lo32 : LnO Try.prog 32 1 [.slice none 0 0] := LnO.of Try_info32 rfl rfl (by decide) (by decide)
theorem Try_bld26 (pv : List (Nat × Value)) : Try.prog.built 26 pv = Instr.fill ((mkPlaces 0 [[.int .i64 0], [.int .i64 0]]).toArray[·]?) (List.flatten [[.int .i64 0], [.int .i64 0]]).toArray pv := by kernel_rfl
theorem Try_eq26 : EqT Try.prog 26 (TR.pair TR.int TR.int) 2 := (EqT.struct Try.underlying26 Try.stoodInHeld26 rfl (EqF.cons (by decide) rfl Try_ln3 (EqT.int Try.underlying3) (EqF.last (by decide) rfl Try_ln3 (EqT.int Try.underlying3))))
theorem Try_fit14 : Fit Try.prog 14 := Fit.of Try.func14 (by kernel_rfl) rfl
theorem Try_fit15 : Fit Try.prog 15 := Fit.of Try.func15 (by kernel_rfl) rfl
theorem Try_fit16 : Fit Try.prog 16 := Fit.of Try.func16 (by kernel_rfl) rfl
theorem Try_fit18 : Fit Try.prog 18 := Fit.of Try.func18 (by kernel_rfl) rfl
theorem Try_fit23 : Fit Try.prog 23 := Fit.of Try.func23 (by kernel_rfl) rfl
theorem Try_fit24 : Fit Try.prog 24 := Fit.of Try.func24 (by kernel_rfl) rfl
theorem Try_fit35 : Fit Try.prog 35 := Fit.of Try.func35 (by kernel_rfl) rfl
theorem Try_fit36 : Fit Try.prog 36 := Fit.of Try.func36 (by kernel_rfl) rfl
theorem Try_fit37 : Fit Try.prog 37 := Fit.of Try.func37 (by kernel_rfl) rfl
theorem Try_fit38 : Fit Try.prog 38 := Fit.of Try.func38 (by kernel_rfl) rfl
theorem Try_fit39 : Fit Try.prog 39 := Fit.of Try.func39 (by kernel_rfl) rfl
theorem Try_fit47 : Fit Try.prog 47 := Fit.of Try.func47 (by kernel_rfl) rfl
theorem Try_fld26_0 (ad : Addr) (w : World) : (Instr.fieldAt 26 (.pointer (some ad)) 0).run Try.prog w = .ok (.pointer (some (ad.add 0))) w := by
  simp [Instr.fieldAt, run_underlying Try.underlying26, Instr.sureAddr, fieldPlace, Fw.run_sizeOf Try_ln3]
theorem Try_fld26_1 (ad : Addr) (w : World) : (Instr.fieldAt 26 (.pointer (some ad)) 1).run Try.prog w = .ok (.pointer (some (ad.add 1))) w := by
  simp [Instr.fieldAt, run_underlying Try.underlying26, Instr.sureAddr, fieldPlace, Fw.run_sizeOf Try_ln3]

set_option maxHeartbeats 4000000 in
theorem saddle_Check_c (S : Hp) (w : World) (hS : S.sub w) (v0 : Value) (x0 : (List (List Int))) (k0 : ((TR.sl (TR.sl TR.int))).vrep S v0 x0) (res : Int) (hm : saddle_Check_m x0 = some res) : Calls Try.prog 35 #[v0] w (PostC w (.int .i64 res)) := by
 refine calls_enter 50 Try.func35 Try.ntmps35 rfl S true [(0, v0)] [imm (TR.sl (TR.sl TR.int)) v0 x0] rfl ⟨rfl, trivial⟩ hS ⟨k0, trivial⟩ ?_
 unfold saddle_Check_m at hm
 refine GL.seq ?_
 refine GL.region ?_
 refine RL.asg rfl rfl rfl ?_
 refine RL.finG ?_
 refine GL.seq ?_
 refine GL.seq ?_
 obtain ⟨y5, K6, h7, h8, h9, h10, h11⟩ := bindR_K hm
 refine GL.join (ι := Bool) (fun (p : Bool) => [(0, v0), (14, .bool p)]) (fun (p : Bool) => [imm (TR.sl (TR.sl TR.int)) v0 x0]) (fun (p : Bool) => K6 (.nx p)) ?_ ?_
 ·skip
  refine GL.region ?_
  refine RL.mv rfl rfl rfl ?_
  refine RL.lenS 0 Try.underlying22 rfl rfl rfl rfl SlOf.imm ?_
  refine RL.binI (v := .bool (decide (((x0).length : Int) < (1 : Int)))) rfl rfl rfl rfl rfl ?_
  refine RL.mv rfl rfl rfl ?_
  refine RL.split (t := 10) rfl (fun b12 => ?_) (fun b12 => ?_)
  ·replace h7 := ite_t b12 h7
   refine RL.skip rfl rfl ?_
   refine RL.skip rfl rfl ?_
   refine RL.skip rfl rfl ?_
   refine RL.pickT rfl rfl rfl rfl ?_
   refine RL.fin ?_
   cases h7
   exact fun a w st => mid_intro true h8 (St.cut [0] ⟨rfl, rfl, trivial⟩ (by decide) rfl st)
  replace h7 := ite_f b12 h7
  refine RL.mv rfl rfl rfl ?_
  refine RL.lenS 0 Try.underlying22 rfl rfl rfl rfl SlOf.imm ?_
  refine RL.binI (v := .bool (decide (((x0).length : Int) > (6 : Int)))) rfl rfl rfl rfl rfl ?_
  refine RL.pickF rfl rfl rfl rfl ?_
  refine RL.fin ?_
  cases h7
  exact fun a w st => mid_intro (decide (((x0).length : Int) > (6 : Int))) h8 (St.cut [0] ⟨rfl, rfl, trivial⟩ (by decide) rfl st)
 rintro x4 h13
 have h14 := h9 _ h13
 try dsimp only at h14
 refine GL.weak (env' := [(0, v0), (14, .bool x4)]) (L' := [imm (TR.sl (TR.sl TR.int)) v0 x0]) (fun _ _ st => st) ?_
 refine GL.cond rfl (fun b15 => ?_) (fun b15 => ?_)
 ·replace h14 := ite_t b15 h14
  refine GL.seq ?_
  refine GL.region ?_
  refine RL.asg rfl rfl rfl ?_
  refine RL.finG ?_
  have h14 := Option.some.inj h14
  subst h14
  exact GL.ret (Gx.ret (v := .int .i64 (2 : Int)) (res1 rfl rfl) (fun a w st => st.toPostC rfl))
 replace h14 := ite_f b15 h14
 refine GL.skip ?_
 refine GL.seq ?_
 refine GL.seq ?_
 refine GL.region ?_
 refine RL.mv rfl rfl rfl ?_
 refine RL.lenS 0 Try.underlying22 rfl rfl rfl rfl SlOf.imm ?_
 refine RL.mv rfl rfl rfl ?_
 refine RL.finG ?_
 refine GL.open_ 0 rfl (fun S h => len_imm S h) (fun n99 => ?_)
 obtain ⟨y100, K101, h102, h103, h104, h105, h106⟩ := bindR_K h14
 refine GL.join (ι := Unit) (fun (p : Unit) => []) (fun (p : Unit) => []) (fun (p : Unit) => K101 (.nx ())) ?_ ?_
 ·refine GL.block ?_
  refine GL.loop (ι := Nat × (List (List Int))) (fun (p : Nat × (List (List Int))) => [(0, v0), (15, v0), (16, .int .i64 ((x0).length : Int)), (17, .int .i64 (p.1 : Int))]) (fun (p : Nat × (List (List Int))) => [imm (TR.sl (TR.sl TR.int)) v0 x0]) (fun (p : Nat × (List (List Int))) => p.1 + p.2.length = (x0).length ∧ List.drop p.1 x0 = p.2 ∧ rangeL (saddle_Check_b1 x0) p.2 p.1 () = some y100) (fun (p : Nat × (List (List Int))) => p.2.length) (0, x0) ⟨by simp, by simp, h102⟩ (fun a w st => St.cut [0] ⟨rfl, rfl, rfl, rfl, trivial⟩ (by decide) rfl st) ?_
  rintro ⟨i107, r108⟩ ⟨h113, h114, h112⟩
  try dsimp only at h113 h114 h112
  refine GL.weak (env' := [(0, v0), (15, v0), (16, .int .i64 ((x0).length : Int)), (17, .int .i64 (i107 : Int))]) (L' := [imm (TR.sl (TR.sl TR.int)) v0 x0]) (fun _ _ st => st) ?_
  refine GL.seq ?_
  refine GL.region ?_
  refine RL.binI (v := .bool (decide ((i107 : Int) < ((x0).length : Int)))) rfl rfl rfl rfl rfl ?_
  refine RL.finG ?_
  refine GL.seq ?_
  refine GL.cond rfl (fun b115 => ?_) (fun b115 => ?_)
  ·have h116 : i107 < (x0).length := by have := of_decide_eq_true b115; omega
   obtain ⟨y117, r119, hr, e118, h120⟩ := drop_cons h114 rfl h116
   subst hr
   obtain ⟨z109, h110, h111⟩ := rangeL_some h112
   unfold saddle_Check_b1 at h110
   try dsimp only at h110
   refine GL.skip ?_
   refine GL.seq ?_
   refine GL.block ?_
   refine GL.seq ?_
   refine GL.region ?_
   refine RL.idxS (sz := 1) 0 Try.underlying22 Try_ln32 rfl rfl rfl rfl rfl SlOf.imm (by omega) (by omega) ?_
   refine RL.ldS (i := i107) (r := (TR.sl TR.int)) (e' := y117) 0 Try_ln32 rfl rfl rfl rfl SlOf.imm e118 Part.self ?_
   intro v122
   refine RL.asg rfl rfl rfl ?_
   refine RL.finG ?_
   refine GL.seq ?_
   refine GL.seq ?_
   refine GL.region ?_
   refine RL.mv rfl rfl rfl ?_
   refine RL.lenS 1 Try.underlying32 rfl rfl rfl rfl SlOf.imm ?_
   refine RL.mv rfl rfl rfl ?_
   obtain ⟨y126, e127, h110⟩ := bind_some h110
   refine RL.idxS (sz := 1) 0 Try.underlying22 Try_ln32 rfl rfl rfl rfl rfl SlOf.imm (idx_some e127).1 (idx_some e127).2.1 ?_
   refine RL.ldS (i := ((0 : Int)).toNat) (r := (TR.sl TR.int)) (e' := y126) 0 Try_ln32 rfl rfl rfl rfl SlOf.imm (idx_some e127).2.2 Part.self ?_
   intro v128
   refine RL.reL (L' := [imm (TR.sl (TR.sl TR.int)) v0 x0, imm (TR.sl TR.int) v122 y117, imm (TR.sl TR.int) v128 y126]) rfl ?_
   refine RL.lenS 2 Try.underlying32 rfl rfl rfl rfl SlOf.imm ?_
   refine RL.binI (v := .bool (((y117).length : Int) != ((y126).length : Int))) rfl rfl rfl rfl rfl ?_
   refine RL.finG ?_
   refine GL.cond rfl (fun b129 => ?_) (fun b129 => ?_)
   ·replace h110 := ite_t b129 h110
    refine GL.seq ?_
    refine GL.region ?_
    refine RL.asg rfl rfl rfl ?_
    refine RL.finG ?_
    cases h110
    replace h111 : some (Fl.rt _) = some y100 := h111
    cases h111
    have hh := h105 _ h103
    subst hh
    exact GL.ret (Gx.ret (v := .int .i64 (3 : Int)) (res1 rfl rfl) (fun a w st => st.toPostC rfl))
   replace h110 := ite_f b129 h110
   refine GL.skip ?_
   refine GL.seq ?_
   refine GL.seq ?_
   obtain ⟨y133, K134, h135, h136, h137, h138, h139⟩ := bindF_K h110
   refine GL.join (ι := Bool) (fun (p : Bool) => [(0, v0), (4, v122), (15, v0), (16, .int .i64 ((x0).length : Int)), (17, .int .i64 (i107 : Int)), (35, .bool p)]) (fun (p : Bool) => [imm (TR.sl (TR.sl TR.int)) v0 x0, imm (TR.sl TR.int) v122 y117]) (fun (p : Bool) => K134 (.nx p)) ?_ ?_
   ·skip
    refine GL.region ?_
    refine RL.mv rfl rfl rfl ?_
    refine RL.lenS 1 Try.underlying32 rfl rfl rfl rfl SlOf.imm ?_
    refine RL.binI (v := .bool (decide (((y117).length : Int) < (1 : Int)))) rfl rfl rfl rfl rfl ?_
    refine RL.mv rfl rfl rfl ?_
    refine RL.split (t := 31) rfl (fun b140 => ?_) (fun b140 => ?_)
    ·replace h135 := ite_t b140 h135
     refine RL.skip rfl rfl ?_
     refine RL.skip rfl rfl ?_
     refine RL.skip rfl rfl ?_
     refine RL.pickT rfl rfl rfl rfl ?_
     refine RL.fin ?_
     cases h135
     exact fun a w st => mid_intro true h136 (St.cut [0, 1] ⟨rfl, rfl, rfl, rfl, rfl, rfl, trivial⟩ (by decide) rfl st)
    replace h135 := ite_f b140 h135
    refine RL.mv rfl rfl rfl ?_
    refine RL.lenS 1 Try.underlying32 rfl rfl rfl rfl SlOf.imm ?_
    refine RL.binI (v := .bool (decide (((y117).length : Int) > (6 : Int)))) rfl rfl rfl rfl rfl ?_
    refine RL.pickF rfl rfl rfl rfl ?_
    refine RL.fin ?_
    cases h135
    exact fun a w st => mid_intro (decide (((y117).length : Int) > (6 : Int))) h136 (St.cut [0, 1] ⟨rfl, rfl, rfl, rfl, rfl, rfl, trivial⟩ (by decide) rfl st)
   rintro x132 h141
   have h142 := h137 _ h141
   try dsimp only at h142
   refine GL.weak (env' := [(0, v0), (4, v122), (15, v0), (16, .int .i64 ((x0).length : Int)), (17, .int .i64 (i107 : Int)), (35, .bool x132)]) (L' := [imm (TR.sl (TR.sl TR.int)) v0 x0, imm (TR.sl TR.int) v122 y117]) (fun _ _ st => st) ?_
   refine GL.cond rfl (fun b143 => ?_) (fun b143 => ?_)
   ·replace h142 := ite_t b143 h142
    refine GL.seq ?_
    refine GL.region ?_
    refine RL.asg rfl rfl rfl ?_
    refine RL.finG ?_
    cases h142
    replace h111 : some (Fl.rt _) = some y100 := h111
    cases h111
    have hh := h105 _ h103
    subst hh
    exact GL.ret (Gx.ret (v := .int .i64 (2 : Int)) (res1 rfl rfl) (fun a w st => st.toPostC rfl))
   replace h142 := ite_f b143 h142
   refine GL.skip ?_
   refine GL.seq ?_
   refine GL.region ?_
   refine RL.mv rfl rfl rfl ?_
   refine RL.lenS 1 Try.underlying32 rfl rfl rfl rfl SlOf.imm ?_
   refine RL.mv rfl rfl rfl ?_
   refine RL.finG ?_
   refine GL.open_ 1 rfl (fun S h => len_imm S h) (fun n162 => ?_)
   obtain ⟨y163, K164, h165, h166, h167, h168, h169⟩ := bindF_K h142
   refine GL.join (ι := Unit) (fun (p : Unit) => [(0, v0), (15, v0), (16, .int .i64 ((x0).length : Int)), (17, .int .i64 (i107 : Int))]) (fun (p : Unit) => [imm (TR.sl (TR.sl TR.int)) v0 x0]) (fun (p : Unit) => K164 (.nx ())) ?_ ?_
   ·refine GL.block ?_
    refine GL.loop (ι := Nat × (List Int)) (fun (p : Nat × (List Int)) => [(0, v0), (15, v0), (16, .int .i64 ((x0).length : Int)), (17, .int .i64 (i107 : Int)), (36, v122), (37, .int .i64 ((y117).length : Int)), (38, .int .i64 (p.1 : Int))]) (fun (p : Nat × (List Int)) => [imm (TR.sl (TR.sl TR.int)) v0 x0, imm (TR.sl TR.int) v122 y117]) (fun (p : Nat × (List Int)) => p.1 + p.2.length = (y117).length ∧ List.drop p.1 y117 = p.2 ∧ rangeL saddle_Check_b2 p.2 p.1 () = some y163) (fun (p : Nat × (List Int)) => p.2.length) (0, y117) ⟨by simp, by simp, h165⟩ (fun a w st => St.cut [0, 1] ⟨rfl, rfl, rfl, rfl, rfl, rfl, rfl, trivial⟩ (by decide) rfl st) ?_
    rintro ⟨i170, r171⟩ ⟨h176, h177, h175⟩
    try dsimp only at h176 h177 h175
    refine GL.weak (env' := [(0, v0), (15, v0), (16, .int .i64 ((x0).length : Int)), (17, .int .i64 (i107 : Int)), (36, v122), (37, .int .i64 ((y117).length : Int)), (38, .int .i64 (i170 : Int))]) (L' := [imm (TR.sl (TR.sl TR.int)) v0 x0, imm (TR.sl TR.int) v122 y117]) (fun _ _ st => st) ?_
    refine GL.seq ?_
    refine GL.region ?_
    refine RL.binI (v := .bool (decide ((i170 : Int) < ((y117).length : Int)))) rfl rfl rfl rfl rfl ?_
    refine RL.finG ?_
    refine GL.seq ?_
    refine GL.cond rfl (fun b178 => ?_) (fun b178 => ?_)
    ·have h179 : i170 < (y117).length := by have := of_decide_eq_true b178; omega
     obtain ⟨y180, r182, hr, e181, h183⟩ := drop_cons h177 rfl h179
     subst hr
     obtain ⟨z172, h173, h174⟩ := rangeL_some h175
     unfold saddle_Check_b2 at h173
     try dsimp only at h173
     refine GL.skip ?_
     refine GL.seq ?_
     refine GL.block ?_
     refine GL.seq ?_
     refine GL.region ?_
     refine RL.idxS (sz := 1) 1 Try.underlying32 Try_ln3 rfl rfl rfl rfl rfl SlOf.imm (by omega) (by omega) ?_
     refine RL.ldSx (i := i170) (e' := y180) 1 Ex.ik Try_ln3 rfl rfl rfl rfl SlOf.imm e181 Part.self ?_
     refine RL.asg rfl rfl rfl ?_
     refine RL.finG ?_
     refine GL.seq ?_
     obtain ⟨y187, K188, h189, h190, h191, h192, h193⟩ := bindF_K h173
     refine GL.join (ι := Bool) (fun (p : Bool) => [(0, v0), (15, v0), (16, .int .i64 ((x0).length : Int)), (17, .int .i64 (i107 : Int)), (36, v122), (37, .int .i64 ((y117).length : Int)), (38, .int .i64 (i170 : Int)), (47, .bool p)]) (fun (p : Bool) => [imm (TR.sl (TR.sl TR.int)) v0 x0, imm (TR.sl TR.int) v122 y117]) (fun (p : Bool) => K188 (.nx p)) ?_ ?_
     ·skip
      refine GL.region ?_
      refine RL.mv rfl rfl rfl ?_
      refine RL.binI (v := .bool (decide (y180 < (-1000 : Int)))) rfl rfl rfl rfl rfl ?_
      refine RL.mv rfl rfl rfl ?_
      refine RL.split (t := 44) rfl (fun b194 => ?_) (fun b194 => ?_)
      ·replace h189 := ite_t b194 h189
       refine RL.skip rfl rfl ?_
       refine RL.skip rfl rfl ?_
       refine RL.pickT rfl rfl rfl rfl ?_
       refine RL.fin ?_
       cases h189
       exact fun a w st => mid_intro true h190 (St.cut [0, 1] ⟨rfl, rfl, rfl, rfl, rfl, rfl, rfl, rfl, trivial⟩ (by decide) rfl st)
      replace h189 := ite_f b194 h189
      refine RL.mv rfl rfl rfl ?_
      refine RL.binI (v := .bool (decide (y180 > (1000 : Int)))) rfl rfl rfl rfl rfl ?_
      refine RL.pickF rfl rfl rfl rfl ?_
      refine RL.fin ?_
      cases h189
      exact fun a w st => mid_intro (decide (y180 > (1000 : Int))) h190 (St.cut [0, 1] ⟨rfl, rfl, rfl, rfl, rfl, rfl, rfl, rfl, trivial⟩ (by decide) rfl st)
     rintro x186 h195
     have h196 := h191 _ h195
     try dsimp only at h196
     refine GL.weak (env' := [(0, v0), (15, v0), (16, .int .i64 ((x0).length : Int)), (17, .int .i64 (i107 : Int)), (36, v122), (37, .int .i64 ((y117).length : Int)), (38, .int .i64 (i170 : Int)), (47, .bool x186)]) (L' := [imm (TR.sl (TR.sl TR.int)) v0 x0, imm (TR.sl TR.int) v122 y117]) (fun _ _ st => st) ?_
     refine GL.cond rfl (fun b197 => ?_) (fun b197 => ?_)
     ·replace h196 := ite_t b197 h196
      refine GL.seq ?_
      refine GL.region ?_
      refine RL.asg rfl rfl rfl ?_
      refine RL.finG ?_
      cases h196
      replace h174 : some (Fl.rt _) = some y163 := h174
      cases h174
      have hh := h168 _ h166
      subst hh
      replace h111 : some (Fl.rt _) = some y100 := h111
      cases h111
      have hh := h105 _ h103
      subst hh
      exact GL.ret (Gx.ret (v := .int .i64 (1 : Int)) (res1 rfl rfl) (fun a w st => st.toPostC rfl))
     replace h196 := ite_f b197 h196
     refine GL.skip ?_
     refine GL.nilB ?_
     refine GL.region ?_
     refine RL.binI (v := .int .i64 ((i170 + 1 : Nat) : Int)) rfl rfl rfl rfl (binI_succ i170 (by omega)) ?_
     refine RL.mv rfl rfl rfl ?_
     refine RL.fin ?_
     cases h196
     exact fun a w st => lop_intro (i170 + 1, r182) ⟨by show i170 + 1 + r182.length = (y117).length; simp only [List.length_cons] at h176; omega, h183, h174⟩ (by simp) (St.cut [0, 1] ⟨rfl, rfl, rfl, rfl, rfl, rfl, rfl, trivial⟩ (by decide) rfl st)
    have h179 : ¬ i170 < (y117).length := by have := of_decide_eq_false b178; omega
    obtain rfl : r171 = [] := by rw [← h177]; exact List.drop_of_length_le (by omega)
    replace h175 : some (Fl.nx _) = some y163 := h175
    cases h175
    exact GL.exit (fun a w st => mid_intro () h166 (St.cut [0] ⟨rfl, rfl, rfl, rfl, trivial⟩ (by decide) rfl st))
   rintro ⟨⟩ h198
   have h199 := h167 _ h198
   try dsimp only at h199
   refine GL.weak (env' := [(0, v0), (15, v0), (16, .int .i64 ((x0).length : Int)), (17, .int .i64 (i107 : Int))]) (L' := [imm (TR.sl (TR.sl TR.int)) v0 x0]) (fun _ _ st => st) ?_
   refine GL.nilB ?_
   refine GL.region ?_
   refine RL.binI (v := .int .i64 ((i107 + 1 : Nat) : Int)) rfl rfl rfl rfl (binI_succ i107 (by omega)) ?_
   refine RL.mv rfl rfl rfl ?_
   refine RL.fin ?_
   cases h199
   exact fun a w st => lop_intro (i107 + 1, r119) ⟨by show i107 + 1 + r119.length = (x0).length; simp only [List.length_cons] at h113; omega, h120, h111⟩ (by simp) (St.cut [0] ⟨rfl, rfl, rfl, rfl, trivial⟩ (by decide) rfl st)
  have h116 : ¬ i107 < (x0).length := by have := of_decide_eq_false b115; omega
  obtain rfl : r108 = [] := by rw [← h114]; exact List.drop_of_length_le (by omega)
  replace h112 : some (Fl.nx _) = some y100 := h112
  cases h112
  exact GL.exit (fun a w st => mid_intro () h103 (St.cut [] trivial (by decide) rfl st))
 rintro ⟨⟩ h200
 have h201 := h104 _ h200
 try dsimp only at h201
 refine GL.weak (env' := []) (L' := []) (fun _ _ st => st) ?_
 refine GL.seq ?_
 refine GL.region ?_
 refine RL.asg rfl rfl rfl ?_
 refine RL.finG ?_
 have h201 := Option.some.inj h201
 subst h201
 exact GL.ret (Gx.ret (v := .int .i64 (0 : Int)) (res1 rfl rfl) (fun a w st => st.toPostC rfl))

set_option maxHeartbeats 4000000 in
theorem mixed_least_c (S : Hp) (w : World) (hS : S.sub w) (v0 : Value) (x0 : (List (List Int))) (k0 : ((TR.sl (TR.sl TR.int))).vrep S v0 x0) (x1 : Int) (x2 : Int) (res : Int) (hm : mixed_least_m x0 x1 x2 = some res) : Calls Try.prog 37 #[v0, .int .i64 x1, .int .i64 x2] w (PostV w (.int .i64 res)) := by
 refine calls_enter 56 Try.func37 Try.ntmps37 rfl S false [(0, v0), (1, .int .i64 x1), (2, .int .i64 x2)] [imm (TR.sl (TR.sl TR.int)) v0 x0] rfl ⟨rfl, ⟨rfl, ⟨rfl, trivial⟩⟩⟩ hS ⟨k0, trivial⟩ ?_
 unfold mixed_least_m at hm
 refine GL.seq ?_
 refine GL.region ?_
 refine RL.asg rfl rfl rfl ?_
 refine RL.finG ?_
 refine GL.seq ?_
 refine GL.regionQ rfl rfl (by kernel_rfl) ?_
 refine RL.mv rfl rfl rfl ?_
 obtain ⟨y14, e15, hm⟩ := bind_some hm
 refine RL.idxS (sz := 1) 0 Try.underlying22 Try_ln32 rfl rfl rfl rfl rfl SlOf.imm (idx_some e15).1 (idx_some e15).2.1 ?_
 refine RL.ldS (i := ((0 : Int)).toNat) (r := (TR.sl TR.int)) (e' := y14) 0 Try_ln32 rfl rfl rfl rfl SlOf.imm (idx_some e15).2.2 Part.self ?_
 intro v16
 obtain ⟨y17, e18, hm⟩ := bind_some hm
 refine RL.idxS (sz := 1) 1 Try.underlying32 Try_ln3 rfl rfl rfl rfl rfl SlOf.imm (idx_some e18).1 (idx_some e18).2.1 ?_
 refine RL.ldSx (i := ((0 : Int)).toNat) (e' := y17) 1 Ex.ik Try_ln3 rfl rfl rfl rfl SlOf.imm (idx_some e18).2.2 Part.self ?_
 refine RL.mv rfl rfl rfl ?_
 refine RL.binI (v := .int .i64 (wmul y17 x1)) rfl rfl rfl rfl rfl ?_
 refine RL.mv rfl rfl rfl ?_
 obtain ⟨y19, e20, hm⟩ := bind_some hm
 refine RL.idxS (sz := 1) 0 Try.underlying22 Try_ln32 rfl rfl rfl rfl rfl SlOf.imm (idx_some e20).1 (idx_some e20).2.1 ?_
 refine RL.ldS (i := ((1 : Int)).toNat) (r := (TR.sl TR.int)) (e' := y19) 0 Try_ln32 rfl rfl rfl rfl SlOf.imm (idx_some e20).2.2 Part.self ?_
 intro v21
 refine RL.reL (L' := [imm (TR.sl (TR.sl TR.int)) v0 x0, imm (TR.sl TR.int) v16 y14, imm (TR.sl TR.int) v21 y19]) rfl ?_
 obtain ⟨y22, e23, hm⟩ := bind_some hm
 refine RL.idxS (sz := 1) 2 Try.underlying32 Try_ln3 rfl rfl rfl rfl rfl SlOf.imm (idx_some e23).1 (idx_some e23).2.1 ?_
 refine RL.ldSx (i := ((0 : Int)).toNat) (e' := y22) 2 Ex.ik Try_ln3 rfl rfl rfl rfl SlOf.imm (idx_some e23).2.2 Part.self ?_
 refine RL.mv rfl rfl rfl ?_
 refine RL.mv rfl rfl rfl ?_
 refine RL.binI (v := .int .i64 (wsub x2 x1)) rfl rfl rfl rfl rfl ?_
 refine RL.binI (v := .int .i64 (wmul y22 (wsub x2 x1))) rfl rfl rfl rfl rfl ?_
 refine RL.binI (v := .int .i64 (wadd (wmul y17 x1) (wmul y22 (wsub x2 x1)))) rfl rfl rfl rfl rfl ?_
 refine RL.asg rfl rfl rfl ?_
 refine RL.finQG ?_
 refine GL.weak (env' := [(0, v0), (1, .int .i64 x1), (2, .int .i64 x2), (7, .int .i64 (wadd (wmul y17 x1) (wmul y22 (wsub x2 x1))))]) (L' := [imm (TR.sl (TR.sl TR.int)) v0 x0]) (fun a w st => St.cut [0] ⟨rfl, rfl, rfl, rfl, trivial⟩ (by decide) rfl st) ?_
 refine GL.seq ?_
 refine GL.seq ?_
 refine GL.region ?_
 refine RL.mv rfl rfl rfl ?_
 obtain ⟨y27, e28, hm⟩ := bind_some hm
 refine RL.idxS (sz := 1) 0 Try.underlying22 Try_ln32 rfl rfl rfl rfl rfl SlOf.imm (idx_some e28).1 (idx_some e28).2.1 ?_
 refine RL.ldS (i := ((0 : Int)).toNat) (r := (TR.sl TR.int)) (e' := y27) 0 Try_ln32 rfl rfl rfl rfl SlOf.imm (idx_some e28).2.2 Part.self ?_
 intro v29
 refine RL.lenS 1 Try.underlying32 rfl rfl rfl rfl SlOf.imm ?_
 refine RL.mv rfl rfl rfl ?_
 refine RL.finG ?_
 refine GL.open_ 1 rfl (fun S h => len_imm S h) (fun n51 => ?_)
 obtain ⟨y52, K53, h54, h55, h56, h57, h58⟩ := bindR_K hm
 refine GL.join (ι := Int) (fun (p : Int) => [(7, .int .i64 p)]) (fun (p : Int) => []) (fun (p : Int) => K53 (.nx p)) ?_ ?_
 ·refine GL.block ?_
  refine GL.loop (ι := Nat × (List Int) × Int) (fun (p : Nat × (List Int) × Int) => [(0, v0), (1, .int .i64 x1), (2, .int .i64 x2), (7, .int .i64 p.2.2), (29, .int .i64 ((y27).length : Int)), (30, .int .i64 (p.1 : Int))]) (fun (p : Nat × (List Int) × Int) => [imm (TR.sl (TR.sl TR.int)) v0 x0]) (fun (p : Nat × (List Int) × Int) => p.1 + p.2.1.length = (y27).length ∧ List.drop p.1 y27 = p.2.1 ∧ rangeL (mixed_least_b1 x0 x1 x2) p.2.1 p.1 p.2.2 = some y52) (fun (p : Nat × (List Int) × Int) => p.2.1.length) (0, y27, wadd (wmul y17 x1) (wmul y22 (wsub x2 x1))) ⟨by simp, by simp, h54⟩ (fun a w st => St.cut [0] ⟨rfl, rfl, rfl, rfl, rfl, rfl, trivial⟩ (by decide) rfl st) ?_
  rintro ⟨i59, r60, x30⟩ ⟨h65, h66, h64⟩
  try dsimp only at h65 h66 h64
  refine GL.weak (env' := [(0, v0), (1, .int .i64 x1), (2, .int .i64 x2), (7, .int .i64 x30), (29, .int .i64 ((y27).length : Int)), (30, .int .i64 (i59 : Int))]) (L' := [imm (TR.sl (TR.sl TR.int)) v0 x0]) (fun _ _ st => st) ?_
  refine GL.seq ?_
  refine GL.region ?_
  refine RL.binI (v := .bool (decide ((i59 : Int) < ((y27).length : Int)))) rfl rfl rfl rfl rfl ?_
  refine RL.finG ?_
  refine GL.seq ?_
  refine GL.cond rfl (fun b67 => ?_) (fun b67 => ?_)
  ·have h68 : i59 < (y27).length := by have := of_decide_eq_true b67; omega
   obtain ⟨y69, r71, hr, e70, h72⟩ := drop_cons h66 rfl h68
   subst hr
   obtain ⟨z61, h62, h63⟩ := rangeL_some h64
   unfold mixed_least_b1 at h62
   try dsimp only at h62
   refine GL.skip ?_
   refine GL.seq ?_
   refine GL.block ?_
   refine GL.seq ?_
   refine GL.region ?_
   refine RL.mv rfl rfl rfl ?_
   refine RL.asg rfl rfl rfl ?_
   refine RL.finG ?_
   refine GL.regionQ rfl rfl (by kernel_rfl) ?_
   refine RL.mv rfl rfl rfl ?_
   refine RL.mv rfl rfl rfl ?_
   obtain ⟨y83, e84, h62⟩ := bind_some h62
   refine RL.idxS (sz := 1) 0 Try.underlying22 Try_ln32 rfl rfl rfl rfl rfl SlOf.imm (idx_some e84).1 (idx_some e84).2.1 ?_
   refine RL.ldS (i := ((0 : Int)).toNat) (r := (TR.sl TR.int)) (e' := y83) 0 Try_ln32 rfl rfl rfl rfl SlOf.imm (idx_some e84).2.2 Part.self ?_
   intro v85
   refine RL.mv rfl rfl rfl ?_
   obtain ⟨y86, e87, h62⟩ := bind_some h62
   refine RL.idxS (sz := 1) 1 Try.underlying32 Try_ln3 rfl rfl rfl rfl rfl SlOf.imm (idx_some e87).1 (idx_some e87).2.1 ?_
   refine RL.ldSx (i := i59) (e' := y86) 1 Ex.ik Try_ln3 rfl rfl rfl rfl SlOf.imm (idx_some e87).2.2 Part.self ?_
   refine RL.mv rfl rfl rfl ?_
   refine RL.binI (v := .int .i64 (wmul y86 x1)) rfl rfl rfl rfl rfl ?_
   refine RL.mv rfl rfl rfl ?_
   obtain ⟨y88, e89, h62⟩ := bind_some h62
   refine RL.idxS (sz := 1) 0 Try.underlying22 Try_ln32 rfl rfl rfl rfl rfl SlOf.imm (idx_some e89).1 (idx_some e89).2.1 ?_
   refine RL.ldS (i := ((1 : Int)).toNat) (r := (TR.sl TR.int)) (e' := y88) 0 Try_ln32 rfl rfl rfl rfl SlOf.imm (idx_some e89).2.2 Part.self ?_
   intro v90
   refine RL.reL (L' := [imm (TR.sl (TR.sl TR.int)) v0 x0, imm (TR.sl TR.int) v85 y83, imm (TR.sl TR.int) v90 y88]) rfl ?_
   refine RL.mv rfl rfl rfl ?_
   obtain ⟨y91, e92, h62⟩ := bind_some h62
   refine RL.idxS (sz := 1) 2 Try.underlying32 Try_ln3 rfl rfl rfl rfl rfl SlOf.imm (idx_some e92).1 (idx_some e92).2.1 ?_
   refine RL.ldSx (i := i59) (e' := y91) 2 Ex.ik Try_ln3 rfl rfl rfl rfl SlOf.imm (idx_some e92).2.2 Part.self ?_
   refine RL.mv rfl rfl rfl ?_
   refine RL.mv rfl rfl rfl ?_
   refine RL.binI (v := .int .i64 (wsub x2 x1)) rfl rfl rfl rfl rfl ?_
   refine RL.binI (v := .int .i64 (wmul y91 (wsub x2 x1))) rfl rfl rfl rfl rfl ?_
   refine RL.binI (v := .int .i64 (wadd (wmul y86 x1) (wmul y91 (wsub x2 x1)))) rfl rfl rfl rfl rfl ?_
   refine RL.minI rfl rfl rfl rfl ?_
   refine RL.asg rfl rfl rfl ?_
   refine RL.finQG ?_
   refine GL.weak (env' := [(0, v0), (1, .int .i64 x1), (2, .int .i64 x2), (7, .int .i64 (if (wadd (wmul y86 x1) (wmul y91 (wsub x2 x1))) < x30 then wadd (wmul y86 x1) (wmul y91 (wsub x2 x1)) else x30)), (29, .int .i64 ((y27).length : Int)), (30, .int .i64 (i59 : Int))]) (L' := [imm (TR.sl (TR.sl TR.int)) v0 x0]) (fun a w st => St.cut [0] ⟨rfl, rfl, rfl, rfl, rfl, rfl, trivial⟩ (by decide) rfl st) ?_
   refine GL.nilB ?_
   refine GL.region ?_
   refine RL.binI (v := .int .i64 ((i59 + 1 : Nat) : Int)) rfl rfl rfl rfl (binI_succ i59 (by omega)) ?_
   refine RL.mv rfl rfl rfl ?_
   refine RL.fin ?_
   cases h62
   exact fun a w st => lop_intro (i59 + 1, r71, if (wadd (wmul y86 x1) (wmul y91 (wsub x2 x1))) < x30 then wadd (wmul y86 x1) (wmul y91 (wsub x2 x1)) else x30) ⟨by show i59 + 1 + r71.length = (y27).length; simp only [List.length_cons] at h65; omega, h72, h63⟩ (by simp) (St.cut [0] ⟨rfl, rfl, rfl, rfl, rfl, rfl, trivial⟩ (by decide) rfl st)
  have h68 : ¬ i59 < (y27).length := by have := of_decide_eq_false b67; omega
  obtain rfl : r60 = [] := by rw [← h66]; exact List.drop_of_length_le (by omega)
  replace h64 : some (Fl.nx _) = some y52 := h64
  cases h64
  exact GL.exit (fun a w st => mid_intro x30 h55 (St.cut [] ⟨rfl, trivial⟩ (by decide) rfl st))
 rintro x30 h93
 have h94 := h56 _ h93
 try dsimp only at h94
 refine GL.weak (env' := [(7, .int .i64 x30)]) (L' := []) (fun _ _ st => st) ?_
 refine GL.seq ?_
 refine GL.region ?_
 refine RL.mv rfl rfl rfl ?_
 refine RL.asg rfl rfl rfl ?_
 refine RL.finG ?_
 have h94 := Option.some.inj h94
 subst h94
 exact GL.ret (Gx.ret (v := .int .i64 x30) (res1 rfl rfl) (fun a w st => st.toPostV))

set_option maxHeartbeats 4000000 in
theorem mixed_Solve_1_c (B : World) (S X : Hp) (f : Nat → Hp) (w : World) (v3 : Value) (x3 : Int) (v4 : Value) (x4 : Int) (hO : HeapOk B.heap.size S f [obox 3 TR.int v3 x3, obox 3 TR.int v4 x4, keep X].length w) (hB : Below B.heap.size B w) (hI : Its [obox 3 TR.int v3 x3, obox 3 TR.int v4 x4, keep X] S f) (x0 : Int) (x1 : Int) (v2 : Value) (x2 : (List (List Int))) (k2 : ((TR.ptr (TR.sl (TR.sl TR.int)))).vrep S v2 x2) (res : Int × Int) (hm : mixed_Solve_1_m x0 x1 x2 x3 x4 = some res) : Calls Try.prog 36 #[.int .i64 x0, .int .i64 x1, v2, v3, v4] w (PostM B S (fun (o : Unit) => .tuple #[]) (fun (o : Unit) => [obox 3 TR.int v3 res.1, obox 3 TR.int v4 res.2, keep X])) := by
 refine calls_enterM 53 Try.func36 Try.ntmps36 rfl B S f [(0, .int .i64 x0), (1, .int .i64 x1), (2, v2), (3, v3), (4, v4)] [obox 3 TR.int v3 x3, obox 3 TR.int v4 x4, keep X] [imm (TR.ptr (TR.sl (TR.sl TR.int))) v2 x2] rfl ⟨rfl, ⟨rfl, ⟨rfl, ⟨rfl, ⟨rfl, trivial⟩⟩⟩⟩⟩ hB hO hI ⟨k2, trivial⟩ ?_
 unfold mixed_Solve_1_m at hm
 refine GL.seq ?_
 refine GL.seq ?_
 refine GL.region ?_
 refine RL.mv rfl rfl rfl ?_
 refine RL.binI (v := .bool (decide (x1 < (0 : Int)))) rfl rfl rfl rfl rfl ?_
 refine RL.finG ?_
 obtain ⟨y9, K10, h11, h12, h13, h14, h15⟩ := bindR_K hm
 refine GL.join (ι := Int × Int) (fun (p : Int × Int) => [(0, .int .i64 p.1), (1, .int .i64 p.2), (2, v2), (3, v3), (4, v4)]) (fun (p : Int × Int) => [imm (TR.ptr (TR.sl (TR.sl TR.int))) v2 x2, obox 3 TR.int v3 x3, obox 3 TR.int v4 x4, keep X]) (fun (p : Int × Int) => K10 (.nx (p.1, p.2))) ?_ ?_
 ·skip
  refine GL.cond rfl (fun b16 => ?_) (fun b16 => ?_)
  ·replace h11 := ite_t b16 h11
   refine GL.region ?_
   refine RL.mv rfl rfl rfl ?_
   refine RL.negI rfl rfl rfl ?_
   refine RL.mv rfl rfl rfl ?_
   refine RL.negI rfl rfl rfl ?_
   refine RL.asg rfl rfl rfl ?_
   refine RL.asg rfl rfl rfl ?_
   refine RL.finG ?_
   cases h11
   exact fun a w st => mid_intro (wsub 0 x0, wsub 0 x1) h12 (St.cut [3, 0, 1, 2] ⟨rfl, rfl, rfl, rfl, rfl, trivial⟩ (by decide) rfl st)
  replace h11 := ite_f b16 h11
  refine GL.skip ?_
  cases h11
  exact fun a w st => mid_intro (x0, x1) h12 (St.cut [3, 0, 1, 2] ⟨rfl, rfl, rfl, rfl, rfl, trivial⟩ (by decide) rfl st)
 rintro ⟨x7, x8⟩ h17
 have h18 := h13 _ h17
 try dsimp only at h18
 refine GL.weak (env' := [(0, .int .i64 x7), (1, .int .i64 x8), (2, v2), (3, v3), (4, v4)]) (L' := [imm (TR.ptr (TR.sl (TR.sl TR.int))) v2 x2, obox 3 TR.int v3 x3, obox 3 TR.int v4 x4, keep X]) (fun _ _ st => st) ?_
 refine GL.seq ?_
 refine GL.seq ?_
 obtain ⟨y22, K23, h24, h25, h26, h27, h28⟩ := bindR_K h18
 refine GL.join (ι := Bool) (fun (p : Bool) => [(0, .int .i64 x7), (1, .int .i64 x8), (2, v2), (3, v3), (4, v4), (21, .bool p)]) (fun (p : Bool) => [imm (TR.ptr (TR.sl (TR.sl TR.int))) v2 x2, obox 3 TR.int v3 x3, obox 3 TR.int v4 x4, keep X]) (fun (p : Bool) => K23 (.nx p)) ?_ ?_
 ·skip
  refine GL.region ?_
  refine RL.mv rfl rfl rfl ?_
  refine RL.binI (v := .bool (decide (x7 < (0 : Int)))) rfl rfl rfl rfl rfl ?_
  refine RL.mv rfl rfl rfl ?_
  refine RL.split (t := 17) rfl (fun b29 => ?_) (fun b29 => ?_)
  ·replace h24 := ite_t b29 h24
   refine RL.skip rfl rfl ?_
   refine RL.skip rfl rfl ?_
   refine RL.skip rfl rfl ?_
   refine RL.pickT rfl rfl rfl rfl ?_
   refine RL.fin ?_
   cases h24
   exact fun a w st => mid_intro true h25 (St.cut [0, 1, 2, 3] ⟨rfl, rfl, rfl, rfl, rfl, rfl, trivial⟩ (by decide) rfl st)
  replace h24 := ite_f b29 h24
  refine RL.mv rfl rfl rfl ?_
  refine RL.mv rfl rfl rfl ?_
  refine RL.binI (v := .bool (decide (x7 > x8))) rfl rfl rfl rfl rfl ?_
  refine RL.pickF rfl rfl rfl rfl ?_
  refine RL.fin ?_
  cases h24
  exact fun a w st => mid_intro (decide (x7 > x8)) h25 (St.cut [0, 1, 2, 3] ⟨rfl, rfl, rfl, rfl, rfl, rfl, trivial⟩ (by decide) rfl st)
 rintro x21 h30
 have h31 := h26 _ h30
 try dsimp only at h31
 refine GL.weak (env' := [(0, .int .i64 x7), (1, .int .i64 x8), (2, v2), (3, v3), (4, v4), (21, .bool x21)]) (L' := [imm (TR.ptr (TR.sl (TR.sl TR.int))) v2 x2, obox 3 TR.int v3 x3, obox 3 TR.int v4 x4, keep X]) (fun _ _ st => st) ?_
 refine GL.cond rfl (fun b32 => ?_) (fun b32 => ?_)
 ·replace h31 := ite_t b32 h31
  have h31 := Option.some.inj h31
  subst h31
  exact GL.ret (Gx.ret (v := .tuple #[]) (res0 rfl) (fun a w st => (st.pick [1, 2, 3] (by decide) rfl).toPostM (V := fun (o : Unit) => .tuple #[]) (LR := fun (o : Unit) => [obox 3 TR.int v3 ((x3, x4).1), obox 3 TR.int v4 ((x3, x4).2), keep X]) ()))
 replace h31 := ite_f b32 h31
 refine GL.skip ?_
 refine GL.seq ?_
 refine GL.regionQ rfl rfl (by kernel_rfl) ?_
 refine RL.ldP (off := 0) (r := (TR.sl (TR.sl TR.int))) (e' := x2) 0 Try_ln22 rfl rfl (Or.inr ⟨rfl, rfl⟩) rfl PtOf.imm Part.self ?_
 intro v39
 refine RL.mv rfl rfl rfl ?_
 refine RL.mv rfl rfl rfl ?_
 obtain ⟨y40, e41, h31⟩ := bind_some h31
 refine RL.callV (v := .int .i64 y40) (vs := [v39, .int .i64 x7, .int .i64 x8]) Try_fit37 rfl (Or.inr ⟨_, rfl⟩) rfl rfl rfl rfl (fun U w hU hW hL => mixed_least_c U w hU _ _ (hL 4 _ _ rfl Seen.imm) x7 x8 _ e41) ?_
 refine RL.ldPx (off := 0) (e' := x3) 1 Ex.ik Try_ln3 rfl rfl (Or.inr ⟨rfl, rfl⟩) rfl PtOf.obox Part.self ?_
 refine RL.binI (v := .int .i64 (wmul y40 x3)) rfl rfl rfl rfl rfl ?_
 refine RL.ldP (off := 0) (r := (TR.sl (TR.sl TR.int))) (e' := x2) 0 Try_ln22 rfl rfl (Or.inr ⟨rfl, rfl⟩) rfl PtOf.imm Part.self ?_
 intro v42
 refine RL.reL (L' := [imm (TR.ptr (TR.sl (TR.sl TR.int))) v2 x2, obox 3 TR.int v3 x3, obox 3 TR.int v4 x4, keep X, imm (TR.sl (TR.sl TR.int)) v39 x2, imm (TR.sl (TR.sl TR.int)) v42 x2]) rfl ?_
 refine RL.ldPx (off := 0) (e' := x4) 2 Ex.ik Try_ln3 rfl rfl (Or.inr ⟨rfl, rfl⟩) rfl PtOf.obox Part.self ?_
 refine RL.ldPx (off := 0) (e' := x3) 1 Ex.ik Try_ln3 rfl rfl (Or.inr ⟨rfl, rfl⟩) rfl PtOf.obox Part.self ?_
 obtain ⟨y43, e44, h31⟩ := bind_some h31
 refine RL.callV (v := .int .i64 y43) (vs := [v42, .int .i64 x4, .int .i64 x3]) Try_fit37 rfl (Or.inr ⟨_, rfl⟩) rfl rfl rfl rfl (fun U w hU hW hL => mixed_least_c U w hU _ _ (hL 5 _ _ rfl Seen.imm) x4 x3 _ e44) ?_
 refine RL.mv rfl rfl rfl ?_
 refine RL.binI (v := .int .i64 (wmul y43 x8)) rfl rfl rfl rfl rfl ?_
 refine RL.asg rfl rfl rfl ?_
 refine RL.asg rfl rfl rfl ?_
 refine RL.finQG ?_
 refine GL.seq ?_
 obtain ⟨y50, K51, h52, h53, h54, h55, h56⟩ := bindR_K h31
 refine GL.join (ι := Bool) (fun (p : Bool) => [(0, .int .i64 x7), (1, .int .i64 x8), (3, v3), (4, v4), (50, .bool p)]) (fun (p : Bool) => [obox 3 TR.int v3 x3, obox 3 TR.int v4 x4, keep X]) (fun (p : Bool) => K51 (.nx p)) ?_ ?_
 ·skip
  refine GL.region ?_
  refine RL.mv rfl rfl rfl ?_
  refine RL.mv rfl rfl rfl ?_
  refine RL.binI (v := .bool (decide ((wmul y40 x3) > (wmul y43 x8)))) rfl rfl rfl rfl rfl ?_
  refine RL.mv rfl rfl rfl ?_
  refine RL.split (t := 37) rfl (fun b57 => ?_) (fun b57 => ?_)
  ·replace h52 := ite_t b57 h52
   refine RL.skip rfl rfl ?_
   refine RL.skip rfl rfl ?_
   refine RL.skip rfl rfl ?_
   refine RL.skip rfl rfl ?_
   refine RL.skip rfl rfl ?_
   refine RL.skip rfl rfl ?_
   refine RL.skip rfl rfl ?_
   refine RL.skip rfl rfl ?_
   refine RL.skip rfl rfl ?_
   refine RL.skip rfl rfl ?_
   refine RL.skip rfl rfl ?_
   refine RL.skip rfl rfl ?_
   refine RL.pickT rfl rfl rfl rfl ?_
   refine RL.fin ?_
   cases h52
   exact fun a w st => mid_intro true h53 (St.cut [1, 2, 3] ⟨rfl, rfl, rfl, rfl, rfl, trivial⟩ (by decide) rfl st)
  replace h52 := ite_f b57 h52
  refine RL.mv rfl rfl rfl ?_
  refine RL.mv rfl rfl rfl ?_
  refine RL.binI (v := .bool ((wmul y40 x3) == (wmul y43 x8))) rfl rfl rfl rfl rfl ?_
  refine RL.mv rfl rfl rfl ?_
  refine RL.split (t := 41) rfl (fun b58 => ?_) (fun b58 => ?_)
  ·replace h52 := ite_t b58 h52
   refine RL.mv rfl rfl rfl ?_
   refine RL.ldPx (off := 0) (e' := x3) 1 Ex.ik Try_ln3 rfl rfl (Or.inr ⟨rfl, rfl⟩) rfl PtOf.obox Part.self ?_
   refine RL.binI (v := .int .i64 (wmul x7 x3)) rfl rfl rfl rfl rfl ?_
   refine RL.ldPx (off := 0) (e' := x4) 2 Ex.ik Try_ln3 rfl rfl (Or.inr ⟨rfl, rfl⟩) rfl PtOf.obox Part.self ?_
   refine RL.mv rfl rfl rfl ?_
   refine RL.binI (v := .int .i64 (wmul x4 x8)) rfl rfl rfl rfl rfl ?_
   refine RL.binI (v := .bool (decide ((wmul x7 x3) < (wmul x4 x8)))) rfl rfl rfl rfl rfl ?_
   refine RL.pickT rfl rfl rfl rfl ?_
   refine RL.pickF rfl rfl rfl rfl ?_
   refine RL.fin ?_
   cases h52
   exact fun a w st => mid_intro (decide ((wmul x7 x3) < (wmul x4 x8))) h53 (St.cut [1, 2, 3] ⟨rfl, rfl, rfl, rfl, rfl, trivial⟩ (by decide) rfl st)
  replace h52 := ite_f b58 h52
  refine RL.skip rfl rfl ?_
  refine RL.skip rfl rfl ?_
  refine RL.skip rfl rfl ?_
  refine RL.skip rfl rfl ?_
  refine RL.skip rfl rfl ?_
  refine RL.skip rfl rfl ?_
  refine RL.skip rfl rfl ?_
  refine RL.pickF rfl rfl rfl rfl ?_
  refine RL.pickF rfl rfl rfl rfl ?_
  refine RL.fin ?_
  cases h52
  exact fun a w st => mid_intro false h53 (St.cut [1, 2, 3] ⟨rfl, rfl, rfl, rfl, rfl, trivial⟩ (by decide) rfl st)
 rintro x49 h59
 have h60 := h54 _ h59
 try dsimp only at h60
 refine GL.weak (env' := [(0, .int .i64 x7), (1, .int .i64 x8), (3, v3), (4, v4), (50, .bool x49)]) (L' := [obox 3 TR.int v3 x3, obox 3 TR.int v4 x4, keep X]) (fun _ _ st => st) ?_
 refine GL.cond rfl (fun b61 => ?_) (fun b61 => ?_)
 ·replace h60 := ite_t b61 h60
  refine GL.region ?_
  refine RL.mv rfl rfl rfl ?_
  refine RL.mv rfl rfl rfl ?_
  refine RL.stP (off := 0) (e' := x7) (d1 := x7) (r := TR.int) 1 Try_ln3 rfl rfl (Or.inr ⟨rfl, rfl⟩) rfl VR.int rfl Upd.self ?_
  refine RL.stP (off := 0) (e' := x8) (d1 := x8) (r := TR.int) 0 Try_ln3 rfl rfl (Or.inr ⟨rfl, rfl⟩) rfl VR.int rfl Upd.self ?_
  refine RL.reL (L' := [obox 3 TR.int v3 x8, obox 3 TR.int v4 x7, keep X]) rfl ?_
  refine RL.finG ?_
  have h60 := Option.some.inj h60
  subst h60
  exact GL.nil (Gx.retN (v := .tuple #[]) (res0 rfl) (fun a w st => (st.pick [0, 1, 2] (by decide) rfl).toPostM (V := fun (o : Unit) => .tuple #[]) (LR := fun (o : Unit) => [obox 3 TR.int v3 ((x8, x7).1), obox 3 TR.int v4 ((x8, x7).2), keep X]) ()))
 replace h60 := ite_f b61 h60
 refine GL.skip ?_
 have h60 := Option.some.inj h60
 subst h60
 exact GL.nil (Gx.retN (v := .tuple #[]) (res0 rfl) (fun a w st => (st.pick [0, 1, 2] (by decide) rfl).toPostM (V := fun (o : Unit) => .tuple #[]) (LR := fun (o : Unit) => [obox 3 TR.int v3 ((x3, x4).1), obox 3 TR.int v4 ((x3, x4).2), keep X]) ()))

set_option maxHeartbeats 4000000 in
theorem mixed_gcd_c (S : Hp) (w : World) (hS : S.sub w) (x0 : Int) (x1 : Int) (res : Int) (hm : mixed_gcd_m x0 x1 = some res) : Calls Try.prog 47 #[.int .i64 x0, .int .i64 x1] w (PostV w (.int .i64 res)) := by
 refine calls_enter 16 Try.func47 Try.ntmps47 rfl S false [(0, .int .i64 x0), (1, .int .i64 x1)] [] rfl ⟨rfl, ⟨rfl, trivial⟩⟩ hS trivial ?_
 unfold mixed_gcd_m at hm
 refine GL.seq ?_
 refine GL.region ?_
 refine RL.asg rfl rfl rfl ?_
 refine RL.finG ?_
 refine GL.seq ?_
 refine GL.region ?_
 refine RL.mv rfl rfl rfl ?_
 refine RL.mv rfl rfl rfl ?_
 refine RL.negI rfl rfl rfl ?_
 refine RL.maxI rfl rfl rfl rfl ?_
 refine RL.asg rfl rfl rfl ?_
 refine RL.finG ?_
 refine GL.seq ?_
 obtain ⟨y10, K11, h12, h13, h14, h15, h16⟩ := bindR_K hm
 refine GL.join (ι := Int × Int) (fun (p : Int × Int) => [(0, .int .i64 p.1)]) (fun (p : Int × Int) => []) (fun (p : Int × Int) => K11 (.nx (p.1, p.2))) ?_ ?_
 ·refine GL.block ?_
  refine GL.loop (ι := Nat × Int × Int) (fun (p : Nat × Int × Int) => [(0, .int .i64 p.2.1), (1, .int .i64 p.2.2)]) (fun (p : Nat × Int × Int) => []) (fun (p : Nat × Int × Int) => loopM mixed_gcd_b1 p.1 (p.2.1, p.2.2) = some y10) (fun (p : Nat × Int × Int) => p.1) (1048576, if (wsub 0 x0) > x0 then wsub 0 x0 else x0, x1) h12 (fun a w st => St.cut [] ⟨rfl, rfl, trivial⟩ (by decide) rfl st) ?_
  rintro ⟨r18, x3, x4⟩ h22
  try dsimp only at h22
  refine GL.weak (env' := [(0, .int .i64 x3), (1, .int .i64 x4)]) (L' := []) (fun _ _ st => st) ?_
  obtain ⟨r25, z19, hr, h20, h21⟩ := loopM_some h22
  subst hr
  unfold mixed_gcd_b1 at h20
  try dsimp only at h20
  refine GL.seq ?_
  refine GL.seq ?_
  refine GL.region ?_
  refine RL.mv rfl rfl rfl ?_
  refine RL.binI (v := .bool (decide (x4 > (0 : Int)))) rfl rfl rfl rfl rfl ?_
  refine RL.finG ?_
  refine GL.cond rfl (fun b26 => ?_) (fun b26 => ?_)
  ·replace h20 := ite_t b26 h20
   refine GL.skip ?_
   refine GL.block ?_
   refine GL.regionQ rfl rfl (by kernel_rfl) ?_
   refine RL.mv rfl rfl rfl ?_
   refine RL.mv rfl rfl rfl ?_
   refine RL.mv rfl rfl rfl ?_
   obtain ⟨y29, e30, h20⟩ := bind_some h20
   replace e30 := chk_some e30
   refine RL.rem rfl rfl rfl rfl e30 ?_
   refine RL.asg rfl rfl rfl ?_
   refine RL.asg rfl rfl rfl ?_
   refine RL.finQG ?_
   refine GL.nilB ?_
   cases h20
   exact fun a w st => lop_intro (r25, x4, Int.tmod x3 x4) (by exact h21) (by simp) (St.cut [] ⟨rfl, rfl, trivial⟩ (by decide) rfl st)
  replace h20 := ite_f b26 h20
  cases h20
  replace h21 : some (Fl.nx _) = some y10 := h21
  cases h21
  exact GL.exit (fun a w st => mid_intro (x3, x4) h13 (St.cut [] ⟨rfl, trivial⟩ (by decide) rfl st))
 rintro ⟨x3, x4⟩ h31
 have h32 := h14 _ h31
 try dsimp only at h32
 refine GL.weak (env' := [(0, .int .i64 x3)]) (L' := []) (fun _ _ st => st) ?_
 refine GL.seq ?_
 refine GL.region ?_
 refine RL.mv rfl rfl rfl ?_
 refine RL.asg rfl rfl rfl ?_
 refine RL.finG ?_
 have h32 := Option.some.inj h32
 subst h32
 exact GL.ret (Gx.ret (v := .int .i64 x3) (res1 rfl rfl) (fun a w st => st.toPostV))

set_option maxHeartbeats 4000000 in
theorem mixed_low_c (S : Hp) (w : World) (hS : S.sub w) (x0 : Int) (x1 : Int) (res : (Int × Int)) (hm : mixed_low_m x0 x1 = some res) : Calls Try.prog 38 #[.int .i64 x0, .int .i64 x1] w (Post w S (fun (o : Value) => o) (fun (o : Value) => [imm (TR.pair TR.int TR.int) o res])) := by
 refine calls_enter 22 Try.func38 Try.ntmps38 rfl S false [(0, .int .i64 x0), (1, .int .i64 x1)] [] rfl ⟨rfl, ⟨rfl, trivial⟩⟩ hS trivial ?_
 unfold mixed_low_m at hm
 refine GL.seq ?_
 refine GL.region ?_
 refine RL.alloc (t := (TR.pair TR.int TR.int)) (z := ((0 : Int), (0 : Int))) Try_lo26 (fun S => ⟨[.int .i64 0], _, rfl, rfl, rfl⟩) rfl rfl rfl ?_
 intro v4
 refine RL.finG ?_
 refine GL.seq ?_
 refine GL.seq ?_
 refine GL.region ?_
 refine RL.mv rfl rfl rfl ?_
 refine RL.binI (v := .bool (decide (x1 < (0 : Int)))) rfl rfl rfl rfl rfl ?_
 refine RL.finG ?_
 obtain ⟨y8, K9, h10, h11, h12, h13, h14⟩ := bindR_K hm
 refine GL.join (ι := Int × Int) (fun (p : Int × Int) => [(0, .int .i64 p.1), (1, .int .i64 p.2), (4, v4)]) (fun (p : Int × Int) => [obox 26 (TR.pair TR.int TR.int) v4 ((0 : Int), (0 : Int))]) (fun (p : Int × Int) => K9 (.nx (p.1, p.2))) ?_ ?_
 ·skip
  refine GL.cond rfl (fun b15 => ?_) (fun b15 => ?_)
  ·replace h10 := ite_t b15 h10
   refine GL.region ?_
   refine RL.mv rfl rfl rfl ?_
   refine RL.negI rfl rfl rfl ?_
   refine RL.mv rfl rfl rfl ?_
   refine RL.negI rfl rfl rfl ?_
   refine RL.asg rfl rfl rfl ?_
   refine RL.asg rfl rfl rfl ?_
   refine RL.finG ?_
   cases h10
   exact fun a w st => mid_intro (wsub 0 x0, wsub 0 x1) h11 (St.cut [0] ⟨rfl, rfl, rfl, trivial⟩ (by decide) rfl st)
  replace h10 := ite_f b15 h10
  refine GL.skip ?_
  cases h10
  exact fun a w st => mid_intro (x0, x1) h11 (St.cut [0] ⟨rfl, rfl, rfl, trivial⟩ (by decide) rfl st)
 rintro ⟨x6, x7⟩ h16
 have h17 := h12 _ h16
 try dsimp only at h17
 refine GL.weak (env' := [(0, .int .i64 x6), (1, .int .i64 x7), (4, v4)]) (L' := [obox 26 (TR.pair TR.int TR.int) v4 ((0 : Int), (0 : Int))]) (fun _ _ st => st) ?_
 refine GL.seq ?_
 refine GL.region ?_
 refine RL.mv rfl rfl rfl ?_
 refine RL.mv rfl rfl rfl ?_
 obtain ⟨y20, e21, h17⟩ := bind_some h17
 refine RL.callV (v := .int .i64 y20) (vs := [.int .i64 x6, .int .i64 x7]) Try_fit47 rfl (Or.inl rfl) rfl rfl rfl rfl (fun U w hU hW hL => mixed_gcd_c U w hU x6 x7 _ e21) ?_
 refine RL.asg rfl rfl rfl ?_
 refine RL.finG ?_
 refine GL.seq ?_
 refine GL.regionH 7 rfl rfl (by kernel_rfl) ?_
 simp only [List.take_succ_cons, List.take_zero, List.drop_succ_cons, List.drop_zero]
 refine RL.mv rfl rfl rfl ?_
 refine RL.mv rfl rfl rfl ?_
 obtain ⟨y27, e28, h17⟩ := bind_some h17
 replace e28 := chk_some e28
 refine RL.quo rfl rfl rfl rfl e28 ?_
 refine RL.mv rfl rfl rfl ?_
 refine RL.mv rfl rfl rfl ?_
 obtain ⟨y29, e30, h17⟩ := bind_some h17
 replace e30 := chk_some e30
 refine RL.quo rfl rfl rfl rfl e30 ?_
 refine RL.bld (t := (TR.pair TR.int TR.int)) (d0 := ((IntKind.wrap .i64 (Int.tdiv x6 y20), IntKind.wrap .i64 (Int.tdiv x7 y20)) : (Int × Int))) (pv := [(0, .int .i64 (IntKind.wrap .i64 (Int.tdiv x6 y20))), (1, .int .i64 (IntKind.wrap .i64 (Int.tdiv x7 y20)))]) rfl Try_bld26 rfl rfl rfl ⟨⟨_, _, TR.int, IntKind.wrap .i64 (Int.tdiv x6 y20), rfl, rfl, VR.int⟩, ⟨⟨_, _, TR.int, IntKind.wrap .i64 (Int.tdiv x7 y20), rfl, rfl, VR.int⟩, trivial⟩⟩ (fun S f hi => by
   obtain ⟨c0, e0, r0⟩ := cells_vrep (t := TR.int) (u := .int .i64 (IntKind.wrap .i64 (Int.tdiv x6 y20))) (e := IntKind.wrap .i64 (Int.tdiv x6 y20)) (VR.int S f hi)
   obtain ⟨c1, e1, r1⟩ := cells_vrep (t := TR.int) (u := .int .i64 (IntKind.wrap .i64 (Int.tdiv x7 y20))) (e := IntKind.wrap .i64 (Int.tdiv x7 y20)) (VR.int S f hi)
   show TR.rep (TR.pair TR.int TR.int) S (List.flatten [(.int .i64 (IntKind.wrap .i64 (Int.tdiv x6 y20)) : Value).cells.toList, (.int .i64 (IntKind.wrap .i64 (Int.tdiv x7 y20)) : Value).cells.toList]) _
   simp only [e0, e1,  List.flatten_cons, List.flatten_nil, List.append_nil]
   exact ⟨_, _, rfl, r0, r1⟩) ?_
 intro v31
 refine RL.finH ?_
 refine RL.stP (off := 0) (e' := ((IntKind.wrap .i64 (Int.tdiv x6 y20), IntKind.wrap .i64 (Int.tdiv x7 y20)) : (Int × Int))) (d1 := ((IntKind.wrap .i64 (Int.tdiv x6 y20), IntKind.wrap .i64 (Int.tdiv x7 y20)) : (Int × Int))) (r := (TR.pair TR.int TR.int)) 0 Try_ln26 rfl rfl (Or.inr ⟨rfl, rfl⟩) rfl (VR.item 1 rfl) rfl Upd.self ?_
 refine RL.reL (L' := [obox 26 (TR.pair TR.int TR.int) v4 ((IntKind.wrap .i64 (Int.tdiv x6 y20), IntKind.wrap .i64 (Int.tdiv x7 y20)) : (Int × Int)), imm (TR.pair TR.int TR.int) v31 ((IntKind.wrap .i64 (Int.tdiv x6 y20), IntKind.wrap .i64 (Int.tdiv x7 y20)) : (Int × Int))]) rfl ?_
 refine RL.finG ?_
 have h17 := Option.some.inj h17
 subst h17
 exact GL.ret (Gx.retX [.cell 4 26] rfl (fun a w st => by
   have st0 := st
   obtain ⟨u33, hu33, st⟩ := st.cellRes (p := 4) (T := 26) 0 Try_ln26 rfl rfl rfl
   exact ⟨[u33], ⟨hu33, trivial⟩, (st.pick [2] (by decide) rfl).toPost u33⟩))

set_option maxHeartbeats 4000000 in
theorem mixed_Solve_c (S : Hp) (w : World) (hS : S.sub w) (v0 : Value) (x0 : (List (List Int))) (k0 : ((TR.sl (TR.sl TR.int))).vrep S v0 x0) (res : (Int × Int) × (Int × Int) × Int) (hm : mixed_Solve_m x0 = some res) : Calls Try.prog 16 #[v0] w (Post w S (fun (o : Value × Value) => .tuple #[o.1, o.2, .int .i64 res.2.2]) (fun (o : Value × Value) => [imm (TR.pair TR.int TR.int) o.1 res.1, imm (TR.pair TR.int TR.int) o.2 res.2.1])) := by
 refine calls_enter 96 Try.func16 Try.ntmps16 rfl S false [(0, v0)] [imm (TR.sl (TR.sl TR.int)) v0 x0] rfl ⟨rfl, trivial⟩ hS ⟨k0, trivial⟩ ?_
 unfold mixed_Solve_m at hm
 refine GL.seq ?_
 refine GL.region ?_
 refine RL.box (t := (TR.sl (TR.sl TR.int))) (e := x0) rfl rfl rfl rfl (VR.item 0 rfl) ?_
 intro v5
 refine RL.alloc (t := (TR.pair TR.int TR.int)) (z := ((0 : Int), (0 : Int))) Try_lo26 (fun S => ⟨[.int .i64 0], _, rfl, rfl, rfl⟩) rfl rfl rfl ?_
 intro v6
 refine RL.reL (L' := [imm (TR.sl (TR.sl TR.int)) v0 x0, obox 22 (TR.sl (TR.sl TR.int)) v5 x0, obox 26 (TR.pair TR.int TR.int) v6 ((0 : Int), (0 : Int))]) rfl ?_
 refine RL.alloc (t := (TR.pair TR.int TR.int)) (z := ((0 : Int), (0 : Int))) Try_lo26 (fun S => ⟨[.int .i64 0], _, rfl, rfl, rfl⟩) rfl rfl rfl ?_
 intro v7
 refine RL.asg rfl rfl rfl ?_
 refine RL.finG ?_
 refine GL.seq ?_
 refine GL.seq ?_
 refine GL.region ?_
 refine RL.ldP (off := 0) (r := (TR.sl (TR.sl TR.int))) (e' := x0) 1 Try_ln22 rfl rfl (Or.inr ⟨rfl, rfl⟩) rfl PtOf.obox Part.self ?_
 intro v11
 refine RL.reL (L' := [imm (TR.sl (TR.sl TR.int)) v0 x0, obox 22 (TR.sl (TR.sl TR.int)) v5 x0, obox 26 (TR.pair TR.int TR.int) v6 ((0 : Int), (0 : Int)), obox 26 (TR.pair TR.int TR.int) v7 ((0 : Int), (0 : Int)), imm (TR.sl (TR.sl TR.int)) v11 x0]) rfl ?_
 obtain ⟨y12, e13, hm⟩ := bind_some hm
 refine RL.callC (v := .int .i64 y12) (vs := [v11]) Try_fit35 rfl rfl rfl rfl (fun U w hU hW hL => saddle_Check_c U w hU _ _ (hL 4 _ _ rfl Seen.imm) _ e13) ?_
 refine RL.asg rfl rfl rfl ?_
 refine RL.finG ?_
 refine GL.seq ?_
 refine GL.region ?_
 refine RL.mv rfl rfl rfl ?_
 refine RL.binI (v := .bool (y12 != (0 : Int))) rfl rfl rfl rfl rfl ?_
 refine RL.finG ?_
 refine GL.cond rfl (fun b14 => ?_) (fun b14 => ?_)
 ·replace hm := ite_t b14 hm
  refine GL.seq ?_
  refine GL.region ?_
  refine RL.bld (t := (TR.pair TR.int TR.int)) (d0 := (((0 : Int), (0 : Int)) : (Int × Int))) (pv := []) rfl Try_bld26 rfl rfl rfl trivial (fun S f hi => by
    show TR.rep (TR.pair TR.int TR.int) S (List.flatten [[.int .i64 0], [.int .i64 0]]) _
    simp only [ List.flatten_cons, List.flatten_nil, List.append_nil]
    exact ⟨_, _, rfl, rfl, rfl⟩) ?_
  intro v17
  refine RL.bld (t := (TR.pair TR.int TR.int)) (d0 := (((0 : Int), (0 : Int)) : (Int × Int))) (pv := []) rfl Try_bld26 rfl rfl rfl trivial (fun S f hi => by
    show TR.rep (TR.pair TR.int TR.int) S (List.flatten [[.int .i64 0], [.int .i64 0]]) _
    simp only [ List.flatten_cons, List.flatten_nil, List.append_nil]
    exact ⟨_, _, rfl, rfl, rfl⟩) ?_
  intro v18
  refine RL.reL (L' := [imm (TR.sl (TR.sl TR.int)) v0 x0, obox 22 (TR.sl (TR.sl TR.int)) v5 x0, obox 26 (TR.pair TR.int TR.int) v6 ((0 : Int), (0 : Int)), obox 26 (TR.pair TR.int TR.int) v7 ((0 : Int), (0 : Int)), imm (TR.sl (TR.sl TR.int)) v11 x0, imm (TR.pair TR.int TR.int) v17 (((0 : Int), (0 : Int)) : (Int × Int)), imm (TR.pair TR.int TR.int) v18 (((0 : Int), (0 : Int)) : (Int × Int))]) rfl ?_
  refine RL.mv rfl rfl rfl ?_
  refine RL.stP (off := 0) (e' := (((0 : Int), (0 : Int)) : (Int × Int))) (d1 := (((0 : Int), (0 : Int)) : (Int × Int))) (r := (TR.pair TR.int TR.int)) 2 Try_ln26 rfl rfl (Or.inr ⟨rfl, rfl⟩) rfl (VR.item 5 rfl) rfl Upd.self ?_
  refine RL.stP (off := 0) (e' := (((0 : Int), (0 : Int)) : (Int × Int))) (d1 := (((0 : Int), (0 : Int)) : (Int × Int))) (r := (TR.pair TR.int TR.int)) 3 Try_ln26 rfl rfl (Or.inr ⟨rfl, rfl⟩) rfl (VR.item 6 rfl) rfl Upd.self ?_
  refine RL.reL (L' := [imm (TR.sl (TR.sl TR.int)) v0 x0, obox 22 (TR.sl (TR.sl TR.int)) v5 x0, obox 26 (TR.pair TR.int TR.int) v6 (((0 : Int), (0 : Int)) : (Int × Int)), obox 26 (TR.pair TR.int TR.int) v7 (((0 : Int), (0 : Int)) : (Int × Int)), imm (TR.sl (TR.sl TR.int)) v11 x0, imm (TR.pair TR.int TR.int) v17 (((0 : Int), (0 : Int)) : (Int × Int)), imm (TR.pair TR.int TR.int) v18 (((0 : Int), (0 : Int)) : (Int × Int))]) rfl ?_
  refine RL.asg rfl rfl rfl ?_
  refine RL.finG ?_
  have hm := Option.some.inj hm
  subst hm
  exact GL.ret (Gx.retX [.cell 2 26, .cell 3 26, .tmp 4] rfl (fun a w st => by
    have st0 := st
    obtain ⟨u19, hu19, st⟩ := st.cellRes (p := 2) (T := 26) 2 Try_ln26 rfl rfl rfl
    obtain ⟨u20, hu20, st⟩ := st.cellRes (p := 3) (T := 26) 3 Try_ln26 rfl rfl rfl
    exact ⟨[u19, u20, .int .i64 y12], ⟨hu19, ⟨hu20, ⟨(ResTmp st0.env rfl), trivial⟩⟩⟩, (st.pick [7, 8] (by decide) rfl).toPost (u19, u20)⟩))
 replace hm := ite_f b14 hm
 refine GL.skip ?_
 refine GL.seq ?_
 refine GL.seq ?_
 refine GL.region ?_
 refine RL.ldP (off := 0) (r := (TR.sl (TR.sl TR.int))) (e' := x0) 1 Try_ln22 rfl rfl (Or.inr ⟨rfl, rfl⟩) rfl PtOf.obox Part.self ?_
 intro v22
 refine RL.lenS 5 Try.underlying22 rfl rfl rfl rfl SlOf.imm ?_
 refine RL.binI (v := .bool (((x0).length : Int) != (2 : Int))) rfl rfl rfl rfl rfl ?_
 refine RL.finG ?_
 refine GL.cond rfl (fun b23 => ?_) (fun b23 => ?_)
 ·replace hm := ite_t b23 hm
  refine GL.seq ?_
  refine GL.region ?_
  refine RL.bld (t := (TR.pair TR.int TR.int)) (d0 := (((0 : Int), (0 : Int)) : (Int × Int))) (pv := []) rfl Try_bld26 rfl rfl rfl trivial (fun S f hi => by
    show TR.rep (TR.pair TR.int TR.int) S (List.flatten [[.int .i64 0], [.int .i64 0]]) _
    simp only [ List.flatten_cons, List.flatten_nil, List.append_nil]
    exact ⟨_, _, rfl, rfl, rfl⟩) ?_
  intro v26
  refine RL.reL (L' := [imm (TR.sl (TR.sl TR.int)) v0 x0, obox 22 (TR.sl (TR.sl TR.int)) v5 x0, obox 26 (TR.pair TR.int TR.int) v6 ((0 : Int), (0 : Int)), obox 26 (TR.pair TR.int TR.int) v7 ((0 : Int), (0 : Int)), imm (TR.sl (TR.sl TR.int)) v11 x0, imm (TR.sl (TR.sl TR.int)) v22 x0, imm (TR.pair TR.int TR.int) v26 (((0 : Int), (0 : Int)) : (Int × Int))]) rfl ?_
  refine RL.bld (t := (TR.pair TR.int TR.int)) (d0 := (((0 : Int), (0 : Int)) : (Int × Int))) (pv := []) rfl Try_bld26 rfl rfl rfl trivial (fun S f hi => by
    show TR.rep (TR.pair TR.int TR.int) S (List.flatten [[.int .i64 0], [.int .i64 0]]) _
    simp only [ List.flatten_cons, List.flatten_nil, List.append_nil]
    exact ⟨_, _, rfl, rfl, rfl⟩) ?_
  intro v27
  refine RL.stP (off := 0) (e' := (((0 : Int), (0 : Int)) : (Int × Int))) (d1 := (((0 : Int), (0 : Int)) : (Int × Int))) (r := (TR.pair TR.int TR.int)) 2 Try_ln26 rfl rfl (Or.inr ⟨rfl, rfl⟩) rfl (VR.item 6 rfl) rfl Upd.self ?_
  refine RL.reL (L' := [imm (TR.sl (TR.sl TR.int)) v0 x0, obox 22 (TR.sl (TR.sl TR.int)) v5 x0, obox 26 (TR.pair TR.int TR.int) v6 (((0 : Int), (0 : Int)) : (Int × Int)), obox 26 (TR.pair TR.int TR.int) v7 ((0 : Int), (0 : Int)), imm (TR.sl (TR.sl TR.int)) v11 x0, imm (TR.sl (TR.sl TR.int)) v22 x0, imm (TR.pair TR.int TR.int) v26 (((0 : Int), (0 : Int)) : (Int × Int)), imm (TR.pair TR.int TR.int) v27 (((0 : Int), (0 : Int)) : (Int × Int))]) rfl ?_
  refine RL.stP (off := 0) (e' := (((0 : Int), (0 : Int)) : (Int × Int))) (d1 := (((0 : Int), (0 : Int)) : (Int × Int))) (r := (TR.pair TR.int TR.int)) 3 Try_ln26 rfl rfl (Or.inr ⟨rfl, rfl⟩) rfl (VR.item 7 rfl) rfl Upd.self ?_
  refine RL.asg rfl rfl rfl ?_
  refine RL.finG ?_
  have hm := Option.some.inj hm
  subst hm
  exact GL.ret (Gx.retX [.cell 2 26, .cell 3 26, .tmp 4] rfl (fun a w st => by
    have st0 := st
    obtain ⟨u28, hu28, st⟩ := st.cellRes (p := 2) (T := 26) 2 Try_ln26 rfl rfl rfl
    obtain ⟨u29, hu29, st⟩ := st.cellRes (p := 3) (T := 26) 3 Try_ln26 rfl rfl rfl
    exact ⟨[u28, u29, .int .i64 (3 : Int)], ⟨hu28, ⟨hu29, ⟨(ResTmp st0.env rfl), trivial⟩⟩⟩, (st.pick [8, 9] (by decide) rfl).toPost (u28, u29)⟩))
 replace hm := ite_f b23 hm
 refine GL.skip ?_
 refine GL.seq ?_
 refine GL.region ?_
 refine RL.alloc (t := TR.int) (z := (0 : Int)) Try_lo3 (fun S => rfl) rfl rfl rfl ?_
 intro v32
 refine RL.reL (L' := [imm (TR.sl (TR.sl TR.int)) v0 x0, obox 22 (TR.sl (TR.sl TR.int)) v5 x0, obox 26 (TR.pair TR.int TR.int) v6 ((0 : Int), (0 : Int)), obox 26 (TR.pair TR.int TR.int) v7 ((0 : Int), (0 : Int)), imm (TR.sl (TR.sl TR.int)) v11 x0, imm (TR.sl (TR.sl TR.int)) v22 x0, obox 3 TR.int v32 (0 : Int)]) rfl ?_
 refine RL.alloc (t := TR.int) (z := (0 : Int)) Try_lo3 (fun S => rfl) rfl rfl rfl ?_
 intro v33
 refine RL.stP (off := 0) (e' := (0 : Int)) (d1 := (0 : Int)) (r := TR.int) 6 Try_ln3 rfl rfl (Or.inr ⟨rfl, rfl⟩) rfl VR.int rfl Upd.self ?_
 refine RL.reL (L' := [imm (TR.sl (TR.sl TR.int)) v0 x0, obox 22 (TR.sl (TR.sl TR.int)) v5 x0, obox 26 (TR.pair TR.int TR.int) v6 ((0 : Int), (0 : Int)), obox 26 (TR.pair TR.int TR.int) v7 ((0 : Int), (0 : Int)), imm (TR.sl (TR.sl TR.int)) v11 x0, imm (TR.sl (TR.sl TR.int)) v22 x0, obox 3 TR.int v32 (0 : Int), obox 3 TR.int v33 (0 : Int)]) rfl ?_
 refine RL.stP (off := 0) (e' := (1 : Int)) (d1 := (1 : Int)) (r := TR.int) 7 Try_ln3 rfl rfl (Or.inr ⟨rfl, rfl⟩) rfl VR.int rfl Upd.self ?_
 refine RL.finG ?_
 refine GL.seq ?_
 refine GL.region ?_
 refine RL.mkF (vs := [v5, v33, v32]) rfl rfl rfl ?_
 refine RL.asg rfl rfl rfl ?_
 refine RL.finG ?_
 refine GL.seq ?_
 refine GL.region ?_
 refine RL.mv rfl rfl rfl ?_
 refine RL.weak (fun a w st => st.freezeB 1 rfl) ?_
 obtain ⟨y36, e37, hm⟩ := bind_some hm
 refine RL.callK (vs := [.int .i64 (1 : Int), .int .i64 (1 : Int)]) (V := fun (o : Unit) => .tuple #[]) (LR := fun (o : Unit) => [obox 3 TR.int v33 y36.1, obox 3 TR.int v32 y36.2]) (Ls := [obox 3 TR.int v33 (1 : Int), obox 3 TR.int v32 (0 : Int)]) [7, 6] (by decide) Try_fit36 rfl rfl rfl rfl rfl rfl (fun S f X w hO hB hW hI hL => mixed_Solve_1_c _ S X f w _ _ _ _ hO hB hI (1 : Int) (1 : Int) _ _ (hL 1 _ _ rfl Sure.imm) _ e37) ?_
 intro _
 refine RL.reL (L' := [imm (TR.sl (TR.sl TR.int)) v0 x0, imm (TR.ptr (TR.sl (TR.sl TR.int))) v5 x0, obox 26 (TR.pair TR.int TR.int) v6 ((0 : Int), (0 : Int)), obox 26 (TR.pair TR.int TR.int) v7 ((0 : Int), (0 : Int)), imm (TR.sl (TR.sl TR.int)) v11 x0, imm (TR.sl (TR.sl TR.int)) v22 x0, gone, gone, obox 3 TR.int v33 y36.1, obox 3 TR.int v32 y36.2]) rfl ?_
 refine RL.finG ?_
 refine GL.seq ?_
 refine GL.seq ?_
 refine GL.region ?_
 refine RL.ldP (off := 0) (r := (TR.sl (TR.sl TR.int))) (e' := x0) 1 Try_ln22 rfl rfl (Or.inr ⟨rfl, rfl⟩) rfl PtOf.imm Part.self ?_
 intro v42
 obtain ⟨y43, e44, hm⟩ := bind_some hm
 refine RL.idxS (sz := 1) 10 Try.underlying22 Try_ln32 rfl rfl rfl rfl rfl SlOf.imm (idx_some e44).1 (idx_some e44).2.1 ?_
 refine RL.ldS (i := ((0 : Int)).toNat) (r := (TR.sl TR.int)) (e' := y43) 10 Try_ln32 rfl rfl rfl rfl SlOf.imm (idx_some e44).2.2 Part.self ?_
 intro v45
 refine RL.reL (L' := [imm (TR.sl (TR.sl TR.int)) v0 x0, imm (TR.ptr (TR.sl (TR.sl TR.int))) v5 x0, obox 26 (TR.pair TR.int TR.int) v6 ((0 : Int), (0 : Int)), obox 26 (TR.pair TR.int TR.int) v7 ((0 : Int), (0 : Int)), imm (TR.sl (TR.sl TR.int)) v11 x0, imm (TR.sl (TR.sl TR.int)) v22 x0, gone, gone, obox 3 TR.int v33 y36.1, obox 3 TR.int v32 y36.2, imm (TR.sl (TR.sl TR.int)) v42 x0, imm (TR.sl TR.int) v45 y43]) rfl ?_
 refine RL.lenS 11 Try.underlying32 rfl rfl rfl rfl SlOf.imm ?_
 refine RL.mv rfl rfl rfl ?_
 refine RL.finG ?_
 refine GL.open_ 11 rfl (fun S h => len_imm S h) (fun n560 => ?_)
 obtain ⟨y561, K562, h563, h564, h565, h566, h567⟩ := bindR_K hm
 refine GL.join (ι := Int × Int) (fun (p : Int × Int) => [(1, v5), (2, v6), (3, v7), (6, v32), (7, v33)]) (fun (p : Int × Int) => [imm (TR.ptr (TR.sl (TR.sl TR.int))) v5 x0, obox 26 (TR.pair TR.int TR.int) v6 ((0 : Int), (0 : Int)), obox 26 (TR.pair TR.int TR.int) v7 ((0 : Int), (0 : Int)), obox 3 TR.int v32 p.1, obox 3 TR.int v33 p.2]) (fun (p : Int × Int) => K562 (.nx (p.1, p.2))) ?_ ?_
 ·refine GL.block ?_
  refine GL.loop (ι := Nat × (List Int) × Int × Int) (fun (p : Nat × (List Int) × Int × Int) => [(1, v5), (2, v6), (3, v7), (6, v32), (7, v33), (8, .func (.func 36) #[] #[v5, v33, v32]), (31, .int .i64 ((y43).length : Int)), (32, .int .i64 (p.1 : Int))]) (fun (p : Nat × (List Int) × Int × Int) => [imm (TR.ptr (TR.sl (TR.sl TR.int))) v5 x0, obox 26 (TR.pair TR.int TR.int) v6 ((0 : Int), (0 : Int)), obox 26 (TR.pair TR.int TR.int) v7 ((0 : Int), (0 : Int)), obox 3 TR.int v32 p.2.2.1, obox 3 TR.int v33 p.2.2.2]) (fun (p : Nat × (List Int) × Int × Int) => p.1 + p.2.1.length = (y43).length ∧ List.drop p.1 y43 = p.2.1 ∧ rangeL (mixed_Solve_b1 x0) p.2.1 p.1 (p.2.2.1, p.2.2.2) = some y561) (fun (p : Nat × (List Int) × Int × Int) => p.2.1.length) (0, y43, y36.2, y36.1) ⟨by simp, by simp, h563⟩ (fun a w st => St.cut [1, 2, 3, 9, 8] ⟨rfl, rfl, rfl, rfl, rfl, rfl, rfl, rfl, trivial⟩ (by decide) rfl st) ?_
  rintro ⟨i568, r569, l302, l303⟩ ⟨h574, h575, h573⟩
  try dsimp only at h574 h575 h573
  refine GL.weak (env' := [(1, v5), (2, v6), (3, v7), (6, v32), (7, v33), (8, .func (.func 36) #[] #[v5, v33, v32]), (31, .int .i64 ((y43).length : Int)), (32, .int .i64 (i568 : Int))]) (L' := [imm (TR.ptr (TR.sl (TR.sl TR.int))) v5 x0, obox 26 (TR.pair TR.int TR.int) v6 ((0 : Int), (0 : Int)), obox 26 (TR.pair TR.int TR.int) v7 ((0 : Int), (0 : Int)), obox 3 TR.int v32 l302, obox 3 TR.int v33 l303]) (fun _ _ st => st) ?_
  refine GL.seq ?_
  refine GL.region ?_
  refine RL.binI (v := .bool (decide ((i568 : Int) < ((y43).length : Int)))) rfl rfl rfl rfl rfl ?_
  refine RL.finG ?_
  refine GL.seq ?_
  refine GL.cond rfl (fun b576 => ?_) (fun b576 => ?_)
  ·have h577 : i568 < (y43).length := by have := of_decide_eq_true b576; omega
   obtain ⟨y578, r580, hr, e579, h581⟩ := drop_cons h575 rfl h577
   subst hr
   obtain ⟨z570, h571, h572⟩ := rangeL_some h573
   unfold mixed_Solve_b1 at h571
   try dsimp only at h571
   refine GL.skip ?_
   refine GL.seq ?_
   refine GL.block ?_
   refine GL.seq ?_
   refine GL.region ?_
   refine RL.mv rfl rfl rfl ?_
   refine RL.asg rfl rfl rfl ?_
   refine RL.finG ?_
   refine GL.seq ?_
   refine GL.region ?_
   refine RL.mv rfl rfl rfl ?_
   refine RL.mv rfl rfl rfl ?_
   refine RL.finG ?_
   obtain ⟨y739, e740, h571⟩ := bind_some h571
   replace e740 := chk_some e740
   obtain ⟨y741, K742, h743, h744, h745, h746, h747⟩ := bindF_K h571
   refine GL.join (ι := Int × Int) (fun (p : Int × Int) => [(1, v5), (2, v6), (3, v7), (6, v32), (7, v33), (8, .func (.func 36) #[] #[v5, v33, v32]), (31, .int .i64 ((y43).length : Int)), (32, .int .i64 (i568 : Int))]) (fun (p : Int × Int) => [imm (TR.ptr (TR.sl (TR.sl TR.int))) v5 x0, obox 26 (TR.pair TR.int TR.int) v6 ((0 : Int), (0 : Int)), obox 26 (TR.pair TR.int TR.int) v7 ((0 : Int), (0 : Int)), obox 3 TR.int v32 p.1, obox 3 TR.int v33 p.2]) (fun (p : Int × Int) => K742 (.nx (p.1, p.2))) ?_ ?_
   ·refine GL.block ?_
    refine GL.loop (ι := Nat × Nat × Int × Int) (fun (p : Nat × Nat × Int × Int) => [(1, v5), (2, v6), (3, v7), (6, v32), (7, v33), (8, .func (.func 36) #[] #[v5, v33, v32]), (9, .int .i64 (i568 : Int)), (31, .int .i64 ((y43).length : Int)), (32, .int .i64 (i568 : Int)), (35, .int .i64 (i568 : Int)), (36, .int .i64 (p.1 : Int))]) (fun (p : Nat × Nat × Int × Int) => [imm (TR.ptr (TR.sl (TR.sl TR.int))) v5 x0, obox 26 (TR.pair TR.int TR.int) v6 ((0 : Int), (0 : Int)), obox 26 (TR.pair TR.int TR.int) v7 ((0 : Int), (0 : Int)), obox 3 TR.int v32 p.2.2.1, obox 3 TR.int v33 p.2.2.2]) (fun (p : Nat × Nat × Int × Int) => p.1 + p.2.1 = ((i568 : Int)).toNat ∧ rangeN (mixed_Solve_b2 x0 i568) p.2.1 p.1 (p.2.2.1, p.2.2.2) = some y741) (fun (p : Nat × Nat × Int × Int) => p.2.1) (0, ((i568 : Int)).toNat, l302, l303) ⟨by simp, h743⟩ (fun a w st => St.cut [0, 1, 2, 3, 4] ⟨rfl, rfl, rfl, rfl, rfl, rfl, rfl, rfl, rfl, rfl, rfl, trivial⟩ (by decide) rfl st) ?_
    rintro ⟨i748, r749, l659, l660⟩ ⟨h754, h753⟩
    try dsimp only at h754 h753
    refine GL.weak (env' := [(1, v5), (2, v6), (3, v7), (6, v32), (7, v33), (8, .func (.func 36) #[] #[v5, v33, v32]), (9, .int .i64 (i568 : Int)), (31, .int .i64 ((y43).length : Int)), (32, .int .i64 (i568 : Int)), (35, .int .i64 (i568 : Int)), (36, .int .i64 (i748 : Int))]) (L' := [imm (TR.ptr (TR.sl (TR.sl TR.int))) v5 x0, obox 26 (TR.pair TR.int TR.int) v6 ((0 : Int), (0 : Int)), obox 26 (TR.pair TR.int TR.int) v7 ((0 : Int), (0 : Int)), obox 3 TR.int v32 l659, obox 3 TR.int v33 l660]) (fun _ _ st => st) ?_
    refine GL.seq ?_
    refine GL.region ?_
    refine RL.binI (v := .bool (decide ((i748 : Int) < (i568 : Int)))) rfl rfl rfl rfl rfl ?_
    refine RL.finG ?_
    refine GL.seq ?_
    refine GL.cond rfl (fun b756 => ?_) (fun b756 => ?_)
    ·have h757 : i748 < ((i568 : Int)).toNat := by have := of_decide_eq_true b756; omega
     obtain ⟨r758, hr⟩ : ∃ m, r749 = m + 1 := ⟨r749 - 1, by omega⟩
     subst hr
     obtain ⟨z750, h751, h752⟩ := rangeN_some h753
     unfold mixed_Solve_b2 at h751
     try dsimp only at h751
     refine GL.skip ?_
     refine GL.seq ?_
     refine GL.block ?_
     refine GL.seq ?_
     refine GL.region ?_
     refine RL.mv rfl rfl rfl ?_
     refine RL.asg rfl rfl rfl ?_
     refine RL.finG ?_
     refine GL.seq ?_
     refine GL.regionQ rfl rfl (by kernel_rfl) ?_
     refine RL.ldP (off := 0) (r := (TR.sl (TR.sl TR.int))) (e' := x0) 0 Try_ln22 rfl rfl (Or.inr ⟨rfl, rfl⟩) rfl PtOf.imm Part.self ?_
     intro v771
     obtain ⟨y772, e773, h751⟩ := bind_some h751
     refine RL.idxS (sz := 1) 5 Try.underlying22 Try_ln32 rfl rfl rfl rfl rfl SlOf.imm (idx_some e773).1 (idx_some e773).2.1 ?_
     refine RL.ldS (i := ((1 : Int)).toNat) (r := (TR.sl TR.int)) (e' := y772) 5 Try_ln32 rfl rfl rfl rfl SlOf.imm (idx_some e773).2.2 Part.self ?_
     intro v774
     refine RL.reL (L' := [imm (TR.ptr (TR.sl (TR.sl TR.int))) v5 x0, obox 26 (TR.pair TR.int TR.int) v6 ((0 : Int), (0 : Int)), obox 26 (TR.pair TR.int TR.int) v7 ((0 : Int), (0 : Int)), obox 3 TR.int v32 l659, obox 3 TR.int v33 l660, imm (TR.sl (TR.sl TR.int)) v771 x0, imm (TR.sl TR.int) v774 y772]) rfl ?_
     refine RL.mv rfl rfl rfl ?_
     obtain ⟨y775, e776, h751⟩ := bind_some h751
     refine RL.idxS (sz := 1) 6 Try.underlying32 Try_ln3 rfl rfl rfl rfl rfl SlOf.imm (idx_some e776).1 (idx_some e776).2.1 ?_
     refine RL.ldSx (i := i748) (e' := y775) 6 Ex.ik Try_ln3 rfl rfl rfl rfl SlOf.imm (idx_some e776).2.2 Part.self ?_
     refine RL.ldP (off := 0) (r := (TR.sl (TR.sl TR.int))) (e' := x0) 0 Try_ln22 rfl rfl (Or.inr ⟨rfl, rfl⟩) rfl PtOf.imm Part.self ?_
     intro v777
     obtain ⟨y778, e779, h751⟩ := bind_some h751
     refine RL.idxS (sz := 1) 7 Try.underlying22 Try_ln32 rfl rfl rfl rfl rfl SlOf.imm (idx_some e779).1 (idx_some e779).2.1 ?_
     refine RL.ldS (i := ((1 : Int)).toNat) (r := (TR.sl TR.int)) (e' := y778) 7 Try_ln32 rfl rfl rfl rfl SlOf.imm (idx_some e779).2.2 Part.self ?_
     intro v780
     refine RL.reL (L' := [imm (TR.ptr (TR.sl (TR.sl TR.int))) v5 x0, obox 26 (TR.pair TR.int TR.int) v6 ((0 : Int), (0 : Int)), obox 26 (TR.pair TR.int TR.int) v7 ((0 : Int), (0 : Int)), obox 3 TR.int v32 l659, obox 3 TR.int v33 l660, imm (TR.sl (TR.sl TR.int)) v771 x0, imm (TR.sl TR.int) v774 y772, imm (TR.sl (TR.sl TR.int)) v777 x0, imm (TR.sl TR.int) v780 y778]) rfl ?_
     refine RL.mv rfl rfl rfl ?_
     obtain ⟨y781, e782, h751⟩ := bind_some h751
     refine RL.idxS (sz := 1) 8 Try.underlying32 Try_ln3 rfl rfl rfl rfl rfl SlOf.imm (idx_some e782).1 (idx_some e782).2.1 ?_
     refine RL.ldSx (i := i568) (e' := y781) 8 Ex.ik Try_ln3 rfl rfl rfl rfl SlOf.imm (idx_some e782).2.2 Part.self ?_
     refine RL.binI (v := .int .i64 (wsub y775 y781)) rfl rfl rfl rfl rfl ?_
     refine RL.asg rfl rfl rfl ?_
     refine RL.finQG ?_
     refine GL.seq ?_
     refine GL.regionQ rfl rfl (by kernel_rfl) ?_
     refine RL.ldP (off := 0) (r := (TR.sl (TR.sl TR.int))) (e' := x0) 0 Try_ln22 rfl rfl (Or.inr ⟨rfl, rfl⟩) rfl PtOf.imm Part.self ?_
     intro v807
     obtain ⟨y808, e809, h751⟩ := bind_some h751
     refine RL.idxS (sz := 1) 9 Try.underlying22 Try_ln32 rfl rfl rfl rfl rfl SlOf.imm (idx_some e809).1 (idx_some e809).2.1 ?_
     refine RL.ldS (i := ((0 : Int)).toNat) (r := (TR.sl TR.int)) (e' := y808) 9 Try_ln32 rfl rfl rfl rfl SlOf.imm (idx_some e809).2.2 Part.self ?_
     intro v810
     refine RL.reL (L' := [imm (TR.ptr (TR.sl (TR.sl TR.int))) v5 x0, obox 26 (TR.pair TR.int TR.int) v6 ((0 : Int), (0 : Int)), obox 26 (TR.pair TR.int TR.int) v7 ((0 : Int), (0 : Int)), obox 3 TR.int v32 l659, obox 3 TR.int v33 l660, imm (TR.sl (TR.sl TR.int)) v771 x0, imm (TR.sl TR.int) v774 y772, imm (TR.sl (TR.sl TR.int)) v777 x0, imm (TR.sl TR.int) v780 y778, imm (TR.sl (TR.sl TR.int)) v807 x0, imm (TR.sl TR.int) v810 y808]) rfl ?_
     refine RL.mv rfl rfl rfl ?_
     obtain ⟨y811, e812, h751⟩ := bind_some h751
     refine RL.idxS (sz := 1) 10 Try.underlying32 Try_ln3 rfl rfl rfl rfl rfl SlOf.imm (idx_some e812).1 (idx_some e812).2.1 ?_
     refine RL.ldSx (i := i568) (e' := y811) 10 Ex.ik Try_ln3 rfl rfl rfl rfl SlOf.imm (idx_some e812).2.2 Part.self ?_
     refine RL.ldP (off := 0) (r := (TR.sl (TR.sl TR.int))) (e' := x0) 0 Try_ln22 rfl rfl (Or.inr ⟨rfl, rfl⟩) rfl PtOf.imm Part.self ?_
     intro v813
     obtain ⟨y814, e815, h751⟩ := bind_some h751
     refine RL.idxS (sz := 1) 11 Try.underlying22 Try_ln32 rfl rfl rfl rfl rfl SlOf.imm (idx_some e815).1 (idx_some e815).2.1 ?_
     refine RL.ldS (i := ((1 : Int)).toNat) (r := (TR.sl TR.int)) (e' := y814) 11 Try_ln32 rfl rfl rfl rfl SlOf.imm (idx_some e815).2.2 Part.self ?_
     intro v816
     refine RL.reL (L' := [imm (TR.ptr (TR.sl (TR.sl TR.int))) v5 x0, obox 26 (TR.pair TR.int TR.int) v6 ((0 : Int), (0 : Int)), obox 26 (TR.pair TR.int TR.int) v7 ((0 : Int), (0 : Int)), obox 3 TR.int v32 l659, obox 3 TR.int v33 l660, imm (TR.sl (TR.sl TR.int)) v771 x0, imm (TR.sl TR.int) v774 y772, imm (TR.sl (TR.sl TR.int)) v777 x0, imm (TR.sl TR.int) v780 y778, imm (TR.sl (TR.sl TR.int)) v807 x0, imm (TR.sl TR.int) v810 y808, imm (TR.sl (TR.sl TR.int)) v813 x0, imm (TR.sl TR.int) v816 y814]) rfl ?_
     refine RL.mv rfl rfl rfl ?_
     obtain ⟨y817, e818, h751⟩ := bind_some h751
     refine RL.idxS (sz := 1) 12 Try.underlying32 Try_ln3 rfl rfl rfl rfl rfl SlOf.imm (idx_some e818).1 (idx_some e818).2.1 ?_
     refine RL.ldSx (i := i568) (e' := y817) 12 Ex.ik Try_ln3 rfl rfl rfl rfl SlOf.imm (idx_some e818).2.2 Part.self ?_
     refine RL.binI (v := .int .i64 (wsub y811 y817)) rfl rfl rfl rfl rfl ?_
     refine RL.ldP (off := 0) (r := (TR.sl (TR.sl TR.int))) (e' := x0) 0 Try_ln22 rfl rfl (Or.inr ⟨rfl, rfl⟩) rfl PtOf.imm Part.self ?_
     intro v819
     obtain ⟨y820, e821, h751⟩ := bind_some h751
     refine RL.idxS (sz := 1) 13 Try.underlying22 Try_ln32 rfl rfl rfl rfl rfl SlOf.imm (idx_some e821).1 (idx_some e821).2.1 ?_
     refine RL.ldS (i := ((0 : Int)).toNat) (r := (TR.sl TR.int)) (e' := y820) 13 Try_ln32 rfl rfl rfl rfl SlOf.imm (idx_some e821).2.2 Part.self ?_
     intro v822
     refine RL.reL (L' := [imm (TR.ptr (TR.sl (TR.sl TR.int))) v5 x0, obox 26 (TR.pair TR.int TR.int) v6 ((0 : Int), (0 : Int)), obox 26 (TR.pair TR.int TR.int) v7 ((0 : Int), (0 : Int)), obox 3 TR.int v32 l659, obox 3 TR.int v33 l660, imm (TR.sl (TR.sl TR.int)) v771 x0, imm (TR.sl TR.int) v774 y772, imm (TR.sl (TR.sl TR.int)) v777 x0, imm (TR.sl TR.int) v780 y778, imm (TR.sl (TR.sl TR.int)) v807 x0, imm (TR.sl TR.int) v810 y808, imm (TR.sl (TR.sl TR.int)) v813 x0, imm (TR.sl TR.int) v816 y814, imm (TR.sl (TR.sl TR.int)) v819 x0, imm (TR.sl TR.int) v822 y820]) rfl ?_
     refine RL.mv rfl rfl rfl ?_
     obtain ⟨y823, e824, h751⟩ := bind_some h751
     refine RL.idxS (sz := 1) 14 Try.underlying32 Try_ln3 rfl rfl rfl rfl rfl SlOf.imm (idx_some e824).1 (idx_some e824).2.1 ?_
     refine RL.ldSx (i := i748) (e' := y823) 14 Ex.ik Try_ln3 rfl rfl rfl rfl SlOf.imm (idx_some e824).2.2 Part.self ?_
     refine RL.binI (v := .int .i64 (wsub (wsub y811 y817) y823)) rfl rfl rfl rfl rfl ?_
     refine RL.ldP (off := 0) (r := (TR.sl (TR.sl TR.int))) (e' := x0) 0 Try_ln22 rfl rfl (Or.inr ⟨rfl, rfl⟩) rfl PtOf.imm Part.self ?_
     intro v825
     obtain ⟨y826, e827, h751⟩ := bind_some h751
     refine RL.idxS (sz := 1) 15 Try.underlying22 Try_ln32 rfl rfl rfl rfl rfl SlOf.imm (idx_some e827).1 (idx_some e827).2.1 ?_
     refine RL.ldS (i := ((1 : Int)).toNat) (r := (TR.sl TR.int)) (e' := y826) 15 Try_ln32 rfl rfl rfl rfl SlOf.imm (idx_some e827).2.2 Part.self ?_
     intro v828
     refine RL.reL (L' := [imm (TR.ptr (TR.sl (TR.sl TR.int))) v5 x0, obox 26 (TR.pair TR.int TR.int) v6 ((0 : Int), (0 : Int)), obox 26 (TR.pair TR.int TR.int) v7 ((0 : Int), (0 : Int)), obox 3 TR.int v32 l659, obox 3 TR.int v33 l660, imm (TR.sl (TR.sl TR.int)) v771 x0, imm (TR.sl TR.int) v774 y772, imm (TR.sl (TR.sl TR.int)) v777 x0, imm (TR.sl TR.int) v780 y778, imm (TR.sl (TR.sl TR.int)) v807 x0, imm (TR.sl TR.int) v810 y808, imm (TR.sl (TR.sl TR.int)) v813 x0, imm (TR.sl TR.int) v816 y814, imm (TR.sl (TR.sl TR.int)) v819 x0, imm (TR.sl TR.int) v822 y820, imm (TR.sl (TR.sl TR.int)) v825 x0, imm (TR.sl TR.int) v828 y826]) rfl ?_
     refine RL.mv rfl rfl rfl ?_
     obtain ⟨y829, e830, h751⟩ := bind_some h751
     refine RL.idxS (sz := 1) 16 Try.underlying32 Try_ln3 rfl rfl rfl rfl rfl SlOf.imm (idx_some e830).1 (idx_some e830).2.1 ?_
     refine RL.ldSx (i := i748) (e' := y829) 16 Ex.ik Try_ln3 rfl rfl rfl rfl SlOf.imm (idx_some e830).2.2 Part.self ?_
     refine RL.binI (v := .int .i64 (wadd (wsub (wsub y811 y817) y823) y829)) rfl rfl rfl rfl rfl ?_
     refine RL.asg rfl rfl rfl ?_
     refine RL.finQG ?_
     refine GL.weak (env' := [(1, v5), (2, v6), (3, v7), (6, v32), (7, v33), (8, .func (.func 36) #[] #[v5, v33, v32]), (9, .int .i64 (i568 : Int)), (11, .int .i64 (wsub y775 y781)), (12, .int .i64 (wadd (wsub (wsub y811 y817) y823) y829)), (31, .int .i64 ((y43).length : Int)), (32, .int .i64 (i568 : Int)), (35, .int .i64 (i568 : Int)), (36, .int .i64 (i748 : Int))]) (L' := [imm (TR.ptr (TR.sl (TR.sl TR.int))) v5 x0, obox 26 (TR.pair TR.int TR.int) v6 ((0 : Int), (0 : Int)), obox 26 (TR.pair TR.int TR.int) v7 ((0 : Int), (0 : Int)), obox 3 TR.int v32 l659, obox 3 TR.int v33 l660]) (fun a w st => St.cut [0, 1, 2, 3, 4] ⟨rfl, rfl, rfl, rfl, rfl, rfl, rfl, rfl, rfl, rfl, rfl, rfl, rfl, trivial⟩ (by decide) rfl st) ?_
     refine GL.seq ?_
     refine GL.region ?_
     refine RL.mv rfl rfl rfl ?_
     refine RL.binI (v := .bool ((wadd (wsub (wsub y811 y817) y823) y829) != (0 : Int))) rfl rfl rfl rfl rfl ?_
     refine RL.finG ?_
     refine GL.cond rfl (fun b831 => ?_) (fun b831 => ?_)
     ·replace h751 := ite_t b831 h751
      refine GL.region ?_
      refine RL.mv rfl rfl rfl ?_
      refine RL.mv rfl rfl rfl ?_
      refine RL.mv rfl rfl rfl ?_
      obtain ⟨y834, e835, h751⟩ := bind_some h751
      refine RL.callK (vs := [.int .i64 (wsub y775 y781), .int .i64 (wadd (wsub (wsub y811 y817) y823) y829)]) (V := fun (o : Unit) => .tuple #[]) (LR := fun (o : Unit) => [obox 3 TR.int v33 y834.1, obox 3 TR.int v32 y834.2]) (Ls := [obox 3 TR.int v33 l660, obox 3 TR.int v32 l659]) [4, 3] (by decide) Try_fit36 rfl rfl rfl rfl rfl rfl (fun S f X w hO hB hW hI hL => mixed_Solve_1_c _ S X f w _ _ _ _ hO hB hI (wsub y775 y781) (wadd (wsub (wsub y811 y817) y823) y829) _ _ (hL 0 _ _ rfl Sure.imm) _ e835) ?_
      intro _
      refine RL.reL (L' := [imm (TR.ptr (TR.sl (TR.sl TR.int))) v5 x0, obox 26 (TR.pair TR.int TR.int) v6 ((0 : Int), (0 : Int)), obox 26 (TR.pair TR.int TR.int) v7 ((0 : Int), (0 : Int)), gone, gone, obox 3 TR.int v33 y834.1, obox 3 TR.int v32 y834.2]) rfl ?_
      refine RL.finG ?_
      refine GL.nilB ?_
      refine GL.region ?_
      refine RL.binI (v := .int .i64 ((i748 + 1 : Nat) : Int)) rfl rfl rfl rfl (binI_succ i748 (by omega)) ?_
      refine RL.mv rfl rfl rfl ?_
      refine RL.fin ?_
      cases h751
      exact fun a w st => lop_intro (i748 + 1, r758, y834.2, y834.1) ⟨by show i748 + 1 + r758 = ((i568 : Int)).toNat; omega, h752⟩ (by simp) (St.cut [0, 1, 2, 6, 5] ⟨rfl, rfl, rfl, rfl, rfl, rfl, rfl, rfl, rfl, rfl, rfl, trivial⟩ (by decide) rfl st)
     replace h751 := ite_f b831 h751
     refine GL.skip ?_
     refine GL.nilB ?_
     refine GL.region ?_
     refine RL.binI (v := .int .i64 ((i748 + 1 : Nat) : Int)) rfl rfl rfl rfl (binI_succ i748 (by omega)) ?_
     refine RL.mv rfl rfl rfl ?_
     refine RL.fin ?_
     cases h751
     exact fun a w st => lop_intro (i748 + 1, r758, l659, l660) ⟨by show i748 + 1 + r758 = ((i568 : Int)).toNat; omega, h752⟩ (by simp) (St.cut [0, 1, 2, 3, 4] ⟨rfl, rfl, rfl, rfl, rfl, rfl, rfl, rfl, rfl, rfl, rfl, trivial⟩ (by decide) rfl st)
    have h757 : ¬ i748 < ((i568 : Int)).toNat := by have := of_decide_eq_false b756; omega
    obtain rfl : r749 = 0 := by omega
    replace h753 : some (Fl.nx _) = some y741 := h753
    cases h753
    exact GL.exit (fun a w st => mid_intro (l659, l660) h744 (St.cut [0, 1, 2, 3, 4] ⟨rfl, rfl, rfl, rfl, rfl, rfl, rfl, rfl, trivial⟩ (by decide) rfl st))
   rintro ⟨l659, l660⟩ h836
   have h837 := h745 _ h836
   try dsimp only at h837
   refine GL.weak (env' := [(1, v5), (2, v6), (3, v7), (6, v32), (7, v33), (8, .func (.func 36) #[] #[v5, v33, v32]), (31, .int .i64 ((y43).length : Int)), (32, .int .i64 (i568 : Int))]) (L' := [imm (TR.ptr (TR.sl (TR.sl TR.int))) v5 x0, obox 26 (TR.pair TR.int TR.int) v6 ((0 : Int), (0 : Int)), obox 26 (TR.pair TR.int TR.int) v7 ((0 : Int), (0 : Int)), obox 3 TR.int v32 l659, obox 3 TR.int v33 l660]) (fun _ _ st => st) ?_
   refine GL.nilB ?_
   refine GL.region ?_
   refine RL.binI (v := .int .i64 ((i568 + 1 : Nat) : Int)) rfl rfl rfl rfl (binI_succ i568 (by omega)) ?_
   refine RL.mv rfl rfl rfl ?_
   refine RL.fin ?_
   cases h837
   exact fun a w st => lop_intro (i568 + 1, r580, l659, l660) ⟨by show i568 + 1 + r580.length = (y43).length; simp only [List.length_cons] at h574; omega, h581, h572⟩ (by simp) (St.cut [0, 1, 2, 3, 4] ⟨rfl, rfl, rfl, rfl, rfl, rfl, rfl, rfl, trivial⟩ (by decide) rfl st)
  have h577 : ¬ i568 < (y43).length := by have := of_decide_eq_false b576; omega
  obtain rfl : r569 = [] := by rw [← h575]; exact List.drop_of_length_le (by omega)
  replace h573 : some (Fl.nx _) = some y561 := h573
  cases h573
  exact GL.exit (fun a w st => mid_intro (l302, l303) h564 (St.cut [0, 1, 2, 3, 4] ⟨rfl, rfl, rfl, rfl, rfl, trivial⟩ (by decide) rfl st))
 rintro ⟨l302, l303⟩ h838
 have h839 := h565 _ h838
 try dsimp only at h839
 refine GL.weak (env' := [(1, v5), (2, v6), (3, v7), (6, v32), (7, v33)]) (L' := [imm (TR.ptr (TR.sl (TR.sl TR.int))) v5 x0, obox 26 (TR.pair TR.int TR.int) v6 ((0 : Int), (0 : Int)), obox 26 (TR.pair TR.int TR.int) v7 ((0 : Int), (0 : Int)), obox 3 TR.int v32 l302, obox 3 TR.int v33 l303]) (fun _ _ st => st) ?_
 refine GL.seq ?_
 refine GL.regionA rfl rfl ?_
 obtain ⟨y998, e999, h839⟩ := bind_some h839
 obtain ⟨y1002, e1003, h839⟩ := bind_some h839
 refine RA.meet (ι := Value) (fun (p : Value) => [(2, v6), (3, v7), (89, p), (93, .int .i64 y1002), (94, .int .i64 l303)]) (fun (p : Value) => [obox 26 (TR.pair TR.int TR.int) v6 ((0 : Int), (0 : Int)), obox 26 (TR.pair TR.int TR.int) v7 ((0 : Int), (0 : Int)), imm (TR.pair TR.int TR.int) p y998]) 4 #[true, true, true, true, true, true, true, true, false, false, false, false] (fun h1016 => ?_) ?_
 ·skip
  refine RA.meet (ι := Value) (fun (p : Value) => [(2, v6), (3, v7), (7, v33), (89, p), (93, .int .i64 y1002)]) (fun (p : Value) => [obox 26 (TR.pair TR.int TR.int) v6 ((0 : Int), (0 : Int)), obox 26 (TR.pair TR.int TR.int) v7 ((0 : Int), (0 : Int)), obox 3 TR.int v33 l303, imm (TR.pair TR.int TR.int) p y998]) 5 #[true, true, true, true, true, true, true, false, false, false, false, false] (fun h1017 => ?_) ?_
  rotate_left
  ·rintro v1012
   refine RA.weak (env' := [(2, v6), (3, v7), (7, v33), (89, v1012), (93, .int .i64 y1002)]) (L' := [obox 26 (TR.pair TR.int TR.int) v6 ((0 : Int), (0 : Int)), obox 26 (TR.pair TR.int TR.int) v7 ((0 : Int), (0 : Int)), obox 3 TR.int v33 l303, imm (TR.pair TR.int TR.int) v1012 y998]) (fun _ _ st => st) ?_
   refine RA.seq 7 rfl (by kernel_rfl) ?_
   refine RL.ldPx (off := 0) (e' := l303) 2 Ex.ik Try_ln3 rfl rfl (Or.inr ⟨rfl, rfl⟩) rfl PtOf.obox Part.self ?_
   refine RL.fin ?_
   refine RA.next ?_
   refine RA.relist 4 #[true, true, true, true, true, true, true, true, false, false, false, false] rfl (by kernel_rfl) ?_
   exact fun a w st => h1016 v1012 a w (St.cut [0, 1, 3] ⟨rfl, rfl, rfl, rfl, rfl, trivial⟩ (by decide) rfl st)
  refine RA.meet (ι := Value × Value) (fun (p : Value × Value) => [(2, v6), (3, v7), (89, p.1), (90, p.2), (91, .int .i64 l302), (92, .int .i64 l303), (94, .int .i64 l303)]) (fun (p : Value × Value) => [obox 26 (TR.pair TR.int TR.int) v6 ((0 : Int), (0 : Int)), obox 26 (TR.pair TR.int TR.int) v7 ((0 : Int), (0 : Int)), imm (TR.pair TR.int TR.int) p.1 y998, imm (TR.sl (TR.sl TR.int)) p.2 x0]) 5 #[true, true, true, true, true, true, false, true, false, false, false, false] (fun h1018 => ?_) ?_
  rotate_left
  ·rintro ⟨v1015, v1011⟩
   refine RA.weak (env' := [(2, v6), (3, v7), (89, v1015), (90, v1011), (91, .int .i64 l302), (92, .int .i64 l303), (94, .int .i64 l303)]) (L' := [obox 26 (TR.pair TR.int TR.int) v6 ((0 : Int), (0 : Int)), obox 26 (TR.pair TR.int TR.int) v7 ((0 : Int), (0 : Int)), imm (TR.pair TR.int TR.int) v1015 y998, imm (TR.sl (TR.sl TR.int)) v1011 x0]) (fun _ _ st => st) ?_
   refine RA.seq 6 rfl (by kernel_rfl) ?_
   refine RL.callV (v := .int .i64 y1002) (vs := [v1011, .int .i64 l302, .int .i64 l303]) Try_fit37 rfl (Or.inl rfl) rfl rfl rfl rfl (fun U w hU hW hL => mixed_least_c U w hU _ _ (hL 3 _ _ rfl Seen.imm) l302 l303 _ e1003) ?_
   refine RL.fin ?_
   refine RA.next ?_
   refine RA.relist 4 #[true, true, true, true, true, true, true, true, false, false, false, false] rfl (by kernel_rfl) ?_
   exact fun a w st => h1016 v1015 a w (St.cut [0, 1, 2] ⟨rfl, rfl, rfl, rfl, rfl, trivial⟩ (by decide) rfl st)
  refine RA.meet (ι := Value) (fun (p : Value) => [(2, v6), (3, v7), (87, .int .i64 l302), (88, .int .i64 l303), (90, p), (91, .int .i64 l302), (92, .int .i64 l303), (94, .int .i64 l303)]) (fun (p : Value) => [obox 26 (TR.pair TR.int TR.int) v6 ((0 : Int), (0 : Int)), obox 26 (TR.pair TR.int TR.int) v7 ((0 : Int), (0 : Int)), imm (TR.sl (TR.sl TR.int)) p x0]) 6 #[true, true, false, true, true, true, false, true, false, false, false, false] (fun h1019 => ?_) ?_
  rotate_left
  ·rintro v1011
   refine RA.weak (env' := [(2, v6), (3, v7), (87, .int .i64 l302), (88, .int .i64 l303), (90, v1011), (91, .int .i64 l302), (92, .int .i64 l303), (94, .int .i64 l303)]) (L' := [obox 26 (TR.pair TR.int TR.int) v6 ((0 : Int), (0 : Int)), obox 26 (TR.pair TR.int TR.int) v7 ((0 : Int), (0 : Int)), imm (TR.sl (TR.sl TR.int)) v1011 x0]) (fun _ _ st => st) ?_
   refine RA.seq 2 rfl (by kernel_rfl) ?_
   refine RL.call (vs := [.int .i64 l302, .int .i64 l303]) Try_fit38 rfl rfl rfl rfl rfl (fun S f w hS hW hi => mixed_low_c S w hS l302 l303 _ e999) ?_
   intro v1152
   refine RL.fin ?_
   refine RA.next ?_
   refine RA.relist 5 #[true, true, true, true, true, true, false, true, false, false, false, false] rfl (by kernel_rfl) ?_
   exact fun a w st => h1018 (v1152, v1011) a w (St.cut [0, 1, 3, 2] ⟨rfl, rfl, rfl, rfl, rfl, rfl, rfl, trivial⟩ (by decide) rfl st)
  refine RA.meet (ι := Value) (fun (p : Value) => [(1, v5), (2, v6), (3, v7), (89, p), (91, .int .i64 l302), (92, .int .i64 l303), (94, .int .i64 l303)]) (fun (p : Value) => [imm (TR.ptr (TR.sl (TR.sl TR.int))) v5 x0, obox 26 (TR.pair TR.int TR.int) v6 ((0 : Int), (0 : Int)), obox 26 (TR.pair TR.int TR.int) v7 ((0 : Int), (0 : Int)), imm (TR.pair TR.int TR.int) p y998]) 6 #[true, true, true, false, true, true, false, true, false, false, false, false] (fun h1020 => ?_) ?_
  rotate_left
  ·rintro v1014
   refine RA.weak (env' := [(1, v5), (2, v6), (3, v7), (89, v1014), (91, .int .i64 l302), (92, .int .i64 l303), (94, .int .i64 l303)]) (L' := [imm (TR.ptr (TR.sl (TR.sl TR.int))) v5 x0, obox 26 (TR.pair TR.int TR.int) v6 ((0 : Int), (0 : Int)), obox 26 (TR.pair TR.int TR.int) v7 ((0 : Int), (0 : Int)), imm (TR.pair TR.int TR.int) v1014 y998]) (fun _ _ st => st) ?_
   refine RA.seq 3 rfl (by kernel_rfl) ?_
   refine RL.ldP (off := 0) (r := (TR.sl (TR.sl TR.int))) (e' := x0) 0 Try_ln22 rfl rfl (Or.inr ⟨rfl, rfl⟩) rfl PtOf.imm Part.self ?_
   intro v1151
   refine RL.fin ?_
   refine RA.next ?_
   refine RA.relist 5 #[true, true, true, true, true, true, false, true, false, false, false, false] rfl (by kernel_rfl) ?_
   exact fun a w st => h1018 (v1014, v1151) a w (St.cut [1, 2, 3, 4] ⟨rfl, rfl, rfl, rfl, rfl, rfl, rfl, trivial⟩ (by decide) rfl st)
  refine RA.meet (ι := Value × Value) (fun (p : Value × Value) => [(2, v6), (3, v7), (7, v33), (89, p.1), (90, p.2), (91, .int .i64 l302), (94, .int .i64 l303)]) (fun (p : Value × Value) => [obox 26 (TR.pair TR.int TR.int) v6 ((0 : Int), (0 : Int)), obox 26 (TR.pair TR.int TR.int) v7 ((0 : Int), (0 : Int)), obox 3 TR.int v33 l303, imm (TR.pair TR.int TR.int) p.1 y998, imm (TR.sl (TR.sl TR.int)) p.2 x0]) 6 #[true, true, true, true, true, false, false, true, false, false, false, false] (fun h1021 => ?_) ?_
  rotate_left
  ·rintro ⟨v1009, v1004⟩
   refine RA.weak (env' := [(2, v6), (3, v7), (7, v33), (89, v1009), (90, v1004), (91, .int .i64 l302), (94, .int .i64 l303)]) (L' := [obox 26 (TR.pair TR.int TR.int) v6 ((0 : Int), (0 : Int)), obox 26 (TR.pair TR.int TR.int) v7 ((0 : Int), (0 : Int)), obox 3 TR.int v33 l303, imm (TR.pair TR.int TR.int) v1009 y998, imm (TR.sl (TR.sl TR.int)) v1004 x0]) (fun _ _ st => st) ?_
   refine RA.seq 5 rfl (by kernel_rfl) ?_
   refine RL.ldPx (off := 0) (e' := l303) 2 Ex.ik Try_ln3 rfl rfl (Or.inr ⟨rfl, rfl⟩) rfl PtOf.obox Part.self ?_
   refine RL.fin ?_
   refine RA.next ?_
   refine RA.relist 5 #[true, true, true, true, true, true, false, true, false, false, false, false] rfl (by kernel_rfl) ?_
   exact fun a w st => h1018 (v1009, v1004) a w (St.cut [0, 1, 3, 4] ⟨rfl, rfl, rfl, rfl, rfl, rfl, rfl, trivial⟩ (by decide) rfl st)
  refine RA.meet (ι := Value × Value) (fun (p : Value × Value) => [(2, v6), (3, v7), (6, v32), (89, p.1), (90, p.2), (92, .int .i64 l303), (94, .int .i64 l303)]) (fun (p : Value × Value) => [obox 26 (TR.pair TR.int TR.int) v6 ((0 : Int), (0 : Int)), obox 26 (TR.pair TR.int TR.int) v7 ((0 : Int), (0 : Int)), obox 3 TR.int v32 l302, imm (TR.pair TR.int TR.int) p.1 y998, imm (TR.sl (TR.sl TR.int)) p.2 x0]) 6 #[true, true, true, true, false, true, false, true, false, false, false, false] (fun h1022 => ?_) ?_
  rotate_left
  ·rintro ⟨v1009, v1004⟩
   refine RA.weak (env' := [(2, v6), (3, v7), (6, v32), (89, v1009), (90, v1004), (92, .int .i64 l303), (94, .int .i64 l303)]) (L' := [obox 26 (TR.pair TR.int TR.int) v6 ((0 : Int), (0 : Int)), obox 26 (TR.pair TR.int TR.int) v7 ((0 : Int), (0 : Int)), obox 3 TR.int v32 l302, imm (TR.pair TR.int TR.int) v1009 y998, imm (TR.sl (TR.sl TR.int)) v1004 x0]) (fun _ _ st => st) ?_
   refine RA.seq 4 rfl (by kernel_rfl) ?_
   refine RL.ldPx (off := 0) (e' := l302) 2 Ex.ik Try_ln3 rfl rfl (Or.inr ⟨rfl, rfl⟩) rfl PtOf.obox Part.self ?_
   refine RL.fin ?_
   refine RA.next ?_
   refine RA.relist 5 #[true, true, true, true, true, true, false, true, false, false, false, false] rfl (by kernel_rfl) ?_
   exact fun a w st => h1018 (v1009, v1004) a w (St.cut [0, 1, 3, 4] ⟨rfl, rfl, rfl, rfl, rfl, rfl, rfl, trivial⟩ (by decide) rfl st)
  refine RA.meet (ι := Value × Value) (fun (p : Value × Value) => [(2, v6), (3, v7), (7, v33), (89, p.1), (90, p.2), (91, .int .i64 l302), (92, .int .i64 l303)]) (fun (p : Value × Value) => [obox 26 (TR.pair TR.int TR.int) v6 ((0 : Int), (0 : Int)), obox 26 (TR.pair TR.int TR.int) v7 ((0 : Int), (0 : Int)), obox 3 TR.int v33 l303, imm (TR.pair TR.int TR.int) p.1 y998, imm (TR.sl (TR.sl TR.int)) p.2 x0]) 6 #[true, true, true, true, true, true, false, false, false, false, false, false] (fun h1023 => ?_) ?_
  rotate_left
  ·rintro ⟨v1012, v1004⟩
   refine RA.weak (env' := [(2, v6), (3, v7), (7, v33), (89, v1012), (90, v1004), (91, .int .i64 l302), (92, .int .i64 l303)]) (L' := [obox 26 (TR.pair TR.int TR.int) v6 ((0 : Int), (0 : Int)), obox 26 (TR.pair TR.int TR.int) v7 ((0 : Int), (0 : Int)), obox 3 TR.int v33 l303, imm (TR.pair TR.int TR.int) v1012 y998, imm (TR.sl (TR.sl TR.int)) v1004 x0]) (fun _ _ st => st) ?_
   refine RA.many [6, 7] (by kernel_rfl) ⟨⟨_, rfl, ?_⟩, ⟨_, rfl, ?_⟩, trivial⟩
   ·skip
    refine RL.callV (v := .int .i64 y1002) (vs := [v1004, .int .i64 l302, .int .i64 l303]) Try_fit37 rfl (Or.inl rfl) rfl rfl rfl rfl (fun U w hU hW hL => mixed_least_c U w hU _ _ (hL 4 _ _ rfl Seen.imm) l302 l303 _ e1003) ?_
    refine RL.fin ?_
    refine RA.next ?_
    refine RA.relist 5 #[true, true, true, true, true, true, true, false, false, false, false, false] rfl (by kernel_rfl) ?_
    exact fun a w st => h1017 v1012 a w (St.cut [0, 1, 2, 3] ⟨rfl, rfl, rfl, rfl, rfl, trivial⟩ (by decide) rfl st)
   refine RL.ldPx (off := 0) (e' := l303) 2 Ex.ik Try_ln3 rfl rfl (Or.inr ⟨rfl, rfl⟩) rfl PtOf.obox Part.self ?_
   refine RL.fin ?_
   refine RA.next ?_
   refine RA.relist 5 #[true, true, true, true, true, true, false, true, false, false, false, false] rfl (by kernel_rfl) ?_
   exact fun a w st => h1018 (v1012, v1004) a w (St.cut [0, 1, 3, 4] ⟨rfl, rfl, rfl, rfl, rfl, rfl, rfl, trivial⟩ (by decide) rfl st)
  refine RA.meet (ι := Value × Value) (fun (p : Value × Value) => [(2, v6), (3, v7), (6, v32), (7, v33), (89, p.1), (90, p.2), (94, .int .i64 l303)]) (fun (p : Value × Value) => [obox 26 (TR.pair TR.int TR.int) v6 ((0 : Int), (0 : Int)), obox 26 (TR.pair TR.int TR.int) v7 ((0 : Int), (0 : Int)), obox 3 TR.int v32 l302, obox 3 TR.int v33 l303, imm (TR.pair TR.int TR.int) p.1 y998, imm (TR.sl (TR.sl TR.int)) p.2 x0]) 7 #[true, true, true, true, false, false, false, true, false, false, false, false] (fun h1024 => ?_) ?_
  rotate_left
  ·rintro ⟨v1009, v1004⟩
   refine RA.weak (env' := [(2, v6), (3, v7), (6, v32), (7, v33), (89, v1009), (90, v1004), (94, .int .i64 l303)]) (L' := [obox 26 (TR.pair TR.int TR.int) v6 ((0 : Int), (0 : Int)), obox 26 (TR.pair TR.int TR.int) v7 ((0 : Int), (0 : Int)), obox 3 TR.int v32 l302, obox 3 TR.int v33 l303, imm (TR.pair TR.int TR.int) v1009 y998, imm (TR.sl (TR.sl TR.int)) v1004 x0]) (fun _ _ st => st) ?_
   refine RA.many [4, 5] (by kernel_rfl) ⟨⟨_, rfl, ?_⟩, ⟨_, rfl, ?_⟩, trivial⟩
   ·skip
    refine RL.ldPx (off := 0) (e' := l302) 2 Ex.ik Try_ln3 rfl rfl (Or.inr ⟨rfl, rfl⟩) rfl PtOf.obox Part.self ?_
    refine RL.fin ?_
    refine RA.next ?_
    refine RA.relist 6 #[true, true, true, true, true, false, false, true, false, false, false, false] rfl (by kernel_rfl) ?_
    exact fun a w st => h1021 (v1009, v1004) a w (St.cut [0, 1, 3, 4, 5] ⟨rfl, rfl, rfl, rfl, rfl, rfl, rfl, trivial⟩ (by decide) rfl st)
   refine RL.ldPx (off := 0) (e' := l303) 3 Ex.ik Try_ln3 rfl rfl (Or.inr ⟨rfl, rfl⟩) rfl PtOf.obox Part.self ?_
   refine RL.fin ?_
   refine RA.next ?_
   refine RA.relist 6 #[true, true, true, true, false, true, false, true, false, false, false, false] rfl (by kernel_rfl) ?_
   exact fun a w st => h1022 (v1009, v1004) a w (St.cut [0, 1, 2, 4, 5] ⟨rfl, rfl, rfl, rfl, rfl, rfl, rfl, trivial⟩ (by decide) rfl st)
  refine RA.meet (ι := Value × Value) (fun (p : Value × Value) => [(2, v6), (3, v7), (7, v33), (89, p.1), (90, p.2), (91, .int .i64 l302)]) (fun (p : Value × Value) => [obox 26 (TR.pair TR.int TR.int) v6 ((0 : Int), (0 : Int)), obox 26 (TR.pair TR.int TR.int) v7 ((0 : Int), (0 : Int)), obox 3 TR.int v33 l303, imm (TR.pair TR.int TR.int) p.1 y998, imm (TR.sl (TR.sl TR.int)) p.2 x0]) 7 #[true, true, true, true, true, false, false, false, false, false, false, false] (fun h1025 => ?_) ?_
  rotate_left
  ·rintro ⟨v1012, v1004⟩
   refine RA.weak (env' := [(2, v6), (3, v7), (7, v33), (89, v1012), (90, v1004), (91, .int .i64 l302)]) (L' := [obox 26 (TR.pair TR.int TR.int) v6 ((0 : Int), (0 : Int)), obox 26 (TR.pair TR.int TR.int) v7 ((0 : Int), (0 : Int)), obox 3 TR.int v33 l303, imm (TR.pair TR.int TR.int) v1012 y998, imm (TR.sl (TR.sl TR.int)) v1004 x0]) (fun _ _ st => st) ?_
   refine RA.many [5, 7] (by kernel_rfl) ⟨⟨_, rfl, ?_⟩, ⟨_, rfl, ?_⟩, trivial⟩
   ·skip
    refine RL.ldPx (off := 0) (e' := l303) 2 Ex.ik Try_ln3 rfl rfl (Or.inr ⟨rfl, rfl⟩) rfl PtOf.obox Part.self ?_
    refine RL.fin ?_
    refine RA.next ?_
    refine RA.relist 6 #[true, true, true, true, true, true, false, false, false, false, false, false] rfl (by kernel_rfl) ?_
    exact fun a w st => h1023 (v1012, v1004) a w (St.cut [0, 1, 2, 3, 4] ⟨rfl, rfl, rfl, rfl, rfl, rfl, rfl, trivial⟩ (by decide) rfl st)
   refine RL.ldPx (off := 0) (e' := l303) 2 Ex.ik Try_ln3 rfl rfl (Or.inr ⟨rfl, rfl⟩) rfl PtOf.obox Part.self ?_
   refine RL.fin ?_
   refine RA.next ?_
   refine RA.relist 6 #[true, true, true, true, true, false, false, true, false, false, false, false] rfl (by kernel_rfl) ?_
   exact fun a w st => h1021 (v1012, v1004) a w (St.cut [0, 1, 2, 3, 4] ⟨rfl, rfl, rfl, rfl, rfl, rfl, rfl, trivial⟩ (by decide) rfl st)
  refine RA.meet (ι := Value) (fun (p : Value) => [(1, v5), (2, v6), (3, v7), (6, v32), (89, p), (92, .int .i64 l303), (94, .int .i64 l303)]) (fun (p : Value) => [imm (TR.ptr (TR.sl (TR.sl TR.int))) v5 x0, obox 26 (TR.pair TR.int TR.int) v6 ((0 : Int), (0 : Int)), obox 26 (TR.pair TR.int TR.int) v7 ((0 : Int), (0 : Int)), obox 3 TR.int v32 l302, imm (TR.pair TR.int TR.int) p y998]) 7 #[true, true, true, false, false, true, false, true, false, false, false, false] (fun h1026 => ?_) ?_
  rotate_left
  ·rintro v1014
   refine RA.weak (env' := [(1, v5), (2, v6), (3, v7), (6, v32), (89, v1014), (92, .int .i64 l303), (94, .int .i64 l303)]) (L' := [imm (TR.ptr (TR.sl (TR.sl TR.int))) v5 x0, obox 26 (TR.pair TR.int TR.int) v6 ((0 : Int), (0 : Int)), obox 26 (TR.pair TR.int TR.int) v7 ((0 : Int), (0 : Int)), obox 3 TR.int v32 l302, imm (TR.pair TR.int TR.int) v1014 y998]) (fun _ _ st => st) ?_
   refine RA.many [3, 4] (by kernel_rfl) ⟨⟨_, rfl, ?_⟩, ⟨_, rfl, ?_⟩, trivial⟩
   ·skip
    refine RL.ldP (off := 0) (r := (TR.sl (TR.sl TR.int))) (e' := x0) 0 Try_ln22 rfl rfl (Or.inr ⟨rfl, rfl⟩) rfl PtOf.imm Part.self ?_
    intro v1150
    refine RL.fin ?_
    refine RA.next ?_
    refine RA.relist 6 #[true, true, true, true, false, true, false, true, false, false, false, false] rfl (by kernel_rfl) ?_
    exact fun a w st => h1022 (v1014, v1150) a w (St.cut [1, 2, 3, 4, 5] ⟨rfl, rfl, rfl, rfl, rfl, rfl, rfl, trivial⟩ (by decide) rfl st)
   refine RL.ldPx (off := 0) (e' := l302) 3 Ex.ik Try_ln3 rfl rfl (Or.inr ⟨rfl, rfl⟩) rfl PtOf.obox Part.self ?_
   refine RL.fin ?_
   refine RA.next ?_
   refine RA.relist 6 #[true, true, true, false, true, true, false, true, false, false, false, false] rfl (by kernel_rfl) ?_
   exact fun a w st => h1020 v1014 a w (St.cut [0, 1, 2, 4] ⟨rfl, rfl, rfl, rfl, rfl, rfl, rfl, trivial⟩ (by decide) rfl st)
  refine RA.meet (ι := Value) (fun (p : Value) => [(2, v6), (3, v7), (6, v32), (88, .int .i64 l303), (90, p), (91, .int .i64 l302), (92, .int .i64 l303), (94, .int .i64 l303)]) (fun (p : Value) => [obox 26 (TR.pair TR.int TR.int) v6 ((0 : Int), (0 : Int)), obox 26 (TR.pair TR.int TR.int) v7 ((0 : Int), (0 : Int)), obox 3 TR.int v32 l302, imm (TR.sl (TR.sl TR.int)) p x0]) 7 #[false, true, false, true, true, true, false, true, false, false, false, false] (fun h1027 => ?_) ?_
  rotate_left
  ·rintro v1011
   refine RA.weak (env' := [(2, v6), (3, v7), (6, v32), (88, .int .i64 l303), (90, v1011), (91, .int .i64 l302), (92, .int .i64 l303), (94, .int .i64 l303)]) (L' := [obox 26 (TR.pair TR.int TR.int) v6 ((0 : Int), (0 : Int)), obox 26 (TR.pair TR.int TR.int) v7 ((0 : Int), (0 : Int)), obox 3 TR.int v32 l302, imm (TR.sl (TR.sl TR.int)) v1011 x0]) (fun _ _ st => st) ?_
   refine RA.seq 0 rfl (by kernel_rfl) ?_
   refine RL.ldPx (off := 0) (e' := l302) 2 Ex.ik Try_ln3 rfl rfl (Or.inr ⟨rfl, rfl⟩) rfl PtOf.obox Part.self ?_
   refine RL.fin ?_
   refine RA.next ?_
   refine RA.relist 6 #[true, true, false, true, true, true, false, true, false, false, false, false] rfl (by kernel_rfl) ?_
   exact fun a w st => h1019 v1011 a w (St.cut [0, 1, 3] ⟨rfl, rfl, rfl, rfl, rfl, rfl, rfl, rfl, trivial⟩ (by decide) rfl st)
  refine RA.meet (ι := Value) (fun (p : Value) => [(2, v6), (3, v7), (6, v32), (87, .int .i64 l302), (88, .int .i64 l303), (90, p), (92, .int .i64 l303), (94, .int .i64 l303)]) (fun (p : Value) => [obox 26 (TR.pair TR.int TR.int) v6 ((0 : Int), (0 : Int)), obox 26 (TR.pair TR.int TR.int) v7 ((0 : Int), (0 : Int)), obox 3 TR.int v32 l302, imm (TR.sl (TR.sl TR.int)) p x0]) 7 #[true, true, false, true, false, true, false, true, false, false, false, false] (fun h1028 => ?_) ?_
  rotate_left
  ·rintro v1004
   refine RA.weak (env' := [(2, v6), (3, v7), (6, v32), (87, .int .i64 l302), (88, .int .i64 l303), (90, v1004), (92, .int .i64 l303), (94, .int .i64 l303)]) (L' := [obox 26 (TR.pair TR.int TR.int) v6 ((0 : Int), (0 : Int)), obox 26 (TR.pair TR.int TR.int) v7 ((0 : Int), (0 : Int)), obox 3 TR.int v32 l302, imm (TR.sl (TR.sl TR.int)) v1004 x0]) (fun _ _ st => st) ?_
   refine RA.many [2, 4] (by kernel_rfl) ⟨⟨_, rfl, ?_⟩, ⟨_, rfl, ?_⟩, trivial⟩
   ·skip
    refine RL.call (vs := [.int .i64 l302, .int .i64 l303]) Try_fit38 rfl rfl rfl rfl rfl (fun S f w hS hW hi => mixed_low_c S w hS l302 l303 _ e999) ?_
    intro v1149
    refine RL.fin ?_
    refine RA.next ?_
    refine RA.relist 6 #[true, true, true, true, false, true, false, true, false, false, false, false] rfl (by kernel_rfl) ?_
    exact fun a w st => h1022 (v1149, v1004) a w (St.cut [0, 1, 2, 4, 3] ⟨rfl, rfl, rfl, rfl, rfl, rfl, rfl, trivial⟩ (by decide) rfl st)
   refine RL.ldPx (off := 0) (e' := l302) 2 Ex.ik Try_ln3 rfl rfl (Or.inr ⟨rfl, rfl⟩) rfl PtOf.obox Part.self ?_
   refine RL.fin ?_
   refine RA.next ?_
   refine RA.relist 6 #[true, true, false, true, true, true, false, true, false, false, false, false] rfl (by kernel_rfl) ?_
   exact fun a w st => h1019 v1004 a w (St.cut [0, 1, 3] ⟨rfl, rfl, rfl, rfl, rfl, rfl, rfl, rfl, trivial⟩ (by decide) rfl st)
  refine RA.meet (ι := Value) (fun (p : Value) => [(2, v6), (3, v7), (7, v33), (87, .int .i64 l302), (88, .int .i64 l303), (90, p), (91, .int .i64 l302), (94, .int .i64 l303)]) (fun (p : Value) => [obox 26 (TR.pair TR.int TR.int) v6 ((0 : Int), (0 : Int)), obox 26 (TR.pair TR.int TR.int) v7 ((0 : Int), (0 : Int)), obox 3 TR.int v33 l303, imm (TR.sl (TR.sl TR.int)) p x0]) 7 #[true, true, false, true, true, false, false, true, false, false, false, false] (fun h1029 => ?_) ?_
  rotate_left
  ·rintro v1004
   refine RA.weak (env' := [(2, v6), (3, v7), (7, v33), (87, .int .i64 l302), (88, .int .i64 l303), (90, v1004), (91, .int .i64 l302), (94, .int .i64 l303)]) (L' := [obox 26 (TR.pair TR.int TR.int) v6 ((0 : Int), (0 : Int)), obox 26 (TR.pair TR.int TR.int) v7 ((0 : Int), (0 : Int)), obox 3 TR.int v33 l303, imm (TR.sl (TR.sl TR.int)) v1004 x0]) (fun _ _ st => st) ?_
   refine RA.many [2, 5] (by kernel_rfl) ⟨⟨_, rfl, ?_⟩, ⟨_, rfl, ?_⟩, trivial⟩
   ·skip
    refine RL.call (vs := [.int .i64 l302, .int .i64 l303]) Try_fit38 rfl rfl rfl rfl rfl (fun S f w hS hW hi => mixed_low_c S w hS l302 l303 _ e999) ?_
    intro v1148
    refine RL.fin ?_
    refine RA.next ?_
    refine RA.relist 6 #[true, true, true, true, true, false, false, true, false, false, false, false] rfl (by kernel_rfl) ?_
    exact fun a w st => h1021 (v1148, v1004) a w (St.cut [0, 1, 2, 4, 3] ⟨rfl, rfl, rfl, rfl, rfl, rfl, rfl, trivial⟩ (by decide) rfl st)
   refine RL.ldPx (off := 0) (e' := l303) 2 Ex.ik Try_ln3 rfl rfl (Or.inr ⟨rfl, rfl⟩) rfl PtOf.obox Part.self ?_
   refine RL.fin ?_
   refine RA.next ?_
   refine RA.relist 6 #[true, true, false, true, true, true, false, true, false, false, false, false] rfl (by kernel_rfl) ?_
   exact fun a w st => h1019 v1004 a w (St.cut [0, 1, 3] ⟨rfl, rfl, rfl, rfl, rfl, rfl, rfl, rfl, trivial⟩ (by decide) rfl st)
  refine RA.meet (ι := Value) (fun (p : Value) => [(2, v6), (3, v7), (7, v33), (87, .int .i64 l302), (88, .int .i64 l303), (90, p), (91, .int .i64 l302), (92, .int .i64 l303)]) (fun (p : Value) => [obox 26 (TR.pair TR.int TR.int) v6 ((0 : Int), (0 : Int)), obox 26 (TR.pair TR.int TR.int) v7 ((0 : Int), (0 : Int)), obox 3 TR.int v33 l303, imm (TR.sl (TR.sl TR.int)) p x0]) 7 #[true, true, false, true, true, true, false, false, false, false, false, false] (fun h1030 => ?_) ?_
  rotate_left
  ·rintro v1004
   refine RA.weak (env' := [(2, v6), (3, v7), (7, v33), (87, .int .i64 l302), (88, .int .i64 l303), (90, v1004), (91, .int .i64 l302), (92, .int .i64 l303)]) (L' := [obox 26 (TR.pair TR.int TR.int) v6 ((0 : Int), (0 : Int)), obox 26 (TR.pair TR.int TR.int) v7 ((0 : Int), (0 : Int)), obox 3 TR.int v33 l303, imm (TR.sl (TR.sl TR.int)) v1004 x0]) (fun _ _ st => st) ?_
   refine RA.many [2, 7] (by kernel_rfl) ⟨⟨_, rfl, ?_⟩, ⟨_, rfl, ?_⟩, trivial⟩
   ·skip
    refine RL.call (vs := [.int .i64 l302, .int .i64 l303]) Try_fit38 rfl rfl rfl rfl rfl (fun S f w hS hW hi => mixed_low_c S w hS l302 l303 _ e999) ?_
    intro v1147
    refine RL.fin ?_
    refine RA.next ?_
    refine RA.relist 6 #[true, true, true, true, true, true, false, false, false, false, false, false] rfl (by kernel_rfl) ?_
    exact fun a w st => h1023 (v1147, v1004) a w (St.cut [0, 1, 2, 4, 3] ⟨rfl, rfl, rfl, rfl, rfl, rfl, rfl, trivial⟩ (by decide) rfl st)
   refine RL.ldPx (off := 0) (e' := l303) 2 Ex.ik Try_ln3 rfl rfl (Or.inr ⟨rfl, rfl⟩) rfl PtOf.obox Part.self ?_
   refine RL.fin ?_
   refine RA.next ?_
   refine RA.relist 6 #[true, true, false, true, true, true, false, true, false, false, false, false] rfl (by kernel_rfl) ?_
   exact fun a w st => h1019 v1004 a w (St.cut [0, 1, 3] ⟨rfl, rfl, rfl, rfl, rfl, rfl, rfl, rfl, trivial⟩ (by decide) rfl st)
  refine RA.meet (ι := Value) (fun (p : Value) => [(2, v6), (3, v7), (7, v33), (87, .int .i64 l302), (90, p), (91, .int .i64 l302), (92, .int .i64 l303), (94, .int .i64 l303)]) (fun (p : Value) => [obox 26 (TR.pair TR.int TR.int) v6 ((0 : Int), (0 : Int)), obox 26 (TR.pair TR.int TR.int) v7 ((0 : Int), (0 : Int)), obox 3 TR.int v33 l303, imm (TR.sl (TR.sl TR.int)) p x0]) 7 #[true, false, false, true, true, true, false, true, false, false, false, false] (fun h1031 => ?_) ?_
  rotate_left
  ·rintro v1004
   refine RA.weak (env' := [(2, v6), (3, v7), (7, v33), (87, .int .i64 l302), (90, v1004), (91, .int .i64 l302), (92, .int .i64 l303), (94, .int .i64 l303)]) (L' := [obox 26 (TR.pair TR.int TR.int) v6 ((0 : Int), (0 : Int)), obox 26 (TR.pair TR.int TR.int) v7 ((0 : Int), (0 : Int)), obox 3 TR.int v33 l303, imm (TR.sl (TR.sl TR.int)) v1004 x0]) (fun _ _ st => st) ?_
   refine RA.seq 1 rfl (by kernel_rfl) ?_
   refine RL.ldPx (off := 0) (e' := l303) 2 Ex.ik Try_ln3 rfl rfl (Or.inr ⟨rfl, rfl⟩) rfl PtOf.obox Part.self ?_
   refine RL.fin ?_
   refine RA.next ?_
   refine RA.relist 6 #[true, true, false, true, true, true, false, true, false, false, false, false] rfl (by kernel_rfl) ?_
   exact fun a w st => h1019 v1004 a w (St.cut [0, 1, 3] ⟨rfl, rfl, rfl, rfl, rfl, rfl, rfl, rfl, trivial⟩ (by decide) rfl st)
  refine RA.meet (ι := Unit) (fun (p : Unit) => [(1, v5), (2, v6), (3, v7), (87, .int .i64 l302), (88, .int .i64 l303), (91, .int .i64 l302), (92, .int .i64 l303), (94, .int .i64 l303)]) (fun (p : Unit) => [imm (TR.ptr (TR.sl (TR.sl TR.int))) v5 x0, obox 26 (TR.pair TR.int TR.int) v6 ((0 : Int), (0 : Int)), obox 26 (TR.pair TR.int TR.int) v7 ((0 : Int), (0 : Int))]) 7 #[true, true, false, false, true, true, false, true, false, false, false, false] (fun h1032 => ?_) ?_
  rotate_left
  ·rintro ⟨⟩
   refine RA.weak (env' := [(1, v5), (2, v6), (3, v7), (87, .int .i64 l302), (88, .int .i64 l303), (91, .int .i64 l302), (92, .int .i64 l303), (94, .int .i64 l303)]) (L' := [imm (TR.ptr (TR.sl (TR.sl TR.int))) v5 x0, obox 26 (TR.pair TR.int TR.int) v6 ((0 : Int), (0 : Int)), obox 26 (TR.pair TR.int TR.int) v7 ((0 : Int), (0 : Int))]) (fun _ _ st => st) ?_
   refine RA.many [2, 3] (by kernel_rfl) ⟨⟨_, rfl, ?_⟩, ⟨_, rfl, ?_⟩, trivial⟩
   ·skip
    refine RL.call (vs := [.int .i64 l302, .int .i64 l303]) Try_fit38 rfl rfl rfl rfl rfl (fun S f w hS hW hi => mixed_low_c S w hS l302 l303 _ e999) ?_
    intro v1145
    refine RL.fin ?_
    refine RA.next ?_
    refine RA.relist 6 #[true, true, true, false, true, true, false, true, false, false, false, false] rfl (by kernel_rfl) ?_
    exact fun a w st => h1020 v1145 a w (St.cut [0, 1, 2, 3] ⟨rfl, rfl, rfl, rfl, rfl, rfl, rfl, trivial⟩ (by decide) rfl st)
   refine RL.ldP (off := 0) (r := (TR.sl (TR.sl TR.int))) (e' := x0) 0 Try_ln22 rfl rfl (Or.inr ⟨rfl, rfl⟩) rfl PtOf.imm Part.self ?_
   intro v1146
   refine RL.fin ?_
   refine RA.next ?_
   refine RA.relist 6 #[true, true, false, true, true, true, false, true, false, false, false, false] rfl (by kernel_rfl) ?_
   exact fun a w st => h1019 v1146 a w (St.cut [1, 2, 3] ⟨rfl, rfl, rfl, rfl, rfl, rfl, rfl, rfl, trivial⟩ (by decide) rfl st)
  refine RA.meet (ι := Value) (fun (p : Value) => [(1, v5), (2, v6), (3, v7), (7, v33), (89, p), (91, .int .i64 l302), (94, .int .i64 l303)]) (fun (p : Value) => [imm (TR.ptr (TR.sl (TR.sl TR.int))) v5 x0, obox 26 (TR.pair TR.int TR.int) v6 ((0 : Int), (0 : Int)), obox 26 (TR.pair TR.int TR.int) v7 ((0 : Int), (0 : Int)), obox 3 TR.int v33 l303, imm (TR.pair TR.int TR.int) p y998]) 7 #[true, true, true, false, true, false, false, true, false, false, false, false] (fun h1033 => ?_) ?_
  rotate_left
  ·rintro v1007
   refine RA.weak (env' := [(1, v5), (2, v6), (3, v7), (7, v33), (89, v1007), (91, .int .i64 l302), (94, .int .i64 l303)]) (L' := [imm (TR.ptr (TR.sl (TR.sl TR.int))) v5 x0, obox 26 (TR.pair TR.int TR.int) v6 ((0 : Int), (0 : Int)), obox 26 (TR.pair TR.int TR.int) v7 ((0 : Int), (0 : Int)), obox 3 TR.int v33 l303, imm (TR.pair TR.int TR.int) v1007 y998]) (fun _ _ st => st) ?_
   refine RA.many [3, 5] (by kernel_rfl) ⟨⟨_, rfl, ?_⟩, ⟨_, rfl, ?_⟩, trivial⟩
   ·skip
    refine RL.ldP (off := 0) (r := (TR.sl (TR.sl TR.int))) (e' := x0) 0 Try_ln22 rfl rfl (Or.inr ⟨rfl, rfl⟩) rfl PtOf.imm Part.self ?_
    intro v1144
    refine RL.fin ?_
    refine RA.next ?_
    refine RA.relist 6 #[true, true, true, true, true, false, false, true, false, false, false, false] rfl (by kernel_rfl) ?_
    exact fun a w st => h1021 (v1007, v1144) a w (St.cut [1, 2, 3, 4, 5] ⟨rfl, rfl, rfl, rfl, rfl, rfl, rfl, trivial⟩ (by decide) rfl st)
   refine RL.ldPx (off := 0) (e' := l303) 3 Ex.ik Try_ln3 rfl rfl (Or.inr ⟨rfl, rfl⟩) rfl PtOf.obox Part.self ?_
   refine RL.fin ?_
   refine RA.next ?_
   refine RA.relist 6 #[true, true, true, false, true, true, false, true, false, false, false, false] rfl (by kernel_rfl) ?_
   exact fun a w st => h1020 v1007 a w (St.cut [0, 1, 2, 4] ⟨rfl, rfl, rfl, rfl, rfl, rfl, rfl, trivial⟩ (by decide) rfl st)
  refine RA.meet (ι := Value) (fun (p : Value) => [(1, v5), (2, v6), (3, v7), (7, v33), (89, p), (91, .int .i64 l302), (92, .int .i64 l303)]) (fun (p : Value) => [imm (TR.ptr (TR.sl (TR.sl TR.int))) v5 x0, obox 26 (TR.pair TR.int TR.int) v6 ((0 : Int), (0 : Int)), obox 26 (TR.pair TR.int TR.int) v7 ((0 : Int), (0 : Int)), obox 3 TR.int v33 l303, imm (TR.pair TR.int TR.int) p y998]) 7 #[true, true, true, false, true, true, false, false, false, false, false, false] (fun h1034 => ?_) ?_
  rotate_left
  ·rintro v1013
   refine RA.weak (env' := [(1, v5), (2, v6), (3, v7), (7, v33), (89, v1013), (91, .int .i64 l302), (92, .int .i64 l303)]) (L' := [imm (TR.ptr (TR.sl (TR.sl TR.int))) v5 x0, obox 26 (TR.pair TR.int TR.int) v6 ((0 : Int), (0 : Int)), obox 26 (TR.pair TR.int TR.int) v7 ((0 : Int), (0 : Int)), obox 3 TR.int v33 l303, imm (TR.pair TR.int TR.int) v1013 y998]) (fun _ _ st => st) ?_
   refine RA.many [3, 7] (by kernel_rfl) ⟨⟨_, rfl, ?_⟩, ⟨_, rfl, ?_⟩, trivial⟩
   ·skip
    refine RL.ldP (off := 0) (r := (TR.sl (TR.sl TR.int))) (e' := x0) 0 Try_ln22 rfl rfl (Or.inr ⟨rfl, rfl⟩) rfl PtOf.imm Part.self ?_
    intro v1143
    refine RL.fin ?_
    refine RA.next ?_
    refine RA.relist 6 #[true, true, true, true, true, true, false, false, false, false, false, false] rfl (by kernel_rfl) ?_
    exact fun a w st => h1023 (v1013, v1143) a w (St.cut [1, 2, 3, 4, 5] ⟨rfl, rfl, rfl, rfl, rfl, rfl, rfl, trivial⟩ (by decide) rfl st)
   refine RL.ldPx (off := 0) (e' := l303) 3 Ex.ik Try_ln3 rfl rfl (Or.inr ⟨rfl, rfl⟩) rfl PtOf.obox Part.self ?_
   refine RL.fin ?_
   refine RA.next ?_
   refine RA.relist 6 #[true, true, true, false, true, true, false, true, false, false, false, false] rfl (by kernel_rfl) ?_
   exact fun a w st => h1020 v1013 a w (St.cut [0, 1, 2, 4] ⟨rfl, rfl, rfl, rfl, rfl, rfl, rfl, trivial⟩ (by decide) rfl st)
  refine RA.meet (ι := Value × Value) (fun (p : Value × Value) => [(2, v6), (3, v7), (6, v32), (7, v33), (89, p.1), (90, p.2), (92, .int .i64 l303)]) (fun (p : Value × Value) => [obox 26 (TR.pair TR.int TR.int) v6 ((0 : Int), (0 : Int)), obox 26 (TR.pair TR.int TR.int) v7 ((0 : Int), (0 : Int)), obox 3 TR.int v32 l302, obox 3 TR.int v33 l303, imm (TR.pair TR.int TR.int) p.1 y998, imm (TR.sl (TR.sl TR.int)) p.2 x0]) 7 #[true, true, true, true, false, true, false, false, false, false, false, false] (fun h1035 => ?_) ?_
  rotate_left
  ·rintro ⟨v1010, v1004⟩
   refine RA.weak (env' := [(2, v6), (3, v7), (6, v32), (7, v33), (89, v1010), (90, v1004), (92, .int .i64 l303)]) (L' := [obox 26 (TR.pair TR.int TR.int) v6 ((0 : Int), (0 : Int)), obox 26 (TR.pair TR.int TR.int) v7 ((0 : Int), (0 : Int)), obox 3 TR.int v32 l302, obox 3 TR.int v33 l303, imm (TR.pair TR.int TR.int) v1010 y998, imm (TR.sl (TR.sl TR.int)) v1004 x0]) (fun _ _ st => st) ?_
   refine RA.many [4, 7] (by kernel_rfl) ⟨⟨_, rfl, ?_⟩, ⟨_, rfl, ?_⟩, trivial⟩
   ·skip
    refine RL.ldPx (off := 0) (e' := l302) 2 Ex.ik Try_ln3 rfl rfl (Or.inr ⟨rfl, rfl⟩) rfl PtOf.obox Part.self ?_
    refine RL.fin ?_
    refine RA.next ?_
    refine RA.relist 6 #[true, true, true, true, true, true, false, false, false, false, false, false] rfl (by kernel_rfl) ?_
    exact fun a w st => h1023 (v1010, v1004) a w (St.cut [0, 1, 3, 4, 5] ⟨rfl, rfl, rfl, rfl, rfl, rfl, rfl, trivial⟩ (by decide) rfl st)
   refine RL.ldPx (off := 0) (e' := l303) 3 Ex.ik Try_ln3 rfl rfl (Or.inr ⟨rfl, rfl⟩) rfl PtOf.obox Part.self ?_
   refine RL.fin ?_
   refine RA.next ?_
   refine RA.relist 6 #[true, true, true, true, false, true, false, true, false, false, false, false] rfl (by kernel_rfl) ?_
   exact fun a w st => h1022 (v1010, v1004) a w (St.cut [0, 1, 2, 4, 5] ⟨rfl, rfl, rfl, rfl, rfl, rfl, rfl, trivial⟩ (by decide) rfl st)
  refine RA.meet (ι := Value) (fun (p : Value) => [(2, v6), (3, v7), (7, v33), (87, .int .i64 l302), (90, p), (91, .int .i64 l302), (94, .int .i64 l303)]) (fun (p : Value) => [obox 26 (TR.pair TR.int TR.int) v6 ((0 : Int), (0 : Int)), obox 26 (TR.pair TR.int TR.int) v7 ((0 : Int), (0 : Int)), obox 3 TR.int v33 l303, imm (TR.sl (TR.sl TR.int)) p x0]) 8 #[true, false, false, true, true, false, false, true, false, false, false, false] (fun h1036 => ?_) ?_
  rotate_left
  ·rintro v1004
   refine RA.weak (env' := [(2, v6), (3, v7), (7, v33), (87, .int .i64 l302), (90, v1004), (91, .int .i64 l302), (94, .int .i64 l303)]) (L' := [obox 26 (TR.pair TR.int TR.int) v6 ((0 : Int), (0 : Int)), obox 26 (TR.pair TR.int TR.int) v7 ((0 : Int), (0 : Int)), obox 3 TR.int v33 l303, imm (TR.sl (TR.sl TR.int)) v1004 x0]) (fun _ _ st => st) ?_
   refine RA.many [1, 5] (by kernel_rfl) ⟨⟨_, rfl, ?_⟩, ⟨_, rfl, ?_⟩, trivial⟩
   ·skip
    refine RL.ldPx (off := 0) (e' := l303) 2 Ex.ik Try_ln3 rfl rfl (Or.inr ⟨rfl, rfl⟩) rfl PtOf.obox Part.self ?_
    refine RL.fin ?_
    refine RA.next ?_
    refine RA.relist 7 #[true, true, false, true, true, false, false, true, false, false, false, false] rfl (by kernel_rfl) ?_
    exact fun a w st => h1029 v1004 a w (St.cut [0, 1, 2, 3] ⟨rfl, rfl, rfl, rfl, rfl, rfl, rfl, rfl, trivial⟩ (by decide) rfl st)
   refine RL.ldPx (off := 0) (e' := l303) 2 Ex.ik Try_ln3 rfl rfl (Or.inr ⟨rfl, rfl⟩) rfl PtOf.obox Part.self ?_
   refine RL.fin ?_
   refine RA.next ?_
   refine RA.relist 7 #[true, false, false, true, true, true, false, true, false, false, false, false] rfl (by kernel_rfl) ?_
   exact fun a w st => h1031 v1004 a w (St.cut [0, 1, 2, 3] ⟨rfl, rfl, rfl, rfl, rfl, rfl, rfl, rfl, trivial⟩ (by decide) rfl st)
  refine RA.meet (ι := Value) (fun (p : Value) => [(2, v6), (3, v7), (6, v32), (7, v33), (87, .int .i64 l302), (88, .int .i64 l303), (90, p), (92, .int .i64 l303)]) (fun (p : Value) => [obox 26 (TR.pair TR.int TR.int) v6 ((0 : Int), (0 : Int)), obox 26 (TR.pair TR.int TR.int) v7 ((0 : Int), (0 : Int)), obox 3 TR.int v32 l302, obox 3 TR.int v33 l303, imm (TR.sl (TR.sl TR.int)) p x0]) 8 #[true, true, false, true, false, true, false, false, false, false, false, false] (fun h1037 => ?_) ?_
  rotate_left
  ·rintro v1004
   refine RA.weak (env' := [(2, v6), (3, v7), (6, v32), (7, v33), (87, .int .i64 l302), (88, .int .i64 l303), (90, v1004), (92, .int .i64 l303)]) (L' := [obox 26 (TR.pair TR.int TR.int) v6 ((0 : Int), (0 : Int)), obox 26 (TR.pair TR.int TR.int) v7 ((0 : Int), (0 : Int)), obox 3 TR.int v32 l302, obox 3 TR.int v33 l303, imm (TR.sl (TR.sl TR.int)) v1004 x0]) (fun _ _ st => st) ?_
   refine RA.many [2, 4, 7] (by kernel_rfl) ⟨⟨_, rfl, ?_⟩, ⟨_, rfl, ?_⟩, ⟨_, rfl, ?_⟩, trivial⟩
   ·skip
    refine RL.call (vs := [.int .i64 l302, .int .i64 l303]) Try_fit38 rfl rfl rfl rfl rfl (fun S f w hS hW hi => mixed_low_c S w hS l302 l303 _ e999) ?_
    intro v1142
    refine RL.fin ?_
    refine RA.next ?_
    refine RA.relist 7 #[true, true, true, true, false, true, false, false, false, false, false, false] rfl (by kernel_rfl) ?_
    exact fun a w st => h1035 (v1142, v1004) a w (St.cut [0, 1, 2, 3, 5, 4] ⟨rfl, rfl, rfl, rfl, rfl, rfl, rfl, trivial⟩ (by decide) rfl st)
   ·skip
    refine RL.ldPx (off := 0) (e' := l302) 2 Ex.ik Try_ln3 rfl rfl (Or.inr ⟨rfl, rfl⟩) rfl PtOf.obox Part.self ?_
    refine RL.fin ?_
    refine RA.next ?_
    refine RA.relist 7 #[true, true, false, true, true, true, false, false, false, false, false, false] rfl (by kernel_rfl) ?_
    exact fun a w st => h1030 v1004 a w (St.cut [0, 1, 3, 4] ⟨rfl, rfl, rfl, rfl, rfl, rfl, rfl, rfl, trivial⟩ (by decide) rfl st)
   refine RL.ldPx (off := 0) (e' := l303) 3 Ex.ik Try_ln3 rfl rfl (Or.inr ⟨rfl, rfl⟩) rfl PtOf.obox Part.self ?_
   refine RL.fin ?_
   refine RA.next ?_
   refine RA.relist 7 #[true, true, false, true, false, true, false, true, false, false, false, false] rfl (by kernel_rfl) ?_
   exact fun a w st => h1028 v1004 a w (St.cut [0, 1, 2, 4] ⟨rfl, rfl, rfl, rfl, rfl, rfl, rfl, rfl, trivial⟩ (by decide) rfl st)
  refine RA.meet (ι := Unit) (fun (p : Unit) => [(1, v5), (2, v6), (3, v7), (7, v33), (87, .int .i64 l302), (91, .int .i64 l302), (92, .int .i64 l303), (94, .int .i64 l303)]) (fun (p : Unit) => [imm (TR.ptr (TR.sl (TR.sl TR.int))) v5 x0, obox 26 (TR.pair TR.int TR.int) v6 ((0 : Int), (0 : Int)), obox 26 (TR.pair TR.int TR.int) v7 ((0 : Int), (0 : Int)), obox 3 TR.int v33 l303]) 8 #[true, false, false, false, true, true, false, true, false, false, false, false] (fun h1038 => ?_) ?_
  rotate_left
  ·rintro ⟨⟩
   refine RA.weak (env' := [(1, v5), (2, v6), (3, v7), (7, v33), (87, .int .i64 l302), (91, .int .i64 l302), (92, .int .i64 l303), (94, .int .i64 l303)]) (L' := [imm (TR.ptr (TR.sl (TR.sl TR.int))) v5 x0, obox 26 (TR.pair TR.int TR.int) v6 ((0 : Int), (0 : Int)), obox 26 (TR.pair TR.int TR.int) v7 ((0 : Int), (0 : Int)), obox 3 TR.int v33 l303]) (fun _ _ st => st) ?_
   refine RA.many [1, 3] (by kernel_rfl) ⟨⟨_, rfl, ?_⟩, ⟨_, rfl, ?_⟩, trivial⟩
   ·skip
    refine RL.ldPx (off := 0) (e' := l303) 3 Ex.ik Try_ln3 rfl rfl (Or.inr ⟨rfl, rfl⟩) rfl PtOf.obox Part.self ?_
    refine RL.fin ?_
    refine RA.next ?_
    refine RA.relist 7 #[true, true, false, false, true, true, false, true, false, false, false, false] rfl (by kernel_rfl) ?_
    exact fun a w st => h1032 () a w (St.cut [0, 1, 2] ⟨rfl, rfl, rfl, rfl, rfl, rfl, rfl, rfl, trivial⟩ (by decide) rfl st)
   refine RL.ldP (off := 0) (r := (TR.sl (TR.sl TR.int))) (e' := x0) 0 Try_ln22 rfl rfl (Or.inr ⟨rfl, rfl⟩) rfl PtOf.imm Part.self ?_
   intro v1141
   refine RL.fin ?_
   refine RA.next ?_
   refine RA.relist 7 #[true, false, false, true, true, true, false, true, false, false, false, false] rfl (by kernel_rfl) ?_
   exact fun a w st => h1031 v1141 a w (St.cut [1, 2, 3, 4] ⟨rfl, rfl, rfl, rfl, rfl, rfl, rfl, rfl, trivial⟩ (by decide) rfl st)
  refine RA.meet (ι := Unit) (fun (p : Unit) => [(1, v5), (2, v6), (3, v7), (6, v32), (88, .int .i64 l303), (91, .int .i64 l302), (92, .int .i64 l303), (94, .int .i64 l303)]) (fun (p : Unit) => [imm (TR.ptr (TR.sl (TR.sl TR.int))) v5 x0, obox 26 (TR.pair TR.int TR.int) v6 ((0 : Int), (0 : Int)), obox 26 (TR.pair TR.int TR.int) v7 ((0 : Int), (0 : Int)), obox 3 TR.int v32 l302]) 8 #[false, true, false, false, true, true, false, true, false, false, false, false] (fun h1039 => ?_) ?_
  rotate_left
  ·rintro ⟨⟩
   refine RA.weak (env' := [(1, v5), (2, v6), (3, v7), (6, v32), (88, .int .i64 l303), (91, .int .i64 l302), (92, .int .i64 l303), (94, .int .i64 l303)]) (L' := [imm (TR.ptr (TR.sl (TR.sl TR.int))) v5 x0, obox 26 (TR.pair TR.int TR.int) v6 ((0 : Int), (0 : Int)), obox 26 (TR.pair TR.int TR.int) v7 ((0 : Int), (0 : Int)), obox 3 TR.int v32 l302]) (fun _ _ st => st) ?_
   refine RA.many [0, 3] (by kernel_rfl) ⟨⟨_, rfl, ?_⟩, ⟨_, rfl, ?_⟩, trivial⟩
   ·skip
    refine RL.ldPx (off := 0) (e' := l302) 3 Ex.ik Try_ln3 rfl rfl (Or.inr ⟨rfl, rfl⟩) rfl PtOf.obox Part.self ?_
    refine RL.fin ?_
    refine RA.next ?_
    refine RA.relist 7 #[true, true, false, false, true, true, false, true, false, false, false, false] rfl (by kernel_rfl) ?_
    exact fun a w st => h1032 () a w (St.cut [0, 1, 2] ⟨rfl, rfl, rfl, rfl, rfl, rfl, rfl, rfl, trivial⟩ (by decide) rfl st)
   refine RL.ldP (off := 0) (r := (TR.sl (TR.sl TR.int))) (e' := x0) 0 Try_ln22 rfl rfl (Or.inr ⟨rfl, rfl⟩) rfl PtOf.imm Part.self ?_
   intro v1140
   refine RL.fin ?_
   refine RA.next ?_
   refine RA.relist 7 #[false, true, false, true, true, true, false, true, false, false, false, false] rfl (by kernel_rfl) ?_
   exact fun a w st => h1027 v1140 a w (St.cut [1, 2, 3, 4] ⟨rfl, rfl, rfl, rfl, rfl, rfl, rfl, rfl, trivial⟩ (by decide) rfl st)
  refine RA.meet (ι := Value) (fun (p : Value) => [(2, v6), (3, v7), (6, v32), (7, v33), (87, .int .i64 l302), (90, p), (92, .int .i64 l303), (94, .int .i64 l303)]) (fun (p : Value) => [obox 26 (TR.pair TR.int TR.int) v6 ((0 : Int), (0 : Int)), obox 26 (TR.pair TR.int TR.int) v7 ((0 : Int), (0 : Int)), obox 3 TR.int v32 l302, obox 3 TR.int v33 l303, imm (TR.sl (TR.sl TR.int)) p x0]) 8 #[true, false, false, true, false, true, false, true, false, false, false, false] (fun h1040 => ?_) ?_
  rotate_left
  ·rintro v1004
   refine RA.weak (env' := [(2, v6), (3, v7), (6, v32), (7, v33), (87, .int .i64 l302), (90, v1004), (92, .int .i64 l303), (94, .int .i64 l303)]) (L' := [obox 26 (TR.pair TR.int TR.int) v6 ((0 : Int), (0 : Int)), obox 26 (TR.pair TR.int TR.int) v7 ((0 : Int), (0 : Int)), obox 3 TR.int v32 l302, obox 3 TR.int v33 l303, imm (TR.sl (TR.sl TR.int)) v1004 x0]) (fun _ _ st => st) ?_
   refine RA.many [1, 4] (by kernel_rfl) ⟨⟨_, rfl, ?_⟩, ⟨_, rfl, ?_⟩, trivial⟩
   ·skip
    refine RL.ldPx (off := 0) (e' := l303) 3 Ex.ik Try_ln3 rfl rfl (Or.inr ⟨rfl, rfl⟩) rfl PtOf.obox Part.self ?_
    refine RL.fin ?_
    refine RA.next ?_
    refine RA.relist 7 #[true, true, false, true, false, true, false, true, false, false, false, false] rfl (by kernel_rfl) ?_
    exact fun a w st => h1028 v1004 a w (St.cut [0, 1, 2, 4] ⟨rfl, rfl, rfl, rfl, rfl, rfl, rfl, rfl, trivial⟩ (by decide) rfl st)
   refine RL.ldPx (off := 0) (e' := l302) 2 Ex.ik Try_ln3 rfl rfl (Or.inr ⟨rfl, rfl⟩) rfl PtOf.obox Part.self ?_
   refine RL.fin ?_
   refine RA.next ?_
   refine RA.relist 7 #[true, false, false, true, true, true, false, true, false, false, false, false] rfl (by kernel_rfl) ?_
   exact fun a w st => h1031 v1004 a w (St.cut [0, 1, 3, 4] ⟨rfl, rfl, rfl, rfl, rfl, rfl, rfl, rfl, trivial⟩ (by decide) rfl st)
  refine RA.meet (ι := Value) (fun (p : Value) => [(2, v6), (3, v7), (7, v33), (87, .int .i64 l302), (88, .int .i64 l303), (90, p), (91, .int .i64 l302)]) (fun (p : Value) => [obox 26 (TR.pair TR.int TR.int) v6 ((0 : Int), (0 : Int)), obox 26 (TR.pair TR.int TR.int) v7 ((0 : Int), (0 : Int)), obox 3 TR.int v33 l303, imm (TR.sl (TR.sl TR.int)) p x0]) 8 #[true, true, false, true, true, false, false, false, false, false, false, false] (fun h1041 => ?_) ?_
  rotate_left
  ·rintro v1004
   refine RA.weak (env' := [(2, v6), (3, v7), (7, v33), (87, .int .i64 l302), (88, .int .i64 l303), (90, v1004), (91, .int .i64 l302)]) (L' := [obox 26 (TR.pair TR.int TR.int) v6 ((0 : Int), (0 : Int)), obox 26 (TR.pair TR.int TR.int) v7 ((0 : Int), (0 : Int)), obox 3 TR.int v33 l303, imm (TR.sl (TR.sl TR.int)) v1004 x0]) (fun _ _ st => st) ?_
   refine RA.many [2, 5, 7] (by kernel_rfl) ⟨⟨_, rfl, ?_⟩, ⟨_, rfl, ?_⟩, ⟨_, rfl, ?_⟩, trivial⟩
   ·skip
    refine RL.call (vs := [.int .i64 l302, .int .i64 l303]) Try_fit38 rfl rfl rfl rfl rfl (fun S f w hS hW hi => mixed_low_c S w hS l302 l303 _ e999) ?_
    intro v1139
    refine RL.fin ?_
    refine RA.next ?_
    refine RA.relist 7 #[true, true, true, true, true, false, false, false, false, false, false, false] rfl (by kernel_rfl) ?_
    exact fun a w st => h1025 (v1139, v1004) a w (St.cut [0, 1, 2, 4, 3] ⟨rfl, rfl, rfl, rfl, rfl, rfl, trivial⟩ (by decide) rfl st)
   ·skip
    refine RL.ldPx (off := 0) (e' := l303) 2 Ex.ik Try_ln3 rfl rfl (Or.inr ⟨rfl, rfl⟩) rfl PtOf.obox Part.self ?_
    refine RL.fin ?_
    refine RA.next ?_
    refine RA.relist 7 #[true, true, false, true, true, true, false, false, false, false, false, false] rfl (by kernel_rfl) ?_
    exact fun a w st => h1030 v1004 a w (St.cut [0, 1, 2, 3] ⟨rfl, rfl, rfl, rfl, rfl, rfl, rfl, rfl, trivial⟩ (by decide) rfl st)
   refine RL.ldPx (off := 0) (e' := l303) 2 Ex.ik Try_ln3 rfl rfl (Or.inr ⟨rfl, rfl⟩) rfl PtOf.obox Part.self ?_
   refine RL.fin ?_
   refine RA.next ?_
   refine RA.relist 7 #[true, true, false, true, true, false, false, true, false, false, false, false] rfl (by kernel_rfl) ?_
   exact fun a w st => h1029 v1004 a w (St.cut [0, 1, 2, 3] ⟨rfl, rfl, rfl, rfl, rfl, rfl, rfl, rfl, trivial⟩ (by decide) rfl st)
  refine RA.meet (ι := Value) (fun (p : Value) => [(2, v6), (3, v7), (6, v32), (7, v33), (90, p), (91, .int .i64 l302), (92, .int .i64 l303), (94, .int .i64 l303)]) (fun (p : Value) => [obox 26 (TR.pair TR.int TR.int) v6 ((0 : Int), (0 : Int)), obox 26 (TR.pair TR.int TR.int) v7 ((0 : Int), (0 : Int)), obox 3 TR.int v32 l302, obox 3 TR.int v33 l303, imm (TR.sl (TR.sl TR.int)) p x0]) 8 #[false, false, false, true, true, true, false, true, false, false, false, false] (fun h1042 => ?_) ?_
  rotate_left
  ·rintro v1004
   refine RA.weak (env' := [(2, v6), (3, v7), (6, v32), (7, v33), (90, v1004), (91, .int .i64 l302), (92, .int .i64 l303), (94, .int .i64 l303)]) (L' := [obox 26 (TR.pair TR.int TR.int) v6 ((0 : Int), (0 : Int)), obox 26 (TR.pair TR.int TR.int) v7 ((0 : Int), (0 : Int)), obox 3 TR.int v32 l302, obox 3 TR.int v33 l303, imm (TR.sl (TR.sl TR.int)) v1004 x0]) (fun _ _ st => st) ?_
   refine RA.many [0, 1] (by kernel_rfl) ⟨⟨_, rfl, ?_⟩, ⟨_, rfl, ?_⟩, trivial⟩
   ·skip
    refine RL.ldPx (off := 0) (e' := l302) 2 Ex.ik Try_ln3 rfl rfl (Or.inr ⟨rfl, rfl⟩) rfl PtOf.obox Part.self ?_
    refine RL.fin ?_
    refine RA.next ?_
    refine RA.relist 7 #[true, false, false, true, true, true, false, true, false, false, false, false] rfl (by kernel_rfl) ?_
    exact fun a w st => h1031 v1004 a w (St.cut [0, 1, 3, 4] ⟨rfl, rfl, rfl, rfl, rfl, rfl, rfl, rfl, trivial⟩ (by decide) rfl st)
   refine RL.ldPx (off := 0) (e' := l303) 3 Ex.ik Try_ln3 rfl rfl (Or.inr ⟨rfl, rfl⟩) rfl PtOf.obox Part.self ?_
   refine RL.fin ?_
   refine RA.next ?_
   refine RA.relist 7 #[false, true, false, true, true, true, false, true, false, false, false, false] rfl (by kernel_rfl) ?_
   exact fun a w st => h1027 v1004 a w (St.cut [0, 1, 2, 4] ⟨rfl, rfl, rfl, rfl, rfl, rfl, rfl, rfl, trivial⟩ (by decide) rfl st)
  refine RA.meet (ι := Value) (fun (p : Value) => [(2, v6), (3, v7), (6, v32), (7, v33), (88, .int .i64 l303), (90, p), (91, .int .i64 l302), (92, .int .i64 l303)]) (fun (p : Value) => [obox 26 (TR.pair TR.int TR.int) v6 ((0 : Int), (0 : Int)), obox 26 (TR.pair TR.int TR.int) v7 ((0 : Int), (0 : Int)), obox 3 TR.int v32 l302, obox 3 TR.int v33 l303, imm (TR.sl (TR.sl TR.int)) p x0]) 8 #[false, true, false, true, true, true, false, false, false, false, false, false] (fun h1043 => ?_) ?_
  rotate_left
  ·rintro v1004
   refine RA.weak (env' := [(2, v6), (3, v7), (6, v32), (7, v33), (88, .int .i64 l303), (90, v1004), (91, .int .i64 l302), (92, .int .i64 l303)]) (L' := [obox 26 (TR.pair TR.int TR.int) v6 ((0 : Int), (0 : Int)), obox 26 (TR.pair TR.int TR.int) v7 ((0 : Int), (0 : Int)), obox 3 TR.int v32 l302, obox 3 TR.int v33 l303, imm (TR.sl (TR.sl TR.int)) v1004 x0]) (fun _ _ st => st) ?_
   refine RA.many [0, 7] (by kernel_rfl) ⟨⟨_, rfl, ?_⟩, ⟨_, rfl, ?_⟩, trivial⟩
   ·skip
    refine RL.ldPx (off := 0) (e' := l302) 2 Ex.ik Try_ln3 rfl rfl (Or.inr ⟨rfl, rfl⟩) rfl PtOf.obox Part.self ?_
    refine RL.fin ?_
    refine RA.next ?_
    refine RA.relist 7 #[true, true, false, true, true, true, false, false, false, false, false, false] rfl (by kernel_rfl) ?_
    exact fun a w st => h1030 v1004 a w (St.cut [0, 1, 3, 4] ⟨rfl, rfl, rfl, rfl, rfl, rfl, rfl, rfl, trivial⟩ (by decide) rfl st)
   refine RL.ldPx (off := 0) (e' := l303) 3 Ex.ik Try_ln3 rfl rfl (Or.inr ⟨rfl, rfl⟩) rfl PtOf.obox Part.self ?_
   refine RL.fin ?_
   refine RA.next ?_
   refine RA.relist 7 #[false, true, false, true, true, true, false, true, false, false, false, false] rfl (by kernel_rfl) ?_
   exact fun a w st => h1027 v1004 a w (St.cut [0, 1, 2, 4] ⟨rfl, rfl, rfl, rfl, rfl, rfl, rfl, rfl, trivial⟩ (by decide) rfl st)
  refine RA.meet (ι := Value × Value) (fun (p : Value × Value) => [(2, v6), (3, v7), (6, v32), (7, v33), (89, p.1), (90, p.2)]) (fun (p : Value × Value) => [obox 26 (TR.pair TR.int TR.int) v6 ((0 : Int), (0 : Int)), obox 26 (TR.pair TR.int TR.int) v7 ((0 : Int), (0 : Int)), obox 3 TR.int v32 l302, obox 3 TR.int v33 l303, imm (TR.pair TR.int TR.int) p.1 y998, imm (TR.sl (TR.sl TR.int)) p.2 x0]) 8 #[true, true, true, true, false, false, false, false, false, false, false, false] (fun h1044 => ?_) ?_
  rotate_left
  ·rintro ⟨v1009, v1004⟩
   refine RA.weak (env' := [(2, v6), (3, v7), (6, v32), (7, v33), (89, v1009), (90, v1004)]) (L' := [obox 26 (TR.pair TR.int TR.int) v6 ((0 : Int), (0 : Int)), obox 26 (TR.pair TR.int TR.int) v7 ((0 : Int), (0 : Int)), obox 3 TR.int v32 l302, obox 3 TR.int v33 l303, imm (TR.pair TR.int TR.int) v1009 y998, imm (TR.sl (TR.sl TR.int)) v1004 x0]) (fun _ _ st => st) ?_
   refine RA.many [4, 5, 7] (by kernel_rfl) ⟨⟨_, rfl, ?_⟩, ⟨_, rfl, ?_⟩, ⟨_, rfl, ?_⟩, trivial⟩
   ·skip
    refine RL.ldPx (off := 0) (e' := l302) 2 Ex.ik Try_ln3 rfl rfl (Or.inr ⟨rfl, rfl⟩) rfl PtOf.obox Part.self ?_
    refine RL.fin ?_
    refine RA.next ?_
    refine RA.relist 7 #[true, true, true, true, true, false, false, false, false, false, false, false] rfl (by kernel_rfl) ?_
    exact fun a w st => h1025 (v1009, v1004) a w (St.cut [0, 1, 3, 4, 5] ⟨rfl, rfl, rfl, rfl, rfl, rfl, trivial⟩ (by decide) rfl st)
   ·skip
    refine RL.ldPx (off := 0) (e' := l303) 3 Ex.ik Try_ln3 rfl rfl (Or.inr ⟨rfl, rfl⟩) rfl PtOf.obox Part.self ?_
    refine RL.fin ?_
    refine RA.next ?_
    refine RA.relist 7 #[true, true, true, true, false, true, false, false, false, false, false, false] rfl (by kernel_rfl) ?_
    exact fun a w st => h1035 (v1009, v1004) a w (St.cut [0, 1, 2, 3, 4, 5] ⟨rfl, rfl, rfl, rfl, rfl, rfl, rfl, trivial⟩ (by decide) rfl st)
   refine RL.ldPx (off := 0) (e' := l303) 3 Ex.ik Try_ln3 rfl rfl (Or.inr ⟨rfl, rfl⟩) rfl PtOf.obox Part.self ?_
   refine RL.fin ?_
   refine RA.next ?_
   refine RA.relist 7 #[true, true, true, true, false, false, false, true, false, false, false, false] rfl (by kernel_rfl) ?_
   exact fun a w st => h1024 (v1009, v1004) a w (St.cut [0, 1, 2, 3, 4, 5] ⟨rfl, rfl, rfl, rfl, rfl, rfl, rfl, trivial⟩ (by decide) rfl st)
  refine RA.meet (ι := Value) (fun (p : Value) => [(2, v6), (3, v7), (7, v33), (87, .int .i64 l302), (90, p), (91, .int .i64 l302), (92, .int .i64 l303)]) (fun (p : Value) => [obox 26 (TR.pair TR.int TR.int) v6 ((0 : Int), (0 : Int)), obox 26 (TR.pair TR.int TR.int) v7 ((0 : Int), (0 : Int)), obox 3 TR.int v33 l303, imm (TR.sl (TR.sl TR.int)) p x0]) 8 #[true, false, false, true, true, true, false, false, false, false, false, false] (fun h1045 => ?_) ?_
  rotate_left
  ·rintro v1004
   refine RA.weak (env' := [(2, v6), (3, v7), (7, v33), (87, .int .i64 l302), (90, v1004), (91, .int .i64 l302), (92, .int .i64 l303)]) (L' := [obox 26 (TR.pair TR.int TR.int) v6 ((0 : Int), (0 : Int)), obox 26 (TR.pair TR.int TR.int) v7 ((0 : Int), (0 : Int)), obox 3 TR.int v33 l303, imm (TR.sl (TR.sl TR.int)) v1004 x0]) (fun _ _ st => st) ?_
   refine RA.many [1, 7] (by kernel_rfl) ⟨⟨_, rfl, ?_⟩, ⟨_, rfl, ?_⟩, trivial⟩
   ·skip
    refine RL.ldPx (off := 0) (e' := l303) 2 Ex.ik Try_ln3 rfl rfl (Or.inr ⟨rfl, rfl⟩) rfl PtOf.obox Part.self ?_
    refine RL.fin ?_
    refine RA.next ?_
    refine RA.relist 7 #[true, true, false, true, true, true, false, false, false, false, false, false] rfl (by kernel_rfl) ?_
    exact fun a w st => h1030 v1004 a w (St.cut [0, 1, 2, 3] ⟨rfl, rfl, rfl, rfl, rfl, rfl, rfl, rfl, trivial⟩ (by decide) rfl st)
   refine RL.ldPx (off := 0) (e' := l303) 2 Ex.ik Try_ln3 rfl rfl (Or.inr ⟨rfl, rfl⟩) rfl PtOf.obox Part.self ?_
   refine RL.fin ?_
   refine RA.next ?_
   refine RA.relist 7 #[true, false, false, true, true, true, false, true, false, false, false, false] rfl (by kernel_rfl) ?_
   exact fun a w st => h1031 v1004 a w (St.cut [0, 1, 2, 3] ⟨rfl, rfl, rfl, rfl, rfl, rfl, rfl, rfl, trivial⟩ (by decide) rfl st)
  refine RA.meet (ι := Value) (fun (p : Value) => [(2, v6), (3, v7), (6, v32), (7, v33), (88, .int .i64 l303), (90, p), (91, .int .i64 l302), (94, .int .i64 l303)]) (fun (p : Value) => [obox 26 (TR.pair TR.int TR.int) v6 ((0 : Int), (0 : Int)), obox 26 (TR.pair TR.int TR.int) v7 ((0 : Int), (0 : Int)), obox 3 TR.int v32 l302, obox 3 TR.int v33 l303, imm (TR.sl (TR.sl TR.int)) p x0]) 8 #[false, true, false, true, true, false, false, true, false, false, false, false] (fun h1046 => ?_) ?_
  rotate_left
  ·rintro v1005
   refine RA.weak (env' := [(2, v6), (3, v7), (6, v32), (7, v33), (88, .int .i64 l303), (90, v1005), (91, .int .i64 l302), (94, .int .i64 l303)]) (L' := [obox 26 (TR.pair TR.int TR.int) v6 ((0 : Int), (0 : Int)), obox 26 (TR.pair TR.int TR.int) v7 ((0 : Int), (0 : Int)), obox 3 TR.int v32 l302, obox 3 TR.int v33 l303, imm (TR.sl (TR.sl TR.int)) v1005 x0]) (fun _ _ st => st) ?_
   refine RA.many [0, 5] (by kernel_rfl) ⟨⟨_, rfl, ?_⟩, ⟨_, rfl, ?_⟩, trivial⟩
   ·skip
    refine RL.ldPx (off := 0) (e' := l302) 2 Ex.ik Try_ln3 rfl rfl (Or.inr ⟨rfl, rfl⟩) rfl PtOf.obox Part.self ?_
    refine RL.fin ?_
    refine RA.next ?_
    refine RA.relist 7 #[true, true, false, true, true, false, false, true, false, false, false, false] rfl (by kernel_rfl) ?_
    exact fun a w st => h1029 v1005 a w (St.cut [0, 1, 3, 4] ⟨rfl, rfl, rfl, rfl, rfl, rfl, rfl, rfl, trivial⟩ (by decide) rfl st)
   refine RL.ldPx (off := 0) (e' := l303) 3 Ex.ik Try_ln3 rfl rfl (Or.inr ⟨rfl, rfl⟩) rfl PtOf.obox Part.self ?_
   refine RL.fin ?_
   refine RA.next ?_
   refine RA.relist 7 #[false, true, false, true, true, true, false, true, false, false, false, false] rfl (by kernel_rfl) ?_
   exact fun a w st => h1027 v1005 a w (St.cut [0, 1, 2, 4] ⟨rfl, rfl, rfl, rfl, rfl, rfl, rfl, rfl, trivial⟩ (by decide) rfl st)
  refine RA.meet (ι := Unit) (fun (p : Unit) => [(1, v5), (2, v6), (3, v7), (7, v33), (87, .int .i64 l302), (88, .int .i64 l303), (91, .int .i64 l302), (92, .int .i64 l303)]) (fun (p : Unit) => [imm (TR.ptr (TR.sl (TR.sl TR.int))) v5 x0, obox 26 (TR.pair TR.int TR.int) v6 ((0 : Int), (0 : Int)), obox 26 (TR.pair TR.int TR.int) v7 ((0 : Int), (0 : Int)), obox 3 TR.int v33 l303]) 8 #[true, true, false, false, true, true, false, false, false, false, false, false] (fun h1047 => ?_) ?_
  rotate_left
  ·rintro ⟨⟩
   refine RA.weak (env' := [(1, v5), (2, v6), (3, v7), (7, v33), (87, .int .i64 l302), (88, .int .i64 l303), (91, .int .i64 l302), (92, .int .i64 l303)]) (L' := [imm (TR.ptr (TR.sl (TR.sl TR.int))) v5 x0, obox 26 (TR.pair TR.int TR.int) v6 ((0 : Int), (0 : Int)), obox 26 (TR.pair TR.int TR.int) v7 ((0 : Int), (0 : Int)), obox 3 TR.int v33 l303]) (fun _ _ st => st) ?_
   refine RA.many [2, 3, 7] (by kernel_rfl) ⟨⟨_, rfl, ?_⟩, ⟨_, rfl, ?_⟩, ⟨_, rfl, ?_⟩, trivial⟩
   ·skip
    refine RL.call (vs := [.int .i64 l302, .int .i64 l303]) Try_fit38 rfl rfl rfl rfl rfl (fun S f w hS hW hi => mixed_low_c S w hS l302 l303 _ e999) ?_
    intro v1137
    refine RL.fin ?_
    refine RA.next ?_
    refine RA.relist 7 #[true, true, true, false, true, true, false, false, false, false, false, false] rfl (by kernel_rfl) ?_
    exact fun a w st => h1034 v1137 a w (St.cut [0, 1, 2, 3, 4] ⟨rfl, rfl, rfl, rfl, rfl, rfl, rfl, trivial⟩ (by decide) rfl st)
   ·skip
    refine RL.ldP (off := 0) (r := (TR.sl (TR.sl TR.int))) (e' := x0) 0 Try_ln22 rfl rfl (Or.inr ⟨rfl, rfl⟩) rfl PtOf.imm Part.self ?_
    intro v1138
    refine RL.fin ?_
    refine RA.next ?_
    refine RA.relist 7 #[true, true, false, true, true, true, false, false, false, false, false, false] rfl (by kernel_rfl) ?_
    exact fun a w st => h1030 v1138 a w (St.cut [1, 2, 3, 4] ⟨rfl, rfl, rfl, rfl, rfl, rfl, rfl, rfl, trivial⟩ (by decide) rfl st)
   refine RL.ldPx (off := 0) (e' := l303) 3 Ex.ik Try_ln3 rfl rfl (Or.inr ⟨rfl, rfl⟩) rfl PtOf.obox Part.self ?_
   refine RL.fin ?_
   refine RA.next ?_
   refine RA.relist 7 #[true, true, false, false, true, true, false, true, false, false, false, false] rfl (by kernel_rfl) ?_
   exact fun a w st => h1032 () a w (St.cut [0, 1, 2] ⟨rfl, rfl, rfl, rfl, rfl, rfl, rfl, rfl, trivial⟩ (by decide) rfl st)
  refine RA.meet (ι := Unit) (fun (p : Unit) => [(1, v5), (2, v6), (3, v7), (6, v32), (87, .int .i64 l302), (88, .int .i64 l303), (92, .int .i64 l303), (94, .int .i64 l303)]) (fun (p : Unit) => [imm (TR.ptr (TR.sl (TR.sl TR.int))) v5 x0, obox 26 (TR.pair TR.int TR.int) v6 ((0 : Int), (0 : Int)), obox 26 (TR.pair TR.int TR.int) v7 ((0 : Int), (0 : Int)), obox 3 TR.int v32 l302]) 8 #[true, true, false, false, false, true, false, true, false, false, false, false] (fun h1048 => ?_) ?_
  rotate_left
  ·rintro ⟨⟩
   refine RA.weak (env' := [(1, v5), (2, v6), (3, v7), (6, v32), (87, .int .i64 l302), (88, .int .i64 l303), (92, .int .i64 l303), (94, .int .i64 l303)]) (L' := [imm (TR.ptr (TR.sl (TR.sl TR.int))) v5 x0, obox 26 (TR.pair TR.int TR.int) v6 ((0 : Int), (0 : Int)), obox 26 (TR.pair TR.int TR.int) v7 ((0 : Int), (0 : Int)), obox 3 TR.int v32 l302]) (fun _ _ st => st) ?_
   refine RA.many [2, 3, 4] (by kernel_rfl) ⟨⟨_, rfl, ?_⟩, ⟨_, rfl, ?_⟩, ⟨_, rfl, ?_⟩, trivial⟩
   ·skip
    refine RL.call (vs := [.int .i64 l302, .int .i64 l303]) Try_fit38 rfl rfl rfl rfl rfl (fun S f w hS hW hi => mixed_low_c S w hS l302 l303 _ e999) ?_
    intro v1135
    refine RL.fin ?_
    refine RA.next ?_
    refine RA.relist 7 #[true, true, true, false, false, true, false, true, false, false, false, false] rfl (by kernel_rfl) ?_
    exact fun a w st => h1026 v1135 a w (St.cut [0, 1, 2, 3, 4] ⟨rfl, rfl, rfl, rfl, rfl, rfl, rfl, trivial⟩ (by decide) rfl st)
   ·skip
    refine RL.ldP (off := 0) (r := (TR.sl (TR.sl TR.int))) (e' := x0) 0 Try_ln22 rfl rfl (Or.inr ⟨rfl, rfl⟩) rfl PtOf.imm Part.self ?_
    intro v1136
    refine RL.fin ?_
    refine RA.next ?_
    refine RA.relist 7 #[true, true, false, true, false, true, false, true, false, false, false, false] rfl (by kernel_rfl) ?_
    exact fun a w st => h1028 v1136 a w (St.cut [1, 2, 3, 4] ⟨rfl, rfl, rfl, rfl, rfl, rfl, rfl, rfl, trivial⟩ (by decide) rfl st)
   refine RL.ldPx (off := 0) (e' := l302) 3 Ex.ik Try_ln3 rfl rfl (Or.inr ⟨rfl, rfl⟩) rfl PtOf.obox Part.self ?_
   refine RL.fin ?_
   refine RA.next ?_
   refine RA.relist 7 #[true, true, false, false, true, true, false, true, false, false, false, false] rfl (by kernel_rfl) ?_
   exact fun a w st => h1032 () a w (St.cut [0, 1, 2] ⟨rfl, rfl, rfl, rfl, rfl, rfl, rfl, rfl, trivial⟩ (by decide) rfl st)
  refine RA.meet (ι := Value) (fun (p : Value) => [(1, v5), (2, v6), (3, v7), (6, v32), (7, v33), (89, p), (92, .int .i64 l303)]) (fun (p : Value) => [imm (TR.ptr (TR.sl (TR.sl TR.int))) v5 x0, obox 26 (TR.pair TR.int TR.int) v6 ((0 : Int), (0 : Int)), obox 26 (TR.pair TR.int TR.int) v7 ((0 : Int), (0 : Int)), obox 3 TR.int v32 l302, obox 3 TR.int v33 l303, imm (TR.pair TR.int TR.int) p y998]) 8 #[true, true, true, false, false, true, false, false, false, false, false, false] (fun h1049 => ?_) ?_
  rotate_left
  ·rintro v1006
   refine RA.weak (env' := [(1, v5), (2, v6), (3, v7), (6, v32), (7, v33), (89, v1006), (92, .int .i64 l303)]) (L' := [imm (TR.ptr (TR.sl (TR.sl TR.int))) v5 x0, obox 26 (TR.pair TR.int TR.int) v6 ((0 : Int), (0 : Int)), obox 26 (TR.pair TR.int TR.int) v7 ((0 : Int), (0 : Int)), obox 3 TR.int v32 l302, obox 3 TR.int v33 l303, imm (TR.pair TR.int TR.int) v1006 y998]) (fun _ _ st => st) ?_
   refine RA.many [3, 4, 7] (by kernel_rfl) ⟨⟨_, rfl, ?_⟩, ⟨_, rfl, ?_⟩, ⟨_, rfl, ?_⟩, trivial⟩
   ·skip
    refine RL.ldP (off := 0) (r := (TR.sl (TR.sl TR.int))) (e' := x0) 0 Try_ln22 rfl rfl (Or.inr ⟨rfl, rfl⟩) rfl PtOf.imm Part.self ?_
    intro v1134
    refine RL.fin ?_
    refine RA.next ?_
    refine RA.relist 7 #[true, true, true, true, false, true, false, false, false, false, false, false] rfl (by kernel_rfl) ?_
    exact fun a w st => h1035 (v1006, v1134) a w (St.cut [1, 2, 3, 4, 5, 6] ⟨rfl, rfl, rfl, rfl, rfl, rfl, rfl, trivial⟩ (by decide) rfl st)
   ·skip
    refine RL.ldPx (off := 0) (e' := l302) 3 Ex.ik Try_ln3 rfl rfl (Or.inr ⟨rfl, rfl⟩) rfl PtOf.obox Part.self ?_
    refine RL.fin ?_
    refine RA.next ?_
    refine RA.relist 7 #[true, true, true, false, true, true, false, false, false, false, false, false] rfl (by kernel_rfl) ?_
    exact fun a w st => h1034 v1006 a w (St.cut [0, 1, 2, 4, 5] ⟨rfl, rfl, rfl, rfl, rfl, rfl, rfl, trivial⟩ (by decide) rfl st)
   refine RL.ldPx (off := 0) (e' := l303) 4 Ex.ik Try_ln3 rfl rfl (Or.inr ⟨rfl, rfl⟩) rfl PtOf.obox Part.self ?_
   refine RL.fin ?_
   refine RA.next ?_
   refine RA.relist 7 #[true, true, true, false, false, true, false, true, false, false, false, false] rfl (by kernel_rfl) ?_
   exact fun a w st => h1026 v1006 a w (St.cut [0, 1, 2, 3, 5] ⟨rfl, rfl, rfl, rfl, rfl, rfl, rfl, trivial⟩ (by decide) rfl st)
  refine RA.meet (ι := Value) (fun (p : Value) => [(1, v5), (2, v6), (3, v7), (6, v32), (7, v33), (89, p), (94, .int .i64 l303)]) (fun (p : Value) => [imm (TR.ptr (TR.sl (TR.sl TR.int))) v5 x0, obox 26 (TR.pair TR.int TR.int) v6 ((0 : Int), (0 : Int)), obox 26 (TR.pair TR.int TR.int) v7 ((0 : Int), (0 : Int)), obox 3 TR.int v32 l302, obox 3 TR.int v33 l303, imm (TR.pair TR.int TR.int) p y998]) 8 #[true, true, true, false, false, false, false, true, false, false, false, false] (fun h1050 => ?_) ?_
  rotate_left
  ·rintro v1007
   refine RA.weak (env' := [(1, v5), (2, v6), (3, v7), (6, v32), (7, v33), (89, v1007), (94, .int .i64 l303)]) (L' := [imm (TR.ptr (TR.sl (TR.sl TR.int))) v5 x0, obox 26 (TR.pair TR.int TR.int) v6 ((0 : Int), (0 : Int)), obox 26 (TR.pair TR.int TR.int) v7 ((0 : Int), (0 : Int)), obox 3 TR.int v32 l302, obox 3 TR.int v33 l303, imm (TR.pair TR.int TR.int) v1007 y998]) (fun _ _ st => st) ?_
   refine RA.many [3, 4, 5] (by kernel_rfl) ⟨⟨_, rfl, ?_⟩, ⟨_, rfl, ?_⟩, ⟨_, rfl, ?_⟩, trivial⟩
   ·skip
    refine RL.ldP (off := 0) (r := (TR.sl (TR.sl TR.int))) (e' := x0) 0 Try_ln22 rfl rfl (Or.inr ⟨rfl, rfl⟩) rfl PtOf.imm Part.self ?_
    intro v1133
    refine RL.fin ?_
    refine RA.next ?_
    refine RA.relist 7 #[true, true, true, true, false, false, false, true, false, false, false, false] rfl (by kernel_rfl) ?_
    exact fun a w st => h1024 (v1007, v1133) a w (St.cut [1, 2, 3, 4, 5, 6] ⟨rfl, rfl, rfl, rfl, rfl, rfl, rfl, trivial⟩ (by decide) rfl st)
   ·skip
    refine RL.ldPx (off := 0) (e' := l302) 3 Ex.ik Try_ln3 rfl rfl (Or.inr ⟨rfl, rfl⟩) rfl PtOf.obox Part.self ?_
    refine RL.fin ?_
    refine RA.next ?_
    refine RA.relist 7 #[true, true, true, false, true, false, false, true, false, false, false, false] rfl (by kernel_rfl) ?_
    exact fun a w st => h1033 v1007 a w (St.cut [0, 1, 2, 4, 5] ⟨rfl, rfl, rfl, rfl, rfl, rfl, rfl, trivial⟩ (by decide) rfl st)
   refine RL.ldPx (off := 0) (e' := l303) 4 Ex.ik Try_ln3 rfl rfl (Or.inr ⟨rfl, rfl⟩) rfl PtOf.obox Part.self ?_
   refine RL.fin ?_
   refine RA.next ?_
   refine RA.relist 7 #[true, true, true, false, false, true, false, true, false, false, false, false] rfl (by kernel_rfl) ?_
   exact fun a w st => h1026 v1007 a w (St.cut [0, 1, 2, 3, 5] ⟨rfl, rfl, rfl, rfl, rfl, rfl, rfl, trivial⟩ (by decide) rfl st)
  refine RA.meet (ι := Unit) (fun (p : Unit) => [(1, v5), (2, v6), (3, v7), (7, v33), (87, .int .i64 l302), (88, .int .i64 l303), (91, .int .i64 l302), (94, .int .i64 l303)]) (fun (p : Unit) => [imm (TR.ptr (TR.sl (TR.sl TR.int))) v5 x0, obox 26 (TR.pair TR.int TR.int) v6 ((0 : Int), (0 : Int)), obox 26 (TR.pair TR.int TR.int) v7 ((0 : Int), (0 : Int)), obox 3 TR.int v33 l303]) 8 #[true, true, false, false, true, false, false, true, false, false, false, false] (fun h1051 => ?_) ?_
  rotate_left
  ·rintro ⟨⟩
   refine RA.weak (env' := [(1, v5), (2, v6), (3, v7), (7, v33), (87, .int .i64 l302), (88, .int .i64 l303), (91, .int .i64 l302), (94, .int .i64 l303)]) (L' := [imm (TR.ptr (TR.sl (TR.sl TR.int))) v5 x0, obox 26 (TR.pair TR.int TR.int) v6 ((0 : Int), (0 : Int)), obox 26 (TR.pair TR.int TR.int) v7 ((0 : Int), (0 : Int)), obox 3 TR.int v33 l303]) (fun _ _ st => st) ?_
   refine RA.many [2, 3, 5] (by kernel_rfl) ⟨⟨_, rfl, ?_⟩, ⟨_, rfl, ?_⟩, ⟨_, rfl, ?_⟩, trivial⟩
   ·skip
    refine RL.call (vs := [.int .i64 l302, .int .i64 l303]) Try_fit38 rfl rfl rfl rfl rfl (fun S f w hS hW hi => mixed_low_c S w hS l302 l303 _ e999) ?_
    intro v1131
    refine RL.fin ?_
    refine RA.next ?_
    refine RA.relist 7 #[true, true, true, false, true, false, false, true, false, false, false, false] rfl (by kernel_rfl) ?_
    exact fun a w st => h1033 v1131 a w (St.cut [0, 1, 2, 3, 4] ⟨rfl, rfl, rfl, rfl, rfl, rfl, rfl, trivial⟩ (by decide) rfl st)
   ·skip
    refine RL.ldP (off := 0) (r := (TR.sl (TR.sl TR.int))) (e' := x0) 0 Try_ln22 rfl rfl (Or.inr ⟨rfl, rfl⟩) rfl PtOf.imm Part.self ?_
    intro v1132
    refine RL.fin ?_
    refine RA.next ?_
    refine RA.relist 7 #[true, true, false, true, true, false, false, true, false, false, false, false] rfl (by kernel_rfl) ?_
    exact fun a w st => h1029 v1132 a w (St.cut [1, 2, 3, 4] ⟨rfl, rfl, rfl, rfl, rfl, rfl, rfl, rfl, trivial⟩ (by decide) rfl st)
   refine RL.ldPx (off := 0) (e' := l303) 3 Ex.ik Try_ln3 rfl rfl (Or.inr ⟨rfl, rfl⟩) rfl PtOf.obox Part.self ?_
   refine RL.fin ?_
   refine RA.next ?_
   refine RA.relist 7 #[true, true, false, false, true, true, false, true, false, false, false, false] rfl (by kernel_rfl) ?_
   exact fun a w st => h1032 () a w (St.cut [0, 1, 2] ⟨rfl, rfl, rfl, rfl, rfl, rfl, rfl, rfl, trivial⟩ (by decide) rfl st)
  refine RA.meet (ι := Value) (fun (p : Value) => [(2, v6), (3, v7), (6, v32), (88, .int .i64 l303), (90, p), (92, .int .i64 l303), (94, .int .i64 l303)]) (fun (p : Value) => [obox 26 (TR.pair TR.int TR.int) v6 ((0 : Int), (0 : Int)), obox 26 (TR.pair TR.int TR.int) v7 ((0 : Int), (0 : Int)), obox 3 TR.int v32 l302, imm (TR.sl (TR.sl TR.int)) p x0]) 8 #[false, true, false, true, false, true, false, true, false, false, false, false] (fun h1052 => ?_) ?_
  rotate_left
  ·rintro v1005
   refine RA.weak (env' := [(2, v6), (3, v7), (6, v32), (88, .int .i64 l303), (90, v1005), (92, .int .i64 l303), (94, .int .i64 l303)]) (L' := [obox 26 (TR.pair TR.int TR.int) v6 ((0 : Int), (0 : Int)), obox 26 (TR.pair TR.int TR.int) v7 ((0 : Int), (0 : Int)), obox 3 TR.int v32 l302, imm (TR.sl (TR.sl TR.int)) v1005 x0]) (fun _ _ st => st) ?_
   refine RA.many [0, 4] (by kernel_rfl) ⟨⟨_, rfl, ?_⟩, ⟨_, rfl, ?_⟩, trivial⟩
   ·skip
    refine RL.ldPx (off := 0) (e' := l302) 2 Ex.ik Try_ln3 rfl rfl (Or.inr ⟨rfl, rfl⟩) rfl PtOf.obox Part.self ?_
    refine RL.fin ?_
    refine RA.next ?_
    refine RA.relist 7 #[true, true, false, true, false, true, false, true, false, false, false, false] rfl (by kernel_rfl) ?_
    exact fun a w st => h1028 v1005 a w (St.cut [0, 1, 2, 3] ⟨rfl, rfl, rfl, rfl, rfl, rfl, rfl, rfl, trivial⟩ (by decide) rfl st)
   refine RL.ldPx (off := 0) (e' := l302) 2 Ex.ik Try_ln3 rfl rfl (Or.inr ⟨rfl, rfl⟩) rfl PtOf.obox Part.self ?_
   refine RL.fin ?_
   refine RA.next ?_
   refine RA.relist 7 #[false, true, false, true, true, true, false, true, false, false, false, false] rfl (by kernel_rfl) ?_
   exact fun a w st => h1027 v1005 a w (St.cut [0, 1, 2, 3] ⟨rfl, rfl, rfl, rfl, rfl, rfl, rfl, rfl, trivial⟩ (by decide) rfl st)
  refine RA.meet (ι := Value) (fun (p : Value) => [(2, v6), (3, v7), (6, v32), (7, v33), (87, .int .i64 l302), (88, .int .i64 l303), (90, p), (94, .int .i64 l303)]) (fun (p : Value) => [obox 26 (TR.pair TR.int TR.int) v6 ((0 : Int), (0 : Int)), obox 26 (TR.pair TR.int TR.int) v7 ((0 : Int), (0 : Int)), obox 3 TR.int v32 l302, obox 3 TR.int v33 l303, imm (TR.sl (TR.sl TR.int)) p x0]) 8 #[true, true, false, true, false, false, false, true, false, false, false, false] (fun h1053 => ?_) ?_
  rotate_left
  ·rintro v1008
   refine RA.weak (env' := [(2, v6), (3, v7), (6, v32), (7, v33), (87, .int .i64 l302), (88, .int .i64 l303), (90, v1008), (94, .int .i64 l303)]) (L' := [obox 26 (TR.pair TR.int TR.int) v6 ((0 : Int), (0 : Int)), obox 26 (TR.pair TR.int TR.int) v7 ((0 : Int), (0 : Int)), obox 3 TR.int v32 l302, obox 3 TR.int v33 l303, imm (TR.sl (TR.sl TR.int)) v1008 x0]) (fun _ _ st => st) ?_
   refine RA.many [2, 4, 5] (by kernel_rfl) ⟨⟨_, rfl, ?_⟩, ⟨_, rfl, ?_⟩, ⟨_, rfl, ?_⟩, trivial⟩
   ·skip
    refine RL.call (vs := [.int .i64 l302, .int .i64 l303]) Try_fit38 rfl rfl rfl rfl rfl (fun S f w hS hW hi => mixed_low_c S w hS l302 l303 _ e999) ?_
    intro v1130
    refine RL.fin ?_
    refine RA.next ?_
    refine RA.relist 7 #[true, true, true, true, false, false, false, true, false, false, false, false] rfl (by kernel_rfl) ?_
    exact fun a w st => h1024 (v1130, v1008) a w (St.cut [0, 1, 2, 3, 5, 4] ⟨rfl, rfl, rfl, rfl, rfl, rfl, rfl, trivial⟩ (by decide) rfl st)
   ·skip
    refine RL.ldPx (off := 0) (e' := l302) 2 Ex.ik Try_ln3 rfl rfl (Or.inr ⟨rfl, rfl⟩) rfl PtOf.obox Part.self ?_
    refine RL.fin ?_
    refine RA.next ?_
    refine RA.relist 7 #[true, true, false, true, true, false, false, true, false, false, false, false] rfl (by kernel_rfl) ?_
    exact fun a w st => h1029 v1008 a w (St.cut [0, 1, 3, 4] ⟨rfl, rfl, rfl, rfl, rfl, rfl, rfl, rfl, trivial⟩ (by decide) rfl st)
   refine RL.ldPx (off := 0) (e' := l303) 3 Ex.ik Try_ln3 rfl rfl (Or.inr ⟨rfl, rfl⟩) rfl PtOf.obox Part.self ?_
   refine RL.fin ?_
   refine RA.next ?_
   refine RA.relist 7 #[true, true, false, true, false, true, false, true, false, false, false, false] rfl (by kernel_rfl) ?_
   exact fun a w st => h1028 v1008 a w (St.cut [0, 1, 2, 4] ⟨rfl, rfl, rfl, rfl, rfl, rfl, rfl, rfl, trivial⟩ (by decide) rfl st)
  refine RA.meet (ι := Value) (fun (p : Value) => [(1, v5), (2, v6), (3, v7), (7, v33), (89, p), (91, .int .i64 l302)]) (fun (p : Value) => [imm (TR.ptr (TR.sl (TR.sl TR.int))) v5 x0, obox 26 (TR.pair TR.int TR.int) v6 ((0 : Int), (0 : Int)), obox 26 (TR.pair TR.int TR.int) v7 ((0 : Int), (0 : Int)), obox 3 TR.int v33 l303, imm (TR.pair TR.int TR.int) p y998]) 8 #[true, true, true, false, true, false, false, false, false, false, false, false] (fun h1054 => ?_) ?_
  rotate_left
  ·rintro v1006
   refine RA.weak (env' := [(1, v5), (2, v6), (3, v7), (7, v33), (89, v1006), (91, .int .i64 l302)]) (L' := [imm (TR.ptr (TR.sl (TR.sl TR.int))) v5 x0, obox 26 (TR.pair TR.int TR.int) v6 ((0 : Int), (0 : Int)), obox 26 (TR.pair TR.int TR.int) v7 ((0 : Int), (0 : Int)), obox 3 TR.int v33 l303, imm (TR.pair TR.int TR.int) v1006 y998]) (fun _ _ st => st) ?_
   refine RA.many [3, 5, 7] (by kernel_rfl) ⟨⟨_, rfl, ?_⟩, ⟨_, rfl, ?_⟩, ⟨_, rfl, ?_⟩, trivial⟩
   ·skip
    refine RL.ldP (off := 0) (r := (TR.sl (TR.sl TR.int))) (e' := x0) 0 Try_ln22 rfl rfl (Or.inr ⟨rfl, rfl⟩) rfl PtOf.imm Part.self ?_
    intro v1129
    refine RL.fin ?_
    refine RA.next ?_
    refine RA.relist 7 #[true, true, true, true, true, false, false, false, false, false, false, false] rfl (by kernel_rfl) ?_
    exact fun a w st => h1025 (v1006, v1129) a w (St.cut [1, 2, 3, 4, 5] ⟨rfl, rfl, rfl, rfl, rfl, rfl, trivial⟩ (by decide) rfl st)
   ·skip
    refine RL.ldPx (off := 0) (e' := l303) 3 Ex.ik Try_ln3 rfl rfl (Or.inr ⟨rfl, rfl⟩) rfl PtOf.obox Part.self ?_
    refine RL.fin ?_
    refine RA.next ?_
    refine RA.relist 7 #[true, true, true, false, true, true, false, false, false, false, false, false] rfl (by kernel_rfl) ?_
    exact fun a w st => h1034 v1006 a w (St.cut [0, 1, 2, 3, 4] ⟨rfl, rfl, rfl, rfl, rfl, rfl, rfl, trivial⟩ (by decide) rfl st)
   refine RL.ldPx (off := 0) (e' := l303) 3 Ex.ik Try_ln3 rfl rfl (Or.inr ⟨rfl, rfl⟩) rfl PtOf.obox Part.self ?_
   refine RL.fin ?_
   refine RA.next ?_
   refine RA.relist 7 #[true, true, true, false, true, false, false, true, false, false, false, false] rfl (by kernel_rfl) ?_
   exact fun a w st => h1033 v1006 a w (St.cut [0, 1, 2, 3, 4] ⟨rfl, rfl, rfl, rfl, rfl, rfl, rfl, trivial⟩ (by decide) rfl st)
  refine RA.meet (ι := Unit) (fun (p : Unit) => [(1, v5), (2, v6), (3, v7), (6, v32), (7, v33), (87, .int .i64 l302), (88, .int .i64 l303), (94, .int .i64 l303)]) (fun (p : Unit) => [imm (TR.ptr (TR.sl (TR.sl TR.int))) v5 x0, obox 26 (TR.pair TR.int TR.int) v6 ((0 : Int), (0 : Int)), obox 26 (TR.pair TR.int TR.int) v7 ((0 : Int), (0 : Int)), obox 3 TR.int v32 l302, obox 3 TR.int v33 l303]) 9 #[true, true, false, false, false, false, false, true, false, false, false, false] (fun h1055 => ?_) ?_
  rotate_left
  ·rintro ⟨⟩
   refine RA.weak (env' := [(1, v5), (2, v6), (3, v7), (6, v32), (7, v33), (87, .int .i64 l302), (88, .int .i64 l303), (94, .int .i64 l303)]) (L' := [imm (TR.ptr (TR.sl (TR.sl TR.int))) v5 x0, obox 26 (TR.pair TR.int TR.int) v6 ((0 : Int), (0 : Int)), obox 26 (TR.pair TR.int TR.int) v7 ((0 : Int), (0 : Int)), obox 3 TR.int v32 l302, obox 3 TR.int v33 l303]) (fun _ _ st => st) ?_
   refine RA.many [2, 3, 4, 5] (by kernel_rfl) ⟨⟨_, rfl, ?_⟩, ⟨_, rfl, ?_⟩, ⟨_, rfl, ?_⟩, ⟨_, rfl, ?_⟩, trivial⟩
   ·skip
    refine RL.call (vs := [.int .i64 l302, .int .i64 l303]) Try_fit38 rfl rfl rfl rfl rfl (fun S f w hS hW hi => mixed_low_c S w hS l302 l303 _ e999) ?_
    intro v1127
    refine RL.fin ?_
    refine RA.next ?_
    refine RA.relist 8 #[true, true, true, false, false, false, false, true, false, false, false, false] rfl (by kernel_rfl) ?_
    exact fun a w st => h1050 v1127 a w (St.cut [0, 1, 2, 3, 4, 5] ⟨rfl, rfl, rfl, rfl, rfl, rfl, rfl, trivial⟩ (by decide) rfl st)
   ·skip
    refine RL.ldP (off := 0) (r := (TR.sl (TR.sl TR.int))) (e' := x0) 0 Try_ln22 rfl rfl (Or.inr ⟨rfl, rfl⟩) rfl PtOf.imm Part.self ?_
    intro v1128
    refine RL.fin ?_
    refine RA.next ?_
    refine RA.relist 8 #[true, true, false, true, false, false, false, true, false, false, false, false] rfl (by kernel_rfl) ?_
    exact fun a w st => h1053 v1128 a w (St.cut [1, 2, 3, 4, 5] ⟨rfl, rfl, rfl, rfl, rfl, rfl, rfl, rfl, trivial⟩ (by decide) rfl st)
   ·skip
    refine RL.ldPx (off := 0) (e' := l302) 3 Ex.ik Try_ln3 rfl rfl (Or.inr ⟨rfl, rfl⟩) rfl PtOf.obox Part.self ?_
    refine RL.fin ?_
    refine RA.next ?_
    refine RA.relist 8 #[true, true, false, false, true, false, false, true, false, false, false, false] rfl (by kernel_rfl) ?_
    exact fun a w st => h1051 () a w (St.cut [0, 1, 2, 4] ⟨rfl, rfl, rfl, rfl, rfl, rfl, rfl, rfl, trivial⟩ (by decide) rfl st)
   refine RL.ldPx (off := 0) (e' := l303) 4 Ex.ik Try_ln3 rfl rfl (Or.inr ⟨rfl, rfl⟩) rfl PtOf.obox Part.self ?_
   refine RL.fin ?_
   refine RA.next ?_
   refine RA.relist 8 #[true, true, false, false, false, true, false, true, false, false, false, false] rfl (by kernel_rfl) ?_
   exact fun a w st => h1048 () a w (St.cut [0, 1, 2, 3] ⟨rfl, rfl, rfl, rfl, rfl, rfl, rfl, rfl, trivial⟩ (by decide) rfl st)
  refine RA.meet (ι := Value) (fun (p : Value) => [(2, v6), (3, v7), (6, v32), (7, v33), (88, .int .i64 l303), (90, p), (94, .int .i64 l303)]) (fun (p : Value) => [obox 26 (TR.pair TR.int TR.int) v6 ((0 : Int), (0 : Int)), obox 26 (TR.pair TR.int TR.int) v7 ((0 : Int), (0 : Int)), obox 3 TR.int v32 l302, obox 3 TR.int v33 l303, imm (TR.sl (TR.sl TR.int)) p x0]) 9 #[false, true, false, true, false, false, false, true, false, false, false, false] (fun h1056 => ?_) ?_
  rotate_left
  ·rintro v1005
   refine RA.weak (env' := [(2, v6), (3, v7), (6, v32), (7, v33), (88, .int .i64 l303), (90, v1005), (94, .int .i64 l303)]) (L' := [obox 26 (TR.pair TR.int TR.int) v6 ((0 : Int), (0 : Int)), obox 26 (TR.pair TR.int TR.int) v7 ((0 : Int), (0 : Int)), obox 3 TR.int v32 l302, obox 3 TR.int v33 l303, imm (TR.sl (TR.sl TR.int)) v1005 x0]) (fun _ _ st => st) ?_
   refine RA.many [0, 4, 5] (by kernel_rfl) ⟨⟨_, rfl, ?_⟩, ⟨_, rfl, ?_⟩, ⟨_, rfl, ?_⟩, trivial⟩
   ·skip
    refine RL.ldPx (off := 0) (e' := l302) 2 Ex.ik Try_ln3 rfl rfl (Or.inr ⟨rfl, rfl⟩) rfl PtOf.obox Part.self ?_
    refine RL.fin ?_
    refine RA.next ?_
    refine RA.relist 8 #[true, true, false, true, false, false, false, true, false, false, false, false] rfl (by kernel_rfl) ?_
    exact fun a w st => h1053 v1005 a w (St.cut [0, 1, 2, 3, 4] ⟨rfl, rfl, rfl, rfl, rfl, rfl, rfl, rfl, trivial⟩ (by decide) rfl st)
   ·skip
    refine RL.ldPx (off := 0) (e' := l302) 2 Ex.ik Try_ln3 rfl rfl (Or.inr ⟨rfl, rfl⟩) rfl PtOf.obox Part.self ?_
    refine RL.fin ?_
    refine RA.next ?_
    refine RA.relist 8 #[false, true, false, true, true, false, false, true, false, false, false, false] rfl (by kernel_rfl) ?_
    exact fun a w st => h1046 v1005 a w (St.cut [0, 1, 2, 3, 4] ⟨rfl, rfl, rfl, rfl, rfl, rfl, rfl, rfl, trivial⟩ (by decide) rfl st)
   refine RL.ldPx (off := 0) (e' := l303) 3 Ex.ik Try_ln3 rfl rfl (Or.inr ⟨rfl, rfl⟩) rfl PtOf.obox Part.self ?_
   refine RL.fin ?_
   refine RA.next ?_
   refine RA.relist 8 #[false, true, false, true, false, true, false, true, false, false, false, false] rfl (by kernel_rfl) ?_
   exact fun a w st => h1052 v1005 a w (St.cut [0, 1, 2, 4] ⟨rfl, rfl, rfl, rfl, rfl, rfl, rfl, trivial⟩ (by decide) rfl st)
  refine RA.meet (ι := Value) (fun (p : Value) => [(2, v6), (3, v7), (6, v32), (7, v33), (90, p), (91, .int .i64 l302), (92, .int .i64 l303)]) (fun (p : Value) => [obox 26 (TR.pair TR.int TR.int) v6 ((0 : Int), (0 : Int)), obox 26 (TR.pair TR.int TR.int) v7 ((0 : Int), (0 : Int)), obox 3 TR.int v32 l302, obox 3 TR.int v33 l303, imm (TR.sl (TR.sl TR.int)) p x0]) 9 #[false, false, false, true, true, true, false, false, false, false, false, false] (fun h1057 => ?_) ?_
  rotate_left
  ·rintro v1004
   refine RA.weak (env' := [(2, v6), (3, v7), (6, v32), (7, v33), (90, v1004), (91, .int .i64 l302), (92, .int .i64 l303)]) (L' := [obox 26 (TR.pair TR.int TR.int) v6 ((0 : Int), (0 : Int)), obox 26 (TR.pair TR.int TR.int) v7 ((0 : Int), (0 : Int)), obox 3 TR.int v32 l302, obox 3 TR.int v33 l303, imm (TR.sl (TR.sl TR.int)) v1004 x0]) (fun _ _ st => st) ?_
   refine RA.many [0, 1, 7] (by kernel_rfl) ⟨⟨_, rfl, ?_⟩, ⟨_, rfl, ?_⟩, ⟨_, rfl, ?_⟩, trivial⟩
   ·skip
    refine RL.ldPx (off := 0) (e' := l302) 2 Ex.ik Try_ln3 rfl rfl (Or.inr ⟨rfl, rfl⟩) rfl PtOf.obox Part.self ?_
    refine RL.fin ?_
    refine RA.next ?_
    refine RA.relist 8 #[true, false, false, true, true, true, false, false, false, false, false, false] rfl (by kernel_rfl) ?_
    exact fun a w st => h1045 v1004 a w (St.cut [0, 1, 3, 4] ⟨rfl, rfl, rfl, rfl, rfl, rfl, rfl, trivial⟩ (by decide) rfl st)
   ·skip
    refine RL.ldPx (off := 0) (e' := l303) 3 Ex.ik Try_ln3 rfl rfl (Or.inr ⟨rfl, rfl⟩) rfl PtOf.obox Part.self ?_
    refine RL.fin ?_
    refine RA.next ?_
    refine RA.relist 8 #[false, true, false, true, true, true, false, false, false, false, false, false] rfl (by kernel_rfl) ?_
    exact fun a w st => h1043 v1004 a w (St.cut [0, 1, 2, 3, 4] ⟨rfl, rfl, rfl, rfl, rfl, rfl, rfl, rfl, trivial⟩ (by decide) rfl st)
   refine RL.ldPx (off := 0) (e' := l303) 3 Ex.ik Try_ln3 rfl rfl (Or.inr ⟨rfl, rfl⟩) rfl PtOf.obox Part.self ?_
   refine RL.fin ?_
   refine RA.next ?_
   refine RA.relist 8 #[false, false, false, true, true, true, false, true, false, false, false, false] rfl (by kernel_rfl) ?_
   exact fun a w st => h1042 v1004 a w (St.cut [0, 1, 2, 3, 4] ⟨rfl, rfl, rfl, rfl, rfl, rfl, rfl, rfl, trivial⟩ (by decide) rfl st)
  refine RA.meet (ι := Value) (fun (p : Value) => [(2, v6), (3, v7), (6, v32), (7, v33), (87, .int .i64 l302), (88, .int .i64 l303), (90, p)]) (fun (p : Value) => [obox 26 (TR.pair TR.int TR.int) v6 ((0 : Int), (0 : Int)), obox 26 (TR.pair TR.int TR.int) v7 ((0 : Int), (0 : Int)), obox 3 TR.int v32 l302, obox 3 TR.int v33 l303, imm (TR.sl (TR.sl TR.int)) p x0]) 9 #[true, true, false, true, false, false, false, false, false, false, false, false] (fun h1058 => ?_) ?_
  rotate_left
  ·rintro v1004
   refine RA.weak (env' := [(2, v6), (3, v7), (6, v32), (7, v33), (87, .int .i64 l302), (88, .int .i64 l303), (90, v1004)]) (L' := [obox 26 (TR.pair TR.int TR.int) v6 ((0 : Int), (0 : Int)), obox 26 (TR.pair TR.int TR.int) v7 ((0 : Int), (0 : Int)), obox 3 TR.int v32 l302, obox 3 TR.int v33 l303, imm (TR.sl (TR.sl TR.int)) v1004 x0]) (fun _ _ st => st) ?_
   refine RA.many [2, 4, 5, 7] (by kernel_rfl) ⟨⟨_, rfl, ?_⟩, ⟨_, rfl, ?_⟩, ⟨_, rfl, ?_⟩, ⟨_, rfl, ?_⟩, trivial⟩
   ·skip
    refine RL.call (vs := [.int .i64 l302, .int .i64 l303]) Try_fit38 rfl rfl rfl rfl rfl (fun S f w hS hW hi => mixed_low_c S w hS l302 l303 _ e999) ?_
    intro v1126
    refine RL.fin ?_
    refine RA.next ?_
    refine RA.relist 8 #[true, true, true, true, false, false, false, false, false, false, false, false] rfl (by kernel_rfl) ?_
    exact fun a w st => h1044 (v1126, v1004) a w (St.cut [0, 1, 2, 3, 5, 4] ⟨rfl, rfl, rfl, rfl, rfl, rfl, trivial⟩ (by decide) rfl st)
   ·skip
    refine RL.ldPx (off := 0) (e' := l302) 2 Ex.ik Try_ln3 rfl rfl (Or.inr ⟨rfl, rfl⟩) rfl PtOf.obox Part.self ?_
    refine RL.fin ?_
    refine RA.next ?_
    refine RA.relist 8 #[true, true, false, true, true, false, false, false, false, false, false, false] rfl (by kernel_rfl) ?_
    exact fun a w st => h1041 v1004 a w (St.cut [0, 1, 3, 4] ⟨rfl, rfl, rfl, rfl, rfl, rfl, rfl, trivial⟩ (by decide) rfl st)
   ·skip
    refine RL.ldPx (off := 0) (e' := l303) 3 Ex.ik Try_ln3 rfl rfl (Or.inr ⟨rfl, rfl⟩) rfl PtOf.obox Part.self ?_
    refine RL.fin ?_
    refine RA.next ?_
    refine RA.relist 8 #[true, true, false, true, false, true, false, false, false, false, false, false] rfl (by kernel_rfl) ?_
    exact fun a w st => h1037 v1004 a w (St.cut [0, 1, 2, 3, 4] ⟨rfl, rfl, rfl, rfl, rfl, rfl, rfl, rfl, trivial⟩ (by decide) rfl st)
   refine RL.ldPx (off := 0) (e' := l303) 3 Ex.ik Try_ln3 rfl rfl (Or.inr ⟨rfl, rfl⟩) rfl PtOf.obox Part.self ?_
   refine RL.fin ?_
   refine RA.next ?_
   refine RA.relist 8 #[true, true, false, true, false, false, false, true, false, false, false, false] rfl (by kernel_rfl) ?_
   exact fun a w st => h1053 v1004 a w (St.cut [0, 1, 2, 3, 4] ⟨rfl, rfl, rfl, rfl, rfl, rfl, rfl, rfl, trivial⟩ (by decide) rfl st)
  refine RA.meet (ι := Unit) (fun (p : Unit) => [(1, v5), (2, v6), (3, v7), (6, v32), (88, .int .i64 l303), (92, .int .i64 l303), (94, .int .i64 l303)]) (fun (p : Unit) => [imm (TR.ptr (TR.sl (TR.sl TR.int))) v5 x0, obox 26 (TR.pair TR.int TR.int) v6 ((0 : Int), (0 : Int)), obox 26 (TR.pair TR.int TR.int) v7 ((0 : Int), (0 : Int)), obox 3 TR.int v32 l302]) 9 #[false, true, false, false, false, true, false, true, false, false, false, false] (fun h1059 => ?_) ?_
  rotate_left
  ·rintro ⟨⟩
   refine RA.weak (env' := [(1, v5), (2, v6), (3, v7), (6, v32), (88, .int .i64 l303), (92, .int .i64 l303), (94, .int .i64 l303)]) (L' := [imm (TR.ptr (TR.sl (TR.sl TR.int))) v5 x0, obox 26 (TR.pair TR.int TR.int) v6 ((0 : Int), (0 : Int)), obox 26 (TR.pair TR.int TR.int) v7 ((0 : Int), (0 : Int)), obox 3 TR.int v32 l302]) (fun _ _ st => st) ?_
   refine RA.many [0, 3, 4] (by kernel_rfl) ⟨⟨_, rfl, ?_⟩, ⟨_, rfl, ?_⟩, ⟨_, rfl, ?_⟩, trivial⟩
   ·skip
    refine RL.ldPx (off := 0) (e' := l302) 3 Ex.ik Try_ln3 rfl rfl (Or.inr ⟨rfl, rfl⟩) rfl PtOf.obox Part.self ?_
    refine RL.fin ?_
    refine RA.next ?_
    refine RA.relist 8 #[true, true, false, false, false, true, false, true, false, false, false, false] rfl (by kernel_rfl) ?_
    exact fun a w st => h1048 () a w (St.cut [0, 1, 2, 3] ⟨rfl, rfl, rfl, rfl, rfl, rfl, rfl, rfl, trivial⟩ (by decide) rfl st)
   ·skip
    refine RL.ldP (off := 0) (r := (TR.sl (TR.sl TR.int))) (e' := x0) 0 Try_ln22 rfl rfl (Or.inr ⟨rfl, rfl⟩) rfl PtOf.imm Part.self ?_
    intro v1125
    refine RL.fin ?_
    refine RA.next ?_
    refine RA.relist 8 #[false, true, false, true, false, true, false, true, false, false, false, false] rfl (by kernel_rfl) ?_
    exact fun a w st => h1052 v1125 a w (St.cut [1, 2, 3, 4] ⟨rfl, rfl, rfl, rfl, rfl, rfl, rfl, trivial⟩ (by decide) rfl st)
   refine RL.ldPx (off := 0) (e' := l302) 3 Ex.ik Try_ln3 rfl rfl (Or.inr ⟨rfl, rfl⟩) rfl PtOf.obox Part.self ?_
   refine RL.fin ?_
   refine RA.next ?_
   refine RA.relist 8 #[false, true, false, false, true, true, false, true, false, false, false, false] rfl (by kernel_rfl) ?_
   exact fun a w st => h1039 () a w (St.cut [0, 1, 2, 3] ⟨rfl, rfl, rfl, rfl, rfl, rfl, rfl, rfl, trivial⟩ (by decide) rfl st)
  refine RA.meet (ι := Value) (fun (p : Value) => [(2, v6), (3, v7), (6, v32), (7, v33), (87, .int .i64 l302), (90, p), (92, .int .i64 l303)]) (fun (p : Value) => [obox 26 (TR.pair TR.int TR.int) v6 ((0 : Int), (0 : Int)), obox 26 (TR.pair TR.int TR.int) v7 ((0 : Int), (0 : Int)), obox 3 TR.int v32 l302, obox 3 TR.int v33 l303, imm (TR.sl (TR.sl TR.int)) p x0]) 9 #[true, false, false, true, false, true, false, false, false, false, false, false] (fun h1060 => ?_) ?_
  rotate_left
  ·rintro v1004
   refine RA.weak (env' := [(2, v6), (3, v7), (6, v32), (7, v33), (87, .int .i64 l302), (90, v1004), (92, .int .i64 l303)]) (L' := [obox 26 (TR.pair TR.int TR.int) v6 ((0 : Int), (0 : Int)), obox 26 (TR.pair TR.int TR.int) v7 ((0 : Int), (0 : Int)), obox 3 TR.int v32 l302, obox 3 TR.int v33 l303, imm (TR.sl (TR.sl TR.int)) v1004 x0]) (fun _ _ st => st) ?_
   refine RA.many [1, 4, 7] (by kernel_rfl) ⟨⟨_, rfl, ?_⟩, ⟨_, rfl, ?_⟩, ⟨_, rfl, ?_⟩, trivial⟩
   ·skip
    refine RL.ldPx (off := 0) (e' := l303) 3 Ex.ik Try_ln3 rfl rfl (Or.inr ⟨rfl, rfl⟩) rfl PtOf.obox Part.self ?_
    refine RL.fin ?_
    refine RA.next ?_
    refine RA.relist 8 #[true, true, false, true, false, true, false, false, false, false, false, false] rfl (by kernel_rfl) ?_
    exact fun a w st => h1037 v1004 a w (St.cut [0, 1, 2, 3, 4] ⟨rfl, rfl, rfl, rfl, rfl, rfl, rfl, rfl, trivial⟩ (by decide) rfl st)
   ·skip
    refine RL.ldPx (off := 0) (e' := l302) 2 Ex.ik Try_ln3 rfl rfl (Or.inr ⟨rfl, rfl⟩) rfl PtOf.obox Part.self ?_
    refine RL.fin ?_
    refine RA.next ?_
    refine RA.relist 8 #[true, false, false, true, true, true, false, false, false, false, false, false] rfl (by kernel_rfl) ?_
    exact fun a w st => h1045 v1004 a w (St.cut [0, 1, 3, 4] ⟨rfl, rfl, rfl, rfl, rfl, rfl, rfl, trivial⟩ (by decide) rfl st)
   refine RL.ldPx (off := 0) (e' := l303) 3 Ex.ik Try_ln3 rfl rfl (Or.inr ⟨rfl, rfl⟩) rfl PtOf.obox Part.self ?_
   refine RL.fin ?_
   refine RA.next ?_
   refine RA.relist 8 #[true, false, false, true, false, true, false, true, false, false, false, false] rfl (by kernel_rfl) ?_
   exact fun a w st => h1040 v1004 a w (St.cut [0, 1, 2, 3, 4] ⟨rfl, rfl, rfl, rfl, rfl, rfl, rfl, rfl, trivial⟩ (by decide) rfl st)
  refine RA.meet (ι := Value) (fun (p : Value) => [(2, v6), (3, v7), (7, v33), (87, .int .i64 l302), (90, p), (91, .int .i64 l302)]) (fun (p : Value) => [obox 26 (TR.pair TR.int TR.int) v6 ((0 : Int), (0 : Int)), obox 26 (TR.pair TR.int TR.int) v7 ((0 : Int), (0 : Int)), obox 3 TR.int v33 l303, imm (TR.sl (TR.sl TR.int)) p x0]) 9 #[true, false, false, true, true, false, false, false, false, false, false, false] (fun h1061 => ?_) ?_
  rotate_left
  ·rintro v1004
   refine RA.weak (env' := [(2, v6), (3, v7), (7, v33), (87, .int .i64 l302), (90, v1004), (91, .int .i64 l302)]) (L' := [obox 26 (TR.pair TR.int TR.int) v6 ((0 : Int), (0 : Int)), obox 26 (TR.pair TR.int TR.int) v7 ((0 : Int), (0 : Int)), obox 3 TR.int v33 l303, imm (TR.sl (TR.sl TR.int)) v1004 x0]) (fun _ _ st => st) ?_
   refine RA.many [1, 5, 7] (by kernel_rfl) ⟨⟨_, rfl, ?_⟩, ⟨_, rfl, ?_⟩, ⟨_, rfl, ?_⟩, trivial⟩
   ·skip
    refine RL.ldPx (off := 0) (e' := l303) 2 Ex.ik Try_ln3 rfl rfl (Or.inr ⟨rfl, rfl⟩) rfl PtOf.obox Part.self ?_
    refine RL.fin ?_
    refine RA.next ?_
    refine RA.relist 8 #[true, true, false, true, true, false, false, false, false, false, false, false] rfl (by kernel_rfl) ?_
    exact fun a w st => h1041 v1004 a w (St.cut [0, 1, 2, 3] ⟨rfl, rfl, rfl, rfl, rfl, rfl, rfl, trivial⟩ (by decide) rfl st)
   ·skip
    refine RL.ldPx (off := 0) (e' := l303) 2 Ex.ik Try_ln3 rfl rfl (Or.inr ⟨rfl, rfl⟩) rfl PtOf.obox Part.self ?_
    refine RL.fin ?_
    refine RA.next ?_
    refine RA.relist 8 #[true, false, false, true, true, true, false, false, false, false, false, false] rfl (by kernel_rfl) ?_
    exact fun a w st => h1045 v1004 a w (St.cut [0, 1, 2, 3] ⟨rfl, rfl, rfl, rfl, rfl, rfl, rfl, trivial⟩ (by decide) rfl st)
   refine RL.ldPx (off := 0) (e' := l303) 2 Ex.ik Try_ln3 rfl rfl (Or.inr ⟨rfl, rfl⟩) rfl PtOf.obox Part.self ?_
   refine RL.fin ?_
   refine RA.next ?_
   refine RA.relist 8 #[true, false, false, true, true, false, false, true, false, false, false, false] rfl (by kernel_rfl) ?_
   exact fun a w st => h1036 v1004 a w (St.cut [0, 1, 2, 3] ⟨rfl, rfl, rfl, rfl, rfl, rfl, rfl, trivial⟩ (by decide) rfl st)
  refine RA.meet (ι := Unit) (fun (p : Unit) => [(1, v5), (2, v6), (3, v7), (6, v32), (7, v33), (88, .int .i64 l303), (91, .int .i64 l302), (92, .int .i64 l303)]) (fun (p : Unit) => [imm (TR.ptr (TR.sl (TR.sl TR.int))) v5 x0, obox 26 (TR.pair TR.int TR.int) v6 ((0 : Int), (0 : Int)), obox 26 (TR.pair TR.int TR.int) v7 ((0 : Int), (0 : Int)), obox 3 TR.int v32 l302, obox 3 TR.int v33 l303]) 9 #[false, true, false, false, true, true, false, false, false, false, false, false] (fun h1062 => ?_) ?_
  rotate_left
  ·rintro ⟨⟩
   refine RA.weak (env' := [(1, v5), (2, v6), (3, v7), (6, v32), (7, v33), (88, .int .i64 l303), (91, .int .i64 l302), (92, .int .i64 l303)]) (L' := [imm (TR.ptr (TR.sl (TR.sl TR.int))) v5 x0, obox 26 (TR.pair TR.int TR.int) v6 ((0 : Int), (0 : Int)), obox 26 (TR.pair TR.int TR.int) v7 ((0 : Int), (0 : Int)), obox 3 TR.int v32 l302, obox 3 TR.int v33 l303]) (fun _ _ st => st) ?_
   refine RA.many [0, 3, 7] (by kernel_rfl) ⟨⟨_, rfl, ?_⟩, ⟨_, rfl, ?_⟩, ⟨_, rfl, ?_⟩, trivial⟩
   ·skip
    refine RL.ldPx (off := 0) (e' := l302) 3 Ex.ik Try_ln3 rfl rfl (Or.inr ⟨rfl, rfl⟩) rfl PtOf.obox Part.self ?_
    refine RL.fin ?_
    refine RA.next ?_
    refine RA.relist 8 #[true, true, false, false, true, true, false, false, false, false, false, false] rfl (by kernel_rfl) ?_
    exact fun a w st => h1047 () a w (St.cut [0, 1, 2, 4] ⟨rfl, rfl, rfl, rfl, rfl, rfl, rfl, rfl, trivial⟩ (by decide) rfl st)
   ·skip
    refine RL.ldP (off := 0) (r := (TR.sl (TR.sl TR.int))) (e' := x0) 0 Try_ln22 rfl rfl (Or.inr ⟨rfl, rfl⟩) rfl PtOf.imm Part.self ?_
    intro v1124
    refine RL.fin ?_
    refine RA.next ?_
    refine RA.relist 8 #[false, true, false, true, true, true, false, false, false, false, false, false] rfl (by kernel_rfl) ?_
    exact fun a w st => h1043 v1124 a w (St.cut [1, 2, 3, 4, 5] ⟨rfl, rfl, rfl, rfl, rfl, rfl, rfl, rfl, trivial⟩ (by decide) rfl st)
   refine RL.ldPx (off := 0) (e' := l303) 4 Ex.ik Try_ln3 rfl rfl (Or.inr ⟨rfl, rfl⟩) rfl PtOf.obox Part.self ?_
   refine RL.fin ?_
   refine RA.next ?_
   refine RA.relist 8 #[false, true, false, false, true, true, false, true, false, false, false, false] rfl (by kernel_rfl) ?_
   exact fun a w st => h1039 () a w (St.cut [0, 1, 2, 3] ⟨rfl, rfl, rfl, rfl, rfl, rfl, rfl, rfl, trivial⟩ (by decide) rfl st)
  refine RA.meet (ι := Unit) (fun (p : Unit) => [(1, v5), (2, v6), (3, v7), (6, v32), (7, v33), (87, .int .i64 l302), (92, .int .i64 l303), (94, .int .i64 l303)]) (fun (p : Unit) => [imm (TR.ptr (TR.sl (TR.sl TR.int))) v5 x0, obox 26 (TR.pair TR.int TR.int) v6 ((0 : Int), (0 : Int)), obox 26 (TR.pair TR.int TR.int) v7 ((0 : Int), (0 : Int)), obox 3 TR.int v32 l302, obox 3 TR.int v33 l303]) 9 #[true, false, false, false, false, true, false, true, false, false, false, false] (fun h1063 => ?_) ?_
  rotate_left
  ·rintro ⟨⟩
   refine RA.weak (env' := [(1, v5), (2, v6), (3, v7), (6, v32), (7, v33), (87, .int .i64 l302), (92, .int .i64 l303), (94, .int .i64 l303)]) (L' := [imm (TR.ptr (TR.sl (TR.sl TR.int))) v5 x0, obox 26 (TR.pair TR.int TR.int) v6 ((0 : Int), (0 : Int)), obox 26 (TR.pair TR.int TR.int) v7 ((0 : Int), (0 : Int)), obox 3 TR.int v32 l302, obox 3 TR.int v33 l303]) (fun _ _ st => st) ?_
   refine RA.many [1, 3, 4] (by kernel_rfl) ⟨⟨_, rfl, ?_⟩, ⟨_, rfl, ?_⟩, ⟨_, rfl, ?_⟩, trivial⟩
   ·skip
    refine RL.ldPx (off := 0) (e' := l303) 4 Ex.ik Try_ln3 rfl rfl (Or.inr ⟨rfl, rfl⟩) rfl PtOf.obox Part.self ?_
    refine RL.fin ?_
    refine RA.next ?_
    refine RA.relist 8 #[true, true, false, false, false, true, false, true, false, false, false, false] rfl (by kernel_rfl) ?_
    exact fun a w st => h1048 () a w (St.cut [0, 1, 2, 3] ⟨rfl, rfl, rfl, rfl, rfl, rfl, rfl, rfl, trivial⟩ (by decide) rfl st)
   ·skip
    refine RL.ldP (off := 0) (r := (TR.sl (TR.sl TR.int))) (e' := x0) 0 Try_ln22 rfl rfl (Or.inr ⟨rfl, rfl⟩) rfl PtOf.imm Part.self ?_
    intro v1123
    refine RL.fin ?_
    refine RA.next ?_
    refine RA.relist 8 #[true, false, false, true, false, true, false, true, false, false, false, false] rfl (by kernel_rfl) ?_
    exact fun a w st => h1040 v1123 a w (St.cut [1, 2, 3, 4, 5] ⟨rfl, rfl, rfl, rfl, rfl, rfl, rfl, rfl, trivial⟩ (by decide) rfl st)
   refine RL.ldPx (off := 0) (e' := l302) 3 Ex.ik Try_ln3 rfl rfl (Or.inr ⟨rfl, rfl⟩) rfl PtOf.obox Part.self ?_
   refine RL.fin ?_
   refine RA.next ?_
   refine RA.relist 8 #[true, false, false, false, true, true, false, true, false, false, false, false] rfl (by kernel_rfl) ?_
   exact fun a w st => h1038 () a w (St.cut [0, 1, 2, 4] ⟨rfl, rfl, rfl, rfl, rfl, rfl, rfl, rfl, trivial⟩ (by decide) rfl st)
  refine RA.meet (ι := Value) (fun (p : Value) => [(2, v6), (3, v7), (6, v32), (7, v33), (88, .int .i64 l303), (90, p), (92, .int .i64 l303)]) (fun (p : Value) => [obox 26 (TR.pair TR.int TR.int) v6 ((0 : Int), (0 : Int)), obox 26 (TR.pair TR.int TR.int) v7 ((0 : Int), (0 : Int)), obox 3 TR.int v32 l302, obox 3 TR.int v33 l303, imm (TR.sl (TR.sl TR.int)) p x0]) 9 #[false, true, false, true, false, true, false, false, false, false, false, false] (fun h1064 => ?_) ?_
  rotate_left
  ·rintro v1004
   refine RA.weak (env' := [(2, v6), (3, v7), (6, v32), (7, v33), (88, .int .i64 l303), (90, v1004), (92, .int .i64 l303)]) (L' := [obox 26 (TR.pair TR.int TR.int) v6 ((0 : Int), (0 : Int)), obox 26 (TR.pair TR.int TR.int) v7 ((0 : Int), (0 : Int)), obox 3 TR.int v32 l302, obox 3 TR.int v33 l303, imm (TR.sl (TR.sl TR.int)) v1004 x0]) (fun _ _ st => st) ?_
   refine RA.many [0, 4, 7] (by kernel_rfl) ⟨⟨_, rfl, ?_⟩, ⟨_, rfl, ?_⟩, ⟨_, rfl, ?_⟩, trivial⟩
   ·skip
    refine RL.ldPx (off := 0) (e' := l302) 2 Ex.ik Try_ln3 rfl rfl (Or.inr ⟨rfl, rfl⟩) rfl PtOf.obox Part.self ?_
    refine RL.fin ?_
    refine RA.next ?_
    refine RA.relist 8 #[true, true, false, true, false, true, false, false, false, false, false, false] rfl (by kernel_rfl) ?_
    exact fun a w st => h1037 v1004 a w (St.cut [0, 1, 2, 3, 4] ⟨rfl, rfl, rfl, rfl, rfl, rfl, rfl, rfl, trivial⟩ (by decide) rfl st)
   ·skip
    refine RL.ldPx (off := 0) (e' := l302) 2 Ex.ik Try_ln3 rfl rfl (Or.inr ⟨rfl, rfl⟩) rfl PtOf.obox Part.self ?_
    refine RL.fin ?_
    refine RA.next ?_
    refine RA.relist 8 #[false, true, false, true, true, true, false, false, false, false, false, false] rfl (by kernel_rfl) ?_
    exact fun a w st => h1043 v1004 a w (St.cut [0, 1, 2, 3, 4] ⟨rfl, rfl, rfl, rfl, rfl, rfl, rfl, rfl, trivial⟩ (by decide) rfl st)
   refine RL.ldPx (off := 0) (e' := l303) 3 Ex.ik Try_ln3 rfl rfl (Or.inr ⟨rfl, rfl⟩) rfl PtOf.obox Part.self ?_
   refine RL.fin ?_
   refine RA.next ?_
   refine RA.relist 8 #[false, true, false, true, false, true, false, true, false, false, false, false] rfl (by kernel_rfl) ?_
   exact fun a w st => h1052 v1004 a w (St.cut [0, 1, 2, 4] ⟨rfl, rfl, rfl, rfl, rfl, rfl, rfl, trivial⟩ (by decide) rfl st)
  refine RA.meet (ι := Unit) (fun (p : Unit) => [(1, v5), (2, v6), (3, v7), (6, v32), (7, v33), (88, .int .i64 l303), (91, .int .i64 l302), (94, .int .i64 l303)]) (fun (p : Unit) => [imm (TR.ptr (TR.sl (TR.sl TR.int))) v5 x0, obox 26 (TR.pair TR.int TR.int) v6 ((0 : Int), (0 : Int)), obox 26 (TR.pair TR.int TR.int) v7 ((0 : Int), (0 : Int)), obox 3 TR.int v32 l302, obox 3 TR.int v33 l303]) 9 #[false, true, false, false, true, false, false, true, false, false, false, false] (fun h1065 => ?_) ?_
  rotate_left
  ·rintro ⟨⟩
   refine RA.weak (env' := [(1, v5), (2, v6), (3, v7), (6, v32), (7, v33), (88, .int .i64 l303), (91, .int .i64 l302), (94, .int .i64 l303)]) (L' := [imm (TR.ptr (TR.sl (TR.sl TR.int))) v5 x0, obox 26 (TR.pair TR.int TR.int) v6 ((0 : Int), (0 : Int)), obox 26 (TR.pair TR.int TR.int) v7 ((0 : Int), (0 : Int)), obox 3 TR.int v32 l302, obox 3 TR.int v33 l303]) (fun _ _ st => st) ?_
   refine RA.many [0, 3, 5] (by kernel_rfl) ⟨⟨_, rfl, ?_⟩, ⟨_, rfl, ?_⟩, ⟨_, rfl, ?_⟩, trivial⟩
   ·skip
    refine RL.ldPx (off := 0) (e' := l302) 3 Ex.ik Try_ln3 rfl rfl (Or.inr ⟨rfl, rfl⟩) rfl PtOf.obox Part.self ?_
    refine RL.fin ?_
    refine RA.next ?_
    refine RA.relist 8 #[true, true, false, false, true, false, false, true, false, false, false, false] rfl (by kernel_rfl) ?_
    exact fun a w st => h1051 () a w (St.cut [0, 1, 2, 4] ⟨rfl, rfl, rfl, rfl, rfl, rfl, rfl, rfl, trivial⟩ (by decide) rfl st)
   ·skip
    refine RL.ldP (off := 0) (r := (TR.sl (TR.sl TR.int))) (e' := x0) 0 Try_ln22 rfl rfl (Or.inr ⟨rfl, rfl⟩) rfl PtOf.imm Part.self ?_
    intro v1122
    refine RL.fin ?_
    refine RA.next ?_
    refine RA.relist 8 #[false, true, false, true, true, false, false, true, false, false, false, false] rfl (by kernel_rfl) ?_
    exact fun a w st => h1046 v1122 a w (St.cut [1, 2, 3, 4, 5] ⟨rfl, rfl, rfl, rfl, rfl, rfl, rfl, rfl, trivial⟩ (by decide) rfl st)
   refine RL.ldPx (off := 0) (e' := l303) 4 Ex.ik Try_ln3 rfl rfl (Or.inr ⟨rfl, rfl⟩) rfl PtOf.obox Part.self ?_
   refine RL.fin ?_
   refine RA.next ?_
   refine RA.relist 8 #[false, true, false, false, true, true, false, true, false, false, false, false] rfl (by kernel_rfl) ?_
   exact fun a w st => h1039 () a w (St.cut [0, 1, 2, 3] ⟨rfl, rfl, rfl, rfl, rfl, rfl, rfl, rfl, trivial⟩ (by decide) rfl st)
  refine RA.meet (ι := Unit) (fun (p : Unit) => [(1, v5), (2, v6), (3, v7), (7, v33), (87, .int .i64 l302), (91, .int .i64 l302), (92, .int .i64 l303)]) (fun (p : Unit) => [imm (TR.ptr (TR.sl (TR.sl TR.int))) v5 x0, obox 26 (TR.pair TR.int TR.int) v6 ((0 : Int), (0 : Int)), obox 26 (TR.pair TR.int TR.int) v7 ((0 : Int), (0 : Int)), obox 3 TR.int v33 l303]) 9 #[true, false, false, false, true, true, false, false, false, false, false, false] (fun h1066 => ?_) ?_
  rotate_left
  ·rintro ⟨⟩
   refine RA.weak (env' := [(1, v5), (2, v6), (3, v7), (7, v33), (87, .int .i64 l302), (91, .int .i64 l302), (92, .int .i64 l303)]) (L' := [imm (TR.ptr (TR.sl (TR.sl TR.int))) v5 x0, obox 26 (TR.pair TR.int TR.int) v6 ((0 : Int), (0 : Int)), obox 26 (TR.pair TR.int TR.int) v7 ((0 : Int), (0 : Int)), obox 3 TR.int v33 l303]) (fun _ _ st => st) ?_
   refine RA.many [1, 3, 7] (by kernel_rfl) ⟨⟨_, rfl, ?_⟩, ⟨_, rfl, ?_⟩, ⟨_, rfl, ?_⟩, trivial⟩
   ·skip
    refine RL.ldPx (off := 0) (e' := l303) 3 Ex.ik Try_ln3 rfl rfl (Or.inr ⟨rfl, rfl⟩) rfl PtOf.obox Part.self ?_
    refine RL.fin ?_
    refine RA.next ?_
    refine RA.relist 8 #[true, true, false, false, true, true, false, false, false, false, false, false] rfl (by kernel_rfl) ?_
    exact fun a w st => h1047 () a w (St.cut [0, 1, 2, 3] ⟨rfl, rfl, rfl, rfl, rfl, rfl, rfl, rfl, trivial⟩ (by decide) rfl st)
   ·skip
    refine RL.ldP (off := 0) (r := (TR.sl (TR.sl TR.int))) (e' := x0) 0 Try_ln22 rfl rfl (Or.inr ⟨rfl, rfl⟩) rfl PtOf.imm Part.self ?_
    intro v1121
    refine RL.fin ?_
    refine RA.next ?_
    refine RA.relist 8 #[true, false, false, true, true, true, false, false, false, false, false, false] rfl (by kernel_rfl) ?_
    exact fun a w st => h1045 v1121 a w (St.cut [1, 2, 3, 4] ⟨rfl, rfl, rfl, rfl, rfl, rfl, rfl, trivial⟩ (by decide) rfl st)
   refine RL.ldPx (off := 0) (e' := l303) 3 Ex.ik Try_ln3 rfl rfl (Or.inr ⟨rfl, rfl⟩) rfl PtOf.obox Part.self ?_
   refine RL.fin ?_
   refine RA.next ?_
   refine RA.relist 8 #[true, false, false, false, true, true, false, true, false, false, false, false] rfl (by kernel_rfl) ?_
   exact fun a w st => h1038 () a w (St.cut [0, 1, 2, 3] ⟨rfl, rfl, rfl, rfl, rfl, rfl, rfl, rfl, trivial⟩ (by decide) rfl st)
  refine RA.meet (ι := Value) (fun (p : Value) => [(2, v6), (3, v7), (6, v32), (7, v33), (88, .int .i64 l303), (90, p), (91, .int .i64 l302)]) (fun (p : Value) => [obox 26 (TR.pair TR.int TR.int) v6 ((0 : Int), (0 : Int)), obox 26 (TR.pair TR.int TR.int) v7 ((0 : Int), (0 : Int)), obox 3 TR.int v32 l302, obox 3 TR.int v33 l303, imm (TR.sl (TR.sl TR.int)) p x0]) 9 #[false, true, false, true, true, false, false, false, false, false, false, false] (fun h1067 => ?_) ?_
  rotate_left
  ·rintro v1004
   refine RA.weak (env' := [(2, v6), (3, v7), (6, v32), (7, v33), (88, .int .i64 l303), (90, v1004), (91, .int .i64 l302)]) (L' := [obox 26 (TR.pair TR.int TR.int) v6 ((0 : Int), (0 : Int)), obox 26 (TR.pair TR.int TR.int) v7 ((0 : Int), (0 : Int)), obox 3 TR.int v32 l302, obox 3 TR.int v33 l303, imm (TR.sl (TR.sl TR.int)) v1004 x0]) (fun _ _ st => st) ?_
   refine RA.many [0, 5, 7] (by kernel_rfl) ⟨⟨_, rfl, ?_⟩, ⟨_, rfl, ?_⟩, ⟨_, rfl, ?_⟩, trivial⟩
   ·skip
    refine RL.ldPx (off := 0) (e' := l302) 2 Ex.ik Try_ln3 rfl rfl (Or.inr ⟨rfl, rfl⟩) rfl PtOf.obox Part.self ?_
    refine RL.fin ?_
    refine RA.next ?_
    refine RA.relist 8 #[true, true, false, true, true, false, false, false, false, false, false, false] rfl (by kernel_rfl) ?_
    exact fun a w st => h1041 v1004 a w (St.cut [0, 1, 3, 4] ⟨rfl, rfl, rfl, rfl, rfl, rfl, rfl, trivial⟩ (by decide) rfl st)
   ·skip
    refine RL.ldPx (off := 0) (e' := l303) 3 Ex.ik Try_ln3 rfl rfl (Or.inr ⟨rfl, rfl⟩) rfl PtOf.obox Part.self ?_
    refine RL.fin ?_
    refine RA.next ?_
    refine RA.relist 8 #[false, true, false, true, true, true, false, false, false, false, false, false] rfl (by kernel_rfl) ?_
    exact fun a w st => h1043 v1004 a w (St.cut [0, 1, 2, 3, 4] ⟨rfl, rfl, rfl, rfl, rfl, rfl, rfl, rfl, trivial⟩ (by decide) rfl st)
   refine RL.ldPx (off := 0) (e' := l303) 3 Ex.ik Try_ln3 rfl rfl (Or.inr ⟨rfl, rfl⟩) rfl PtOf.obox Part.self ?_
   refine RL.fin ?_
   refine RA.next ?_
   refine RA.relist 8 #[false, true, false, true, true, false, false, true, false, false, false, false] rfl (by kernel_rfl) ?_
   exact fun a w st => h1046 v1004 a w (St.cut [0, 1, 2, 3, 4] ⟨rfl, rfl, rfl, rfl, rfl, rfl, rfl, rfl, trivial⟩ (by decide) rfl st)
  refine RA.meet (ι := Value) (fun (p : Value) => [(1, v5), (2, v6), (3, v7), (6, v32), (7, v33), (89, p)]) (fun (p : Value) => [imm (TR.ptr (TR.sl (TR.sl TR.int))) v5 x0, obox 26 (TR.pair TR.int TR.int) v6 ((0 : Int), (0 : Int)), obox 26 (TR.pair TR.int TR.int) v7 ((0 : Int), (0 : Int)), obox 3 TR.int v32 l302, obox 3 TR.int v33 l303, imm (TR.pair TR.int TR.int) p y998]) 9 #[true, true, true, false, false, false, false, false, false, false, false, false] (fun h1068 => ?_) ?_
  rotate_left
  ·rintro v1006
   refine RA.weak (env' := [(1, v5), (2, v6), (3, v7), (6, v32), (7, v33), (89, v1006)]) (L' := [imm (TR.ptr (TR.sl (TR.sl TR.int))) v5 x0, obox 26 (TR.pair TR.int TR.int) v6 ((0 : Int), (0 : Int)), obox 26 (TR.pair TR.int TR.int) v7 ((0 : Int), (0 : Int)), obox 3 TR.int v32 l302, obox 3 TR.int v33 l303, imm (TR.pair TR.int TR.int) v1006 y998]) (fun _ _ st => st) ?_
   refine RA.many [3, 4, 5, 7] (by kernel_rfl) ⟨⟨_, rfl, ?_⟩, ⟨_, rfl, ?_⟩, ⟨_, rfl, ?_⟩, ⟨_, rfl, ?_⟩, trivial⟩
   ·skip
    refine RL.ldP (off := 0) (r := (TR.sl (TR.sl TR.int))) (e' := x0) 0 Try_ln22 rfl rfl (Or.inr ⟨rfl, rfl⟩) rfl PtOf.imm Part.self ?_
    intro v1120
    refine RL.fin ?_
    refine RA.next ?_
    refine RA.relist 8 #[true, true, true, true, false, false, false, false, false, false, false, false] rfl (by kernel_rfl) ?_
    exact fun a w st => h1044 (v1006, v1120) a w (St.cut [1, 2, 3, 4, 5, 6] ⟨rfl, rfl, rfl, rfl, rfl, rfl, trivial⟩ (by decide) rfl st)
   ·skip
    refine RL.ldPx (off := 0) (e' := l302) 3 Ex.ik Try_ln3 rfl rfl (Or.inr ⟨rfl, rfl⟩) rfl PtOf.obox Part.self ?_
    refine RL.fin ?_
    refine RA.next ?_
    refine RA.relist 8 #[true, true, true, false, true, false, false, false, false, false, false, false] rfl (by kernel_rfl) ?_
    exact fun a w st => h1054 v1006 a w (St.cut [0, 1, 2, 4, 5] ⟨rfl, rfl, rfl, rfl, rfl, rfl, trivial⟩ (by decide) rfl st)
   ·skip
    refine RL.ldPx (off := 0) (e' := l303) 4 Ex.ik Try_ln3 rfl rfl (Or.inr ⟨rfl, rfl⟩) rfl PtOf.obox Part.self ?_
    refine RL.fin ?_
    refine RA.next ?_
    refine RA.relist 8 #[true, true, true, false, false, true, false, false, false, false, false, false] rfl (by kernel_rfl) ?_
    exact fun a w st => h1049 v1006 a w (St.cut [0, 1, 2, 3, 4, 5] ⟨rfl, rfl, rfl, rfl, rfl, rfl, rfl, trivial⟩ (by decide) rfl st)
   refine RL.ldPx (off := 0) (e' := l303) 4 Ex.ik Try_ln3 rfl rfl (Or.inr ⟨rfl, rfl⟩) rfl PtOf.obox Part.self ?_
   refine RL.fin ?_
   refine RA.next ?_
   refine RA.relist 8 #[true, true, true, false, false, false, false, true, false, false, false, false] rfl (by kernel_rfl) ?_
   exact fun a w st => h1050 v1006 a w (St.cut [0, 1, 2, 3, 4, 5] ⟨rfl, rfl, rfl, rfl, rfl, rfl, rfl, trivial⟩ (by decide) rfl st)
  refine RA.meet (ι := Unit) (fun (p : Unit) => [(1, v5), (2, v6), (3, v7), (6, v32), (7, v33), (91, .int .i64 l302), (92, .int .i64 l303), (94, .int .i64 l303)]) (fun (p : Unit) => [imm (TR.ptr (TR.sl (TR.sl TR.int))) v5 x0, obox 26 (TR.pair TR.int TR.int) v6 ((0 : Int), (0 : Int)), obox 26 (TR.pair TR.int TR.int) v7 ((0 : Int), (0 : Int)), obox 3 TR.int v32 l302, obox 3 TR.int v33 l303]) 9 #[false, false, false, false, true, true, false, true, false, false, false, false] (fun h1069 => ?_) ?_
  rotate_left
  ·rintro ⟨⟩
   refine RA.weak (env' := [(1, v5), (2, v6), (3, v7), (6, v32), (7, v33), (91, .int .i64 l302), (92, .int .i64 l303), (94, .int .i64 l303)]) (L' := [imm (TR.ptr (TR.sl (TR.sl TR.int))) v5 x0, obox 26 (TR.pair TR.int TR.int) v6 ((0 : Int), (0 : Int)), obox 26 (TR.pair TR.int TR.int) v7 ((0 : Int), (0 : Int)), obox 3 TR.int v32 l302, obox 3 TR.int v33 l303]) (fun _ _ st => st) ?_
   refine RA.many [0, 1, 3] (by kernel_rfl) ⟨⟨_, rfl, ?_⟩, ⟨_, rfl, ?_⟩, ⟨_, rfl, ?_⟩, trivial⟩
   ·skip
    refine RL.ldPx (off := 0) (e' := l302) 3 Ex.ik Try_ln3 rfl rfl (Or.inr ⟨rfl, rfl⟩) rfl PtOf.obox Part.self ?_
    refine RL.fin ?_
    refine RA.next ?_
    refine RA.relist 8 #[true, false, false, false, true, true, false, true, false, false, false, false] rfl (by kernel_rfl) ?_
    exact fun a w st => h1038 () a w (St.cut [0, 1, 2, 4] ⟨rfl, rfl, rfl, rfl, rfl, rfl, rfl, rfl, trivial⟩ (by decide) rfl st)
   ·skip
    refine RL.ldPx (off := 0) (e' := l303) 4 Ex.ik Try_ln3 rfl rfl (Or.inr ⟨rfl, rfl⟩) rfl PtOf.obox Part.self ?_
    refine RL.fin ?_
    refine RA.next ?_
    refine RA.relist 8 #[false, true, false, false, true, true, false, true, false, false, false, false] rfl (by kernel_rfl) ?_
    exact fun a w st => h1039 () a w (St.cut [0, 1, 2, 3] ⟨rfl, rfl, rfl, rfl, rfl, rfl, rfl, rfl, trivial⟩ (by decide) rfl st)
   refine RL.ldP (off := 0) (r := (TR.sl (TR.sl TR.int))) (e' := x0) 0 Try_ln22 rfl rfl (Or.inr ⟨rfl, rfl⟩) rfl PtOf.imm Part.self ?_
   intro v1119
   refine RL.fin ?_
   refine RA.next ?_
   refine RA.relist 8 #[false, false, false, true, true, true, false, true, false, false, false, false] rfl (by kernel_rfl) ?_
   exact fun a w st => h1042 v1119 a w (St.cut [1, 2, 3, 4, 5] ⟨rfl, rfl, rfl, rfl, rfl, rfl, rfl, rfl, trivial⟩ (by decide) rfl st)
  refine RA.meet (ι := Unit) (fun (p : Unit) => [(1, v5), (2, v6), (3, v7), (7, v33), (87, .int .i64 l302), (88, .int .i64 l303), (91, .int .i64 l302)]) (fun (p : Unit) => [imm (TR.ptr (TR.sl (TR.sl TR.int))) v5 x0, obox 26 (TR.pair TR.int TR.int) v6 ((0 : Int), (0 : Int)), obox 26 (TR.pair TR.int TR.int) v7 ((0 : Int), (0 : Int)), obox 3 TR.int v33 l303]) 9 #[true, true, false, false, true, false, false, false, false, false, false, false] (fun h1070 => ?_) ?_
  rotate_left
  ·rintro ⟨⟩
   refine RA.weak (env' := [(1, v5), (2, v6), (3, v7), (7, v33), (87, .int .i64 l302), (88, .int .i64 l303), (91, .int .i64 l302)]) (L' := [imm (TR.ptr (TR.sl (TR.sl TR.int))) v5 x0, obox 26 (TR.pair TR.int TR.int) v6 ((0 : Int), (0 : Int)), obox 26 (TR.pair TR.int TR.int) v7 ((0 : Int), (0 : Int)), obox 3 TR.int v33 l303]) (fun _ _ st => st) ?_
   refine RA.many [2, 3, 5, 7] (by kernel_rfl) ⟨⟨_, rfl, ?_⟩, ⟨_, rfl, ?_⟩, ⟨_, rfl, ?_⟩, ⟨_, rfl, ?_⟩, trivial⟩
   ·skip
    refine RL.call (vs := [.int .i64 l302, .int .i64 l303]) Try_fit38 rfl rfl rfl rfl rfl (fun S f w hS hW hi => mixed_low_c S w hS l302 l303 _ e999) ?_
    intro v1117
    refine RL.fin ?_
    refine RA.next ?_
    refine RA.relist 8 #[true, true, true, false, true, false, false, false, false, false, false, false] rfl (by kernel_rfl) ?_
    exact fun a w st => h1054 v1117 a w (St.cut [0, 1, 2, 3, 4] ⟨rfl, rfl, rfl, rfl, rfl, rfl, trivial⟩ (by decide) rfl st)
   ·skip
    refine RL.ldP (off := 0) (r := (TR.sl (TR.sl TR.int))) (e' := x0) 0 Try_ln22 rfl rfl (Or.inr ⟨rfl, rfl⟩) rfl PtOf.imm Part.self ?_
    intro v1118
    refine RL.fin ?_
    refine RA.next ?_
    refine RA.relist 8 #[true, true, false, true, true, false, false, false, false, false, false, false] rfl (by kernel_rfl) ?_
    exact fun a w st => h1041 v1118 a w (St.cut [1, 2, 3, 4] ⟨rfl, rfl, rfl, rfl, rfl, rfl, rfl, trivial⟩ (by decide) rfl st)
   ·skip
    refine RL.ldPx (off := 0) (e' := l303) 3 Ex.ik Try_ln3 rfl rfl (Or.inr ⟨rfl, rfl⟩) rfl PtOf.obox Part.self ?_
    refine RL.fin ?_
    refine RA.next ?_
    refine RA.relist 8 #[true, true, false, false, true, true, false, false, false, false, false, false] rfl (by kernel_rfl) ?_
    exact fun a w st => h1047 () a w (St.cut [0, 1, 2, 3] ⟨rfl, rfl, rfl, rfl, rfl, rfl, rfl, rfl, trivial⟩ (by decide) rfl st)
   refine RL.ldPx (off := 0) (e' := l303) 3 Ex.ik Try_ln3 rfl rfl (Or.inr ⟨rfl, rfl⟩) rfl PtOf.obox Part.self ?_
   refine RL.fin ?_
   refine RA.next ?_
   refine RA.relist 8 #[true, true, false, false, true, false, false, true, false, false, false, false] rfl (by kernel_rfl) ?_
   exact fun a w st => h1051 () a w (St.cut [0, 1, 2, 3] ⟨rfl, rfl, rfl, rfl, rfl, rfl, rfl, rfl, trivial⟩ (by decide) rfl st)
  refine RA.meet (ι := Value) (fun (p : Value) => [(2, v6), (3, v7), (6, v32), (7, v33), (87, .int .i64 l302), (90, p), (94, .int .i64 l303)]) (fun (p : Value) => [obox 26 (TR.pair TR.int TR.int) v6 ((0 : Int), (0 : Int)), obox 26 (TR.pair TR.int TR.int) v7 ((0 : Int), (0 : Int)), obox 3 TR.int v32 l302, obox 3 TR.int v33 l303, imm (TR.sl (TR.sl TR.int)) p x0]) 9 #[true, false, false, true, false, false, false, true, false, false, false, false] (fun h1071 => ?_) ?_
  rotate_left
  ·rintro v1004
   refine RA.weak (env' := [(2, v6), (3, v7), (6, v32), (7, v33), (87, .int .i64 l302), (90, v1004), (94, .int .i64 l303)]) (L' := [obox 26 (TR.pair TR.int TR.int) v6 ((0 : Int), (0 : Int)), obox 26 (TR.pair TR.int TR.int) v7 ((0 : Int), (0 : Int)), obox 3 TR.int v32 l302, obox 3 TR.int v33 l303, imm (TR.sl (TR.sl TR.int)) v1004 x0]) (fun _ _ st => st) ?_
   refine RA.many [1, 4, 5] (by kernel_rfl) ⟨⟨_, rfl, ?_⟩, ⟨_, rfl, ?_⟩, ⟨_, rfl, ?_⟩, trivial⟩
   ·skip
    refine RL.ldPx (off := 0) (e' := l303) 3 Ex.ik Try_ln3 rfl rfl (Or.inr ⟨rfl, rfl⟩) rfl PtOf.obox Part.self ?_
    refine RL.fin ?_
    refine RA.next ?_
    refine RA.relist 8 #[true, true, false, true, false, false, false, true, false, false, false, false] rfl (by kernel_rfl) ?_
    exact fun a w st => h1053 v1004 a w (St.cut [0, 1, 2, 3, 4] ⟨rfl, rfl, rfl, rfl, rfl, rfl, rfl, rfl, trivial⟩ (by decide) rfl st)
   ·skip
    refine RL.ldPx (off := 0) (e' := l302) 2 Ex.ik Try_ln3 rfl rfl (Or.inr ⟨rfl, rfl⟩) rfl PtOf.obox Part.self ?_
    refine RL.fin ?_
    refine RA.next ?_
    refine RA.relist 8 #[true, false, false, true, true, false, false, true, false, false, false, false] rfl (by kernel_rfl) ?_
    exact fun a w st => h1036 v1004 a w (St.cut [0, 1, 3, 4] ⟨rfl, rfl, rfl, rfl, rfl, rfl, rfl, trivial⟩ (by decide) rfl st)
   refine RL.ldPx (off := 0) (e' := l303) 3 Ex.ik Try_ln3 rfl rfl (Or.inr ⟨rfl, rfl⟩) rfl PtOf.obox Part.self ?_
   refine RL.fin ?_
   refine RA.next ?_
   refine RA.relist 8 #[true, false, false, true, false, true, false, true, false, false, false, false] rfl (by kernel_rfl) ?_
   exact fun a w st => h1040 v1004 a w (St.cut [0, 1, 2, 3, 4] ⟨rfl, rfl, rfl, rfl, rfl, rfl, rfl, rfl, trivial⟩ (by decide) rfl st)
  refine RA.meet (ι := Unit) (fun (p : Unit) => [(1, v5), (2, v6), (3, v7), (7, v33), (87, .int .i64 l302), (91, .int .i64 l302), (94, .int .i64 l303)]) (fun (p : Unit) => [imm (TR.ptr (TR.sl (TR.sl TR.int))) v5 x0, obox 26 (TR.pair TR.int TR.int) v6 ((0 : Int), (0 : Int)), obox 26 (TR.pair TR.int TR.int) v7 ((0 : Int), (0 : Int)), obox 3 TR.int v33 l303]) 9 #[true, false, false, false, true, false, false, true, false, false, false, false] (fun h1072 => ?_) ?_
  rotate_left
  ·rintro ⟨⟩
   refine RA.weak (env' := [(1, v5), (2, v6), (3, v7), (7, v33), (87, .int .i64 l302), (91, .int .i64 l302), (94, .int .i64 l303)]) (L' := [imm (TR.ptr (TR.sl (TR.sl TR.int))) v5 x0, obox 26 (TR.pair TR.int TR.int) v6 ((0 : Int), (0 : Int)), obox 26 (TR.pair TR.int TR.int) v7 ((0 : Int), (0 : Int)), obox 3 TR.int v33 l303]) (fun _ _ st => st) ?_
   refine RA.many [1, 3, 5] (by kernel_rfl) ⟨⟨_, rfl, ?_⟩, ⟨_, rfl, ?_⟩, ⟨_, rfl, ?_⟩, trivial⟩
   ·skip
    refine RL.ldPx (off := 0) (e' := l303) 3 Ex.ik Try_ln3 rfl rfl (Or.inr ⟨rfl, rfl⟩) rfl PtOf.obox Part.self ?_
    refine RL.fin ?_
    refine RA.next ?_
    refine RA.relist 8 #[true, true, false, false, true, false, false, true, false, false, false, false] rfl (by kernel_rfl) ?_
    exact fun a w st => h1051 () a w (St.cut [0, 1, 2, 3] ⟨rfl, rfl, rfl, rfl, rfl, rfl, rfl, rfl, trivial⟩ (by decide) rfl st)
   ·skip
    refine RL.ldP (off := 0) (r := (TR.sl (TR.sl TR.int))) (e' := x0) 0 Try_ln22 rfl rfl (Or.inr ⟨rfl, rfl⟩) rfl PtOf.imm Part.self ?_
    intro v1116
    refine RL.fin ?_
    refine RA.next ?_
    refine RA.relist 8 #[true, false, false, true, true, false, false, true, false, false, false, false] rfl (by kernel_rfl) ?_
    exact fun a w st => h1036 v1116 a w (St.cut [1, 2, 3, 4] ⟨rfl, rfl, rfl, rfl, rfl, rfl, rfl, trivial⟩ (by decide) rfl st)
   refine RL.ldPx (off := 0) (e' := l303) 3 Ex.ik Try_ln3 rfl rfl (Or.inr ⟨rfl, rfl⟩) rfl PtOf.obox Part.self ?_
   refine RL.fin ?_
   refine RA.next ?_
   refine RA.relist 8 #[true, false, false, false, true, true, false, true, false, false, false, false] rfl (by kernel_rfl) ?_
   exact fun a w st => h1038 () a w (St.cut [0, 1, 2, 3] ⟨rfl, rfl, rfl, rfl, rfl, rfl, rfl, rfl, trivial⟩ (by decide) rfl st)
  refine RA.meet (ι := Value) (fun (p : Value) => [(2, v6), (3, v7), (6, v32), (7, v33), (90, p), (91, .int .i64 l302), (94, .int .i64 l303)]) (fun (p : Value) => [obox 26 (TR.pair TR.int TR.int) v6 ((0 : Int), (0 : Int)), obox 26 (TR.pair TR.int TR.int) v7 ((0 : Int), (0 : Int)), obox 3 TR.int v32 l302, obox 3 TR.int v33 l303, imm (TR.sl (TR.sl TR.int)) p x0]) 9 #[false, false, false, true, true, false, false, true, false, false, false, false] (fun h1073 => ?_) ?_
  rotate_left
  ·rintro v1004
   refine RA.weak (env' := [(2, v6), (3, v7), (6, v32), (7, v33), (90, v1004), (91, .int .i64 l302), (94, .int .i64 l303)]) (L' := [obox 26 (TR.pair TR.int TR.int) v6 ((0 : Int), (0 : Int)), obox 26 (TR.pair TR.int TR.int) v7 ((0 : Int), (0 : Int)), obox 3 TR.int v32 l302, obox 3 TR.int v33 l303, imm (TR.sl (TR.sl TR.int)) v1004 x0]) (fun _ _ st => st) ?_
   refine RA.many [0, 1, 5] (by kernel_rfl) ⟨⟨_, rfl, ?_⟩, ⟨_, rfl, ?_⟩, ⟨_, rfl, ?_⟩, trivial⟩
   ·skip
    refine RL.ldPx (off := 0) (e' := l302) 2 Ex.ik Try_ln3 rfl rfl (Or.inr ⟨rfl, rfl⟩) rfl PtOf.obox Part.self ?_
    refine RL.fin ?_
    refine RA.next ?_
    refine RA.relist 8 #[true, false, false, true, true, false, false, true, false, false, false, false] rfl (by kernel_rfl) ?_
    exact fun a w st => h1036 v1004 a w (St.cut [0, 1, 3, 4] ⟨rfl, rfl, rfl, rfl, rfl, rfl, rfl, trivial⟩ (by decide) rfl st)
   ·skip
    refine RL.ldPx (off := 0) (e' := l303) 3 Ex.ik Try_ln3 rfl rfl (Or.inr ⟨rfl, rfl⟩) rfl PtOf.obox Part.self ?_
    refine RL.fin ?_
    refine RA.next ?_
    refine RA.relist 8 #[false, true, false, true, true, false, false, true, false, false, false, false] rfl (by kernel_rfl) ?_
    exact fun a w st => h1046 v1004 a w (St.cut [0, 1, 2, 3, 4] ⟨rfl, rfl, rfl, rfl, rfl, rfl, rfl, rfl, trivial⟩ (by decide) rfl st)
   refine RL.ldPx (off := 0) (e' := l303) 3 Ex.ik Try_ln3 rfl rfl (Or.inr ⟨rfl, rfl⟩) rfl PtOf.obox Part.self ?_
   refine RL.fin ?_
   refine RA.next ?_
   refine RA.relist 8 #[false, false, false, true, true, true, false, true, false, false, false, false] rfl (by kernel_rfl) ?_
   exact fun a w st => h1042 v1004 a w (St.cut [0, 1, 2, 3, 4] ⟨rfl, rfl, rfl, rfl, rfl, rfl, rfl, rfl, trivial⟩ (by decide) rfl st)
  refine RA.meet (ι := Value) (fun (p : Value) => [(2, v6), (3, v7), (6, v32), (7, v33), (90, p), (92, .int .i64 l303), (94, .int .i64 l303)]) (fun (p : Value) => [obox 26 (TR.pair TR.int TR.int) v6 ((0 : Int), (0 : Int)), obox 26 (TR.pair TR.int TR.int) v7 ((0 : Int), (0 : Int)), obox 3 TR.int v32 l302, obox 3 TR.int v33 l303, imm (TR.sl (TR.sl TR.int)) p x0]) 9 #[false, false, false, true, false, true, false, true, false, false, false, false] (fun h1074 => ?_) ?_
  rotate_left
  ·rintro v1004
   refine RA.weak (env' := [(2, v6), (3, v7), (6, v32), (7, v33), (90, v1004), (92, .int .i64 l303), (94, .int .i64 l303)]) (L' := [obox 26 (TR.pair TR.int TR.int) v6 ((0 : Int), (0 : Int)), obox 26 (TR.pair TR.int TR.int) v7 ((0 : Int), (0 : Int)), obox 3 TR.int v32 l302, obox 3 TR.int v33 l303, imm (TR.sl (TR.sl TR.int)) v1004 x0]) (fun _ _ st => st) ?_
   refine RA.many [0, 1, 4] (by kernel_rfl) ⟨⟨_, rfl, ?_⟩, ⟨_, rfl, ?_⟩, ⟨_, rfl, ?_⟩, trivial⟩
   ·skip
    refine RL.ldPx (off := 0) (e' := l302) 2 Ex.ik Try_ln3 rfl rfl (Or.inr ⟨rfl, rfl⟩) rfl PtOf.obox Part.self ?_
    refine RL.fin ?_
    refine RA.next ?_
    refine RA.relist 8 #[true, false, false, true, false, true, false, true, false, false, false, false] rfl (by kernel_rfl) ?_
    exact fun a w st => h1040 v1004 a w (St.cut [0, 1, 2, 3, 4] ⟨rfl, rfl, rfl, rfl, rfl, rfl, rfl, rfl, trivial⟩ (by decide) rfl st)
   ·skip
    refine RL.ldPx (off := 0) (e' := l303) 3 Ex.ik Try_ln3 rfl rfl (Or.inr ⟨rfl, rfl⟩) rfl PtOf.obox Part.self ?_
    refine RL.fin ?_
    refine RA.next ?_
    refine RA.relist 8 #[false, true, false, true, false, true, false, true, false, false, false, false] rfl (by kernel_rfl) ?_
    exact fun a w st => h1052 v1004 a w (St.cut [0, 1, 2, 4] ⟨rfl, rfl, rfl, rfl, rfl, rfl, rfl, trivial⟩ (by decide) rfl st)
   refine RL.ldPx (off := 0) (e' := l302) 2 Ex.ik Try_ln3 rfl rfl (Or.inr ⟨rfl, rfl⟩) rfl PtOf.obox Part.self ?_
   refine RL.fin ?_
   refine RA.next ?_
   refine RA.relist 8 #[false, false, false, true, true, true, false, true, false, false, false, false] rfl (by kernel_rfl) ?_
   exact fun a w st => h1042 v1004 a w (St.cut [0, 1, 2, 3, 4] ⟨rfl, rfl, rfl, rfl, rfl, rfl, rfl, rfl, trivial⟩ (by decide) rfl st)
  refine RA.meet (ι := Unit) (fun (p : Unit) => [(1, v5), (2, v6), (3, v7), (6, v32), (7, v33), (87, .int .i64 l302), (88, .int .i64 l303), (92, .int .i64 l303)]) (fun (p : Unit) => [imm (TR.ptr (TR.sl (TR.sl TR.int))) v5 x0, obox 26 (TR.pair TR.int TR.int) v6 ((0 : Int), (0 : Int)), obox 26 (TR.pair TR.int TR.int) v7 ((0 : Int), (0 : Int)), obox 3 TR.int v32 l302, obox 3 TR.int v33 l303]) 9 #[true, true, false, false, false, true, false, false, false, false, false, false] (fun h1075 => ?_) ?_
  rotate_left
  ·rintro ⟨⟩
   refine RA.weak (env' := [(1, v5), (2, v6), (3, v7), (6, v32), (7, v33), (87, .int .i64 l302), (88, .int .i64 l303), (92, .int .i64 l303)]) (L' := [imm (TR.ptr (TR.sl (TR.sl TR.int))) v5 x0, obox 26 (TR.pair TR.int TR.int) v6 ((0 : Int), (0 : Int)), obox 26 (TR.pair TR.int TR.int) v7 ((0 : Int), (0 : Int)), obox 3 TR.int v32 l302, obox 3 TR.int v33 l303]) (fun _ _ st => st) ?_
   refine RA.many [2, 3, 4, 7] (by kernel_rfl) ⟨⟨_, rfl, ?_⟩, ⟨_, rfl, ?_⟩, ⟨_, rfl, ?_⟩, ⟨_, rfl, ?_⟩, trivial⟩
   ·skip
    refine RL.call (vs := [.int .i64 l302, .int .i64 l303]) Try_fit38 rfl rfl rfl rfl rfl (fun S f w hS hW hi => mixed_low_c S w hS l302 l303 _ e999) ?_
    intro v1114
    refine RL.fin ?_
    refine RA.next ?_
    refine RA.relist 8 #[true, true, true, false, false, true, false, false, false, false, false, false] rfl (by kernel_rfl) ?_
    exact fun a w st => h1049 v1114 a w (St.cut [0, 1, 2, 3, 4, 5] ⟨rfl, rfl, rfl, rfl, rfl, rfl, rfl, trivial⟩ (by decide) rfl st)
   ·skip
    refine RL.ldP (off := 0) (r := (TR.sl (TR.sl TR.int))) (e' := x0) 0 Try_ln22 rfl rfl (Or.inr ⟨rfl, rfl⟩) rfl PtOf.imm Part.self ?_
    intro v1115
    refine RL.fin ?_
    refine RA.next ?_
    refine RA.relist 8 #[true, true, false, true, false, true, false, false, false, false, false, false] rfl (by kernel_rfl) ?_
    exact fun a w st => h1037 v1115 a w (St.cut [1, 2, 3, 4, 5] ⟨rfl, rfl, rfl, rfl, rfl, rfl, rfl, rfl, trivial⟩ (by decide) rfl st)
   ·skip
    refine RL.ldPx (off := 0) (e' := l302) 3 Ex.ik Try_ln3 rfl rfl (Or.inr ⟨rfl, rfl⟩) rfl PtOf.obox Part.self ?_
    refine RL.fin ?_
    refine RA.next ?_
    refine RA.relist 8 #[true, true, false, false, true, true, false, false, false, false, false, false] rfl (by kernel_rfl) ?_
    exact fun a w st => h1047 () a w (St.cut [0, 1, 2, 4] ⟨rfl, rfl, rfl, rfl, rfl, rfl, rfl, rfl, trivial⟩ (by decide) rfl st)
   refine RL.ldPx (off := 0) (e' := l303) 4 Ex.ik Try_ln3 rfl rfl (Or.inr ⟨rfl, rfl⟩) rfl PtOf.obox Part.self ?_
   refine RL.fin ?_
   refine RA.next ?_
   refine RA.relist 8 #[true, true, false, false, false, true, false, true, false, false, false, false] rfl (by kernel_rfl) ?_
   exact fun a w st => h1048 () a w (St.cut [0, 1, 2, 3] ⟨rfl, rfl, rfl, rfl, rfl, rfl, rfl, rfl, trivial⟩ (by decide) rfl st)
  refine RA.meet (ι := Value) (fun (p : Value) => [(2, v6), (3, v7), (6, v32), (7, v33), (90, p), (91, .int .i64 l302)]) (fun (p : Value) => [obox 26 (TR.pair TR.int TR.int) v6 ((0 : Int), (0 : Int)), obox 26 (TR.pair TR.int TR.int) v7 ((0 : Int), (0 : Int)), obox 3 TR.int v32 l302, obox 3 TR.int v33 l303, imm (TR.sl (TR.sl TR.int)) p x0]) 10 #[false, false, false, true, true, false, false, false, false, false, false, false] (fun h1076 => ?_) ?_
  rotate_left
  ·rintro v1004
   refine RA.weak (env' := [(2, v6), (3, v7), (6, v32), (7, v33), (90, v1004), (91, .int .i64 l302)]) (L' := [obox 26 (TR.pair TR.int TR.int) v6 ((0 : Int), (0 : Int)), obox 26 (TR.pair TR.int TR.int) v7 ((0 : Int), (0 : Int)), obox 3 TR.int v32 l302, obox 3 TR.int v33 l303, imm (TR.sl (TR.sl TR.int)) v1004 x0]) (fun _ _ st => st) ?_
   refine RA.many [0, 1, 5, 7] (by kernel_rfl) ⟨⟨_, rfl, ?_⟩, ⟨_, rfl, ?_⟩, ⟨_, rfl, ?_⟩, ⟨_, rfl, ?_⟩, trivial⟩
   ·skip
    refine RL.ldPx (off := 0) (e' := l302) 2 Ex.ik Try_ln3 rfl rfl (Or.inr ⟨rfl, rfl⟩) rfl PtOf.obox Part.self ?_
    refine RL.fin ?_
    refine RA.next ?_
    refine RA.relist 9 #[true, false, false, true, true, false, false, false, false, false, false, false] rfl (by kernel_rfl) ?_
    exact fun a w st => h1061 v1004 a w (St.cut [0, 1, 3, 4] ⟨rfl, rfl, rfl, rfl, rfl, rfl, trivial⟩ (by decide) rfl st)
   ·skip
    refine RL.ldPx (off := 0) (e' := l303) 3 Ex.ik Try_ln3 rfl rfl (Or.inr ⟨rfl, rfl⟩) rfl PtOf.obox Part.self ?_
    refine RL.fin ?_
    refine RA.next ?_
    refine RA.relist 9 #[false, true, false, true, true, false, false, false, false, false, false, false] rfl (by kernel_rfl) ?_
    exact fun a w st => h1067 v1004 a w (St.cut [0, 1, 2, 3, 4] ⟨rfl, rfl, rfl, rfl, rfl, rfl, rfl, trivial⟩ (by decide) rfl st)
   ·skip
    refine RL.ldPx (off := 0) (e' := l303) 3 Ex.ik Try_ln3 rfl rfl (Or.inr ⟨rfl, rfl⟩) rfl PtOf.obox Part.self ?_
    refine RL.fin ?_
    refine RA.next ?_
    refine RA.relist 9 #[false, false, false, true, true, true, false, false, false, false, false, false] rfl (by kernel_rfl) ?_
    exact fun a w st => h1057 v1004 a w (St.cut [0, 1, 2, 3, 4] ⟨rfl, rfl, rfl, rfl, rfl, rfl, rfl, trivial⟩ (by decide) rfl st)
   refine RL.ldPx (off := 0) (e' := l303) 3 Ex.ik Try_ln3 rfl rfl (Or.inr ⟨rfl, rfl⟩) rfl PtOf.obox Part.self ?_
   refine RL.fin ?_
   refine RA.next ?_
   refine RA.relist 9 #[false, false, false, true, true, false, false, true, false, false, false, false] rfl (by kernel_rfl) ?_
   exact fun a w st => h1073 v1004 a w (St.cut [0, 1, 2, 3, 4] ⟨rfl, rfl, rfl, rfl, rfl, rfl, rfl, trivial⟩ (by decide) rfl st)
  refine RA.meet (ι := Unit) (fun (p : Unit) => [(1, v5), (2, v6), (3, v7), (6, v32), (7, v33), (91, .int .i64 l302), (94, .int .i64 l303)]) (fun (p : Unit) => [imm (TR.ptr (TR.sl (TR.sl TR.int))) v5 x0, obox 26 (TR.pair TR.int TR.int) v6 ((0 : Int), (0 : Int)), obox 26 (TR.pair TR.int TR.int) v7 ((0 : Int), (0 : Int)), obox 3 TR.int v32 l302, obox 3 TR.int v33 l303]) 10 #[false, false, false, false, true, false, false, true, false, false, false, false] (fun h1077 => ?_) ?_
  rotate_left
  ·rintro ⟨⟩
   refine RA.weak (env' := [(1, v5), (2, v6), (3, v7), (6, v32), (7, v33), (91, .int .i64 l302), (94, .int .i64 l303)]) (L' := [imm (TR.ptr (TR.sl (TR.sl TR.int))) v5 x0, obox 26 (TR.pair TR.int TR.int) v6 ((0 : Int), (0 : Int)), obox 26 (TR.pair TR.int TR.int) v7 ((0 : Int), (0 : Int)), obox 3 TR.int v32 l302, obox 3 TR.int v33 l303]) (fun _ _ st => st) ?_
   refine RA.many [0, 1, 3, 5] (by kernel_rfl) ⟨⟨_, rfl, ?_⟩, ⟨_, rfl, ?_⟩, ⟨_, rfl, ?_⟩, ⟨_, rfl, ?_⟩, trivial⟩
   ·skip
    refine RL.ldPx (off := 0) (e' := l302) 3 Ex.ik Try_ln3 rfl rfl (Or.inr ⟨rfl, rfl⟩) rfl PtOf.obox Part.self ?_
    refine RL.fin ?_
    refine RA.next ?_
    refine RA.relist 9 #[true, false, false, false, true, false, false, true, false, false, false, false] rfl (by kernel_rfl) ?_
    exact fun a w st => h1072 () a w (St.cut [0, 1, 2, 4] ⟨rfl, rfl, rfl, rfl, rfl, rfl, rfl, trivial⟩ (by decide) rfl st)
   ·skip
    refine RL.ldPx (off := 0) (e' := l303) 4 Ex.ik Try_ln3 rfl rfl (Or.inr ⟨rfl, rfl⟩) rfl PtOf.obox Part.self ?_
    refine RL.fin ?_
    refine RA.next ?_
    refine RA.relist 9 #[false, true, false, false, true, false, false, true, false, false, false, false] rfl (by kernel_rfl) ?_
    exact fun a w st => h1065 () a w (St.cut [0, 1, 2, 3, 4] ⟨rfl, rfl, rfl, rfl, rfl, rfl, rfl, rfl, trivial⟩ (by decide) rfl st)
   ·skip
    refine RL.ldP (off := 0) (r := (TR.sl (TR.sl TR.int))) (e' := x0) 0 Try_ln22 rfl rfl (Or.inr ⟨rfl, rfl⟩) rfl PtOf.imm Part.self ?_
    intro v1113
    refine RL.fin ?_
    refine RA.next ?_
    refine RA.relist 9 #[false, false, false, true, true, false, false, true, false, false, false, false] rfl (by kernel_rfl) ?_
    exact fun a w st => h1073 v1113 a w (St.cut [1, 2, 3, 4, 5] ⟨rfl, rfl, rfl, rfl, rfl, rfl, rfl, trivial⟩ (by decide) rfl st)
   refine RL.ldPx (off := 0) (e' := l303) 4 Ex.ik Try_ln3 rfl rfl (Or.inr ⟨rfl, rfl⟩) rfl PtOf.obox Part.self ?_
   refine RL.fin ?_
   refine RA.next ?_
   refine RA.relist 9 #[false, false, false, false, true, true, false, true, false, false, false, false] rfl (by kernel_rfl) ?_
   exact fun a w st => h1069 () a w (St.cut [0, 1, 2, 3, 4] ⟨rfl, rfl, rfl, rfl, rfl, rfl, rfl, rfl, trivial⟩ (by decide) rfl st)
  refine RA.meet (ι := Unit) (fun (p : Unit) => [(1, v5), (2, v6), (3, v7), (6, v32), (7, v33), (91, .int .i64 l302), (92, .int .i64 l303)]) (fun (p : Unit) => [imm (TR.ptr (TR.sl (TR.sl TR.int))) v5 x0, obox 26 (TR.pair TR.int TR.int) v6 ((0 : Int), (0 : Int)), obox 26 (TR.pair TR.int TR.int) v7 ((0 : Int), (0 : Int)), obox 3 TR.int v32 l302, obox 3 TR.int v33 l303]) 10 #[false, false, false, false, true, true, false, false, false, false, false, false] (fun h1078 => ?_) ?_
  rotate_left
  ·rintro ⟨⟩
   refine RA.weak (env' := [(1, v5), (2, v6), (3, v7), (6, v32), (7, v33), (91, .int .i64 l302), (92, .int .i64 l303)]) (L' := [imm (TR.ptr (TR.sl (TR.sl TR.int))) v5 x0, obox 26 (TR.pair TR.int TR.int) v6 ((0 : Int), (0 : Int)), obox 26 (TR.pair TR.int TR.int) v7 ((0 : Int), (0 : Int)), obox 3 TR.int v32 l302, obox 3 TR.int v33 l303]) (fun _ _ st => st) ?_
   refine RA.many [0, 1, 3, 7] (by kernel_rfl) ⟨⟨_, rfl, ?_⟩, ⟨_, rfl, ?_⟩, ⟨_, rfl, ?_⟩, ⟨_, rfl, ?_⟩, trivial⟩
   ·skip
    refine RL.ldPx (off := 0) (e' := l302) 3 Ex.ik Try_ln3 rfl rfl (Or.inr ⟨rfl, rfl⟩) rfl PtOf.obox Part.self ?_
    refine RL.fin ?_
    refine RA.next ?_
    refine RA.relist 9 #[true, false, false, false, true, true, false, false, false, false, false, false] rfl (by kernel_rfl) ?_
    exact fun a w st => h1066 () a w (St.cut [0, 1, 2, 4] ⟨rfl, rfl, rfl, rfl, rfl, rfl, rfl, trivial⟩ (by decide) rfl st)
   ·skip
    refine RL.ldPx (off := 0) (e' := l303) 4 Ex.ik Try_ln3 rfl rfl (Or.inr ⟨rfl, rfl⟩) rfl PtOf.obox Part.self ?_
    refine RL.fin ?_
    refine RA.next ?_
    refine RA.relist 9 #[false, true, false, false, true, true, false, false, false, false, false, false] rfl (by kernel_rfl) ?_
    exact fun a w st => h1062 () a w (St.cut [0, 1, 2, 3, 4] ⟨rfl, rfl, rfl, rfl, rfl, rfl, rfl, rfl, trivial⟩ (by decide) rfl st)
   ·skip
    refine RL.ldP (off := 0) (r := (TR.sl (TR.sl TR.int))) (e' := x0) 0 Try_ln22 rfl rfl (Or.inr ⟨rfl, rfl⟩) rfl PtOf.imm Part.self ?_
    intro v1112
    refine RL.fin ?_
    refine RA.next ?_
    refine RA.relist 9 #[false, false, false, true, true, true, false, false, false, false, false, false] rfl (by kernel_rfl) ?_
    exact fun a w st => h1057 v1112 a w (St.cut [1, 2, 3, 4, 5] ⟨rfl, rfl, rfl, rfl, rfl, rfl, rfl, trivial⟩ (by decide) rfl st)
   refine RL.ldPx (off := 0) (e' := l303) 4 Ex.ik Try_ln3 rfl rfl (Or.inr ⟨rfl, rfl⟩) rfl PtOf.obox Part.self ?_
   refine RL.fin ?_
   refine RA.next ?_
   refine RA.relist 9 #[false, false, false, false, true, true, false, true, false, false, false, false] rfl (by kernel_rfl) ?_
   exact fun a w st => h1069 () a w (St.cut [0, 1, 2, 3, 4] ⟨rfl, rfl, rfl, rfl, rfl, rfl, rfl, rfl, trivial⟩ (by decide) rfl st)
  refine RA.meet (ι := Unit) (fun (p : Unit) => [(1, v5), (2, v6), (3, v7), (6, v32), (7, v33), (88, .int .i64 l303), (94, .int .i64 l303)]) (fun (p : Unit) => [imm (TR.ptr (TR.sl (TR.sl TR.int))) v5 x0, obox 26 (TR.pair TR.int TR.int) v6 ((0 : Int), (0 : Int)), obox 26 (TR.pair TR.int TR.int) v7 ((0 : Int), (0 : Int)), obox 3 TR.int v32 l302, obox 3 TR.int v33 l303]) 10 #[false, true, false, false, false, false, false, true, false, false, false, false] (fun h1079 => ?_) ?_
  rotate_left
  ·rintro ⟨⟩
   refine RA.weak (env' := [(1, v5), (2, v6), (3, v7), (6, v32), (7, v33), (88, .int .i64 l303), (94, .int .i64 l303)]) (L' := [imm (TR.ptr (TR.sl (TR.sl TR.int))) v5 x0, obox 26 (TR.pair TR.int TR.int) v6 ((0 : Int), (0 : Int)), obox 26 (TR.pair TR.int TR.int) v7 ((0 : Int), (0 : Int)), obox 3 TR.int v32 l302, obox 3 TR.int v33 l303]) (fun _ _ st => st) ?_
   refine RA.many [0, 3, 4, 5] (by kernel_rfl) ⟨⟨_, rfl, ?_⟩, ⟨_, rfl, ?_⟩, ⟨_, rfl, ?_⟩, ⟨_, rfl, ?_⟩, trivial⟩
   ·skip
    refine RL.ldPx (off := 0) (e' := l302) 3 Ex.ik Try_ln3 rfl rfl (Or.inr ⟨rfl, rfl⟩) rfl PtOf.obox Part.self ?_
    refine RL.fin ?_
    refine RA.next ?_
    refine RA.relist 9 #[true, true, false, false, false, false, false, true, false, false, false, false] rfl (by kernel_rfl) ?_
    exact fun a w st => h1055 () a w (St.cut [0, 1, 2, 3, 4] ⟨rfl, rfl, rfl, rfl, rfl, rfl, rfl, rfl, trivial⟩ (by decide) rfl st)
   ·skip
    refine RL.ldP (off := 0) (r := (TR.sl (TR.sl TR.int))) (e' := x0) 0 Try_ln22 rfl rfl (Or.inr ⟨rfl, rfl⟩) rfl PtOf.imm Part.self ?_
    intro v1111
    refine RL.fin ?_
    refine RA.next ?_
    refine RA.relist 9 #[false, true, false, true, false, false, false, true, false, false, false, false] rfl (by kernel_rfl) ?_
    exact fun a w st => h1056 v1111 a w (St.cut [1, 2, 3, 4, 5] ⟨rfl, rfl, rfl, rfl, rfl, rfl, rfl, trivial⟩ (by decide) rfl st)
   ·skip
    refine RL.ldPx (off := 0) (e' := l302) 3 Ex.ik Try_ln3 rfl rfl (Or.inr ⟨rfl, rfl⟩) rfl PtOf.obox Part.self ?_
    refine RL.fin ?_
    refine RA.next ?_
    refine RA.relist 9 #[false, true, false, false, true, false, false, true, false, false, false, false] rfl (by kernel_rfl) ?_
    exact fun a w st => h1065 () a w (St.cut [0, 1, 2, 3, 4] ⟨rfl, rfl, rfl, rfl, rfl, rfl, rfl, rfl, trivial⟩ (by decide) rfl st)
   refine RL.ldPx (off := 0) (e' := l303) 4 Ex.ik Try_ln3 rfl rfl (Or.inr ⟨rfl, rfl⟩) rfl PtOf.obox Part.self ?_
   refine RL.fin ?_
   refine RA.next ?_
   refine RA.relist 9 #[false, true, false, false, false, true, false, true, false, false, false, false] rfl (by kernel_rfl) ?_
   exact fun a w st => h1059 () a w (St.cut [0, 1, 2, 3] ⟨rfl, rfl, rfl, rfl, rfl, rfl, rfl, trivial⟩ (by decide) rfl st)
  refine RA.meet (ι := Value) (fun (p : Value) => [(2, v6), (3, v7), (6, v32), (7, v33), (87, .int .i64 l302), (90, p)]) (fun (p : Value) => [obox 26 (TR.pair TR.int TR.int) v6 ((0 : Int), (0 : Int)), obox 26 (TR.pair TR.int TR.int) v7 ((0 : Int), (0 : Int)), obox 3 TR.int v32 l302, obox 3 TR.int v33 l303, imm (TR.sl (TR.sl TR.int)) p x0]) 10 #[true, false, false, true, false, false, false, false, false, false, false, false] (fun h1080 => ?_) ?_
  rotate_left
  ·rintro v1004
   refine RA.weak (env' := [(2, v6), (3, v7), (6, v32), (7, v33), (87, .int .i64 l302), (90, v1004)]) (L' := [obox 26 (TR.pair TR.int TR.int) v6 ((0 : Int), (0 : Int)), obox 26 (TR.pair TR.int TR.int) v7 ((0 : Int), (0 : Int)), obox 3 TR.int v32 l302, obox 3 TR.int v33 l303, imm (TR.sl (TR.sl TR.int)) v1004 x0]) (fun _ _ st => st) ?_
   refine RA.many [1, 4, 5, 7] (by kernel_rfl) ⟨⟨_, rfl, ?_⟩, ⟨_, rfl, ?_⟩, ⟨_, rfl, ?_⟩, ⟨_, rfl, ?_⟩, trivial⟩
   ·skip
    refine RL.ldPx (off := 0) (e' := l303) 3 Ex.ik Try_ln3 rfl rfl (Or.inr ⟨rfl, rfl⟩) rfl PtOf.obox Part.self ?_
    refine RL.fin ?_
    refine RA.next ?_
    refine RA.relist 9 #[true, true, false, true, false, false, false, false, false, false, false, false] rfl (by kernel_rfl) ?_
    exact fun a w st => h1058 v1004 a w (St.cut [0, 1, 2, 3, 4] ⟨rfl, rfl, rfl, rfl, rfl, rfl, rfl, trivial⟩ (by decide) rfl st)
   ·skip
    refine RL.ldPx (off := 0) (e' := l302) 2 Ex.ik Try_ln3 rfl rfl (Or.inr ⟨rfl, rfl⟩) rfl PtOf.obox Part.self ?_
    refine RL.fin ?_
    refine RA.next ?_
    refine RA.relist 9 #[true, false, false, true, true, false, false, false, false, false, false, false] rfl (by kernel_rfl) ?_
    exact fun a w st => h1061 v1004 a w (St.cut [0, 1, 3, 4] ⟨rfl, rfl, rfl, rfl, rfl, rfl, trivial⟩ (by decide) rfl st)
   ·skip
    refine RL.ldPx (off := 0) (e' := l303) 3 Ex.ik Try_ln3 rfl rfl (Or.inr ⟨rfl, rfl⟩) rfl PtOf.obox Part.self ?_
    refine RL.fin ?_
    refine RA.next ?_
    refine RA.relist 9 #[true, false, false, true, false, true, false, false, false, false, false, false] rfl (by kernel_rfl) ?_
    exact fun a w st => h1060 v1004 a w (St.cut [0, 1, 2, 3, 4] ⟨rfl, rfl, rfl, rfl, rfl, rfl, rfl, trivial⟩ (by decide) rfl st)
   refine RL.ldPx (off := 0) (e' := l303) 3 Ex.ik Try_ln3 rfl rfl (Or.inr ⟨rfl, rfl⟩) rfl PtOf.obox Part.self ?_
   refine RL.fin ?_
   refine RA.next ?_
   refine RA.relist 9 #[true, false, false, true, false, false, false, true, false, false, false, false] rfl (by kernel_rfl) ?_
   exact fun a w st => h1071 v1004 a w (St.cut [0, 1, 2, 3, 4] ⟨rfl, rfl, rfl, rfl, rfl, rfl, rfl, trivial⟩ (by decide) rfl st)
  refine RA.meet (ι := Value) (fun (p : Value) => [(2, v6), (3, v7), (6, v32), (7, v33), (90, p), (92, .int .i64 l303)]) (fun (p : Value) => [obox 26 (TR.pair TR.int TR.int) v6 ((0 : Int), (0 : Int)), obox 26 (TR.pair TR.int TR.int) v7 ((0 : Int), (0 : Int)), obox 3 TR.int v32 l302, obox 3 TR.int v33 l303, imm (TR.sl (TR.sl TR.int)) p x0]) 10 #[false, false, false, true, false, true, false, false, false, false, false, false] (fun h1081 => ?_) ?_
  rotate_left
  ·rintro v1004
   refine RA.weak (env' := [(2, v6), (3, v7), (6, v32), (7, v33), (90, v1004), (92, .int .i64 l303)]) (L' := [obox 26 (TR.pair TR.int TR.int) v6 ((0 : Int), (0 : Int)), obox 26 (TR.pair TR.int TR.int) v7 ((0 : Int), (0 : Int)), obox 3 TR.int v32 l302, obox 3 TR.int v33 l303, imm (TR.sl (TR.sl TR.int)) v1004 x0]) (fun _ _ st => st) ?_
   refine RA.many [0, 1, 4, 7] (by kernel_rfl) ⟨⟨_, rfl, ?_⟩, ⟨_, rfl, ?_⟩, ⟨_, rfl, ?_⟩, ⟨_, rfl, ?_⟩, trivial⟩
   ·skip
    refine RL.ldPx (off := 0) (e' := l302) 2 Ex.ik Try_ln3 rfl rfl (Or.inr ⟨rfl, rfl⟩) rfl PtOf.obox Part.self ?_
    refine RL.fin ?_
    refine RA.next ?_
    refine RA.relist 9 #[true, false, false, true, false, true, false, false, false, false, false, false] rfl (by kernel_rfl) ?_
    exact fun a w st => h1060 v1004 a w (St.cut [0, 1, 2, 3, 4] ⟨rfl, rfl, rfl, rfl, rfl, rfl, rfl, trivial⟩ (by decide) rfl st)
   ·skip
    refine RL.ldPx (off := 0) (e' := l303) 3 Ex.ik Try_ln3 rfl rfl (Or.inr ⟨rfl, rfl⟩) rfl PtOf.obox Part.self ?_
    refine RL.fin ?_
    refine RA.next ?_
    refine RA.relist 9 #[false, true, false, true, false, true, false, false, false, false, false, false] rfl (by kernel_rfl) ?_
    exact fun a w st => h1064 v1004 a w (St.cut [0, 1, 2, 3, 4] ⟨rfl, rfl, rfl, rfl, rfl, rfl, rfl, trivial⟩ (by decide) rfl st)
   ·skip
    refine RL.ldPx (off := 0) (e' := l302) 2 Ex.ik Try_ln3 rfl rfl (Or.inr ⟨rfl, rfl⟩) rfl PtOf.obox Part.self ?_
    refine RL.fin ?_
    refine RA.next ?_
    refine RA.relist 9 #[false, false, false, true, true, true, false, false, false, false, false, false] rfl (by kernel_rfl) ?_
    exact fun a w st => h1057 v1004 a w (St.cut [0, 1, 2, 3, 4] ⟨rfl, rfl, rfl, rfl, rfl, rfl, rfl, trivial⟩ (by decide) rfl st)
   refine RL.ldPx (off := 0) (e' := l303) 3 Ex.ik Try_ln3 rfl rfl (Or.inr ⟨rfl, rfl⟩) rfl PtOf.obox Part.self ?_
   refine RL.fin ?_
   refine RA.next ?_
   refine RA.relist 9 #[false, false, false, true, false, true, false, true, false, false, false, false] rfl (by kernel_rfl) ?_
   exact fun a w st => h1074 v1004 a w (St.cut [0, 1, 2, 3, 4] ⟨rfl, rfl, rfl, rfl, rfl, rfl, rfl, trivial⟩ (by decide) rfl st)
  refine RA.meet (ι := Unit) (fun (p : Unit) => [(1, v5), (2, v6), (3, v7), (6, v32), (7, v33), (92, .int .i64 l303), (94, .int .i64 l303)]) (fun (p : Unit) => [imm (TR.ptr (TR.sl (TR.sl TR.int))) v5 x0, obox 26 (TR.pair TR.int TR.int) v6 ((0 : Int), (0 : Int)), obox 26 (TR.pair TR.int TR.int) v7 ((0 : Int), (0 : Int)), obox 3 TR.int v32 l302, obox 3 TR.int v33 l303]) 10 #[false, false, false, false, false, true, false, true, false, false, false, false] (fun h1082 => ?_) ?_
  rotate_left
  ·rintro ⟨⟩
   refine RA.weak (env' := [(1, v5), (2, v6), (3, v7), (6, v32), (7, v33), (92, .int .i64 l303), (94, .int .i64 l303)]) (L' := [imm (TR.ptr (TR.sl (TR.sl TR.int))) v5 x0, obox 26 (TR.pair TR.int TR.int) v6 ((0 : Int), (0 : Int)), obox 26 (TR.pair TR.int TR.int) v7 ((0 : Int), (0 : Int)), obox 3 TR.int v32 l302, obox 3 TR.int v33 l303]) (fun _ _ st => st) ?_
   refine RA.many [0, 1, 3, 4] (by kernel_rfl) ⟨⟨_, rfl, ?_⟩, ⟨_, rfl, ?_⟩, ⟨_, rfl, ?_⟩, ⟨_, rfl, ?_⟩, trivial⟩
   ·skip
    refine RL.ldPx (off := 0) (e' := l302) 3 Ex.ik Try_ln3 rfl rfl (Or.inr ⟨rfl, rfl⟩) rfl PtOf.obox Part.self ?_
    refine RL.fin ?_
    refine RA.next ?_
    refine RA.relist 9 #[true, false, false, false, false, true, false, true, false, false, false, false] rfl (by kernel_rfl) ?_
    exact fun a w st => h1063 () a w (St.cut [0, 1, 2, 3, 4] ⟨rfl, rfl, rfl, rfl, rfl, rfl, rfl, rfl, trivial⟩ (by decide) rfl st)
   ·skip
    refine RL.ldPx (off := 0) (e' := l303) 4 Ex.ik Try_ln3 rfl rfl (Or.inr ⟨rfl, rfl⟩) rfl PtOf.obox Part.self ?_
    refine RL.fin ?_
    refine RA.next ?_
    refine RA.relist 9 #[false, true, false, false, false, true, false, true, false, false, false, false] rfl (by kernel_rfl) ?_
    exact fun a w st => h1059 () a w (St.cut [0, 1, 2, 3] ⟨rfl, rfl, rfl, rfl, rfl, rfl, rfl, trivial⟩ (by decide) rfl st)
   ·skip
    refine RL.ldP (off := 0) (r := (TR.sl (TR.sl TR.int))) (e' := x0) 0 Try_ln22 rfl rfl (Or.inr ⟨rfl, rfl⟩) rfl PtOf.imm Part.self ?_
    intro v1110
    refine RL.fin ?_
    refine RA.next ?_
    refine RA.relist 9 #[false, false, false, true, false, true, false, true, false, false, false, false] rfl (by kernel_rfl) ?_
    exact fun a w st => h1074 v1110 a w (St.cut [1, 2, 3, 4, 5] ⟨rfl, rfl, rfl, rfl, rfl, rfl, rfl, trivial⟩ (by decide) rfl st)
   refine RL.ldPx (off := 0) (e' := l302) 3 Ex.ik Try_ln3 rfl rfl (Or.inr ⟨rfl, rfl⟩) rfl PtOf.obox Part.self ?_
   refine RL.fin ?_
   refine RA.next ?_
   refine RA.relist 9 #[false, false, false, false, true, true, false, true, false, false, false, false] rfl (by kernel_rfl) ?_
   exact fun a w st => h1069 () a w (St.cut [0, 1, 2, 3, 4] ⟨rfl, rfl, rfl, rfl, rfl, rfl, rfl, rfl, trivial⟩ (by decide) rfl st)
  refine RA.meet (ι := Unit) (fun (p : Unit) => [(1, v5), (2, v6), (3, v7), (6, v32), (7, v33), (87, .int .i64 l302), (92, .int .i64 l303)]) (fun (p : Unit) => [imm (TR.ptr (TR.sl (TR.sl TR.int))) v5 x0, obox 26 (TR.pair TR.int TR.int) v6 ((0 : Int), (0 : Int)), obox 26 (TR.pair TR.int TR.int) v7 ((0 : Int), (0 : Int)), obox 3 TR.int v32 l302, obox 3 TR.int v33 l303]) 10 #[true, false, false, false, false, true, false, false, false, false, false, false] (fun h1083 => ?_) ?_
  rotate_left
  ·rintro ⟨⟩
   refine RA.weak (env' := [(1, v5), (2, v6), (3, v7), (6, v32), (7, v33), (87, .int .i64 l302), (92, .int .i64 l303)]) (L' := [imm (TR.ptr (TR.sl (TR.sl TR.int))) v5 x0, obox 26 (TR.pair TR.int TR.int) v6 ((0 : Int), (0 : Int)), obox 26 (TR.pair TR.int TR.int) v7 ((0 : Int), (0 : Int)), obox 3 TR.int v32 l302, obox 3 TR.int v33 l303]) (fun _ _ st => st) ?_
   refine RA.many [1, 3, 4, 7] (by kernel_rfl) ⟨⟨_, rfl, ?_⟩, ⟨_, rfl, ?_⟩, ⟨_, rfl, ?_⟩, ⟨_, rfl, ?_⟩, trivial⟩
   ·skip
    refine RL.ldPx (off := 0) (e' := l303) 4 Ex.ik Try_ln3 rfl rfl (Or.inr ⟨rfl, rfl⟩) rfl PtOf.obox Part.self ?_
    refine RL.fin ?_
    refine RA.next ?_
    refine RA.relist 9 #[true, true, false, false, false, true, false, false, false, false, false, false] rfl (by kernel_rfl) ?_
    exact fun a w st => h1075 () a w (St.cut [0, 1, 2, 3, 4] ⟨rfl, rfl, rfl, rfl, rfl, rfl, rfl, rfl, trivial⟩ (by decide) rfl st)
   ·skip
    refine RL.ldP (off := 0) (r := (TR.sl (TR.sl TR.int))) (e' := x0) 0 Try_ln22 rfl rfl (Or.inr ⟨rfl, rfl⟩) rfl PtOf.imm Part.self ?_
    intro v1109
    refine RL.fin ?_
    refine RA.next ?_
    refine RA.relist 9 #[true, false, false, true, false, true, false, false, false, false, false, false] rfl (by kernel_rfl) ?_
    exact fun a w st => h1060 v1109 a w (St.cut [1, 2, 3, 4, 5] ⟨rfl, rfl, rfl, rfl, rfl, rfl, rfl, trivial⟩ (by decide) rfl st)
   ·skip
    refine RL.ldPx (off := 0) (e' := l302) 3 Ex.ik Try_ln3 rfl rfl (Or.inr ⟨rfl, rfl⟩) rfl PtOf.obox Part.self ?_
    refine RL.fin ?_
    refine RA.next ?_
    refine RA.relist 9 #[true, false, false, false, true, true, false, false, false, false, false, false] rfl (by kernel_rfl) ?_
    exact fun a w st => h1066 () a w (St.cut [0, 1, 2, 4] ⟨rfl, rfl, rfl, rfl, rfl, rfl, rfl, trivial⟩ (by decide) rfl st)
   refine RL.ldPx (off := 0) (e' := l303) 4 Ex.ik Try_ln3 rfl rfl (Or.inr ⟨rfl, rfl⟩) rfl PtOf.obox Part.self ?_
   refine RL.fin ?_
   refine RA.next ?_
   refine RA.relist 9 #[true, false, false, false, false, true, false, true, false, false, false, false] rfl (by kernel_rfl) ?_
   exact fun a w st => h1063 () a w (St.cut [0, 1, 2, 3, 4] ⟨rfl, rfl, rfl, rfl, rfl, rfl, rfl, rfl, trivial⟩ (by decide) rfl st)
  refine RA.meet (ι := Value) (fun (p : Value) => [(2, v6), (3, v7), (6, v32), (7, v33), (90, p), (94, .int .i64 l303)]) (fun (p : Value) => [obox 26 (TR.pair TR.int TR.int) v6 ((0 : Int), (0 : Int)), obox 26 (TR.pair TR.int TR.int) v7 ((0 : Int), (0 : Int)), obox 3 TR.int v32 l302, obox 3 TR.int v33 l303, imm (TR.sl (TR.sl TR.int)) p x0]) 10 #[false, false, false, true, false, false, false, true, false, false, false, false] (fun h1084 => ?_) ?_
  rotate_left
  ·rintro v1004
   refine RA.weak (env' := [(2, v6), (3, v7), (6, v32), (7, v33), (90, v1004), (94, .int .i64 l303)]) (L' := [obox 26 (TR.pair TR.int TR.int) v6 ((0 : Int), (0 : Int)), obox 26 (TR.pair TR.int TR.int) v7 ((0 : Int), (0 : Int)), obox 3 TR.int v32 l302, obox 3 TR.int v33 l303, imm (TR.sl (TR.sl TR.int)) v1004 x0]) (fun _ _ st => st) ?_
   refine RA.many [0, 1, 4, 5] (by kernel_rfl) ⟨⟨_, rfl, ?_⟩, ⟨_, rfl, ?_⟩, ⟨_, rfl, ?_⟩, ⟨_, rfl, ?_⟩, trivial⟩
   ·skip
    refine RL.ldPx (off := 0) (e' := l302) 2 Ex.ik Try_ln3 rfl rfl (Or.inr ⟨rfl, rfl⟩) rfl PtOf.obox Part.self ?_
    refine RL.fin ?_
    refine RA.next ?_
    refine RA.relist 9 #[true, false, false, true, false, false, false, true, false, false, false, false] rfl (by kernel_rfl) ?_
    exact fun a w st => h1071 v1004 a w (St.cut [0, 1, 2, 3, 4] ⟨rfl, rfl, rfl, rfl, rfl, rfl, rfl, trivial⟩ (by decide) rfl st)
   ·skip
    refine RL.ldPx (off := 0) (e' := l303) 3 Ex.ik Try_ln3 rfl rfl (Or.inr ⟨rfl, rfl⟩) rfl PtOf.obox Part.self ?_
    refine RL.fin ?_
    refine RA.next ?_
    refine RA.relist 9 #[false, true, false, true, false, false, false, true, false, false, false, false] rfl (by kernel_rfl) ?_
    exact fun a w st => h1056 v1004 a w (St.cut [0, 1, 2, 3, 4] ⟨rfl, rfl, rfl, rfl, rfl, rfl, rfl, trivial⟩ (by decide) rfl st)
   ·skip
    refine RL.ldPx (off := 0) (e' := l302) 2 Ex.ik Try_ln3 rfl rfl (Or.inr ⟨rfl, rfl⟩) rfl PtOf.obox Part.self ?_
    refine RL.fin ?_
    refine RA.next ?_
    refine RA.relist 9 #[false, false, false, true, true, false, false, true, false, false, false, false] rfl (by kernel_rfl) ?_
    exact fun a w st => h1073 v1004 a w (St.cut [0, 1, 2, 3, 4] ⟨rfl, rfl, rfl, rfl, rfl, rfl, rfl, trivial⟩ (by decide) rfl st)
   refine RL.ldPx (off := 0) (e' := l303) 3 Ex.ik Try_ln3 rfl rfl (Or.inr ⟨rfl, rfl⟩) rfl PtOf.obox Part.self ?_
   refine RL.fin ?_
   refine RA.next ?_
   refine RA.relist 9 #[false, false, false, true, false, true, false, true, false, false, false, false] rfl (by kernel_rfl) ?_
   exact fun a w st => h1074 v1004 a w (St.cut [0, 1, 2, 3, 4] ⟨rfl, rfl, rfl, rfl, rfl, rfl, rfl, trivial⟩ (by decide) rfl st)
  refine RA.meet (ι := Unit) (fun (p : Unit) => [(1, v5), (2, v6), (3, v7), (6, v32), (7, v33), (87, .int .i64 l302), (88, .int .i64 l303)]) (fun (p : Unit) => [imm (TR.ptr (TR.sl (TR.sl TR.int))) v5 x0, obox 26 (TR.pair TR.int TR.int) v6 ((0 : Int), (0 : Int)), obox 26 (TR.pair TR.int TR.int) v7 ((0 : Int), (0 : Int)), obox 3 TR.int v32 l302, obox 3 TR.int v33 l303]) 10 #[true, true, false, false, false, false, false, false, false, false, false, false] (fun h1085 => ?_) ?_
  rotate_left
  ·rintro ⟨⟩
   refine RA.weak (env' := [(1, v5), (2, v6), (3, v7), (6, v32), (7, v33), (87, .int .i64 l302), (88, .int .i64 l303)]) (L' := [imm (TR.ptr (TR.sl (TR.sl TR.int))) v5 x0, obox 26 (TR.pair TR.int TR.int) v6 ((0 : Int), (0 : Int)), obox 26 (TR.pair TR.int TR.int) v7 ((0 : Int), (0 : Int)), obox 3 TR.int v32 l302, obox 3 TR.int v33 l303]) (fun _ _ st => st) ?_
   refine RA.many [2, 3, 4, 5, 7] (by kernel_rfl) ⟨⟨_, rfl, ?_⟩, ⟨_, rfl, ?_⟩, ⟨_, rfl, ?_⟩, ⟨_, rfl, ?_⟩, ⟨_, rfl, ?_⟩, trivial⟩
   ·skip
    refine RL.call (vs := [.int .i64 l302, .int .i64 l303]) Try_fit38 rfl rfl rfl rfl rfl (fun S f w hS hW hi => mixed_low_c S w hS l302 l303 _ e999) ?_
    intro v1107
    refine RL.fin ?_
    refine RA.next ?_
    refine RA.relist 9 #[true, true, true, false, false, false, false, false, false, false, false, false] rfl (by kernel_rfl) ?_
    exact fun a w st => h1068 v1107 a w (St.cut [0, 1, 2, 3, 4, 5] ⟨rfl, rfl, rfl, rfl, rfl, rfl, trivial⟩ (by decide) rfl st)
   ·skip
    refine RL.ldP (off := 0) (r := (TR.sl (TR.sl TR.int))) (e' := x0) 0 Try_ln22 rfl rfl (Or.inr ⟨rfl, rfl⟩) rfl PtOf.imm Part.self ?_
    intro v1108
    refine RL.fin ?_
    refine RA.next ?_
    refine RA.relist 9 #[true, true, false, true, false, false, false, false, false, false, false, false] rfl (by kernel_rfl) ?_
    exact fun a w st => h1058 v1108 a w (St.cut [1, 2, 3, 4, 5] ⟨rfl, rfl, rfl, rfl, rfl, rfl, rfl, trivial⟩ (by decide) rfl st)
   ·skip
    refine RL.ldPx (off := 0) (e' := l302) 3 Ex.ik Try_ln3 rfl rfl (Or.inr ⟨rfl, rfl⟩) rfl PtOf.obox Part.self ?_
    refine RL.fin ?_
    refine RA.next ?_
    refine RA.relist 9 #[true, true, false, false, true, false, false, false, false, false, false, false] rfl (by kernel_rfl) ?_
    exact fun a w st => h1070 () a w (St.cut [0, 1, 2, 4] ⟨rfl, rfl, rfl, rfl, rfl, rfl, rfl, trivial⟩ (by decide) rfl st)
   ·skip
    refine RL.ldPx (off := 0) (e' := l303) 4 Ex.ik Try_ln3 rfl rfl (Or.inr ⟨rfl, rfl⟩) rfl PtOf.obox Part.self ?_
    refine RL.fin ?_
    refine RA.next ?_
    refine RA.relist 9 #[true, true, false, false, false, true, false, false, false, false, false, false] rfl (by kernel_rfl) ?_
    exact fun a w st => h1075 () a w (St.cut [0, 1, 2, 3, 4] ⟨rfl, rfl, rfl, rfl, rfl, rfl, rfl, rfl, trivial⟩ (by decide) rfl st)
   refine RL.ldPx (off := 0) (e' := l303) 4 Ex.ik Try_ln3 rfl rfl (Or.inr ⟨rfl, rfl⟩) rfl PtOf.obox Part.self ?_
   refine RL.fin ?_
   refine RA.next ?_
   refine RA.relist 9 #[true, true, false, false, false, false, false, true, false, false, false, false] rfl (by kernel_rfl) ?_
   exact fun a w st => h1055 () a w (St.cut [0, 1, 2, 3, 4] ⟨rfl, rfl, rfl, rfl, rfl, rfl, rfl, rfl, trivial⟩ (by decide) rfl st)
  refine RA.meet (ι := Unit) (fun (p : Unit) => [(1, v5), (2, v6), (3, v7), (6, v32), (7, v33), (88, .int .i64 l303), (92, .int .i64 l303)]) (fun (p : Unit) => [imm (TR.ptr (TR.sl (TR.sl TR.int))) v5 x0, obox 26 (TR.pair TR.int TR.int) v6 ((0 : Int), (0 : Int)), obox 26 (TR.pair TR.int TR.int) v7 ((0 : Int), (0 : Int)), obox 3 TR.int v32 l302, obox 3 TR.int v33 l303]) 10 #[false, true, false, false, false, true, false, false, false, false, false, false] (fun h1086 => ?_) ?_
  rotate_left
  ·rintro ⟨⟩
   refine RA.weak (env' := [(1, v5), (2, v6), (3, v7), (6, v32), (7, v33), (88, .int .i64 l303), (92, .int .i64 l303)]) (L' := [imm (TR.ptr (TR.sl (TR.sl TR.int))) v5 x0, obox 26 (TR.pair TR.int TR.int) v6 ((0 : Int), (0 : Int)), obox 26 (TR.pair TR.int TR.int) v7 ((0 : Int), (0 : Int)), obox 3 TR.int v32 l302, obox 3 TR.int v33 l303]) (fun _ _ st => st) ?_
   refine RA.many [0, 3, 4, 7] (by kernel_rfl) ⟨⟨_, rfl, ?_⟩, ⟨_, rfl, ?_⟩, ⟨_, rfl, ?_⟩, ⟨_, rfl, ?_⟩, trivial⟩
   ·skip
    refine RL.ldPx (off := 0) (e' := l302) 3 Ex.ik Try_ln3 rfl rfl (Or.inr ⟨rfl, rfl⟩) rfl PtOf.obox Part.self ?_
    refine RL.fin ?_
    refine RA.next ?_
    refine RA.relist 9 #[true, true, false, false, false, true, false, false, false, false, false, false] rfl (by kernel_rfl) ?_
    exact fun a w st => h1075 () a w (St.cut [0, 1, 2, 3, 4] ⟨rfl, rfl, rfl, rfl, rfl, rfl, rfl, rfl, trivial⟩ (by decide) rfl st)
   ·skip
    refine RL.ldP (off := 0) (r := (TR.sl (TR.sl TR.int))) (e' := x0) 0 Try_ln22 rfl rfl (Or.inr ⟨rfl, rfl⟩) rfl PtOf.imm Part.self ?_
    intro v1106
    refine RL.fin ?_
    refine RA.next ?_
    refine RA.relist 9 #[false, true, false, true, false, true, false, false, false, false, false, false] rfl (by kernel_rfl) ?_
    exact fun a w st => h1064 v1106 a w (St.cut [1, 2, 3, 4, 5] ⟨rfl, rfl, rfl, rfl, rfl, rfl, rfl, trivial⟩ (by decide) rfl st)
   ·skip
    refine RL.ldPx (off := 0) (e' := l302) 3 Ex.ik Try_ln3 rfl rfl (Or.inr ⟨rfl, rfl⟩) rfl PtOf.obox Part.self ?_
    refine RL.fin ?_
    refine RA.next ?_
    refine RA.relist 9 #[false, true, false, false, true, true, false, false, false, false, false, false] rfl (by kernel_rfl) ?_
    exact fun a w st => h1062 () a w (St.cut [0, 1, 2, 3, 4] ⟨rfl, rfl, rfl, rfl, rfl, rfl, rfl, rfl, trivial⟩ (by decide) rfl st)
   refine RL.ldPx (off := 0) (e' := l303) 4 Ex.ik Try_ln3 rfl rfl (Or.inr ⟨rfl, rfl⟩) rfl PtOf.obox Part.self ?_
   refine RL.fin ?_
   refine RA.next ?_
   refine RA.relist 9 #[false, true, false, false, false, true, false, true, false, false, false, false] rfl (by kernel_rfl) ?_
   exact fun a w st => h1059 () a w (St.cut [0, 1, 2, 3] ⟨rfl, rfl, rfl, rfl, rfl, rfl, rfl, trivial⟩ (by decide) rfl st)
  refine RA.meet (ι := Unit) (fun (p : Unit) => [(1, v5), (2, v6), (3, v7), (6, v32), (7, v33), (88, .int .i64 l303), (91, .int .i64 l302)]) (fun (p : Unit) => [imm (TR.ptr (TR.sl (TR.sl TR.int))) v5 x0, obox 26 (TR.pair TR.int TR.int) v6 ((0 : Int), (0 : Int)), obox 26 (TR.pair TR.int TR.int) v7 ((0 : Int), (0 : Int)), obox 3 TR.int v32 l302, obox 3 TR.int v33 l303]) 10 #[false, true, false, false, true, false, false, false, false, false, false, false] (fun h1087 => ?_) ?_
  rotate_left
  ·rintro ⟨⟩
   refine RA.weak (env' := [(1, v5), (2, v6), (3, v7), (6, v32), (7, v33), (88, .int .i64 l303), (91, .int .i64 l302)]) (L' := [imm (TR.ptr (TR.sl (TR.sl TR.int))) v5 x0, obox 26 (TR.pair TR.int TR.int) v6 ((0 : Int), (0 : Int)), obox 26 (TR.pair TR.int TR.int) v7 ((0 : Int), (0 : Int)), obox 3 TR.int v32 l302, obox 3 TR.int v33 l303]) (fun _ _ st => st) ?_
   refine RA.many [0, 3, 5, 7] (by kernel_rfl) ⟨⟨_, rfl, ?_⟩, ⟨_, rfl, ?_⟩, ⟨_, rfl, ?_⟩, ⟨_, rfl, ?_⟩, trivial⟩
   ·skip
    refine RL.ldPx (off := 0) (e' := l302) 3 Ex.ik Try_ln3 rfl rfl (Or.inr ⟨rfl, rfl⟩) rfl PtOf.obox Part.self ?_
    refine RL.fin ?_
    refine RA.next ?_
    refine RA.relist 9 #[true, true, false, false, true, false, false, false, false, false, false, false] rfl (by kernel_rfl) ?_
    exact fun a w st => h1070 () a w (St.cut [0, 1, 2, 4] ⟨rfl, rfl, rfl, rfl, rfl, rfl, rfl, trivial⟩ (by decide) rfl st)
   ·skip
    refine RL.ldP (off := 0) (r := (TR.sl (TR.sl TR.int))) (e' := x0) 0 Try_ln22 rfl rfl (Or.inr ⟨rfl, rfl⟩) rfl PtOf.imm Part.self ?_
    intro v1105
    refine RL.fin ?_
    refine RA.next ?_
    refine RA.relist 9 #[false, true, false, true, true, false, false, false, false, false, false, false] rfl (by kernel_rfl) ?_
    exact fun a w st => h1067 v1105 a w (St.cut [1, 2, 3, 4, 5] ⟨rfl, rfl, rfl, rfl, rfl, rfl, rfl, trivial⟩ (by decide) rfl st)
   ·skip
    refine RL.ldPx (off := 0) (e' := l303) 4 Ex.ik Try_ln3 rfl rfl (Or.inr ⟨rfl, rfl⟩) rfl PtOf.obox Part.self ?_
    refine RL.fin ?_
    refine RA.next ?_
    refine RA.relist 9 #[false, true, false, false, true, true, false, false, false, false, false, false] rfl (by kernel_rfl) ?_
    exact fun a w st => h1062 () a w (St.cut [0, 1, 2, 3, 4] ⟨rfl, rfl, rfl, rfl, rfl, rfl, rfl, rfl, trivial⟩ (by decide) rfl st)
   refine RL.ldPx (off := 0) (e' := l303) 4 Ex.ik Try_ln3 rfl rfl (Or.inr ⟨rfl, rfl⟩) rfl PtOf.obox Part.self ?_
   refine RL.fin ?_
   refine RA.next ?_
   refine RA.relist 9 #[false, true, false, false, true, false, false, true, false, false, false, false] rfl (by kernel_rfl) ?_
   exact fun a w st => h1065 () a w (St.cut [0, 1, 2, 3, 4] ⟨rfl, rfl, rfl, rfl, rfl, rfl, rfl, rfl, trivial⟩ (by decide) rfl st)
  refine RA.meet (ι := Unit) (fun (p : Unit) => [(1, v5), (2, v6), (3, v7), (7, v33), (87, .int .i64 l302), (91, .int .i64 l302)]) (fun (p : Unit) => [imm (TR.ptr (TR.sl (TR.sl TR.int))) v5 x0, obox 26 (TR.pair TR.int TR.int) v6 ((0 : Int), (0 : Int)), obox 26 (TR.pair TR.int TR.int) v7 ((0 : Int), (0 : Int)), obox 3 TR.int v33 l303]) 10 #[true, false, false, false, true, false, false, false, false, false, false, false] (fun h1088 => ?_) ?_
  rotate_left
  ·rintro ⟨⟩
   refine RA.weak (env' := [(1, v5), (2, v6), (3, v7), (7, v33), (87, .int .i64 l302), (91, .int .i64 l302)]) (L' := [imm (TR.ptr (TR.sl (TR.sl TR.int))) v5 x0, obox 26 (TR.pair TR.int TR.int) v6 ((0 : Int), (0 : Int)), obox 26 (TR.pair TR.int TR.int) v7 ((0 : Int), (0 : Int)), obox 3 TR.int v33 l303]) (fun _ _ st => st) ?_
   refine RA.many [1, 3, 5, 7] (by kernel_rfl) ⟨⟨_, rfl, ?_⟩, ⟨_, rfl, ?_⟩, ⟨_, rfl, ?_⟩, ⟨_, rfl, ?_⟩, trivial⟩
   ·skip
    refine RL.ldPx (off := 0) (e' := l303) 3 Ex.ik Try_ln3 rfl rfl (Or.inr ⟨rfl, rfl⟩) rfl PtOf.obox Part.self ?_
    refine RL.fin ?_
    refine RA.next ?_
    refine RA.relist 9 #[true, true, false, false, true, false, false, false, false, false, false, false] rfl (by kernel_rfl) ?_
    exact fun a w st => h1070 () a w (St.cut [0, 1, 2, 3] ⟨rfl, rfl, rfl, rfl, rfl, rfl, rfl, trivial⟩ (by decide) rfl st)
   ·skip
    refine RL.ldP (off := 0) (r := (TR.sl (TR.sl TR.int))) (e' := x0) 0 Try_ln22 rfl rfl (Or.inr ⟨rfl, rfl⟩) rfl PtOf.imm Part.self ?_
    intro v1104
    refine RL.fin ?_
    refine RA.next ?_
    refine RA.relist 9 #[true, false, false, true, true, false, false, false, false, false, false, false] rfl (by kernel_rfl) ?_
    exact fun a w st => h1061 v1104 a w (St.cut [1, 2, 3, 4] ⟨rfl, rfl, rfl, rfl, rfl, rfl, trivial⟩ (by decide) rfl st)
   ·skip
    refine RL.ldPx (off := 0) (e' := l303) 3 Ex.ik Try_ln3 rfl rfl (Or.inr ⟨rfl, rfl⟩) rfl PtOf.obox Part.self ?_
    refine RL.fin ?_
    refine RA.next ?_
    refine RA.relist 9 #[true, false, false, false, true, true, false, false, false, false, false, false] rfl (by kernel_rfl) ?_
    exact fun a w st => h1066 () a w (St.cut [0, 1, 2, 3] ⟨rfl, rfl, rfl, rfl, rfl, rfl, rfl, trivial⟩ (by decide) rfl st)
   refine RL.ldPx (off := 0) (e' := l303) 3 Ex.ik Try_ln3 rfl rfl (Or.inr ⟨rfl, rfl⟩) rfl PtOf.obox Part.self ?_
   refine RL.fin ?_
   refine RA.next ?_
   refine RA.relist 9 #[true, false, false, false, true, false, false, true, false, false, false, false] rfl (by kernel_rfl) ?_
   exact fun a w st => h1072 () a w (St.cut [0, 1, 2, 3] ⟨rfl, rfl, rfl, rfl, rfl, rfl, rfl, trivial⟩ (by decide) rfl st)
  refine RA.meet (ι := Unit) (fun (p : Unit) => [(1, v5), (2, v6), (3, v7), (6, v32), (7, v33), (87, .int .i64 l302), (94, .int .i64 l303)]) (fun (p : Unit) => [imm (TR.ptr (TR.sl (TR.sl TR.int))) v5 x0, obox 26 (TR.pair TR.int TR.int) v6 ((0 : Int), (0 : Int)), obox 26 (TR.pair TR.int TR.int) v7 ((0 : Int), (0 : Int)), obox 3 TR.int v32 l302, obox 3 TR.int v33 l303]) 10 #[true, false, false, false, false, false, false, true, false, false, false, false] (fun h1089 => ?_) ?_
  rotate_left
  ·rintro ⟨⟩
   refine RA.weak (env' := [(1, v5), (2, v6), (3, v7), (6, v32), (7, v33), (87, .int .i64 l302), (94, .int .i64 l303)]) (L' := [imm (TR.ptr (TR.sl (TR.sl TR.int))) v5 x0, obox 26 (TR.pair TR.int TR.int) v6 ((0 : Int), (0 : Int)), obox 26 (TR.pair TR.int TR.int) v7 ((0 : Int), (0 : Int)), obox 3 TR.int v32 l302, obox 3 TR.int v33 l303]) (fun _ _ st => st) ?_
   refine RA.many [1, 3, 4, 5] (by kernel_rfl) ⟨⟨_, rfl, ?_⟩, ⟨_, rfl, ?_⟩, ⟨_, rfl, ?_⟩, ⟨_, rfl, ?_⟩, trivial⟩
   ·skip
    refine RL.ldPx (off := 0) (e' := l303) 4 Ex.ik Try_ln3 rfl rfl (Or.inr ⟨rfl, rfl⟩) rfl PtOf.obox Part.self ?_
    refine RL.fin ?_
    refine RA.next ?_
    refine RA.relist 9 #[true, true, false, false, false, false, false, true, false, false, false, false] rfl (by kernel_rfl) ?_
    exact fun a w st => h1055 () a w (St.cut [0, 1, 2, 3, 4] ⟨rfl, rfl, rfl, rfl, rfl, rfl, rfl, rfl, trivial⟩ (by decide) rfl st)
   ·skip
    refine RL.ldP (off := 0) (r := (TR.sl (TR.sl TR.int))) (e' := x0) 0 Try_ln22 rfl rfl (Or.inr ⟨rfl, rfl⟩) rfl PtOf.imm Part.self ?_
    intro v1103
    refine RL.fin ?_
    refine RA.next ?_
    refine RA.relist 9 #[true, false, false, true, false, false, false, true, false, false, false, false] rfl (by kernel_rfl) ?_
    exact fun a w st => h1071 v1103 a w (St.cut [1, 2, 3, 4, 5] ⟨rfl, rfl, rfl, rfl, rfl, rfl, rfl, trivial⟩ (by decide) rfl st)
   ·skip
    refine RL.ldPx (off := 0) (e' := l302) 3 Ex.ik Try_ln3 rfl rfl (Or.inr ⟨rfl, rfl⟩) rfl PtOf.obox Part.self ?_
    refine RL.fin ?_
    refine RA.next ?_
    refine RA.relist 9 #[true, false, false, false, true, false, false, true, false, false, false, false] rfl (by kernel_rfl) ?_
    exact fun a w st => h1072 () a w (St.cut [0, 1, 2, 4] ⟨rfl, rfl, rfl, rfl, rfl, rfl, rfl, trivial⟩ (by decide) rfl st)
   refine RL.ldPx (off := 0) (e' := l303) 4 Ex.ik Try_ln3 rfl rfl (Or.inr ⟨rfl, rfl⟩) rfl PtOf.obox Part.self ?_
   refine RL.fin ?_
   refine RA.next ?_
   refine RA.relist 9 #[true, false, false, false, false, true, false, true, false, false, false, false] rfl (by kernel_rfl) ?_
   exact fun a w st => h1063 () a w (St.cut [0, 1, 2, 3, 4] ⟨rfl, rfl, rfl, rfl, rfl, rfl, rfl, rfl, trivial⟩ (by decide) rfl st)
  refine RA.meet (ι := Value) (fun (p : Value) => [(2, v6), (3, v7), (6, v32), (7, v33), (88, .int .i64 l303), (90, p)]) (fun (p : Value) => [obox 26 (TR.pair TR.int TR.int) v6 ((0 : Int), (0 : Int)), obox 26 (TR.pair TR.int TR.int) v7 ((0 : Int), (0 : Int)), obox 3 TR.int v32 l302, obox 3 TR.int v33 l303, imm (TR.sl (TR.sl TR.int)) p x0]) 10 #[false, true, false, true, false, false, false, false, false, false, false, false] (fun h1090 => ?_) ?_
  rotate_left
  ·rintro v1004
   refine RA.weak (env' := [(2, v6), (3, v7), (6, v32), (7, v33), (88, .int .i64 l303), (90, v1004)]) (L' := [obox 26 (TR.pair TR.int TR.int) v6 ((0 : Int), (0 : Int)), obox 26 (TR.pair TR.int TR.int) v7 ((0 : Int), (0 : Int)), obox 3 TR.int v32 l302, obox 3 TR.int v33 l303, imm (TR.sl (TR.sl TR.int)) v1004 x0]) (fun _ _ st => st) ?_
   refine RA.many [0, 4, 5, 7] (by kernel_rfl) ⟨⟨_, rfl, ?_⟩, ⟨_, rfl, ?_⟩, ⟨_, rfl, ?_⟩, ⟨_, rfl, ?_⟩, trivial⟩
   ·skip
    refine RL.ldPx (off := 0) (e' := l302) 2 Ex.ik Try_ln3 rfl rfl (Or.inr ⟨rfl, rfl⟩) rfl PtOf.obox Part.self ?_
    refine RL.fin ?_
    refine RA.next ?_
    refine RA.relist 9 #[true, true, false, true, false, false, false, false, false, false, false, false] rfl (by kernel_rfl) ?_
    exact fun a w st => h1058 v1004 a w (St.cut [0, 1, 2, 3, 4] ⟨rfl, rfl, rfl, rfl, rfl, rfl, rfl, trivial⟩ (by decide) rfl st)
   ·skip
    refine RL.ldPx (off := 0) (e' := l302) 2 Ex.ik Try_ln3 rfl rfl (Or.inr ⟨rfl, rfl⟩) rfl PtOf.obox Part.self ?_
    refine RL.fin ?_
    refine RA.next ?_
    refine RA.relist 9 #[false, true, false, true, true, false, false, false, false, false, false, false] rfl (by kernel_rfl) ?_
    exact fun a w st => h1067 v1004 a w (St.cut [0, 1, 2, 3, 4] ⟨rfl, rfl, rfl, rfl, rfl, rfl, rfl, trivial⟩ (by decide) rfl st)
   ·skip
    refine RL.ldPx (off := 0) (e' := l303) 3 Ex.ik Try_ln3 rfl rfl (Or.inr ⟨rfl, rfl⟩) rfl PtOf.obox Part.self ?_
    refine RL.fin ?_
    refine RA.next ?_
    refine RA.relist 9 #[false, true, false, true, false, true, false, false, false, false, false, false] rfl (by kernel_rfl) ?_
    exact fun a w st => h1064 v1004 a w (St.cut [0, 1, 2, 3, 4] ⟨rfl, rfl, rfl, rfl, rfl, rfl, rfl, trivial⟩ (by decide) rfl st)
   refine RL.ldPx (off := 0) (e' := l303) 3 Ex.ik Try_ln3 rfl rfl (Or.inr ⟨rfl, rfl⟩) rfl PtOf.obox Part.self ?_
   refine RL.fin ?_
   refine RA.next ?_
   refine RA.relist 9 #[false, true, false, true, false, false, false, true, false, false, false, false] rfl (by kernel_rfl) ?_
   exact fun a w st => h1056 v1004 a w (St.cut [0, 1, 2, 3, 4] ⟨rfl, rfl, rfl, rfl, rfl, rfl, rfl, trivial⟩ (by decide) rfl st)
  refine RA.meet (ι := Value) (fun (p : Value) => [(2, v6), (3, v7), (6, v32), (7, v33), (90, p)]) (fun (p : Value) => [obox 26 (TR.pair TR.int TR.int) v6 ((0 : Int), (0 : Int)), obox 26 (TR.pair TR.int TR.int) v7 ((0 : Int), (0 : Int)), obox 3 TR.int v32 l302, obox 3 TR.int v33 l303, imm (TR.sl (TR.sl TR.int)) p x0]) 11 #[false, false, false, true, false, false, false, false, false, false, false, false] (fun h1091 => ?_) ?_
  rotate_left
  ·rintro v1004
   refine RA.weak (env' := [(2, v6), (3, v7), (6, v32), (7, v33), (90, v1004)]) (L' := [obox 26 (TR.pair TR.int TR.int) v6 ((0 : Int), (0 : Int)), obox 26 (TR.pair TR.int TR.int) v7 ((0 : Int), (0 : Int)), obox 3 TR.int v32 l302, obox 3 TR.int v33 l303, imm (TR.sl (TR.sl TR.int)) v1004 x0]) (fun _ _ st => st) ?_
   refine RA.many [0, 1, 4, 5, 7] (by kernel_rfl) ⟨⟨_, rfl, ?_⟩, ⟨_, rfl, ?_⟩, ⟨_, rfl, ?_⟩, ⟨_, rfl, ?_⟩, ⟨_, rfl, ?_⟩, trivial⟩
   ·skip
    refine RL.ldPx (off := 0) (e' := l302) 2 Ex.ik Try_ln3 rfl rfl (Or.inr ⟨rfl, rfl⟩) rfl PtOf.obox Part.self ?_
    refine RL.fin ?_
    refine RA.next ?_
    refine RA.relist 10 #[true, false, false, true, false, false, false, false, false, false, false, false] rfl (by kernel_rfl) ?_
    exact fun a w st => h1080 v1004 a w (St.cut [0, 1, 2, 3, 4] ⟨rfl, rfl, rfl, rfl, rfl, rfl, trivial⟩ (by decide) rfl st)
   ·skip
    refine RL.ldPx (off := 0) (e' := l303) 3 Ex.ik Try_ln3 rfl rfl (Or.inr ⟨rfl, rfl⟩) rfl PtOf.obox Part.self ?_
    refine RL.fin ?_
    refine RA.next ?_
    refine RA.relist 10 #[false, true, false, true, false, false, false, false, false, false, false, false] rfl (by kernel_rfl) ?_
    exact fun a w st => h1090 v1004 a w (St.cut [0, 1, 2, 3, 4] ⟨rfl, rfl, rfl, rfl, rfl, rfl, trivial⟩ (by decide) rfl st)
   ·skip
    refine RL.ldPx (off := 0) (e' := l302) 2 Ex.ik Try_ln3 rfl rfl (Or.inr ⟨rfl, rfl⟩) rfl PtOf.obox Part.self ?_
    refine RL.fin ?_
    refine RA.next ?_
    refine RA.relist 10 #[false, false, false, true, true, false, false, false, false, false, false, false] rfl (by kernel_rfl) ?_
    exact fun a w st => h1076 v1004 a w (St.cut [0, 1, 2, 3, 4] ⟨rfl, rfl, rfl, rfl, rfl, rfl, trivial⟩ (by decide) rfl st)
   ·skip
    refine RL.ldPx (off := 0) (e' := l303) 3 Ex.ik Try_ln3 rfl rfl (Or.inr ⟨rfl, rfl⟩) rfl PtOf.obox Part.self ?_
    refine RL.fin ?_
    refine RA.next ?_
    refine RA.relist 10 #[false, false, false, true, false, true, false, false, false, false, false, false] rfl (by kernel_rfl) ?_
    exact fun a w st => h1081 v1004 a w (St.cut [0, 1, 2, 3, 4] ⟨rfl, rfl, rfl, rfl, rfl, rfl, trivial⟩ (by decide) rfl st)
   refine RL.ldPx (off := 0) (e' := l303) 3 Ex.ik Try_ln3 rfl rfl (Or.inr ⟨rfl, rfl⟩) rfl PtOf.obox Part.self ?_
   refine RL.fin ?_
   refine RA.next ?_
   refine RA.relist 10 #[false, false, false, true, false, false, false, true, false, false, false, false] rfl (by kernel_rfl) ?_
   exact fun a w st => h1084 v1004 a w (St.cut [0, 1, 2, 3, 4] ⟨rfl, rfl, rfl, rfl, rfl, rfl, trivial⟩ (by decide) rfl st)
  refine RA.meet (ι := Unit) (fun (p : Unit) => [(1, v5), (2, v6), (3, v7), (6, v32), (7, v33), (87, .int .i64 l302)]) (fun (p : Unit) => [imm (TR.ptr (TR.sl (TR.sl TR.int))) v5 x0, obox 26 (TR.pair TR.int TR.int) v6 ((0 : Int), (0 : Int)), obox 26 (TR.pair TR.int TR.int) v7 ((0 : Int), (0 : Int)), obox 3 TR.int v32 l302, obox 3 TR.int v33 l303]) 11 #[true, false, false, false, false, false, false, false, false, false, false, false] (fun h1092 => ?_) ?_
  rotate_left
  ·rintro ⟨⟩
   refine RA.weak (env' := [(1, v5), (2, v6), (3, v7), (6, v32), (7, v33), (87, .int .i64 l302)]) (L' := [imm (TR.ptr (TR.sl (TR.sl TR.int))) v5 x0, obox 26 (TR.pair TR.int TR.int) v6 ((0 : Int), (0 : Int)), obox 26 (TR.pair TR.int TR.int) v7 ((0 : Int), (0 : Int)), obox 3 TR.int v32 l302, obox 3 TR.int v33 l303]) (fun _ _ st => st) ?_
   refine RA.many [1, 3, 4, 5, 7] (by kernel_rfl) ⟨⟨_, rfl, ?_⟩, ⟨_, rfl, ?_⟩, ⟨_, rfl, ?_⟩, ⟨_, rfl, ?_⟩, ⟨_, rfl, ?_⟩, trivial⟩
   ·skip
    refine RL.ldPx (off := 0) (e' := l303) 4 Ex.ik Try_ln3 rfl rfl (Or.inr ⟨rfl, rfl⟩) rfl PtOf.obox Part.self ?_
    refine RL.fin ?_
    refine RA.next ?_
    refine RA.relist 10 #[true, true, false, false, false, false, false, false, false, false, false, false] rfl (by kernel_rfl) ?_
    exact fun a w st => h1085 () a w (St.cut [0, 1, 2, 3, 4] ⟨rfl, rfl, rfl, rfl, rfl, rfl, rfl, trivial⟩ (by decide) rfl st)
   ·skip
    refine RL.ldP (off := 0) (r := (TR.sl (TR.sl TR.int))) (e' := x0) 0 Try_ln22 rfl rfl (Or.inr ⟨rfl, rfl⟩) rfl PtOf.imm Part.self ?_
    intro v1102
    refine RL.fin ?_
    refine RA.next ?_
    refine RA.relist 10 #[true, false, false, true, false, false, false, false, false, false, false, false] rfl (by kernel_rfl) ?_
    exact fun a w st => h1080 v1102 a w (St.cut [1, 2, 3, 4, 5] ⟨rfl, rfl, rfl, rfl, rfl, rfl, trivial⟩ (by decide) rfl st)
   ·skip
    refine RL.ldPx (off := 0) (e' := l302) 3 Ex.ik Try_ln3 rfl rfl (Or.inr ⟨rfl, rfl⟩) rfl PtOf.obox Part.self ?_
    refine RL.fin ?_
    refine RA.next ?_
    refine RA.relist 10 #[true, false, false, false, true, false, false, false, false, false, false, false] rfl (by kernel_rfl) ?_
    exact fun a w st => h1088 () a w (St.cut [0, 1, 2, 4] ⟨rfl, rfl, rfl, rfl, rfl, rfl, trivial⟩ (by decide) rfl st)
   ·skip
    refine RL.ldPx (off := 0) (e' := l303) 4 Ex.ik Try_ln3 rfl rfl (Or.inr ⟨rfl, rfl⟩) rfl PtOf.obox Part.self ?_
    refine RL.fin ?_
    refine RA.next ?_
    refine RA.relist 10 #[true, false, false, false, false, true, false, false, false, false, false, false] rfl (by kernel_rfl) ?_
    exact fun a w st => h1083 () a w (St.cut [0, 1, 2, 3, 4] ⟨rfl, rfl, rfl, rfl, rfl, rfl, rfl, trivial⟩ (by decide) rfl st)
   refine RL.ldPx (off := 0) (e' := l303) 4 Ex.ik Try_ln3 rfl rfl (Or.inr ⟨rfl, rfl⟩) rfl PtOf.obox Part.self ?_
   refine RL.fin ?_
   refine RA.next ?_
   refine RA.relist 10 #[true, false, false, false, false, false, false, true, false, false, false, false] rfl (by kernel_rfl) ?_
   exact fun a w st => h1089 () a w (St.cut [0, 1, 2, 3, 4] ⟨rfl, rfl, rfl, rfl, rfl, rfl, rfl, trivial⟩ (by decide) rfl st)
  refine RA.meet (ι := Unit) (fun (p : Unit) => [(1, v5), (2, v6), (3, v7), (6, v32), (7, v33), (92, .int .i64 l303)]) (fun (p : Unit) => [imm (TR.ptr (TR.sl (TR.sl TR.int))) v5 x0, obox 26 (TR.pair TR.int TR.int) v6 ((0 : Int), (0 : Int)), obox 26 (TR.pair TR.int TR.int) v7 ((0 : Int), (0 : Int)), obox 3 TR.int v32 l302, obox 3 TR.int v33 l303]) 11 #[false, false, false, false, false, true, false, false, false, false, false, false] (fun h1093 => ?_) ?_
  rotate_left
  ·rintro ⟨⟩
   refine RA.weak (env' := [(1, v5), (2, v6), (3, v7), (6, v32), (7, v33), (92, .int .i64 l303)]) (L' := [imm (TR.ptr (TR.sl (TR.sl TR.int))) v5 x0, obox 26 (TR.pair TR.int TR.int) v6 ((0 : Int), (0 : Int)), obox 26 (TR.pair TR.int TR.int) v7 ((0 : Int), (0 : Int)), obox 3 TR.int v32 l302, obox 3 TR.int v33 l303]) (fun _ _ st => st) ?_
   refine RA.many [0, 1, 3, 4, 7] (by kernel_rfl) ⟨⟨_, rfl, ?_⟩, ⟨_, rfl, ?_⟩, ⟨_, rfl, ?_⟩, ⟨_, rfl, ?_⟩, ⟨_, rfl, ?_⟩, trivial⟩
   ·skip
    refine RL.ldPx (off := 0) (e' := l302) 3 Ex.ik Try_ln3 rfl rfl (Or.inr ⟨rfl, rfl⟩) rfl PtOf.obox Part.self ?_
    refine RL.fin ?_
    refine RA.next ?_
    refine RA.relist 10 #[true, false, false, false, false, true, false, false, false, false, false, false] rfl (by kernel_rfl) ?_
    exact fun a w st => h1083 () a w (St.cut [0, 1, 2, 3, 4] ⟨rfl, rfl, rfl, rfl, rfl, rfl, rfl, trivial⟩ (by decide) rfl st)
   ·skip
    refine RL.ldPx (off := 0) (e' := l303) 4 Ex.ik Try_ln3 rfl rfl (Or.inr ⟨rfl, rfl⟩) rfl PtOf.obox Part.self ?_
    refine RL.fin ?_
    refine RA.next ?_
    refine RA.relist 10 #[false, true, false, false, false, true, false, false, false, false, false, false] rfl (by kernel_rfl) ?_
    exact fun a w st => h1086 () a w (St.cut [0, 1, 2, 3, 4] ⟨rfl, rfl, rfl, rfl, rfl, rfl, rfl, trivial⟩ (by decide) rfl st)
   ·skip
    refine RL.ldP (off := 0) (r := (TR.sl (TR.sl TR.int))) (e' := x0) 0 Try_ln22 rfl rfl (Or.inr ⟨rfl, rfl⟩) rfl PtOf.imm Part.self ?_
    intro v1101
    refine RL.fin ?_
    refine RA.next ?_
    refine RA.relist 10 #[false, false, false, true, false, true, false, false, false, false, false, false] rfl (by kernel_rfl) ?_
    exact fun a w st => h1081 v1101 a w (St.cut [1, 2, 3, 4, 5] ⟨rfl, rfl, rfl, rfl, rfl, rfl, trivial⟩ (by decide) rfl st)
   ·skip
    refine RL.ldPx (off := 0) (e' := l302) 3 Ex.ik Try_ln3 rfl rfl (Or.inr ⟨rfl, rfl⟩) rfl PtOf.obox Part.self ?_
    refine RL.fin ?_
    refine RA.next ?_
    refine RA.relist 10 #[false, false, false, false, true, true, false, false, false, false, false, false] rfl (by kernel_rfl) ?_
    exact fun a w st => h1078 () a w (St.cut [0, 1, 2, 3, 4] ⟨rfl, rfl, rfl, rfl, rfl, rfl, rfl, trivial⟩ (by decide) rfl st)
   refine RL.ldPx (off := 0) (e' := l303) 4 Ex.ik Try_ln3 rfl rfl (Or.inr ⟨rfl, rfl⟩) rfl PtOf.obox Part.self ?_
   refine RL.fin ?_
   refine RA.next ?_
   refine RA.relist 10 #[false, false, false, false, false, true, false, true, false, false, false, false] rfl (by kernel_rfl) ?_
   exact fun a w st => h1082 () a w (St.cut [0, 1, 2, 3, 4] ⟨rfl, rfl, rfl, rfl, rfl, rfl, rfl, trivial⟩ (by decide) rfl st)
  refine RA.meet (ι := Unit) (fun (p : Unit) => [(1, v5), (2, v6), (3, v7), (6, v32), (7, v33), (88, .int .i64 l303)]) (fun (p : Unit) => [imm (TR.ptr (TR.sl (TR.sl TR.int))) v5 x0, obox 26 (TR.pair TR.int TR.int) v6 ((0 : Int), (0 : Int)), obox 26 (TR.pair TR.int TR.int) v7 ((0 : Int), (0 : Int)), obox 3 TR.int v32 l302, obox 3 TR.int v33 l303]) 11 #[false, true, false, false, false, false, false, false, false, false, false, false] (fun h1094 => ?_) ?_
  rotate_left
  ·rintro ⟨⟩
   refine RA.weak (env' := [(1, v5), (2, v6), (3, v7), (6, v32), (7, v33), (88, .int .i64 l303)]) (L' := [imm (TR.ptr (TR.sl (TR.sl TR.int))) v5 x0, obox 26 (TR.pair TR.int TR.int) v6 ((0 : Int), (0 : Int)), obox 26 (TR.pair TR.int TR.int) v7 ((0 : Int), (0 : Int)), obox 3 TR.int v32 l302, obox 3 TR.int v33 l303]) (fun _ _ st => st) ?_
   refine RA.many [0, 3, 4, 5, 7] (by kernel_rfl) ⟨⟨_, rfl, ?_⟩, ⟨_, rfl, ?_⟩, ⟨_, rfl, ?_⟩, ⟨_, rfl, ?_⟩, ⟨_, rfl, ?_⟩, trivial⟩
   ·skip
    refine RL.ldPx (off := 0) (e' := l302) 3 Ex.ik Try_ln3 rfl rfl (Or.inr ⟨rfl, rfl⟩) rfl PtOf.obox Part.self ?_
    refine RL.fin ?_
    refine RA.next ?_
    refine RA.relist 10 #[true, true, false, false, false, false, false, false, false, false, false, false] rfl (by kernel_rfl) ?_
    exact fun a w st => h1085 () a w (St.cut [0, 1, 2, 3, 4] ⟨rfl, rfl, rfl, rfl, rfl, rfl, rfl, trivial⟩ (by decide) rfl st)
   ·skip
    refine RL.ldP (off := 0) (r := (TR.sl (TR.sl TR.int))) (e' := x0) 0 Try_ln22 rfl rfl (Or.inr ⟨rfl, rfl⟩) rfl PtOf.imm Part.self ?_
    intro v1100
    refine RL.fin ?_
    refine RA.next ?_
    refine RA.relist 10 #[false, true, false, true, false, false, false, false, false, false, false, false] rfl (by kernel_rfl) ?_
    exact fun a w st => h1090 v1100 a w (St.cut [1, 2, 3, 4, 5] ⟨rfl, rfl, rfl, rfl, rfl, rfl, trivial⟩ (by decide) rfl st)
   ·skip
    refine RL.ldPx (off := 0) (e' := l302) 3 Ex.ik Try_ln3 rfl rfl (Or.inr ⟨rfl, rfl⟩) rfl PtOf.obox Part.self ?_
    refine RL.fin ?_
    refine RA.next ?_
    refine RA.relist 10 #[false, true, false, false, true, false, false, false, false, false, false, false] rfl (by kernel_rfl) ?_
    exact fun a w st => h1087 () a w (St.cut [0, 1, 2, 3, 4] ⟨rfl, rfl, rfl, rfl, rfl, rfl, rfl, trivial⟩ (by decide) rfl st)
   ·skip
    refine RL.ldPx (off := 0) (e' := l303) 4 Ex.ik Try_ln3 rfl rfl (Or.inr ⟨rfl, rfl⟩) rfl PtOf.obox Part.self ?_
    refine RL.fin ?_
    refine RA.next ?_
    refine RA.relist 10 #[false, true, false, false, false, true, false, false, false, false, false, false] rfl (by kernel_rfl) ?_
    exact fun a w st => h1086 () a w (St.cut [0, 1, 2, 3, 4] ⟨rfl, rfl, rfl, rfl, rfl, rfl, rfl, trivial⟩ (by decide) rfl st)
   refine RL.ldPx (off := 0) (e' := l303) 4 Ex.ik Try_ln3 rfl rfl (Or.inr ⟨rfl, rfl⟩) rfl PtOf.obox Part.self ?_
   refine RL.fin ?_
   refine RA.next ?_
   refine RA.relist 10 #[false, true, false, false, false, false, false, true, false, false, false, false] rfl (by kernel_rfl) ?_
   exact fun a w st => h1079 () a w (St.cut [0, 1, 2, 3, 4] ⟨rfl, rfl, rfl, rfl, rfl, rfl, rfl, trivial⟩ (by decide) rfl st)
  refine RA.meet (ι := Unit) (fun (p : Unit) => [(1, v5), (2, v6), (3, v7), (6, v32), (7, v33), (91, .int .i64 l302)]) (fun (p : Unit) => [imm (TR.ptr (TR.sl (TR.sl TR.int))) v5 x0, obox 26 (TR.pair TR.int TR.int) v6 ((0 : Int), (0 : Int)), obox 26 (TR.pair TR.int TR.int) v7 ((0 : Int), (0 : Int)), obox 3 TR.int v32 l302, obox 3 TR.int v33 l303]) 11 #[false, false, false, false, true, false, false, false, false, false, false, false] (fun h1095 => ?_) ?_
  rotate_left
  ·rintro ⟨⟩
   refine RA.weak (env' := [(1, v5), (2, v6), (3, v7), (6, v32), (7, v33), (91, .int .i64 l302)]) (L' := [imm (TR.ptr (TR.sl (TR.sl TR.int))) v5 x0, obox 26 (TR.pair TR.int TR.int) v6 ((0 : Int), (0 : Int)), obox 26 (TR.pair TR.int TR.int) v7 ((0 : Int), (0 : Int)), obox 3 TR.int v32 l302, obox 3 TR.int v33 l303]) (fun _ _ st => st) ?_
   refine RA.many [0, 1, 3, 5, 7] (by kernel_rfl) ⟨⟨_, rfl, ?_⟩, ⟨_, rfl, ?_⟩, ⟨_, rfl, ?_⟩, ⟨_, rfl, ?_⟩, ⟨_, rfl, ?_⟩, trivial⟩
   ·skip
    refine RL.ldPx (off := 0) (e' := l302) 3 Ex.ik Try_ln3 rfl rfl (Or.inr ⟨rfl, rfl⟩) rfl PtOf.obox Part.self ?_
    refine RL.fin ?_
    refine RA.next ?_
    refine RA.relist 10 #[true, false, false, false, true, false, false, false, false, false, false, false] rfl (by kernel_rfl) ?_
    exact fun a w st => h1088 () a w (St.cut [0, 1, 2, 4] ⟨rfl, rfl, rfl, rfl, rfl, rfl, trivial⟩ (by decide) rfl st)
   ·skip
    refine RL.ldPx (off := 0) (e' := l303) 4 Ex.ik Try_ln3 rfl rfl (Or.inr ⟨rfl, rfl⟩) rfl PtOf.obox Part.self ?_
    refine RL.fin ?_
    refine RA.next ?_
    refine RA.relist 10 #[false, true, false, false, true, false, false, false, false, false, false, false] rfl (by kernel_rfl) ?_
    exact fun a w st => h1087 () a w (St.cut [0, 1, 2, 3, 4] ⟨rfl, rfl, rfl, rfl, rfl, rfl, rfl, trivial⟩ (by decide) rfl st)
   ·skip
    refine RL.ldP (off := 0) (r := (TR.sl (TR.sl TR.int))) (e' := x0) 0 Try_ln22 rfl rfl (Or.inr ⟨rfl, rfl⟩) rfl PtOf.imm Part.self ?_
    intro v1099
    refine RL.fin ?_
    refine RA.next ?_
    refine RA.relist 10 #[false, false, false, true, true, false, false, false, false, false, false, false] rfl (by kernel_rfl) ?_
    exact fun a w st => h1076 v1099 a w (St.cut [1, 2, 3, 4, 5] ⟨rfl, rfl, rfl, rfl, rfl, rfl, trivial⟩ (by decide) rfl st)
   ·skip
    refine RL.ldPx (off := 0) (e' := l303) 4 Ex.ik Try_ln3 rfl rfl (Or.inr ⟨rfl, rfl⟩) rfl PtOf.obox Part.self ?_
    refine RL.fin ?_
    refine RA.next ?_
    refine RA.relist 10 #[false, false, false, false, true, true, false, false, false, false, false, false] rfl (by kernel_rfl) ?_
    exact fun a w st => h1078 () a w (St.cut [0, 1, 2, 3, 4] ⟨rfl, rfl, rfl, rfl, rfl, rfl, rfl, trivial⟩ (by decide) rfl st)
   refine RL.ldPx (off := 0) (e' := l303) 4 Ex.ik Try_ln3 rfl rfl (Or.inr ⟨rfl, rfl⟩) rfl PtOf.obox Part.self ?_
   refine RL.fin ?_
   refine RA.next ?_
   refine RA.relist 10 #[false, false, false, false, true, false, false, true, false, false, false, false] rfl (by kernel_rfl) ?_
   exact fun a w st => h1077 () a w (St.cut [0, 1, 2, 3, 4] ⟨rfl, rfl, rfl, rfl, rfl, rfl, rfl, trivial⟩ (by decide) rfl st)
  refine RA.meet (ι := Unit) (fun (p : Unit) => [(1, v5), (2, v6), (3, v7), (6, v32), (7, v33), (94, .int .i64 l303)]) (fun (p : Unit) => [imm (TR.ptr (TR.sl (TR.sl TR.int))) v5 x0, obox 26 (TR.pair TR.int TR.int) v6 ((0 : Int), (0 : Int)), obox 26 (TR.pair TR.int TR.int) v7 ((0 : Int), (0 : Int)), obox 3 TR.int v32 l302, obox 3 TR.int v33 l303]) 11 #[false, false, false, false, false, false, false, true, false, false, false, false] (fun h1096 => ?_) ?_
  rotate_left
  ·rintro ⟨⟩
   refine RA.weak (env' := [(1, v5), (2, v6), (3, v7), (6, v32), (7, v33), (94, .int .i64 l303)]) (L' := [imm (TR.ptr (TR.sl (TR.sl TR.int))) v5 x0, obox 26 (TR.pair TR.int TR.int) v6 ((0 : Int), (0 : Int)), obox 26 (TR.pair TR.int TR.int) v7 ((0 : Int), (0 : Int)), obox 3 TR.int v32 l302, obox 3 TR.int v33 l303]) (fun _ _ st => st) ?_
   refine RA.many [0, 1, 3, 4, 5] (by kernel_rfl) ⟨⟨_, rfl, ?_⟩, ⟨_, rfl, ?_⟩, ⟨_, rfl, ?_⟩, ⟨_, rfl, ?_⟩, ⟨_, rfl, ?_⟩, trivial⟩
   ·skip
    refine RL.ldPx (off := 0) (e' := l302) 3 Ex.ik Try_ln3 rfl rfl (Or.inr ⟨rfl, rfl⟩) rfl PtOf.obox Part.self ?_
    refine RL.fin ?_
    refine RA.next ?_
    refine RA.relist 10 #[true, false, false, false, false, false, false, true, false, false, false, false] rfl (by kernel_rfl) ?_
    exact fun a w st => h1089 () a w (St.cut [0, 1, 2, 3, 4] ⟨rfl, rfl, rfl, rfl, rfl, rfl, rfl, trivial⟩ (by decide) rfl st)
   ·skip
    refine RL.ldPx (off := 0) (e' := l303) 4 Ex.ik Try_ln3 rfl rfl (Or.inr ⟨rfl, rfl⟩) rfl PtOf.obox Part.self ?_
    refine RL.fin ?_
    refine RA.next ?_
    refine RA.relist 10 #[false, true, false, false, false, false, false, true, false, false, false, false] rfl (by kernel_rfl) ?_
    exact fun a w st => h1079 () a w (St.cut [0, 1, 2, 3, 4] ⟨rfl, rfl, rfl, rfl, rfl, rfl, rfl, trivial⟩ (by decide) rfl st)
   ·skip
    refine RL.ldP (off := 0) (r := (TR.sl (TR.sl TR.int))) (e' := x0) 0 Try_ln22 rfl rfl (Or.inr ⟨rfl, rfl⟩) rfl PtOf.imm Part.self ?_
    intro v1098
    refine RL.fin ?_
    refine RA.next ?_
    refine RA.relist 10 #[false, false, false, true, false, false, false, true, false, false, false, false] rfl (by kernel_rfl) ?_
    exact fun a w st => h1084 v1098 a w (St.cut [1, 2, 3, 4, 5] ⟨rfl, rfl, rfl, rfl, rfl, rfl, trivial⟩ (by decide) rfl st)
   ·skip
    refine RL.ldPx (off := 0) (e' := l302) 3 Ex.ik Try_ln3 rfl rfl (Or.inr ⟨rfl, rfl⟩) rfl PtOf.obox Part.self ?_
    refine RL.fin ?_
    refine RA.next ?_
    refine RA.relist 10 #[false, false, false, false, true, false, false, true, false, false, false, false] rfl (by kernel_rfl) ?_
    exact fun a w st => h1077 () a w (St.cut [0, 1, 2, 3, 4] ⟨rfl, rfl, rfl, rfl, rfl, rfl, rfl, trivial⟩ (by decide) rfl st)
   refine RL.ldPx (off := 0) (e' := l303) 4 Ex.ik Try_ln3 rfl rfl (Or.inr ⟨rfl, rfl⟩) rfl PtOf.obox Part.self ?_
   refine RL.fin ?_
   refine RA.next ?_
   refine RA.relist 10 #[false, false, false, false, false, true, false, true, false, false, false, false] rfl (by kernel_rfl) ?_
   exact fun a w st => h1082 () a w (St.cut [0, 1, 2, 3, 4] ⟨rfl, rfl, rfl, rfl, rfl, rfl, rfl, trivial⟩ (by decide) rfl st)
  refine RA.many [0, 1, 3, 4, 5, 7] (by kernel_rfl) ⟨⟨_, rfl, ?_⟩, ⟨_, rfl, ?_⟩, ⟨_, rfl, ?_⟩, ⟨_, rfl, ?_⟩, ⟨_, rfl, ?_⟩, ⟨_, rfl, ?_⟩, trivial⟩
  ·skip
   refine RL.ldPx (off := 0) (e' := l302) 3 Ex.ik Try_ln3 rfl rfl (Or.inr ⟨rfl, rfl⟩) rfl PtOf.obox Part.self ?_
   refine RL.fin ?_
   refine RA.next ?_
   refine RA.relist 11 #[true, false, false, false, false, false, false, false, false, false, false, false] rfl (by kernel_rfl) ?_
   exact fun a w st => h1092 () a w (St.cut [0, 1, 2, 3, 4] ⟨rfl, rfl, rfl, rfl, rfl, rfl, trivial⟩ (by decide) rfl st)
  ·skip
   refine RL.ldPx (off := 0) (e' := l303) 4 Ex.ik Try_ln3 rfl rfl (Or.inr ⟨rfl, rfl⟩) rfl PtOf.obox Part.self ?_
   refine RL.fin ?_
   refine RA.next ?_
   refine RA.relist 11 #[false, true, false, false, false, false, false, false, false, false, false, false] rfl (by kernel_rfl) ?_
   exact fun a w st => h1094 () a w (St.cut [0, 1, 2, 3, 4] ⟨rfl, rfl, rfl, rfl, rfl, rfl, trivial⟩ (by decide) rfl st)
  ·skip
   refine RL.ldP (off := 0) (r := (TR.sl (TR.sl TR.int))) (e' := x0) 0 Try_ln22 rfl rfl (Or.inr ⟨rfl, rfl⟩) rfl PtOf.imm Part.self ?_
   intro v1097
   refine RL.fin ?_
   refine RA.next ?_
   refine RA.relist 11 #[false, false, false, true, false, false, false, false, false, false, false, false] rfl (by kernel_rfl) ?_
   exact fun a w st => h1091 v1097 a w (St.cut [1, 2, 3, 4, 5] ⟨rfl, rfl, rfl, rfl, rfl, trivial⟩ (by decide) rfl st)
  ·skip
   refine RL.ldPx (off := 0) (e' := l302) 3 Ex.ik Try_ln3 rfl rfl (Or.inr ⟨rfl, rfl⟩) rfl PtOf.obox Part.self ?_
   refine RL.fin ?_
   refine RA.next ?_
   refine RA.relist 11 #[false, false, false, false, true, false, false, false, false, false, false, false] rfl (by kernel_rfl) ?_
   exact fun a w st => h1095 () a w (St.cut [0, 1, 2, 3, 4] ⟨rfl, rfl, rfl, rfl, rfl, rfl, trivial⟩ (by decide) rfl st)
  ·skip
   refine RL.ldPx (off := 0) (e' := l303) 4 Ex.ik Try_ln3 rfl rfl (Or.inr ⟨rfl, rfl⟩) rfl PtOf.obox Part.self ?_
   refine RL.fin ?_
   refine RA.next ?_
   refine RA.relist 11 #[false, false, false, false, false, true, false, false, false, false, false, false] rfl (by kernel_rfl) ?_
   exact fun a w st => h1093 () a w (St.cut [0, 1, 2, 3, 4] ⟨rfl, rfl, rfl, rfl, rfl, rfl, trivial⟩ (by decide) rfl st)
  refine RL.ldPx (off := 0) (e' := l303) 4 Ex.ik Try_ln3 rfl rfl (Or.inr ⟨rfl, rfl⟩) rfl PtOf.obox Part.self ?_
  refine RL.fin ?_
  refine RA.next ?_
  refine RA.relist 11 #[false, false, false, false, false, false, false, true, false, false, false, false] rfl (by kernel_rfl) ?_
  exact fun a w st => h1096 () a w (St.cut [0, 1, 2, 3, 4] ⟨rfl, rfl, rfl, rfl, rfl, rfl, trivial⟩ (by decide) rfl st)
 rintro v1012
 refine RA.weak (env' := [(2, v6), (3, v7), (89, v1012), (93, .int .i64 y1002), (94, .int .i64 l303)]) (L' := [obox 26 (TR.pair TR.int TR.int) v6 ((0 : Int), (0 : Int)), obox 26 (TR.pair TR.int TR.int) v7 ((0 : Int), (0 : Int)), imm (TR.pair TR.int TR.int) v1012 y998]) (fun _ _ st => st) ?_
 refine RA.seq 8 rfl (by kernel_rfl) ?_
 obtain ⟨y1153, e1154, h839⟩ := bind_some h839
 refine RL.call (vs := [.int .i64 y1002, .int .i64 l303]) Try_fit38 rfl rfl rfl rfl rfl (fun S f w hS hW hi => mixed_low_c S w hS y1002 l303 _ e1154) ?_
 intro v1155
 refine RL.fin ?_
 refine RA.next ?_
 refine RA.seq 9 rfl (by kernel_rfl) ?_
 refine RL.stP (off := 0) (e' := y998) (d1 := y998) (r := (TR.pair TR.int TR.int)) 0 Try_ln26 rfl rfl (Or.inr ⟨rfl, rfl⟩) rfl (VR.item 2 rfl) rfl Upd.self ?_
 refine RL.fin ?_
 refine RA.next ?_
 refine RA.seq 10 rfl (by kernel_rfl) ?_
 refine RL.stP (off := 0) (e' := y1153) (d1 := y1153) (r := (TR.pair TR.int TR.int)) 1 Try_ln26 rfl rfl (Or.inr ⟨rfl, rfl⟩) rfl (VR.item 3 rfl) rfl Upd.self ?_
 refine RL.fin ?_
 refine RA.next ?_
 refine RA.quiet 11 rfl rfl (by kernel_rfl) ?_
 simp only [List.drop_succ_cons, List.drop_zero]
 refine RL.asg rfl rfl rfl ?_
 refine RL.finQ ?_
 refine RA.outQ ?_
 refine GL.weak (env' := [(2, v6), (3, v7), (4, .int .i64 (0 : Int))]) (L' := [obox 26 (TR.pair TR.int TR.int) v6 y998, obox 26 (TR.pair TR.int TR.int) v7 y1153]) (fun a w st => St.cut [0, 1] ⟨rfl, rfl, rfl, trivial⟩ (by decide) rfl st) ?_
 have h839 := Option.some.inj h839
 subst h839
 exact GL.ret (Gx.retX [.cell 2 26, .cell 3 26, .tmp 4] rfl (fun a w st => by
   have st0 := st
   obtain ⟨u1156, hu1156, st⟩ := st.cellRes (p := 2) (T := 26) 0 Try_ln26 rfl rfl rfl
   obtain ⟨u1157, hu1157, st⟩ := st.cellRes (p := 3) (T := 26) 1 Try_ln26 rfl rfl rfl
   exact ⟨[u1156, u1157, .int .i64 (0 : Int)], ⟨hu1156, ⟨hu1157, ⟨(ResTmp st0.env rfl), trivial⟩⟩⟩, (st.pick [2, 3] (by decide) rfl).toPost (u1156, u1157)⟩))
end Go.Wk
