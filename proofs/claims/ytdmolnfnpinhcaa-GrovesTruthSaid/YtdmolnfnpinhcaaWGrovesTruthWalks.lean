/- Each function comes to what its model says; printed by a program of this repository. -/
import Derived.Test.YtdmolnfnpinhcaaProg
import Derived.Test.YtdmolnfnpinhcaaWGrovesTruthModels
namespace Go.Wk
open Go.Fw Go.Mo Go.Proofs Go.RowKit
set_option linter.all false
set_option maxRecDepth 100000
theorem loopNx {ρ σ β γ : Type} {body : σ → Option (Fl ρ β σ)} {n : Nat} {s : σ} {y : Fl ρ γ β} (h : stepM body n (.nx s) = some y) : loopM body n s = some y := h
theorem Try_info3 : (Try.prog.info? 3).map (fun i => (i.zero, i.size, i.bytes)) = some (some (.int .i64 0), 1, 8) := by kernel_rfl
theorem Try_ln3 : Ln Try.prog 3 1 false := Ln.of Try_info3 Try.underlying3 rfl
theorem Try_lo3 : LnO Try.prog 3 1 [.int .i64 0] := LnO.of Try_info3 rfl rfl (by decide) (by decide)
theorem Try_info24 : (Try.prog.info? 24).map (fun i => (i.zero, i.size, i.bytes)) = some (some (.int .i64 0), 1, 8) := by kernel_rfl
theorem Try_ln24 : Ln Try.prog 24 1 false := Ln.of Try_info24 Try.underlying24 rfl
theorem Try_lo24 : LnO Try.prog 24 1 [.int .i64 0] := LnO.of Try_info24 rfl rfl (by decide) (by decide)
theorem Try_info34 : (Try.prog.info? 34).map (fun i => (i.zero, i.size, i.bytes)) = some (some (.slice none 0 0), 1, 24) := by kernel_rfl
theorem Try_ln34 : Ln Try.prog 34 1 false := Ln.of Try_info34 Try.underlying34 rfl
theorem Try_lo34 : LnO Try.prog 34 1 [.slice none 0 0] := LnO.of Try_info34 rfl rfl (by decide) (by decide)
theorem Try_info42 : (Try.prog.info? 42).map (fun i => (i.zero, i.size, i.bytes)) = some (some (.slice none 0 0), 1, 24) := by kernel_rfl
theorem Try_ln42 : Ln Try.prog 42 1 false := Ln.of Try_info42 Try.underlying42 rfl
theorem Try_lo42 : LnO Try.prog 42 1 [.slice none 0 0] := LnO.of Try_info42 rfl rfl (by decide) (by decide)
theorem Try_fit18 : Fit Try.prog 18 := Fit.of Try.func18 (by kernel_rfl) rfl
theorem Try_fit22 : Fit Try.prog 22 := Fit.of Try.func22 (by kernel_rfl) rfl
theorem Try_fit23 : Fit Try.prog 23 := Fit.of Try.func23 (by kernel_rfl) rfl
theorem Try_fit24 : Fit Try.prog 24 := Fit.of Try.func24 (by kernel_rfl) rfl
theorem Try_fit25 : Fit Try.prog 25 := Fit.of Try.func25 (by kernel_rfl) rfl
theorem Try_fit26 : Fit Try.prog 26 := Fit.of Try.func26 (by kernel_rfl) rfl
theorem Try_fit31 : Fit Try.prog 31 := Fit.of Try.func31 (by kernel_rfl) rfl
theorem Try_fit32 : Fit Try.prog 32 := Fit.of Try.func32 (by kernel_rfl) rfl
theorem Try_fit45 : Fit Try.prog 45 := Fit.of Try.func45 (by kernel_rfl) rfl
theorem Try_fit46 : Fit Try.prog 46 := Fit.of Try.func46 (by kernel_rfl) rfl
theorem Try_fit47 : Fit Try.prog 47 := Fit.of Try.func47 (by kernel_rfl) rfl
theorem Try_fit48 : Fit Try.prog 48 := Fit.of Try.func48 (by kernel_rfl) rfl
theorem Try_fit49 : Fit Try.prog 49 := Fit.of Try.func49 (by kernel_rfl) rfl
theorem Try_fit50 : Fit Try.prog 50 := Fit.of Try.func50 (by kernel_rfl) rfl
theorem Try_fit55 : Fit Try.prog 55 := Fit.of Try.func55 (by kernel_rfl) rfl

set_option maxHeartbeats 4000000 in
theorem groves_Check_c (S : Hp) (w : World) (hS : S.sub w) (v0 : Value) (x0 : (List (List Int))) (k0 : ((TR.sl (TR.sl TR.int))).vrep S v0 x0) (res : Int) (hm : groves_Check_m x0 = some res) : Calls Try.prog 47 #[v0] w (PostC w (.int .i64 res)) := by
 refine calls_enter 40 Try.func47 Try.ntmps47 rfl S true [(0, v0)] [imm (TR.sl (TR.sl TR.int)) v0 x0] rfl ⟨rfl, trivial⟩ hS ⟨k0, trivial⟩ ?_
 unfold groves_Check_m at hm
 refine GL.seq ?_
 refine GL.region ?_
 refine RL.asg rfl rfl rfl ?_
 refine RL.finG ?_
 refine GL.seq ?_
 refine GL.seq ?_
 refine GL.region ?_
 refine RL.mv rfl rfl rfl ?_
 refine RL.lenS 0 Try.underlying42 rfl rfl rfl rfl SlOf.imm ?_
 refine RL.binI (v := .bool (decide (((x0).length : Int) > (4 : Int)))) rfl rfl rfl rfl rfl ?_
 refine RL.finG ?_
 refine GL.cond rfl (fun b2 => ?_) (fun b2 => ?_)
 ·replace hm := ite_t b2 hm
  refine GL.seq ?_
  refine GL.region ?_
  refine RL.asg rfl rfl rfl ?_
  refine RL.finG ?_
  have hm := Option.some.inj hm
  subst hm
  exact GL.ret (Gx.ret (v := .int .i64 (2 : Int)) (res1 rfl rfl) (fun a w st => st.toPostC rfl))
 replace hm := ite_f b2 hm
 refine GL.skip ?_
 refine GL.seq ?_
 refine GL.seq ?_
 refine GL.region ?_
 refine RL.mv rfl rfl rfl ?_
 refine RL.lenS 0 Try.underlying42 rfl rfl rfl rfl SlOf.imm ?_
 refine RL.mv rfl rfl rfl ?_
 refine RL.finG ?_
 refine GL.open_ 0 rfl (fun S h => len_imm S h) (fun n73 => ?_)
 obtain ⟨y74, K75, h76, h77, h78, h79, h80⟩ := bindR_K hm
 refine GL.join (ι := Unit) (fun (p : Unit) => []) (fun (p : Unit) => []) (fun (p : Unit) => K75 (.nx ())) ?_ ?_
 ·refine GL.block ?_
  refine GL.loop (ι := Nat × (List (List Int))) (fun (p : Nat × (List (List Int))) => [(0, v0), (10, v0), (11, .int .i64 ((x0).length : Int)), (12, .int .i64 (p.1 : Int))]) (fun (p : Nat × (List (List Int))) => [imm (TR.sl (TR.sl TR.int)) v0 x0]) (fun (p : Nat × (List (List Int))) => p.1 + p.2.length = (x0).length ∧ List.drop p.1 x0 = p.2 ∧ rangeL (groves_Check_b1 x0) p.2 p.1 () = some y74) (fun (p : Nat × (List (List Int))) => p.2.length) (0, x0) ⟨by simp, by simp, h76⟩ (fun a w st => St.cut [0] ⟨rfl, rfl, rfl, rfl, trivial⟩ (by decide) rfl st) ?_
  rintro ⟨i81, r82⟩ ⟨h87, h88, h86⟩
  try dsimp only at h87 h88 h86
  refine GL.weak (env' := [(0, v0), (10, v0), (11, .int .i64 ((x0).length : Int)), (12, .int .i64 (i81 : Int))]) (L' := [imm (TR.sl (TR.sl TR.int)) v0 x0]) (fun _ _ st => st) ?_
  refine GL.seq ?_
  refine GL.region ?_
  refine RL.binI (v := .bool (decide ((i81 : Int) < ((x0).length : Int)))) rfl rfl rfl rfl rfl ?_
  refine RL.finG ?_
  refine GL.seq ?_
  refine GL.cond rfl (fun b89 => ?_) (fun b89 => ?_)
  ·have h90 : i81 < (x0).length := by have := of_decide_eq_true b89; omega
   obtain ⟨y91, r93, hr, e92, h94⟩ := drop_cons h88 rfl h90
   subst hr
   obtain ⟨z83, h84, h85⟩ := rangeL_some h86
   unfold groves_Check_b1 at h84
   try dsimp only at h84
   refine GL.skip ?_
   refine GL.seq ?_
   refine GL.block ?_
   refine GL.seq ?_
   refine GL.region ?_
   refine RL.idxS (sz := 1) 0 Try.underlying42 Try_ln34 rfl rfl rfl rfl rfl SlOf.imm (by omega) (by omega) ?_
   refine RL.ldS (i := i81) (r := (TR.sl TR.int)) (e' := y91) 0 Try_ln34 rfl rfl rfl rfl SlOf.imm e92 Part.self ?_
   intro v96
   refine RL.asg rfl rfl rfl ?_
   refine RL.finG ?_
   refine GL.seq ?_
   refine GL.seq ?_
   refine GL.region ?_
   refine RL.mv rfl rfl rfl ?_
   refine RL.lenS 1 Try.underlying34 rfl rfl rfl rfl SlOf.imm ?_
   refine RL.mv rfl rfl rfl ?_
   obtain ⟨y100, e101, h84⟩ := bind_some h84
   refine RL.idxS (sz := 1) 0 Try.underlying42 Try_ln34 rfl rfl rfl rfl rfl SlOf.imm (idx_some e101).1 (idx_some e101).2.1 ?_
   refine RL.ldS (i := ((0 : Int)).toNat) (r := (TR.sl TR.int)) (e' := y100) 0 Try_ln34 rfl rfl rfl rfl SlOf.imm (idx_some e101).2.2 Part.self ?_
   intro v102
   refine RL.reL (L' := [imm (TR.sl (TR.sl TR.int)) v0 x0, imm (TR.sl TR.int) v96 y91, imm (TR.sl TR.int) v102 y100]) rfl ?_
   refine RL.lenS 2 Try.underlying34 rfl rfl rfl rfl SlOf.imm ?_
   refine RL.binI (v := .bool (((y91).length : Int) != ((y100).length : Int))) rfl rfl rfl rfl rfl ?_
   refine RL.finG ?_
   refine GL.cond rfl (fun b103 => ?_) (fun b103 => ?_)
   ·replace h84 := ite_t b103 h84
    refine GL.seq ?_
    refine GL.region ?_
    refine RL.asg rfl rfl rfl ?_
    refine RL.finG ?_
    cases h84
    replace h85 : some (Fl.rt _) = some y74 := h85
    cases h85
    have hh := h79 _ h77
    subst hh
    exact GL.ret (Gx.ret (v := .int .i64 (3 : Int)) (res1 rfl rfl) (fun a w st => st.toPostC rfl))
   replace h84 := ite_f b103 h84
   refine GL.skip ?_
   refine GL.seq ?_
   refine GL.seq ?_
   refine GL.region ?_
   refine RL.mv rfl rfl rfl ?_
   refine RL.lenS 1 Try.underlying34 rfl rfl rfl rfl SlOf.imm ?_
   refine RL.binI (v := .bool (decide (((y91).length : Int) > (4 : Int)))) rfl rfl rfl rfl rfl ?_
   refine RL.finG ?_
   refine GL.cond rfl (fun b104 => ?_) (fun b104 => ?_)
   ·replace h84 := ite_t b104 h84
    refine GL.seq ?_
    refine GL.region ?_
    refine RL.asg rfl rfl rfl ?_
    refine RL.finG ?_
    cases h84
    replace h85 : some (Fl.rt _) = some y74 := h85
    cases h85
    have hh := h79 _ h77
    subst hh
    exact GL.ret (Gx.ret (v := .int .i64 (2 : Int)) (res1 rfl rfl) (fun a w st => st.toPostC rfl))
   replace h84 := ite_f b104 h84
   refine GL.skip ?_
   refine GL.seq ?_
   refine GL.region ?_
   refine RL.mv rfl rfl rfl ?_
   refine RL.lenS 1 Try.underlying34 rfl rfl rfl rfl SlOf.imm ?_
   refine RL.mv rfl rfl rfl ?_
   refine RL.finG ?_
   refine GL.open_ 1 rfl (fun S h => len_imm S h) (fun n123 => ?_)
   obtain ⟨y124, K125, h126, h127, h128, h129, h130⟩ := bindF_K h84
   refine GL.join (ι := Unit) (fun (p : Unit) => [(0, v0), (10, v0), (11, .int .i64 ((x0).length : Int)), (12, .int .i64 (i81 : Int))]) (fun (p : Unit) => [imm (TR.sl (TR.sl TR.int)) v0 x0]) (fun (p : Unit) => K125 (.nx ())) ?_ ?_
   ·refine GL.block ?_
    refine GL.loop (ι := Nat × (List Int)) (fun (p : Nat × (List Int)) => [(0, v0), (10, v0), (11, .int .i64 ((x0).length : Int)), (12, .int .i64 (i81 : Int)), (26, v96), (27, .int .i64 ((y91).length : Int)), (28, .int .i64 (p.1 : Int))]) (fun (p : Nat × (List Int)) => [imm (TR.sl (TR.sl TR.int)) v0 x0, imm (TR.sl TR.int) v96 y91]) (fun (p : Nat × (List Int)) => p.1 + p.2.length = (y91).length ∧ List.drop p.1 y91 = p.2 ∧ rangeL groves_Check_b2 p.2 p.1 () = some y124) (fun (p : Nat × (List Int)) => p.2.length) (0, y91) ⟨by simp, by simp, h126⟩ (fun a w st => St.cut [0, 1] ⟨rfl, rfl, rfl, rfl, rfl, rfl, rfl, trivial⟩ (by decide) rfl st) ?_
    rintro ⟨i131, r132⟩ ⟨h137, h138, h136⟩
    try dsimp only at h137 h138 h136
    refine GL.weak (env' := [(0, v0), (10, v0), (11, .int .i64 ((x0).length : Int)), (12, .int .i64 (i81 : Int)), (26, v96), (27, .int .i64 ((y91).length : Int)), (28, .int .i64 (i131 : Int))]) (L' := [imm (TR.sl (TR.sl TR.int)) v0 x0, imm (TR.sl TR.int) v96 y91]) (fun _ _ st => st) ?_
    refine GL.seq ?_
    refine GL.region ?_
    refine RL.binI (v := .bool (decide ((i131 : Int) < ((y91).length : Int)))) rfl rfl rfl rfl rfl ?_
    refine RL.finG ?_
    refine GL.seq ?_
    refine GL.cond rfl (fun b139 => ?_) (fun b139 => ?_)
    ·have h140 : i131 < (y91).length := by have := of_decide_eq_true b139; omega
     obtain ⟨y141, r143, hr, e142, h144⟩ := drop_cons h138 rfl h140
     subst hr
     obtain ⟨z133, h134, h135⟩ := rangeL_some h136
     unfold groves_Check_b2 at h134
     try dsimp only at h134
     refine GL.skip ?_
     refine GL.seq ?_
     refine GL.block ?_
     refine GL.seq ?_
     refine GL.region ?_
     refine RL.idxS (sz := 1) 1 Try.underlying34 Try_ln3 rfl rfl rfl rfl rfl SlOf.imm (by omega) (by omega) ?_
     refine RL.ldSx (i := i131) (e' := y141) 1 Ex.ik Try_ln3 rfl rfl rfl rfl SlOf.imm e142 Part.self ?_
     refine RL.asg rfl rfl rfl ?_
     refine RL.finG ?_
     refine GL.seq ?_
     obtain ⟨y148, K149, h150, h151, h152, h153, h154⟩ := bindF_K h134
     refine GL.join (ι := Bool) (fun (p : Bool) => [(0, v0), (10, v0), (11, .int .i64 ((x0).length : Int)), (12, .int .i64 (i81 : Int)), (26, v96), (27, .int .i64 ((y91).length : Int)), (28, .int .i64 (i131 : Int)), (37, .bool p)]) (fun (p : Bool) => [imm (TR.sl (TR.sl TR.int)) v0 x0, imm (TR.sl TR.int) v96 y91]) (fun (p : Bool) => K149 (.nx p)) ?_ ?_
     ·skip
      refine GL.region ?_
      refine RL.mv rfl rfl rfl ?_
      refine RL.binI (v := .bool (decide (y141 < (0 : Int)))) rfl rfl rfl rfl rfl ?_
      refine RL.mv rfl rfl rfl ?_
      refine RL.split (t := 34) rfl (fun b155 => ?_) (fun b155 => ?_)
      ·replace h150 := ite_t b155 h150
       refine RL.skip rfl rfl ?_
       refine RL.skip rfl rfl ?_
       refine RL.pickT rfl rfl rfl rfl ?_
       refine RL.fin ?_
       cases h150
       exact fun a w st => mid_intro true h151 (St.cut [0, 1] ⟨rfl, rfl, rfl, rfl, rfl, rfl, rfl, rfl, trivial⟩ (by decide) rfl st)
      replace h150 := ite_f b155 h150
      refine RL.mv rfl rfl rfl ?_
      refine RL.binI (v := .bool (decide (y141 > (1000000 : Int)))) rfl rfl rfl rfl rfl ?_
      refine RL.pickF rfl rfl rfl rfl ?_
      refine RL.fin ?_
      cases h150
      exact fun a w st => mid_intro (decide (y141 > (1000000 : Int))) h151 (St.cut [0, 1] ⟨rfl, rfl, rfl, rfl, rfl, rfl, rfl, rfl, trivial⟩ (by decide) rfl st)
     rintro x147 h156
     have h157 := h152 _ h156
     try dsimp only at h157
     refine GL.weak (env' := [(0, v0), (10, v0), (11, .int .i64 ((x0).length : Int)), (12, .int .i64 (i81 : Int)), (26, v96), (27, .int .i64 ((y91).length : Int)), (28, .int .i64 (i131 : Int)), (37, .bool x147)]) (L' := [imm (TR.sl (TR.sl TR.int)) v0 x0, imm (TR.sl TR.int) v96 y91]) (fun _ _ st => st) ?_
     refine GL.cond rfl (fun b158 => ?_) (fun b158 => ?_)
     ·replace h157 := ite_t b158 h157
      refine GL.seq ?_
      refine GL.region ?_
      refine RL.asg rfl rfl rfl ?_
      refine RL.finG ?_
      cases h157
      replace h135 : some (Fl.rt _) = some y124 := h135
      cases h135
      have hh := h129 _ h127
      subst hh
      replace h85 : some (Fl.rt _) = some y74 := h85
      cases h85
      have hh := h79 _ h77
      subst hh
      exact GL.ret (Gx.ret (v := .int .i64 (1 : Int)) (res1 rfl rfl) (fun a w st => st.toPostC rfl))
     replace h157 := ite_f b158 h157
     refine GL.skip ?_
     refine GL.nilB ?_
     refine GL.region ?_
     refine RL.binI (v := .int .i64 ((i131 + 1 : Nat) : Int)) rfl rfl rfl rfl (binI_succ i131 (by omega)) ?_
     refine RL.mv rfl rfl rfl ?_
     refine RL.fin ?_
     cases h157
     exact fun a w st => lop_intro (i131 + 1, r143) ⟨by show i131 + 1 + r143.length = (y91).length; simp only [List.length_cons] at h137; omega, h144, h135⟩ (by simp) (St.cut [0, 1] ⟨rfl, rfl, rfl, rfl, rfl, rfl, rfl, trivial⟩ (by decide) rfl st)
    have h140 : ¬ i131 < (y91).length := by have := of_decide_eq_false b139; omega
    obtain rfl : r132 = [] := by rw [← h138]; exact List.drop_of_length_le (by omega)
    replace h136 : some (Fl.nx _) = some y124 := h136
    cases h136
    exact GL.exit (fun a w st => mid_intro () h127 (St.cut [0] ⟨rfl, rfl, rfl, rfl, trivial⟩ (by decide) rfl st))
   rintro ⟨⟩ h159
   have h160 := h128 _ h159
   try dsimp only at h160
   refine GL.weak (env' := [(0, v0), (10, v0), (11, .int .i64 ((x0).length : Int)), (12, .int .i64 (i81 : Int))]) (L' := [imm (TR.sl (TR.sl TR.int)) v0 x0]) (fun _ _ st => st) ?_
   refine GL.nilB ?_
   refine GL.region ?_
   refine RL.binI (v := .int .i64 ((i81 + 1 : Nat) : Int)) rfl rfl rfl rfl (binI_succ i81 (by omega)) ?_
   refine RL.mv rfl rfl rfl ?_
   refine RL.fin ?_
   cases h160
   exact fun a w st => lop_intro (i81 + 1, r93) ⟨by show i81 + 1 + r93.length = (x0).length; simp only [List.length_cons] at h87; omega, h94, h85⟩ (by simp) (St.cut [0] ⟨rfl, rfl, rfl, rfl, trivial⟩ (by decide) rfl st)
  have h90 : ¬ i81 < (x0).length := by have := of_decide_eq_false b89; omega
  obtain rfl : r82 = [] := by rw [← h88]; exact List.drop_of_length_le (by omega)
  replace h86 : some (Fl.nx _) = some y74 := h86
  cases h86
  exact GL.exit (fun a w st => mid_intro () h77 (St.cut [] trivial (by decide) rfl st))
 rintro ⟨⟩ h161
 have h162 := h78 _ h161
 try dsimp only at h162
 refine GL.weak (env' := []) (L' := []) (fun _ _ st => st) ?_
 refine GL.seq ?_
 refine GL.region ?_
 refine RL.asg rfl rfl rfl ?_
 refine RL.finG ?_
 have h162 := Option.some.inj h162
 subst h162
 exact GL.ret (Gx.ret (v := .int .i64 (0 : Int)) (res1 rfl rfl) (fun a w st => st.toPostC rfl))

set_option maxHeartbeats 4000000 in
def groves_best_C (M : (List (List Int)) → Int → Int → Int → Option ((List Int) × Int)) : Prop := ∀ (S : Hp) (w : World) (hS : S.sub w) (v0 : Value) (x0 : (List (List Int))) (k0 : ((TR.sl (TR.sl TR.int))).vrep S v0 x0) (x1 : Int) (x2 : Int) (x3 : Int) (res : (List Int) × Int) (hm : M x0 x1 x2 x3 = some res), Calls Try.prog 48 #[v0, .int .i64 x1, .int .i64 x2, .int .i64 x3] w (Post w S (fun (o : Value) => .tuple #[o, .int .i64 res.2]) (fun (o : Value) => [own 3 TR.int o res.1]))
theorem groves_best_cr (rcm : (List (List Int)) → Int → Int → Int → Option ((List Int) × Int)) (rcm_c : groves_best_C rcm) : groves_best_C (groves_best_r rcm) := by
 intro S w hS v0 x0 k0 x1 x2 x3 res hm
 refine calls_enter 76 Try.func48 Try.ntmps48 rfl S false [(0, v0), (1, .int .i64 x1), (2, .int .i64 x2), (3, .int .i64 x3)] [imm (TR.sl (TR.sl TR.int)) v0 x0] rfl ⟨rfl, ⟨rfl, ⟨rfl, ⟨rfl, trivial⟩⟩⟩⟩ hS ⟨k0, trivial⟩ ?_
 unfold groves_best_r at hm
 refine GL.seq ?_
 refine GL.region ?_
 refine RL.asg rfl rfl rfl ?_
 refine RL.asg rfl rfl rfl ?_
 refine RL.finG ?_
 refine GL.seq ?_
 refine GL.seq ?_
 refine GL.region ?_
 refine RL.mv rfl rfl rfl ?_
 refine RL.mv rfl rfl rfl ?_
 refine RL.lenS 0 Try.underlying42 rfl rfl rfl rfl SlOf.imm ?_
 refine RL.binI (v := .bool (x1 == ((x0).length : Int))) rfl rfl rfl rfl rfl ?_
 refine RL.finG ?_
 refine GL.cond rfl (fun b5 => ?_) (fun b5 => ?_)
 ·replace hm := ite_t b5 hm
  refine GL.seq ?_
  refine GL.region ?_
  refine RL.asg rfl rfl rfl ?_
  refine RL.asg rfl rfl rfl ?_
  refine RL.finG ?_
  refine GL.weak (fun a w st => st.nilOwn 3 TR.int) ?_
  have hm := Option.some.inj hm
  subst hm
  exact GL.ret (Gx.ret (v := .tuple #[Value.slice none 0 0, .int .i64 (0 : Int)]) (res2 rfl rfl rfl) (fun a w st => (st.pick [1] (by decide) rfl).toPost (Value.slice none 0 0)))
 replace hm := ite_f b5 hm
 refine GL.skip ?_
 refine GL.seq ?_
 refine GL.region ?_
 refine RL.mv rfl rfl rfl ?_
 refine RL.mv rfl rfl rfl ?_
 refine RL.binI (v := .int .i64 (wadd x1 (1 : Int))) rfl rfl rfl rfl rfl ?_
 refine RL.mv rfl rfl rfl ?_
 refine RL.mv rfl rfl rfl ?_
 obtain ⟨y9, e10, hm⟩ := bind_some hm
 refine RL.call (vs := [v0, .int .i64 (wadd x1 (1 : Int)), .int .i64 x2, .int .i64 x3]) Try_fit48 rfl rfl rfl rfl rfl (fun S f w hS hW hi => rcm_c S w hS _ _ (hi 0 _ rfl) (wadd x1 (1 : Int)) x2 x3 _ e10) ?_
 intro v11
 refine RL.mv rfl rfl rfl ?_
 refine RL.ext rfl rfl rfl rfl ?_
 refine RL.ext rfl rfl rfl rfl ?_
 refine RL.asg rfl rfl rfl ?_
 refine RL.asg rfl rfl rfl ?_
 refine RL.finG ?_
 refine GL.seq ?_
 refine GL.region ?_
 refine RL.asg rfl rfl rfl ?_
 refine RL.finG ?_
 refine GL.seq ?_
 refine GL.seq ?_
 refine GL.region ?_
 refine RL.mv rfl rfl rfl ?_
 refine RL.mv rfl rfl rfl ?_
 refine RL.binI (v := .bool (x1 != x3)) rfl rfl rfl rfl rfl ?_
 refine RL.finG ?_
 obtain ⟨y87, K88, h89, h90, h91, h92, h93⟩ := bindR_K hm
 refine GL.join (ι := (List Int) × Int × Int × Value) (fun (p : (List Int) × Int × Int × Value) => [(10, p.2.2.2), (11, .int .i64 p.2.1), (12, .int .i64 p.2.2.1)]) (fun (p : (List Int) × Int × Int × Value) => [own 3 TR.int p.2.2.2 p.1]) (fun (p : (List Int) × Int × Int × Value) => K88 (.nx (p.1, p.2.1, p.2.2.1))) ?_ ?_
 ·skip
  refine GL.cond rfl (fun b94 => ?_) (fun b94 => ?_)
  ·replace h89 := ite_t b94 h89
   refine GL.seq ?_
   refine GL.region ?_
   refine RL.mv rfl rfl rfl ?_
   refine RL.mv rfl rfl rfl ?_
   obtain ⟨y98, e99, h89⟩ := bind_some h89
   refine RL.idxS (sz := 1) 0 Try.underlying42 Try_ln34 rfl rfl rfl rfl rfl SlOf.imm (idx_some e99).1 (idx_some e99).2.1 ?_
   refine RL.ldS (i := (x1).toNat) (r := (TR.sl TR.int)) (e' := y98) 0 Try_ln34 rfl rfl rfl rfl SlOf.imm (idx_some e99).2.2 Part.self ?_
   intro v100
   refine RL.reL (L' := [imm (TR.sl (TR.sl TR.int)) v0 x0, own 3 TR.int v11 y9.1, imm (TR.sl TR.int) v100 y98]) rfl ?_
   refine RL.lenS 2 Try.underlying34 rfl rfl rfl rfl SlOf.imm ?_
   refine RL.mv rfl rfl rfl ?_
   refine RL.finG ?_
   refine GL.open_ 2 rfl (fun S h => len_imm S h) (fun n125 => ?_)
   obtain ⟨y126, K127, h128, h129, h130, h131, h132⟩ := bindF_K h89
   refine GL.join (ι := (List Int) × Int × Int × Value) (fun (p : (List Int) × Int × Int × Value) => [(10, p.2.2.2), (11, .int .i64 p.2.1), (12, .int .i64 p.2.2.1)]) (fun (p : (List Int) × Int × Int × Value) => [own 3 TR.int p.2.2.2 p.1]) (fun (p : (List Int) × Int × Int × Value) => K127 (.nx (p.1, p.2.1, p.2.2.1))) ?_ ?_
   ·refine GL.block ?_
    refine GL.loop (ι := Nat × (List Int) × (List Int) × Int × Int × Value) (fun (p : Nat × (List Int) × (List Int) × Int × Int × Value) => [(0, v0), (1, .int .i64 x1), (2, .int .i64 x2), (3, .int .i64 x3), (10, p.2.2.2.2.2), (11, .int .i64 p.2.2.2.1), (12, .int .i64 p.2.2.2.2.1), (36, v100), (37, .int .i64 ((y98).length : Int)), (38, .int .i64 (p.1 : Int))]) (fun (p : Nat × (List Int) × (List Int) × Int × Int × Value) => [imm (TR.sl (TR.sl TR.int)) v0 x0, own 3 TR.int p.2.2.2.2.2 p.2.2.1, imm (TR.sl TR.int) v100 y98]) (fun (p : Nat × (List Int) × (List Int) × Int × Int × Value) => p.1 + p.2.1.length = (y98).length ∧ List.drop p.1 y98 = p.2.1 ∧ rangeL (groves_best_b1 x2 rcm x0 x1 x3) p.2.1 p.1 (p.2.2.1, p.2.2.2.1, p.2.2.2.2.1) = some y126) (fun (p : Nat × (List Int) × (List Int) × Int × Int × Value) => p.2.1.length) (0, y98, y9.1, y9.2, (-1 : Int), v11) ⟨by simp, by simp, h128⟩ (fun a w st => St.cut [0, 1, 2] ⟨rfl, rfl, rfl, rfl, rfl, rfl, rfl, rfl, rfl, rfl, trivial⟩ (by decide) rfl st) ?_
    rintro ⟨i133, r134, l101, x103, x104, v102⟩ ⟨h139, h140, h138⟩
    try dsimp only at h139 h140 h138
    refine GL.weak (env' := [(0, v0), (1, .int .i64 x1), (2, .int .i64 x2), (3, .int .i64 x3), (10, v102), (11, .int .i64 x103), (12, .int .i64 x104), (36, v100), (37, .int .i64 ((y98).length : Int)), (38, .int .i64 (i133 : Int))]) (L' := [imm (TR.sl (TR.sl TR.int)) v0 x0, own 3 TR.int v102 l101, imm (TR.sl TR.int) v100 y98]) (fun _ _ st => st) ?_
    refine GL.seq ?_
    refine GL.region ?_
    refine RL.binI (v := .bool (decide ((i133 : Int) < ((y98).length : Int)))) rfl rfl rfl rfl rfl ?_
    refine RL.finG ?_
    refine GL.seq ?_
    refine GL.cond rfl (fun b141 => ?_) (fun b141 => ?_)
    ·have h142 : i133 < (y98).length := by have := of_decide_eq_true b141; omega
     obtain ⟨y143, r145, hr, e144, h146⟩ := drop_cons h140 rfl h142
     subst hr
     obtain ⟨z135, h136, h137⟩ := rangeL_some h138
     unfold groves_best_b1 at h136
     try dsimp only at h136
     refine GL.skip ?_
     refine GL.seq ?_
     refine GL.block ?_
     refine GL.seq ?_
     refine GL.region ?_
     refine RL.mv rfl rfl rfl ?_
     refine RL.idxS (sz := 1) 2 Try.underlying34 Try_ln3 rfl rfl rfl rfl rfl SlOf.imm (by omega) (by omega) ?_
     refine RL.ldSx (i := i133) (e' := y143) 2 Ex.ik Try_ln3 rfl rfl rfl rfl SlOf.imm e144 Part.self ?_
     refine RL.asg rfl rfl rfl ?_
     refine RL.asg rfl rfl rfl ?_
     refine RL.finG ?_
     refine GL.seq ?_
     refine GL.region ?_
     refine RL.mv rfl rfl rfl ?_
     refine RL.mv rfl rfl rfl ?_
     obtain ⟨y149, e150, h136⟩ := bind_some h136
     replace e150 := chk_some e150
     refine RL.sh (by simp) rfl rfl rfl rfl e150 ?_
     refine RL.binI (v := .int .i64 (bits .and .i64 (Int.fdiv x2 (2 ^ (min (i133 : Int).toNat (IntKind.bits .i64)))) (1 : Int))) rfl rfl rfl rfl rfl ?_
     refine RL.binI (v := .bool ((bits .and .i64 (Int.fdiv x2 (2 ^ (min (i133 : Int).toNat (IntKind.bits .i64)))) (1 : Int)) == (0 : Int))) rfl rfl rfl rfl rfl ?_
     refine RL.finG ?_
     refine GL.cond rfl (fun b151 => ?_) (fun b151 => ?_)
     ·replace h136 := ite_t b151 h136
      refine GL.seq ?_
      refine GL.region ?_
      refine RL.mv rfl rfl rfl ?_
      refine RL.mv rfl rfl rfl ?_
      refine RL.binI (v := .int .i64 (wadd x1 (1 : Int))) rfl rfl rfl rfl rfl ?_
      refine RL.mv rfl rfl rfl ?_
      refine RL.mv rfl rfl rfl ?_
      obtain ⟨y157, e158, h136⟩ := bind_some h136
      replace e158 := chk_some e158
      refine RL.sh (by simp) rfl rfl rfl rfl e158 ?_
      refine RL.binI (v := .int .i64 (bits .or .i64 x2 (IntKind.wrap .i64 ((1 : Int) * 2 ^ (min (i133 : Int).toNat (IntKind.bits .i64)))))) rfl rfl rfl rfl rfl ?_
      refine RL.mv rfl rfl rfl ?_
      obtain ⟨y159, e160, h136⟩ := bind_some h136
      refine RL.call (vs := [v0, .int .i64 (wadd x1 (1 : Int)), .int .i64 (bits .or .i64 x2 (IntKind.wrap .i64 ((1 : Int) * 2 ^ (min (i133 : Int).toNat (IntKind.bits .i64))))), .int .i64 x3]) Try_fit48 rfl rfl rfl rfl rfl (fun S f w hS hW hi => rcm_c S w hS _ _ (hi 0 _ rfl) (wadd x1 (1 : Int)) (bits .or .i64 x2 (IntKind.wrap .i64 ((1 : Int) * 2 ^ (min (i133 : Int).toNat (IntKind.bits .i64))))) x3 _ e160) ?_
      intro v161
      refine RL.mv rfl rfl rfl ?_
      refine RL.ext rfl rfl rfl rfl ?_
      refine RL.ext rfl rfl rfl rfl ?_
      refine RL.asg rfl rfl rfl ?_
      refine RL.asg rfl rfl rfl ?_
      refine RL.finG ?_
      refine GL.seq ?_
      refine GL.region ?_
      refine RL.mv rfl rfl rfl ?_
      refine RL.mv rfl rfl rfl ?_
      refine RL.binI (v := .int .i64 (wadd y143 y159.2)) rfl rfl rfl rfl rfl ?_
      refine RL.mv rfl rfl rfl ?_
      refine RL.binI (v := .bool (decide ((wadd y143 y159.2) > x103))) rfl rfl rfl rfl rfl ?_
      refine RL.finG ?_
      refine GL.cond rfl (fun b162 => ?_) (fun b162 => ?_)
      ·replace h136 := ite_t b162 h136
       refine GL.region ?_
       refine RL.mv rfl rfl rfl ?_
       refine RL.mv rfl rfl rfl ?_
       refine RL.mv rfl rfl rfl ?_
       refine RL.binI (v := .int .i64 (wadd y143 y159.2)) rfl rfl rfl rfl rfl ?_
       refine RL.mv rfl rfl rfl ?_
       refine RL.asg rfl rfl rfl ?_
       refine RL.asg rfl rfl rfl ?_
       refine RL.asg rfl rfl rfl ?_
       refine RL.finG ?_
       refine GL.nilB ?_
       refine GL.region ?_
       refine RL.binI (v := .int .i64 ((i133 + 1 : Nat) : Int)) rfl rfl rfl rfl (binI_succ i133 (by omega)) ?_
       refine RL.mv rfl rfl rfl ?_
       refine RL.fin ?_
       cases h136
       exact fun a w st => lop_intro (i133 + 1, r145, y159.1, wadd y143 y159.2, (i133 : Int), v161) ⟨by show i133 + 1 + r145.length = (y98).length; simp only [List.length_cons] at h139; omega, h146, h137⟩ (by simp) (St.cut [0, 3, 2] ⟨rfl, rfl, rfl, rfl, rfl, rfl, rfl, rfl, rfl, rfl, trivial⟩ (by decide) rfl st)
      replace h136 := ite_f b162 h136
      refine GL.skip ?_
      refine GL.nilB ?_
      refine GL.region ?_
      refine RL.binI (v := .int .i64 ((i133 + 1 : Nat) : Int)) rfl rfl rfl rfl (binI_succ i133 (by omega)) ?_
      refine RL.mv rfl rfl rfl ?_
      refine RL.fin ?_
      cases h136
      exact fun a w st => lop_intro (i133 + 1, r145, l101, x103, x104, v102) ⟨by show i133 + 1 + r145.length = (y98).length; simp only [List.length_cons] at h139; omega, h146, h137⟩ (by simp) (St.cut [0, 1, 2] ⟨rfl, rfl, rfl, rfl, rfl, rfl, rfl, rfl, rfl, rfl, trivial⟩ (by decide) rfl st)
     replace h136 := ite_f b151 h136
     refine GL.skip ?_
     refine GL.nilB ?_
     refine GL.region ?_
     refine RL.binI (v := .int .i64 ((i133 + 1 : Nat) : Int)) rfl rfl rfl rfl (binI_succ i133 (by omega)) ?_
     refine RL.mv rfl rfl rfl ?_
     refine RL.fin ?_
     cases h136
     exact fun a w st => lop_intro (i133 + 1, r145, l101, x103, x104, v102) ⟨by show i133 + 1 + r145.length = (y98).length; simp only [List.length_cons] at h139; omega, h146, h137⟩ (by simp) (St.cut [0, 1, 2] ⟨rfl, rfl, rfl, rfl, rfl, rfl, rfl, rfl, rfl, rfl, trivial⟩ (by decide) rfl st)
    have h142 : ¬ i133 < (y98).length := by have := of_decide_eq_false b141; omega
    obtain rfl : r134 = [] := by rw [← h140]; exact List.drop_of_length_le (by omega)
    replace h138 : some (Fl.nx _) = some y126 := h138
    cases h138
    exact GL.exit (fun a w st => mid_intro (l101, x103, x104, v102) h129 (St.cut [1] ⟨rfl, rfl, rfl, trivial⟩ (by decide) rfl st))
   rintro ⟨l101, x103, x104, v102⟩ h163
   have h164 := h130 _ h163
   try dsimp only at h164
   refine GL.weak (env' := [(10, v102), (11, .int .i64 x103), (12, .int .i64 x104)]) (L' := [own 3 TR.int v102 l101]) (fun _ _ st => st) ?_
   cases h164
   exact fun a w st => mid_intro (l101, x103, x104, v102) h90 (St.cut [0] ⟨rfl, rfl, rfl, trivial⟩ (by decide) rfl st)
  replace h89 := ite_f b94 h89
  refine GL.skip ?_
  cases h89
  exact fun a w st => mid_intro (y9.1, y9.2, (-1 : Int), v11) h90 (St.cut [1] ⟨rfl, rfl, rfl, trivial⟩ (by decide) rfl st)
 rintro ⟨l83, x85, x86, v84⟩ h165
 have h166 := h91 _ h165
 try dsimp only at h166
 refine GL.weak (env' := [(10, v84), (11, .int .i64 x85), (12, .int .i64 x86)]) (L' := [own 3 TR.int v84 l83]) (fun _ _ st => st) ?_
 refine GL.seq ?_
 refine GL.region ?_
 refine RL.mv rfl rfl rfl ?_
 refine RL.bS (t := TR.int) (vs := [.int .i64 x86]) ([x86] : (List Int)) Try.underlying34 Try_lo3 rfl rfl rfl rfl ⟨VR.int, trivial⟩ rfl (by decide) ?_
 intro v171
 refine RL.mv rfl rfl rfl ?_
 obtain ⟨y172, e173, h166⟩ := bind_some h166
 replace e173 := chk_some e173
 refine RL.app 1 0 Try.underlying34 Try_lo3 rfl rfl rfl rfl rfl rfl rfl SlOf.own e173 ?_
 intro v174
 refine RL.reL (L' := [own 3 TR.int v84 l83, own 3 TR.int v174 (([x86] : (List Int)) ++ l83)]) rfl ?_
 refine RL.mv rfl rfl rfl ?_
 refine RL.asg rfl rfl rfl ?_
 refine RL.asg rfl rfl rfl ?_
 refine RL.finG ?_
 have h166 := Option.some.inj h166
 subst h166
 exact GL.ret (Gx.ret (v := .tuple #[v174, .int .i64 x85]) (res2 rfl rfl rfl) (fun a w st => (st.pick [1] (by decide) rfl).toPost v174))
theorem groves_best_cf : ∀ n, groves_best_C (groves_best_f n)
  | 0 => fun S w hS v0 x0 k0 x1 x2 x3 res hm => by cases hm
  | n + 1 => groves_best_cr (groves_best_f n) (groves_best_cf n)
theorem groves_best_c (S : Hp) (w : World) (hS : S.sub w) (v0 : Value) (x0 : (List (List Int))) (k0 : ((TR.sl (TR.sl TR.int))).vrep S v0 x0) (x1 : Int) (x2 : Int) (x3 : Int) (res : (List Int) × Int) (hm : groves_best_m x0 x1 x2 x3 = some res) : Calls Try.prog 48 #[v0, .int .i64 x1, .int .i64 x2, .int .i64 x3] w (Post w S (fun (o : Value) => .tuple #[o, .int .i64 res.2]) (fun (o : Value) => [own 3 TR.int o res.1])) := groves_best_cf 64 S w hS v0 x0 k0 x1 x2 x3 res hm

set_option maxHeartbeats 4000000 in
theorem groves_Share_c (S : Hp) (w : World) (hS : S.sub w) (v0 : Value) (x0 : (List (List Int))) (k0 : ((TR.sl (TR.sl TR.int))).vrep S v0 x0) (res : (List Int) × Int × Int) (hm : groves_Share_m x0 = some res) : Calls Try.prog 24 #[v0] w (Post w S (fun (o : Value) => .tuple #[o, .int .i64 res.2.1, .int .i64 res.2.2]) (fun (o : Value) => [own 3 TR.int o res.1])) := by
 refine calls_enter 20 Try.func24 Try.ntmps24 rfl S false [(0, v0)] [imm (TR.sl (TR.sl TR.int)) v0 x0] rfl ⟨rfl, trivial⟩ hS ⟨k0, trivial⟩ ?_
 unfold groves_Share_m at hm
 refine GL.seq ?_
 refine GL.region ?_
 refine RL.asg rfl rfl rfl ?_
 refine RL.asg rfl rfl rfl ?_
 refine RL.asg rfl rfl rfl ?_
 refine RL.finG ?_
 refine GL.seq ?_
 refine GL.seq ?_
 refine GL.region ?_
 refine RL.mv rfl rfl rfl ?_
 obtain ⟨y4, e5, hm⟩ := bind_some hm
 refine RL.callC (v := .int .i64 y4) (vs := [v0]) Try_fit47 rfl rfl rfl rfl (fun U w hU hW hL => groves_Check_c U w hU _ _ (hL 0 _ _ rfl Seen.imm) _ e5) ?_
 refine RL.asg rfl rfl rfl ?_
 refine RL.finG ?_
 refine GL.seq ?_
 refine GL.region ?_
 refine RL.mv rfl rfl rfl ?_
 refine RL.binI (v := .bool (y4 != (0 : Int))) rfl rfl rfl rfl rfl ?_
 refine RL.finG ?_
 refine GL.cond rfl (fun b6 => ?_) (fun b6 => ?_)
 ·replace hm := ite_t b6 hm
  refine GL.seq ?_
  refine GL.region ?_
  refine RL.mv rfl rfl rfl ?_
  refine RL.asg rfl rfl rfl ?_
  refine RL.asg rfl rfl rfl ?_
  refine RL.asg rfl rfl rfl ?_
  refine RL.finG ?_
  refine GL.weak (fun a w st => st.nilOwn 3 TR.int) ?_
  have hm := Option.some.inj hm
  subst hm
  exact GL.ret (Gx.ret (v := .tuple #[Value.slice none 0 0, .int .i64 (0 : Int), .int .i64 y4]) (res3 rfl rfl rfl rfl) (fun a w st => (st.pick [1] (by decide) rfl).toPost (Value.slice none 0 0)))
 replace hm := ite_f b6 hm
 refine GL.skip ?_
 refine GL.seq ?_
 refine GL.region ?_
 refine RL.mv rfl rfl rfl ?_
 obtain ⟨y10, e11, hm⟩ := bind_some hm
 refine RL.call (vs := [v0, .int .i64 (0 : Int), .int .i64 (0 : Int), .int .i64 (-1 : Int)]) Try_fit48 rfl rfl rfl rfl rfl (fun S f w hS hW hi => groves_best_c S w hS _ _ (hi 0 _ rfl) (0 : Int) (0 : Int) (-1 : Int) _ e11) ?_
 intro v12
 refine RL.mv rfl rfl rfl ?_
 refine RL.ext rfl rfl rfl rfl ?_
 refine RL.ext rfl rfl rfl rfl ?_
 refine RL.asg rfl rfl rfl ?_
 refine RL.asg rfl rfl rfl ?_
 refine RL.finG ?_
 refine GL.seq ?_
 refine GL.region ?_
 refine RL.mv rfl rfl rfl ?_
 refine RL.mv rfl rfl rfl ?_
 refine RL.asg rfl rfl rfl ?_
 refine RL.asg rfl rfl rfl ?_
 refine RL.asg rfl rfl rfl ?_
 refine RL.finG ?_
 have hm := Option.some.inj hm
 subst hm
 exact GL.ret (Gx.ret (v := .tuple #[v12, .int .i64 y10.2, .int .i64 (0 : Int)]) (res3 rfl rfl rfl rfl) (fun a w st => (st.pick [1] (by decide) rfl).toPost v12))

set_option maxHeartbeats 4000000 in
theorem groves_Pays_c (S : Hp) (w : World) (hS : S.sub w) (v0 : Value) (x0 : (List (List Int))) (k0 : ((TR.sl (TR.sl TR.int))).vrep S v0 x0) (res : (List Int) × Int) (hm : groves_Pays_m x0 = some res) : Calls Try.prog 25 #[v0] w (Post w S (fun (o : Value) => .tuple #[o, .int .i64 res.2]) (fun (o : Value) => [own 3 TR.int o res.1])) := by
 refine calls_enter 57 Try.func25 Try.ntmps25 rfl S false [(0, v0)] [imm (TR.sl (TR.sl TR.int)) v0 x0] rfl ⟨rfl, trivial⟩ hS ⟨k0, trivial⟩ ?_
 unfold groves_Pays_m at hm
 refine GL.seq ?_
 refine GL.region ?_
 refine RL.asg rfl rfl rfl ?_
 refine RL.asg rfl rfl rfl ?_
 refine RL.finG ?_
 refine GL.seq ?_
 refine GL.region ?_
 refine RL.mv rfl rfl rfl ?_
 obtain ⟨y5, e6, hm⟩ := bind_some hm
 refine RL.call (vs := [v0]) Try_fit24 rfl rfl rfl rfl rfl (fun S f w hS hW hi => groves_Share_c S w hS _ _ (hi 0 _ rfl) _ e6) ?_
 intro v7
 refine RL.mv rfl rfl rfl ?_
 refine RL.ext rfl rfl rfl rfl ?_
 refine RL.ext rfl rfl rfl rfl ?_
 refine RL.ext rfl rfl rfl rfl ?_
 refine RL.asg rfl rfl rfl ?_
 refine RL.asg rfl rfl rfl ?_
 refine RL.asg rfl rfl rfl ?_
 refine RL.finG ?_
 refine GL.seq ?_
 refine GL.seq ?_
 refine GL.region ?_
 refine RL.mv rfl rfl rfl ?_
 refine RL.binI (v := .bool (y5.2.2 != (0 : Int))) rfl rfl rfl rfl rfl ?_
 refine RL.finG ?_
 refine GL.cond rfl (fun b8 => ?_) (fun b8 => ?_)
 ·replace hm := ite_t b8 hm
  refine GL.seq ?_
  refine GL.region ?_
  refine RL.mv rfl rfl rfl ?_
  refine RL.asg rfl rfl rfl ?_
  refine RL.asg rfl rfl rfl ?_
  refine RL.finG ?_
  refine GL.weak (fun a w st => st.nilOwn 3 TR.int) ?_
  have hm := Option.some.inj hm
  subst hm
  exact GL.ret (Gx.ret (v := .tuple #[Value.slice none 0 0, .int .i64 y5.2.2]) (res2 rfl rfl rfl) (fun a w st => (st.pick [2] (by decide) rfl).toPost (Value.slice none 0 0)))
 replace hm := ite_f b8 hm
 refine GL.skip ?_
 refine GL.seq ?_
 refine GL.region ?_
 refine RL.mv rfl rfl rfl ?_
 refine RL.lenS 1 Try.underlying34 rfl rfl rfl rfl SlOf.own ?_
 obtain ⟨y12, e13, hm⟩ := bind_some hm
 replace e13 := chk_some e13
 refine RL.mkS (t := TR.int) (z := (0 : Int)) Try.underlying34 Try_lo3 (fun S => rfl) rfl rfl rfl rfl e13.1 e13.2 ?_
 intro v14
 refine RL.reL (L' := [imm (TR.sl (TR.sl TR.int)) v0 x0, own 3 TR.int v7 y5.1, own 3 TR.int v14 (List.replicate (((y5.1).length : Int)).toNat (0 : Int))]) rfl ?_
 refine RL.asg rfl rfl rfl ?_
 refine RL.finG ?_
 refine GL.seq ?_
 refine GL.seq ?_
 refine GL.region ?_
 refine RL.mv rfl rfl rfl ?_
 refine RL.lenS 1 Try.underlying34 rfl rfl rfl rfl SlOf.own ?_
 refine RL.mv rfl rfl rfl ?_
 refine RL.finG ?_
 refine GL.lenOwn 1 rfl (fun n108 => ?_)
 obtain ⟨y109, K110, h111, h112, h113, h114, h115⟩ := bindR_K hm
 refine GL.join (ι := (List Int)) (fun (p : (List Int)) => [(7, v14)]) (fun (p : (List Int)) => [own 3 TR.int v14 p]) (fun (p : (List Int)) => K110 (.nx p)) ?_ ?_
 ·refine GL.block ?_
  refine GL.loop (ι := Nat × Nat × (List Int)) (fun (p : Nat × Nat × (List Int)) => [(0, v0), (5, .int .i64 y5.2.1), (7, v14), (25, v7), (26, .int .i64 ((y5.1).length : Int)), (27, .int .i64 (p.1 : Int))]) (fun (p : Nat × Nat × (List Int)) => [imm (TR.sl (TR.sl TR.int)) v0 x0, own 3 TR.int v14 p.2.2, own 3 TR.int v7 y5.1]) (fun (p : Nat × Nat × (List Int)) => p.1 + p.2.1 = (y5.1).length ∧ rangeN (groves_Pays_b1 y5 x0) p.2.1 p.1 p.2.2 = some y109) (fun (p : Nat × Nat × (List Int)) => p.2.1) (0, (y5.1).length, (List.replicate (((y5.1).length : Int)).toNat (0 : Int))) ⟨by simp, h111⟩ (fun a w st => St.cut [0, 2, 1] ⟨rfl, rfl, rfl, rfl, rfl, rfl, trivial⟩ (by decide) rfl st) ?_
  rintro ⟨i116, r117, l61⟩ ⟨h122, h121⟩
  try dsimp only at h122 h121
  refine GL.weak (env' := [(0, v0), (5, .int .i64 y5.2.1), (7, v14), (25, v7), (26, .int .i64 ((y5.1).length : Int)), (27, .int .i64 (i116 : Int))]) (L' := [imm (TR.sl (TR.sl TR.int)) v0 x0, own 3 TR.int v14 l61, own 3 TR.int v7 y5.1]) (fun _ _ st => st) ?_
  refine GL.seq ?_
  refine GL.region ?_
  refine RL.binI (v := .bool (decide ((i116 : Int) < ((y5.1).length : Int)))) rfl rfl rfl rfl rfl ?_
  refine RL.finG ?_
  refine GL.seq ?_
  refine GL.cond rfl (fun b124 => ?_) (fun b124 => ?_)
  ·have h125 : i116 < (y5.1).length := by have := of_decide_eq_true b124; omega
   obtain ⟨r126, hr⟩ : ∃ m, r117 = m + 1 := ⟨r117 - 1, by omega⟩
   subst hr
   obtain ⟨z118, h119, h120⟩ := rangeN_some h121
   unfold groves_Pays_b1 at h119
   try dsimp only at h119
   refine GL.skip ?_
   refine GL.seq ?_
   refine GL.block ?_
   refine GL.seq ?_
   refine GL.region ?_
   refine RL.mv rfl rfl rfl ?_
   obtain ⟨y129, e130, h119⟩ := bind_some h119
   refine RL.idxS (sz := 1) 2 Try.underlying34 Try_ln3 rfl rfl rfl rfl rfl SlOf.own (idx_some e130).1 (idx_some e130).2.1 ?_
   refine RL.ldSx (i := i116) (e' := y129) 2 Ex.ik Try_ln3 rfl rfl rfl rfl SlOf.own (idx_some e130).2.2 Part.self ?_
   refine RL.asg rfl rfl rfl ?_
   refine RL.asg rfl rfl rfl ?_
   refine RL.finG ?_
   refine GL.seq ?_
   refine GL.region ?_
   refine RL.mv rfl rfl rfl ?_
   refine RL.mv rfl rfl rfl ?_
   obtain ⟨y134, e135, h119⟩ := bind_some h119
   refine RL.call (vs := [v0, .int .i64 (0 : Int), .int .i64 (0 : Int), .int .i64 (i116 : Int)]) Try_fit48 rfl rfl rfl rfl rfl (fun S f w hS hW hi => groves_best_c S w hS _ _ (hi 0 _ rfl) (0 : Int) (0 : Int) (i116 : Int) _ e135) ?_
   intro v136
   refine RL.mv rfl rfl rfl ?_
   refine RL.ext rfl rfl rfl rfl ?_
   refine RL.ext rfl rfl rfl rfl ?_
   refine RL.asg rfl rfl rfl ?_
   refine RL.asg rfl rfl rfl ?_
   refine RL.finG ?_
   refine GL.seq ?_
   refine GL.region ?_
   refine RL.asg rfl rfl rfl ?_
   refine RL.finG ?_
   refine GL.seq ?_
   refine GL.seq ?_
   refine GL.region ?_
   refine RL.mv rfl rfl rfl ?_
   refine RL.binI (v := .bool (decide (y129 ≥ (0 : Int)))) rfl rfl rfl rfl rfl ?_
   refine RL.finG ?_
   obtain ⟨y149, K150, h151, h152, h153, h154, h155⟩ := bindF_K h119
   refine GL.join (ι := Int) (fun (p : Int) => [(0, v0), (5, .int .i64 y5.2.1), (7, v14), (8, .int .i64 (i116 : Int)), (11, .int .i64 y134.2), (12, .int .i64 p), (25, v7), (26, .int .i64 ((y5.1).length : Int)), (27, .int .i64 (i116 : Int))]) (fun (p : Int) => [imm (TR.sl (TR.sl TR.int)) v0 x0, own 3 TR.int v14 l61, own 3 TR.int v7 y5.1]) (fun (p : Int) => K150 (.nx p)) ?_ ?_
   ·skip
    refine GL.cond rfl (fun b156 => ?_) (fun b156 => ?_)
    ·replace h151 := ite_t b156 h151
     refine GL.region ?_
     refine RL.mv rfl rfl rfl ?_
     refine RL.mv rfl rfl rfl ?_
     obtain ⟨y162, e163, h151⟩ := bind_some h151
     refine RL.idxS (sz := 1) 0 Try.underlying42 Try_ln34 rfl rfl rfl rfl rfl SlOf.imm (idx_some e163).1 (idx_some e163).2.1 ?_
     refine RL.ldS (i := i116) (r := (TR.sl TR.int)) (e' := y162) 0 Try_ln34 rfl rfl rfl rfl SlOf.imm (idx_some e163).2.2 Part.self ?_
     intro v164
     refine RL.reL (L' := [imm (TR.sl (TR.sl TR.int)) v0 x0, own 3 TR.int v14 l61, own 3 TR.int v7 y5.1, own 3 TR.int v136 y134.1, imm (TR.sl TR.int) v164 y162]) rfl ?_
     refine RL.mv rfl rfl rfl ?_
     obtain ⟨y165, e166, h151⟩ := bind_some h151
     refine RL.idxS (sz := 1) 4 Try.underlying34 Try_ln3 rfl rfl rfl rfl rfl SlOf.imm (idx_some e166).1 (idx_some e166).2.1 ?_
     refine RL.ldSx (i := (y129).toNat) (e' := y165) 4 Ex.ik Try_ln3 rfl rfl rfl rfl SlOf.imm (idx_some e166).2.2 Part.self ?_
     refine RL.asg rfl rfl rfl ?_
     refine RL.finG ?_
     cases h151
     exact fun a w st => mid_intro y165 h152 (St.cut [0, 1, 2] ⟨rfl, rfl, rfl, rfl, rfl, rfl, rfl, rfl, rfl, trivial⟩ (by decide) rfl st)
    replace h151 := ite_f b156 h151
    refine GL.skip ?_
    cases h151
    exact fun a w st => mid_intro (0 : Int) h152 (St.cut [0, 1, 2] ⟨rfl, rfl, rfl, rfl, rfl, rfl, rfl, rfl, rfl, trivial⟩ (by decide) rfl st)
   rintro x148 h167
   have h168 := h153 _ h167
   try dsimp only at h168
   refine GL.weak (env' := [(0, v0), (5, .int .i64 y5.2.1), (7, v14), (8, .int .i64 (i116 : Int)), (11, .int .i64 y134.2), (12, .int .i64 x148), (25, v7), (26, .int .i64 ((y5.1).length : Int)), (27, .int .i64 (i116 : Int))]) (L' := [imm (TR.sl (TR.sl TR.int)) v0 x0, own 3 TR.int v14 l61, own 3 TR.int v7 y5.1]) (fun _ _ st => st) ?_
   refine GL.region ?_
   refine RL.mv rfl rfl rfl ?_
   refine RL.mv rfl rfl rfl ?_
   refine RL.mv rfl rfl rfl ?_
   refine RL.mv rfl rfl rfl ?_
   refine RL.mv rfl rfl rfl ?_
   refine RL.binI (v := .int .i64 (wsub y5.2.1 x148)) rfl rfl rfl rfl rfl ?_
   refine RL.binI (v := .int .i64 (wsub y134.2 (wsub y5.2.1 x148))) rfl rfl rfl rfl rfl ?_
   obtain ⟨y171, e172, h168⟩ := bind_some h168
   refine RL.idxS (sz := 1) 1 Try.underlying34 Try_ln3 rfl rfl rfl rfl rfl SlOf.own (idx_some e172).1 (idx_some e172).2.1 ?_
   refine RL.stS (i := i116) (e' := wsub y134.2 (wsub y5.2.1 x148)) (e1 := wsub y134.2 (wsub y5.2.1 x148)) (r := TR.int) 1 Try_ln3 rfl rfl rfl rfl VR.int rfl (idx_some e172).2.2 Upd.self ?_
   refine RL.finG ?_
   refine GL.nilB ?_
   refine GL.region ?_
   refine RL.binI (v := .int .i64 ((i116 + 1 : Nat) : Int)) rfl rfl rfl rfl (binI_succ i116 (by omega)) ?_
   refine RL.mv rfl rfl rfl ?_
   refine RL.fin ?_
   cases h168
   exact fun a w st => lop_intro (i116 + 1, r126, (List.set l61 i116 (wsub y134.2 (wsub y5.2.1 x148)))) ⟨by show i116 + 1 + r126 = (y5.1).length; omega, h120⟩ (by simp) (St.cut [0, 1, 2] ⟨rfl, rfl, rfl, rfl, rfl, rfl, trivial⟩ (by decide) rfl st)
  have h125 : ¬ i116 < (y5.1).length := by have := of_decide_eq_false b124; omega
  obtain rfl : r117 = 0 := by omega
  replace h121 : some (Fl.nx _) = some y109 := h121
  cases h121
  exact GL.exit (fun a w st => mid_intro l61 h112 (St.cut [1] ⟨rfl, trivial⟩ (by decide) rfl st))
 rintro l61 h173
 have h174 := h113 _ h173
 try dsimp only at h174
 refine GL.weak (env' := [(7, v14)]) (L' := [own 3 TR.int v14 l61]) (fun _ _ st => st) ?_
 refine GL.seq ?_
 refine GL.region ?_
 refine RL.mv rfl rfl rfl ?_
 refine RL.asg rfl rfl rfl ?_
 refine RL.asg rfl rfl rfl ?_
 refine RL.finG ?_
 have h174 := Option.some.inj h174
 subst h174
 exact GL.ret (Gx.ret (v := .tuple #[v14, .int .i64 (0 : Int)]) (res2 rfl rfl rfl) (fun a w st => (st.pick [0] (by decide) rfl).toPost v14))

set_option maxHeartbeats 4000000 in
theorem slices_IndexFunc_api_Errno_api_Errno_c (S : Hp) (w : World) (hS : S.sub w) (v0 : Value) (x0 : (List Int)) (k0 : ((TR.sl TR.int)).vrep S v0 x0) (f1 : FuncId) (c1 : Array Value) (t1 : Fit Try.prog f1) (g1 : Int → Option Bool) (k1 : ∀ (U : Hp) (w' : World), Hp.le S U → U.sub w' → ∀ (a0 : Int) (rr : Bool), g1 a0 = some rr → Calls Try.prog f1 (#[.int .i64 a0] ++ c1) w' (PostV w' (.bool rr))) (res : Int) (hm : slices_IndexFunc_api_Errno_api_Errno_m x0 g1 = some res) : Calls Try.prog 55 #[v0, .func (.func f1) #[] c1] w (PostV w (.int .i64 res)) := by
 refine calls_enter 19 Try.func55 Try.ntmps55 rfl S false [(0, v0), (1, .func (.func f1) #[] c1)] [imm (TR.sl TR.int) v0 x0] rfl ⟨rfl, ⟨rfl, trivial⟩⟩ hS ⟨k0, trivial⟩ ?_
 unfold slices_IndexFunc_api_Errno_api_Errno_m at hm
 refine GL.seq ?_
 refine GL.region ?_
 refine RL.asg rfl rfl rfl ?_
 refine RL.finG ?_
 refine GL.seq ?_
 refine GL.seq ?_
 refine GL.region ?_
 refine RL.mv rfl rfl rfl ?_
 refine RL.lenS 0 Try.underlying80 rfl rfl rfl rfl SlOf.imm ?_
 refine RL.mv rfl rfl rfl ?_
 refine RL.finG ?_
 refine GL.open_ 0 rfl (fun S h => len_imm S h) (fun n12 => ?_)
 obtain ⟨y13, K14, h15, h16, h17, h18, h19⟩ := bindR_K hm
 refine GL.join (ι := Unit) (fun (p : Unit) => []) (fun (p : Unit) => []) (fun (p : Unit) => K14 (.nx ())) ?_ ?_
 ·refine GL.block ?_
  refine GL.loop (ι := Nat × (List Int)) (fun (p : Nat × (List Int)) => [(0, v0), (1, .func (.func f1) #[] c1), (7, .int .i64 ((x0).length : Int)), (8, .int .i64 (p.1 : Int))]) (fun (p : Nat × (List Int)) => [imm (TR.sl TR.int) v0 x0]) (fun (p : Nat × (List Int)) => p.1 + p.2.length = (x0).length ∧ List.drop p.1 x0 = p.2 ∧ rangeL (slices_IndexFunc_api_Errno_api_Errno_b1 g1) p.2 p.1 () = some y13) (fun (p : Nat × (List Int)) => p.2.length) (0, x0) ⟨by simp, by simp, h15⟩ (fun a w st => St.cut [0] ⟨rfl, rfl, rfl, rfl, trivial⟩ (by decide) rfl st) ?_
  rintro ⟨i20, r21⟩ ⟨h26, h27, h25⟩
  try dsimp only at h26 h27 h25
  refine GL.weak (env' := [(0, v0), (1, .func (.func f1) #[] c1), (7, .int .i64 ((x0).length : Int)), (8, .int .i64 (i20 : Int))]) (L' := [imm (TR.sl TR.int) v0 x0]) (fun _ _ st => st) ?_
  refine GL.seq ?_
  refine GL.region ?_
  refine RL.binI (v := .bool (decide ((i20 : Int) < ((x0).length : Int)))) rfl rfl rfl rfl rfl ?_
  refine RL.finG ?_
  refine GL.seq ?_
  refine GL.cond rfl (fun b28 => ?_) (fun b28 => ?_)
  ·have h29 : i20 < (x0).length := by have := of_decide_eq_true b28; omega
   obtain ⟨y30, r32, hr, e31, h33⟩ := drop_cons h27 rfl h29
   subst hr
   obtain ⟨z22, h23, h24⟩ := rangeL_some h25
   unfold slices_IndexFunc_api_Errno_api_Errno_b1 at h23
   try dsimp only at h23
   refine GL.skip ?_
   refine GL.seq ?_
   refine GL.block ?_
   refine GL.seq ?_
   refine GL.region ?_
   refine RL.mv rfl rfl rfl ?_
   refine RL.asg rfl rfl rfl ?_
   refine RL.finG ?_
   refine GL.seq ?_
   refine GL.region ?_
   refine RL.mv rfl rfl rfl ?_
   refine RL.mv rfl rfl rfl ?_
   refine RL.mv rfl rfl rfl ?_
   refine RL.idxS (sz := 1) 0 Try.underlying80 Try_ln24 rfl rfl rfl rfl rfl SlOf.imm (by omega) (by omega) ?_
   refine RL.ldSx (i := i20) (e' := y30) 0 Ex.ik Try_ln24 rfl rfl rfl rfl SlOf.imm e31 Part.self ?_
   obtain ⟨y36, e37, h23⟩ := bind_some h23
   refine RL.callV (v := .bool y36) (vs := [.int .i64 y30]) t1 rfl (Or.inl rfl) rfl rfl rfl rfl (fun U w hU hW hL => k1 U w hW hU y30 _ e37) ?_
   refine RL.finG ?_
   refine GL.cond rfl (fun b38 => ?_) (fun b38 => ?_)
   ·replace h23 := ite_t b38 h23
    refine GL.seq ?_
    refine GL.region ?_
    refine RL.mv rfl rfl rfl ?_
    refine RL.asg rfl rfl rfl ?_
    refine RL.finG ?_
    cases h23
    replace h24 : some (Fl.rt _) = some y13 := h24
    cases h24
    have hh := h18 _ h16
    subst hh
    exact GL.ret (Gx.ret (v := .int .i64 (i20 : Int)) (res1 rfl rfl) (fun a w st => st.toPostV))
   replace h23 := ite_f b38 h23
   refine GL.skip ?_
   refine GL.nilB ?_
   refine GL.region ?_
   refine RL.binI (v := .int .i64 ((i20 + 1 : Nat) : Int)) rfl rfl rfl rfl (binI_succ i20 (by omega)) ?_
   refine RL.mv rfl rfl rfl ?_
   refine RL.fin ?_
   cases h23
   exact fun a w st => lop_intro (i20 + 1, r32) ⟨by show i20 + 1 + r32.length = (x0).length; simp only [List.length_cons] at h26; omega, h33, h24⟩ (by simp) (St.cut [0] ⟨rfl, rfl, rfl, rfl, trivial⟩ (by decide) rfl st)
  have h29 : ¬ i20 < (x0).length := by have := of_decide_eq_false b28; omega
  obtain rfl : r21 = [] := by rw [← h27]; exact List.drop_of_length_le (by omega)
  replace h25 : some (Fl.nx _) = some y13 := h25
  cases h25
  exact GL.exit (fun a w st => mid_intro () h16 (St.cut [] trivial (by decide) rfl st))
 rintro ⟨⟩ h39
 have h40 := h17 _ h39
 try dsimp only at h40
 refine GL.weak (env' := []) (L' := []) (fun _ _ st => st) ?_
 refine GL.seq ?_
 refine GL.region ?_
 refine RL.asg rfl rfl rfl ?_
 refine RL.finG ?_
 have h40 := Option.some.inj h40
 subst h40
 exact GL.ret (Gx.ret (v := .int .i64 (-1 : Int)) (res1 rfl rfl) (fun a w st => st.toPostV))

set_option maxHeartbeats 4000000 in
theorem slices_ContainsFunc_api_Errno_api_Errno_c (S : Hp) (w : World) (hS : S.sub w) (v0 : Value) (x0 : (List Int)) (k0 : ((TR.sl TR.int)).vrep S v0 x0) (f1 : FuncId) (c1 : Array Value) (t1 : Fit Try.prog f1) (g1 : Int → Option Bool) (k1 : ∀ (U : Hp) (w' : World), Hp.le S U → U.sub w' → ∀ (a0 : Int) (rr : Bool), g1 a0 = some rr → Calls Try.prog f1 (#[.int .i64 a0] ++ c1) w' (PostV w' (.bool rr))) (res : Bool) (hm : slices_ContainsFunc_api_Errno_api_Errno_m x0 g1 = some res) : Calls Try.prog 49 #[v0, .func (.func f1) #[] c1] w (PostV w (.bool res)) := by
 refine calls_enter 9 Try.func49 Try.ntmps49 rfl S false [(0, v0), (1, .func (.func f1) #[] c1)] [imm (TR.sl TR.int) v0 x0] rfl ⟨rfl, ⟨rfl, trivial⟩⟩ hS ⟨k0, trivial⟩ ?_
 unfold slices_ContainsFunc_api_Errno_api_Errno_m at hm
 refine GL.seq ?_
 refine GL.region ?_
 refine RL.asg rfl rfl rfl ?_
 refine RL.finG ?_
 refine GL.seq ?_
 refine GL.region ?_
 refine RL.mv rfl rfl rfl ?_
 refine RL.mv rfl rfl rfl ?_
 obtain ⟨y5, e6, hm⟩ := bind_some hm
 refine RL.callV (v := .int .i64 y5) (vs := [v0, .func (.func f1) #[] c1]) Try_fit55 rfl (Or.inl rfl) rfl rfl rfl rfl (fun U w hU hW hL => slices_IndexFunc_api_Errno_api_Errno_c U w hU _ _ (hL 0 _ _ rfl Seen.imm) f1 c1 t1 g1 (fun U' w' hle => k1 U' w' (Hp.le_trans hW hle)) _ e6) ?_
 refine RL.binI (v := .bool (decide (y5 ≥ (0 : Int)))) rfl rfl rfl rfl rfl ?_
 refine RL.asg rfl rfl rfl ?_
 refine RL.finG ?_
 have hm := Option.some.inj hm
 subst hm
 exact GL.ret (Gx.ret (v := .bool (decide (y5 ≥ (0 : Int)))) (res1 rfl rfl) (fun a w st => st.toPostV))

set_option maxHeartbeats 4000000 in
theorem pk_good_1_c (S : Hp) (w : World) (hS : S.sub w) (x0 : Int) (res : Bool) (hm : pk_good_1_m x0 = some res) : Calls Try.prog 50 #[.int .i64 x0] w (PostC w (.bool res)) := by
 refine calls_enter 5 Try.func50 Try.ntmps50 rfl S true [(0, .int .i64 x0)] [] rfl ⟨rfl, trivial⟩ hS trivial ?_
 unfold pk_good_1_m at hm
 refine GL.seq ?_
 refine GL.region ?_
 refine RL.asg rfl rfl rfl ?_
 refine RL.finG ?_
 refine GL.seq ?_
 refine GL.region ?_
 refine RL.mv rfl rfl rfl ?_
 refine RL.binI (v := .bool (x0 != (0 : Int))) rfl rfl rfl rfl rfl ?_
 refine RL.asg rfl rfl rfl ?_
 refine RL.finG ?_
 have hm := Option.some.inj hm
 subst hm
 exact GL.ret (Gx.ret (v := .bool (x0 != (0 : Int))) (res1 rfl rfl) (fun a w st => st.toPostC rfl))

set_option maxHeartbeats 4000000 in
theorem pk_good_c (S : Hp) (w : World) (hS : S.sub w) (v0 : Value) (x0 : (List Int)) (k0 : ((TR.sl TR.int)).vrep S v0 x0) (res : Bool) (hm : pk_good_m x0 = some res) : Calls Try.prog 26 #[v0] w (PostV w (.bool res)) := by
 refine calls_enter 6 Try.func26 Try.ntmps26 rfl S false [(0, v0)] [imm (TR.sl TR.int) v0 x0] rfl ⟨rfl, trivial⟩ hS ⟨k0, trivial⟩ ?_
 unfold pk_good_m at hm
 refine GL.seq ?_
 refine GL.region ?_
 refine RL.asg rfl rfl rfl ?_
 refine RL.finG ?_
 refine GL.seq ?_
 refine GL.region ?_
 refine RL.mv rfl rfl rfl ?_
 obtain ⟨y4, e5, hm⟩ := bind_some hm
 refine RL.callV (v := .bool y4) (vs := [v0, .func (.func 50) #[] #[]]) Try_fit49 rfl (Or.inl rfl) rfl rfl rfl rfl (fun U w hU hW hL => slices_ContainsFunc_api_Errno_api_Errno_c U w hU _ _ (hL 0 _ _ rfl Seen.imm) 50 #[] Try_fit50 (fun a0 => pk_good_1_m a0) (fun U' w' hle hU' a0 rr hr => (pk_good_1_c U' w' hU' a0 rr hr).mono (fun _ _ z => z.toV)) _ e5) ?_
 refine RL.notB rfl rfl rfl ?_
 refine RL.asg rfl rfl rfl ?_
 refine RL.finG ?_
 have hm := Option.some.inj hm
 subst hm
 exact GL.ret (Gx.ret (v := .bool (!y4)) (res1 rfl rfl) (fun a w st => st.toPostV))

set_option maxHeartbeats 4000000 in
theorem slices_Equal_int_int_c (S : Hp) (w : World) (hS : S.sub w) (v0 : Value) (x0 : (List Int)) (k0 : ((TR.sl TR.int)).vrep S v0 x0) (v1 : Value) (x1 : (List Int)) (k1 : ((TR.sl TR.int)).vrep S v1 x1) (res : Bool) (hm : slices_Equal_int_int_m x0 x1 = some res) : Calls Try.prog 46 #[v0, v1] w (PostV w (.bool res)) := by
 refine calls_enter 26 Try.func46 Try.ntmps46 rfl S false [(0, v0), (1, v1)] [imm (TR.sl TR.int) v0 x0, imm (TR.sl TR.int) v1 x1] rfl ⟨rfl, ⟨rfl, trivial⟩⟩ hS ⟨k0, ⟨k1, trivial⟩⟩ ?_
 unfold slices_Equal_int_int_m at hm
 refine GL.seq ?_
 refine GL.region ?_
 refine RL.asg rfl rfl rfl ?_
 refine RL.finG ?_
 refine GL.seq ?_
 refine GL.seq ?_
 refine GL.region ?_
 refine RL.mv rfl rfl rfl ?_
 refine RL.lenS 0 Try.underlying34 rfl rfl rfl rfl SlOf.imm ?_
 refine RL.mv rfl rfl rfl ?_
 refine RL.lenS 1 Try.underlying34 rfl rfl rfl rfl SlOf.imm ?_
 refine RL.binI (v := .bool (((x0).length : Int) != ((x1).length : Int))) rfl rfl rfl rfl rfl ?_
 refine RL.finG ?_
 refine GL.cond rfl (fun b3 => ?_) (fun b3 => ?_)
 ·replace hm := ite_t b3 hm
  refine GL.seq ?_
  refine GL.region ?_
  refine RL.asg rfl rfl rfl ?_
  refine RL.finG ?_
  have hm := Option.some.inj hm
  subst hm
  exact GL.ret (Gx.ret (v := .bool false) (res1 rfl rfl) (fun a w st => st.toPostV))
 replace hm := ite_f b3 hm
 refine GL.skip ?_
 refine GL.seq ?_
 refine GL.seq ?_
 refine GL.region ?_
 refine RL.mv rfl rfl rfl ?_
 refine RL.lenS 0 Try.underlying34 rfl rfl rfl rfl SlOf.imm ?_
 refine RL.mv rfl rfl rfl ?_
 refine RL.finG ?_
 refine GL.open_ 0 rfl (fun S h => len_imm S h) (fun n13 => ?_)
 obtain ⟨y14, K15, h16, h17, h18, h19, h20⟩ := bindR_K hm
 refine GL.join (ι := Unit) (fun (p : Unit) => []) (fun (p : Unit) => []) (fun (p : Unit) => K15 (.nx ())) ?_ ?_
 ·refine GL.block ?_
  refine GL.loop (ι := Nat × (List Int)) (fun (p : Nat × (List Int)) => [(0, v0), (1, v1), (12, .int .i64 ((x0).length : Int)), (13, .int .i64 (p.1 : Int))]) (fun (p : Nat × (List Int)) => [imm (TR.sl TR.int) v0 x0, imm (TR.sl TR.int) v1 x1]) (fun (p : Nat × (List Int)) => p.1 + p.2.length = (x0).length ∧ List.drop p.1 x0 = p.2 ∧ rangeL (slices_Equal_int_int_b1 x1) p.2 p.1 () = some y14) (fun (p : Nat × (List Int)) => p.2.length) (0, x0) ⟨by simp, by simp, h16⟩ (fun a w st => St.cut [0, 1] ⟨rfl, rfl, rfl, rfl, trivial⟩ (by decide) rfl st) ?_
  rintro ⟨i21, r22⟩ ⟨h27, h28, h26⟩
  try dsimp only at h27 h28 h26
  refine GL.weak (env' := [(0, v0), (1, v1), (12, .int .i64 ((x0).length : Int)), (13, .int .i64 (i21 : Int))]) (L' := [imm (TR.sl TR.int) v0 x0, imm (TR.sl TR.int) v1 x1]) (fun _ _ st => st) ?_
  refine GL.seq ?_
  refine GL.region ?_
  refine RL.binI (v := .bool (decide ((i21 : Int) < ((x0).length : Int)))) rfl rfl rfl rfl rfl ?_
  refine RL.finG ?_
  refine GL.seq ?_
  refine GL.cond rfl (fun b29 => ?_) (fun b29 => ?_)
  ·have h30 : i21 < (x0).length := by have := of_decide_eq_true b29; omega
   obtain ⟨y31, r33, hr, e32, h34⟩ := drop_cons h28 rfl h30
   subst hr
   obtain ⟨z23, h24, h25⟩ := rangeL_some h26
   unfold slices_Equal_int_int_b1 at h24
   try dsimp only at h24
   refine GL.skip ?_
   refine GL.seq ?_
   refine GL.block ?_
   refine GL.seq ?_
   refine GL.region ?_
   refine RL.mv rfl rfl rfl ?_
   refine RL.asg rfl rfl rfl ?_
   refine RL.finG ?_
   refine GL.seq ?_
   refine GL.regionQ rfl rfl (by kernel_rfl) ?_
   refine RL.mv rfl rfl rfl ?_
   refine RL.mv rfl rfl rfl ?_
   refine RL.idxS (sz := 1) 0 Try.underlying34 Try_ln3 rfl rfl rfl rfl rfl SlOf.imm (by omega) (by omega) ?_
   refine RL.ldSx (i := i21) (e' := y31) 0 Ex.ik Try_ln3 rfl rfl rfl rfl SlOf.imm e32 Part.self ?_
   refine RL.mv rfl rfl rfl ?_
   refine RL.mv rfl rfl rfl ?_
   obtain ⟨y37, e38, h24⟩ := bind_some h24
   refine RL.idxS (sz := 1) 1 Try.underlying34 Try_ln3 rfl rfl rfl rfl rfl SlOf.imm (idx_some e38).1 (idx_some e38).2.1 ?_
   refine RL.ldSx (i := i21) (e' := y37) 1 Ex.ik Try_ln3 rfl rfl rfl rfl SlOf.imm (idx_some e38).2.2 Part.self ?_
   refine RL.binI (v := .bool (y31 != y37)) rfl rfl rfl rfl rfl ?_
   refine RL.finQG ?_
   refine GL.cond rfl (fun b39 => ?_) (fun b39 => ?_)
   ·replace h24 := ite_t b39 h24
    refine GL.seq ?_
    refine GL.region ?_
    refine RL.asg rfl rfl rfl ?_
    refine RL.finG ?_
    cases h24
    replace h25 : some (Fl.rt _) = some y14 := h25
    cases h25
    have hh := h19 _ h17
    subst hh
    exact GL.ret (Gx.ret (v := .bool false) (res1 rfl rfl) (fun a w st => st.toPostV))
   replace h24 := ite_f b39 h24
   refine GL.skip ?_
   refine GL.nilB ?_
   refine GL.region ?_
   refine RL.binI (v := .int .i64 ((i21 + 1 : Nat) : Int)) rfl rfl rfl rfl (binI_succ i21 (by omega)) ?_
   refine RL.mv rfl rfl rfl ?_
   refine RL.fin ?_
   cases h24
   exact fun a w st => lop_intro (i21 + 1, r33) ⟨by show i21 + 1 + r33.length = (x0).length; simp only [List.length_cons] at h27; omega, h34, h25⟩ (by simp) (St.cut [0, 1] ⟨rfl, rfl, rfl, rfl, trivial⟩ (by decide) rfl st)
  have h30 : ¬ i21 < (x0).length := by have := of_decide_eq_false b29; omega
  obtain rfl : r22 = [] := by rw [← h28]; exact List.drop_of_length_le (by omega)
  replace h26 : some (Fl.nx _) = some y14 := h26
  cases h26
  exact GL.exit (fun a w st => mid_intro () h17 (St.cut [] trivial (by decide) rfl st))
 rintro ⟨⟩ h40
 have h41 := h18 _ h40
 try dsimp only at h41
 refine GL.weak (env' := []) (L' := []) (fun _ _ st => st) ?_
 refine GL.seq ?_
 refine GL.region ?_
 refine RL.asg rfl rfl rfl ?_
 refine RL.finG ?_
 have h41 := Option.some.inj h41
 subst h41
 exact GL.ret (Gx.ret (v := .bool true) (res1 rfl rfl) (fun a w st => st.toPostV))

set_option maxHeartbeats 4000000 in
theorem pk_vickreys_c (S : Hp) (w : World) (hS : S.sub w)  (res : Bool) (hm : pk_vickreys_m = some res) : Calls Try.prog 22 #[] w (PostV w (.bool res)) := by
 refine calls_enter 39 Try.func22 Try.ntmps22 rfl S false [] [] rfl trivial hS trivial ?_
 unfold pk_vickreys_m at hm
 refine GL.seq ?_
 refine GL.region ?_
 refine RL.asg rfl rfl rfl ?_
 refine RL.finG ?_
 refine GL.seq ?_
 refine GL.region ?_
 refine RL.bS (t := TR.int) (vs := [.int .i64 (5 : Int), .int .i64 (4 : Int)]) ([(5 : Int), (4 : Int)] : (List Int)) Try.underlying34 Try_lo3 rfl rfl rfl rfl ⟨VR.int, ⟨VR.int, trivial⟩⟩ rfl (by decide) ?_
 intro v7
 refine RL.bS (t := TR.int) (vs := [.int .i64 (6 : Int), .int .i64 (1 : Int)]) ([(6 : Int), (1 : Int)] : (List Int)) Try.underlying34 Try_lo3 rfl rfl rfl rfl ⟨VR.int, ⟨VR.int, trivial⟩⟩ rfl (by decide) ?_
 intro v8
 refine RL.reL (L' := [own 3 TR.int v7 ([(5 : Int), (4 : Int)] : (List Int)), own 3 TR.int v8 ([(6 : Int), (1 : Int)] : (List Int))]) rfl ?_
 refine RL.weak (fun a w st => st.freeze 0 rfl) ?_
 refine RL.weak (fun a w st => st.freeze 1 rfl) ?_
 refine RL.bS (t := (TR.sl TR.int)) (vs := [v7, v8]) ([([(5 : Int), (4 : Int)] : (List Int)), ([(6 : Int), (1 : Int)] : (List Int))] : (List (List Int))) Try.underlying42 Try_lo34 rfl rfl rfl rfl ⟨(VR.item 0 rfl), ⟨(VR.item 1 rfl), trivial⟩⟩ rfl (by decide) ?_
 intro v9
 refine RL.reL (L' := [imm (TR.sl TR.int) v7 ([(5 : Int), (4 : Int)] : (List Int)), imm (TR.sl TR.int) v8 ([(6 : Int), (1 : Int)] : (List Int)), own 34 (TR.sl TR.int) v9 ([([(5 : Int), (4 : Int)] : (List Int)), ([(6 : Int), (1 : Int)] : (List Int))] : (List (List Int)))]) rfl ?_
 obtain ⟨y10, e11, hm⟩ := bind_some hm
 refine RL.callU (vs := [v9]) (LR := fun (o : Value) => [own 3 TR.int o y10.1]) (fun o => ⟨Loc.own TR.flatT_ik, trivial⟩) Try_fit24 rfl rfl rfl rfl rfl (fun U w hU hW hL => groves_Share_c U w hU _ _ (hL 2 _ _ rfl Seen.own) _ e11) ?_
 intro v12
 refine RL.mv rfl rfl rfl ?_
 refine RL.ext rfl rfl rfl rfl ?_
 refine RL.ext rfl rfl rfl rfl ?_
 refine RL.ext rfl rfl rfl rfl ?_
 refine RL.asg rfl rfl rfl ?_
 refine RL.asg rfl rfl rfl ?_
 refine RL.asg rfl rfl rfl ?_
 refine RL.finG ?_
 refine GL.seq ?_
 refine GL.region ?_
 refine RL.bS (t := TR.int) (vs := [.int .i64 (5 : Int), .int .i64 (4 : Int)]) ([(5 : Int), (4 : Int)] : (List Int)) Try.underlying34 Try_lo3 rfl rfl rfl rfl ⟨VR.int, ⟨VR.int, trivial⟩⟩ rfl (by decide) ?_
 intro v19
 refine RL.bS (t := TR.int) (vs := [.int .i64 (6 : Int), .int .i64 (1 : Int)]) ([(6 : Int), (1 : Int)] : (List Int)) Try.underlying34 Try_lo3 rfl rfl rfl rfl ⟨VR.int, ⟨VR.int, trivial⟩⟩ rfl (by decide) ?_
 intro v20
 refine RL.reL (L' := [imm (TR.sl TR.int) v7 ([(5 : Int), (4 : Int)] : (List Int)), imm (TR.sl TR.int) v8 ([(6 : Int), (1 : Int)] : (List Int)), own 34 (TR.sl TR.int) v9 ([([(5 : Int), (4 : Int)] : (List Int)), ([(6 : Int), (1 : Int)] : (List Int))] : (List (List Int))), own 3 TR.int v12 y10.1, own 3 TR.int v19 ([(5 : Int), (4 : Int)] : (List Int)), own 3 TR.int v20 ([(6 : Int), (1 : Int)] : (List Int))]) rfl ?_
 refine RL.weak (fun a w st => st.freeze 4 rfl) ?_
 refine RL.weak (fun a w st => st.freeze 5 rfl) ?_
 refine RL.bS (t := (TR.sl TR.int)) (vs := [v19, v20]) ([([(5 : Int), (4 : Int)] : (List Int)), ([(6 : Int), (1 : Int)] : (List Int))] : (List (List Int))) Try.underlying42 Try_lo34 rfl rfl rfl rfl ⟨(VR.item 4 rfl), ⟨(VR.item 5 rfl), trivial⟩⟩ rfl (by decide) ?_
 intro v21
 refine RL.reL (L' := [imm (TR.sl TR.int) v7 ([(5 : Int), (4 : Int)] : (List Int)), imm (TR.sl TR.int) v8 ([(6 : Int), (1 : Int)] : (List Int)), own 34 (TR.sl TR.int) v9 ([([(5 : Int), (4 : Int)] : (List Int)), ([(6 : Int), (1 : Int)] : (List Int))] : (List (List Int))), own 3 TR.int v12 y10.1, imm (TR.sl TR.int) v19 ([(5 : Int), (4 : Int)] : (List Int)), imm (TR.sl TR.int) v20 ([(6 : Int), (1 : Int)] : (List Int)), own 34 (TR.sl TR.int) v21 ([([(5 : Int), (4 : Int)] : (List Int)), ([(6 : Int), (1 : Int)] : (List Int))] : (List (List Int)))]) rfl ?_
 obtain ⟨y22, e23, hm⟩ := bind_some hm
 refine RL.callU (vs := [v21]) (LR := fun (o : Value) => [own 3 TR.int o y22.1]) (fun o => ⟨Loc.own TR.flatT_ik, trivial⟩) Try_fit25 rfl rfl rfl rfl rfl (fun U w hU hW hL => groves_Pays_c U w hU _ _ (hL 6 _ _ rfl Seen.own) _ e23) ?_
 intro v24
 refine RL.mv rfl rfl rfl ?_
 refine RL.ext rfl rfl rfl rfl ?_
 refine RL.ext rfl rfl rfl rfl ?_
 refine RL.asg rfl rfl rfl ?_
 refine RL.asg rfl rfl rfl ?_
 refine RL.finG ?_
 refine GL.seq ?_
 obtain ⟨y50, K51, h52, h53, h54, h55, h56⟩ := bindR_K hm
 refine GL.join (ι := Bool) (fun (p : Bool) => [(0, .bool p)]) (fun (p : Bool) => []) (fun (p : Bool) => K51 (.nx p)) ?_ ?_
 ·skip
  refine GL.region ?_
  refine RL.mv rfl rfl rfl ?_
  refine RL.mv rfl rfl rfl ?_
  refine RL.bS (t := TR.int) (vs := [.int .i64 y10.2.2, .int .i64 y22.2]) ([y10.2.2, y22.2] : (List Int)) Try.underlying80 Try_lo24 rfl rfl rfl rfl ⟨VR.int, ⟨VR.int, trivial⟩⟩ rfl (by decide) ?_
  intro v57
  obtain ⟨y58, e59, h52⟩ := bind_some h52
  refine RL.callV (v := .bool y58) (vs := [v57]) Try_fit26 rfl (Or.inl rfl) rfl rfl rfl rfl (fun U w hU hW hL => pk_good_c U w hU _ _ (hL 8 _ _ rfl Seen.own) _ e59) ?_
  refine RL.mv rfl rfl rfl ?_
  refine RL.split (t := 25) rfl (fun b60 => ?_) (fun b60 => ?_)
  ·replace h52 := ite_t b60 h52
   refine RL.mv rfl rfl rfl ?_
   refine RL.bS (t := TR.int) (vs := [.int .i64 (1 : Int), .int .i64 (0 : Int)]) ([(1 : Int), (0 : Int)] : (List Int)) Try.underlying34 Try_lo3 rfl rfl rfl rfl ⟨VR.int, ⟨VR.int, trivial⟩⟩ rfl (by decide) ?_
   intro v61
   refine RL.reL (L' := [imm (TR.sl TR.int) v7 ([(5 : Int), (4 : Int)] : (List Int)), imm (TR.sl TR.int) v8 ([(6 : Int), (1 : Int)] : (List Int)), own 34 (TR.sl TR.int) v9 ([([(5 : Int), (4 : Int)] : (List Int)), ([(6 : Int), (1 : Int)] : (List Int))] : (List (List Int))), own 3 TR.int v12 y10.1, imm (TR.sl TR.int) v19 ([(5 : Int), (4 : Int)] : (List Int)), imm (TR.sl TR.int) v20 ([(6 : Int), (1 : Int)] : (List Int)), own 34 (TR.sl TR.int) v21 ([([(5 : Int), (4 : Int)] : (List Int)), ([(6 : Int), (1 : Int)] : (List Int))] : (List (List Int))), own 3 TR.int v24 y22.1, own 24 TR.int v57 ([y10.2.2, y22.2] : (List Int)), own 3 TR.int v61 ([(1 : Int), (0 : Int)] : (List Int))]) rfl ?_
   obtain ⟨y62, e63, h52⟩ := bind_some h52
   refine RL.callV (v := .bool y62) (vs := [v12, v61]) Try_fit46 rfl (Or.inl rfl) rfl rfl rfl rfl (fun U w hU hW hL => slices_Equal_int_int_c U w hU _ _ (hL 3 _ _ rfl Seen.own) _ _ (hL 9 _ _ rfl Seen.own) _ e63) ?_
   refine RL.pickT rfl rfl rfl rfl ?_
   refine RL.mv rfl rfl rfl ?_
   refine RL.split (t := 30) rfl (fun b64 => ?_) (fun b64 => ?_)
   ·replace h52 := ite_t b64 h52
    refine RL.mv rfl rfl rfl ?_
    refine RL.binI (v := .bool (y10.2.1 == (10 : Int))) rfl rfl rfl rfl rfl ?_
    refine RL.pickT rfl rfl rfl rfl ?_
    refine RL.mv rfl rfl rfl ?_
    refine RL.split (t := 34) rfl (fun b65 => ?_) (fun b65 => ?_)
    ·replace h52 := ite_t b65 h52
     refine RL.mv rfl rfl rfl ?_
     refine RL.bS (t := TR.int) (vs := [.int .i64 (0 : Int), .int .i64 (1 : Int)]) ([(0 : Int), (1 : Int)] : (List Int)) Try.underlying34 Try_lo3 rfl rfl rfl rfl ⟨VR.int, ⟨VR.int, trivial⟩⟩ rfl (by decide) ?_
     intro v66
     obtain ⟨y67, e68, h52⟩ := bind_some h52
     refine RL.callV (v := .bool y67) (vs := [v24, v66]) Try_fit46 rfl (Or.inl rfl) rfl rfl rfl rfl (fun U w hU hW hL => slices_Equal_int_int_c U w hU _ _ (hL 7 _ _ rfl Seen.own) _ _ (hL 10 _ _ rfl Seen.own) _ e68) ?_
     refine RL.pickT rfl rfl rfl rfl ?_
     refine RL.asg rfl rfl rfl ?_
     refine RL.fin ?_
     cases h52
     exact fun a w st => mid_intro y67 h53 (St.cut [] ⟨rfl, trivial⟩ (by decide) rfl st)
    replace h52 := ite_f b65 h52
    refine RL.skip rfl rfl ?_
    refine RL.skip rfl rfl ?_
    refine RL.skip rfl rfl ?_
    refine RL.pickF rfl rfl rfl rfl ?_
    refine RL.asg rfl rfl rfl ?_
    refine RL.fin ?_
    cases h52
    exact fun a w st => mid_intro false h53 (St.cut [] ⟨rfl, trivial⟩ (by decide) rfl st)
   replace h52 := ite_f b64 h52
   refine RL.skip rfl rfl ?_
   refine RL.skip rfl rfl ?_
   refine RL.pickF rfl rfl rfl rfl ?_
   refine RL.mv rfl rfl rfl ?_
   refine RL.skip rfl rfl ?_
   refine RL.skip rfl rfl ?_
   refine RL.skip rfl rfl ?_
   refine RL.pickF rfl rfl rfl rfl ?_
   refine RL.asg rfl rfl rfl ?_
   refine RL.fin ?_
   cases h52
   exact fun a w st => mid_intro false h53 (St.cut [] ⟨rfl, trivial⟩ (by decide) rfl st)
  replace h52 := ite_f b60 h52
  refine RL.skip rfl rfl ?_
  refine RL.skip rfl rfl ?_
  refine RL.skip rfl rfl ?_
  refine RL.pickF rfl rfl rfl rfl ?_
  refine RL.mv rfl rfl rfl ?_
  refine RL.skip rfl rfl ?_
  refine RL.skip rfl rfl ?_
  refine RL.pickF rfl rfl rfl rfl ?_
  refine RL.mv rfl rfl rfl ?_
  refine RL.skip rfl rfl ?_
  refine RL.skip rfl rfl ?_
  refine RL.skip rfl rfl ?_
  refine RL.pickF rfl rfl rfl rfl ?_
  refine RL.asg rfl rfl rfl ?_
  refine RL.fin ?_
  cases h52
  exact fun a w st => mid_intro false h53 (St.cut [] ⟨rfl, trivial⟩ (by decide) rfl st)
 rintro x49 h69
 have h70 := h54 _ h69
 try dsimp only at h70
 refine GL.weak (env' := [(0, .bool x49)]) (L' := []) (fun _ _ st => st) ?_
 have h70 := Option.some.inj h70
 subst h70
 exact GL.ret (Gx.ret (v := .bool x49) (res1 rfl rfl) (fun a w st => st.toPostV))

set_option maxHeartbeats 4000000 in
theorem ref_Rest_c (S : Hp) (w : World) (hS : S.sub w) (x0 : Int) (x1 : Int) (res : Int) (hm : ref_Rest_m x0 x1 = some res) : Calls Try.prog 45 #[.int .i64 x0, .int .i64 x1] w (PostC w (.int .i64 res)) := by
 refine calls_enter 14 Try.func45 Try.ntmps45 rfl S true [(0, .int .i64 x0), (1, .int .i64 x1)] [] rfl ⟨rfl, ⟨rfl, trivial⟩⟩ hS trivial ?_
 unfold ref_Rest_m at hm
 refine GL.seq ?_
 refine GL.region ?_
 refine RL.asg rfl rfl rfl ?_
 refine RL.finG ?_
 refine GL.seq ?_
 refine GL.region ?_
 refine RL.mv rfl rfl rfl ?_
 refine RL.mv rfl rfl rfl ?_
 obtain ⟨y5, e6, hm⟩ := bind_some hm
 replace e6 := chk_some e6
 refine RL.rem rfl rfl rfl rfl e6 ?_
 refine RL.asg rfl rfl rfl ?_
 refine RL.finG ?_
 refine GL.seq ?_
 refine GL.seq ?_
 refine GL.region ?_
 refine RL.mv rfl rfl rfl ?_
 refine RL.binI (v := .bool (decide ((Int.tmod x0 x1) < (0 : Int)))) rfl rfl rfl rfl rfl ?_
 refine RL.finG ?_
 obtain ⟨y9, K10, h11, h12, h13, h14, h15⟩ := bindR_K hm
 refine GL.join (ι := Int) (fun (p : Int) => [(0, .int .i64 p)]) (fun (p : Int) => []) (fun (p : Int) => K10 (.nx p)) ?_ ?_
 ·skip
  refine GL.cond rfl (fun b16 => ?_) (fun b16 => ?_)
  ·replace h11 := ite_t b16 h11
   refine GL.region ?_
   refine RL.mv rfl rfl rfl ?_
   refine RL.mv rfl rfl rfl ?_
   refine RL.binI (v := .int .i64 (wadd (Int.tmod x0 x1) x1)) rfl rfl rfl rfl rfl ?_
   refine RL.asg rfl rfl rfl ?_
   refine RL.finG ?_
   cases h11
   exact fun a w st => mid_intro (wadd (Int.tmod x0 x1) x1) h12 (St.cut [] ⟨rfl, trivial⟩ (by decide) rfl st)
  replace h11 := ite_f b16 h11
  refine GL.skip ?_
  cases h11
  exact fun a w st => mid_intro (Int.tmod x0 x1) h12 (St.cut [] ⟨rfl, trivial⟩ (by decide) rfl st)
 rintro x8 h17
 have h18 := h13 _ h17
 try dsimp only at h18
 refine GL.weak (env' := [(0, .int .i64 x8)]) (L' := []) (fun _ _ st => st) ?_
 refine GL.seq ?_
 refine GL.region ?_
 refine RL.mv rfl rfl rfl ?_
 refine RL.asg rfl rfl rfl ?_
 refine RL.finG ?_
 have h18 := Option.some.inj h18
 subst h18
 exact GL.ret (Gx.ret (v := .int .i64 x8) (res1 rfl rfl) (fun a w st => st.toPostC rfl))

set_option maxHeartbeats 4000000 in
theorem pk_Within_c (S : Hp) (w : World) (hS : S.sub w) (x0 : Int) (x1 : Int) (res : Int) (hm : pk_Within_m x0 x1 = some res) : Calls Try.prog 18 #[.int .i64 x0, .int .i64 x1] w (PostC w (.int .i64 res)) := by
 refine calls_enter 8 Try.func18 Try.ntmps18 rfl S true [(0, .int .i64 x0), (1, .int .i64 x1)] [] rfl ⟨rfl, ⟨rfl, trivial⟩⟩ hS trivial ?_
 unfold pk_Within_m at hm
 refine GL.seq ?_
 refine GL.region ?_
 refine RL.asg rfl rfl rfl ?_
 refine RL.finG ?_
 refine GL.seq ?_
 refine GL.region ?_
 refine RL.mv rfl rfl rfl ?_
 refine RL.mv rfl rfl rfl ?_
 obtain ⟨y5, e6, hm⟩ := bind_some hm
 refine RL.callC (v := .int .i64 y5) (vs := [.int .i64 x0, .int .i64 x1]) Try_fit45 rfl rfl rfl rfl (fun U w hU hW hL => ref_Rest_c U w hU x0 x1 _ e6) ?_
 refine RL.asg rfl rfl rfl ?_
 refine RL.finG ?_
 have hm := Option.some.inj hm
 subst hm
 exact GL.ret (Gx.ret (v := .int .i64 y5) (res1 rfl rfl) (fun a w st => st.toPostC rfl))

set_option maxHeartbeats 4000000 in
theorem pk_GoodsOf_c (S : Hp) (w : World) (hS : S.sub w) (x0 : Int) (x1 : Int) (v2 : Value) (x2 : (List Int)) (k2 : ((TR.sl TR.int)).vrep S v2 x2) (res : (List (List Int))) (hm : pk_GoodsOf_m x0 x1 x2 = some res) : Calls Try.prog 23 #[.int .i64 x0, .int .i64 x1, v2] w (Post w S (fun (o : Value) => o) (fun (o : Value) => [own 34 (TR.sl TR.int) o res])) := by
 refine calls_enter 46 Try.func23 Try.ntmps23 rfl S false [(0, .int .i64 x0), (1, .int .i64 x1), (2, v2)] [imm (TR.sl TR.int) v2 x2] rfl ⟨rfl, ⟨rfl, ⟨rfl, trivial⟩⟩⟩ hS ⟨k2, trivial⟩ ?_
 unfold pk_GoodsOf_m at hm
 refine GL.seq ?_
 refine GL.region ?_
 refine RL.asg rfl rfl rfl ?_
 refine RL.finG ?_
 refine GL.seq ?_
 refine GL.region ?_
 refine RL.asg rfl rfl rfl ?_
 refine RL.finG ?_
 refine GL.seq ?_
 refine GL.seq ?_
 refine GL.region ?_
 refine RL.mv rfl rfl rfl ?_
 refine RL.mv rfl rfl rfl ?_
 refine RL.finG ?_
 refine GL.weak (fun a w st => st.nilOwn 34 (TR.sl TR.int)) ?_
 obtain ⟨y112, e113, hm⟩ := bind_some hm
 replace e113 := chk_some e113
 obtain ⟨y114, K115, h116, h117, h118, h119, h120⟩ := bindR_K hm
 refine GL.join (ι := (List (List Int)) × Value) (fun (p : (List (List Int)) × Value) => [(7, p.2)]) (fun (p : (List (List Int)) × Value) => [own 34 (TR.sl TR.int) p.2 p.1]) (fun (p : (List (List Int)) × Value) => K115 (.nx p.1)) ?_ ?_
 ·refine GL.block ?_
  refine GL.loop (ι := Nat × Nat × (List (List Int)) × Value) (fun (p : Nat × Nat × (List (List Int)) × Value) => [(1, .int .i64 x1), (2, v2), (7, p.2.2.2), (13, .int .i64 x0), (14, .int .i64 (p.1 : Int))]) (fun (p : Nat × Nat × (List (List Int)) × Value) => [imm (TR.sl TR.int) v2 x2, own 34 (TR.sl TR.int) p.2.2.2 p.2.2.1]) (fun (p : Nat × Nat × (List (List Int)) × Value) => p.1 + p.2.1 = (x0).toNat ∧ rangeN (pk_GoodsOf_b1 x1 x2) p.2.1 p.1 p.2.2.1 = some y114) (fun (p : Nat × Nat × (List (List Int)) × Value) => p.2.1) (0, (x0).toNat, [], Value.slice none 0 0) ⟨by simp, h116⟩ (fun a w st => St.cut [0, 1] ⟨rfl, rfl, rfl, rfl, rfl, trivial⟩ (by decide) rfl st) ?_
  rintro ⟨i121, r122, l4, v5⟩ ⟨h127, h126⟩
  try dsimp only at h127 h126
  refine GL.weak (env' := [(1, .int .i64 x1), (2, v2), (7, v5), (13, .int .i64 x0), (14, .int .i64 (i121 : Int))]) (L' := [imm (TR.sl TR.int) v2 x2, own 34 (TR.sl TR.int) v5 l4]) (fun _ _ st => st) ?_
  refine GL.seq ?_
  refine GL.region ?_
  refine RL.binI (v := .bool (decide ((i121 : Int) < x0))) rfl rfl rfl rfl rfl ?_
  refine RL.finG ?_
  refine GL.seq ?_
  refine GL.cond rfl (fun b129 => ?_) (fun b129 => ?_)
  ·have h130 : i121 < (x0).toNat := by have := of_decide_eq_true b129; omega
   obtain ⟨r131, hr⟩ : ∃ m, r122 = m + 1 := ⟨r122 - 1, by omega⟩
   subst hr
   obtain ⟨z123, h124, h125⟩ := rangeN_some h126
   unfold pk_GoodsOf_b1 at h124
   try dsimp only at h124
   refine GL.skip ?_
   refine GL.seq ?_
   refine GL.block ?_
   refine GL.seq ?_
   refine GL.region ?_
   refine RL.mv rfl rfl rfl ?_
   refine RL.asg rfl rfl rfl ?_
   refine RL.finG ?_
   refine GL.seq ?_
   refine GL.region ?_
   refine RL.asg rfl rfl rfl ?_
   refine RL.finG ?_
   refine GL.seq ?_
   refine GL.seq ?_
   refine GL.region ?_
   refine RL.mv rfl rfl rfl ?_
   refine RL.mv rfl rfl rfl ?_
   refine RL.finG ?_
   refine GL.weak (fun a w st => st.nilOwn 3 TR.int) ?_
   obtain ⟨y171, e172, h124⟩ := bind_some h124
   replace e172 := chk_some e172
   obtain ⟨y173, K174, h175, h176, h177, h178, h179⟩ := bindF_K h124
   refine GL.join (ι := (List Int) × Value) (fun (p : (List Int) × Value) => [(1, .int .i64 x1), (2, v2), (7, v5), (9, p.2), (13, .int .i64 x0), (14, .int .i64 (i121 : Int))]) (fun (p : (List Int) × Value) => [imm (TR.sl TR.int) v2 x2, own 34 (TR.sl TR.int) v5 l4, own 3 TR.int p.2 p.1]) (fun (p : (List Int) × Value) => K174 (.nx p.1)) ?_ ?_
   ·refine GL.block ?_
    refine GL.loop (ι := Nat × Nat × (List Int) × Value) (fun (p : Nat × Nat × (List Int) × Value) => [(1, .int .i64 x1), (2, v2), (7, v5), (8, .int .i64 (i121 : Int)), (9, p.2.2.2), (13, .int .i64 x0), (14, .int .i64 (i121 : Int)), (17, .int .i64 x1), (18, .int .i64 (p.1 : Int))]) (fun (p : Nat × Nat × (List Int) × Value) => [imm (TR.sl TR.int) v2 x2, own 34 (TR.sl TR.int) v5 l4, own 3 TR.int p.2.2.2 p.2.2.1]) (fun (p : Nat × Nat × (List Int) × Value) => p.1 + p.2.1 = (x1).toNat ∧ rangeN (pk_GoodsOf_b2 i121 x1 x2) p.2.1 p.1 p.2.2.1 = some y173) (fun (p : Nat × Nat × (List Int) × Value) => p.2.1) (0, (x1).toNat, [], Value.slice none 0 0) ⟨by simp, h175⟩ (fun a w st => St.cut [0, 1, 2] ⟨rfl, rfl, rfl, rfl, rfl, rfl, rfl, rfl, rfl, trivial⟩ (by decide) rfl st) ?_
    rintro ⟨i180, r181, l132, v133⟩ ⟨h186, h185⟩
    try dsimp only at h186 h185
    refine GL.weak (env' := [(1, .int .i64 x1), (2, v2), (7, v5), (8, .int .i64 (i121 : Int)), (9, v133), (13, .int .i64 x0), (14, .int .i64 (i121 : Int)), (17, .int .i64 x1), (18, .int .i64 (i180 : Int))]) (L' := [imm (TR.sl TR.int) v2 x2, own 34 (TR.sl TR.int) v5 l4, own 3 TR.int v133 l132]) (fun _ _ st => st) ?_
    refine GL.seq ?_
    refine GL.region ?_
    refine RL.binI (v := .bool (decide ((i180 : Int) < x1))) rfl rfl rfl rfl rfl ?_
    refine RL.finG ?_
    refine GL.seq ?_
    refine GL.cond rfl (fun b188 => ?_) (fun b188 => ?_)
    ·have h189 : i180 < (x1).toNat := by have := of_decide_eq_true b188; omega
     obtain ⟨r190, hr⟩ : ∃ m, r181 = m + 1 := ⟨r181 - 1, by omega⟩
     subst hr
     obtain ⟨z182, h183, h184⟩ := rangeN_some h185
     unfold pk_GoodsOf_b2 at h183
     try dsimp only at h183
     refine GL.skip ?_
     refine GL.seq ?_
     refine GL.block ?_
     refine GL.seq ?_
     refine GL.region ?_
     refine RL.mv rfl rfl rfl ?_
     refine RL.asg rfl rfl rfl ?_
     refine RL.finG ?_
     refine GL.seq ?_
     refine GL.region ?_
     refine RL.asg rfl rfl rfl ?_
     refine RL.finG ?_
     refine GL.seq ?_
     refine GL.seq ?_
     refine GL.region ?_
     refine RL.mv rfl rfl rfl ?_
     refine RL.mv rfl rfl rfl ?_
     refine RL.binI (v := .int .i64 (wmul (i121 : Int) x1)) rfl rfl rfl rfl rfl ?_
     refine RL.mv rfl rfl rfl ?_
     refine RL.binI (v := .int .i64 (wadd (wmul (i121 : Int) x1) (i180 : Int))) rfl rfl rfl rfl rfl ?_
     refine RL.asg rfl rfl rfl ?_
     refine RL.finG ?_
     refine GL.seq ?_
     refine GL.region ?_
     refine RL.mv rfl rfl rfl ?_
     refine RL.mv rfl rfl rfl ?_
     refine RL.lenS 0 Try.underlying34 rfl rfl rfl rfl SlOf.imm ?_
     refine RL.binI (v := .bool (decide ((wadd (wmul (i121 : Int) x1) (i180 : Int)) < ((x2).length : Int)))) rfl rfl rfl rfl rfl ?_
     refine RL.finG ?_
     obtain ⟨y201, K202, h203, h204, h205, h206, h207⟩ := bindF_K h183
     refine GL.join (ι := Int) (fun (p : Int) => [(1, .int .i64 x1), (2, v2), (7, v5), (8, .int .i64 (i121 : Int)), (9, v133), (11, .int .i64 p), (13, .int .i64 x0), (14, .int .i64 (i121 : Int)), (17, .int .i64 x1), (18, .int .i64 (i180 : Int))]) (fun (p : Int) => [imm (TR.sl TR.int) v2 x2, own 34 (TR.sl TR.int) v5 l4, own 3 TR.int v133 l132]) (fun (p : Int) => K202 (.nx p)) ?_ ?_
     ·skip
      refine GL.cond rfl (fun b208 => ?_) (fun b208 => ?_)
      ·replace h203 := ite_t b208 h203
       refine GL.region ?_
       refine RL.mv rfl rfl rfl ?_
       refine RL.mv rfl rfl rfl ?_
       obtain ⟨y213, e214, h203⟩ := bind_some h203
       refine RL.idxS (sz := 1) 0 Try.underlying34 Try_ln3 rfl rfl rfl rfl rfl SlOf.imm (idx_some e214).1 (idx_some e214).2.1 ?_
       refine RL.ldSx (i := (wadd (wmul (i121 : Int) x1) (i180 : Int)).toNat) (e' := y213) 0 Ex.ik Try_ln3 rfl rfl rfl rfl SlOf.imm (idx_some e214).2.2 Part.self ?_
       obtain ⟨y215, e216, h203⟩ := bind_some h203
       refine RL.callC (v := .int .i64 y215) (vs := [.int .i64 y213, .int .i64 (60 : Int)]) Try_fit18 rfl rfl rfl rfl (fun U w hU hW hL => pk_Within_c U w hU y213 (60 : Int) _ e216) ?_
       refine RL.asg rfl rfl rfl ?_
       refine RL.finG ?_
       cases h203
       exact fun a w st => mid_intro y215 h204 (St.cut [0, 1, 2] ⟨rfl, rfl, rfl, rfl, rfl, rfl, rfl, rfl, rfl, rfl, trivial⟩ (by decide) rfl st)
      replace h203 := ite_f b208 h203
      refine GL.skip ?_
      cases h203
      exact fun a w st => mid_intro (0 : Int) h204 (St.cut [0, 1, 2] ⟨rfl, rfl, rfl, rfl, rfl, rfl, rfl, rfl, rfl, rfl, trivial⟩ (by decide) rfl st)
     rintro x200 h217
     have h218 := h205 _ h217
     try dsimp only at h218
     refine GL.weak (env' := [(1, .int .i64 x1), (2, v2), (7, v5), (8, .int .i64 (i121 : Int)), (9, v133), (11, .int .i64 x200), (13, .int .i64 x0), (14, .int .i64 (i121 : Int)), (17, .int .i64 x1), (18, .int .i64 (i180 : Int))]) (L' := [imm (TR.sl TR.int) v2 x2, own 34 (TR.sl TR.int) v5 l4, own 3 TR.int v133 l132]) (fun _ _ st => st) ?_
     refine GL.region ?_
     refine RL.mv rfl rfl rfl ?_
     refine RL.mv rfl rfl rfl ?_
     refine RL.bS (t := TR.int) (vs := [.int .i64 x200]) ([x200] : (List Int)) Try.underlying34 Try_lo3 rfl rfl rfl rfl ⟨VR.int, trivial⟩ rfl (by decide) ?_
     intro v223
     obtain ⟨y224, e225, h218⟩ := bind_some h218
     replace e225 := chk_some e225
     refine RL.app 2 3 Try.underlying34 Try_lo3 rfl rfl rfl rfl rfl rfl rfl SlOf.own e225 ?_
     intro v226
     refine RL.reL (L' := [imm (TR.sl TR.int) v2 x2, own 34 (TR.sl TR.int) v5 l4, own 3 TR.int v226 (l132 ++ ([x200] : (List Int))), own 3 TR.int v223 ([x200] : (List Int))]) rfl ?_
     refine RL.asg rfl rfl rfl ?_
     refine RL.finG ?_
     refine GL.nilB ?_
     refine GL.region ?_
     refine RL.binI (v := .int .i64 ((i180 + 1 : Nat) : Int)) rfl rfl rfl rfl (binI_succ i180 (by omega)) ?_
     refine RL.mv rfl rfl rfl ?_
     refine RL.fin ?_
     cases h218
     exact fun a w st => lop_intro (i180 + 1, r190, (l132 ++ ([x200] : (List Int))), v226) ⟨by show i180 + 1 + r190 = (x1).toNat; omega, h184⟩ (by simp) (St.cut [0, 1, 2] ⟨rfl, rfl, rfl, rfl, rfl, rfl, rfl, rfl, rfl, trivial⟩ (by decide) rfl st)
    have h189 : ¬ i180 < (x1).toNat := by have := of_decide_eq_false b188; omega
    obtain rfl : r181 = 0 := by omega
    replace h185 : some (Fl.nx _) = some y173 := h185
    cases h185
    exact GL.exit (fun a w st => mid_intro (l132, v133) h176 (St.cut [0, 1, 2] ⟨rfl, rfl, rfl, rfl, rfl, rfl, trivial⟩ (by decide) rfl st))
   rintro ⟨l132, v133⟩ h227
   have h228 := h177 _ h227
   try dsimp only at h228
   refine GL.weak (env' := [(1, .int .i64 x1), (2, v2), (7, v5), (9, v133), (13, .int .i64 x0), (14, .int .i64 (i121 : Int))]) (L' := [imm (TR.sl TR.int) v2 x2, own 34 (TR.sl TR.int) v5 l4, own 3 TR.int v133 l132]) (fun _ _ st => st) ?_
   refine GL.region ?_
   refine RL.mv rfl rfl rfl ?_
   refine RL.mv rfl rfl rfl ?_
   refine RL.weak (fun a w st => st.freeze 2 rfl) ?_
   refine RL.bS (t := (TR.sl TR.int)) (vs := [v133]) ([l132] : (List (List Int))) Try.underlying42 Try_lo34 rfl rfl rfl rfl ⟨(VR.item 2 rfl), trivial⟩ rfl (by decide) ?_
   intro v233
   refine RL.reL (L' := [imm (TR.sl TR.int) v2 x2, own 34 (TR.sl TR.int) v5 l4, imm (TR.sl TR.int) v133 l132, own 34 (TR.sl TR.int) v233 ([l132] : (List (List Int)))]) rfl ?_
   obtain ⟨y234, e235, h228⟩ := bind_some h228
   replace e235 := chk_some e235
   refine RL.app 1 3 Try.underlying42 Try_lo34 rfl rfl rfl rfl rfl rfl rfl SlOf.own e235 ?_
   intro v236
   refine RL.asg rfl rfl rfl ?_
   refine RL.finG ?_
   refine GL.nilB ?_
   refine GL.region ?_
   refine RL.binI (v := .int .i64 ((i121 + 1 : Nat) : Int)) rfl rfl rfl rfl (binI_succ i121 (by omega)) ?_
   refine RL.mv rfl rfl rfl ?_
   refine RL.fin ?_
   cases h228
   exact fun a w st => lop_intro (i121 + 1, r131, (l4 ++ ([l132] : (List (List Int)))), v236) ⟨by show i121 + 1 + r131 = (x0).toNat; omega, h125⟩ (by simp) (St.cut [0, 1] ⟨rfl, rfl, rfl, rfl, rfl, trivial⟩ (by decide) rfl st)
  have h130 : ¬ i121 < (x0).toNat := by have := of_decide_eq_false b129; omega
  obtain rfl : r122 = 0 := by omega
  replace h126 : some (Fl.nx _) = some y114 := h126
  cases h126
  exact GL.exit (fun a w st => mid_intro (l4, v5) h117 (St.cut [1] ⟨rfl, trivial⟩ (by decide) rfl st))
 rintro ⟨l4, v5⟩ h237
 have h238 := h118 _ h237
 try dsimp only at h238
 refine GL.weak (env' := [(7, v5)]) (L' := [own 34 (TR.sl TR.int) v5 l4]) (fun _ _ st => st) ?_
 refine GL.seq ?_
 refine GL.region ?_
 refine RL.mv rfl rfl rfl ?_
 refine RL.asg rfl rfl rfl ?_
 refine RL.finG ?_
 have h238 := Option.some.inj h238
 subst h238
 exact GL.ret (Gx.ret (v := v5) (res1 rfl rfl) (fun a w st => (st.pick [0] (by decide) rfl).toPost v5))

set_option maxHeartbeats 4000000 in
theorem slices_Clone_rows_c (S : Hp) (w : World) (hS : S.sub w) (v0 : Value) (x0 : List (List Int)) (k0 : (TR.sl (TR.sl TR.int)).vrep S v0 x0) (res : List (List Int)) (hm : slices_Clone_rows_m x0 = some res) : Calls Try.prog 31 #[v0] w (Post w S (fun (o : Value) => o) (fun (o : Value) => [own 34 (TR.sl TR.int) o res])) := by
  refine calls_enter 8 Try.func31 Try.ntmps31 rfl S false [(0, v0)] [imm (TR.sl (TR.sl TR.int)) v0 x0] rfl ⟨rfl, trivial⟩ hS ⟨k0, trivial⟩ ?_
  unfold slices_Clone_rows_m at hm
  obtain ⟨_, hc, hm⟩ := bind_some hm
  replace hc := chk_some hc
  have hm := Option.some.inj hm
  subst hm
  refine GL.seq (GL.region (RL.asg rfl rfl rfl (RL.finG (GL.seq (GL.seq (GL.region ?_))))))
  refine RL.mv rfl rfl rfl ?_
  refine RL.eqNil 0 Try.underlying42 rfl rfl rfl rfl rfl SlOf.imm (fun b hb => ?_)
  refine RL.finG (GL.cond rfl (fun h => ?_) (fun h => ?_))
  · have := hb h
    subst this
    refine GL.seq (GL.region (RL.asg rfl rfl rfl (RL.finG ?_)))
    refine GL.weak (fun a w st => st.nilOwn 34 (TR.sl TR.int)) ?_
    exact GL.ret (Gx.ret (v := Value.slice none 0 0) (res1 rfl rfl) (fun a w st => (st.pick [1] (by decide) rfl).toPost (Value.slice none 0 0)))
  · refine GL.skip (GL.seq (GL.region ?_))
    refine RL.bS (t := (TR.sl TR.int)) (vs := []) ([] : List (List Int)) Try.underlying42 Try_lo34 rfl rfl rfl rfl trivial rfl (by decide) ?_
    intro v1
    refine RL.mv rfl rfl rfl ?_
    refine RL.app 1 0 Try.underlying42 Try_lo34 rfl rfl rfl rfl rfl rfl rfl SlOf.imm (by simpa using hc) ?_
    intro v2
    refine RL.asg rfl rfl rfl (RL.finG ?_)
    exact GL.ret (Gx.ret (v := v2) (res1 rfl rfl) (fun a w st => (st.pick [1] (by decide) rfl).toPost v2))

set_option maxHeartbeats 4000000 in
theorem pk_GrovesTruth_1_c (S : Hp) (w : World) (hS : S.sub w) (v0 : Value) (x0 : (List (List Int))) (k0 : ((TR.sl (TR.sl TR.int))).vrep S v0 x0) (v1 : Value) (x1 : Int) (k1 : ((TR.ptr TR.int)).vrep S v1 x1) (v2 : Value) (x2 : Int) (k2 : ((TR.ptr TR.int)).vrep S v2 x2) (v3 : Value) (x3 : Int) (k3 : ((TR.ptr TR.int)).vrep S v3 x3) (v4 : Value) (x4 : (List (List Int))) (k4 : ((TR.ptr (TR.sl (TR.sl TR.int)))).vrep S v4 x4) (res : Int × Bool) (hm : pk_GrovesTruth_1_m x0 x1 x2 x3 x4 = some res) : Calls Try.prog 32 #[v0, v1, v2, v3, v4] w (PostV w (.tuple #[.int .i64 res.1, .bool res.2])) := by
 refine calls_enter 81 Try.func32 Try.ntmps32 rfl S false [(0, v0), (1, v1), (2, v2), (3, v3), (4, v4)] [imm (TR.sl (TR.sl TR.int)) v0 x0, imm (TR.ptr TR.int) v1 x1, imm (TR.ptr TR.int) v2 x2, imm (TR.ptr TR.int) v3 x3, imm (TR.ptr (TR.sl (TR.sl TR.int))) v4 x4] rfl ⟨rfl, ⟨rfl, ⟨rfl, ⟨rfl, ⟨rfl, trivial⟩⟩⟩⟩⟩ hS ⟨k0, ⟨k1, ⟨k2, ⟨k3, ⟨k4, trivial⟩⟩⟩⟩⟩ ?_
 unfold pk_GrovesTruth_1_m at hm
 refine GL.seq ?_
 refine GL.region ?_
 refine RL.asg rfl rfl rfl ?_
 refine RL.asg rfl rfl rfl ?_
 refine RL.finG ?_
 refine GL.seq ?_
 refine GL.region ?_
 refine RL.mv rfl rfl rfl ?_
 obtain ⟨y9, e10, hm⟩ := bind_some hm
 refine RL.call (vs := [v0]) Try_fit24 rfl rfl rfl rfl rfl (fun S f w hS hW hi => groves_Share_c S w hS _ _ (hi 0 _ rfl) _ e10) ?_
 intro v11
 refine RL.mv rfl rfl rfl ?_
 refine RL.ext rfl rfl rfl rfl ?_
 refine RL.ext rfl rfl rfl rfl ?_
 refine RL.ext rfl rfl rfl rfl ?_
 refine RL.asg rfl rfl rfl ?_
 refine RL.asg rfl rfl rfl ?_
 refine RL.asg rfl rfl rfl ?_
 refine RL.finG ?_
 refine GL.seq ?_
 refine GL.region ?_
 refine RL.mv rfl rfl rfl ?_
 obtain ⟨y15, e16, hm⟩ := bind_some hm
 refine RL.call (vs := [v0]) Try_fit25 rfl rfl rfl rfl rfl (fun S f w hS hW hi => groves_Pays_c S w hS _ _ (hi 0 _ rfl) _ e16) ?_
 intro v17
 refine RL.reL (L' := [imm (TR.sl (TR.sl TR.int)) v0 x0, imm (TR.ptr TR.int) v1 x1, imm (TR.ptr TR.int) v2 x2, imm (TR.ptr TR.int) v3 x3, imm (TR.ptr (TR.sl (TR.sl TR.int))) v4 x4, own 3 TR.int v11 y9.1, own 3 TR.int v17 y15.1]) rfl ?_
 refine RL.mv rfl rfl rfl ?_
 refine RL.ext rfl rfl rfl rfl ?_
 refine RL.ext rfl rfl rfl rfl ?_
 refine RL.asg rfl rfl rfl ?_
 refine RL.asg rfl rfl rfl ?_
 refine RL.finG ?_
 refine GL.seq ?_
 refine GL.seq ?_
 obtain ⟨y41, K42, h43, h44, h45, h46, h47⟩ := bindR_K hm
 refine GL.join (ι := Bool) (fun (p : Bool) => [(2, v2), (4, v4), (8, v11), (11, v17), (55, .bool p)]) (fun (p : Bool) => [imm (TR.ptr TR.int) v2 x2, imm (TR.ptr (TR.sl (TR.sl TR.int))) v4 x4, own 3 TR.int v11 y9.1, own 3 TR.int v17 y15.1]) (fun (p : Bool) => K42 (.nx p)) ?_ ?_
 ·skip
  refine GL.regionA rfl rfl ?_
  refine RA.mv 0 rfl (by kernel_rfl) rfl rfl rfl ?_
  refine RA.mv 1 rfl (by kernel_rfl) rfl rfl rfl ?_
  refine RA.seq 2 rfl (by kernel_rfl) ?_
  refine RL.bS (t := TR.int) (vs := [.int .i64 y9.2.2, .int .i64 y15.2]) ([y9.2.2, y15.2] : (List Int)) Try.underlying80 Try_lo24 rfl rfl rfl rfl ⟨VR.int, ⟨VR.int, trivial⟩⟩ rfl (by decide) ?_
  intro v48
  refine RL.fin ?_
  refine RA.next ?_
  refine RA.quiet 3 rfl rfl (by kernel_rfl) ?_
  simp only [List.drop_succ_cons, List.drop_zero]
  obtain ⟨y49, e50, h43⟩ := bind_some h43
  refine RL.callV (v := .bool y49) (vs := [v48]) Try_fit26 rfl (Or.inr ⟨_, rfl⟩) rfl rfl rfl rfl (fun U w hU hW hL => pk_good_c U w hU _ _ (hL 7 _ _ rfl Seen.own) _ e50) ?_
  refine RL.notB rfl rfl rfl ?_
  refine RL.mv rfl rfl rfl ?_
  refine RL.split (t := 29) rfl (fun b51 => ?_) (fun b51 => ?_)
  ·replace h43 := ite_t b51 h43
   refine RL.skip rfl rfl ?_
   refine RL.skip rfl rfl ?_
   refine RL.skip rfl rfl ?_
   refine RL.skip rfl rfl ?_
   refine RL.pickT rfl rfl rfl rfl ?_
   refine RL.mv rfl rfl rfl ?_
   refine RL.skip rfl rfl ?_
   refine RL.skip rfl rfl ?_
   refine RL.skip rfl rfl ?_
   refine RL.skip rfl rfl ?_
   refine RL.pickT rfl rfl rfl rfl ?_
   refine RL.mv rfl rfl rfl ?_
   refine RL.skip rfl rfl ?_
   refine RL.skip rfl rfl ?_
   refine RL.skip rfl rfl ?_
   refine RL.skip rfl rfl ?_
   refine RL.skip rfl rfl ?_
   refine RL.pickT rfl rfl rfl rfl ?_
   refine RL.mv rfl rfl rfl ?_
   refine RL.skip rfl rfl ?_
   refine RL.skip rfl rfl ?_
   refine RL.skip rfl rfl ?_
   refine RL.skip rfl rfl ?_
   refine RL.skip rfl rfl ?_
   refine RL.skip rfl rfl ?_
   refine RL.pickT rfl rfl rfl rfl ?_
   refine RL.finQ ?_
   refine RA.outQ ?_
   refine GL.nil ?_
   cases h43
   exact fun a w st => mid_intro true h44 (St.cut [2, 4, 5, 6] ⟨rfl, rfl, rfl, rfl, rfl, trivial⟩ (by decide) rfl st)
  replace h43 := ite_f b51 h43
  refine RL.mv rfl rfl rfl ?_
  refine RL.lenS 5 Try.underlying34 rfl rfl rfl rfl SlOf.own ?_
  refine RL.ldPx (off := 0) (e' := x1) 1 Ex.ik Try_ln3 rfl rfl (Or.inr ⟨rfl, rfl⟩) rfl PtOf.imm Part.self ?_
  refine RL.binI (v := .bool (((y9.1).length : Int) != x1)) rfl rfl rfl rfl rfl ?_
  refine RL.pickF rfl rfl rfl rfl ?_
  refine RL.mv rfl rfl rfl ?_
  refine RL.split (t := 35) rfl (fun b52 => ?_) (fun b52 => ?_)
  ·replace h43 := ite_t b52 h43
   refine RL.skip rfl rfl ?_
   refine RL.skip rfl rfl ?_
   refine RL.skip rfl rfl ?_
   refine RL.skip rfl rfl ?_
   refine RL.pickT rfl rfl rfl rfl ?_
   refine RL.mv rfl rfl rfl ?_
   refine RL.skip rfl rfl ?_
   refine RL.skip rfl rfl ?_
   refine RL.skip rfl rfl ?_
   refine RL.skip rfl rfl ?_
   refine RL.skip rfl rfl ?_
   refine RL.pickT rfl rfl rfl rfl ?_
   refine RL.mv rfl rfl rfl ?_
   refine RL.skip rfl rfl ?_
   refine RL.skip rfl rfl ?_
   refine RL.skip rfl rfl ?_
   refine RL.skip rfl rfl ?_
   refine RL.skip rfl rfl ?_
   refine RL.skip rfl rfl ?_
   refine RL.pickT rfl rfl rfl rfl ?_
   refine RL.finQ ?_
   refine RA.outQ ?_
   refine GL.nil ?_
   cases h43
   exact fun a w st => mid_intro true h44 (St.cut [2, 4, 5, 6] ⟨rfl, rfl, rfl, rfl, rfl, trivial⟩ (by decide) rfl st)
  replace h43 := ite_f b52 h43
  refine RL.mv rfl rfl rfl ?_
  refine RL.lenS 6 Try.underlying34 rfl rfl rfl rfl SlOf.own ?_
  refine RL.ldPx (off := 0) (e' := x1) 1 Ex.ik Try_ln3 rfl rfl (Or.inr ⟨rfl, rfl⟩) rfl PtOf.imm Part.self ?_
  refine RL.binI (v := .bool (((y15.1).length : Int) != x1)) rfl rfl rfl rfl rfl ?_
  refine RL.pickF rfl rfl rfl rfl ?_
  refine RL.mv rfl rfl rfl ?_
  refine RL.split (t := 41) rfl (fun b53 => ?_) (fun b53 => ?_)
  ·replace h43 := ite_t b53 h43
   refine RL.skip rfl rfl ?_
   refine RL.skip rfl rfl ?_
   refine RL.skip rfl rfl ?_
   refine RL.skip rfl rfl ?_
   refine RL.skip rfl rfl ?_
   refine RL.pickT rfl rfl rfl rfl ?_
   refine RL.mv rfl rfl rfl ?_
   refine RL.skip rfl rfl ?_
   refine RL.skip rfl rfl ?_
   refine RL.skip rfl rfl ?_
   refine RL.skip rfl rfl ?_
   refine RL.skip rfl rfl ?_
   refine RL.skip rfl rfl ?_
   refine RL.pickT rfl rfl rfl rfl ?_
   refine RL.finQ ?_
   refine RA.outQ ?_
   refine GL.nil ?_
   cases h43
   exact fun a w st => mid_intro true h44 (St.cut [2, 4, 5, 6] ⟨rfl, rfl, rfl, rfl, rfl, trivial⟩ (by decide) rfl st)
  replace h43 := ite_f b53 h43
  refine RL.mv rfl rfl rfl ?_
  refine RL.ldPx (off := 0) (e' := x2) 2 Ex.ik Try_ln3 rfl rfl (Or.inr ⟨rfl, rfl⟩) rfl PtOf.imm Part.self ?_
  obtain ⟨y54, e55, h43⟩ := bind_some h43
  refine RL.idxS (sz := 1) 5 Try.underlying34 Try_ln3 rfl rfl rfl rfl rfl SlOf.own (idx_some e55).1 (idx_some e55).2.1 ?_
  refine RL.ldSx (i := (x2).toNat) (e' := y54) 5 Ex.ik Try_ln3 rfl rfl rfl rfl SlOf.own (idx_some e55).2.2 Part.self ?_
  refine RL.binI (v := .bool (decide (y54 < (-1 : Int)))) rfl rfl rfl rfl rfl ?_
  refine RL.pickF rfl rfl rfl rfl ?_
  refine RL.mv rfl rfl rfl ?_
  refine RL.split (t := 48) rfl (fun b56 => ?_) (fun b56 => ?_)
  ·replace h43 := ite_t b56 h43
   refine RL.skip rfl rfl ?_
   refine RL.skip rfl rfl ?_
   refine RL.skip rfl rfl ?_
   refine RL.skip rfl rfl ?_
   refine RL.skip rfl rfl ?_
   refine RL.skip rfl rfl ?_
   refine RL.pickT rfl rfl rfl rfl ?_
   refine RL.finQ ?_
   refine RA.outQ ?_
   refine GL.nil ?_
   cases h43
   exact fun a w st => mid_intro true h44 (St.cut [2, 4, 5, 6] ⟨rfl, rfl, rfl, rfl, rfl, trivial⟩ (by decide) rfl st)
  replace h43 := ite_f b56 h43
  refine RL.mv rfl rfl rfl ?_
  refine RL.ldPx (off := 0) (e' := x2) 2 Ex.ik Try_ln3 rfl rfl (Or.inr ⟨rfl, rfl⟩) rfl PtOf.imm Part.self ?_
  obtain ⟨y57, e58, h43⟩ := bind_some h43
  refine RL.idxS (sz := 1) 5 Try.underlying34 Try_ln3 rfl rfl rfl rfl rfl SlOf.own (idx_some e58).1 (idx_some e58).2.1 ?_
  refine RL.ldSx (i := (x2).toNat) (e' := y57) 5 Ex.ik Try_ln3 rfl rfl rfl rfl SlOf.own (idx_some e58).2.2 Part.self ?_
  refine RL.ldPx (off := 0) (e' := x3) 3 Ex.ik Try_ln3 rfl rfl (Or.inr ⟨rfl, rfl⟩) rfl PtOf.imm Part.self ?_
  refine RL.binI (v := .bool (decide (y57 ≥ x3))) rfl rfl rfl rfl rfl ?_
  refine RL.pickF rfl rfl rfl rfl ?_
  refine RL.finQ ?_
  refine RA.outQ ?_
  refine GL.nil ?_
  cases h43
  exact fun a w st => mid_intro (decide (y57 ≥ x3)) h44 (St.cut [2, 4, 5, 6] ⟨rfl, rfl, rfl, rfl, rfl, trivial⟩ (by decide) rfl st)
 rintro x40 h59
 have h60 := h45 _ h59
 try dsimp only at h60
 refine GL.weak (env' := [(2, v2), (4, v4), (8, v11), (11, v17), (55, .bool x40)]) (L' := [imm (TR.ptr TR.int) v2 x2, imm (TR.ptr (TR.sl (TR.sl TR.int))) v4 x4, own 3 TR.int v11 y9.1, own 3 TR.int v17 y15.1]) (fun _ _ st => st) ?_
 refine GL.cond rfl (fun b61 => ?_) (fun b61 => ?_)
 ·replace h60 := ite_t b61 h60
  refine GL.seq ?_
  refine GL.region ?_
  refine RL.asg rfl rfl rfl ?_
  refine RL.asg rfl rfl rfl ?_
  refine RL.finG ?_
  have h60 := Option.some.inj h60
  subst h60
  exact GL.ret (Gx.ret (v := .tuple #[.int .i64 (0 : Int), .bool false]) (res2 rfl rfl rfl) (fun a w st => st.toPostV))
 replace h60 := ite_f b61 h60
 refine GL.skip ?_
 refine GL.seq ?_
 refine GL.seq ?_
 refine GL.region ?_
 refine RL.mv rfl rfl rfl ?_
 refine RL.ldPx (off := 0) (e' := x2) 0 Ex.ik Try_ln3 rfl rfl (Or.inr ⟨rfl, rfl⟩) rfl PtOf.imm Part.self ?_
 obtain ⟨y64, e65, h60⟩ := bind_some h60
 refine RL.idxS (sz := 1) 2 Try.underlying34 Try_ln3 rfl rfl rfl rfl rfl SlOf.own (idx_some e65).1 (idx_some e65).2.1 ?_
 refine RL.ldSx (i := (x2).toNat) (e' := y64) 2 Ex.ik Try_ln3 rfl rfl rfl rfl SlOf.own (idx_some e65).2.2 Part.self ?_
 refine RL.binI (v := .bool (decide (y64 < (0 : Int)))) rfl rfl rfl rfl rfl ?_
 refine RL.finG ?_
 refine GL.cond rfl (fun b66 => ?_) (fun b66 => ?_)
 ·replace h60 := ite_t b66 h60
  refine GL.seq ?_
  refine GL.region ?_
  refine RL.mv rfl rfl rfl ?_
  refine RL.ldPx (off := 0) (e' := x2) 0 Ex.ik Try_ln3 rfl rfl (Or.inr ⟨rfl, rfl⟩) rfl PtOf.imm Part.self ?_
  obtain ⟨y69, e70, h60⟩ := bind_some h60
  refine RL.idxS (sz := 1) 3 Try.underlying34 Try_ln3 rfl rfl rfl rfl rfl SlOf.own (idx_some e70).1 (idx_some e70).2.1 ?_
  refine RL.ldSx (i := (x2).toNat) (e' := y69) 3 Ex.ik Try_ln3 rfl rfl rfl rfl SlOf.own (idx_some e70).2.2 Part.self ?_
  refine RL.negI rfl rfl rfl ?_
  refine RL.asg rfl rfl rfl ?_
  refine RL.asg rfl rfl rfl ?_
  refine RL.finG ?_
  have h60 := Option.some.inj h60
  subst h60
  exact GL.ret (Gx.ret (v := .tuple #[.int .i64 (wsub 0 y69), .bool true]) (res2 rfl rfl rfl) (fun a w st => st.toPostV))
 replace h60 := ite_f b66 h60
 refine GL.skip ?_
 refine GL.seq ?_
 refine GL.regionQ rfl rfl (by kernel_rfl) ?_
 refine RL.ldP (off := 0) (r := (TR.sl (TR.sl TR.int))) (e' := x4) 1 Try_ln42 rfl rfl (Or.inr ⟨rfl, rfl⟩) rfl PtOf.imm Part.self ?_
 intro v81
 refine RL.ldPx (off := 0) (e' := x2) 0 Ex.ik Try_ln3 rfl rfl (Or.inr ⟨rfl, rfl⟩) rfl PtOf.imm Part.self ?_
 obtain ⟨y82, e83, h60⟩ := bind_some h60
 refine RL.idxS (sz := 1) 4 Try.underlying42 Try_ln34 rfl rfl rfl rfl rfl SlOf.imm (idx_some e83).1 (idx_some e83).2.1 ?_
 refine RL.ldS (i := (x2).toNat) (r := (TR.sl TR.int)) (e' := y82) 4 Try_ln34 rfl rfl rfl rfl SlOf.imm (idx_some e83).2.2 Part.self ?_
 intro v84
 refine RL.reL (L' := [imm (TR.ptr TR.int) v2 x2, imm (TR.ptr (TR.sl (TR.sl TR.int))) v4 x4, own 3 TR.int v11 y9.1, own 3 TR.int v17 y15.1, imm (TR.sl (TR.sl TR.int)) v81 x4, imm (TR.sl TR.int) v84 y82]) rfl ?_
 refine RL.mv rfl rfl rfl ?_
 refine RL.ldPx (off := 0) (e' := x2) 0 Ex.ik Try_ln3 rfl rfl (Or.inr ⟨rfl, rfl⟩) rfl PtOf.imm Part.self ?_
 obtain ⟨y85, e86, h60⟩ := bind_some h60
 refine RL.idxS (sz := 1) 2 Try.underlying34 Try_ln3 rfl rfl rfl rfl rfl SlOf.own (idx_some e86).1 (idx_some e86).2.1 ?_
 refine RL.ldSx (i := (x2).toNat) (e' := y85) 2 Ex.ik Try_ln3 rfl rfl rfl rfl SlOf.own (idx_some e86).2.2 Part.self ?_
 obtain ⟨y87, e88, h60⟩ := bind_some h60
 refine RL.idxS (sz := 1) 5 Try.underlying34 Try_ln3 rfl rfl rfl rfl rfl SlOf.imm (idx_some e88).1 (idx_some e88).2.1 ?_
 refine RL.ldSx (i := (y85).toNat) (e' := y87) 5 Ex.ik Try_ln3 rfl rfl rfl rfl SlOf.imm (idx_some e88).2.2 Part.self ?_
 refine RL.mv rfl rfl rfl ?_
 refine RL.ldPx (off := 0) (e' := x2) 0 Ex.ik Try_ln3 rfl rfl (Or.inr ⟨rfl, rfl⟩) rfl PtOf.imm Part.self ?_
 obtain ⟨y89, e90, h60⟩ := bind_some h60
 refine RL.idxS (sz := 1) 3 Try.underlying34 Try_ln3 rfl rfl rfl rfl rfl SlOf.own (idx_some e90).1 (idx_some e90).2.1 ?_
 refine RL.ldSx (i := (x2).toNat) (e' := y89) 3 Ex.ik Try_ln3 rfl rfl rfl rfl SlOf.own (idx_some e90).2.2 Part.self ?_
 refine RL.binI (v := .int .i64 (wsub y87 y89)) rfl rfl rfl rfl rfl ?_
 refine RL.asg rfl rfl rfl ?_
 refine RL.asg rfl rfl rfl ?_
 refine RL.finQG ?_
 refine GL.weak (env' := [(6, .int .i64 (wsub y87 y89)), (7, .bool true)]) (L' := []) (fun a w st => St.cut [] ⟨rfl, rfl, trivial⟩ (by decide) rfl st) ?_
 have h60 := Option.some.inj h60
 subst h60
 exact GL.ret (Gx.ret (v := .tuple #[.int .i64 (wsub y87 y89), .bool true]) (res2 rfl rfl rfl) (fun a w st => st.toPostV))

set_option maxHeartbeats 4000000 in
theorem pk_GrovesTruth_c (S : Hp) (w : World) (hS : S.sub w) (x0 : Int) (x1 : Int) (v2 : Value) (x2 : (List Int)) (k2 : ((TR.sl TR.int)).vrep S v2 x2) (x3 : Int) (v4 : Value) (x4 : (List Int)) (k4 : ((TR.sl TR.int)).vrep S v4 x4) (res : Bool) (hm : pk_GrovesTruth_m x0 x1 x2 x3 x4 = some res) : Calls Try.prog 9 #[.int .i64 x0, .int .i64 x1, v2, .int .i64 x3, v4] w (PostV w (.bool res)) := by
 refine calls_enter 69 Try.func9 Try.ntmps9 rfl S false [(0, .int .i64 x0), (1, .int .i64 x1), (2, v2), (3, .int .i64 x3), (4, v4)] [imm (TR.sl TR.int) v2 x2, imm (TR.sl TR.int) v4 x4] rfl ⟨rfl, ⟨rfl, ⟨rfl, ⟨rfl, ⟨rfl, trivial⟩⟩⟩⟩⟩ hS ⟨k2, ⟨k4, trivial⟩⟩ ?_
 unfold pk_GrovesTruth_m at hm
 refine GL.seq ?_
 refine GL.region ?_
 refine RL.box (t := TR.int) (e := x0) rfl rfl rfl rfl VR.int ?_
 intro v9
 refine RL.box (t := TR.int) (e := x1) rfl rfl rfl rfl VR.int ?_
 intro v10
 refine RL.reL (L' := [imm (TR.sl TR.int) v2 x2, imm (TR.sl TR.int) v4 x4, obox 3 TR.int v9 x0, obox 3 TR.int v10 x1]) rfl ?_
 refine RL.box (t := TR.int) (e := x3) rfl rfl rfl rfl VR.int ?_
 intro v11
 refine RL.asg rfl rfl rfl ?_
 refine RL.finG ?_
 refine GL.seq ?_
 refine GL.seq ?_
 refine GL.region ?_
 obtain ⟨y14, e15, hm⟩ := bind_some hm
 refine RL.callV (v := .bool y14) (vs := []) Try_fit22 rfl (Or.inl rfl) rfl rfl rfl rfl (fun U w hU hW hL => pk_vickreys_c U w hU  _ e15) ?_
 refine RL.notB rfl rfl rfl ?_
 refine RL.finG ?_
 refine GL.cond rfl (fun b16 => ?_) (fun b16 => ?_)
 ·replace hm := ite_t b16 hm
  refine GL.seq ?_
  refine GL.region ?_
  refine RL.asg rfl rfl rfl ?_
  refine RL.finG ?_
  have hm := Option.some.inj hm
  subst hm
  exact GL.ret (Gx.ret (v := .bool false) (res1 rfl rfl) (fun a w st => st.toPostV))
 replace hm := ite_f b16 hm
 refine GL.skip ?_
 refine GL.seq ?_
 refine GL.regionA rfl rfl ?_
 obtain ⟨y26, e27, hm⟩ := bind_some hm
 refine RA.meet (ι := Unit) (fun (p : Unit) => [(2, v2), (4, v4), (5, v9), (6, v10), (8, v11), (22, .int .i64 (wadd (1 : Int) y26)), (23, .int .i64 x1)]) (fun (p : Unit) => [imm (TR.sl TR.int) v2 x2, imm (TR.sl TR.int) v4 x4, obox 3 TR.int v9 x0, obox 3 TR.int v10 x1, obox 3 TR.int v11 x3]) 4 #[true, true, true, true, false, false, false, false] (fun h28 => ?_) ?_
 ·skip
  refine RA.meet (ι := Unit) (fun (p : Unit) => [(2, v2), (4, v4), (5, v9), (6, v10), (8, v11), (22, .int .i64 (wadd (1 : Int) y26))]) (fun (p : Unit) => [imm (TR.sl TR.int) v2 x2, imm (TR.sl TR.int) v4 x4, obox 3 TR.int v9 x0, obox 3 TR.int v10 x1, obox 3 TR.int v11 x3]) 5 #[true, true, true, false, false, false, false, false] (fun h29 => ?_) ?_
  rotate_left
  ·rintro ⟨⟩
   refine RA.weak (env' := [(2, v2), (4, v4), (5, v9), (6, v10), (8, v11), (22, .int .i64 (wadd (1 : Int) y26))]) (L' := [imm (TR.sl TR.int) v2 x2, imm (TR.sl TR.int) v4 x4, obox 3 TR.int v9 x0, obox 3 TR.int v10 x1, obox 3 TR.int v11 x3]) (fun _ _ st => st) ?_
   refine RA.seq 3 rfl (by kernel_rfl) ?_
   refine RL.ldPx (off := 0) (e' := x1) 3 Ex.ik Try_ln3 rfl rfl (Or.inr ⟨rfl, rfl⟩) rfl PtOf.obox Part.self ?_
   refine RL.fin ?_
   refine RA.next ?_
   refine RA.relist 4 #[true, true, true, true, false, false, false, false] rfl (by kernel_rfl) ?_
   exact fun a w st => h28 () a w (St.cut [0, 1, 2, 3, 4] ⟨rfl, rfl, rfl, rfl, rfl, rfl, rfl, trivial⟩ (by decide) rfl st)
  refine RA.meet (ι := Unit) (fun (p : Unit) => [(2, v2), (4, v4), (5, v9), (6, v10), (8, v11), (20, .int .i64 x0), (23, .int .i64 x1)]) (fun (p : Unit) => [imm (TR.sl TR.int) v2 x2, imm (TR.sl TR.int) v4 x4, obox 3 TR.int v9 x0, obox 3 TR.int v10 x1, obox 3 TR.int v11 x3]) 6 #[true, false, false, true, false, false, false, false] (fun h30 => ?_) ?_
  rotate_left
  ·rintro ⟨⟩
   refine RA.weak (env' := [(2, v2), (4, v4), (5, v9), (6, v10), (8, v11), (20, .int .i64 x0), (23, .int .i64 x1)]) (L' := [imm (TR.sl TR.int) v2 x2, imm (TR.sl TR.int) v4 x4, obox 3 TR.int v9 x0, obox 3 TR.int v10 x1, obox 3 TR.int v11 x3]) (fun _ _ st => st) ?_
   refine RA.seq 1 rfl (by kernel_rfl) ?_
   refine RL.callC (v := .int .i64 y26) (vs := [.int .i64 x0, .int .i64 (4 : Int)]) Try_fit18 rfl rfl rfl rfl (fun U w hU hW hL => pk_Within_c U w hU x0 (4 : Int) _ e27) ?_
   refine RL.fin ?_
   refine RA.next ?_
   refine RA.binI (v := .int .i64 (wadd (1 : Int) y26)) 2 rfl (by kernel_rfl) rfl rfl rfl rfl rfl ?_
   refine RA.relist 4 #[true, true, true, true, false, false, false, false] rfl (by kernel_rfl) ?_
   exact fun a w st => h28 () a w (St.cut [0, 1, 2, 3, 4] ⟨rfl, rfl, rfl, rfl, rfl, rfl, rfl, trivial⟩ (by decide) rfl st)
  refine RA.meet (ι := Unit) (fun (p : Unit) => [(2, v2), (4, v4), (5, v9), (6, v10), (8, v11), (23, .int .i64 x1)]) (fun (p : Unit) => [imm (TR.sl TR.int) v2 x2, imm (TR.sl TR.int) v4 x4, obox 3 TR.int v9 x0, obox 3 TR.int v10 x1, obox 3 TR.int v11 x3]) 7 #[false, false, false, true, false, false, false, false] (fun h31 => ?_) ?_
  rotate_left
  ·rintro ⟨⟩
   refine RA.weak (env' := [(2, v2), (4, v4), (5, v9), (6, v10), (8, v11), (23, .int .i64 x1)]) (L' := [imm (TR.sl TR.int) v2 x2, imm (TR.sl TR.int) v4 x4, obox 3 TR.int v9 x0, obox 3 TR.int v10 x1, obox 3 TR.int v11 x3]) (fun _ _ st => st) ?_
   refine RA.seq 0 rfl (by kernel_rfl) ?_
   refine RL.ldPx (off := 0) (e' := x0) 2 Ex.ik Try_ln3 rfl rfl (Or.inr ⟨rfl, rfl⟩) rfl PtOf.obox Part.self ?_
   refine RL.fin ?_
   refine RA.next ?_
   refine RA.relist 6 #[true, false, false, true, false, false, false, false] rfl (by kernel_rfl) ?_
   exact fun a w st => h30 () a w (St.cut [0, 1, 2, 3, 4] ⟨rfl, rfl, rfl, rfl, rfl, rfl, rfl, trivial⟩ (by decide) rfl st)
  refine RA.meet (ι := Unit) (fun (p : Unit) => [(2, v2), (4, v4), (5, v9), (6, v10), (8, v11), (20, .int .i64 x0)]) (fun (p : Unit) => [imm (TR.sl TR.int) v2 x2, imm (TR.sl TR.int) v4 x4, obox 3 TR.int v9 x0, obox 3 TR.int v10 x1, obox 3 TR.int v11 x3]) 7 #[true, false, false, false, false, false, false, false] (fun h32 => ?_) ?_
  rotate_left
  ·rintro ⟨⟩
   refine RA.weak (env' := [(2, v2), (4, v4), (5, v9), (6, v10), (8, v11), (20, .int .i64 x0)]) (L' := [imm (TR.sl TR.int) v2 x2, imm (TR.sl TR.int) v4 x4, obox 3 TR.int v9 x0, obox 3 TR.int v10 x1, obox 3 TR.int v11 x3]) (fun _ _ st => st) ?_
   refine RA.many [1, 3] (by kernel_rfl) ⟨⟨_, rfl, ?_⟩, ⟨_, rfl, ?_⟩, trivial⟩
   ·skip
    refine RL.callC (v := .int .i64 y26) (vs := [.int .i64 x0, .int .i64 (4 : Int)]) Try_fit18 rfl rfl rfl rfl (fun U w hU hW hL => pk_Within_c U w hU x0 (4 : Int) _ e27) ?_
    refine RL.fin ?_
    refine RA.next ?_
    refine RA.binI (v := .int .i64 (wadd (1 : Int) y26)) 2 rfl (by kernel_rfl) rfl rfl rfl rfl rfl ?_
    refine RA.relist 5 #[true, true, true, false, false, false, false, false] rfl (by kernel_rfl) ?_
    exact fun a w st => h29 () a w (St.cut [0, 1, 2, 3, 4] ⟨rfl, rfl, rfl, rfl, rfl, rfl, trivial⟩ (by decide) rfl st)
   refine RL.ldPx (off := 0) (e' := x1) 3 Ex.ik Try_ln3 rfl rfl (Or.inr ⟨rfl, rfl⟩) rfl PtOf.obox Part.self ?_
   refine RL.fin ?_
   refine RA.next ?_
   refine RA.relist 6 #[true, false, false, true, false, false, false, false] rfl (by kernel_rfl) ?_
   exact fun a w st => h30 () a w (St.cut [0, 1, 2, 3, 4] ⟨rfl, rfl, rfl, rfl, rfl, rfl, rfl, trivial⟩ (by decide) rfl st)
  refine RA.many [0, 3] (by kernel_rfl) ⟨⟨_, rfl, ?_⟩, ⟨_, rfl, ?_⟩, trivial⟩
  ·skip
   refine RL.ldPx (off := 0) (e' := x0) 2 Ex.ik Try_ln3 rfl rfl (Or.inr ⟨rfl, rfl⟩) rfl PtOf.obox Part.self ?_
   refine RL.fin ?_
   refine RA.next ?_
   refine RA.relist 7 #[true, false, false, false, false, false, false, false] rfl (by kernel_rfl) ?_
   exact fun a w st => h32 () a w (St.cut [0, 1, 2, 3, 4] ⟨rfl, rfl, rfl, rfl, rfl, rfl, trivial⟩ (by decide) rfl st)
  refine RL.ldPx (off := 0) (e' := x1) 3 Ex.ik Try_ln3 rfl rfl (Or.inr ⟨rfl, rfl⟩) rfl PtOf.obox Part.self ?_
  refine RL.fin ?_
  refine RA.next ?_
  refine RA.relist 7 #[false, false, false, true, false, false, false, false] rfl (by kernel_rfl) ?_
  exact fun a w st => h31 () a w (St.cut [0, 1, 2, 3, 4] ⟨rfl, rfl, rfl, rfl, rfl, rfl, trivial⟩ (by decide) rfl st)
 rintro ⟨⟩
 refine RA.weak (env' := [(2, v2), (4, v4), (5, v9), (6, v10), (8, v11), (22, .int .i64 (wadd (1 : Int) y26)), (23, .int .i64 x1)]) (L' := [imm (TR.sl TR.int) v2 x2, imm (TR.sl TR.int) v4 x4, obox 3 TR.int v9 x0, obox 3 TR.int v10 x1, obox 3 TR.int v11 x3]) (fun _ _ st => st) ?_
 refine RA.seq 4 rfl (by kernel_rfl) ?_
 obtain ⟨y33, e34, hm⟩ := bind_some hm
 refine RL.callC (v := .int .i64 y33) (vs := [.int .i64 x1, .int .i64 (4 : Int)]) Try_fit18 rfl rfl rfl rfl (fun U w hU hW hL => pk_Within_c U w hU x1 (4 : Int) _ e34) ?_
 refine RL.fin ?_
 refine RA.next ?_
 refine RA.binI (v := .int .i64 (wadd (1 : Int) y33)) 5 rfl (by kernel_rfl) rfl rfl rfl rfl rfl ?_
 refine RA.seq 6 rfl (by kernel_rfl) ?_
 refine RL.stP (off := 0) (e' := wadd (1 : Int) y26) (d1 := wadd (1 : Int) y26) (r := TR.int) 2 Try_ln3 rfl rfl (Or.inr ⟨rfl, rfl⟩) rfl VR.int rfl Upd.self ?_
 refine RL.fin ?_
 refine RA.next ?_
 refine RA.seq 7 rfl (by kernel_rfl) ?_
 refine RL.stP (off := 0) (e' := wadd (1 : Int) y33) (d1 := wadd (1 : Int) y33) (r := TR.int) 3 Try_ln3 rfl rfl (Or.inr ⟨rfl, rfl⟩) rfl VR.int rfl Upd.self ?_
 refine RL.fin ?_
 refine RA.next ?_
 refine RA.doneG (by kernel_rfl) ?_
 refine GL.weak (env' := [(2, v2), (4, v4), (5, v9), (6, v10), (8, v11)]) (L' := [imm (TR.sl TR.int) v2 x2, imm (TR.sl TR.int) v4 x4, obox 3 TR.int v9 (wadd (1 : Int) y26), obox 3 TR.int v10 (wadd (1 : Int) y33), obox 3 TR.int v11 x3]) (fun a w st => St.cut [0, 1, 2, 3, 4] ⟨rfl, rfl, rfl, rfl, rfl, trivial⟩ (by decide) rfl st) ?_
 refine GL.seq ?_
 refine GL.region ?_
 refine RL.ldPx (off := 0) (e' := wadd (1 : Int) y26) 2 Ex.ik Try_ln3 rfl rfl (Or.inr ⟨rfl, rfl⟩) rfl PtOf.obox Part.self ?_
 refine RL.ldPx (off := 0) (e' := wadd (1 : Int) y33) 3 Ex.ik Try_ln3 rfl rfl (Or.inr ⟨rfl, rfl⟩) rfl PtOf.obox Part.self ?_
 refine RL.mv rfl rfl rfl ?_
 obtain ⟨y39, e40, hm⟩ := bind_some hm
 refine RL.call (vs := [.int .i64 (wadd (1 : Int) y26), .int .i64 (wadd (1 : Int) y33), v2]) Try_fit23 rfl rfl rfl rfl rfl (fun S f w hS hW hi => pk_GoodsOf_c S w hS (wadd (1 : Int) y26) (wadd (1 : Int) y33) _ _ (hi 0 _ rfl) _ e40) ?_
 intro v41
 refine RL.alloc (t := TR.raw) (z := .slice none 0 0) Try_lo42 (fun S => ⟨rfl, rfl⟩) rfl rfl rfl ?_
 intro v42
 refine RL.reL (L' := [imm (TR.sl TR.int) v2 x2, imm (TR.sl TR.int) v4 x4, obox 3 TR.int v9 (wadd (1 : Int) y26), obox 3 TR.int v10 (wadd (1 : Int) y33), obox 3 TR.int v11 x3, own 34 (TR.sl TR.int) v41 y39, obox 42 TR.raw v42 (Value.slice none 0 0)]) rfl ?_
 refine RL.stP (off := 0) (e' := v41) (d1 := v41) (r := TR.raw) 6 Try_ln42 rfl rfl (Or.inr ⟨rfl, rfl⟩) rfl (VR.rawOf 5 rfl SlOf.own) rfl Upd.self ?_
 refine RL.finG ?_
 refine GL.seq ?_
 refine GL.region ?_
 refine RL.ldPx (off := 0) (e' := x3) 4 Ex.ik Try_ln3 rfl rfl (Or.inr ⟨rfl, rfl⟩) rfl PtOf.obox Part.self ?_
 refine RL.ldPx (off := 0) (e' := wadd (1 : Int) y26) 2 Ex.ik Try_ln3 rfl rfl (Or.inr ⟨rfl, rfl⟩) rfl PtOf.obox Part.self ?_
 obtain ⟨y45, e46, hm⟩ := bind_some hm
 refine RL.callC (v := .int .i64 y45) (vs := [.int .i64 x3, .int .i64 (wadd (1 : Int) y26)]) Try_fit18 rfl rfl rfl rfl (fun U w hU hW hL => pk_Within_c U w hU x3 (wadd (1 : Int) y26) _ e46) ?_
 refine RL.stP (off := 0) (e' := y45) (d1 := y45) (r := TR.int) 4 Try_ln3 rfl rfl (Or.inr ⟨rfl, rfl⟩) rfl VR.int rfl Upd.self ?_
 refine RL.reL (L' := [imm (TR.sl TR.int) v2 x2, imm (TR.sl TR.int) v4 x4, obox 3 TR.int v9 (wadd (1 : Int) y26), obox 3 TR.int v10 (wadd (1 : Int) y33), obox 3 TR.int v11 y45, own 34 (TR.sl TR.int) v41 y39, obox 42 TR.raw v42 v41]) rfl ?_
 refine RL.finG ?_
 refine GL.seq ?_
 refine GL.region ?_
 refine RL.ldPx (off := 0) (e' := v41) 6 Ex.raw Try_ln42 rfl rfl (Or.inr ⟨rfl, rfl⟩) rfl PtOf.obox Part.self ?_
 refine RL.weak (fun a w st => st.freeze 5 rfl) ?_
 obtain ⟨y50, e51, hm⟩ := bind_some hm
 refine RL.call (vs := [v41]) Try_fit31 rfl rfl rfl rfl rfl (fun S f w hS hW hi => slices_Clone_rows_c S w hS _ _ (hi 5 _ rfl) _ e51) ?_
 intro v52
 refine RL.reL (L' := [imm (TR.sl TR.int) v2 x2, imm (TR.sl TR.int) v4 x4, obox 3 TR.int v9 (wadd (1 : Int) y26), obox 3 TR.int v10 (wadd (1 : Int) y33), obox 3 TR.int v11 y45, imm (TR.sl (TR.sl TR.int)) v41 y39, obox 42 TR.raw v42 v41, own 34 (TR.sl TR.int) v52 y50]) rfl ?_
 refine RL.asg rfl rfl rfl ?_
 refine RL.finG ?_
 refine GL.seq ?_
 refine GL.regionA rfl rfl ?_
 refine RA.mv 0 rfl (by kernel_rfl) rfl rfl rfl ?_
 refine RA.mv 3 rfl (by kernel_rfl) rfl rfl rfl ?_
 obtain ⟨y76, e77, hm⟩ := bind_some hm
 obtain ⟨y79, e80, hm⟩ := bind_some hm
 obtain ⟨y82, e83, hm⟩ := bind_some hm
 refine RA.meet (ι := Value) (fun (p : Value) => [(5, v9), (6, v10), (8, v11), (11, v42), (12, v52), (41, p), (42, adr v52 ((y45).toNat * 1))]) (fun (p : Value) => [obox 3 TR.int v9 (wadd (1 : Int) y26), obox 3 TR.int v10 (wadd (1 : Int) y33), obox 3 TR.int v11 y45, obox 42 TR.raw v42 v41, imm (TR.sl (TR.sl TR.int)) v41 y39, own 34 (TR.sl TR.int) v52 y50, imm (TR.sl TR.int) p y79]) 1 #[true, true, true, true, true, true, true, true, false] (fun h88 => ?_) ?_
 ·skip
  refine RA.meet (ι := Value) (fun (p : Value) => [(5, v9), (6, v10), (8, v11), (11, v42), (12, v52), (35, v52), (36, .int .i64 y45), (40, adr p (((0 : Int)).toNat * 1))]) (fun (p : Value) => [obox 3 TR.int v9 (wadd (1 : Int) y26), obox 3 TR.int v10 (wadd (1 : Int) y33), obox 3 TR.int v11 y45, obox 42 TR.raw v42 v41, imm (TR.sl (TR.sl TR.int)) v41 y39, own 34 (TR.sl TR.int) v52 y50, own 34 (TR.sl TR.int) p y76]) 3 #[true, true, true, true, true, true, false, false, false] (fun h89 => ?_) ?_
  rotate_left
  ·rintro v85
   refine RA.weak (env' := [(5, v9), (6, v10), (8, v11), (11, v42), (12, v52), (35, v52), (36, .int .i64 y45), (40, adr v85 (((0 : Int)).toNat * 1))]) (L' := [obox 3 TR.int v9 (wadd (1 : Int) y26), obox 3 TR.int v10 (wadd (1 : Int) y33), obox 3 TR.int v11 y45, obox 42 TR.raw v42 v41, imm (TR.sl (TR.sl TR.int)) v41 y39, own 34 (TR.sl TR.int) v52 y50, own 34 (TR.sl TR.int) v85 y76]) (fun _ _ st => st) ?_
   refine RA.seq 6 rfl (by kernel_rfl) ?_
   refine RL.ldS (i := ((0 : Int)).toNat) (r := (TR.sl TR.int)) (e' := y79) 6 Try_ln34 rfl rfl rfl rfl SlOf.own (idx_some e80).2.2 Part.self ?_
   intro v98
   refine RL.fin ?_
   refine RA.next ?_
   refine RA.idxS (sz := 1) 5 Try.underlying42 Try_ln34 7 rfl (by kernel_rfl) rfl rfl rfl rfl rfl SlOf.own (idx_some e83).1 (idx_some e83).2.1 ?_
   refine RA.relist 1 #[true, true, true, true, true, true, true, true, false] rfl (by kernel_rfl) ?_
   exact fun a w st => h88 v98 a w (St.cut [0, 1, 2, 3, 4, 5, 7] ⟨rfl, rfl, rfl, rfl, rfl, rfl, rfl, trivial⟩ (by decide) rfl st)
  refine RA.meet (ι := Value) (fun (p : Value) => [(5, v9), (6, v10), (8, v11), (11, v42), (12, v52), (35, v52), (41, p)]) (fun (p : Value) => [obox 3 TR.int v9 (wadd (1 : Int) y26), obox 3 TR.int v10 (wadd (1 : Int) y33), obox 3 TR.int v11 y45, obox 42 TR.raw v42 v41, imm (TR.sl (TR.sl TR.int)) v41 y39, own 34 (TR.sl TR.int) v52 y50, imm (TR.sl TR.int) p y79]) 3 #[true, false, true, true, true, true, true, false, false] (fun h90 => ?_) ?_
  rotate_left
  ·rintro v86
   refine RA.weak (env' := [(5, v9), (6, v10), (8, v11), (11, v42), (12, v52), (35, v52), (41, v86)]) (L' := [obox 3 TR.int v9 (wadd (1 : Int) y26), obox 3 TR.int v10 (wadd (1 : Int) y33), obox 3 TR.int v11 y45, obox 42 TR.raw v42 v41, imm (TR.sl (TR.sl TR.int)) v41 y39, own 34 (TR.sl TR.int) v52 y50, imm (TR.sl TR.int) v86 y79]) (fun _ _ st => st) ?_
   refine RA.seq 1 rfl (by kernel_rfl) ?_
   refine RL.ldPx (off := 0) (e' := y45) 2 Ex.ik Try_ln3 rfl rfl (Or.inr ⟨rfl, rfl⟩) rfl PtOf.obox Part.self ?_
   refine RL.fin ?_
   refine RA.next ?_
   refine RA.idxS (sz := 1) 5 Try.underlying42 Try_ln34 7 rfl (by kernel_rfl) rfl rfl rfl rfl rfl SlOf.own (idx_some e83).1 (idx_some e83).2.1 ?_
   refine RA.relist 1 #[true, true, true, true, true, true, true, true, false] rfl (by kernel_rfl) ?_
   exact fun a w st => h88 v86 a w (St.cut [0, 1, 2, 3, 4, 5, 6] ⟨rfl, rfl, rfl, rfl, rfl, rfl, rfl, trivial⟩ (by decide) rfl st)
  refine RA.meet (ι := Value) (fun (p : Value) => [(5, v9), (6, v10), (8, v11), (11, v42), (12, v52), (35, v52), (40, adr p (((0 : Int)).toNat * 1))]) (fun (p : Value) => [obox 3 TR.int v9 (wadd (1 : Int) y26), obox 3 TR.int v10 (wadd (1 : Int) y33), obox 3 TR.int v11 y45, obox 42 TR.raw v42 v41, imm (TR.sl (TR.sl TR.int)) v41 y39, own 34 (TR.sl TR.int) v52 y50, own 34 (TR.sl TR.int) p y76]) 4 #[true, false, true, true, true, true, false, false, false] (fun h91 => ?_) ?_
  rotate_left
  ·rintro v84
   refine RA.weak (env' := [(5, v9), (6, v10), (8, v11), (11, v42), (12, v52), (35, v52), (40, adr v84 (((0 : Int)).toNat * 1))]) (L' := [obox 3 TR.int v9 (wadd (1 : Int) y26), obox 3 TR.int v10 (wadd (1 : Int) y33), obox 3 TR.int v11 y45, obox 42 TR.raw v42 v41, imm (TR.sl (TR.sl TR.int)) v41 y39, own 34 (TR.sl TR.int) v52 y50, own 34 (TR.sl TR.int) v84 y76]) (fun _ _ st => st) ?_
   refine RA.many [1, 6] (by kernel_rfl) ⟨⟨_, rfl, ?_⟩, ⟨_, rfl, ?_⟩, trivial⟩
   ·skip
    refine RL.ldPx (off := 0) (e' := y45) 2 Ex.ik Try_ln3 rfl rfl (Or.inr ⟨rfl, rfl⟩) rfl PtOf.obox Part.self ?_
    refine RL.fin ?_
    refine RA.next ?_
    refine RA.relist 3 #[true, true, true, true, true, true, false, false, false] rfl (by kernel_rfl) ?_
    exact fun a w st => h89 v84 a w (St.cut [0, 1, 2, 3, 4, 5, 6] ⟨rfl, rfl, rfl, rfl, rfl, rfl, rfl, rfl, trivial⟩ (by decide) rfl st)
   refine RL.ldS (i := ((0 : Int)).toNat) (r := (TR.sl TR.int)) (e' := y79) 6 Try_ln34 rfl rfl rfl rfl SlOf.own (idx_some e80).2.2 Part.self ?_
   intro v97
   refine RL.fin ?_
   refine RA.next ?_
   refine RA.relist 3 #[true, false, true, true, true, true, true, false, false] rfl (by kernel_rfl) ?_
   exact fun a w st => h90 v97 a w (St.cut [0, 1, 2, 3, 4, 5, 7] ⟨rfl, rfl, rfl, rfl, rfl, rfl, rfl, trivial⟩ (by decide) rfl st)
  refine RA.meet (ι := Unit) (fun (p : Unit) => [(5, v9), (6, v10), (8, v11), (11, v42), (12, v52), (35, v52), (36, .int .i64 y45), (37, .int .i64 (wadd (1 : Int) y33)), (38, v4)]) (fun (p : Unit) => [obox 3 TR.int v9 (wadd (1 : Int) y26), obox 3 TR.int v10 (wadd (1 : Int) y33), obox 3 TR.int v11 y45, obox 42 TR.raw v42 v41, imm (TR.sl (TR.sl TR.int)) v41 y39, own 34 (TR.sl TR.int) v52 y50, imm (TR.sl TR.int) v4 x4]) 5 #[true, true, true, true, false, false, false, false, false] (fun h92 => ?_) ?_
  rotate_left
  ·rintro ⟨⟩
   refine RA.weak (env' := [(5, v9), (6, v10), (8, v11), (11, v42), (12, v52), (35, v52), (36, .int .i64 y45), (37, .int .i64 (wadd (1 : Int) y33)), (38, v4)]) (L' := [obox 3 TR.int v9 (wadd (1 : Int) y26), obox 3 TR.int v10 (wadd (1 : Int) y33), obox 3 TR.int v11 y45, obox 42 TR.raw v42 v41, imm (TR.sl (TR.sl TR.int)) v41 y39, own 34 (TR.sl TR.int) v52 y50, imm (TR.sl TR.int) v4 x4]) (fun _ _ st => st) ?_
   refine RA.seq 4 rfl (by kernel_rfl) ?_
   refine RL.call (vs := [.int .i64 (1 : Int), .int .i64 (wadd (1 : Int) y33), v4]) Try_fit23 rfl rfl rfl rfl rfl (fun S f w hS hW hi => pk_GoodsOf_c S w hS (1 : Int) (wadd (1 : Int) y33) _ _ (hi 6 _ rfl) _ e77) ?_
   intro v96
   refine RL.fin ?_
   refine RA.next ?_
   refine RA.idxS (sz := 1) 7 Try.underlying42 Try_ln34 5 rfl (by kernel_rfl) rfl rfl rfl rfl rfl SlOf.own (idx_some e80).1 (idx_some e80).2.1 ?_
   refine RA.relist 3 #[true, true, true, true, true, true, false, false, false] rfl (by kernel_rfl) ?_
   exact fun a w st => h89 v96 a w (St.cut [0, 1, 2, 3, 4, 5, 7] ⟨rfl, rfl, rfl, rfl, rfl, rfl, rfl, rfl, trivial⟩ (by decide) rfl st)
  refine RA.meet (ι := Unit) (fun (p : Unit) => [(5, v9), (6, v10), (8, v11), (11, v42), (12, v52), (35, v52), (37, .int .i64 (wadd (1 : Int) y33)), (38, v4)]) (fun (p : Unit) => [obox 3 TR.int v9 (wadd (1 : Int) y26), obox 3 TR.int v10 (wadd (1 : Int) y33), obox 3 TR.int v11 y45, obox 42 TR.raw v42 v41, imm (TR.sl (TR.sl TR.int)) v41 y39, own 34 (TR.sl TR.int) v52 y50, imm (TR.sl TR.int) v4 x4]) 6 #[true, false, true, true, false, false, false, false, false] (fun h93 => ?_) ?_
  rotate_left
  ·rintro ⟨⟩
   refine RA.weak (env' := [(5, v9), (6, v10), (8, v11), (11, v42), (12, v52), (35, v52), (37, .int .i64 (wadd (1 : Int) y33)), (38, v4)]) (L' := [obox 3 TR.int v9 (wadd (1 : Int) y26), obox 3 TR.int v10 (wadd (1 : Int) y33), obox 3 TR.int v11 y45, obox 42 TR.raw v42 v41, imm (TR.sl (TR.sl TR.int)) v41 y39, own 34 (TR.sl TR.int) v52 y50, imm (TR.sl TR.int) v4 x4]) (fun _ _ st => st) ?_
   refine RA.many [1, 4] (by kernel_rfl) ⟨⟨_, rfl, ?_⟩, ⟨_, rfl, ?_⟩, trivial⟩
   ·skip
    refine RL.ldPx (off := 0) (e' := y45) 2 Ex.ik Try_ln3 rfl rfl (Or.inr ⟨rfl, rfl⟩) rfl PtOf.obox Part.self ?_
    refine RL.fin ?_
    refine RA.next ?_
    refine RA.relist 5 #[true, true, true, true, false, false, false, false, false] rfl (by kernel_rfl) ?_
    exact fun a w st => h92 () a w (St.cut [0, 1, 2, 3, 4, 5, 6] ⟨rfl, rfl, rfl, rfl, rfl, rfl, rfl, rfl, rfl, trivial⟩ (by decide) rfl st)
   refine RL.call (vs := [.int .i64 (1 : Int), .int .i64 (wadd (1 : Int) y33), v4]) Try_fit23 rfl rfl rfl rfl rfl (fun S f w hS hW hi => pk_GoodsOf_c S w hS (1 : Int) (wadd (1 : Int) y33) _ _ (hi 6 _ rfl) _ e77) ?_
   intro v95
   refine RL.fin ?_
   refine RA.next ?_
   refine RA.idxS (sz := 1) 7 Try.underlying42 Try_ln34 5 rfl (by kernel_rfl) rfl rfl rfl rfl rfl SlOf.own (idx_some e80).1 (idx_some e80).2.1 ?_
   refine RA.relist 4 #[true, false, true, true, true, true, false, false, false] rfl (by kernel_rfl) ?_
   exact fun a w st => h91 v95 a w (St.cut [0, 1, 2, 3, 4, 5, 7] ⟨rfl, rfl, rfl, rfl, rfl, rfl, rfl, trivial⟩ (by decide) rfl st)
  refine RA.meet (ι := Unit) (fun (p : Unit) => [(5, v9), (6, v10), (8, v11), (11, v42), (12, v52), (35, v52), (36, .int .i64 y45), (38, v4)]) (fun (p : Unit) => [obox 3 TR.int v9 (wadd (1 : Int) y26), obox 3 TR.int v10 (wadd (1 : Int) y33), obox 3 TR.int v11 y45, obox 42 TR.raw v42 v41, imm (TR.sl (TR.sl TR.int)) v41 y39, own 34 (TR.sl TR.int) v52 y50, imm (TR.sl TR.int) v4 x4]) 6 #[true, true, false, true, false, false, false, false, false] (fun h94 => ?_) ?_
  rotate_left
  ·rintro ⟨⟩
   refine RA.weak (env' := [(5, v9), (6, v10), (8, v11), (11, v42), (12, v52), (35, v52), (36, .int .i64 y45), (38, v4)]) (L' := [obox 3 TR.int v9 (wadd (1 : Int) y26), obox 3 TR.int v10 (wadd (1 : Int) y33), obox 3 TR.int v11 y45, obox 42 TR.raw v42 v41, imm (TR.sl (TR.sl TR.int)) v41 y39, own 34 (TR.sl TR.int) v52 y50, imm (TR.sl TR.int) v4 x4]) (fun _ _ st => st) ?_
   refine RA.seq 2 rfl (by kernel_rfl) ?_
   refine RL.ldPx (off := 0) (e' := wadd (1 : Int) y33) 1 Ex.ik Try_ln3 rfl rfl (Or.inr ⟨rfl, rfl⟩) rfl PtOf.obox Part.self ?_
   refine RL.fin ?_
   refine RA.next ?_
   refine RA.relist 5 #[true, true, true, true, false, false, false, false, false] rfl (by kernel_rfl) ?_
   exact fun a w st => h92 () a w (St.cut [0, 1, 2, 3, 4, 5, 6] ⟨rfl, rfl, rfl, rfl, rfl, rfl, rfl, rfl, rfl, trivial⟩ (by decide) rfl st)
  refine RA.many [1, 2] (by kernel_rfl) ⟨⟨_, rfl, ?_⟩, ⟨_, rfl, ?_⟩, trivial⟩
  ·skip
   refine RL.ldPx (off := 0) (e' := y45) 4 Ex.ik Try_ln3 rfl rfl (Or.inr ⟨rfl, rfl⟩) rfl PtOf.obox Part.self ?_
   refine RL.fin ?_
   refine RA.next ?_
   refine RA.relist 6 #[true, true, false, true, false, false, false, false, false] rfl (by kernel_rfl) ?_
   exact fun a w st => h94 () a w (St.cut [2, 3, 4, 6, 5, 7, 1] ⟨rfl, rfl, rfl, rfl, rfl, rfl, rfl, rfl, trivial⟩ (by decide) rfl st)
  refine RL.ldPx (off := 0) (e' := wadd (1 : Int) y33) 3 Ex.ik Try_ln3 rfl rfl (Or.inr ⟨rfl, rfl⟩) rfl PtOf.obox Part.self ?_
  refine RL.fin ?_
  refine RA.next ?_
  refine RA.relist 6 #[true, false, true, true, false, false, false, false, false] rfl (by kernel_rfl) ?_
  exact fun a w st => h93 () a w (St.cut [2, 3, 4, 6, 5, 7, 1] ⟨rfl, rfl, rfl, rfl, rfl, rfl, rfl, rfl, trivial⟩ (by decide) rfl st)
 rintro v87
 refine RA.weak (env' := [(5, v9), (6, v10), (8, v11), (11, v42), (12, v52), (41, v87), (42, adr v52 ((y45).toNat * 1))]) (L' := [obox 3 TR.int v9 (wadd (1 : Int) y26), obox 3 TR.int v10 (wadd (1 : Int) y33), obox 3 TR.int v11 y45, obox 42 TR.raw v42 v41, imm (TR.sl (TR.sl TR.int)) v41 y39, own 34 (TR.sl TR.int) v52 y50, imm (TR.sl TR.int) v87 y79]) (fun _ _ st => st) ?_
 refine RA.seq 8 rfl (by kernel_rfl) ?_
 refine RL.stS (i := (y45).toNat) (e' := y79) (e1 := y79) (r := (TR.sl TR.int)) 5 Try_ln34 rfl rfl rfl rfl (VR.item 6 rfl) rfl (idx_some e83).2.2 Upd.self ?_
 refine RL.fin ?_
 refine RA.next ?_
 refine RA.doneG (by kernel_rfl) ?_
 refine GL.weak (env' := [(5, v9), (6, v10), (8, v11), (11, v42), (12, v52)]) (L' := [obox 3 TR.int v9 (wadd (1 : Int) y26), obox 3 TR.int v10 (wadd (1 : Int) y33), obox 3 TR.int v11 y45, obox 42 TR.raw v42 v41, imm (TR.sl (TR.sl TR.int)) v41 y39, own 34 (TR.sl TR.int) v52 (List.set y50 ((y45).toNat) y79)]) (fun a w st => St.cut [0, 1, 2, 3, 4, 5] ⟨rfl, rfl, rfl, rfl, rfl, trivial⟩ (by decide) rfl st) ?_
 refine GL.seq ?_
 refine GL.region ?_
 refine RL.mkF (vs := [v9, v11, v10, v42]) rfl rfl rfl ?_
 refine RL.asg rfl rfl rfl ?_
 refine RL.finG ?_
 refine GL.seq ?_
 refine GL.region ?_
 refine RL.mv rfl rfl rfl ?_
 refine RL.ldPx (off := 0) (e' := v41) 3 Ex.raw Try_ln42 rfl rfl (Or.inr ⟨rfl, rfl⟩) rfl PtOf.obox Part.self ?_
 obtain ⟨y101, e102, hm⟩ := bind_some hm
 refine RL.callV (v := .tuple #[.int .i64 y101.1, .bool y101.2]) (vs := [v41]) Try_fit32 rfl (Or.inl rfl) rfl rfl rfl rfl (fun U w hU hW hL => pk_GrovesTruth_1_c U w hU _ _ (hL 4 _ _ rfl Seen.imm) _ _ (hL 0 _ _ rfl Seen.obox) _ _ (hL 2 _ _ rfl Seen.obox) _ _ (hL 1 _ _ rfl Seen.obox) _ _ (ptr_raw (hL 3 _ _ rfl Seen.obox) rfl (hL 4 _ _ rfl Seen.imm)) _ e102) ?_
 refine RL.mv rfl rfl rfl ?_
 refine RL.ext rfl rfl rfl rfl ?_
 refine RL.ext rfl rfl rfl rfl ?_
 refine RL.asg rfl rfl rfl ?_
 refine RL.asg rfl rfl rfl ?_
 refine RL.finG ?_
 refine GL.seq ?_
 refine GL.region ?_
 refine RL.mv rfl rfl rfl ?_
 refine RL.mv rfl rfl rfl ?_
 obtain ⟨y105, e106, hm⟩ := bind_some hm
 refine RL.callV (v := .tuple #[.int .i64 y105.1, .bool y105.2]) (vs := [v52]) Try_fit32 rfl (Or.inl rfl) rfl rfl rfl rfl (fun U w hU hW hL => pk_GrovesTruth_1_c U w hU _ _ (hL 5 _ _ rfl Seen.own) _ _ (hL 0 _ _ rfl Seen.obox) _ _ (hL 2 _ _ rfl Seen.obox) _ _ (hL 1 _ _ rfl Seen.obox) _ _ (ptr_raw (hL 3 _ _ rfl Seen.obox) rfl (hL 4 _ _ rfl Seen.imm)) _ e106) ?_
 refine RL.mv rfl rfl rfl ?_
 refine RL.ext rfl rfl rfl rfl ?_
 refine RL.ext rfl rfl rfl rfl ?_
 refine RL.asg rfl rfl rfl ?_
 refine RL.asg rfl rfl rfl ?_
 refine RL.finG ?_
 refine GL.seq ?_
 obtain ⟨y114, K115, h116, h117, h118, h119, h120⟩ := bindR_K hm
 refine GL.join (ι := Bool) (fun (p : Bool) => [(10, .bool p)]) (fun (p : Bool) => []) (fun (p : Bool) => K115 (.nx p)) ?_ ?_
 ·skip
  refine GL.region ?_
  refine RL.mv rfl rfl rfl ?_
  refine RL.mv rfl rfl rfl ?_
  refine RL.split (t := 57) rfl (fun b121 => ?_) (fun b121 => ?_)
  ·replace h116 := ite_t b121 h116
   refine RL.mv rfl rfl rfl ?_
   refine RL.pickT rfl rfl rfl rfl ?_
   refine RL.mv rfl rfl rfl ?_
   refine RL.split (t := 60) rfl (fun b122 => ?_) (fun b122 => ?_)
   ·replace h116 := ite_t b122 h116
    refine RL.mv rfl rfl rfl ?_
    refine RL.binI (v := .bool (decide (y101.1 ≥ (0 : Int)))) rfl rfl rfl rfl rfl ?_
    refine RL.pickT rfl rfl rfl rfl ?_
    refine RL.mv rfl rfl rfl ?_
    refine RL.split (t := 64) rfl (fun b123 => ?_) (fun b123 => ?_)
    ·replace h116 := ite_t b123 h116
     refine RL.mv rfl rfl rfl ?_
     refine RL.mv rfl rfl rfl ?_
     refine RL.binI (v := .bool (decide (y101.1 ≥ y105.1))) rfl rfl rfl rfl rfl ?_
     refine RL.pickT rfl rfl rfl rfl ?_
     refine RL.asg rfl rfl rfl ?_
     refine RL.fin ?_
     cases h116
     exact fun a w st => mid_intro (decide (y101.1 ≥ y105.1)) h117 (St.cut [] ⟨rfl, trivial⟩ (by decide) rfl st)
    replace h116 := ite_f b123 h116
    refine RL.skip rfl rfl ?_
    refine RL.skip rfl rfl ?_
    refine RL.skip rfl rfl ?_
    refine RL.pickF rfl rfl rfl rfl ?_
    refine RL.asg rfl rfl rfl ?_
    refine RL.fin ?_
    cases h116
    exact fun a w st => mid_intro false h117 (St.cut [] ⟨rfl, trivial⟩ (by decide) rfl st)
   replace h116 := ite_f b122 h116
   refine RL.skip rfl rfl ?_
   refine RL.skip rfl rfl ?_
   refine RL.pickF rfl rfl rfl rfl ?_
   refine RL.mv rfl rfl rfl ?_
   refine RL.skip rfl rfl ?_
   refine RL.skip rfl rfl ?_
   refine RL.skip rfl rfl ?_
   refine RL.pickF rfl rfl rfl rfl ?_
   refine RL.asg rfl rfl rfl ?_
   refine RL.fin ?_
   cases h116
   exact fun a w st => mid_intro false h117 (St.cut [] ⟨rfl, trivial⟩ (by decide) rfl st)
  replace h116 := ite_f b121 h116
  refine RL.skip rfl rfl ?_
  refine RL.pickF rfl rfl rfl rfl ?_
  refine RL.mv rfl rfl rfl ?_
  refine RL.skip rfl rfl ?_
  refine RL.skip rfl rfl ?_
  refine RL.pickF rfl rfl rfl rfl ?_
  refine RL.mv rfl rfl rfl ?_
  refine RL.skip rfl rfl ?_
  refine RL.skip rfl rfl ?_
  refine RL.skip rfl rfl ?_
  refine RL.pickF rfl rfl rfl rfl ?_
  refine RL.asg rfl rfl rfl ?_
  refine RL.fin ?_
  cases h116
  exact fun a w st => mid_intro false h117 (St.cut [] ⟨rfl, trivial⟩ (by decide) rfl st)
 rintro x113 h124
 have h125 := h118 _ h124
 try dsimp only at h125
 refine GL.weak (env' := [(10, .bool x113)]) (L' := []) (fun _ _ st => st) ?_
 have h125 := Option.some.inj h125
 subst h125
 exact GL.ret (Gx.ret (v := .bool x113) (res1 rfl rfl) (fun a w st => st.toPostV))
end Go.Wk
