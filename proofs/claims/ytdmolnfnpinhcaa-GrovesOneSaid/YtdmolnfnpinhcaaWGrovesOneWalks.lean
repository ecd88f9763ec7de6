/- Each function comes to what its model says; printed by a program of this repository. -/
import Derived.Test.YtdmolnfnpinhcaaProg
import Derived.Test.YtdmolnfnpinhcaaWGrovesOneModels
namespace Go.Wk
open Go.Fw Go.Mo Go.Proofs Go.RowKit
set_option linter.all false
set_option maxRecDepth 100000
theorem loopNx {ρ σ β γ : Type} {body : σ → Option (Fl ρ β σ)} {n : Nat} {s : σ} {y : Fl ρ γ β} (h : stepM body n (.nx s) = some y) : loopM body n s = some y := h
theorem Try_info3 : (Try.prog.info? 3).map (fun i => (i.zero, i.size, i.bytes)) = some (some (.int .i64 0), 1, 8) := by kernel_rfl
theorem Try_ln3 : Ln Try.prog 3 1 false := Ln.of Try_info3 Try.underlying3 rfl
theorem Try_lo3 : LnO Try.prog 3 1 [.int .i64 0] := LnO.of Try_info3 rfl rfl (by decide) (by decide)
theorem Try_info24 : (Try.prog.info? 24).map (fun i => (i.zero, i.size, i.bytes)) = some (some (.int .i64 0), 1, 8) := by kernel_rfl
theorem Try_ln24 : Ln Try.prog 24 1 false := Ln.of Try_info24 Try.underlying24 rfl
theorem Try_lo24 : LnO Try.prog 24 1 [.int .i64 0] := LnO.of Try_info24 rfl rfl (by decide) (by decide)
theorem Try_info34 : (Try.prog.info? 34).map (fun i => (i.zero, i.size, i.bytes)) = some (some (.slice none 0 0), 1, 24) := by kernel_rfl
theorem Try_ln34 : Ln Try.prog 34 1 false := Ln.of Try_info34 Try.underlying34 rfl
theorem Try_lo34 : LnO Try.prog 34 1 [.slice none 0 0] := LnO.of Try_info34 rfl rfl (by decide) (by decide)
theorem Try_fit18 : Fit Try.prog 18 := Fit.of Try.func18 (by kernel_rfl) rfl
theorem Try_fit22 : Fit Try.prog 22 := Fit.of Try.func22 (by kernel_rfl) rfl
theorem Try_fit24 : Fit Try.prog 24 := Fit.of Try.func24 (by kernel_rfl) rfl
theorem Try_fit25 : Fit Try.prog 25 := Fit.of Try.func25 (by kernel_rfl) rfl
theorem Try_fit26 : Fit Try.prog 26 := Fit.of Try.func26 (by kernel_rfl) rfl
theorem Try_fit33 : Fit Try.prog 33 := Fit.of Try.func33 (by kernel_rfl) rfl
theorem Try_fit34 : Fit Try.prog 34 := Fit.of Try.func34 (by kernel_rfl) rfl
theorem Try_fit36 : Fit Try.prog 36 := Fit.of Try.func36 (by kernel_rfl) rfl
theorem Try_fit41 : Fit Try.prog 41 := Fit.of Try.func41 (by kernel_rfl) rfl
theorem Try_fit42 : Fit Try.prog 42 := Fit.of Try.func42 (by kernel_rfl) rfl
theorem Try_fit43 : Fit Try.prog 43 := Fit.of Try.func43 (by kernel_rfl) rfl
theorem Try_fit45 : Fit Try.prog 45 := Fit.of Try.func45 (by kernel_rfl) rfl
theorem Try_fit46 : Fit Try.prog 46 := Fit.of Try.func46 (by kernel_rfl) rfl
theorem Try_fit47 : Fit Try.prog 47 := Fit.of Try.func47 (by kernel_rfl) rfl
theorem Try_fit48 : Fit Try.prog 48 := Fit.of Try.func48 (by kernel_rfl) rfl
theorem Try_fit49 : Fit Try.prog 49 := Fit.of Try.func49 (by kernel_rfl) rfl
theorem Try_fit50 : Fit Try.prog 50 := Fit.of Try.func50 (by kernel_rfl) rfl
theorem Try_fit51 : Fit Try.prog 51 := Fit.of Try.func51 (by kernel_rfl) rfl
theorem Try_fit52 : Fit Try.prog 52 := Fit.of Try.func52 (by kernel_rfl) rfl
theorem Try_fit54 : Fit Try.prog 54 := Fit.of Try.func54 (by kernel_rfl) rfl
theorem Try_fit55 : Fit Try.prog 55 := Fit.of Try.func55 (by kernel_rfl) rfl

set_option maxHeartbeats 4000000 in
theorem groves_Check_c (S : Hp) (w : World) (hS : S.sub w) (v0 : Value) (x0 : (List (List Int))) (k0 : ((TR.sl (TR.sl TR.int))).vrep S v0 x0) (res : Int) (hm : groves_Check_m x0 = some res) : Calls Try.prog 47 #[v0] w (PostC w (.int .i64 res)) := by
 refine calls_enter 40 Try.func47 Try.ntmps47 rfl S true [(0, v0)] [imm (TR.sl (TR.sl TR.int)) v0 x0] rfl ⟨rfl, trivial⟩ hS ⟨k0, trivial⟩ ?_
 unfold groves_Check_m at hm
 refine GL.seq ?_
 refine GL.region ?_
 refine RL.asg rfl rfl rfl ?_
 refine RL.finG ?_
 refine GL.seq ?_
 refine GL.seq ?_
 refine GL.region ?_
 refine RL.mv rfl rfl rfl ?_
 refine RL.lenS 0 Try.underlying42 rfl rfl rfl rfl SlOf.imm ?_
 refine RL.binI (v := .bool (decide (((x0).length : Int) > (4 : Int)))) rfl rfl rfl rfl rfl ?_
 refine RL.finG ?_
 refine GL.cond rfl (fun b2 => ?_) (fun b2 => ?_)
 ·replace hm := ite_t b2 hm
  refine GL.seq ?_
  refine GL.region ?_
  refine RL.asg rfl rfl rfl ?_
  refine RL.finG ?_
  have hm := Option.some.inj hm
  subst hm
  exact GL.ret (Gx.ret (v := .int .i64 (2 : Int)) (res1 rfl rfl) (fun a w st => st.toPostC rfl))
 replace hm := ite_f b2 hm
 refine GL.skip ?_
 refine GL.seq ?_
 refine GL.seq ?_
 refine GL.region ?_
 refine RL.mv rfl rfl rfl ?_
 refine RL.lenS 0 Try.underlying42 rfl rfl rfl rfl SlOf.imm ?_
 refine RL.mv rfl rfl rfl ?_
 refine RL.finG ?_
 refine GL.open_ 0 rfl (fun S h => len_imm S h) (fun n73 => ?_)
 obtain ⟨y74, K75, h76, h77, h78, h79, h80⟩ := bindR_K hm
 refine GL.join (ι := Unit) (fun (p : Unit) => []) (fun (p : Unit) => []) (fun (p : Unit) => K75 (.nx ())) ?_ ?_
 ·refine GL.block ?_
  refine GL.loop (ι := Nat × (List (List Int))) (fun (p : Nat × (List (List Int))) => [(0, v0), (10, v0), (11, .int .i64 ((x0).length : Int)), (12, .int .i64 (p.1 : Int))]) (fun (p : Nat × (List (List Int))) => [imm (TR.sl (TR.sl TR.int)) v0 x0]) (fun (p : Nat × (List (List Int))) => p.1 + p.2.length = (x0).length ∧ List.drop p.1 x0 = p.2 ∧ rangeL (groves_Check_b1 x0) p.2 p.1 () = some y74) (fun (p : Nat × (List (List Int))) => p.2.length) (0, x0) ⟨by simp, by simp, h76⟩ (fun a w st => St.cut [0] ⟨rfl, rfl, rfl, rfl, trivial⟩ (by decide) rfl st) ?_
  rintro ⟨i81, r82⟩ ⟨h87, h88, h86⟩
  try dsimp only at h87 h88 h86
  refine GL.weak (env' := [(0, v0), (10, v0), (11, .int .i64 ((x0).length : Int)), (12, .int .i64 (i81 : Int))]) (L' := [imm (TR.sl (TR.sl TR.int)) v0 x0]) (fun _ _ st => st) ?_
  refine GL.seq ?_
  refine GL.region ?_
  refine RL.binI (v := .bool (decide ((i81 : Int) < ((x0).length : Int)))) rfl rfl rfl rfl rfl ?_
  refine RL.finG ?_
  refine GL.seq ?_
  refine GL.cond rfl (fun b89 => ?_) (fun b89 => ?_)
  ·have h90 : i81 < (x0).length := by have := of_decide_eq_true b89; omega
   obtain ⟨y91, r93, hr, e92, h94⟩ := drop_cons h88 rfl h90
   subst hr
   obtain ⟨z83, h84, h85⟩ := rangeL_some h86
   unfold groves_Check_b1 at h84
   try dsimp only at h84
   refine GL.skip ?_
   refine GL.seq ?_
   refine GL.block ?_
   refine GL.seq ?_
   refine GL.region ?_
   refine RL.idxS (sz := 1) 0 Try.underlying42 Try_ln34 rfl rfl rfl rfl rfl SlOf.imm (by omega) (by omega) ?_
   refine RL.ldS (i := i81) (r := (TR.sl TR.int)) (e' := y91) 0 Try_ln34 rfl rfl rfl rfl SlOf.imm e92 Part.self ?_
   intro v96
   refine RL.asg rfl rfl rfl ?_
   refine RL.finG ?_
   refine GL.seq ?_
   refine GL.seq ?_
   refine GL.region ?_
   refine RL.mv rfl rfl rfl ?_
   refine RL.lenS 1 Try.underlying34 rfl rfl rfl rfl SlOf.imm ?_
   refine RL.mv rfl rfl rfl ?_
   obtain ⟨y100, e101, h84⟩ := bind_some h84
   refine RL.idxS (sz := 1) 0 Try.underlying42 Try_ln34 rfl rfl rfl rfl rfl SlOf.imm (idx_some e101).1 (idx_some e101).2.1 ?_
   refine RL.ldS (i := ((0 : Int)).toNat) (r := (TR.sl TR.int)) (e' := y100) 0 Try_ln34 rfl rfl rfl rfl SlOf.imm (idx_some e101).2.2 Part.self ?_
   intro v102
   refine RL.reL (L' := [imm (TR.sl (TR.sl TR.int)) v0 x0, imm (TR.sl TR.int) v96 y91, imm (TR.sl TR.int) v102 y100]) rfl ?_
   refine RL.lenS 2 Try.underlying34 rfl rfl rfl rfl SlOf.imm ?_
   refine RL.binI (v := .bool (((y91).length : Int) != ((y100).length : Int))) rfl rfl rfl rfl rfl ?_
   refine RL.finG ?_
   refine GL.cond rfl (fun b103 => ?_) (fun b103 => ?_)
   ·replace h84 := ite_t b103 h84
    refine GL.seq ?_
    refine GL.region ?_
    refine RL.asg rfl rfl rfl ?_
    refine RL.finG ?_
    cases h84
    replace h85 : some (Fl.rt _) = some y74 := h85
    cases h85
    have hh := h79 _ h77
    subst hh
    exact GL.ret (Gx.ret (v := .int .i64 (3 : Int)) (res1 rfl rfl) (fun a w st => st.toPostC rfl))
   replace h84 := ite_f b103 h84
   refine GL.skip ?_
   refine GL.seq ?_
   refine GL.seq ?_
   refine GL.region ?_
   refine RL.mv rfl rfl rfl ?_
   refine RL.lenS 1 Try.underlying34 rfl rfl rfl rfl SlOf.imm ?_
   refine RL.binI (v := .bool (decide (((y91).length : Int) > (4 : Int)))) rfl rfl rfl rfl rfl ?_
   refine RL.finG ?_
   refine GL.cond rfl (fun b104 => ?_) (fun b104 => ?_)
   ·replace h84 := ite_t b104 h84
    refine GL.seq ?_
    refine GL.region ?_
    refine RL.asg rfl rfl rfl ?_
    refine RL.finG ?_
    cases h84
    replace h85 : some (Fl.rt _) = some y74 := h85
    cases h85
    have hh := h79 _ h77
    subst hh
    exact GL.ret (Gx.ret (v := .int .i64 (2 : Int)) (res1 rfl rfl) (fun a w st => st.toPostC rfl))
   replace h84 := ite_f b104 h84
   refine GL.skip ?_
   refine GL.seq ?_
   refine GL.region ?_
   refine RL.mv rfl rfl rfl ?_
   refine RL.lenS 1 Try.underlying34 rfl rfl rfl rfl SlOf.imm ?_
   refine RL.mv rfl rfl rfl ?_
   refine RL.finG ?_
   refine GL.open_ 1 rfl (fun S h => len_imm S h) (fun n123 => ?_)
   obtain ⟨y124, K125, h126, h127, h128, h129, h130⟩ := bindF_K h84
   refine GL.join (ι := Unit) (fun (p : Unit) => [(0, v0), (10, v0), (11, .int .i64 ((x0).length : Int)), (12, .int .i64 (i81 : Int))]) (fun (p : Unit) => [imm (TR.sl (TR.sl TR.int)) v0 x0]) (fun (p : Unit) => K125 (.nx ())) ?_ ?_
   ·refine GL.block ?_
    refine GL.loop (ι := Nat × (List Int)) (fun (p : Nat × (List Int)) => [(0, v0), (10, v0), (11, .int .i64 ((x0).length : Int)), (12, .int .i64 (i81 : Int)), (26, v96), (27, .int .i64 ((y91).length : Int)), (28, .int .i64 (p.1 : Int))]) (fun (p : Nat × (List Int)) => [imm (TR.sl (TR.sl TR.int)) v0 x0, imm (TR.sl TR.int) v96 y91]) (fun (p : Nat × (List Int)) => p.1 + p.2.length = (y91).length ∧ List.drop p.1 y91 = p.2 ∧ rangeL groves_Check_b2 p.2 p.1 () = some y124) (fun (p : Nat × (List Int)) => p.2.length) (0, y91) ⟨by simp, by simp, h126⟩ (fun a w st => St.cut [0, 1] ⟨rfl, rfl, rfl, rfl, rfl, rfl, rfl, trivial⟩ (by decide) rfl st) ?_
    rintro ⟨i131, r132⟩ ⟨h137, h138, h136⟩
    try dsimp only at h137 h138 h136
    refine GL.weak (env' := [(0, v0), (10, v0), (11, .int .i64 ((x0).length : Int)), (12, .int .i64 (i81 : Int)), (26, v96), (27, .int .i64 ((y91).length : Int)), (28, .int .i64 (i131 : Int))]) (L' := [imm (TR.sl (TR.sl TR.int)) v0 x0, imm (TR.sl TR.int) v96 y91]) (fun _ _ st => st) ?_
    refine GL.seq ?_
    refine GL.region ?_
    refine RL.binI (v := .bool (decide ((i131 : Int) < ((y91).length : Int)))) rfl rfl rfl rfl rfl ?_
    refine RL.finG ?_
    refine GL.seq ?_
    refine GL.cond rfl (fun b139 => ?_) (fun b139 => ?_)
    ·have h140 : i131 < (y91).length := by have := of_decide_eq_true b139; omega
     obtain ⟨y141, r143, hr, e142, h144⟩ := drop_cons h138 rfl h140
     subst hr
     obtain ⟨z133, h134, h135⟩ := rangeL_some h136
     unfold groves_Check_b2 at h134
     try dsimp only at h134
     refine GL.skip ?_
     refine GL.seq ?_
     refine GL.block ?_
     refine GL.seq ?_
     refine GL.region ?_
     refine RL.idxS (sz := 1) 1 Try.underlying34 Try_ln3 rfl rfl rfl rfl rfl SlOf.imm (by omega) (by omega) ?_
     refine RL.ldSx (i := i131) (e' := y141) 1 Ex.ik Try_ln3 rfl rfl rfl rfl SlOf.imm e142 Part.self ?_
     refine RL.asg rfl rfl rfl ?_
     refine RL.finG ?_
     refine GL.seq ?_
     obtain ⟨y148, K149, h150, h151, h152, h153, h154⟩ := bindF_K h134
     refine GL.join (ι := Bool) (fun (p : Bool) => [(0, v0), (10, v0), (11, .int .i64 ((x0).length : Int)), (12, .int .i64 (i81 : Int)), (26, v96), (27, .int .i64 ((y91).length : Int)), (28, .int .i64 (i131 : Int)), (37, .bool p)]) (fun (p : Bool) => [imm (TR.sl (TR.sl TR.int)) v0 x0, imm (TR.sl TR.int) v96 y91]) (fun (p : Bool) => K149 (.nx p)) ?_ ?_
     ·skip
      refine GL.region ?_
      refine RL.mv rfl rfl rfl ?_
      refine RL.binI (v := .bool (decide (y141 < (0 : Int)))) rfl rfl rfl rfl rfl ?_
      refine RL.mv rfl rfl rfl ?_
      refine RL.split (t := 34) rfl (fun b155 => ?_) (fun b155 => ?_)
      ·replace h150 := ite_t b155 h150
       refine RL.skip rfl rfl ?_
       refine RL.skip rfl rfl ?_
       refine RL.pickT rfl rfl rfl rfl ?_
       refine RL.fin ?_
       cases h150
       exact fun a w st => mid_intro true h151 (St.cut [0, 1] ⟨rfl, rfl, rfl, rfl, rfl, rfl, rfl, rfl, trivial⟩ (by decide) rfl st)
      replace h150 := ite_f b155 h150
      refine RL.mv rfl rfl rfl ?_
      refine RL.binI (v := .bool (decide (y141 > (1000000 : Int)))) rfl rfl rfl rfl rfl ?_
      refine RL.pickF rfl rfl rfl rfl ?_
      refine RL.fin ?_
      cases h150
      exact fun a w st => mid_intro (decide (y141 > (1000000 : Int))) h151 (St.cut [0, 1] ⟨rfl, rfl, rfl, rfl, rfl, rfl, rfl, rfl, trivial⟩ (by decide) rfl st)
     rintro x147 h156
     have h157 := h152 _ h156
     try dsimp only at h157
     refine GL.weak (env' := [(0, v0), (10, v0), (11, .int .i64 ((x0).length : Int)), (12, .int .i64 (i81 : Int)), (26, v96), (27, .int .i64 ((y91).length : Int)), (28, .int .i64 (i131 : Int)), (37, .bool x147)]) (L' := [imm (TR.sl (TR.sl TR.int)) v0 x0, imm (TR.sl TR.int) v96 y91]) (fun _ _ st => st) ?_
     refine GL.cond rfl (fun b158 => ?_) (fun b158 => ?_)
     ·replace h157 := ite_t b158 h157
      refine GL.seq ?_
      refine GL.region ?_
      refine RL.asg rfl rfl rfl ?_
      refine RL.finG ?_
      cases h157
      replace h135 : some (Fl.rt _) = some y124 := h135
      cases h135
      have hh := h129 _ h127
      subst hh
      replace h85 : some (Fl.rt _) = some y74 := h85
      cases h85
      have hh := h79 _ h77
      subst hh
      exact GL.ret (Gx.ret (v := .int .i64 (1 : Int)) (res1 rfl rfl) (fun a w st => st.toPostC rfl))
     replace h157 := ite_f b158 h157
     refine GL.skip ?_
     refine GL.nilB ?_
     refine GL.region ?_
     refine RL.binI (v := .int .i64 ((i131 + 1 : Nat) : Int)) rfl rfl rfl rfl (binI_succ i131 (by omega)) ?_
     refine RL.mv rfl rfl rfl ?_
     refine RL.fin ?_
     cases h157
     exact fun a w st => lop_intro (i131 + 1, r143) ⟨by show i131 + 1 + r143.length = (y91).length; simp only [List.length_cons] at h137; omega, h144, h135⟩ (by simp) (St.cut [0, 1] ⟨rfl, rfl, rfl, rfl, rfl, rfl, rfl, trivial⟩ (by decide) rfl st)
    have h140 : ¬ i131 < (y91).length := by have := of_decide_eq_false b139; omega
    obtain rfl : r132 = [] := by rw [← h138]; exact List.drop_of_length_le (by omega)
    replace h136 : some (Fl.nx _) = some y124 := h136
    cases h136
    exact GL.exit (fun a w st => mid_intro () h127 (St.cut [0] ⟨rfl, rfl, rfl, rfl, trivial⟩ (by decide) rfl st))
   rintro ⟨⟩ h159
   have h160 := h128 _ h159
   try dsimp only at h160
   refine GL.weak (env' := [(0, v0), (10, v0), (11, .int .i64 ((x0).length : Int)), (12, .int .i64 (i81 : Int))]) (L' := [imm (TR.sl (TR.sl TR.int)) v0 x0]) (fun _ _ st => st) ?_
   refine GL.nilB ?_
   refine GL.region ?_
   refine RL.binI (v := .int .i64 ((i81 + 1 : Nat) : Int)) rfl rfl rfl rfl (binI_succ i81 (by omega)) ?_
   refine RL.mv rfl rfl rfl ?_
   refine RL.fin ?_
   cases h160
   exact fun a w st => lop_intro (i81 + 1, r93) ⟨by show i81 + 1 + r93.length = (x0).length; simp only [List.length_cons] at h87; omega, h94, h85⟩ (by simp) (St.cut [0] ⟨rfl, rfl, rfl, rfl, trivial⟩ (by decide) rfl st)
  have h90 : ¬ i81 < (x0).length := by have := of_decide_eq_false b89; omega
  obtain rfl : r82 = [] := by rw [← h88]; exact List.drop_of_length_le (by omega)
  replace h86 : some (Fl.nx _) = some y74 := h86
  cases h86
  exact GL.exit (fun a w st => mid_intro () h77 (St.cut [] trivial (by decide) rfl st))
 rintro ⟨⟩ h161
 have h162 := h78 _ h161
 try dsimp only at h162
 refine GL.weak (env' := []) (L' := []) (fun _ _ st => st) ?_
 refine GL.seq ?_
 refine GL.region ?_
 refine RL.asg rfl rfl rfl ?_
 refine RL.finG ?_
 have h162 := Option.some.inj h162
 subst h162
 exact GL.ret (Gx.ret (v := .int .i64 (0 : Int)) (res1 rfl rfl) (fun a w st => st.toPostC rfl))

set_option maxHeartbeats 4000000 in
def groves_best_C (M : (List (List Int)) → Int → Int → Int → Option ((List Int) × Int)) : Prop := ∀ (S : Hp) (w : World) (hS : S.sub w) (v0 : Value) (x0 : (List (List Int))) (k0 : ((TR.sl (TR.sl TR.int))).vrep S v0 x0) (x1 : Int) (x2 : Int) (x3 : Int) (res : (List Int) × Int) (hm : M x0 x1 x2 x3 = some res), Calls Try.prog 48 #[v0, .int .i64 x1, .int .i64 x2, .int .i64 x3] w (Post w S (fun (o : Value) => .tuple #[o, .int .i64 res.2]) (fun (o : Value) => [own 3 TR.int o res.1]))
theorem groves_best_cr (rcm : (List (List Int)) → Int → Int → Int → Option ((List Int) × Int)) (rcm_c : groves_best_C rcm) : groves_best_C (groves_best_r rcm) := by
 intro S w hS v0 x0 k0 x1 x2 x3 res hm
 refine calls_enter 76 Try.func48 Try.ntmps48 rfl S false [(0, v0), (1, .int .i64 x1), (2, .int .i64 x2), (3, .int .i64 x3)] [imm (TR.sl (TR.sl TR.int)) v0 x0] rfl ⟨rfl, ⟨rfl, ⟨rfl, ⟨rfl, trivial⟩⟩⟩⟩ hS ⟨k0, trivial⟩ ?_
 unfold groves_best_r at hm
 refine GL.seq ?_
 refine GL.region ?_
 refine RL.asg rfl rfl rfl ?_
 refine RL.asg rfl rfl rfl ?_
 refine RL.finG ?_
 refine GL.seq ?_
 refine GL.seq ?_
 refine GL.region ?_
 refine RL.mv rfl rfl rfl ?_
 refine RL.mv rfl rfl rfl ?_
 refine RL.lenS 0 Try.underlying42 rfl rfl rfl rfl SlOf.imm ?_
 refine RL.binI (v := .bool (x1 == ((x0).length : Int))) rfl rfl rfl rfl rfl ?_
 refine RL.finG ?_
 refine GL.cond rfl (fun b5 => ?_) (fun b5 => ?_)
 ·replace hm := ite_t b5 hm
  refine GL.seq ?_
  refine GL.region ?_
  refine RL.asg rfl rfl rfl ?_
  refine RL.asg rfl rfl rfl ?_
  refine RL.finG ?_
  refine GL.weak (fun a w st => st.nilOwn 3 TR.int) ?_
  have hm := Option.some.inj hm
  subst hm
  exact GL.ret (Gx.ret (v := .tuple #[Value.slice none 0 0, .int .i64 (0 : Int)]) (res2 rfl rfl rfl) (fun a w st => (st.pick [1] (by decide) rfl).toPost (Value.slice none 0 0)))
 replace hm := ite_f b5 hm
 refine GL.skip ?_
 refine GL.seq ?_
 refine GL.region ?_
 refine RL.mv rfl rfl rfl ?_
 refine RL.mv rfl rfl rfl ?_
 refine RL.binI (v := .int .i64 (wadd x1 (1 : Int))) rfl rfl rfl rfl rfl ?_
 refine RL.mv rfl rfl rfl ?_
 refine RL.mv rfl rfl rfl ?_
 obtain ⟨y9, e10, hm⟩ := bind_some hm
 refine RL.call (vs := [v0, .int .i64 (wadd x1 (1 : Int)), .int .i64 x2, .int .i64 x3]) Try_fit48 rfl rfl rfl rfl rfl (fun S f w hS hW hi => rcm_c S w hS _ _ (hi 0 _ rfl) (wadd x1 (1 : Int)) x2 x3 _ e10) ?_
 intro v11
 refine RL.mv rfl rfl rfl ?_
 refine RL.ext rfl rfl rfl rfl ?_
 refine RL.ext rfl rfl rfl rfl ?_
 refine RL.asg rfl rfl rfl ?_
 refine RL.asg rfl rfl rfl ?_
 refine RL.finG ?_
 refine GL.seq ?_
 refine GL.region ?_
 refine RL.asg rfl rfl rfl ?_
 refine RL.finG ?_
 refine GL.seq ?_
 refine GL.seq ?_
 refine GL.region ?_
 refine RL.mv rfl rfl rfl ?_
 refine RL.mv rfl rfl rfl ?_
 refine RL.binI (v := .bool (x1 != x3)) rfl rfl rfl rfl rfl ?_
 refine RL.finG ?_
 obtain ⟨y87, K88, h89, h90, h91, h92, h93⟩ := bindR_K hm
 refine GL.join (ι := (List Int) × Int × Int × Value) (fun (p : (List Int) × Int × Int × Value) => [(10, p.2.2.2), (11, .int .i64 p.2.1), (12, .int .i64 p.2.2.1)]) (fun (p : (List Int) × Int × Int × Value) => [own 3 TR.int p.2.2.2 p.1]) (fun (p : (List Int) × Int × Int × Value) => K88 (.nx (p.1, p.2.1, p.2.2.1))) ?_ ?_
 ·skip
  refine GL.cond rfl (fun b94 => ?_) (fun b94 => ?_)
  ·replace h89 := ite_t b94 h89
   refine GL.seq ?_
   refine GL.region ?_
   refine RL.mv rfl rfl rfl ?_
   refine RL.mv rfl rfl rfl ?_
   obtain ⟨y98, e99, h89⟩ := bind_some h89
   refine RL.idxS (sz := 1) 0 Try.underlying42 Try_ln34 rfl rfl rfl rfl rfl SlOf.imm (idx_some e99).1 (idx_some e99).2.1 ?_
   refine RL.ldS (i := (x1).toNat) (r := (TR.sl TR.int)) (e' := y98) 0 Try_ln34 rfl rfl rfl rfl SlOf.imm (idx_some e99).2.2 Part.self ?_
   intro v100
   refine RL.reL (L' := [imm (TR.sl (TR.sl TR.int)) v0 x0, own 3 TR.int v11 y9.1, imm (TR.sl TR.int) v100 y98]) rfl ?_
   refine RL.lenS 2 Try.underlying34 rfl rfl rfl rfl SlOf.imm ?_
   refine RL.mv rfl rfl rfl ?_
   refine RL.finG ?_
   refine GL.open_ 2 rfl (fun S h => len_imm S h) (fun n125 => ?_)
   obtain ⟨y126, K127, h128, h129, h130, h131, h132⟩ := bindF_K h89
   refine GL.join (ι := (List Int) × Int × Int × Value) (fun (p : (List Int) × Int × Int × Value) => [(10, p.2.2.2), (11, .int .i64 p.2.1), (12, .int .i64 p.2.2.1)]) (fun (p : (List Int) × Int × Int × Value) => [own 3 TR.int p.2.2.2 p.1]) (fun (p : (List Int) × Int × Int × Value) => K127 (.nx (p.1, p.2.1, p.2.2.1))) ?_ ?_
   ·refine GL.block ?_
    refine GL.loop (ι := Nat × (List Int) × (List Int) × Int × Int × Value) (fun (p : Nat × (List Int) × (List Int) × Int × Int × Value) => [(0, v0), (1, .int .i64 x1), (2, .int .i64 x2), (3, .int .i64 x3), (10, p.2.2.2.2.2), (11, .int .i64 p.2.2.2.1), (12, .int .i64 p.2.2.2.2.1), (36, v100), (37, .int .i64 ((y98).length : Int)), (38, .int .i64 (p.1 : Int))]) (fun (p : Nat × (List Int) × (List Int) × Int × Int × Value) => [imm (TR.sl (TR.sl TR.int)) v0 x0, own 3 TR.int p.2.2.2.2.2 p.2.2.1, imm (TR.sl TR.int) v100 y98]) (fun (p : Nat × (List Int) × (List Int) × Int × Int × Value) => p.1 + p.2.1.length = (y98).length ∧ List.drop p.1 y98 = p.2.1 ∧ rangeL (groves_best_b1 x2 rcm x0 x1 x3) p.2.1 p.1 (p.2.2.1, p.2.2.2.1, p.2.2.2.2.1) = some y126) (fun (p : Nat × (List Int) × (List Int) × Int × Int × Value) => p.2.1.length) (0, y98, y9.1, y9.2, (-1 : Int), v11) ⟨by simp, by simp, h128⟩ (fun a w st => St.cut [0, 1, 2] ⟨rfl, rfl, rfl, rfl, rfl, rfl, rfl, rfl, rfl, rfl, trivial⟩ (by decide) rfl st) ?_
    rintro ⟨i133, r134, l101, x103, x104, v102⟩ ⟨h139, h140, h138⟩
    try dsimp only at h139 h140 h138
    refine GL.weak (env' := [(0, v0), (1, .int .i64 x1), (2, .int .i64 x2), (3, .int .i64 x3), (10, v102), (11, .int .i64 x103), (12, .int .i64 x104), (36, v100), (37, .int .i64 ((y98).length : Int)), (38, .int .i64 (i133 : Int))]) (L' := [imm (TR.sl (TR.sl TR.int)) v0 x0, own 3 TR.int v102 l101, imm (TR.sl TR.int) v100 y98]) (fun _ _ st => st) ?_
    refine GL.seq ?_
    refine GL.region ?_
    refine RL.binI (v := .bool (decide ((i133 : Int) < ((y98).length : Int)))) rfl rfl rfl rfl rfl ?_
    refine RL.finG ?_
    refine GL.seq ?_
    refine GL.cond rfl (fun b141 => ?_) (fun b141 => ?_)
    ·have h142 : i133 < (y98).length := by have := of_decide_eq_true b141; omega
     obtain ⟨y143, r145, hr, e144, h146⟩ := drop_cons h140 rfl h142
     subst hr
     obtain ⟨z135, h136, h137⟩ := rangeL_some h138
     unfold groves_best_b1 at h136
     try dsimp only at h136
     refine GL.skip ?_
     refine GL.seq ?_
     refine GL.block ?_
     refine GL.seq ?_
     refine GL.region ?_
     refine RL.mv rfl rfl rfl ?_
     refine RL.idxS (sz := 1) 2 Try.underlying34 Try_ln3 rfl rfl rfl rfl rfl SlOf.imm (by omega) (by omega) ?_
     refine RL.ldSx (i := i133) (e' := y143) 2 Ex.ik Try_ln3 rfl rfl rfl rfl SlOf.imm e144 Part.self ?_
     refine RL.asg rfl rfl rfl ?_
     refine RL.asg rfl rfl rfl ?_
     refine RL.finG ?_
     refine GL.seq ?_
     refine GL.region ?_
     refine RL.mv rfl rfl rfl ?_
     refine RL.mv rfl rfl rfl ?_
     obtain ⟨y149, e150, h136⟩ := bind_some h136
     replace e150 := chk_some e150
     refine RL.sh (by simp) rfl rfl rfl rfl e150 ?_
     refine RL.binI (v := .int .i64 (bits .and .i64 (Int.fdiv x2 (2 ^ (min (i133 : Int).toNat (IntKind.bits .i64)))) (1 : Int))) rfl rfl rfl rfl rfl ?_
     refine RL.binI (v := .bool ((bits .and .i64 (Int.fdiv x2 (2 ^ (min (i133 : Int).toNat (IntKind.bits .i64)))) (1 : Int)) == (0 : Int))) rfl rfl rfl rfl rfl ?_
     refine RL.finG ?_
     refine GL.cond rfl (fun b151 => ?_) (fun b151 => ?_)
     ·replace h136 := ite_t b151 h136
      refine GL.seq ?_
      refine GL.region ?_
      refine RL.mv rfl rfl rfl ?_
      refine RL.mv rfl rfl rfl ?_
      refine RL.binI (v := .int .i64 (wadd x1 (1 : Int))) rfl rfl rfl rfl rfl ?_
      refine RL.mv rfl rfl rfl ?_
      refine RL.mv rfl rfl rfl ?_
      obtain ⟨y157, e158, h136⟩ := bind_some h136
      replace e158 := chk_some e158
      refine RL.sh (by simp) rfl rfl rfl rfl e158 ?_
      refine RL.binI (v := .int .i64 (bits .or .i64 x2 (IntKind.wrap .i64 ((1 : Int) * 2 ^ (min (i133 : Int).toNat (IntKind.bits .i64)))))) rfl rfl rfl rfl rfl ?_
      refine RL.mv rfl rfl rfl ?_
      obtain ⟨y159, e160, h136⟩ := bind_some h136
      refine RL.call (vs := [v0, .int .i64 (wadd x1 (1 : Int)), .int .i64 (bits .or .i64 x2 (IntKind.wrap .i64 ((1 : Int) * 2 ^ (min (i133 : Int).toNat (IntKind.bits .i64))))), .int .i64 x3]) Try_fit48 rfl rfl rfl rfl rfl (fun S f w hS hW hi => rcm_c S w hS _ _ (hi 0 _ rfl) (wadd x1 (1 : Int)) (bits .or .i64 x2 (IntKind.wrap .i64 ((1 : Int) * 2 ^ (min (i133 : Int).toNat (IntKind.bits .i64))))) x3 _ e160) ?_
      intro v161
      refine RL.mv rfl rfl rfl ?_
      refine RL.ext rfl rfl rfl rfl ?_
      refine RL.ext rfl rfl rfl rfl ?_
      refine RL.asg rfl rfl rfl ?_
      refine RL.asg rfl rfl rfl ?_
      refine RL.finG ?_
      refine GL.seq ?_
      refine GL.region ?_
      refine RL.mv rfl rfl rfl ?_
      refine RL.mv rfl rfl rfl ?_
      refine RL.binI (v := .int .i64 (wadd y143 y159.2)) rfl rfl rfl rfl rfl ?_
      refine RL.mv rfl rfl rfl ?_
      refine RL.binI (v := .bool (decide ((wadd y143 y159.2) > x103))) rfl rfl rfl rfl rfl ?_
      refine RL.finG ?_
      refine GL.cond rfl (fun b162 => ?_) (fun b162 => ?_)
      ·replace h136 := ite_t b162 h136
       refine GL.region ?_
       refine RL.mv rfl rfl rfl ?_
       refine RL.mv rfl rfl rfl ?_
       refine RL.mv rfl rfl rfl ?_
       refine RL.binI (v := .int .i64 (wadd y143 y159.2)) rfl rfl rfl rfl rfl ?_
       refine RL.mv rfl rfl rfl ?_
       refine RL.asg rfl rfl rfl ?_
       refine RL.asg rfl rfl rfl ?_
       refine RL.asg rfl rfl rfl ?_
       refine RL.finG ?_
       refine GL.nilB ?_
       refine GL.region ?_
       refine RL.binI (v := .int .i64 ((i133 + 1 : Nat) : Int)) rfl rfl rfl rfl (binI_succ i133 (by omega)) ?_
       refine RL.mv rfl rfl rfl ?_
       refine RL.fin ?_
       cases h136
       exact fun a w st => lop_intro (i133 + 1, r145, y159.1, wadd y143 y159.2, (i133 : Int), v161) ⟨by show i133 + 1 + r145.length = (y98).length; simp only [List.length_cons] at h139; omega, h146, h137⟩ (by simp) (St.cut [0, 3, 2] ⟨rfl, rfl, rfl, rfl, rfl, rfl, rfl, rfl, rfl, rfl, trivial⟩ (by decide) rfl st)
      replace h136 := ite_f b162 h136
      refine GL.skip ?_
      refine GL.nilB ?_
      refine GL.region ?_
      refine RL.binI (v := .int .i64 ((i133 + 1 : Nat) : Int)) rfl rfl rfl rfl (binI_succ i133 (by omega)) ?_
      refine RL.mv rfl rfl rfl ?_
      refine RL.fin ?_
      cases h136
      exact fun a w st => lop_intro (i133 + 1, r145, l101, x103, x104, v102) ⟨by show i133 + 1 + r145.length = (y98).length; simp only [List.length_cons] at h139; omega, h146, h137⟩ (by simp) (St.cut [0, 1, 2] ⟨rfl, rfl, rfl, rfl, rfl, rfl, rfl, rfl, rfl, rfl, trivial⟩ (by decide) rfl st)
     replace h136 := ite_f b151 h136
     refine GL.skip ?_
     refine GL.nilB ?_
     refine GL.region ?_
     refine RL.binI (v := .int .i64 ((i133 + 1 : Nat) : Int)) rfl rfl rfl rfl (binI_succ i133 (by omega)) ?_
     refine RL.mv rfl rfl rfl ?_
     refine RL.fin ?_
     cases h136
     exact fun a w st => lop_intro (i133 + 1, r145, l101, x103, x104, v102) ⟨by show i133 + 1 + r145.length = (y98).length; simp only [List.length_cons] at h139; omega, h146, h137⟩ (by simp) (St.cut [0, 1, 2] ⟨rfl, rfl, rfl, rfl, rfl, rfl, rfl, rfl, rfl, rfl, trivial⟩ (by decide) rfl st)
    have h142 : ¬ i133 < (y98).length := by have := of_decide_eq_false b141; omega
    obtain rfl : r134 = [] := by rw [← h140]; exact List.drop_of_length_le (by omega)
    replace h138 : some (Fl.nx _) = some y126 := h138
    cases h138
    exact GL.exit (fun a w st => mid_intro (l101, x103, x104, v102) h129 (St.cut [1] ⟨rfl, rfl, rfl, trivial⟩ (by decide) rfl st))
   rintro ⟨l101, x103, x104, v102⟩ h163
   have h164 := h130 _ h163
   try dsimp only at h164
   refine GL.weak (env' := [(10, v102), (11, .int .i64 x103), (12, .int .i64 x104)]) (L' := [own 3 TR.int v102 l101]) (fun _ _ st => st) ?_
   cases h164
   exact fun a w st => mid_intro (l101, x103, x104, v102) h90 (St.cut [0] ⟨rfl, rfl, rfl, trivial⟩ (by decide) rfl st)
  replace h89 := ite_f b94 h89
  refine GL.skip ?_
  cases h89
  exact fun a w st => mid_intro (y9.1, y9.2, (-1 : Int), v11) h90 (St.cut [1] ⟨rfl, rfl, rfl, trivial⟩ (by decide) rfl st)
 rintro ⟨l83, x85, x86, v84⟩ h165
 have h166 := h91 _ h165
 try dsimp only at h166
 refine GL.weak (env' := [(10, v84), (11, .int .i64 x85), (12, .int .i64 x86)]) (L' := [own 3 TR.int v84 l83]) (fun _ _ st => st) ?_
 refine GL.seq ?_
 refine GL.region ?_
 refine RL.mv rfl rfl rfl ?_
 refine RL.bS (t := TR.int) (vs := [.int .i64 x86]) ([x86] : (List Int)) Try.underlying34 Try_lo3 rfl rfl rfl rfl ⟨VR.int, trivial⟩ rfl (by decide) ?_
 intro v171
 refine RL.mv rfl rfl rfl ?_
 obtain ⟨y172, e173, h166⟩ := bind_some h166
 replace e173 := chk_some e173
 refine RL.app 1 0 Try.underlying34 Try_lo3 rfl rfl rfl rfl rfl rfl rfl SlOf.own e173 ?_
 intro v174
 refine RL.reL (L' := [own 3 TR.int v84 l83, own 3 TR.int v174 (([x86] : (List Int)) ++ l83)]) rfl ?_
 refine RL.mv rfl rfl rfl ?_
 refine RL.asg rfl rfl rfl ?_
 refine RL.asg rfl rfl rfl ?_
 refine RL.finG ?_
 have h166 := Option.some.inj h166
 subst h166
 exact GL.ret (Gx.ret (v := .tuple #[v174, .int .i64 x85]) (res2 rfl rfl rfl) (fun a w st => (st.pick [1] (by decide) rfl).toPost v174))
theorem groves_best_cf : ∀ n, groves_best_C (groves_best_f n)
  | 0 => fun S w hS v0 x0 k0 x1 x2 x3 res hm => by cases hm
  | n + 1 => groves_best_cr (groves_best_f n) (groves_best_cf n)
theorem groves_best_c (S : Hp) (w : World) (hS : S.sub w) (v0 : Value) (x0 : (List (List Int))) (k0 : ((TR.sl (TR.sl TR.int))).vrep S v0 x0) (x1 : Int) (x2 : Int) (x3 : Int) (res : (List Int) × Int) (hm : groves_best_m x0 x1 x2 x3 = some res) : Calls Try.prog 48 #[v0, .int .i64 x1, .int .i64 x2, .int .i64 x3] w (Post w S (fun (o : Value) => .tuple #[o, .int .i64 res.2]) (fun (o : Value) => [own 3 TR.int o res.1])) := groves_best_cf 64 S w hS v0 x0 k0 x1 x2 x3 res hm

set_option maxHeartbeats 4000000 in
theorem groves_Share_c (S : Hp) (w : World) (hS : S.sub w) (v0 : Value) (x0 : (List (List Int))) (k0 : ((TR.sl (TR.sl TR.int))).vrep S v0 x0) (res : (List Int) × Int × Int) (hm : groves_Share_m x0 = some res) : Calls Try.prog 24 #[v0] w (Post w S (fun (o : Value) => .tuple #[o, .int .i64 res.2.1, .int .i64 res.2.2]) (fun (o : Value) => [own 3 TR.int o res.1])) := by
 refine calls_enter 20 Try.func24 Try.ntmps24 rfl S false [(0, v0)] [imm (TR.sl (TR.sl TR.int)) v0 x0] rfl ⟨rfl, trivial⟩ hS ⟨k0, trivial⟩ ?_
 unfold groves_Share_m at hm
 refine GL.seq ?_
 refine GL.region ?_
 refine RL.asg rfl rfl rfl ?_
 refine RL.asg rfl rfl rfl ?_
 refine RL.asg rfl rfl rfl ?_
 refine RL.finG ?_
 refine GL.seq ?_
 refine GL.seq ?_
 refine GL.region ?_
 refine RL.mv rfl rfl rfl ?_
 obtain ⟨y4, e5, hm⟩ := bind_some hm
 refine RL.callC (v := .int .i64 y4) (vs := [v0]) Try_fit47 rfl rfl rfl rfl (fun U w hU hW hL => groves_Check_c U w hU _ _ (hL 0 _ _ rfl Seen.imm) _ e5) ?_
 refine RL.asg rfl rfl rfl ?_
 refine RL.finG ?_
 refine GL.seq ?_
 refine GL.region ?_
 refine RL.mv rfl rfl rfl ?_
 refine RL.binI (v := .bool (y4 != (0 : Int))) rfl rfl rfl rfl rfl ?_
 refine RL.finG ?_
 refine GL.cond rfl (fun b6 => ?_) (fun b6 => ?_)
 ·replace hm := ite_t b6 hm
  refine GL.seq ?_
  refine GL.region ?_
  refine RL.mv rfl rfl rfl ?_
  refine RL.asg rfl rfl rfl ?_
  refine RL.asg rfl rfl rfl ?_
  refine RL.asg rfl rfl rfl ?_
  refine RL.finG ?_
  refine GL.weak (fun a w st => st.nilOwn 3 TR.int) ?_
  have hm := Option.some.inj hm
  subst hm
  exact GL.ret (Gx.ret (v := .tuple #[Value.slice none 0 0, .int .i64 (0 : Int), .int .i64 y4]) (res3 rfl rfl rfl rfl) (fun a w st => (st.pick [1] (by decide) rfl).toPost (Value.slice none 0 0)))
 replace hm := ite_f b6 hm
 refine GL.skip ?_
 refine GL.seq ?_
 refine GL.region ?_
 refine RL.mv rfl rfl rfl ?_
 obtain ⟨y10, e11, hm⟩ := bind_some hm
 refine RL.call (vs := [v0, .int .i64 (0 : Int), .int .i64 (0 : Int), .int .i64 (-1 : Int)]) Try_fit48 rfl rfl rfl rfl rfl (fun S f w hS hW hi => groves_best_c S w hS _ _ (hi 0 _ rfl) (0 : Int) (0 : Int) (-1 : Int) _ e11) ?_
 intro v12
 refine RL.mv rfl rfl rfl ?_
 refine RL.ext rfl rfl rfl rfl ?_
 refine RL.ext rfl rfl rfl rfl ?_
 refine RL.asg rfl rfl rfl ?_
 refine RL.asg rfl rfl rfl ?_
 refine RL.finG ?_
 refine GL.seq ?_
 refine GL.region ?_
 refine RL.mv rfl rfl rfl ?_
 refine RL.mv rfl rfl rfl ?_
 refine RL.asg rfl rfl rfl ?_
 refine RL.asg rfl rfl rfl ?_
 refine RL.asg rfl rfl rfl ?_
 refine RL.finG ?_
 have hm := Option.some.inj hm
 subst hm
 exact GL.ret (Gx.ret (v := .tuple #[v12, .int .i64 y10.2, .int .i64 (0 : Int)]) (res3 rfl rfl rfl rfl) (fun a w st => (st.pick [1] (by decide) rfl).toPost v12))

set_option maxHeartbeats 4000000 in
theorem groves_Pays_c (S : Hp) (w : World) (hS : S.sub w) (v0 : Value) (x0 : (List (List Int))) (k0 : ((TR.sl (TR.sl TR.int))).vrep S v0 x0) (res : (List Int) × Int) (hm : groves_Pays_m x0 = some res) : Calls Try.prog 25 #[v0] w (Post w S (fun (o : Value) => .tuple #[o, .int .i64 res.2]) (fun (o : Value) => [own 3 TR.int o res.1])) := by
 refine calls_enter 57 Try.func25 Try.ntmps25 rfl S false [(0, v0)] [imm (TR.sl (TR.sl TR.int)) v0 x0] rfl ⟨rfl, trivial⟩ hS ⟨k0, trivial⟩ ?_
 unfold groves_Pays_m at hm
 refine GL.seq ?_
 refine GL.region ?_
 refine RL.asg rfl rfl rfl ?_
 refine RL.asg rfl rfl rfl ?_
 refine RL.finG ?_
 refine GL.seq ?_
 refine GL.region ?_
 refine RL.mv rfl rfl rfl ?_
 obtain ⟨y5, e6, hm⟩ := bind_some hm
 refine RL.call (vs := [v0]) Try_fit24 rfl rfl rfl rfl rfl (fun S f w hS hW hi => groves_Share_c S w hS _ _ (hi 0 _ rfl) _ e6) ?_
 intro v7
 refine RL.mv rfl rfl rfl ?_
 refine RL.ext rfl rfl rfl rfl ?_
 refine RL.ext rfl rfl rfl rfl ?_
 refine RL.ext rfl rfl rfl rfl ?_
 refine RL.asg rfl rfl rfl ?_
 refine RL.asg rfl rfl rfl ?_
 refine RL.asg rfl rfl rfl ?_
 refine RL.finG ?_
 refine GL.seq ?_
 refine GL.seq ?_
 refine GL.region ?_
 refine RL.mv rfl rfl rfl ?_
 refine RL.binI (v := .bool (y5.2.2 != (0 : Int))) rfl rfl rfl rfl rfl ?_
 refine RL.finG ?_
 refine GL.cond rfl (fun b8 => ?_) (fun b8 => ?_)
 ·replace hm := ite_t b8 hm
  refine GL.seq ?_
  refine GL.region ?_
  refine RL.mv rfl rfl rfl ?_
  refine RL.asg rfl rfl rfl ?_
  refine RL.asg rfl rfl rfl ?_
  refine RL.finG ?_
  refine GL.weak (fun a w st => st.nilOwn 3 TR.int) ?_
  have hm := Option.some.inj hm
  subst hm
  exact GL.ret (Gx.ret (v := .tuple #[Value.slice none 0 0, .int .i64 y5.2.2]) (res2 rfl rfl rfl) (fun a w st => (st.pick [2] (by decide) rfl).toPost (Value.slice none 0 0)))
 replace hm := ite_f b8 hm
 refine GL.skip ?_
 refine GL.seq ?_
 refine GL.region ?_
 refine RL.mv rfl rfl rfl ?_
 refine RL.lenS 1 Try.underlying34 rfl rfl rfl rfl SlOf.own ?_
 obtain ⟨y12, e13, hm⟩ := bind_some hm
 replace e13 := chk_some e13
 refine RL.mkS (t := TR.int) (z := (0 : Int)) Try.underlying34 Try_lo3 (fun S => rfl) rfl rfl rfl rfl e13.1 e13.2 ?_
 intro v14
 refine RL.reL (L' := [imm (TR.sl (TR.sl TR.int)) v0 x0, own 3 TR.int v7 y5.1, own 3 TR.int v14 (List.replicate (((y5.1).length : Int)).toNat (0 : Int))]) rfl ?_
 refine RL.asg rfl rfl rfl ?_
 refine RL.finG ?_
 refine GL.seq ?_
 refine GL.seq ?_
 refine GL.region ?_
 refine RL.mv rfl rfl rfl ?_
 refine RL.lenS 1 Try.underlying34 rfl rfl rfl rfl SlOf.own ?_
 refine RL.mv rfl rfl rfl ?_
 refine RL.finG ?_
 refine GL.lenOwn 1 rfl (fun n108 => ?_)
 obtain ⟨y109, K110, h111, h112, h113, h114, h115⟩ := bindR_K hm
 refine GL.join (ι := (List Int)) (fun (p : (List Int)) => [(7, v14)]) (fun (p : (List Int)) => [own 3 TR.int v14 p]) (fun (p : (List Int)) => K110 (.nx p)) ?_ ?_
 ·refine GL.block ?_
  refine GL.loop (ι := Nat × Nat × (List Int)) (fun (p : Nat × Nat × (List Int)) => [(0, v0), (5, .int .i64 y5.2.1), (7, v14), (25, v7), (26, .int .i64 ((y5.1).length : Int)), (27, .int .i64 (p.1 : Int))]) (fun (p : Nat × Nat × (List Int)) => [imm (TR.sl (TR.sl TR.int)) v0 x0, own 3 TR.int v14 p.2.2, own 3 TR.int v7 y5.1]) (fun (p : Nat × Nat × (List Int)) => p.1 + p.2.1 = (y5.1).length ∧ rangeN (groves_Pays_b1 y5 x0) p.2.1 p.1 p.2.2 = some y109) (fun (p : Nat × Nat × (List Int)) => p.2.1) (0, (y5.1).length, (List.replicate (((y5.1).length : Int)).toNat (0 : Int))) ⟨by simp, h111⟩ (fun a w st => St.cut [0, 2, 1] ⟨rfl, rfl, rfl, rfl, rfl, rfl, trivial⟩ (by decide) rfl st) ?_
  rintro ⟨i116, r117, l61⟩ ⟨h122, h121⟩
  try dsimp only at h122 h121
  refine GL.weak (env' := [(0, v0), (5, .int .i64 y5.2.1), (7, v14), (25, v7), (26, .int .i64 ((y5.1).length : Int)), (27, .int .i64 (i116 : Int))]) (L' := [imm (TR.sl (TR.sl TR.int)) v0 x0, own 3 TR.int v14 l61, own 3 TR.int v7 y5.1]) (fun _ _ st => st) ?_
  refine GL.seq ?_
  refine GL.region ?_
  refine RL.binI (v := .bool (decide ((i116 : Int) < ((y5.1).length : Int)))) rfl rfl rfl rfl rfl ?_
  refine RL.finG ?_
  refine GL.seq ?_
  refine GL.cond rfl (fun b124 => ?_) (fun b124 => ?_)
  ·have h125 : i116 < (y5.1).length := by have := of_decide_eq_true b124; omega
   obtain ⟨r126, hr⟩ : ∃ m, r117 = m + 1 := ⟨r117 - 1, by omega⟩
   subst hr
   obtain ⟨z118, h119, h120⟩ := rangeN_some h121
   unfold groves_Pays_b1 at h119
   try dsimp only at h119
   refine GL.skip ?_
   refine GL.seq ?_
   refine GL.block ?_
   refine GL.seq ?_
   refine GL.region ?_
   refine RL.mv rfl rfl rfl ?_
   obtain ⟨y129, e130, h119⟩ := bind_some h119
   refine RL.idxS (sz := 1) 2 Try.underlying34 Try_ln3 rfl rfl rfl rfl rfl SlOf.own (idx_some e130).1 (idx_some e130).2.1 ?_
   refine RL.ldSx (i := i116) (e' := y129) 2 Ex.ik Try_ln3 rfl rfl rfl rfl SlOf.own (idx_some e130).2.2 Part.self ?_
   refine RL.asg rfl rfl rfl ?_
   refine RL.asg rfl rfl rfl ?_
   refine RL.finG ?_
   refine GL.seq ?_
   refine GL.region ?_
   refine RL.mv rfl rfl rfl ?_
   refine RL.mv rfl rfl rfl ?_
   obtain ⟨y134, e135, h119⟩ := bind_some h119
   refine RL.call (vs := [v0, .int .i64 (0 : Int), .int .i64 (0 : Int), .int .i64 (i116 : Int)]) Try_fit48 rfl rfl rfl rfl rfl (fun S f w hS hW hi => groves_best_c S w hS _ _ (hi 0 _ rfl) (0 : Int) (0 : Int) (i116 : Int) _ e135) ?_
   intro v136
   refine RL.mv rfl rfl rfl ?_
   refine RL.ext rfl rfl rfl rfl ?_
   refine RL.ext rfl rfl rfl rfl ?_
   refine RL.asg rfl rfl rfl ?_
   refine RL.asg rfl rfl rfl ?_
   refine RL.finG ?_
   refine GL.seq ?_
   refine GL.region ?_
   refine RL.asg rfl rfl rfl ?_
   refine RL.finG ?_
   refine GL.seq ?_
   refine GL.seq ?_
   refine GL.region ?_
   refine RL.mv rfl rfl rfl ?_
   refine RL.binI (v := .bool (decide (y129 ≥ (0 : Int)))) rfl rfl rfl rfl rfl ?_
   refine RL.finG ?_
   obtain ⟨y149, K150, h151, h152, h153, h154, h155⟩ := bindF_K h119
   refine GL.join (ι := Int) (fun (p : Int) => [(0, v0), (5, .int .i64 y5.2.1), (7, v14), (8, .int .i64 (i116 : Int)), (11, .int .i64 y134.2), (12, .int .i64 p), (25, v7), (26, .int .i64 ((y5.1).length : Int)), (27, .int .i64 (i116 : Int))]) (fun (p : Int) => [imm (TR.sl (TR.sl TR.int)) v0 x0, own 3 TR.int v14 l61, own 3 TR.int v7 y5.1]) (fun (p : Int) => K150 (.nx p)) ?_ ?_
   ·skip
    refine GL.cond rfl (fun b156 => ?_) (fun b156 => ?_)
    ·replace h151 := ite_t b156 h151
     refine GL.region ?_
     refine RL.mv rfl rfl rfl ?_
     refine RL.mv rfl rfl rfl ?_
     obtain ⟨y162, e163, h151⟩ := bind_some h151
     refine RL.idxS (sz := 1) 0 Try.underlying42 Try_ln34 rfl rfl rfl rfl rfl SlOf.imm (idx_some e163).1 (idx_some e163).2.1 ?_
     refine RL.ldS (i := i116) (r := (TR.sl TR.int)) (e' := y162) 0 Try_ln34 rfl rfl rfl rfl SlOf.imm (idx_some e163).2.2 Part.self ?_
     intro v164
     refine RL.reL (L' := [imm (TR.sl (TR.sl TR.int)) v0 x0, own 3 TR.int v14 l61, own 3 TR.int v7 y5.1, own 3 TR.int v136 y134.1, imm (TR.sl TR.int) v164 y162]) rfl ?_
     refine RL.mv rfl rfl rfl ?_
     obtain ⟨y165, e166, h151⟩ := bind_some h151
     refine RL.idxS (sz := 1) 4 Try.underlying34 Try_ln3 rfl rfl rfl rfl rfl SlOf.imm (idx_some e166).1 (idx_some e166).2.1 ?_
     refine RL.ldSx (i := (y129).toNat) (e' := y165) 4 Ex.ik Try_ln3 rfl rfl rfl rfl SlOf.imm (idx_some e166).2.2 Part.self ?_
     refine RL.asg rfl rfl rfl ?_
     refine RL.finG ?_
     cases h151
     exact fun a w st => mid_intro y165 h152 (St.cut [0, 1, 2] ⟨rfl, rfl, rfl, rfl, rfl, rfl, rfl, rfl, rfl, trivial⟩ (by decide) rfl st)
    replace h151 := ite_f b156 h151
    refine GL.skip ?_
    cases h151
    exact fun a w st => mid_intro (0 : Int) h152 (St.cut [0, 1, 2] ⟨rfl, rfl, rfl, rfl, rfl, rfl, rfl, rfl, rfl, trivial⟩ (by decide) rfl st)
   rintro x148 h167
   have h168 := h153 _ h167
   try dsimp only at h168
   refine GL.weak (env' := [(0, v0), (5, .int .i64 y5.2.1), (7, v14), (8, .int .i64 (i116 : Int)), (11, .int .i64 y134.2), (12, .int .i64 x148), (25, v7), (26, .int .i64 ((y5.1).length : Int)), (27, .int .i64 (i116 : Int))]) (L' := [imm (TR.sl (TR.sl TR.int)) v0 x0, own 3 TR.int v14 l61, own 3 TR.int v7 y5.1]) (fun _ _ st => st) ?_
   refine GL.region ?_
   refine RL.mv rfl rfl rfl ?_
   refine RL.mv rfl rfl rfl ?_
   refine RL.mv rfl rfl rfl ?_
   refine RL.mv rfl rfl rfl ?_
   refine RL.mv rfl rfl rfl ?_
   refine RL.binI (v := .int .i64 (wsub y5.2.1 x148)) rfl rfl rfl rfl rfl ?_
   refine RL.binI (v := .int .i64 (wsub y134.2 (wsub y5.2.1 x148))) rfl rfl rfl rfl rfl ?_
   obtain ⟨y171, e172, h168⟩ := bind_some h168
   refine RL.idxS (sz := 1) 1 Try.underlying34 Try_ln3 rfl rfl rfl rfl rfl SlOf.own (idx_some e172).1 (idx_some e172).2.1 ?_
   refine RL.stS (i := i116) (e' := wsub y134.2 (wsub y5.2.1 x148)) (e1 := wsub y134.2 (wsub y5.2.1 x148)) (r := TR.int) 1 Try_ln3 rfl rfl rfl rfl VR.int rfl (idx_some e172).2.2 Upd.self ?_
   refine RL.finG ?_
   refine GL.nilB ?_
   refine GL.region ?_
   refine RL.binI (v := .int .i64 ((i116 + 1 : Nat) : Int)) rfl rfl rfl rfl (binI_succ i116 (by omega)) ?_
   refine RL.mv rfl rfl rfl ?_
   refine RL.fin ?_
   cases h168
   exact fun a w st => lop_intro (i116 + 1, r126, (List.set l61 i116 (wsub y134.2 (wsub y5.2.1 x148)))) ⟨by show i116 + 1 + r126 = (y5.1).length; omega, h120⟩ (by simp) (St.cut [0, 1, 2] ⟨rfl, rfl, rfl, rfl, rfl, rfl, trivial⟩ (by decide) rfl st)
  have h125 : ¬ i116 < (y5.1).length := by have := of_decide_eq_false b124; omega
  obtain rfl : r117 = 0 := by omega
  replace h121 : some (Fl.nx _) = some y109 := h121
  cases h121
  exact GL.exit (fun a w st => mid_intro l61 h112 (St.cut [1] ⟨rfl, trivial⟩ (by decide) rfl st))
 rintro l61 h173
 have h174 := h113 _ h173
 try dsimp only at h174
 refine GL.weak (env' := [(7, v14)]) (L' := [own 3 TR.int v14 l61]) (fun _ _ st => st) ?_
 refine GL.seq ?_
 refine GL.region ?_
 refine RL.mv rfl rfl rfl ?_
 refine RL.asg rfl rfl rfl ?_
 refine RL.asg rfl rfl rfl ?_
 refine RL.finG ?_
 have h174 := Option.some.inj h174
 subst h174
 exact GL.ret (Gx.ret (v := .tuple #[v14, .int .i64 (0 : Int)]) (res2 rfl rfl rfl) (fun a w st => (st.pick [0] (by decide) rfl).toPost v14))

set_option maxHeartbeats 4000000 in
theorem slices_IndexFunc_api_Errno_api_Errno_c (S : Hp) (w : World) (hS : S.sub w) (v0 : Value) (x0 : (List Int)) (k0 : ((TR.sl TR.int)).vrep S v0 x0) (f1 : FuncId) (c1 : Array Value) (t1 : Fit Try.prog f1) (g1 : Int → Option Bool) (k1 : ∀ (U : Hp) (w' : World), Hp.le S U → U.sub w' → ∀ (a0 : Int) (rr : Bool), g1 a0 = some rr → Calls Try.prog f1 (#[.int .i64 a0] ++ c1) w' (PostV w' (.bool rr))) (res : Int) (hm : slices_IndexFunc_api_Errno_api_Errno_m x0 g1 = some res) : Calls Try.prog 55 #[v0, .func (.func f1) #[] c1] w (PostV w (.int .i64 res)) := by
 refine calls_enter 19 Try.func55 Try.ntmps55 rfl S false [(0, v0), (1, .func (.func f1) #[] c1)] [imm (TR.sl TR.int) v0 x0] rfl ⟨rfl, ⟨rfl, trivial⟩⟩ hS ⟨k0, trivial⟩ ?_
 unfold slices_IndexFunc_api_Errno_api_Errno_m at hm
 refine GL.seq ?_
 refine GL.region ?_
 refine RL.asg rfl rfl rfl ?_
 refine RL.finG ?_
 refine GL.seq ?_
 refine GL.seq ?_
 refine GL.region ?_
 refine RL.mv rfl rfl rfl ?_
 refine RL.lenS 0 Try.underlying80 rfl rfl rfl rfl SlOf.imm ?_
 refine RL.mv rfl rfl rfl ?_
 refine RL.finG ?_
 refine GL.open_ 0 rfl (fun S h => len_imm S h) (fun n12 => ?_)
 obtain ⟨y13, K14, h15, h16, h17, h18, h19⟩ := bindR_K hm
 refine GL.join (ι := Unit) (fun (p : Unit) => []) (fun (p : Unit) => []) (fun (p : Unit) => K14 (.nx ())) ?_ ?_
 ·refine GL.block ?_
  refine GL.loop (ι := Nat × (List Int)) (fun (p : Nat × (List Int)) => [(0, v0), (1, .func (.func f1) #[] c1), (7, .int .i64 ((x0).length : Int)), (8, .int .i64 (p.1 : Int))]) (fun (p : Nat × (List Int)) => [imm (TR.sl TR.int) v0 x0]) (fun (p : Nat × (List Int)) => p.1 + p.2.length = (x0).length ∧ List.drop p.1 x0 = p.2 ∧ rangeL (slices_IndexFunc_api_Errno_api_Errno_b1 g1) p.2 p.1 () = some y13) (fun (p : Nat × (List Int)) => p.2.length) (0, x0) ⟨by simp, by simp, h15⟩ (fun a w st => St.cut [0] ⟨rfl, rfl, rfl, rfl, trivial⟩ (by decide) rfl st) ?_
  rintro ⟨i20, r21⟩ ⟨h26, h27, h25⟩
  try dsimp only at h26 h27 h25
  refine GL.weak (env' := [(0, v0), (1, .func (.func f1) #[] c1), (7, .int .i64 ((x0).length : Int)), (8, .int .i64 (i20 : Int))]) (L' := [imm (TR.sl TR.int) v0 x0]) (fun _ _ st => st) ?_
  refine GL.seq ?_
  refine GL.region ?_
  refine RL.binI (v := .bool (decide ((i20 : Int) < ((x0).length : Int)))) rfl rfl rfl rfl rfl ?_
  refine RL.finG ?_
  refine GL.seq ?_
  refine GL.cond rfl (fun b28 => ?_) (fun b28 => ?_)
  ·have h29 : i20 < (x0).length := by have := of_decide_eq_true b28; omega
   obtain ⟨y30, r32, hr, e31, h33⟩ := drop_cons h27 rfl h29
   subst hr
   obtain ⟨z22, h23, h24⟩ := rangeL_some h25
   unfold slices_IndexFunc_api_Errno_api_Errno_b1 at h23
   try dsimp only at h23
   refine GL.skip ?_
   refine GL.seq ?_
   refine GL.block ?_
   refine GL.seq ?_
   refine GL.region ?_
   refine RL.mv rfl rfl rfl ?_
   refine RL.asg rfl rfl rfl ?_
   refine RL.finG ?_
   refine GL.seq ?_
   refine GL.region ?_
   refine RL.mv rfl rfl rfl ?_
   refine RL.mv rfl rfl rfl ?_
   refine RL.mv rfl rfl rfl ?_
   refine RL.idxS (sz := 1) 0 Try.underlying80 Try_ln24 rfl rfl rfl rfl rfl SlOf.imm (by omega) (by omega) ?_
   refine RL.ldSx (i := i20) (e' := y30) 0 Ex.ik Try_ln24 rfl rfl rfl rfl SlOf.imm e31 Part.self ?_
   obtain ⟨y36, e37, h23⟩ := bind_some h23
   refine RL.callV (v := .bool y36) (vs := [.int .i64 y30]) t1 rfl (Or.inl rfl) rfl rfl rfl rfl (fun U w hU hW hL => k1 U w hW hU y30 _ e37) ?_
   refine RL.finG ?_
   refine GL.cond rfl (fun b38 => ?_) (fun b38 => ?_)
   ·replace h23 := ite_t b38 h23
    refine GL.seq ?_
    refine GL.region ?_
    refine RL.mv rfl rfl rfl ?_
    refine RL.asg rfl rfl rfl ?_
    refine RL.finG ?_
    cases h23
    replace h24 : some (Fl.rt _) = some y13 := h24
    cases h24
    have hh := h18 _ h16
    subst hh
    exact GL.ret (Gx.ret (v := .int .i64 (i20 : Int)) (res1 rfl rfl) (fun a w st => st.toPostV))
   replace h23 := ite_f b38 h23
   refine GL.skip ?_
   refine GL.nilB ?_
   refine GL.region ?_
   refine RL.binI (v := .int .i64 ((i20 + 1 : Nat) : Int)) rfl rfl rfl rfl (binI_succ i20 (by omega)) ?_
   refine RL.mv rfl rfl rfl ?_
   refine RL.fin ?_
   cases h23
   exact fun a w st => lop_intro (i20 + 1, r32) ⟨by show i20 + 1 + r32.length = (x0).length; simp only [List.length_cons] at h26; omega, h33, h24⟩ (by simp) (St.cut [0] ⟨rfl, rfl, rfl, rfl, trivial⟩ (by decide) rfl st)
  have h29 : ¬ i20 < (x0).length := by have := of_decide_eq_false b28; omega
  obtain rfl : r21 = [] := by rw [← h27]; exact List.drop_of_length_le (by omega)
  replace h25 : some (Fl.nx _) = some y13 := h25
  cases h25
  exact GL.exit (fun a w st => mid_intro () h16 (St.cut [] trivial (by decide) rfl st))
 rintro ⟨⟩ h39
 have h40 := h17 _ h39
 try dsimp only at h40
 refine GL.weak (env' := []) (L' := []) (fun _ _ st => st) ?_
 refine GL.seq ?_
 refine GL.region ?_
 refine RL.asg rfl rfl rfl ?_
 refine RL.finG ?_
 have h40 := Option.some.inj h40
 subst h40
 exact GL.ret (Gx.ret (v := .int .i64 (-1 : Int)) (res1 rfl rfl) (fun a w st => st.toPostV))

set_option maxHeartbeats 4000000 in
theorem slices_ContainsFunc_api_Errno_api_Errno_c (S : Hp) (w : World) (hS : S.sub w) (v0 : Value) (x0 : (List Int)) (k0 : ((TR.sl TR.int)).vrep S v0 x0) (f1 : FuncId) (c1 : Array Value) (t1 : Fit Try.prog f1) (g1 : Int → Option Bool) (k1 : ∀ (U : Hp) (w' : World), Hp.le S U → U.sub w' → ∀ (a0 : Int) (rr : Bool), g1 a0 = some rr → Calls Try.prog f1 (#[.int .i64 a0] ++ c1) w' (PostV w' (.bool rr))) (res : Bool) (hm : slices_ContainsFunc_api_Errno_api_Errno_m x0 g1 = some res) : Calls Try.prog 49 #[v0, .func (.func f1) #[] c1] w (PostV w (.bool res)) := by
 refine calls_enter 9 Try.func49 Try.ntmps49 rfl S false [(0, v0), (1, .func (.func f1) #[] c1)] [imm (TR.sl TR.int) v0 x0] rfl ⟨rfl, ⟨rfl, trivial⟩⟩ hS ⟨k0, trivial⟩ ?_
 unfold slices_ContainsFunc_api_Errno_api_Errno_m at hm
 refine GL.seq ?_
 refine GL.region ?_
 refine RL.asg rfl rfl rfl ?_
 refine RL.finG ?_
 refine GL.seq ?_
 refine GL.region ?_
 refine RL.mv rfl rfl rfl ?_
 refine RL.mv rfl rfl rfl ?_
 obtain ⟨y5, e6, hm⟩ := bind_some hm
 refine RL.callV (v := .int .i64 y5) (vs := [v0, .func (.func f1) #[] c1]) Try_fit55 rfl (Or.inl rfl) rfl rfl rfl rfl (fun U w hU hW hL => slices_IndexFunc_api_Errno_api_Errno_c U w hU _ _ (hL 0 _ _ rfl Seen.imm) f1 c1 t1 g1 (fun U' w' hle => k1 U' w' (Hp.le_trans hW hle)) _ e6) ?_
 refine RL.binI (v := .bool (decide (y5 ≥ (0 : Int)))) rfl rfl rfl rfl rfl ?_
 refine RL.asg rfl rfl rfl ?_
 refine RL.finG ?_
 have hm := Option.some.inj hm
 subst hm
 exact GL.ret (Gx.ret (v := .bool (decide (y5 ≥ (0 : Int)))) (res1 rfl rfl) (fun a w st => st.toPostV))

set_option maxHeartbeats 4000000 in
theorem pk_good_1_c (S : Hp) (w : World) (hS : S.sub w) (x0 : Int) (res : Bool) (hm : pk_good_1_m x0 = some res) : Calls Try.prog 50 #[.int .i64 x0] w (PostC w (.bool res)) := by
 refine calls_enter 5 Try.func50 Try.ntmps50 rfl S true [(0, .int .i64 x0)] [] rfl ⟨rfl, trivial⟩ hS trivial ?_
 unfold pk_good_1_m at hm
 refine GL.seq ?_
 refine GL.region ?_
 refine RL.asg rfl rfl rfl ?_
 refine RL.finG ?_
 refine GL.seq ?_
 refine GL.region ?_
 refine RL.mv rfl rfl rfl ?_
 refine RL.binI (v := .bool (x0 != (0 : Int))) rfl rfl rfl rfl rfl ?_
 refine RL.asg rfl rfl rfl ?_
 refine RL.finG ?_
 have hm := Option.some.inj hm
 subst hm
 exact GL.ret (Gx.ret (v := .bool (x0 != (0 : Int))) (res1 rfl rfl) (fun a w st => st.toPostC rfl))

set_option maxHeartbeats 4000000 in
theorem pk_good_c (S : Hp) (w : World) (hS : S.sub w) (v0 : Value) (x0 : (List Int)) (k0 : ((TR.sl TR.int)).vrep S v0 x0) (res : Bool) (hm : pk_good_m x0 = some res) : Calls Try.prog 26 #[v0] w (PostV w (.bool res)) := by
 refine calls_enter 6 Try.func26 Try.ntmps26 rfl S false [(0, v0)] [imm (TR.sl TR.int) v0 x0] rfl ⟨rfl, trivial⟩ hS ⟨k0, trivial⟩ ?_
 unfold pk_good_m at hm
 refine GL.seq ?_
 refine GL.region ?_
 refine RL.asg rfl rfl rfl ?_
 refine RL.finG ?_
 refine GL.seq ?_
 refine GL.region ?_
 refine RL.mv rfl rfl rfl ?_
 obtain ⟨y4, e5, hm⟩ := bind_some hm
 refine RL.callV (v := .bool y4) (vs := [v0, .func (.func 50) #[] #[]]) Try_fit49 rfl (Or.inl rfl) rfl rfl rfl rfl (fun U w hU hW hL => slices_ContainsFunc_api_Errno_api_Errno_c U w hU _ _ (hL 0 _ _ rfl Seen.imm) 50 #[] Try_fit50 (fun a0 => pk_good_1_m a0) (fun U' w' hle hU' a0 rr hr => (pk_good_1_c U' w' hU' a0 rr hr).mono (fun _ _ z => z.toV)) _ e5) ?_
 refine RL.notB rfl rfl rfl ?_
 refine RL.asg rfl rfl rfl ?_
 refine RL.finG ?_
 have hm := Option.some.inj hm
 subst hm
 exact GL.ret (Gx.ret (v := .bool (!y4)) (res1 rfl rfl) (fun a w st => st.toPostV))

set_option maxHeartbeats 4000000 in
theorem slices_Equal_int_int_c (S : Hp) (w : World) (hS : S.sub w) (v0 : Value) (x0 : (List Int)) (k0 : ((TR.sl TR.int)).vrep S v0 x0) (v1 : Value) (x1 : (List Int)) (k1 : ((TR.sl TR.int)).vrep S v1 x1) (res : Bool) (hm : slices_Equal_int_int_m x0 x1 = some res) : Calls Try.prog 46 #[v0, v1] w (PostV w (.bool res)) := by
 refine calls_enter 26 Try.func46 Try.ntmps46 rfl S false [(0, v0), (1, v1)] [imm (TR.sl TR.int) v0 x0, imm (TR.sl TR.int) v1 x1] rfl ⟨rfl, ⟨rfl, trivial⟩⟩ hS ⟨k0, ⟨k1, trivial⟩⟩ ?_
 unfold slices_Equal_int_int_m at hm
 refine GL.seq ?_
 refine GL.region ?_
 refine RL.asg rfl rfl rfl ?_
 refine RL.finG ?_
 refine GL.seq ?_
 refine GL.seq ?_
 refine GL.region ?_
 refine RL.mv rfl rfl rfl ?_
 refine RL.lenS 0 Try.underlying34 rfl rfl rfl rfl SlOf.imm ?_
 refine RL.mv rfl rfl rfl ?_
 refine RL.lenS 1 Try.underlying34 rfl rfl rfl rfl SlOf.imm ?_
 refine RL.binI (v := .bool (((x0).length : Int) != ((x1).length : Int))) rfl rfl rfl rfl rfl ?_
 refine RL.finG ?_
 refine GL.cond rfl (fun b3 => ?_) (fun b3 => ?_)
 ·replace hm := ite_t b3 hm
  refine GL.seq ?_
  refine GL.region ?_
  refine RL.asg rfl rfl rfl ?_
  refine RL.finG ?_
  have hm := Option.some.inj hm
  subst hm
  exact GL.ret (Gx.ret (v := .bool false) (res1 rfl rfl) (fun a w st => st.toPostV))
 replace hm := ite_f b3 hm
 refine GL.skip ?_
 refine GL.seq ?_
 refine GL.seq ?_
 refine GL.region ?_
 refine RL.mv rfl rfl rfl ?_
 refine RL.lenS 0 Try.underlying34 rfl rfl rfl rfl SlOf.imm ?_
 refine RL.mv rfl rfl rfl ?_
 refine RL.finG ?_
 refine GL.open_ 0 rfl (fun S h => len_imm S h) (fun n13 => ?_)
 obtain ⟨y14, K15, h16, h17, h18, h19, h20⟩ := bindR_K hm
 refine GL.join (ι := Unit) (fun (p : Unit) => []) (fun (p : Unit) => []) (fun (p : Unit) => K15 (.nx ())) ?_ ?_
 ·refine GL.block ?_
  refine GL.loop (ι := Nat × (List Int)) (fun (p : Nat × (List Int)) => [(0, v0), (1, v1), (12, .int .i64 ((x0).length : Int)), (13, .int .i64 (p.1 : Int))]) (fun (p : Nat × (List Int)) => [imm (TR.sl TR.int) v0 x0, imm (TR.sl TR.int) v1 x1]) (fun (p : Nat × (List Int)) => p.1 + p.2.length = (x0).length ∧ List.drop p.1 x0 = p.2 ∧ rangeL (slices_Equal_int_int_b1 x1) p.2 p.1 () = some y14) (fun (p : Nat × (List Int)) => p.2.length) (0, x0) ⟨by simp, by simp, h16⟩ (fun a w st => St.cut [0, 1] ⟨rfl, rfl, rfl, rfl, trivial⟩ (by decide) rfl st) ?_
  rintro ⟨i21, r22⟩ ⟨h27, h28, h26⟩
  try dsimp only at h27 h28 h26
  refine GL.weak (env' := [(0, v0), (1, v1), (12, .int .i64 ((x0).length : Int)), (13, .int .i64 (i21 : Int))]) (L' := [imm (TR.sl TR.int) v0 x0, imm (TR.sl TR.int) v1 x1]) (fun _ _ st => st) ?_
  refine GL.seq ?_
  refine GL.region ?_
  refine RL.binI (v := .bool (decide ((i21 : Int) < ((x0).length : Int)))) rfl rfl rfl rfl rfl ?_
  refine RL.finG ?_
  refine GL.seq ?_
  refine GL.cond rfl (fun b29 => ?_) (fun b29 => ?_)
  ·have h30 : i21 < (x0).length := by have := of_decide_eq_true b29; omega
   obtain ⟨y31, r33, hr, e32, h34⟩ := drop_cons h28 rfl h30
   subst hr
   obtain ⟨z23, h24, h25⟩ := rangeL_some h26
   unfold slices_Equal_int_int_b1 at h24
   try dsimp only at h24
   refine GL.skip ?_
   refine GL.seq ?_
   refine GL.block ?_
   refine GL.seq ?_
   refine GL.region ?_
   refine RL.mv rfl rfl rfl ?_
   refine RL.asg rfl rfl rfl ?_
   refine RL.finG ?_
   refine GL.seq ?_
   refine GL.regionQ rfl rfl (by kernel_rfl) ?_
   refine RL.mv rfl rfl rfl ?_
   refine RL.mv rfl rfl rfl ?_
   refine RL.idxS (sz := 1) 0 Try.underlying34 Try_ln3 rfl rfl rfl rfl rfl SlOf.imm (by omega) (by omega) ?_
   refine RL.ldSx (i := i21) (e' := y31) 0 Ex.ik Try_ln3 rfl rfl rfl rfl SlOf.imm e32 Part.self ?_
   refine RL.mv rfl rfl rfl ?_
   refine RL.mv rfl rfl rfl ?_
   obtain ⟨y37, e38, h24⟩ := bind_some h24
   refine RL.idxS (sz := 1) 1 Try.underlying34 Try_ln3 rfl rfl rfl rfl rfl SlOf.imm (idx_some e38).1 (idx_some e38).2.1 ?_
   refine RL.ldSx (i := i21) (e' := y37) 1 Ex.ik Try_ln3 rfl rfl rfl rfl SlOf.imm (idx_some e38).2.2 Part.self ?_
   refine RL.binI (v := .bool (y31 != y37)) rfl rfl rfl rfl rfl ?_
   refine RL.finQG ?_
   refine GL.cond rfl (fun b39 => ?_) (fun b39 => ?_)
   ·replace h24 := ite_t b39 h24
    refine GL.seq ?_
    refine GL.region ?_
    refine RL.asg rfl rfl rfl ?_
    refine RL.finG ?_
    cases h24
    replace h25 : some (Fl.rt _) = some y14 := h25
    cases h25
    have hh := h19 _ h17
    subst hh
    exact GL.ret (Gx.ret (v := .bool false) (res1 rfl rfl) (fun a w st => st.toPostV))
   replace h24 := ite_f b39 h24
   refine GL.skip ?_
   refine GL.nilB ?_
   refine GL.region ?_
   refine RL.binI (v := .int .i64 ((i21 + 1 : Nat) : Int)) rfl rfl rfl rfl (binI_succ i21 (by omega)) ?_
   refine RL.mv rfl rfl rfl ?_
   refine RL.fin ?_
   cases h24
   exact fun a w st => lop_intro (i21 + 1, r33) ⟨by show i21 + 1 + r33.length = (x0).length; simp only [List.length_cons] at h27; omega, h34, h25⟩ (by simp) (St.cut [0, 1] ⟨rfl, rfl, rfl, rfl, trivial⟩ (by decide) rfl st)
  have h30 : ¬ i21 < (x0).length := by have := of_decide_eq_false b29; omega
  obtain rfl : r22 = [] := by rw [← h28]; exact List.drop_of_length_le (by omega)
  replace h26 : some (Fl.nx _) = some y14 := h26
  cases h26
  exact GL.exit (fun a w st => mid_intro () h17 (St.cut [] trivial (by decide) rfl st))
 rintro ⟨⟩ h40
 have h41 := h18 _ h40
 try dsimp only at h41
 refine GL.weak (env' := []) (L' := []) (fun _ _ st => st) ?_
 refine GL.seq ?_
 refine GL.region ?_
 refine RL.asg rfl rfl rfl ?_
 refine RL.finG ?_
 have h41 := Option.some.inj h41
 subst h41
 exact GL.ret (Gx.ret (v := .bool true) (res1 rfl rfl) (fun a w st => st.toPostV))

set_option maxHeartbeats 4000000 in
theorem pk_vickreys_c (S : Hp) (w : World) (hS : S.sub w)  (res : Bool) (hm : pk_vickreys_m = some res) : Calls Try.prog 22 #[] w (PostV w (.bool res)) := by
 refine calls_enter 39 Try.func22 Try.ntmps22 rfl S false [] [] rfl trivial hS trivial ?_
 unfold pk_vickreys_m at hm
 refine GL.seq ?_
 refine GL.region ?_
 refine RL.asg rfl rfl rfl ?_
 refine RL.finG ?_
 refine GL.seq ?_
 refine GL.region ?_
 refine RL.bS (t := TR.int) (vs := [.int .i64 (5 : Int), .int .i64 (4 : Int)]) ([(5 : Int), (4 : Int)] : (List Int)) Try.underlying34 Try_lo3 rfl rfl rfl rfl ⟨VR.int, ⟨VR.int, trivial⟩⟩ rfl (by decide) ?_
 intro v7
 refine RL.bS (t := TR.int) (vs := [.int .i64 (6 : Int), .int .i64 (1 : Int)]) ([(6 : Int), (1 : Int)] : (List Int)) Try.underlying34 Try_lo3 rfl rfl rfl rfl ⟨VR.int, ⟨VR.int, trivial⟩⟩ rfl (by decide) ?_
 intro v8
 refine RL.reL (L' := [own 3 TR.int v7 ([(5 : Int), (4 : Int)] : (List Int)), own 3 TR.int v8 ([(6 : Int), (1 : Int)] : (List Int))]) rfl ?_
 refine RL.weak (fun a w st => st.freeze 0 rfl) ?_
 refine RL.weak (fun a w st => st.freeze 1 rfl) ?_
 refine RL.bS (t := (TR.sl TR.int)) (vs := [v7, v8]) ([([(5 : Int), (4 : Int)] : (List Int)), ([(6 : Int), (1 : Int)] : (List Int))] : (List (List Int))) Try.underlying42 Try_lo34 rfl rfl rfl rfl ⟨(VR.item 0 rfl), ⟨(VR.item 1 rfl), trivial⟩⟩ rfl (by decide) ?_
 intro v9
 refine RL.reL (L' := [imm (TR.sl TR.int) v7 ([(5 : Int), (4 : Int)] : (List Int)), imm (TR.sl TR.int) v8 ([(6 : Int), (1 : Int)] : (List Int)), own 34 (TR.sl TR.int) v9 ([([(5 : Int), (4 : Int)] : (List Int)), ([(6 : Int), (1 : Int)] : (List Int))] : (List (List Int)))]) rfl ?_
 obtain ⟨y10, e11, hm⟩ := bind_some hm
 refine RL.callU (vs := [v9]) (LR := fun (o : Value) => [own 3 TR.int o y10.1]) (fun o => ⟨Loc.own TR.flatT_ik, trivial⟩) Try_fit24 rfl rfl rfl rfl rfl (fun U w hU hW hL => groves_Share_c U w hU _ _ (hL 2 _ _ rfl Seen.own) _ e11) ?_
 intro v12
 refine RL.mv rfl rfl rfl ?_
 refine RL.ext rfl rfl rfl rfl ?_
 refine RL.ext rfl rfl rfl rfl ?_
 refine RL.ext rfl rfl rfl rfl ?_
 refine RL.asg rfl rfl rfl ?_
 refine RL.asg rfl rfl rfl ?_
 refine RL.asg rfl rfl rfl ?_
 refine RL.finG ?_
 refine GL.seq ?_
 refine GL.region ?_
 refine RL.bS (t := TR.int) (vs := [.int .i64 (5 : Int), .int .i64 (4 : Int)]) ([(5 : Int), (4 : Int)] : (List Int)) Try.underlying34 Try_lo3 rfl rfl rfl rfl ⟨VR.int, ⟨VR.int, trivial⟩⟩ rfl (by decide) ?_
 intro v19
 refine RL.bS (t := TR.int) (vs := [.int .i64 (6 : Int), .int .i64 (1 : Int)]) ([(6 : Int), (1 : Int)] : (List Int)) Try.underlying34 Try_lo3 rfl rfl rfl rfl ⟨VR.int, ⟨VR.int, trivial⟩⟩ rfl (by decide) ?_
 intro v20
 refine RL.reL (L' := [imm (TR.sl TR.int) v7 ([(5 : Int), (4 : Int)] : (List Int)), imm (TR.sl TR.int) v8 ([(6 : Int), (1 : Int)] : (List Int)), own 34 (TR.sl TR.int) v9 ([([(5 : Int), (4 : Int)] : (List Int)), ([(6 : Int), (1 : Int)] : (List Int))] : (List (List Int))), own 3 TR.int v12 y10.1, own 3 TR.int v19 ([(5 : Int), (4 : Int)] : (List Int)), own 3 TR.int v20 ([(6 : Int), (1 : Int)] : (List Int))]) rfl ?_
 refine RL.weak (fun a w st => st.freeze 4 rfl) ?_
 refine RL.weak (fun a w st => st.freeze 5 rfl) ?_
 refine RL.bS (t := (TR.sl TR.int)) (vs := [v19, v20]) ([([(5 : Int), (4 : Int)] : (List Int)), ([(6 : Int), (1 : Int)] : (List Int))] : (List (List Int))) Try.underlying42 Try_lo34 rfl rfl rfl rfl ⟨(VR.item 4 rfl), ⟨(VR.item 5 rfl), trivial⟩⟩ rfl (by decide) ?_
 intro v21
 refine RL.reL (L' := [imm (TR.sl TR.int) v7 ([(5 : Int), (4 : Int)] : (List Int)), imm (TR.sl TR.int) v8 ([(6 : Int), (1 : Int)] : (List Int)), own 34 (TR.sl TR.int) v9 ([([(5 : Int), (4 : Int)] : (List Int)), ([(6 : Int), (1 : Int)] : (List Int))] : (List (List Int))), own 3 TR.int v12 y10.1, imm (TR.sl TR.int) v19 ([(5 : Int), (4 : Int)] : (List Int)), imm (TR.sl TR.int) v20 ([(6 : Int), (1 : Int)] : (List Int)), own 34 (TR.sl TR.int) v21 ([([(5 : Int), (4 : Int)] : (List Int)), ([(6 : Int), (1 : Int)] : (List Int))] : (List (List Int)))]) rfl ?_
 obtain ⟨y22, e23, hm⟩ := bind_some hm
 refine RL.callU (vs := [v21]) (LR := fun (o : Value) => [own 3 TR.int o y22.1]) (fun o => ⟨Loc.own TR.flatT_ik, trivial⟩) Try_fit25 rfl rfl rfl rfl rfl (fun U w hU hW hL => groves_Pays_c U w hU _ _ (hL 6 _ _ rfl Seen.own) _ e23) ?_
 intro v24
 refine RL.mv rfl rfl rfl ?_
 refine RL.ext rfl rfl rfl rfl ?_
 refine RL.ext rfl rfl rfl rfl ?_
 refine RL.asg rfl rfl rfl ?_
 refine RL.asg rfl rfl rfl ?_
 refine RL.finG ?_
 refine GL.seq ?_
 obtain ⟨y50, K51, h52, h53, h54, h55, h56⟩ := bindR_K hm
 refine GL.join (ι := Bool) (fun (p : Bool) => [(0, .bool p)]) (fun (p : Bool) => []) (fun (p : Bool) => K51 (.nx p)) ?_ ?_
 ·skip
  refine GL.region ?_
  refine RL.mv rfl rfl rfl ?_
  refine RL.mv rfl rfl rfl ?_
  refine RL.bS (t := TR.int) (vs := [.int .i64 y10.2.2, .int .i64 y22.2]) ([y10.2.2, y22.2] : (List Int)) Try.underlying80 Try_lo24 rfl rfl rfl rfl ⟨VR.int, ⟨VR.int, trivial⟩⟩ rfl (by decide) ?_
  intro v57
  obtain ⟨y58, e59, h52⟩ := bind_some h52
  refine RL.callV (v := .bool y58) (vs := [v57]) Try_fit26 rfl (Or.inl rfl) rfl rfl rfl rfl (fun U w hU hW hL => pk_good_c U w hU _ _ (hL 8 _ _ rfl Seen.own) _ e59) ?_
  refine RL.mv rfl rfl rfl ?_
  refine RL.split (t := 25) rfl (fun b60 => ?_) (fun b60 => ?_)
  ·replace h52 := ite_t b60 h52
   refine RL.mv rfl rfl rfl ?_
   refine RL.bS (t := TR.int) (vs := [.int .i64 (1 : Int), .int .i64 (0 : Int)]) ([(1 : Int), (0 : Int)] : (List Int)) Try.underlying34 Try_lo3 rfl rfl rfl rfl ⟨VR.int, ⟨VR.int, trivial⟩⟩ rfl (by decide) ?_
   intro v61
   refine RL.reL (L' := [imm (TR.sl TR.int) v7 ([(5 : Int), (4 : Int)] : (List Int)), imm (TR.sl TR.int) v8 ([(6 : Int), (1 : Int)] : (List Int)), own 34 (TR.sl TR.int) v9 ([([(5 : Int), (4 : Int)] : (List Int)), ([(6 : Int), (1 : Int)] : (List Int))] : (List (List Int))), own 3 TR.int v12 y10.1, imm (TR.sl TR.int) v19 ([(5 : Int), (4 : Int)] : (List Int)), imm (TR.sl TR.int) v20 ([(6 : Int), (1 : Int)] : (List Int)), own 34 (TR.sl TR.int) v21 ([([(5 : Int), (4 : Int)] : (List Int)), ([(6 : Int), (1 : Int)] : (List Int))] : (List (List Int))), own 3 TR.int v24 y22.1, own 24 TR.int v57 ([y10.2.2, y22.2] : (List Int)), own 3 TR.int v61 ([(1 : Int), (0 : Int)] : (List Int))]) rfl ?_
   obtain ⟨y62, e63, h52⟩ := bind_some h52
   refine RL.callV (v := .bool y62) (vs := [v12, v61]) Try_fit46 rfl (Or.inl rfl) rfl rfl rfl rfl (fun U w hU hW hL => slices_Equal_int_int_c U w hU _ _ (hL 3 _ _ rfl Seen.own) _ _ (hL 9 _ _ rfl Seen.own) _ e63) ?_
   refine RL.pickT rfl rfl rfl rfl ?_
   refine RL.mv rfl rfl rfl ?_
   refine RL.split (t := 30) rfl (fun b64 => ?_) (fun b64 => ?_)
   ·replace h52 := ite_t b64 h52
    refine RL.mv rfl rfl rfl ?_
    refine RL.binI (v := .bool (y10.2.1 == (10 : Int))) rfl rfl rfl rfl rfl ?_
    refine RL.pickT rfl rfl rfl rfl ?_
    refine RL.mv rfl rfl rfl ?_
    refine RL.split (t := 34) rfl (fun b65 => ?_) (fun b65 => ?_)
    ·replace h52 := ite_t b65 h52
     refine RL.mv rfl rfl rfl ?_
     refine RL.bS (t := TR.int) (vs := [.int .i64 (0 : Int), .int .i64 (1 : Int)]) ([(0 : Int), (1 : Int)] : (List Int)) Try.underlying34 Try_lo3 rfl rfl rfl rfl ⟨VR.int, ⟨VR.int, trivial⟩⟩ rfl (by decide) ?_
     intro v66
     obtain ⟨y67, e68, h52⟩ := bind_some h52
     refine RL.callV (v := .bool y67) (vs := [v24, v66]) Try_fit46 rfl (Or.inl rfl) rfl rfl rfl rfl (fun U w hU hW hL => slices_Equal_int_int_c U w hU _ _ (hL 7 _ _ rfl Seen.own) _ _ (hL 10 _ _ rfl Seen.own) _ e68) ?_
     refine RL.pickT rfl rfl rfl rfl ?_
     refine RL.asg rfl rfl rfl ?_
     refine RL.fin ?_
     cases h52
     exact fun a w st => mid_intro y67 h53 (St.cut [] ⟨rfl, trivial⟩ (by decide) rfl st)
    replace h52 := ite_f b65 h52
    refine RL.skip rfl rfl ?_
    refine RL.skip rfl rfl ?_
    refine RL.skip rfl rfl ?_
    refine RL.pickF rfl rfl rfl rfl ?_
    refine RL.asg rfl rfl rfl ?_
    refine RL.fin ?_
    cases h52
    exact fun a w st => mid_intro false h53 (St.cut [] ⟨rfl, trivial⟩ (by decide) rfl st)
   replace h52 := ite_f b64 h52
   refine RL.skip rfl rfl ?_
   refine RL.skip rfl rfl ?_
   refine RL.pickF rfl rfl rfl rfl ?_
   refine RL.mv rfl rfl rfl ?_
   refine RL.skip rfl rfl ?_
   refine RL.skip rfl rfl ?_
   refine RL.skip rfl rfl ?_
   refine RL.pickF rfl rfl rfl rfl ?_
   refine RL.asg rfl rfl rfl ?_
   refine RL.fin ?_
   cases h52
   exact fun a w st => mid_intro false h53 (St.cut [] ⟨rfl, trivial⟩ (by decide) rfl st)
  replace h52 := ite_f b60 h52
  refine RL.skip rfl rfl ?_
  refine RL.skip rfl rfl ?_
  refine RL.skip rfl rfl ?_
  refine RL.pickF rfl rfl rfl rfl ?_
  refine RL.mv rfl rfl rfl ?_
  refine RL.skip rfl rfl ?_
  refine RL.skip rfl rfl ?_
  refine RL.pickF rfl rfl rfl rfl ?_
  refine RL.mv rfl rfl rfl ?_
  refine RL.skip rfl rfl ?_
  refine RL.skip rfl rfl ?_
  refine RL.skip rfl rfl ?_
  refine RL.pickF rfl rfl rfl rfl ?_
  refine RL.asg rfl rfl rfl ?_
  refine RL.fin ?_
  cases h52
  exact fun a w st => mid_intro false h53 (St.cut [] ⟨rfl, trivial⟩ (by decide) rfl st)
 rintro x49 h69
 have h70 := h54 _ h69
 try dsimp only at h70
 refine GL.weak (env' := [(0, .bool x49)]) (L' := []) (fun _ _ st => st) ?_
 have h70 := Option.some.inj h70
 subst h70
 exact GL.ret (Gx.ret (v := .bool x49) (res1 rfl rfl) (fun a w st => st.toPostV))

set_option maxHeartbeats 4000000 in
theorem auction_Check_c (S : Hp) (w : World) (hS : S.sub w) (v0 : Value) (x0 : (List Int)) (k0 : ((TR.sl TR.int)).vrep S v0 x0) (x1 : Int) (res : Int) (hm : auction_Check_m x0 x1 = some res) : Calls Try.prog 51 #[v0, .int .i64 x1] w (PostC w (.int .i64 res)) := by
 refine calls_enter 29 Try.func51 Try.ntmps51 rfl S true [(0, v0), (1, .int .i64 x1)] [imm (TR.sl TR.int) v0 x0] rfl ⟨rfl, ⟨rfl, trivial⟩⟩ hS ⟨k0, trivial⟩ ?_
 unfold auction_Check_m at hm
 refine GL.seq ?_
 refine GL.region ?_
 refine RL.asg rfl rfl rfl ?_
 refine RL.finG ?_
 refine GL.seq ?_
 refine GL.seq ?_
 refine GL.region ?_
 refine RL.mv rfl rfl rfl ?_
 refine RL.lenS 0 Try.underlying34 rfl rfl rfl rfl SlOf.imm ?_
 refine RL.binI (v := .bool (decide (((x0).length : Int) > (10 : Int)))) rfl rfl rfl rfl rfl ?_
 refine RL.finG ?_
 refine GL.cond rfl (fun b3 => ?_) (fun b3 => ?_)
 ·replace hm := ite_t b3 hm
  refine GL.seq ?_
  refine GL.region ?_
  refine RL.asg rfl rfl rfl ?_
  refine RL.finG ?_
  have hm := Option.some.inj hm
  subst hm
  exact GL.ret (Gx.ret (v := .int .i64 (2 : Int)) (res1 rfl rfl) (fun a w st => st.toPostC rfl))
 replace hm := ite_f b3 hm
 refine GL.skip ?_
 refine GL.seq ?_
 refine GL.seq ?_
 refine GL.region ?_
 refine RL.mv rfl rfl rfl ?_
 refine RL.lenS 0 Try.underlying34 rfl rfl rfl rfl SlOf.imm ?_
 refine RL.mv rfl rfl rfl ?_
 refine RL.finG ?_
 refine GL.open_ 0 rfl (fun S h => len_imm S h) (fun n22 => ?_)
 obtain ⟨y23, K24, h25, h26, h27, h28, h29⟩ := bindR_K hm
 refine GL.join (ι := Unit) (fun (p : Unit) => [(1, .int .i64 x1)]) (fun (p : Unit) => []) (fun (p : Unit) => K24 (.nx ())) ?_ ?_
 ·refine GL.block ?_
  refine GL.loop (ι := Nat × (List Int)) (fun (p : Nat × (List Int)) => [(1, .int .i64 x1), (10, v0), (11, .int .i64 ((x0).length : Int)), (12, .int .i64 (p.1 : Int))]) (fun (p : Nat × (List Int)) => [imm (TR.sl TR.int) v0 x0]) (fun (p : Nat × (List Int)) => p.1 + p.2.length = (x0).length ∧ List.drop p.1 x0 = p.2 ∧ rangeL auction_Check_b1 p.2 p.1 () = some y23) (fun (p : Nat × (List Int)) => p.2.length) (0, x0) ⟨by simp, by simp, h25⟩ (fun a w st => St.cut [0] ⟨rfl, rfl, rfl, rfl, trivial⟩ (by decide) rfl st) ?_
  rintro ⟨i30, r31⟩ ⟨h36, h37, h35⟩
  try dsimp only at h36 h37 h35
  refine GL.weak (env' := [(1, .int .i64 x1), (10, v0), (11, .int .i64 ((x0).length : Int)), (12, .int .i64 (i30 : Int))]) (L' := [imm (TR.sl TR.int) v0 x0]) (fun _ _ st => st) ?_
  refine GL.seq ?_
  refine GL.region ?_
  refine RL.binI (v := .bool (decide ((i30 : Int) < ((x0).length : Int)))) rfl rfl rfl rfl rfl ?_
  refine RL.finG ?_
  refine GL.seq ?_
  refine GL.cond rfl (fun b38 => ?_) (fun b38 => ?_)
  ·have h39 : i30 < (x0).length := by have := of_decide_eq_true b38; omega
   obtain ⟨y40, r42, hr, e41, h43⟩ := drop_cons h37 rfl h39
   subst hr
   obtain ⟨z32, h33, h34⟩ := rangeL_some h35
   unfold auction_Check_b1 at h33
   try dsimp only at h33
   refine GL.skip ?_
   refine GL.seq ?_
   refine GL.block ?_
   refine GL.seq ?_
   refine GL.region ?_
   refine RL.idxS (sz := 1) 0 Try.underlying34 Try_ln3 rfl rfl rfl rfl rfl SlOf.imm (by omega) (by omega) ?_
   refine RL.ldSx (i := i30) (e' := y40) 0 Ex.ik Try_ln3 rfl rfl rfl rfl SlOf.imm e41 Part.self ?_
   refine RL.asg rfl rfl rfl ?_
   refine RL.finG ?_
   refine GL.seq ?_
   obtain ⟨y47, K48, h49, h50, h51, h52, h53⟩ := bindF_K h33
   refine GL.join (ι := Bool) (fun (p : Bool) => [(1, .int .i64 x1), (10, v0), (11, .int .i64 ((x0).length : Int)), (12, .int .i64 (i30 : Int)), (21, .bool p)]) (fun (p : Bool) => [imm (TR.sl TR.int) v0 x0]) (fun (p : Bool) => K48 (.nx p)) ?_ ?_
   ·skip
    refine GL.region ?_
    refine RL.mv rfl rfl rfl ?_
    refine RL.binI (v := .bool (decide (y40 < (0 : Int)))) rfl rfl rfl rfl rfl ?_
    refine RL.mv rfl rfl rfl ?_
    refine RL.split (t := 18) rfl (fun b54 => ?_) (fun b54 => ?_)
    ·replace h49 := ite_t b54 h49
     refine RL.skip rfl rfl ?_
     refine RL.skip rfl rfl ?_
     refine RL.pickT rfl rfl rfl rfl ?_
     refine RL.fin ?_
     cases h49
     exact fun a w st => mid_intro true h50 (St.cut [0] ⟨rfl, rfl, rfl, rfl, rfl, trivial⟩ (by decide) rfl st)
    replace h49 := ite_f b54 h49
    refine RL.mv rfl rfl rfl ?_
    refine RL.binI (v := .bool (decide (y40 > (1000000 : Int)))) rfl rfl rfl rfl rfl ?_
    refine RL.pickF rfl rfl rfl rfl ?_
    refine RL.fin ?_
    cases h49
    exact fun a w st => mid_intro (decide (y40 > (1000000 : Int))) h50 (St.cut [0] ⟨rfl, rfl, rfl, rfl, rfl, trivial⟩ (by decide) rfl st)
   rintro x46 h55
   have h56 := h51 _ h55
   try dsimp only at h56
   refine GL.weak (env' := [(1, .int .i64 x1), (10, v0), (11, .int .i64 ((x0).length : Int)), (12, .int .i64 (i30 : Int)), (21, .bool x46)]) (L' := [imm (TR.sl TR.int) v0 x0]) (fun _ _ st => st) ?_
   refine GL.cond rfl (fun b57 => ?_) (fun b57 => ?_)
   ·replace h56 := ite_t b57 h56
    refine GL.seq ?_
    refine GL.region ?_
    refine RL.asg rfl rfl rfl ?_
    refine RL.finG ?_
    cases h56
    replace h34 : some (Fl.rt _) = some y23 := h34
    cases h34
    have hh := h28 _ h26
    subst hh
    exact GL.ret (Gx.ret (v := .int .i64 (1 : Int)) (res1 rfl rfl) (fun a w st => st.toPostC rfl))
   replace h56 := ite_f b57 h56
   refine GL.skip ?_
   refine GL.nilB ?_
   refine GL.region ?_
   refine RL.binI (v := .int .i64 ((i30 + 1 : Nat) : Int)) rfl rfl rfl rfl (binI_succ i30 (by omega)) ?_
   refine RL.mv rfl rfl rfl ?_
   refine RL.fin ?_
   cases h56
   exact fun a w st => lop_intro (i30 + 1, r42) ⟨by show i30 + 1 + r42.length = (x0).length; simp only [List.length_cons] at h36; omega, h43, h34⟩ (by simp) (St.cut [0] ⟨rfl, rfl, rfl, rfl, trivial⟩ (by decide) rfl st)
  have h39 : ¬ i30 < (x0).length := by have := of_decide_eq_false b38; omega
  obtain rfl : r31 = [] := by rw [← h37]; exact List.drop_of_length_le (by omega)
  replace h35 : some (Fl.nx _) = some y23 := h35
  cases h35
  exact GL.exit (fun a w st => mid_intro () h26 (St.cut [] ⟨rfl, trivial⟩ (by decide) rfl st))
 rintro ⟨⟩ h58
 have h59 := h27 _ h58
 try dsimp only at h59
 refine GL.weak (env' := [(1, .int .i64 x1)]) (L' := []) (fun _ _ st => st) ?_
 refine GL.seq ?_
 refine GL.seq ?_
 obtain ⟨y63, K64, h65, h66, h67, h68, h69⟩ := bindR_K h59
 refine GL.join (ι := Bool) (fun (p : Bool) => [(28, .bool p)]) (fun (p : Bool) => []) (fun (p : Bool) => K64 (.nx p)) ?_ ?_
 ·skip
  refine GL.region ?_
  refine RL.mv rfl rfl rfl ?_
  refine RL.binI (v := .bool (decide (x1 < (0 : Int)))) rfl rfl rfl rfl rfl ?_
  refine RL.mv rfl rfl rfl ?_
  refine RL.split (t := 25) rfl (fun b70 => ?_) (fun b70 => ?_)
  ·replace h65 := ite_t b70 h65
   refine RL.skip rfl rfl ?_
   refine RL.skip rfl rfl ?_
   refine RL.pickT rfl rfl rfl rfl ?_
   refine RL.fin ?_
   cases h65
   exact fun a w st => mid_intro true h66 (St.cut [] ⟨rfl, trivial⟩ (by decide) rfl st)
  replace h65 := ite_f b70 h65
  refine RL.mv rfl rfl rfl ?_
  refine RL.binI (v := .bool (decide (x1 > (1000000 : Int)))) rfl rfl rfl rfl rfl ?_
  refine RL.pickF rfl rfl rfl rfl ?_
  refine RL.fin ?_
  cases h65
  exact fun a w st => mid_intro (decide (x1 > (1000000 : Int))) h66 (St.cut [] ⟨rfl, trivial⟩ (by decide) rfl st)
 rintro x62 h71
 have h72 := h67 _ h71
 try dsimp only at h72
 refine GL.weak (env' := [(28, .bool x62)]) (L' := []) (fun _ _ st => st) ?_
 refine GL.cond rfl (fun b73 => ?_) (fun b73 => ?_)
 ·replace h72 := ite_t b73 h72
  refine GL.seq ?_
  refine GL.region ?_
  refine RL.asg rfl rfl rfl ?_
  refine RL.finG ?_
  have h72 := Option.some.inj h72
  subst h72
  exact GL.ret (Gx.ret (v := .int .i64 (1 : Int)) (res1 rfl rfl) (fun a w st => st.toPostC rfl))
 replace h72 := ite_f b73 h72
 refine GL.skip ?_
 refine GL.seq ?_
 refine GL.region ?_
 refine RL.asg rfl rfl rfl ?_
 refine RL.finG ?_
 have h72 := Option.some.inj h72
 subst h72
 exact GL.ret (Gx.ret (v := .int .i64 (0 : Int)) (res1 rfl rfl) (fun a w st => st.toPostC rfl))

set_option maxHeartbeats 4000000 in
theorem auction_two_c (S : Hp) (w : World) (hS : S.sub w) (v0 : Value) (x0 : (List Int)) (k0 : ((TR.sl TR.int)).vrep S v0 x0) (x1 : Int) (res : Int × Int) (hm : auction_two_m x0 x1 = some res) : Calls Try.prog 52 #[v0, .int .i64 x1] w (PostC w (.tuple #[.int .i64 res.1, .int .i64 res.2])) := by
 refine calls_enter 53 Try.func52 Try.ntmps52 rfl S true [(0, v0), (1, .int .i64 x1)] [imm (TR.sl TR.int) v0 x0] rfl ⟨rfl, ⟨rfl, trivial⟩⟩ hS ⟨k0, trivial⟩ ?_
 unfold auction_two_m at hm
 refine GL.seq ?_
 refine GL.region ?_
 refine RL.asg rfl rfl rfl ?_
 refine RL.asg rfl rfl rfl ?_
 refine RL.finG ?_
 refine GL.seq ?_
 refine GL.region ?_
 refine RL.asg rfl rfl rfl ?_
 refine RL.finG ?_
 refine GL.seq ?_
 refine GL.seq ?_
 refine GL.region ?_
 refine RL.mv rfl rfl rfl ?_
 refine RL.lenS 0 Try.underlying34 rfl rfl rfl rfl SlOf.imm ?_
 refine RL.mv rfl rfl rfl ?_
 refine RL.finG ?_
 refine GL.open_ 0 rfl (fun S h => len_imm S h) (fun n31 => ?_)
 obtain ⟨y32, K33, h34, h35, h36, h37, h38⟩ := bindR_K hm
 refine GL.join (ι := Int) (fun (p : Int) => [(0, v0), (1, .int .i64 x1), (6, .int .i64 p)]) (fun (p : Int) => [imm (TR.sl TR.int) v0 x0]) (fun (p : Int) => K33 (.nx p)) ?_ ?_
 ·refine GL.block ?_
  refine GL.loop (ι := Nat × (List Int) × Int) (fun (p : Nat × (List Int) × Int) => [(0, v0), (1, .int .i64 x1), (6, .int .i64 p.2.2), (12, v0), (13, .int .i64 ((x0).length : Int)), (14, .int .i64 (p.1 : Int))]) (fun (p : Nat × (List Int) × Int) => [imm (TR.sl TR.int) v0 x0]) (fun (p : Nat × (List Int) × Int) => p.1 + p.2.1.length = (x0).length ∧ List.drop p.1 x0 = p.2.1 ∧ rangeL (auction_two_b1 x1 x0) p.2.1 p.1 p.2.2 = some y32) (fun (p : Nat × (List Int) × Int) => p.2.1.length) (0, x0, (-1 : Int)) ⟨by simp, by simp, h34⟩ (fun a w st => St.cut [0] ⟨rfl, rfl, rfl, rfl, rfl, rfl, trivial⟩ (by decide) rfl st) ?_
  rintro ⟨i39, r40, x3⟩ ⟨h45, h46, h44⟩
  try dsimp only at h45 h46 h44
  refine GL.weak (env' := [(0, v0), (1, .int .i64 x1), (6, .int .i64 x3), (12, v0), (13, .int .i64 ((x0).length : Int)), (14, .int .i64 (i39 : Int))]) (L' := [imm (TR.sl TR.int) v0 x0]) (fun _ _ st => st) ?_
  refine GL.seq ?_
  refine GL.region ?_
  refine RL.binI (v := .bool (decide ((i39 : Int) < ((x0).length : Int)))) rfl rfl rfl rfl rfl ?_
  refine RL.finG ?_
  refine GL.seq ?_
  refine GL.cond rfl (fun b47 => ?_) (fun b47 => ?_)
  ·have h48 : i39 < (x0).length := by have := of_decide_eq_true b47; omega
   obtain ⟨y49, r51, hr, e50, h52⟩ := drop_cons h46 rfl h48
   subst hr
   obtain ⟨z41, h42, h43⟩ := rangeL_some h44
   unfold auction_two_b1 at h42
   try dsimp only at h42
   refine GL.skip ?_
   refine GL.seq ?_
   refine GL.block ?_
   refine GL.seq ?_
   refine GL.region ?_
   refine RL.mv rfl rfl rfl ?_
   refine RL.idxS (sz := 1) 0 Try.underlying34 Try_ln3 rfl rfl rfl rfl rfl SlOf.imm (by omega) (by omega) ?_
   refine RL.ldSx (i := i39) (e' := y49) 0 Ex.ik Try_ln3 rfl rfl rfl rfl SlOf.imm e50 Part.self ?_
   refine RL.asg rfl rfl rfl ?_
   refine RL.asg rfl rfl rfl ?_
   refine RL.finG ?_
   refine GL.seq ?_
   obtain ⟨y62, K63, h64, h65, h66, h67, h68⟩ := bindF_K h42
   refine GL.join (ι := Bool) (fun (p : Bool) => [(0, v0), (1, .int .i64 x1), (6, .int .i64 x3), (7, .int .i64 (i39 : Int)), (12, v0), (13, .int .i64 ((x0).length : Int)), (14, .int .i64 (i39 : Int)), (33, .bool p)]) (fun (p : Bool) => [imm (TR.sl TR.int) v0 x0]) (fun (p : Bool) => K63 (.nx p)) ?_ ?_
   ·skip
    refine GL.region ?_
    refine RL.mv rfl rfl rfl ?_
    refine RL.mv rfl rfl rfl ?_
    refine RL.binI (v := .bool (decide (y49 ≥ x1))) rfl rfl rfl rfl rfl ?_
    refine RL.mv rfl rfl rfl ?_
    refine RL.split (t := 22) rfl (fun b69 => ?_) (fun b69 => ?_)
    ·replace h64 := ite_t b69 h64
     refine RL.mv rfl rfl rfl ?_
     refine RL.binI (v := .bool (decide (x3 < (0 : Int)))) rfl rfl rfl rfl rfl ?_
     refine RL.mv rfl rfl rfl ?_
     refine RL.split (t := 25) rfl (fun b70 => ?_) (fun b70 => ?_)
     ·replace h64 := ite_t b70 h64
      refine RL.skip rfl rfl ?_
      refine RL.skip rfl rfl ?_
      refine RL.skip rfl rfl ?_
      refine RL.skip rfl rfl ?_
      refine RL.skip rfl rfl ?_
      refine RL.skip rfl rfl ?_
      refine RL.pickT rfl rfl rfl rfl ?_
      refine RL.pickT rfl rfl rfl rfl ?_
      refine RL.fin ?_
      cases h64
      exact fun a w st => mid_intro true h65 (St.cut [0] ⟨rfl, rfl, rfl, rfl, rfl, rfl, rfl, rfl, trivial⟩ (by decide) rfl st)
     replace h64 := ite_f b70 h64
     refine RL.mv rfl rfl rfl ?_
     refine RL.mv rfl rfl rfl ?_
     refine RL.mv rfl rfl rfl ?_
     obtain ⟨y71, e72, h64⟩ := bind_some h64
     refine RL.idxS (sz := 1) 0 Try.underlying34 Try_ln3 rfl rfl rfl rfl rfl SlOf.imm (idx_some e72).1 (idx_some e72).2.1 ?_
     refine RL.ldSx (i := (x3).toNat) (e' := y71) 0 Ex.ik Try_ln3 rfl rfl rfl rfl SlOf.imm (idx_some e72).2.2 Part.self ?_
     refine RL.binI (v := .bool (decide (y49 > y71))) rfl rfl rfl rfl rfl ?_
     refine RL.pickF rfl rfl rfl rfl ?_
     refine RL.pickT rfl rfl rfl rfl ?_
     refine RL.fin ?_
     cases h64
     exact fun a w st => mid_intro (decide (y49 > y71)) h65 (St.cut [0] ⟨rfl, rfl, rfl, rfl, rfl, rfl, rfl, rfl, trivial⟩ (by decide) rfl st)
    replace h64 := ite_f b69 h64
    refine RL.skip rfl rfl ?_
    refine RL.skip rfl rfl ?_
    refine RL.skip rfl rfl ?_
    refine RL.skip rfl rfl ?_
    refine RL.skip rfl rfl ?_
    refine RL.skip rfl rfl ?_
    refine RL.skip rfl rfl ?_
    refine RL.skip rfl rfl ?_
    refine RL.skip rfl rfl ?_
    refine RL.skip rfl rfl ?_
    refine RL.pickF rfl rfl rfl rfl ?_
    refine RL.fin ?_
    cases h64
    exact fun a w st => mid_intro false h65 (St.cut [0] ⟨rfl, rfl, rfl, rfl, rfl, rfl, rfl, rfl, trivial⟩ (by decide) rfl st)
   rintro x61 h73
   have h74 := h66 _ h73
   try dsimp only at h74
   refine GL.weak (env' := [(0, v0), (1, .int .i64 x1), (6, .int .i64 x3), (7, .int .i64 (i39 : Int)), (12, v0), (13, .int .i64 ((x0).length : Int)), (14, .int .i64 (i39 : Int)), (33, .bool x61)]) (L' := [imm (TR.sl TR.int) v0 x0]) (fun _ _ st => st) ?_
   refine GL.cond rfl (fun b75 => ?_) (fun b75 => ?_)
   ·replace h74 := ite_t b75 h74
    refine GL.region ?_
    refine RL.mv rfl rfl rfl ?_
    refine RL.asg rfl rfl rfl ?_
    refine RL.finG ?_
    refine GL.nilB ?_
    refine GL.region ?_
    refine RL.binI (v := .int .i64 ((i39 + 1 : Nat) : Int)) rfl rfl rfl rfl (binI_succ i39 (by omega)) ?_
    refine RL.mv rfl rfl rfl ?_
    refine RL.fin ?_
    cases h74
    exact fun a w st => lop_intro (i39 + 1, r51, (i39 : Int)) ⟨by show i39 + 1 + r51.length = (x0).length; simp only [List.length_cons] at h45; omega, h52, h43⟩ (by simp) (St.cut [0] ⟨rfl, rfl, rfl, rfl, rfl, rfl, trivial⟩ (by decide) rfl st)
   replace h74 := ite_f b75 h74
   refine GL.skip ?_
   refine GL.nilB ?_
   refine GL.region ?_
   refine RL.binI (v := .int .i64 ((i39 + 1 : Nat) : Int)) rfl rfl rfl rfl (binI_succ i39 (by omega)) ?_
   refine RL.mv rfl rfl rfl ?_
   refine RL.fin ?_
   cases h74
   exact fun a w st => lop_intro (i39 + 1, r51, x3) ⟨by show i39 + 1 + r51.length = (x0).length; simp only [List.length_cons] at h45; omega, h52, h43⟩ (by simp) (St.cut [0] ⟨rfl, rfl, rfl, rfl, rfl, rfl, trivial⟩ (by decide) rfl st)
  have h48 : ¬ i39 < (x0).length := by have := of_decide_eq_false b47; omega
  obtain rfl : r40 = [] := by rw [← h46]; exact List.drop_of_length_le (by omega)
  replace h44 : some (Fl.nx _) = some y32 := h44
  cases h44
  exact GL.exit (fun a w st => mid_intro x3 h35 (St.cut [0] ⟨rfl, rfl, rfl, trivial⟩ (by decide) rfl st))
 rintro x3 h76
 have h77 := h36 _ h76
 try dsimp only at h77
 refine GL.weak (env' := [(0, v0), (1, .int .i64 x1), (6, .int .i64 x3)]) (L' := [imm (TR.sl TR.int) v0 x0]) (fun _ _ st => st) ?_
 refine GL.seq ?_
 refine GL.region ?_
 refine RL.mv rfl rfl rfl ?_
 refine RL.asg rfl rfl rfl ?_
 refine RL.finG ?_
 refine GL.seq ?_
 refine GL.seq ?_
 refine GL.region ?_
 refine RL.mv rfl rfl rfl ?_
 refine RL.lenS 0 Try.underlying34 rfl rfl rfl rfl SlOf.imm ?_
 refine RL.mv rfl rfl rfl ?_
 refine RL.finG ?_
 refine GL.open_ 0 rfl (fun S h => len_imm S h) (fun n84 => ?_)
 obtain ⟨y85, K86, h87, h88, h89, h90, h91⟩ := bindR_K h77
 refine GL.join (ι := Int) (fun (p : Int) => [(6, .int .i64 x3), (9, .int .i64 p)]) (fun (p : Int) => []) (fun (p : Int) => K86 (.nx p)) ?_ ?_
 ·refine GL.block ?_
  refine GL.loop (ι := Nat × (List Int) × Int) (fun (p : Nat × (List Int) × Int) => [(6, .int .i64 x3), (9, .int .i64 p.2.2), (37, v0), (38, .int .i64 ((x0).length : Int)), (39, .int .i64 (p.1 : Int))]) (fun (p : Nat × (List Int) × Int) => [imm (TR.sl TR.int) v0 x0]) (fun (p : Nat × (List Int) × Int) => p.1 + p.2.1.length = (x0).length ∧ List.drop p.1 x0 = p.2.1 ∧ rangeL (auction_two_b2 x3) p.2.1 p.1 p.2.2 = some y85) (fun (p : Nat × (List Int) × Int) => p.2.1.length) (0, x0, x1) ⟨by simp, by simp, h87⟩ (fun a w st => St.cut [0] ⟨rfl, rfl, rfl, rfl, rfl, trivial⟩ (by decide) rfl st) ?_
  rintro ⟨i92, r93, x78⟩ ⟨h98, h99, h97⟩
  try dsimp only at h98 h99 h97
  refine GL.weak (env' := [(6, .int .i64 x3), (9, .int .i64 x78), (37, v0), (38, .int .i64 ((x0).length : Int)), (39, .int .i64 (i92 : Int))]) (L' := [imm (TR.sl TR.int) v0 x0]) (fun _ _ st => st) ?_
  refine GL.seq ?_
  refine GL.region ?_
  refine RL.binI (v := .bool (decide ((i92 : Int) < ((x0).length : Int)))) rfl rfl rfl rfl rfl ?_
  refine RL.finG ?_
  refine GL.seq ?_
  refine GL.cond rfl (fun b100 => ?_) (fun b100 => ?_)
  ·have h101 : i92 < (x0).length := by have := of_decide_eq_true b100; omega
   obtain ⟨y102, r104, hr, e103, h105⟩ := drop_cons h99 rfl h101
   subst hr
   obtain ⟨z94, h95, h96⟩ := rangeL_some h97
   unfold auction_two_b2 at h95
   try dsimp only at h95
   refine GL.skip ?_
   refine GL.seq ?_
   refine GL.block ?_
   refine GL.seq ?_
   refine GL.region ?_
   refine RL.mv rfl rfl rfl ?_
   refine RL.idxS (sz := 1) 0 Try.underlying34 Try_ln3 rfl rfl rfl rfl rfl SlOf.imm (by omega) (by omega) ?_
   refine RL.ldSx (i := i92) (e' := y102) 0 Ex.ik Try_ln3 rfl rfl rfl rfl SlOf.imm e103 Part.self ?_
   refine RL.asg rfl rfl rfl ?_
   refine RL.asg rfl rfl rfl ?_
   refine RL.finG ?_
   refine GL.seq ?_
   refine GL.region ?_
   refine RL.mv rfl rfl rfl ?_
   refine RL.mv rfl rfl rfl ?_
   refine RL.binI (v := .bool ((i92 : Int) != x3)) rfl rfl rfl rfl rfl ?_
   refine RL.finG ?_
   refine GL.cond rfl (fun b106 => ?_) (fun b106 => ?_)
   ·replace h95 := ite_t b106 h95
    refine GL.region ?_
    refine RL.mv rfl rfl rfl ?_
    refine RL.mv rfl rfl rfl ?_
    refine RL.maxI rfl rfl rfl rfl ?_
    refine RL.asg rfl rfl rfl ?_
    refine RL.finG ?_
    refine GL.nilB ?_
    refine GL.region ?_
    refine RL.binI (v := .int .i64 ((i92 + 1 : Nat) : Int)) rfl rfl rfl rfl (binI_succ i92 (by omega)) ?_
    refine RL.mv rfl rfl rfl ?_
    refine RL.fin ?_
    cases h95
    exact fun a w st => lop_intro (i92 + 1, r104, if y102 > x78 then y102 else x78) ⟨by show i92 + 1 + r104.length = (x0).length; simp only [List.length_cons] at h98; omega, h105, h96⟩ (by simp) (St.cut [0] ⟨rfl, rfl, rfl, rfl, rfl, trivial⟩ (by decide) rfl st)
   replace h95 := ite_f b106 h95
   refine GL.skip ?_
   refine GL.nilB ?_
   refine GL.region ?_
   refine RL.binI (v := .int .i64 ((i92 + 1 : Nat) : Int)) rfl rfl rfl rfl (binI_succ i92 (by omega)) ?_
   refine RL.mv rfl rfl rfl ?_
   refine RL.fin ?_
   cases h95
   exact fun a w st => lop_intro (i92 + 1, r104, x78) ⟨by show i92 + 1 + r104.length = (x0).length; simp only [List.length_cons] at h98; omega, h105, h96⟩ (by simp) (St.cut [0] ⟨rfl, rfl, rfl, rfl, rfl, trivial⟩ (by decide) rfl st)
  have h101 : ¬ i92 < (x0).length := by have := of_decide_eq_false b100; omega
  obtain rfl : r93 = [] := by rw [← h99]; exact List.drop_of_length_le (by omega)
  replace h97 : some (Fl.nx _) = some y85 := h97
  cases h97
  exact GL.exit (fun a w st => mid_intro x78 h88 (St.cut [] ⟨rfl, rfl, trivial⟩ (by decide) rfl st))
 rintro x78 h107
 have h108 := h89 _ h107
 try dsimp only at h108
 refine GL.weak (env' := [(6, .int .i64 x3), (9, .int .i64 x78)]) (L' := []) (fun _ _ st => st) ?_
 refine GL.seq ?_
 refine GL.region ?_
 refine RL.mv rfl rfl rfl ?_
 refine RL.mv rfl rfl rfl ?_
 refine RL.asg rfl rfl rfl ?_
 refine RL.asg rfl rfl rfl ?_
 refine RL.finG ?_
 have h108 := Option.some.inj h108
 subst h108
 exact GL.ret (Gx.ret (v := .tuple #[.int .i64 x3, .int .i64 x78]) (res2 rfl rfl rfl) (fun a w st => st.toPostC rfl))

set_option maxHeartbeats 4000000 in
theorem auction_Second_c (S : Hp) (w : World) (hS : S.sub w) (v0 : Value) (x0 : (List Int)) (k0 : ((TR.sl TR.int)).vrep S v0 x0) (x1 : Int) (res : Int × Int × Int) (hm : auction_Second_m x0 x1 = some res) : Calls Try.prog 36 #[v0, .int .i64 x1] w (PostC w (.tuple #[.int .i64 res.1, .int .i64 res.2.1, .int .i64 res.2.2])) := by
 refine calls_enter 26 Try.func36 Try.ntmps36 rfl S true [(0, v0), (1, .int .i64 x1)] [imm (TR.sl TR.int) v0 x0] rfl ⟨rfl, ⟨rfl, trivial⟩⟩ hS ⟨k0, trivial⟩ ?_
 unfold auction_Second_m at hm
 refine GL.seq ?_
 refine GL.region ?_
 refine RL.asg rfl rfl rfl ?_
 refine RL.asg rfl rfl rfl ?_
 refine RL.asg rfl rfl rfl ?_
 refine RL.finG ?_
 refine GL.seq ?_
 refine GL.seq ?_
 refine GL.region ?_
 refine RL.mv rfl rfl rfl ?_
 refine RL.mv rfl rfl rfl ?_
 obtain ⟨y5, e6, hm⟩ := bind_some hm
 refine RL.callC (v := .int .i64 y5) (vs := [v0, .int .i64 x1]) Try_fit51 rfl rfl rfl rfl (fun U w hU hW hL => auction_Check_c U w hU _ _ (hL 0 _ _ rfl Seen.imm) x1 _ e6) ?_
 refine RL.asg rfl rfl rfl ?_
 refine RL.finG ?_
 refine GL.seq ?_
 refine GL.region ?_
 refine RL.mv rfl rfl rfl ?_
 refine RL.binI (v := .bool (y5 != (0 : Int))) rfl rfl rfl rfl rfl ?_
 refine RL.finG ?_
 refine GL.cond rfl (fun b7 => ?_) (fun b7 => ?_)
 ·replace hm := ite_t b7 hm
  refine GL.seq ?_
  refine GL.region ?_
  refine RL.mv rfl rfl rfl ?_
  refine RL.asg rfl rfl rfl ?_
  refine RL.asg rfl rfl rfl ?_
  refine RL.asg rfl rfl rfl ?_
  refine RL.finG ?_
  have hm := Option.some.inj hm
  subst hm
  exact GL.ret (Gx.ret (v := .tuple #[.int .i64 (0 : Int), .int .i64 (0 : Int), .int .i64 y5]) (res3 rfl rfl rfl rfl) (fun a w st => st.toPostC rfl))
 replace hm := ite_f b7 hm
 refine GL.skip ?_
 refine GL.seq ?_
 refine GL.region ?_
 refine RL.mv rfl rfl rfl ?_
 refine RL.mv rfl rfl rfl ?_
 obtain ⟨y10, e11, hm⟩ := bind_some hm
 refine RL.callC (v := .tuple #[.int .i64 y10.1, .int .i64 y10.2]) (vs := [v0, .int .i64 x1]) Try_fit52 rfl rfl rfl rfl (fun U w hU hW hL => auction_two_c U w hU _ _ (hL 0 _ _ rfl Seen.imm) x1 _ e11) ?_
 refine RL.mv rfl rfl rfl ?_
 refine RL.ext rfl rfl rfl rfl ?_
 refine RL.ext rfl rfl rfl rfl ?_
 refine RL.asg rfl rfl rfl ?_
 refine RL.asg rfl rfl rfl ?_
 refine RL.finG ?_
 refine GL.seq ?_
 refine GL.seq ?_
 refine GL.region ?_
 refine RL.mv rfl rfl rfl ?_
 refine RL.binI (v := .bool (decide (y10.1 < (0 : Int)))) rfl rfl rfl rfl rfl ?_
 refine RL.finG ?_
 refine GL.cond rfl (fun b12 => ?_) (fun b12 => ?_)
 ·replace hm := ite_t b12 hm
  refine GL.seq ?_
  refine GL.region ?_
  refine RL.asg rfl rfl rfl ?_
  refine RL.asg rfl rfl rfl ?_
  refine RL.asg rfl rfl rfl ?_
  refine RL.finG ?_
  have hm := Option.some.inj hm
  subst hm
  exact GL.ret (Gx.ret (v := .tuple #[.int .i64 (0 : Int), .int .i64 (0 : Int), .int .i64 (4 : Int)]) (res3 rfl rfl rfl rfl) (fun a w st => st.toPostC rfl))
 replace hm := ite_f b12 hm
 refine GL.skip ?_
 refine GL.seq ?_
 refine GL.region ?_
 refine RL.mv rfl rfl rfl ?_
 refine RL.mv rfl rfl rfl ?_
 refine RL.asg rfl rfl rfl ?_
 refine RL.asg rfl rfl rfl ?_
 refine RL.asg rfl rfl rfl ?_
 refine RL.finG ?_
 have hm := Option.some.inj hm
 subst hm
 exact GL.ret (Gx.ret (v := .tuple #[.int .i64 y10.1, .int .i64 y10.2, .int .i64 (0 : Int)]) (res3 rfl rfl rfl rfl) (fun a w st => st.toPostC rfl))

set_option maxHeartbeats 4000000 in
theorem auction_first_c (S : Hp) (w : World) (hS : S.sub w) (v0 : Value) (x0 : (List Int)) (k0 : ((TR.sl TR.int)).vrep S v0 x0) (x1 : Int) (res : Int) (hm : auction_first_m x0 x1 = some res) : Calls Try.prog 54 #[v0, .int .i64 x1] w (PostC w (.int .i64 res)) := by
 refine calls_enter 19 Try.func54 Try.ntmps54 rfl S true [(0, v0), (1, .int .i64 x1)] [imm (TR.sl TR.int) v0 x0] rfl ⟨rfl, ⟨rfl, trivial⟩⟩ hS ⟨k0, trivial⟩ ?_
 unfold auction_first_m at hm
 refine GL.seq ?_
 refine GL.region ?_
 refine RL.asg rfl rfl rfl ?_
 refine RL.finG ?_
 refine GL.seq ?_
 refine GL.seq ?_
 refine GL.region ?_
 refine RL.mv rfl rfl rfl ?_
 refine RL.lenS 0 Try.underlying34 rfl rfl rfl rfl SlOf.imm ?_
 refine RL.mv rfl rfl rfl ?_
 refine RL.finG ?_
 refine GL.open_ 0 rfl (fun S h => len_imm S h) (fun n8 => ?_)
 obtain ⟨y9, K10, h11, h12, h13, h14, h15⟩ := bindR_K hm
 refine GL.join (ι := Unit) (fun (p : Unit) => []) (fun (p : Unit) => []) (fun (p : Unit) => K10 (.nx ())) ?_ ?_
 ·refine GL.block ?_
  refine GL.loop (ι := Nat × (List Int)) (fun (p : Nat × (List Int)) => [(1, .int .i64 x1), (7, v0), (8, .int .i64 ((x0).length : Int)), (9, .int .i64 (p.1 : Int))]) (fun (p : Nat × (List Int)) => [imm (TR.sl TR.int) v0 x0]) (fun (p : Nat × (List Int)) => p.1 + p.2.length = (x0).length ∧ List.drop p.1 x0 = p.2 ∧ rangeL (auction_first_b1 x1) p.2 p.1 () = some y9) (fun (p : Nat × (List Int)) => p.2.length) (0, x0) ⟨by simp, by simp, h11⟩ (fun a w st => St.cut [0] ⟨rfl, rfl, rfl, rfl, trivial⟩ (by decide) rfl st) ?_
  rintro ⟨i17, r18⟩ ⟨h23, h24, h22⟩
  try dsimp only at h23 h24 h22
  refine GL.weak (env' := [(1, .int .i64 x1), (7, v0), (8, .int .i64 ((x0).length : Int)), (9, .int .i64 (i17 : Int))]) (L' := [imm (TR.sl TR.int) v0 x0]) (fun _ _ st => st) ?_
  refine GL.seq ?_
  refine GL.region ?_
  refine RL.binI (v := .bool (decide ((i17 : Int) < ((x0).length : Int)))) rfl rfl rfl rfl rfl ?_
  refine RL.finG ?_
  refine GL.seq ?_
  refine GL.cond rfl (fun b25 => ?_) (fun b25 => ?_)
  ·have h26 : i17 < (x0).length := by have := of_decide_eq_true b25; omega
   obtain ⟨y27, r29, hr, e28, h30⟩ := drop_cons h24 rfl h26
   subst hr
   obtain ⟨z19, h20, h21⟩ := rangeL_some h22
   unfold auction_first_b1 at h20
   try dsimp only at h20
   refine GL.skip ?_
   refine GL.seq ?_
   refine GL.block ?_
   refine GL.seq ?_
   refine GL.region ?_
   refine RL.mv rfl rfl rfl ?_
   refine RL.idxS (sz := 1) 0 Try.underlying34 Try_ln3 rfl rfl rfl rfl rfl SlOf.imm (by omega) (by omega) ?_
   refine RL.ldSx (i := i17) (e' := y27) 0 Ex.ik Try_ln3 rfl rfl rfl rfl SlOf.imm e28 Part.self ?_
   refine RL.asg rfl rfl rfl ?_
   refine RL.asg rfl rfl rfl ?_
   refine RL.finG ?_
   refine GL.seq ?_
   refine GL.region ?_
   refine RL.mv rfl rfl rfl ?_
   refine RL.mv rfl rfl rfl ?_
   refine RL.binI (v := .bool (decide (y27 ≥ x1))) rfl rfl rfl rfl rfl ?_
   refine RL.finG ?_
   refine GL.cond rfl (fun b31 => ?_) (fun b31 => ?_)
   ·replace h20 := ite_t b31 h20
    refine GL.seq ?_
    refine GL.region ?_
    refine RL.mv rfl rfl rfl ?_
    refine RL.asg rfl rfl rfl ?_
    refine RL.finG ?_
    cases h20
    replace h21 : some (Fl.rt _) = some y9 := h21
    cases h21
    have hh := h14 _ h12
    subst hh
    exact GL.ret (Gx.ret (v := .int .i64 (i17 : Int)) (res1 rfl rfl) (fun a w st => st.toPostC rfl))
   replace h20 := ite_f b31 h20
   refine GL.skip ?_
   refine GL.nilB ?_
   refine GL.region ?_
   refine RL.binI (v := .int .i64 ((i17 + 1 : Nat) : Int)) rfl rfl rfl rfl (binI_succ i17 (by omega)) ?_
   refine RL.mv rfl rfl rfl ?_
   refine RL.fin ?_
   cases h20
   exact fun a w st => lop_intro (i17 + 1, r29) ⟨by show i17 + 1 + r29.length = (x0).length; simp only [List.length_cons] at h23; omega, h30, h21⟩ (by simp) (St.cut [0] ⟨rfl, rfl, rfl, rfl, trivial⟩ (by decide) rfl st)
  have h26 : ¬ i17 < (x0).length := by have := of_decide_eq_false b25; omega
  obtain rfl : r18 = [] := by rw [← h24]; exact List.drop_of_length_le (by omega)
  replace h22 : some (Fl.nx _) = some y9 := h22
  cases h22
  exact GL.exit (fun a w st => mid_intro () h12 (St.cut [] trivial (by decide) rfl st))
 rintro ⟨⟩ h32
 have h33 := h13 _ h32
 try dsimp only at h33
 refine GL.weak (env' := []) (L' := []) (fun _ _ st => st) ?_
 refine GL.seq ?_
 refine GL.region ?_
 refine RL.asg rfl rfl rfl ?_
 refine RL.finG ?_
 have h33 := Option.some.inj h33
 subst h33
 exact GL.ret (Gx.ret (v := .int .i64 (-1 : Int)) (res1 rfl rfl) (fun a w st => st.toPostC rfl))

set_option maxHeartbeats 4000000 in
theorem auction_Rise_c (S : Hp) (w : World) (hS : S.sub w) (v0 : Value) (x0 : (List Int)) (k0 : ((TR.sl TR.int)).vrep S v0 x0) (x1 : Int) (x2 : Int) (res : Int × Int × Int) (hm : auction_Rise_m x0 x1 x2 = some res) : Calls Try.prog 41 #[v0, .int .i64 x1, .int .i64 x2] w (PostC w (.tuple #[.int .i64 res.1, .int .i64 res.2.1, .int .i64 res.2.2])) := by
 refine calls_enter 83 Try.func41 Try.ntmps41 rfl S true [(0, v0), (1, .int .i64 x1), (2, .int .i64 x2)] [imm (TR.sl TR.int) v0 x0] rfl ⟨rfl, ⟨rfl, ⟨rfl, trivial⟩⟩⟩ hS ⟨k0, trivial⟩ ?_
 unfold auction_Rise_m at hm
 refine GL.seq ?_
 refine GL.region ?_
 refine RL.asg rfl rfl rfl ?_
 refine RL.asg rfl rfl rfl ?_
 refine RL.asg rfl rfl rfl ?_
 refine RL.finG ?_
 refine GL.seq ?_
 refine GL.seq ?_
 refine GL.region ?_
 refine RL.mv rfl rfl rfl ?_
 refine RL.mv rfl rfl rfl ?_
 obtain ⟨y6, e7, hm⟩ := bind_some hm
 refine RL.callC (v := .int .i64 y6) (vs := [v0, .int .i64 x1]) Try_fit51 rfl rfl rfl rfl (fun U w hU hW hL => auction_Check_c U w hU _ _ (hL 0 _ _ rfl Seen.imm) x1 _ e7) ?_
 refine RL.asg rfl rfl rfl ?_
 refine RL.finG ?_
 refine GL.seq ?_
 refine GL.region ?_
 refine RL.mv rfl rfl rfl ?_
 refine RL.binI (v := .bool (y6 != (0 : Int))) rfl rfl rfl rfl rfl ?_
 refine RL.finG ?_
 refine GL.cond rfl (fun b8 => ?_) (fun b8 => ?_)
 ·replace hm := ite_t b8 hm
  refine GL.seq ?_
  refine GL.region ?_
  refine RL.mv rfl rfl rfl ?_
  refine RL.asg rfl rfl rfl ?_
  refine RL.asg rfl rfl rfl ?_
  refine RL.asg rfl rfl rfl ?_
  refine RL.finG ?_
  have hm := Option.some.inj hm
  subst hm
  exact GL.ret (Gx.ret (v := .tuple #[.int .i64 (0 : Int), .int .i64 (0 : Int), .int .i64 y6]) (res3 rfl rfl rfl rfl) (fun a w st => st.toPostC rfl))
 replace hm := ite_f b8 hm
 refine GL.skip ?_
 refine GL.seq ?_
 refine GL.seq ?_
 obtain ⟨y12, K13, h14, h15, h16, h17, h18⟩ := bindR_K hm
 refine GL.join (ι := Bool) (fun (p : Bool) => [(0, v0), (1, .int .i64 x1), (2, .int .i64 x2), (29, .bool p)]) (fun (p : Bool) => [imm (TR.sl TR.int) v0 x0]) (fun (p : Bool) => K13 (.nx p)) ?_ ?_
 ·skip
  refine GL.region ?_
  refine RL.mv rfl rfl rfl ?_
  refine RL.binI (v := .bool (decide (x2 < (1 : Int)))) rfl rfl rfl rfl rfl ?_
  refine RL.mv rfl rfl rfl ?_
  refine RL.split (t := 26) rfl (fun b19 => ?_) (fun b19 => ?_)
  ·replace h14 := ite_t b19 h14
   refine RL.skip rfl rfl ?_
   refine RL.skip rfl rfl ?_
   refine RL.pickT rfl rfl rfl rfl ?_
   refine RL.fin ?_
   cases h14
   exact fun a w st => mid_intro true h15 (St.cut [0] ⟨rfl, rfl, rfl, rfl, trivial⟩ (by decide) rfl st)
  replace h14 := ite_f b19 h14
  refine RL.mv rfl rfl rfl ?_
  refine RL.binI (v := .bool (decide (x2 > (1000000 : Int)))) rfl rfl rfl rfl rfl ?_
  refine RL.pickF rfl rfl rfl rfl ?_
  refine RL.fin ?_
  cases h14
  exact fun a w st => mid_intro (decide (x2 > (1000000 : Int))) h15 (St.cut [0] ⟨rfl, rfl, rfl, rfl, trivial⟩ (by decide) rfl st)
 rintro x11 h20
 have h21 := h16 _ h20
 try dsimp only at h21
 refine GL.weak (env' := [(0, v0), (1, .int .i64 x1), (2, .int .i64 x2), (29, .bool x11)]) (L' := [imm (TR.sl TR.int) v0 x0]) (fun _ _ st => st) ?_
 refine GL.cond rfl (fun b22 => ?_) (fun b22 => ?_)
 ·replace h21 := ite_t b22 h21
  refine GL.seq ?_
  refine GL.region ?_
  refine RL.asg rfl rfl rfl ?_
  refine RL.asg rfl rfl rfl ?_
  refine RL.asg rfl rfl rfl ?_
  refine RL.finG ?_
  have h21 := Option.some.inj h21
  subst h21
  exact GL.ret (Gx.ret (v := .tuple #[.int .i64 (0 : Int), .int .i64 (0 : Int), .int .i64 (1 : Int)]) (res3 rfl rfl rfl rfl) (fun a w st => st.toPostC rfl))
 replace h21 := ite_f b22 h21
 refine GL.skip ?_
 refine GL.seq ?_
 refine GL.region ?_
 refine RL.mv rfl rfl rfl ?_
 refine RL.mv rfl rfl rfl ?_
 obtain ⟨y25, e26, h21⟩ := bind_some h21
 refine RL.callC (v := .tuple #[.int .i64 y25.1, .int .i64 y25.2]) (vs := [v0, .int .i64 x1]) Try_fit52 rfl rfl rfl rfl (fun U w hU hW hL => auction_two_c U w hU _ _ (hL 0 _ _ rfl Seen.imm) x1 _ e26) ?_
 refine RL.mv rfl rfl rfl ?_
 refine RL.ext rfl rfl rfl rfl ?_
 refine RL.ext rfl rfl rfl rfl ?_
 refine RL.asg rfl rfl rfl ?_
 refine RL.asg rfl rfl rfl ?_
 refine RL.finG ?_
 refine GL.seq ?_
 refine GL.seq ?_
 refine GL.region ?_
 refine RL.mv rfl rfl rfl ?_
 refine RL.binI (v := .bool (decide (y25.1 < (0 : Int)))) rfl rfl rfl rfl rfl ?_
 refine RL.finG ?_
 refine GL.cond rfl (fun b27 => ?_) (fun b27 => ?_)
 ·replace h21 := ite_t b27 h21
  refine GL.seq ?_
  refine GL.region ?_
  refine RL.asg rfl rfl rfl ?_
  refine RL.asg rfl rfl rfl ?_
  refine RL.asg rfl rfl rfl ?_
  refine RL.finG ?_
  have h21 := Option.some.inj h21
  subst h21
  exact GL.ret (Gx.ret (v := .tuple #[.int .i64 (0 : Int), .int .i64 (0 : Int), .int .i64 (4 : Int)]) (res3 rfl rfl rfl rfl) (fun a w st => st.toPostC rfl))
 replace h21 := ite_f b27 h21
 refine GL.skip ?_
 refine GL.seq ?_
 refine GL.region ?_
 refine RL.asg rfl rfl rfl ?_
 refine RL.finG ?_
 refine GL.seq ?_
 refine GL.seq ?_
 refine GL.region ?_
 refine RL.mv rfl rfl rfl ?_
 refine RL.mv rfl rfl rfl ?_
 refine RL.binI (v := .bool (decide (y25.2 > x1))) rfl rfl rfl rfl rfl ?_
 refine RL.finG ?_
 obtain ⟨y34, K35, h36, h37, h38, h39, h40⟩ := bindR_K h21
 refine GL.join (ι := Int) (fun (p : Int) => [(0, v0), (1, .int .i64 x1), (2, .int .i64 x2), (12, .int .i64 p)]) (fun (p : Int) => [imm (TR.sl TR.int) v0 x0]) (fun (p : Int) => K35 (.nx p)) ?_ ?_
 ·skip
  refine GL.cond rfl (fun b41 => ?_) (fun b41 => ?_)
  ·replace h36 := ite_t b41 h36
   refine GL.region ?_
   refine RL.mv rfl rfl rfl ?_
   refine RL.mv rfl rfl rfl ?_
   refine RL.binI (v := .int .i64 (wsub y25.2 x1)) rfl rfl rfl rfl rfl ?_
   refine RL.mv rfl rfl rfl ?_
   obtain ⟨y44, e45, h36⟩ := bind_some h36
   replace e45 := chk_some e45
   refine RL.quo rfl rfl rfl rfl e45 ?_
   refine RL.asg rfl rfl rfl ?_
   refine RL.finG ?_
   cases h36
   exact fun a w st => mid_intro (IntKind.wrap .i64 (Int.tdiv (wsub y25.2 x1) x2)) h37 (St.cut [0] ⟨rfl, rfl, rfl, rfl, trivial⟩ (by decide) rfl st)
  replace h36 := ite_f b41 h36
  refine GL.skip ?_
  cases h36
  exact fun a w st => mid_intro (0 : Int) h37 (St.cut [0] ⟨rfl, rfl, rfl, rfl, trivial⟩ (by decide) rfl st)
 rintro x33 h46
 have h47 := h38 _ h46
 try dsimp only at h47
 refine GL.weak (env' := [(0, v0), (1, .int .i64 x1), (2, .int .i64 x2), (12, .int .i64 x33)]) (L' := [imm (TR.sl TR.int) v0 x0]) (fun _ _ st => st) ?_
 obtain ⟨y89, K90, h91, h92, h93, h94, h95⟩ := bindR_K h47
 refine GL.join (ι := Int) (fun (p : Int) => []) (fun (p : Int) => []) (fun (p : Int) => K90 (.nx p)) ?_ ?_
 ·refine GL.block ?_
  refine GL.loop (ι := Nat × Int) (fun (p : Nat × Int) => [(0, v0), (1, .int .i64 x1), (2, .int .i64 x2), (12, .int .i64 p.2)]) (fun (p : Nat × Int) => [imm (TR.sl TR.int) v0 x0]) (fun (p : Nat × Int) => loopM (auction_Rise_b1 x1 x2 x0) p.1 p.2 = some y89) (fun (p : Nat × Int) => p.1) (1048576, x33) h91 (fun a w st => St.cut [0] ⟨rfl, rfl, rfl, rfl, trivial⟩ (by decide) rfl st) ?_
  rintro ⟨r97, x48⟩ h101
  try dsimp only at h101
  refine GL.weak (env' := [(0, v0), (1, .int .i64 x1), (2, .int .i64 x2), (12, .int .i64 x48)]) (L' := [imm (TR.sl TR.int) v0 x0]) (fun _ _ st => st) ?_
  obtain ⟨r104, z98, hr, h99, h100⟩ := loopM_some h101
  subst hr
  unfold auction_Rise_b1 at h99
  try dsimp only at h99
  refine GL.seq ?_
  refine GL.block ?_
  refine GL.seq ?_
  refine GL.region ?_
  refine RL.mv rfl rfl rfl ?_
  refine RL.mv rfl rfl rfl ?_
  refine RL.mv rfl rfl rfl ?_
  refine RL.binI (v := .int .i64 (wmul x48 x2)) rfl rfl rfl rfl rfl ?_
  refine RL.binI (v := .int .i64 (wadd x1 (wmul x48 x2))) rfl rfl rfl rfl rfl ?_
  refine RL.asg rfl rfl rfl ?_
  refine RL.finG ?_
  refine GL.seq ?_
  refine GL.region ?_
  refine RL.asg rfl rfl rfl ?_
  refine RL.asg rfl rfl rfl ?_
  refine RL.finG ?_
  refine GL.seq ?_
  refine GL.seq ?_
  refine GL.region ?_
  refine RL.mv rfl rfl rfl ?_
  refine RL.lenS 0 Try.underlying34 rfl rfl rfl rfl SlOf.imm ?_
  refine RL.mv rfl rfl rfl ?_
  refine RL.finG ?_
  refine GL.open_ 0 rfl (fun S h => len_imm S h) (fun n113 => ?_)
  obtain ⟨y114, K115, h116, h117, h118, h119, h120⟩ := bindF_K h99
  refine GL.join (ι := Int × Int) (fun (p : Int × Int) => [(0, v0), (1, .int .i64 x1), (2, .int .i64 x2), (12, .int .i64 x48), (13, .int .i64 (wadd x1 (wmul x48 x2))), (14, .int .i64 p.1), (15, .int .i64 p.2)]) (fun (p : Int × Int) => [imm (TR.sl TR.int) v0 x0]) (fun (p : Int × Int) => K115 (.nx (p.1, p.2))) ?_ ?_
  ·refine GL.block ?_
   refine GL.loop (ι := Nat × (List Int) × Int × Int) (fun (p : Nat × (List Int) × Int × Int) => [(0, v0), (1, .int .i64 x1), (2, .int .i64 x2), (12, .int .i64 x48), (13, .int .i64 (wadd x1 (wmul x48 x2))), (14, .int .i64 p.2.2.1), (15, .int .i64 p.2.2.2), (53, v0), (54, .int .i64 ((x0).length : Int)), (55, .int .i64 (p.1 : Int))]) (fun (p : Nat × (List Int) × Int × Int) => [imm (TR.sl TR.int) v0 x0]) (fun (p : Nat × (List Int) × Int × Int) => p.1 + p.2.1.length = (x0).length ∧ List.drop p.1 x0 = p.2.1 ∧ rangeL (auction_Rise_b2 x1 x48 x2) p.2.1 p.1 (p.2.2.1, p.2.2.2) = some y114) (fun (p : Nat × (List Int) × Int × Int) => p.2.1.length) (0, x0, (0 : Int), (-1 : Int)) ⟨by simp, by simp, h116⟩ (fun a w st => St.cut [0] ⟨rfl, rfl, rfl, rfl, rfl, rfl, rfl, rfl, rfl, rfl, trivial⟩ (by decide) rfl st) ?_
   rintro ⟨i121, r122, x105, x106⟩ ⟨h127, h128, h126⟩
   try dsimp only at h127 h128 h126
   refine GL.weak (env' := [(0, v0), (1, .int .i64 x1), (2, .int .i64 x2), (12, .int .i64 x48), (13, .int .i64 (wadd x1 (wmul x48 x2))), (14, .int .i64 x105), (15, .int .i64 x106), (53, v0), (54, .int .i64 ((x0).length : Int)), (55, .int .i64 (i121 : Int))]) (L' := [imm (TR.sl TR.int) v0 x0]) (fun _ _ st => st) ?_
   refine GL.seq ?_
   refine GL.region ?_
   refine RL.binI (v := .bool (decide ((i121 : Int) < ((x0).length : Int)))) rfl rfl rfl rfl rfl ?_
   refine RL.finG ?_
   refine GL.seq ?_
   refine GL.cond rfl (fun b129 => ?_) (fun b129 => ?_)
   ·have h130 : i121 < (x0).length := by have := of_decide_eq_true b129; omega
    obtain ⟨y131, r133, hr, e132, h134⟩ := drop_cons h128 rfl h130
    subst hr
    obtain ⟨z123, h124, h125⟩ := rangeL_some h126
    unfold auction_Rise_b2 at h124
    try dsimp only at h124
    refine GL.skip ?_
    refine GL.seq ?_
    refine GL.block ?_
    refine GL.seq ?_
    refine GL.region ?_
    refine RL.mv rfl rfl rfl ?_
    refine RL.idxS (sz := 1) 0 Try.underlying34 Try_ln3 rfl rfl rfl rfl rfl SlOf.imm (by omega) (by omega) ?_
    refine RL.ldSx (i := i121) (e' := y131) 0 Ex.ik Try_ln3 rfl rfl rfl rfl SlOf.imm e132 Part.self ?_
    refine RL.asg rfl rfl rfl ?_
    refine RL.asg rfl rfl rfl ?_
    refine RL.finG ?_
    refine GL.seq ?_
    refine GL.region ?_
    refine RL.mv rfl rfl rfl ?_
    refine RL.mv rfl rfl rfl ?_
    refine RL.binI (v := .bool (decide (y131 ≥ (wadd x1 (wmul x48 x2))))) rfl rfl rfl rfl rfl ?_
    refine RL.finG ?_
    refine GL.cond rfl (fun b135 => ?_) (fun b135 => ?_)
    ·replace h124 := ite_t b135 h124
     refine GL.seq ?_
     refine GL.region ?_
     refine RL.mv rfl rfl rfl ?_
     refine RL.binI (v := .int .i64 (wadd x105 (1 : Int))) rfl rfl rfl rfl rfl ?_
     refine RL.asg rfl rfl rfl ?_
     refine RL.finG ?_
     refine GL.seq ?_
     refine GL.region ?_
     refine RL.mv rfl rfl rfl ?_
     refine RL.binI (v := .bool (decide (x106 < (0 : Int)))) rfl rfl rfl rfl rfl ?_
     refine RL.finG ?_
     refine GL.cond rfl (fun b136 => ?_) (fun b136 => ?_)
     ·replace h124 := ite_t b136 h124
      refine GL.region ?_
      refine RL.mv rfl rfl rfl ?_
      refine RL.asg rfl rfl rfl ?_
      refine RL.finG ?_
      refine GL.nilB ?_
      refine GL.region ?_
      refine RL.binI (v := .int .i64 ((i121 + 1 : Nat) : Int)) rfl rfl rfl rfl (binI_succ i121 (by omega)) ?_
      refine RL.mv rfl rfl rfl ?_
      refine RL.fin ?_
      cases h124
      exact fun a w st => lop_intro (i121 + 1, r133, wadd x105 (1 : Int), (i121 : Int)) ⟨by show i121 + 1 + r133.length = (x0).length; simp only [List.length_cons] at h127; omega, h134, h125⟩ (by simp) (St.cut [0] ⟨rfl, rfl, rfl, rfl, rfl, rfl, rfl, rfl, rfl, rfl, trivial⟩ (by decide) rfl st)
     replace h124 := ite_f b136 h124
     refine GL.skip ?_
     refine GL.nilB ?_
     refine GL.region ?_
     refine RL.binI (v := .int .i64 ((i121 + 1 : Nat) : Int)) rfl rfl rfl rfl (binI_succ i121 (by omega)) ?_
     refine RL.mv rfl rfl rfl ?_
     refine RL.fin ?_
     cases h124
     exact fun a w st => lop_intro (i121 + 1, r133, wadd x105 (1 : Int), x106) ⟨by show i121 + 1 + r133.length = (x0).length; simp only [List.length_cons] at h127; omega, h134, h125⟩ (by simp) (St.cut [0] ⟨rfl, rfl, rfl, rfl, rfl, rfl, rfl, rfl, rfl, rfl, trivial⟩ (by decide) rfl st)
    replace h124 := ite_f b135 h124
    refine GL.skip ?_
    refine GL.nilB ?_
    refine GL.region ?_
    refine RL.binI (v := .int .i64 ((i121 + 1 : Nat) : Int)) rfl rfl rfl rfl (binI_succ i121 (by omega)) ?_
    refine RL.mv rfl rfl rfl ?_
    refine RL.fin ?_
    cases h124
    exact fun a w st => lop_intro (i121 + 1, r133, x105, x106) ⟨by show i121 + 1 + r133.length = (x0).length; simp only [List.length_cons] at h127; omega, h134, h125⟩ (by simp) (St.cut [0] ⟨rfl, rfl, rfl, rfl, rfl, rfl, rfl, rfl, rfl, rfl, trivial⟩ (by decide) rfl st)
   have h130 : ¬ i121 < (x0).length := by have := of_decide_eq_false b129; omega
   obtain rfl : r122 = [] := by rw [← h128]; exact List.drop_of_length_le (by omega)
   replace h126 : some (Fl.nx _) = some y114 := h126
   cases h126
   exact GL.exit (fun a w st => mid_intro (x105, x106) h117 (St.cut [0] ⟨rfl, rfl, rfl, rfl, rfl, rfl, rfl, trivial⟩ (by decide) rfl st))
  rintro ⟨x105, x106⟩ h137
  have h138 := h118 _ h137
  try dsimp only at h138
  refine GL.weak (env' := [(0, v0), (1, .int .i64 x1), (2, .int .i64 x2), (12, .int .i64 x48), (13, .int .i64 (wadd x1 (wmul x48 x2))), (14, .int .i64 x105), (15, .int .i64 x106)]) (L' := [imm (TR.sl TR.int) v0 x0]) (fun _ _ st => st) ?_
  refine GL.seq ?_
  refine GL.seq ?_
  refine GL.region ?_
  refine RL.mv rfl rfl rfl ?_
  refine RL.binI (v := .bool (x105 == (1 : Int))) rfl rfl rfl rfl rfl ?_
  refine RL.finG ?_
  refine GL.cond rfl (fun b139 => ?_) (fun b139 => ?_)
  ·replace h138 := ite_t b139 h138
   refine GL.seq ?_
   refine GL.region ?_
   refine RL.mv rfl rfl rfl ?_
   refine RL.mv rfl rfl rfl ?_
   refine RL.asg rfl rfl rfl ?_
   refine RL.asg rfl rfl rfl ?_
   refine RL.asg rfl rfl rfl ?_
   refine RL.finG ?_
   cases h138
   replace h100 : some (Fl.rt _) = some y89 := h100
   cases h100
   have hh := h94 _ h92
   subst hh
   exact GL.ret (Gx.ret (v := .tuple #[.int .i64 x106, .int .i64 (wadd x1 (wmul x48 x2)), .int .i64 (0 : Int)]) (res3 rfl rfl rfl rfl) (fun a w st => st.toPostC rfl))
  replace h138 := ite_f b139 h138
  refine GL.skip ?_
  refine GL.seq ?_
  refine GL.region ?_
  refine RL.mv rfl rfl rfl ?_
  refine RL.binI (v := .bool (x105 == (0 : Int))) rfl rfl rfl rfl rfl ?_
  refine RL.finG ?_
  refine GL.cond rfl (fun b140 => ?_) (fun b140 => ?_)
  ·replace h138 := ite_t b140 h138
   refine GL.seq ?_
   refine GL.region ?_
   refine RL.mv rfl rfl rfl ?_
   refine RL.mv rfl rfl rfl ?_
   refine RL.mv rfl rfl rfl ?_
   refine RL.binI (v := .int .i64 (wsub (wadd x1 (wmul x48 x2)) x2)) rfl rfl rfl rfl rfl ?_
   obtain ⟨y143, e144, h138⟩ := bind_some h138
   refine RL.callC (v := .int .i64 y143) (vs := [v0, .int .i64 (wsub (wadd x1 (wmul x48 x2)) x2)]) Try_fit54 rfl rfl rfl rfl (fun U w hU hW hL => auction_first_c U w hU _ _ (hL 0 _ _ rfl Seen.imm) (wsub (wadd x1 (wmul x48 x2)) x2) _ e144) ?_
   refine RL.mv rfl rfl rfl ?_
   refine RL.mv rfl rfl rfl ?_
   refine RL.binI (v := .int .i64 (wsub (wadd x1 (wmul x48 x2)) x2)) rfl rfl rfl rfl rfl ?_
   refine RL.asg rfl rfl rfl ?_
   refine RL.asg rfl rfl rfl ?_
   refine RL.asg rfl rfl rfl ?_
   refine RL.finG ?_
   cases h138
   replace h100 : some (Fl.rt _) = some y89 := h100
   cases h100
   have hh := h94 _ h92
   subst hh
   exact GL.ret (Gx.ret (v := .tuple #[.int .i64 y143, .int .i64 (wsub (wadd x1 (wmul x48 x2)) x2), .int .i64 (0 : Int)]) (res3 rfl rfl rfl rfl) (fun a w st => st.toPostC rfl))
  replace h138 := ite_f b140 h138
  refine GL.skip ?_
  refine GL.nilB ?_
  refine GL.region ?_
  refine RL.mv rfl rfl rfl ?_
  refine RL.binI (v := .int .i64 (wadd x48 (1 : Int))) rfl rfl rfl rfl rfl ?_
  refine RL.asg rfl rfl rfl ?_
  refine RL.finG ?_
  cases h138
  exact fun a w st => lop_intro (r104, wadd x48 (1 : Int)) (by exact h100) (by simp) (St.cut [0] ⟨rfl, rfl, rfl, rfl, trivial⟩ (by decide) rfl st)
 rintro x48 h145
 have h146 := h93 _ h145
 try dsimp only at h146
 cases h146

set_option maxHeartbeats 4000000 in
theorem pk_auctions_c (S : Hp) (w : World) (hS : S.sub w)  (res : Bool) (hm : pk_auctions_m = some res) : Calls Try.prog 33 #[] w (PostV w (.bool res)) := by
 refine calls_enter 39 Try.func33 Try.ntmps33 rfl S false [] [] rfl trivial hS trivial ?_
 unfold pk_auctions_m at hm
 refine GL.seq ?_
 refine GL.region ?_
 refine RL.asg rfl rfl rfl ?_
 refine RL.finG ?_
 refine GL.seq ?_
 refine GL.region ?_
 refine RL.bS (t := TR.int) (vs := [.int .i64 (3 : Int), .int .i64 (9 : Int), .int .i64 (5 : Int)]) ([(3 : Int), (9 : Int), (5 : Int)] : (List Int)) Try.underlying34 Try_lo3 rfl rfl rfl rfl ⟨VR.int, ⟨VR.int, ⟨VR.int, trivial⟩⟩⟩ rfl (by decide) ?_
 intro v4
 obtain ⟨y5, e6, hm⟩ := bind_some hm
 refine RL.callC (v := .tuple #[.int .i64 y5.1, .int .i64 y5.2.1, .int .i64 y5.2.2]) (vs := [v4, .int .i64 (1 : Int)]) Try_fit36 rfl rfl rfl rfl (fun U w hU hW hL => auction_Second_c U w hU _ _ (hL 0 _ _ rfl Seen.own) (1 : Int) _ e6) ?_
 refine RL.mv rfl rfl rfl ?_
 refine RL.ext rfl rfl rfl rfl ?_
 refine RL.ext rfl rfl rfl rfl ?_
 refine RL.ext rfl rfl rfl rfl ?_
 refine RL.asg rfl rfl rfl ?_
 refine RL.asg rfl rfl rfl ?_
 refine RL.asg rfl rfl rfl ?_
 refine RL.finG ?_
 refine GL.seq ?_
 refine GL.region ?_
 refine RL.bS (t := TR.int) (vs := [.int .i64 (3 : Int), .int .i64 (9 : Int), .int .i64 (5 : Int)]) ([(3 : Int), (9 : Int), (5 : Int)] : (List Int)) Try.underlying34 Try_lo3 rfl rfl rfl rfl ⟨VR.int, ⟨VR.int, ⟨VR.int, trivial⟩⟩⟩ rfl (by decide) ?_
 intro v10
 refine RL.reL (L' := [own 3 TR.int v4 ([(3 : Int), (9 : Int), (5 : Int)] : (List Int)), own 3 TR.int v10 ([(3 : Int), (9 : Int), (5 : Int)] : (List Int))]) rfl ?_
 obtain ⟨y11, e12, hm⟩ := bind_some hm
 refine RL.callC (v := .tuple #[.int .i64 y11.1, .int .i64 y11.2.1, .int .i64 y11.2.2]) (vs := [v10, .int .i64 (1 : Int), .int .i64 (3 : Int)]) Try_fit41 rfl rfl rfl rfl (fun U w hU hW hL => auction_Rise_c U w hU _ _ (hL 1 _ _ rfl Seen.own) (1 : Int) (3 : Int) _ e12) ?_
 refine RL.mv rfl rfl rfl ?_
 refine RL.ext rfl rfl rfl rfl ?_
 refine RL.ext rfl rfl rfl rfl ?_
 refine RL.ext rfl rfl rfl rfl ?_
 refine RL.asg rfl rfl rfl ?_
 refine RL.asg rfl rfl rfl ?_
 refine RL.asg rfl rfl rfl ?_
 refine RL.finG ?_
 refine GL.seq ?_
 obtain ⟨y28, K29, h30, h31, h32, h33, h34⟩ := bindR_K hm
 refine GL.join (ι := Bool) (fun (p : Bool) => [(0, .bool p)]) (fun (p : Bool) => []) (fun (p : Bool) => K29 (.nx p)) ?_ ?_
 ·skip
  refine GL.region ?_
  refine RL.mv rfl rfl rfl ?_
  refine RL.mv rfl rfl rfl ?_
  refine RL.bS (t := TR.int) (vs := [.int .i64 y5.2.2, .int .i64 y11.2.2]) ([y5.2.2, y11.2.2] : (List Int)) Try.underlying80 Try_lo24 rfl rfl rfl rfl ⟨VR.int, ⟨VR.int, trivial⟩⟩ rfl (by decide) ?_
  intro v35
  obtain ⟨y36, e37, h30⟩ := bind_some h30
  refine RL.callV (v := .bool y36) (vs := [v35]) Try_fit26 rfl (Or.inl rfl) rfl rfl rfl rfl (fun U w hU hW hL => pk_good_c U w hU _ _ (hL 2 _ _ rfl Seen.own) _ e37) ?_
  refine RL.mv rfl rfl rfl ?_
  refine RL.split (t := 23) rfl (fun b38 => ?_) (fun b38 => ?_)
  ·replace h30 := ite_t b38 h30
   refine RL.mv rfl rfl rfl ?_
   refine RL.binI (v := .bool (y5.1 == (1 : Int))) rfl rfl rfl rfl rfl ?_
   refine RL.pickT rfl rfl rfl rfl ?_
   refine RL.mv rfl rfl rfl ?_
   refine RL.split (t := 27) rfl (fun b39 => ?_) (fun b39 => ?_)
   ·replace h30 := ite_t b39 h30
    refine RL.mv rfl rfl rfl ?_
    refine RL.binI (v := .bool (y5.2.1 == (5 : Int))) rfl rfl rfl rfl rfl ?_
    refine RL.pickT rfl rfl rfl rfl ?_
    refine RL.mv rfl rfl rfl ?_
    refine RL.split (t := 31) rfl (fun b40 => ?_) (fun b40 => ?_)
    ·replace h30 := ite_t b40 h30
     refine RL.mv rfl rfl rfl ?_
     refine RL.binI (v := .bool (y11.1 == (1 : Int))) rfl rfl rfl rfl rfl ?_
     refine RL.pickT rfl rfl rfl rfl ?_
     refine RL.mv rfl rfl rfl ?_
     refine RL.split (t := 35) rfl (fun b41 => ?_) (fun b41 => ?_)
     ·replace h30 := ite_t b41 h30
      refine RL.mv rfl rfl rfl ?_
      refine RL.binI (v := .bool (y11.2.1 == (7 : Int))) rfl rfl rfl rfl rfl ?_
      refine RL.pickT rfl rfl rfl rfl ?_
      refine RL.asg rfl rfl rfl ?_
      refine RL.fin ?_
      cases h30
      exact fun a w st => mid_intro (y11.2.1 == (7 : Int)) h31 (St.cut [] ⟨rfl, trivial⟩ (by decide) rfl st)
     replace h30 := ite_f b41 h30
     refine RL.skip rfl rfl ?_
     refine RL.skip rfl rfl ?_
     refine RL.pickF rfl rfl rfl rfl ?_
     refine RL.asg rfl rfl rfl ?_
     refine RL.fin ?_
     cases h30
     exact fun a w st => mid_intro false h31 (St.cut [] ⟨rfl, trivial⟩ (by decide) rfl st)
    replace h30 := ite_f b40 h30
    refine RL.skip rfl rfl ?_
    refine RL.skip rfl rfl ?_
    refine RL.pickF rfl rfl rfl rfl ?_
    refine RL.mv rfl rfl rfl ?_
    refine RL.skip rfl rfl ?_
    refine RL.skip rfl rfl ?_
    refine RL.pickF rfl rfl rfl rfl ?_
    refine RL.asg rfl rfl rfl ?_
    refine RL.fin ?_
    cases h30
    exact fun a w st => mid_intro false h31 (St.cut [] ⟨rfl, trivial⟩ (by decide) rfl st)
   replace h30 := ite_f b39 h30
   refine RL.skip rfl rfl ?_
   refine RL.skip rfl rfl ?_
   refine RL.pickF rfl rfl rfl rfl ?_
   refine RL.mv rfl rfl rfl ?_
   refine RL.skip rfl rfl ?_
   refine RL.skip rfl rfl ?_
   refine RL.pickF rfl rfl rfl rfl ?_
   refine RL.mv rfl rfl rfl ?_
   refine RL.skip rfl rfl ?_
   refine RL.skip rfl rfl ?_
   refine RL.pickF rfl rfl rfl rfl ?_
   refine RL.asg rfl rfl rfl ?_
   refine RL.fin ?_
   cases h30
   exact fun a w st => mid_intro false h31 (St.cut [] ⟨rfl, trivial⟩ (by decide) rfl st)
  replace h30 := ite_f b38 h30
  refine RL.skip rfl rfl ?_
  refine RL.skip rfl rfl ?_
  refine RL.pickF rfl rfl rfl rfl ?_
  refine RL.mv rfl rfl rfl ?_
  refine RL.skip rfl rfl ?_
  refine RL.skip rfl rfl ?_
  refine RL.pickF rfl rfl rfl rfl ?_
  refine RL.mv rfl rfl rfl ?_
  refine RL.skip rfl rfl ?_
  refine RL.skip rfl rfl ?_
  refine RL.pickF rfl rfl rfl rfl ?_
  refine RL.mv rfl rfl rfl ?_
  refine RL.skip rfl rfl ?_
  refine RL.skip rfl rfl ?_
  refine RL.pickF rfl rfl rfl rfl ?_
  refine RL.asg rfl rfl rfl ?_
  refine RL.fin ?_
  cases h30
  exact fun a w st => mid_intro false h31 (St.cut [] ⟨rfl, trivial⟩ (by decide) rfl st)
 rintro x27 h42
 have h43 := h32 _ h42
 try dsimp only at h43
 refine GL.weak (env' := [(0, .bool x27)]) (L' := []) (fun _ _ st => st) ?_
 have h43 := Option.some.inj h43
 subst h43
 exact GL.ret (Gx.ret (v := .bool x27) (res1 rfl rfl) (fun a w st => st.toPostV))

set_option maxHeartbeats 4000000 in
theorem ref_Rest_c (S : Hp) (w : World) (hS : S.sub w) (x0 : Int) (x1 : Int) (res : Int) (hm : ref_Rest_m x0 x1 = some res) : Calls Try.prog 45 #[.int .i64 x0, .int .i64 x1] w (PostC w (.int .i64 res)) := by
 refine calls_enter 14 Try.func45 Try.ntmps45 rfl S true [(0, .int .i64 x0), (1, .int .i64 x1)] [] rfl ⟨rfl, ⟨rfl, trivial⟩⟩ hS trivial ?_
 unfold ref_Rest_m at hm
 refine GL.seq ?_
 refine GL.region ?_
 refine RL.asg rfl rfl rfl ?_
 refine RL.finG ?_
 refine GL.seq ?_
 refine GL.region ?_
 refine RL.mv rfl rfl rfl ?_
 refine RL.mv rfl rfl rfl ?_
 obtain ⟨y5, e6, hm⟩ := bind_some hm
 replace e6 := chk_some e6
 refine RL.rem rfl rfl rfl rfl e6 ?_
 refine RL.asg rfl rfl rfl ?_
 refine RL.finG ?_
 refine GL.seq ?_
 refine GL.seq ?_
 refine GL.region ?_
 refine RL.mv rfl rfl rfl ?_
 refine RL.binI (v := .bool (decide ((Int.tmod x0 x1) < (0 : Int)))) rfl rfl rfl rfl rfl ?_
 refine RL.finG ?_
 obtain ⟨y9, K10, h11, h12, h13, h14, h15⟩ := bindR_K hm
 refine GL.join (ι := Int) (fun (p : Int) => [(0, .int .i64 p)]) (fun (p : Int) => []) (fun (p : Int) => K10 (.nx p)) ?_ ?_
 ·skip
  refine GL.cond rfl (fun b16 => ?_) (fun b16 => ?_)
  ·replace h11 := ite_t b16 h11
   refine GL.region ?_
   refine RL.mv rfl rfl rfl ?_
   refine RL.mv rfl rfl rfl ?_
   refine RL.binI (v := .int .i64 (wadd (Int.tmod x0 x1) x1)) rfl rfl rfl rfl rfl ?_
   refine RL.asg rfl rfl rfl ?_
   refine RL.finG ?_
   cases h11
   exact fun a w st => mid_intro (wadd (Int.tmod x0 x1) x1) h12 (St.cut [] ⟨rfl, trivial⟩ (by decide) rfl st)
  replace h11 := ite_f b16 h11
  refine GL.skip ?_
  cases h11
  exact fun a w st => mid_intro (Int.tmod x0 x1) h12 (St.cut [] ⟨rfl, trivial⟩ (by decide) rfl st)
 rintro x8 h17
 have h18 := h13 _ h17
 try dsimp only at h18
 refine GL.weak (env' := [(0, .int .i64 x8)]) (L' := []) (fun _ _ st => st) ?_
 refine GL.seq ?_
 refine GL.region ?_
 refine RL.mv rfl rfl rfl ?_
 refine RL.asg rfl rfl rfl ?_
 refine RL.finG ?_
 have h18 := Option.some.inj h18
 subst h18
 exact GL.ret (Gx.ret (v := .int .i64 x8) (res1 rfl rfl) (fun a w st => st.toPostC rfl))

set_option maxHeartbeats 4000000 in
theorem pk_Within_c (S : Hp) (w : World) (hS : S.sub w) (x0 : Int) (x1 : Int) (res : Int) (hm : pk_Within_m x0 x1 = some res) : Calls Try.prog 18 #[.int .i64 x0, .int .i64 x1] w (PostC w (.int .i64 res)) := by
 refine calls_enter 8 Try.func18 Try.ntmps18 rfl S true [(0, .int .i64 x0), (1, .int .i64 x1)] [] rfl ⟨rfl, ⟨rfl, trivial⟩⟩ hS trivial ?_
 unfold pk_Within_m at hm
 refine GL.seq ?_
 refine GL.region ?_
 refine RL.asg rfl rfl rfl ?_
 refine RL.finG ?_
 refine GL.seq ?_
 refine GL.region ?_
 refine RL.mv rfl rfl rfl ?_
 refine RL.mv rfl rfl rfl ?_
 obtain ⟨y5, e6, hm⟩ := bind_some hm
 refine RL.callC (v := .int .i64 y5) (vs := [.int .i64 x0, .int .i64 x1]) Try_fit45 rfl rfl rfl rfl (fun U w hU hW hL => ref_Rest_c U w hU x0 x1 _ e6) ?_
 refine RL.asg rfl rfl rfl ?_
 refine RL.finG ?_
 have hm := Option.some.inj hm
 subst hm
 exact GL.ret (Gx.ret (v := .int .i64 y5) (res1 rfl rfl) (fun a w st => st.toPostC rfl))

set_option maxHeartbeats 4000000 in
theorem pk_BidsOf_c (S : Hp) (w : World) (hS : S.sub w) (v0 : Value) (x0 : (List Int)) (k0 : ((TR.sl TR.int)).vrep S v0 x0) (res : (List Int)) (hm : pk_BidsOf_m x0 = some res) : Calls Try.prog 34 #[v0] w (Post w S (fun (o : Value) => o) (fun (o : Value) => [own 3 TR.int o res])) := by
 refine calls_enter 23 Try.func34 Try.ntmps34 rfl S false [(0, v0)] [imm (TR.sl TR.int) v0 x0] rfl ⟨rfl, trivial⟩ hS ⟨k0, trivial⟩ ?_
 unfold pk_BidsOf_m at hm
 refine GL.seq ?_
 refine GL.region ?_
 refine RL.asg rfl rfl rfl ?_
 refine RL.finG ?_
 refine GL.seq ?_
 refine GL.region ?_
 refine RL.asg rfl rfl rfl ?_
 refine RL.finG ?_
 refine GL.seq ?_
 refine GL.seq ?_
 refine GL.region ?_
 refine RL.mv rfl rfl rfl ?_
 refine RL.mv rfl rfl rfl ?_
 refine RL.lenS 0 Try.underlying34 rfl rfl rfl rfl SlOf.imm ?_
 refine RL.minI rfl rfl rfl rfl ?_
 obtain ⟨y5, e6, hm⟩ := bind_some hm
 replace e6 := chk_some e6
 refine RL.slc (t := TR.int) (i := 0) (j := (if (10 : Int) < ((x0).length : Int) then (10 : Int) else ((x0).length : Int)).toNat) (sz := 1) 0 Try.underlying34 Try_ln3 rfl rfl rfl rfl (Or.inl ⟨rfl, rfl⟩) (Or.inr ⟨_, _, rfl, by rw [Int.toNat_of_nonneg (by omega)]; rfl⟩) rfl (by omega) (by omega) ?_
 intro v7
 refine RL.lenS 1 Try.underlying34 rfl rfl rfl rfl SlOf.imm ?_
 refine RL.mv rfl rfl rfl ?_
 refine RL.finG ?_
 refine GL.weak (fun a w st => st.nilOwn 3 TR.int) ?_
 refine GL.open_ 1 rfl (fun S h => len_imm S h) (fun n26 => ?_)
 obtain ⟨y27, K28, h29, h30, h31, h32, h33⟩ := bindR_K hm
 refine GL.join (ι := (List Int) × Value) (fun (p : (List Int) × Value) => [(3, p.2)]) (fun (p : (List Int) × Value) => [own 3 TR.int p.2 p.1]) (fun (p : (List Int) × Value) => K28 (.nx p.1)) ?_ ?_
 ·refine GL.block ?_
  refine GL.loop (ι := Nat × (List Int) × (List Int) × Value) (fun (p : Nat × (List Int) × (List Int) × Value) => [(3, p.2.2.2), (10, v7), (11, .int .i64 ((((List.take ((if (10 : Int) < ((x0).length : Int) then (10 : Int) else ((x0).length : Int)).toNat) x0).drop 0)).length : Int)), (12, .int .i64 (p.1 : Int))]) (fun (p : Nat × (List Int) × (List Int) × Value) => [own 3 TR.int p.2.2.2 p.2.2.1, imm (TR.sl TR.int) v7 ((List.take ((if (10 : Int) < ((x0).length : Int) then (10 : Int) else ((x0).length : Int)).toNat) x0).drop 0)]) (fun (p : Nat × (List Int) × (List Int) × Value) => p.1 + p.2.1.length = (((List.take ((if (10 : Int) < ((x0).length : Int) then (10 : Int) else ((x0).length : Int)).toNat) x0).drop 0)).length ∧ List.drop p.1 ((List.take ((if (10 : Int) < ((x0).length : Int) then (10 : Int) else ((x0).length : Int)).toNat) x0).drop 0) = p.2.1 ∧ rangeL pk_BidsOf_b1 p.2.1 p.1 p.2.2.1 = some y27) (fun (p : Nat × (List Int) × (List Int) × Value) => p.2.1.length) (0, ((List.take ((if (10 : Int) < ((x0).length : Int) then (10 : Int) else ((x0).length : Int)).toNat) x0).drop 0), [], Value.slice none 0 0) ⟨by simp, by simp, h29⟩ (fun a w st => St.cut [2, 1] ⟨rfl, rfl, rfl, rfl, trivial⟩ (by decide) rfl st) ?_
  rintro ⟨i34, r35, l8, v9⟩ ⟨h40, h41, h39⟩
  try dsimp only at h40 h41 h39
  refine GL.weak (env' := [(3, v9), (10, v7), (11, .int .i64 ((((List.take ((if (10 : Int) < ((x0).length : Int) then (10 : Int) else ((x0).length : Int)).toNat) x0).drop 0)).length : Int)), (12, .int .i64 (i34 : Int))]) (L' := [own 3 TR.int v9 l8, imm (TR.sl TR.int) v7 ((List.take ((if (10 : Int) < ((x0).length : Int) then (10 : Int) else ((x0).length : Int)).toNat) x0).drop 0)]) (fun _ _ st => st) ?_
  refine GL.seq ?_
  refine GL.region ?_
  refine RL.binI (v := .bool (decide ((i34 : Int) < ((((List.take ((if (10 : Int) < ((x0).length : Int) then (10 : Int) else ((x0).length : Int)).toNat) x0).drop 0)).length : Int)))) rfl rfl rfl rfl rfl ?_
  refine RL.finG ?_
  refine GL.seq ?_
  refine GL.cond rfl (fun b42 => ?_) (fun b42 => ?_)
  ·have h43 : i34 < (((List.take ((if (10 : Int) < ((x0).length : Int) then (10 : Int) else ((x0).length : Int)).toNat) x0).drop 0)).length := by have := of_decide_eq_true b42; omega
   obtain ⟨y44, r46, hr, e45, h47⟩ := drop_cons h41 rfl h43
   subst hr
   obtain ⟨z36, h37, h38⟩ := rangeL_some h39
   unfold pk_BidsOf_b1 at h37
   try dsimp only at h37
   refine GL.skip ?_
   refine GL.seq ?_
   refine GL.block ?_
   refine GL.seq ?_
   refine GL.region ?_
   refine RL.idxS (sz := 1) 1 Try.underlying34 Try_ln3 rfl rfl rfl rfl rfl SlOf.imm (by omega) (by omega) ?_
   refine RL.ldSx (i := i34) (e' := y44) 1 Ex.ik Try_ln3 rfl rfl rfl rfl SlOf.imm e45 Part.self ?_
   refine RL.asg rfl rfl rfl ?_
   refine RL.finG ?_
   refine GL.region ?_
   refine RL.mv rfl rfl rfl ?_
   refine RL.mv rfl rfl rfl ?_
   obtain ⟨y54, e55, h37⟩ := bind_some h37
   refine RL.callC (v := .int .i64 y54) (vs := [.int .i64 y44, .int .i64 (101 : Int)]) Try_fit18 rfl rfl rfl rfl (fun U w hU hW hL => pk_Within_c U w hU y44 (101 : Int) _ e55) ?_
   refine RL.bS (t := TR.int) (vs := [.int .i64 y54]) ([y54] : (List Int)) Try.underlying34 Try_lo3 rfl rfl rfl rfl ⟨VR.int, trivial⟩ rfl (by decide) ?_
   intro v56
   obtain ⟨y57, e58, h37⟩ := bind_some h37
   replace e58 := chk_some e58
   refine RL.app 0 2 Try.underlying34 Try_lo3 rfl rfl rfl rfl rfl rfl rfl SlOf.own e58 ?_
   intro v59
   refine RL.reL (L' := [own 3 TR.int v59 (l8 ++ ([y54] : (List Int))), imm (TR.sl TR.int) v7 ((List.take ((if (10 : Int) < ((x0).length : Int) then (10 : Int) else ((x0).length : Int)).toNat) x0).drop 0), own 3 TR.int v56 ([y54] : (List Int))]) rfl ?_
   refine RL.asg rfl rfl rfl ?_
   refine RL.finG ?_
   refine GL.nilB ?_
   refine GL.region ?_
   refine RL.binI (v := .int .i64 ((i34 + 1 : Nat) : Int)) rfl rfl rfl rfl (binI_succ i34 (by omega)) ?_
   refine RL.mv rfl rfl rfl ?_
   refine RL.fin ?_
   cases h37
   exact fun a w st => lop_intro (i34 + 1, r46, (l8 ++ ([y54] : (List Int))), v59) ⟨by show i34 + 1 + r46.length = (((List.take ((if (10 : Int) < ((x0).length : Int) then (10 : Int) else ((x0).length : Int)).toNat) x0).drop 0)).length; simp only [List.length_cons] at h40; omega, h47, h38⟩ (by simp) (St.cut [0, 1] ⟨rfl, rfl, rfl, rfl, trivial⟩ (by decide) rfl st)
  have h43 : ¬ i34 < (((List.take ((if (10 : Int) < ((x0).length : Int) then (10 : Int) else ((x0).length : Int)).toNat) x0).drop 0)).length := by have := of_decide_eq_false b42; omega
  obtain rfl : r35 = [] := by rw [← h41]; exact List.drop_of_length_le (by omega)
  replace h39 : some (Fl.nx _) = some y27 := h39
  cases h39
  exact GL.exit (fun a w st => mid_intro (l8, v9) h30 (St.cut [0] ⟨rfl, trivial⟩ (by decide) rfl st))
 rintro ⟨l8, v9⟩ h60
 have h61 := h31 _ h60
 try dsimp only at h61
 refine GL.weak (env' := [(3, v9)]) (L' := [own 3 TR.int v9 l8]) (fun _ _ st => st) ?_
 refine GL.seq ?_
 refine GL.region ?_
 refine RL.mv rfl rfl rfl ?_
 refine RL.asg rfl rfl rfl ?_
 refine RL.finG ?_
 have h61 := Option.some.inj h61
 subst h61
 exact GL.ret (Gx.ret (v := v9) (res1 rfl rfl) (fun a w st => (st.pick [0] (by decide) rfl).toPost v9))

set_option maxHeartbeats 4000000 in
theorem slices_Max_int_int_c (S : Hp) (w : World) (hS : S.sub w) (v0 : Value) (x0 : (List Int)) (k0 : ((TR.sl TR.int)).vrep S v0 x0) (res : Int) (hm : slices_Max_int_int_m x0 = some res) : Calls Try.prog 42 #[v0] w (PostC w (.int .i64 res)) := by
 refine calls_enter 25 Try.func42 Try.ntmps42 rfl S true [(0, v0)] [imm (TR.sl TR.int) v0 x0] rfl ⟨rfl, trivial⟩ hS ⟨k0, trivial⟩ ?_
 unfold slices_Max_int_int_m at hm
 refine GL.seq ?_
 refine GL.region ?_
 refine RL.asg rfl rfl rfl ?_
 refine RL.finG ?_
 refine GL.seq ?_
 refine GL.seq ?_
 refine GL.region ?_
 refine RL.mv rfl rfl rfl ?_
 refine RL.lenS 0 Try.underlying34 rfl rfl rfl rfl SlOf.imm ?_
 refine RL.binI (v := .bool (decide (((x0).length : Int) < (1 : Int)))) rfl rfl rfl rfl rfl ?_
 refine RL.finG ?_
 obtain ⟨y3, K4, h5, h6, h7, h8, h9⟩ := bindR_K hm
 refine GL.join (ι := Unit) (fun (p : Unit) => [(0, v0)]) (fun (p : Unit) => [imm (TR.sl TR.int) v0 x0]) (fun (p : Unit) => K4 (.nx ())) ?_ ?_
 ·skip
  refine GL.cond rfl (fun b10 => ?_) (fun b10 => ?_)
  ·replace h5 := ite_t b10 h5
   refine GL.region ?_
   cases h5
  replace h5 := ite_f b10 h5
  refine GL.skip ?_
  cases h5
  exact fun a w st => mid_intro () h6 (St.cut [0] ⟨rfl, trivial⟩ (by decide) rfl st)
 rintro ⟨⟩ h11
 have h12 := h7 _ h11
 try dsimp only at h12
 refine GL.weak (env' := [(0, v0)]) (L' := [imm (TR.sl TR.int) v0 x0]) (fun _ _ st => st) ?_
 refine GL.seq ?_
 refine GL.region ?_
 refine RL.mv rfl rfl rfl ?_
 obtain ⟨y15, e16, h12⟩ := bind_some h12
 refine RL.idxS (sz := 1) 0 Try.underlying34 Try_ln3 rfl rfl rfl rfl rfl SlOf.imm (idx_some e16).1 (idx_some e16).2.1 ?_
 refine RL.ldSx (i := ((0 : Int)).toNat) (e' := y15) 0 Ex.ik Try_ln3 rfl rfl rfl rfl SlOf.imm (idx_some e16).2.2 Part.self ?_
 refine RL.asg rfl rfl rfl ?_
 refine RL.finG ?_
 refine GL.seq ?_
 refine GL.seq ?_
 refine GL.region ?_
 refine RL.asg rfl rfl rfl ?_
 refine RL.finG ?_
 obtain ⟨y24, K25, h26, h27, h28, h29, h30⟩ := bindR_K h12
 refine GL.join (ι := Int × Int) (fun (p : Int × Int) => [(3, .int .i64 p.1)]) (fun (p : Int × Int) => []) (fun (p : Int × Int) => K25 (.nx (p.1, p.2))) ?_ ?_
 ·refine GL.block ?_
  refine GL.loop (ι := Nat × Int × Int) (fun (p : Nat × Int × Int) => [(0, v0), (3, .int .i64 p.2.1), (4, .int .i64 p.2.2)]) (fun (p : Nat × Int × Int) => [imm (TR.sl TR.int) v0 x0]) (fun (p : Nat × Int × Int) => loopM (slices_Max_int_int_b1 x0) p.1 (p.2.1, p.2.2) = some y24) (fun (p : Nat × Int × Int) => p.1) (1048576, y15, (1 : Int)) h26 (fun a w st => St.cut [0] ⟨rfl, rfl, rfl, trivial⟩ (by decide) rfl st) ?_
  rintro ⟨r32, x17, x18⟩ h36
  try dsimp only at h36
  refine GL.weak (env' := [(0, v0), (3, .int .i64 x17), (4, .int .i64 x18)]) (L' := [imm (TR.sl TR.int) v0 x0]) (fun _ _ st => st) ?_
  obtain ⟨r39, z33, hr, h34, h35⟩ := loopM_some h36
  subst hr
  unfold slices_Max_int_int_b1 at h34
  try dsimp only at h34
  refine GL.seq ?_
  refine GL.seq ?_
  refine GL.region ?_
  refine RL.mv rfl rfl rfl ?_
  refine RL.mv rfl rfl rfl ?_
  refine RL.lenS 0 Try.underlying34 rfl rfl rfl rfl SlOf.imm ?_
  refine RL.binI (v := .bool (decide (x18 < ((x0).length : Int)))) rfl rfl rfl rfl rfl ?_
  refine RL.finG ?_
  refine GL.cond rfl (fun b40 => ?_) (fun b40 => ?_)
  ·replace h34 := ite_t b40 h34
   refine GL.skip ?_
   refine GL.seq ?_
   refine GL.block ?_
   refine GL.region ?_
   refine RL.mv rfl rfl rfl ?_
   refine RL.mv rfl rfl rfl ?_
   refine RL.mv rfl rfl rfl ?_
   obtain ⟨y43, e44, h34⟩ := bind_some h34
   refine RL.idxS (sz := 1) 0 Try.underlying34 Try_ln3 rfl rfl rfl rfl rfl SlOf.imm (idx_some e44).1 (idx_some e44).2.1 ?_
   refine RL.ldSx (i := (x18).toNat) (e' := y43) 0 Ex.ik Try_ln3 rfl rfl rfl rfl SlOf.imm (idx_some e44).2.2 Part.self ?_
   refine RL.maxI rfl rfl rfl rfl ?_
   refine RL.asg rfl rfl rfl ?_
   refine RL.finG ?_
   refine GL.nilB ?_
   refine GL.region ?_
   refine RL.mv rfl rfl rfl ?_
   refine RL.binI (v := .int .i64 (wadd x18 (1 : Int))) rfl rfl rfl rfl rfl ?_
   refine RL.asg rfl rfl rfl ?_
   refine RL.finG ?_
   cases h34
   exact fun a w st => lop_intro (r39, if y43 > x17 then y43 else x17, wadd x18 (1 : Int)) (by exact h35) (by simp) (St.cut [0] ⟨rfl, rfl, rfl, trivial⟩ (by decide) rfl st)
  replace h34 := ite_f b40 h34
  cases h34
  replace h35 : some (Fl.nx _) = some y24 := h35
  cases h35
  exact GL.exit (fun a w st => mid_intro (x17, x18) h27 (St.cut [] ⟨rfl, trivial⟩ (by decide) rfl st))
 rintro ⟨x17, x18⟩ h45
 have h46 := h28 _ h45
 try dsimp only at h46
 refine GL.weak (env' := [(3, .int .i64 x17)]) (L' := []) (fun _ _ st => st) ?_
 refine GL.seq ?_
 refine GL.region ?_
 refine RL.mv rfl rfl rfl ?_
 refine RL.asg rfl rfl rfl ?_
 refine RL.finG ?_
 have h46 := Option.some.inj h46
 subst h46
 exact GL.ret (Gx.ret (v := .int .i64 x17) (res1 rfl rfl) (fun a w st => st.toPostC rfl))

set_option maxHeartbeats 4000000 in
theorem pk_sum_c (S : Hp) (w : World) (hS : S.sub w) (v0 : Value) (x0 : (List Int)) (k0 : ((TR.sl TR.int)).vrep S v0 x0) (res : Int) (hm : pk_sum_m x0 = some res) : Calls Try.prog 43 #[v0] w (PostC w (.int .i64 res)) := by
 refine calls_enter 17 Try.func43 Try.ntmps43 rfl S true [(0, v0)] [imm (TR.sl TR.int) v0 x0] rfl ⟨rfl, trivial⟩ hS ⟨k0, trivial⟩ ?_
 unfold pk_sum_m at hm
 refine GL.seq ?_
 refine GL.region ?_
 refine RL.asg rfl rfl rfl ?_
 refine RL.finG ?_
 refine GL.seq ?_
 refine GL.region ?_
 refine RL.asg rfl rfl rfl ?_
 refine RL.finG ?_
 refine GL.seq ?_
 refine GL.seq ?_
 refine GL.region ?_
 refine RL.mv rfl rfl rfl ?_
 refine RL.lenS 0 Try.underlying34 rfl rfl rfl rfl SlOf.imm ?_
 refine RL.mv rfl rfl rfl ?_
 refine RL.finG ?_
 refine GL.open_ 0 rfl (fun S h => len_imm S h) (fun n7 => ?_)
 obtain ⟨y8, K9, h10, h11, h12, h13, h14⟩ := bindR_K hm
 refine GL.join (ι := Int) (fun (p : Int) => [(3, .int .i64 p)]) (fun (p : Int) => []) (fun (p : Int) => K9 (.nx p)) ?_ ?_
 ·refine GL.block ?_
  refine GL.loop (ι := Nat × (List Int) × Int) (fun (p : Nat × (List Int) × Int) => [(3, .int .i64 p.2.2), (6, v0), (7, .int .i64 ((x0).length : Int)), (8, .int .i64 (p.1 : Int))]) (fun (p : Nat × (List Int) × Int) => [imm (TR.sl TR.int) v0 x0]) (fun (p : Nat × (List Int) × Int) => p.1 + p.2.1.length = (x0).length ∧ List.drop p.1 x0 = p.2.1 ∧ rangeL pk_sum_b1 p.2.1 p.1 p.2.2 = some y8) (fun (p : Nat × (List Int) × Int) => p.2.1.length) (0, x0, (0 : Int)) ⟨by simp, by simp, h10⟩ (fun a w st => St.cut [0] ⟨rfl, rfl, rfl, rfl, trivial⟩ (by decide) rfl st) ?_
  rintro ⟨i15, r16, x2⟩ ⟨h21, h22, h20⟩
  try dsimp only at h21 h22 h20
  refine GL.weak (env' := [(3, .int .i64 x2), (6, v0), (7, .int .i64 ((x0).length : Int)), (8, .int .i64 (i15 : Int))]) (L' := [imm (TR.sl TR.int) v0 x0]) (fun _ _ st => st) ?_
  refine GL.seq ?_
  refine GL.region ?_
  refine RL.binI (v := .bool (decide ((i15 : Int) < ((x0).length : Int)))) rfl rfl rfl rfl rfl ?_
  refine RL.finG ?_
  refine GL.seq ?_
  refine GL.cond rfl (fun b23 => ?_) (fun b23 => ?_)
  ·have h24 : i15 < (x0).length := by have := of_decide_eq_true b23; omega
   obtain ⟨y25, r27, hr, e26, h28⟩ := drop_cons h22 rfl h24
   subst hr
   obtain ⟨z17, h18, h19⟩ := rangeL_some h20
   unfold pk_sum_b1 at h18
   try dsimp only at h18
   refine GL.skip ?_
   refine GL.seq ?_
   refine GL.block ?_
   refine GL.seq ?_
   refine GL.region ?_
   refine RL.idxS (sz := 1) 0 Try.underlying34 Try_ln3 rfl rfl rfl rfl rfl SlOf.imm (by omega) (by omega) ?_
   refine RL.ldSx (i := i15) (e' := y25) 0 Ex.ik Try_ln3 rfl rfl rfl rfl SlOf.imm e26 Part.self ?_
   refine RL.asg rfl rfl rfl ?_
   refine RL.finG ?_
   refine GL.region ?_
   refine RL.mv rfl rfl rfl ?_
   refine RL.mv rfl rfl rfl ?_
   refine RL.binI (v := .int .i64 (wadd x2 y25)) rfl rfl rfl rfl rfl ?_
   refine RL.asg rfl rfl rfl ?_
   refine RL.finG ?_
   refine GL.nilB ?_
   refine GL.region ?_
   refine RL.binI (v := .int .i64 ((i15 + 1 : Nat) : Int)) rfl rfl rfl rfl (binI_succ i15 (by omega)) ?_
   refine RL.mv rfl rfl rfl ?_
   refine RL.fin ?_
   cases h18
   exact fun a w st => lop_intro (i15 + 1, r27, wadd x2 y25) ⟨by show i15 + 1 + r27.length = (x0).length; simp only [List.length_cons] at h21; omega, h28, h19⟩ (by simp) (St.cut [0] ⟨rfl, rfl, rfl, rfl, trivial⟩ (by decide) rfl st)
  have h24 : ¬ i15 < (x0).length := by have := of_decide_eq_false b23; omega
  obtain rfl : r16 = [] := by rw [← h22]; exact List.drop_of_length_le (by omega)
  replace h20 : some (Fl.nx _) = some y8 := h20
  cases h20
  exact GL.exit (fun a w st => mid_intro x2 h11 (St.cut [] ⟨rfl, trivial⟩ (by decide) rfl st))
 rintro x2 h29
 have h30 := h12 _ h29
 try dsimp only at h30
 refine GL.weak (env' := [(3, .int .i64 x2)]) (L' := []) (fun _ _ st => st) ?_
 refine GL.seq ?_
 refine GL.region ?_
 refine RL.mv rfl rfl rfl ?_
 refine RL.asg rfl rfl rfl ?_
 refine RL.finG ?_
 have h30 := Option.some.inj h30
 subst h30
 exact GL.ret (Gx.ret (v := .int .i64 x2) (res1 rfl rfl) (fun a w st => st.toPostC rfl))

set_option maxHeartbeats 4000000 in
theorem pk_GrovesOne_c (S : Hp) (w : World) (hS : S.sub w) (v0 : Value) (x0 : (List Int)) (k0 : ((TR.sl TR.int)).vrep S v0 x0) (res : Bool) (hm : pk_GrovesOne_m x0 = some res) : Calls Try.prog 13 #[v0] w (PostV w (.bool res)) := by
 refine calls_enter 141 Try.func13 Try.ntmps13 rfl S false [(0, v0)] [imm (TR.sl TR.int) v0 x0] rfl ⟨rfl, trivial⟩ hS ⟨k0, trivial⟩ ?_
 unfold pk_GrovesOne_m at hm
 refine GL.seq ?_
 refine GL.region ?_
 refine RL.asg rfl rfl rfl ?_
 refine RL.finG ?_
 refine GL.seq ?_
 refine GL.seq ?_
 obtain ⟨y13, K14, h15, h16, h17, h18, h19⟩ := bindR_K hm
 refine GL.join (ι := Bool) (fun (p : Bool) => [(0, v0), (22, .bool p)]) (fun (p : Bool) => [imm (TR.sl TR.int) v0 x0]) (fun (p : Bool) => K14 (.nx p)) ?_ ?_
 ·skip
  refine GL.region ?_
  obtain ⟨y20, e21, h15⟩ := bind_some h15
  refine RL.callV (v := .bool y20) (vs := []) Try_fit22 rfl (Or.inl rfl) rfl rfl rfl rfl (fun U w hU hW hL => pk_vickreys_c U w hU  _ e21) ?_
  refine RL.notB rfl rfl rfl ?_
  refine RL.mv rfl rfl rfl ?_
  refine RL.split (t := 19) rfl (fun b22 => ?_) (fun b22 => ?_)
  ·replace h15 := ite_t b22 h15
   refine RL.skip rfl rfl ?_
   refine RL.skip rfl rfl ?_
   refine RL.pickT rfl rfl rfl rfl ?_
   refine RL.fin ?_
   cases h15
   exact fun a w st => mid_intro true h16 (St.cut [0] ⟨rfl, rfl, trivial⟩ (by decide) rfl st)
  replace h15 := ite_f b22 h15
  obtain ⟨y23, e24, h15⟩ := bind_some h15
  refine RL.callV (v := .bool y23) (vs := []) Try_fit33 rfl (Or.inl rfl) rfl rfl rfl rfl (fun U w hU hW hL => pk_auctions_c U w hU  _ e24) ?_
  refine RL.notB rfl rfl rfl ?_
  refine RL.pickF rfl rfl rfl rfl ?_
  refine RL.fin ?_
  cases h15
  exact fun a w st => mid_intro (!y23) h16 (St.cut [0] ⟨rfl, rfl, trivial⟩ (by decide) rfl st)
 rintro x12 h25
 have h26 := h17 _ h25
 try dsimp only at h26
 refine GL.weak (env' := [(0, v0), (22, .bool x12)]) (L' := [imm (TR.sl TR.int) v0 x0]) (fun _ _ st => st) ?_
 refine GL.cond rfl (fun b27 => ?_) (fun b27 => ?_)
 ·replace h26 := ite_t b27 h26
  refine GL.seq ?_
  refine GL.region ?_
  refine RL.asg rfl rfl rfl ?_
  refine RL.finG ?_
  have h26 := Option.some.inj h26
  subst h26
  exact GL.ret (Gx.ret (v := .bool false) (res1 rfl rfl) (fun a w st => st.toPostV))
 replace h26 := ite_f b27 h26
 refine GL.skip ?_
 refine GL.seq ?_
 refine GL.region ?_
 refine RL.mv rfl rfl rfl ?_
 obtain ⟨y31, e32, h26⟩ := bind_some h26
 refine RL.call (vs := [v0]) Try_fit34 rfl rfl rfl rfl rfl (fun S f w hS hW hi => pk_BidsOf_c S w hS _ _ (hi 0 _ rfl) _ e32) ?_
 intro v33
 refine RL.asg rfl rfl rfl ?_
 refine RL.finG ?_
 refine GL.seq ?_
 refine GL.region ?_
 refine RL.mv rfl rfl rfl ?_
 refine RL.mv rfl rfl rfl ?_
 refine RL.lenS 1 Try.underlying34 rfl rfl rfl rfl SlOf.own ?_
 refine RL.minI rfl rfl rfl rfl ?_
 refine RL.weak (fun a w st => st.freeze 1 rfl) ?_
 obtain ⟨y37, e38, h26⟩ := bind_some h26
 replace e38 := chk_some e38
 refine RL.slc (t := TR.int) (i := 0) (j := (if (4 : Int) < ((y31).length : Int) then (4 : Int) else ((y31).length : Int)).toNat) (sz := 1) 1 Try.underlying34 Try_ln3 rfl rfl rfl rfl (Or.inl ⟨rfl, rfl⟩) (Or.inr ⟨_, _, rfl, by rw [Int.toNat_of_nonneg (by omega)]; rfl⟩) rfl (by omega) (by omega) ?_
 intro v39
 refine RL.reL (L' := [imm (TR.sl TR.int) v0 x0, imm (TR.sl TR.int) v33 y31, imm (TR.sl TR.int) v39 ((List.take ((if (4 : Int) < ((y31).length : Int) then (4 : Int) else ((y31).length : Int)).toNat) y31).drop 0)]) rfl ?_
 refine RL.asg rfl rfl rfl ?_
 refine RL.finG ?_
 refine GL.seq ?_
 refine GL.region ?_
 refine RL.asg rfl rfl rfl ?_
 refine RL.finG ?_
 refine GL.seq ?_
 refine GL.seq ?_
 refine GL.region ?_
 refine RL.mv rfl rfl rfl ?_
 refine RL.lenS 2 Try.underlying34 rfl rfl rfl rfl SlOf.imm ?_
 refine RL.mv rfl rfl rfl ?_
 refine RL.finG ?_
 refine GL.weak (fun a w st => st.nilOwn 34 (TR.sl TR.int)) ?_
 refine GL.open_ 2 rfl (fun S h => len_imm S h) (fun n56 => ?_)
 obtain ⟨y57, K58, h59, h60, h61, h62, h63⟩ := bindR_K h26
 refine GL.join (ι := (List (List Int)) × Value) (fun (p : (List (List Int)) × Value) => [(3, v39), (4, p.2)]) (fun (p : (List (List Int)) × Value) => [imm (TR.sl TR.int) v39 ((List.take ((if (4 : Int) < ((y31).length : Int) then (4 : Int) else ((y31).length : Int)).toNat) y31).drop 0), own 34 (TR.sl TR.int) p.2 p.1]) (fun (p : (List (List Int)) × Value) => K58 (.nx p.1)) ?_ ?_
 ·refine GL.block ?_
  refine GL.loop (ι := Nat × (List Int) × (List (List Int)) × Value) (fun (p : Nat × (List Int) × (List (List Int)) × Value) => [(3, v39), (4, p.2.2.2), (30, v39), (31, .int .i64 ((((List.take ((if (4 : Int) < ((y31).length : Int) then (4 : Int) else ((y31).length : Int)).toNat) y31).drop 0)).length : Int)), (32, .int .i64 (p.1 : Int))]) (fun (p : Nat × (List Int) × (List (List Int)) × Value) => [imm (TR.sl TR.int) v39 ((List.take ((if (4 : Int) < ((y31).length : Int) then (4 : Int) else ((y31).length : Int)).toNat) y31).drop 0), own 34 (TR.sl TR.int) p.2.2.2 p.2.2.1]) (fun (p : Nat × (List Int) × (List (List Int)) × Value) => p.1 + p.2.1.length = (((List.take ((if (4 : Int) < ((y31).length : Int) then (4 : Int) else ((y31).length : Int)).toNat) y31).drop 0)).length ∧ List.drop p.1 ((List.take ((if (4 : Int) < ((y31).length : Int) then (4 : Int) else ((y31).length : Int)).toNat) y31).drop 0) = p.2.1 ∧ rangeL pk_GrovesOne_b1 p.2.1 p.1 p.2.2.1 = some y57) (fun (p : Nat × (List Int) × (List (List Int)) × Value) => p.2.1.length) (0, ((List.take ((if (4 : Int) < ((y31).length : Int) then (4 : Int) else ((y31).length : Int)).toNat) y31).drop 0), [], Value.slice none 0 0) ⟨by simp, by simp, h59⟩ (fun a w st => St.cut [2, 3] ⟨rfl, rfl, rfl, rfl, rfl, trivial⟩ (by decide) rfl st) ?_
  rintro ⟨i65, r66, l40, v41⟩ ⟨h71, h72, h70⟩
  try dsimp only at h71 h72 h70
  refine GL.weak (env' := [(3, v39), (4, v41), (30, v39), (31, .int .i64 ((((List.take ((if (4 : Int) < ((y31).length : Int) then (4 : Int) else ((y31).length : Int)).toNat) y31).drop 0)).length : Int)), (32, .int .i64 (i65 : Int))]) (L' := [imm (TR.sl TR.int) v39 ((List.take ((if (4 : Int) < ((y31).length : Int) then (4 : Int) else ((y31).length : Int)).toNat) y31).drop 0), own 34 (TR.sl TR.int) v41 l40]) (fun _ _ st => st) ?_
  refine GL.seq ?_
  refine GL.region ?_
  refine RL.binI (v := .bool (decide ((i65 : Int) < ((((List.take ((if (4 : Int) < ((y31).length : Int) then (4 : Int) else ((y31).length : Int)).toNat) y31).drop 0)).length : Int)))) rfl rfl rfl rfl rfl ?_
  refine RL.finG ?_
  refine GL.seq ?_
  refine GL.cond rfl (fun b73 => ?_) (fun b73 => ?_)
  ·have h74 : i65 < (((List.take ((if (4 : Int) < ((y31).length : Int) then (4 : Int) else ((y31).length : Int)).toNat) y31).drop 0)).length := by have := of_decide_eq_true b73; omega
   obtain ⟨y75, r77, hr, e76, h78⟩ := drop_cons h72 rfl h74
   subst hr
   obtain ⟨z67, h68, h69⟩ := rangeL_some h70
   unfold pk_GrovesOne_b1 at h68
   try dsimp only at h68
   refine GL.skip ?_
   refine GL.seq ?_
   refine GL.block ?_
   refine GL.seq ?_
   refine GL.region ?_
   refine RL.idxS (sz := 1) 0 Try.underlying34 Try_ln3 rfl rfl rfl rfl rfl SlOf.imm (by omega) (by omega) ?_
   refine RL.ldSx (i := i65) (e' := y75) 0 Ex.ik Try_ln3 rfl rfl rfl rfl SlOf.imm e76 Part.self ?_
   refine RL.asg rfl rfl rfl ?_
   refine RL.finG ?_
   refine GL.region ?_
   refine RL.mv rfl rfl rfl ?_
   refine RL.mv rfl rfl rfl ?_
   refine RL.bS (t := TR.int) (vs := [.int .i64 y75]) ([y75] : (List Int)) Try.underlying34 Try_lo3 rfl rfl rfl rfl ⟨VR.int, trivial⟩ rfl (by decide) ?_
   intro v84
   refine RL.weak (fun a w st => st.freeze 2 rfl) ?_
   refine RL.bS (t := (TR.sl TR.int)) (vs := [v84]) ([([y75] : (List Int))] : (List (List Int))) Try.underlying42 Try_lo34 rfl rfl rfl rfl ⟨(VR.item 2 rfl), trivial⟩ rfl (by decide) ?_
   intro v85
   refine RL.reL (L' := [imm (TR.sl TR.int) v39 ((List.take ((if (4 : Int) < ((y31).length : Int) then (4 : Int) else ((y31).length : Int)).toNat) y31).drop 0), own 34 (TR.sl TR.int) v41 l40, imm (TR.sl TR.int) v84 ([y75] : (List Int)), own 34 (TR.sl TR.int) v85 ([([y75] : (List Int))] : (List (List Int)))]) rfl ?_
   obtain ⟨y86, e87, h68⟩ := bind_some h68
   replace e87 := chk_some e87
   refine RL.app 1 3 Try.underlying42 Try_lo34 rfl rfl rfl rfl rfl rfl rfl SlOf.own e87 ?_
   intro v88
   refine RL.asg rfl rfl rfl ?_
   refine RL.finG ?_
   refine GL.nilB ?_
   refine GL.region ?_
   refine RL.binI (v := .int .i64 ((i65 + 1 : Nat) : Int)) rfl rfl rfl rfl (binI_succ i65 (by omega)) ?_
   refine RL.mv rfl rfl rfl ?_
   refine RL.fin ?_
   cases h68
   exact fun a w st => lop_intro (i65 + 1, r77, (l40 ++ ([([y75] : (List Int))] : (List (List Int)))), v88) ⟨by show i65 + 1 + r77.length = (((List.take ((if (4 : Int) < ((y31).length : Int) then (4 : Int) else ((y31).length : Int)).toNat) y31).drop 0)).length; simp only [List.length_cons] at h71; omega, h78, h69⟩ (by simp) (St.cut [0, 1] ⟨rfl, rfl, rfl, rfl, rfl, trivial⟩ (by decide) rfl st)
  have h74 : ¬ i65 < (((List.take ((if (4 : Int) < ((y31).length : Int) then (4 : Int) else ((y31).length : Int)).toNat) y31).drop 0)).length := by have := of_decide_eq_false b73; omega
  obtain rfl : r66 = [] := by rw [← h72]; exact List.drop_of_length_le (by omega)
  replace h70 : some (Fl.nx _) = some y57 := h70
  cases h70
  exact GL.exit (fun a w st => mid_intro (l40, v41) h60 (St.cut [0, 1] ⟨rfl, rfl, trivial⟩ (by decide) rfl st))
 rintro ⟨l40, v41⟩ h89
 have h90 := h61 _ h89
 try dsimp only at h90
 refine GL.weak (env' := [(3, v39), (4, v41)]) (L' := [imm (TR.sl TR.int) v39 ((List.take ((if (4 : Int) < ((y31).length : Int) then (4 : Int) else ((y31).length : Int)).toNat) y31).drop 0), own 34 (TR.sl TR.int) v41 l40]) (fun _ _ st => st) ?_
 refine GL.seq ?_
 refine GL.region ?_
 refine RL.mv rfl rfl rfl ?_
 obtain ⟨y94, e95, h90⟩ := bind_some h90
 refine RL.callU (vs := [v41]) (LR := fun (o : Value) => [own 3 TR.int o y94.1]) (fun o => ⟨Loc.own TR.flatT_ik, trivial⟩) Try_fit24 rfl rfl rfl rfl rfl (fun U w hU hW hL => groves_Share_c U w hU _ _ (hL 1 _ _ rfl Seen.own) _ e95) ?_
 intro v96
 refine RL.mv rfl rfl rfl ?_
 refine RL.ext rfl rfl rfl rfl ?_
 refine RL.ext rfl rfl rfl rfl ?_
 refine RL.ext rfl rfl rfl rfl ?_
 refine RL.asg rfl rfl rfl ?_
 refine RL.asg rfl rfl rfl ?_
 refine RL.asg rfl rfl rfl ?_
 refine RL.finG ?_
 refine GL.seq ?_
 refine GL.region ?_
 refine RL.mv rfl rfl rfl ?_
 obtain ⟨y100, e101, h90⟩ := bind_some h90
 refine RL.callU (vs := [v41]) (LR := fun (o : Value) => [own 3 TR.int o y100.1]) (fun o => ⟨Loc.own TR.flatT_ik, trivial⟩) Try_fit25 rfl rfl rfl rfl rfl (fun U w hU hW hL => groves_Pays_c U w hU _ _ (hL 1 _ _ rfl Seen.own) _ e101) ?_
 intro v102
 refine RL.mv rfl rfl rfl ?_
 refine RL.ext rfl rfl rfl rfl ?_
 refine RL.ext rfl rfl rfl rfl ?_
 refine RL.asg rfl rfl rfl ?_
 refine RL.asg rfl rfl rfl ?_
 refine RL.finG ?_
 refine GL.seq ?_
 refine GL.region ?_
 refine RL.mv rfl rfl rfl ?_
 obtain ⟨y105, e106, h90⟩ := bind_some h90
 refine RL.callC (v := .tuple #[.int .i64 y105.1, .int .i64 y105.2.1, .int .i64 y105.2.2]) (vs := [v39, .int .i64 (0 : Int)]) Try_fit36 rfl rfl rfl rfl (fun U w hU hW hL => auction_Second_c U w hU _ _ (hL 0 _ _ rfl Seen.imm) (0 : Int) _ e106) ?_
 refine RL.mv rfl rfl rfl ?_
 refine RL.ext rfl rfl rfl rfl ?_
 refine RL.ext rfl rfl rfl rfl ?_
 refine RL.ext rfl rfl rfl rfl ?_
 refine RL.asg rfl rfl rfl ?_
 refine RL.asg rfl rfl rfl ?_
 refine RL.asg rfl rfl rfl ?_
 refine RL.finG ?_
 refine GL.seq ?_
 refine GL.seq ?_
 refine GL.region ?_
 refine RL.mv rfl rfl rfl ?_
 refine RL.lenS 0 Try.underlying34 rfl rfl rfl rfl SlOf.imm ?_
 refine RL.binI (v := .bool (((((List.take ((if (4 : Int) < ((y31).length : Int) then (4 : Int) else ((y31).length : Int)).toNat) y31).drop 0)).length : Int) == (0 : Int))) rfl rfl rfl rfl rfl ?_
 refine RL.finG ?_
 refine GL.cond rfl (fun b107 => ?_) (fun b107 => ?_)
 ·replace h90 := ite_t b107 h90
  refine GL.seq ?_
  obtain ⟨y119, K120, h121, h122, h123, h124, h125⟩ := bindR_K h90
  refine GL.join (ι := Bool) (fun (p : Bool) => [(2, .bool p)]) (fun (p : Bool) => []) (fun (p : Bool) => K120 (.nx p)) ?_ ?_
  ·skip
   refine GL.region ?_
   refine RL.mv rfl rfl rfl ?_
   refine RL.mv rfl rfl rfl ?_
   refine RL.bS (t := TR.int) (vs := [.int .i64 y94.2.2, .int .i64 y100.2]) ([y94.2.2, y100.2] : (List Int)) Try.underlying80 Try_lo24 rfl rfl rfl rfl ⟨VR.int, ⟨VR.int, trivial⟩⟩ rfl (by decide) ?_
   intro v126
   obtain ⟨y127, e128, h121⟩ := bind_some h121
   refine RL.callV (v := .bool y127) (vs := [v126]) Try_fit26 rfl (Or.inl rfl) rfl rfl rfl rfl (fun U w hU hW hL => pk_good_c U w hU _ _ (hL 4 _ _ rfl Seen.own) _ e128) ?_
   refine RL.mv rfl rfl rfl ?_
   refine RL.split (t := 66) rfl (fun b129 => ?_) (fun b129 => ?_)
   ·replace h121 := ite_t b129 h121
    refine RL.mv rfl rfl rfl ?_
    refine RL.lenS 2 Try.underlying34 rfl rfl rfl rfl SlOf.own ?_
    refine RL.mv rfl rfl rfl ?_
    refine RL.lenS 3 Try.underlying34 rfl rfl rfl rfl SlOf.own ?_
    refine RL.binI (v := .int .i64 (wadd ((y94.1).length : Int) ((y100.1).length : Int))) rfl rfl rfl rfl rfl ?_
    refine RL.binI (v := .bool ((wadd ((y94.1).length : Int) ((y100.1).length : Int)) == (0 : Int))) rfl rfl rfl rfl rfl ?_
    refine RL.pickT rfl rfl rfl rfl ?_
    refine RL.mv rfl rfl rfl ?_
    refine RL.split (t := 74) rfl (fun b130 => ?_) (fun b130 => ?_)
    ·replace h121 := ite_t b130 h121
     refine RL.mv rfl rfl rfl ?_
     refine RL.binI (v := .bool (y94.2.1 == (0 : Int))) rfl rfl rfl rfl rfl ?_
     refine RL.pickT rfl rfl rfl rfl ?_
     refine RL.asg rfl rfl rfl ?_
     refine RL.fin ?_
     cases h121
     exact fun a w st => mid_intro (y94.2.1 == (0 : Int)) h122 (St.cut [] ⟨rfl, trivial⟩ (by decide) rfl st)
    replace h121 := ite_f b130 h121
    refine RL.skip rfl rfl ?_
    refine RL.skip rfl rfl ?_
    refine RL.pickF rfl rfl rfl rfl ?_
    refine RL.asg rfl rfl rfl ?_
    refine RL.fin ?_
    cases h121
    exact fun a w st => mid_intro false h122 (St.cut [] ⟨rfl, trivial⟩ (by decide) rfl st)
   replace h121 := ite_f b129 h121
   refine RL.skip rfl rfl ?_
   refine RL.skip rfl rfl ?_
   refine RL.skip rfl rfl ?_
   refine RL.skip rfl rfl ?_
   refine RL.skip rfl rfl ?_
   refine RL.skip rfl rfl ?_
   refine RL.pickF rfl rfl rfl rfl ?_
   refine RL.mv rfl rfl rfl ?_
   refine RL.skip rfl rfl ?_
   refine RL.skip rfl rfl ?_
   refine RL.pickF rfl rfl rfl rfl ?_
   refine RL.asg rfl rfl rfl ?_
   refine RL.fin ?_
   cases h121
   exact fun a w st => mid_intro false h122 (St.cut [] ⟨rfl, trivial⟩ (by decide) rfl st)
  rintro x118 h131
  have h132 := h123 _ h131
  try dsimp only at h132
  refine GL.weak (env' := [(2, .bool x118)]) (L' := []) (fun _ _ st => st) ?_
  have h132 := Option.some.inj h132
  subst h132
  exact GL.ret (Gx.ret (v := .bool x118) (res1 rfl rfl) (fun a w st => st.toPostV))
 replace h90 := ite_f b107 h90
 refine GL.skip ?_
 refine GL.seq ?_
 refine GL.seq ?_
 obtain ⟨y172, K173, h174, h175, h176, h177, h178⟩ := bindR_K h90
 refine GL.join (ι := Bool) (fun (p : Bool) => [(3, v39), (7, v96), (8, .int .i64 y94.2.1), (122, .bool p)]) (fun (p : Bool) => [imm (TR.sl TR.int) v39 ((List.take ((if (4 : Int) < ((y31).length : Int) then (4 : Int) else ((y31).length : Int)).toNat) y31).drop 0), own 3 TR.int v96 y94.1]) (fun (p : Bool) => K173 (.nx p)) ?_ ?_
 ·skip
  refine GL.region ?_
  refine RL.mv rfl rfl rfl ?_
  refine RL.mv rfl rfl rfl ?_
  refine RL.mv rfl rfl rfl ?_
  refine RL.bS (t := TR.int) (vs := [.int .i64 y94.2.2, .int .i64 y100.2, .int .i64 y105.2.2]) ([y94.2.2, y100.2, y105.2.2] : (List Int)) Try.underlying80 Try_lo24 rfl rfl rfl rfl ⟨VR.int, ⟨VR.int, ⟨VR.int, trivial⟩⟩⟩ rfl (by decide) ?_
  intro v179
  obtain ⟨y180, e181, h174⟩ := bind_some h174
  refine RL.callV (v := .bool y180) (vs := [v179]) Try_fit26 rfl (Or.inl rfl) rfl rfl rfl rfl (fun U w hU hW hL => pk_good_c U w hU _ _ (hL 4 _ _ rfl Seen.own) _ e181) ?_
  refine RL.notB rfl rfl rfl ?_
  refine RL.mv rfl rfl rfl ?_
  refine RL.split (t := 84) rfl (fun b182 => ?_) (fun b182 => ?_)
  ·replace h174 := ite_t b182 h174
   refine RL.skip rfl rfl ?_
   refine RL.skip rfl rfl ?_
   refine RL.skip rfl rfl ?_
   refine RL.skip rfl rfl ?_
   refine RL.skip rfl rfl ?_
   refine RL.pickT rfl rfl rfl rfl ?_
   refine RL.mv rfl rfl rfl ?_
   refine RL.skip rfl rfl ?_
   refine RL.skip rfl rfl ?_
   refine RL.skip rfl rfl ?_
   refine RL.skip rfl rfl ?_
   refine RL.skip rfl rfl ?_
   refine RL.pickT rfl rfl rfl rfl ?_
   refine RL.mv rfl rfl rfl ?_
   refine RL.skip rfl rfl ?_
   refine RL.skip rfl rfl ?_
   refine RL.skip rfl rfl ?_
   refine RL.skip rfl rfl ?_
   refine RL.pickT rfl rfl rfl rfl ?_
   refine RL.mv rfl rfl rfl ?_
   refine RL.skip rfl rfl ?_
   refine RL.skip rfl rfl ?_
   refine RL.skip rfl rfl ?_
   refine RL.skip rfl rfl ?_
   refine RL.skip rfl rfl ?_
   refine RL.skip rfl rfl ?_
   refine RL.skip rfl rfl ?_
   refine RL.skip rfl rfl ?_
   refine RL.pickT rfl rfl rfl rfl ?_
   refine RL.mv rfl rfl rfl ?_
   refine RL.skip rfl rfl ?_
   refine RL.skip rfl rfl ?_
   refine RL.skip rfl rfl ?_
   refine RL.skip rfl rfl ?_
   refine RL.skip rfl rfl ?_
   refine RL.skip rfl rfl ?_
   refine RL.skip rfl rfl ?_
   refine RL.pickT rfl rfl rfl rfl ?_
   refine RL.fin ?_
   cases h174
   exact fun a w st => mid_intro true h175 (St.cut [0, 2] ⟨rfl, rfl, rfl, rfl, trivial⟩ (by decide) rfl st)
  replace h174 := ite_f b182 h174
  refine RL.mv rfl rfl rfl ?_
  refine RL.lenS 2 Try.underlying34 rfl rfl rfl rfl SlOf.own ?_
  refine RL.mv rfl rfl rfl ?_
  refine RL.lenS 0 Try.underlying34 rfl rfl rfl rfl SlOf.imm ?_
  refine RL.binI (v := .bool (((y94.1).length : Int) != ((((List.take ((if (4 : Int) < ((y31).length : Int) then (4 : Int) else ((y31).length : Int)).toNat) y31).drop 0)).length : Int))) rfl rfl rfl rfl rfl ?_
  refine RL.pickF rfl rfl rfl rfl ?_
  refine RL.mv rfl rfl rfl ?_
  refine RL.split (t := 91) rfl (fun b183 => ?_) (fun b183 => ?_)
  ·replace h174 := ite_t b183 h174
   refine RL.skip rfl rfl ?_
   refine RL.skip rfl rfl ?_
   refine RL.skip rfl rfl ?_
   refine RL.skip rfl rfl ?_
   refine RL.skip rfl rfl ?_
   refine RL.pickT rfl rfl rfl rfl ?_
   refine RL.mv rfl rfl rfl ?_
   refine RL.skip rfl rfl ?_
   refine RL.skip rfl rfl ?_
   refine RL.skip rfl rfl ?_
   refine RL.skip rfl rfl ?_
   refine RL.pickT rfl rfl rfl rfl ?_
   refine RL.mv rfl rfl rfl ?_
   refine RL.skip rfl rfl ?_
   refine RL.skip rfl rfl ?_
   refine RL.skip rfl rfl ?_
   refine RL.skip rfl rfl ?_
   refine RL.skip rfl rfl ?_
   refine RL.skip rfl rfl ?_
   refine RL.skip rfl rfl ?_
   refine RL.skip rfl rfl ?_
   refine RL.pickT rfl rfl rfl rfl ?_
   refine RL.mv rfl rfl rfl ?_
   refine RL.skip rfl rfl ?_
   refine RL.skip rfl rfl ?_
   refine RL.skip rfl rfl ?_
   refine RL.skip rfl rfl ?_
   refine RL.skip rfl rfl ?_
   refine RL.skip rfl rfl ?_
   refine RL.skip rfl rfl ?_
   refine RL.pickT rfl rfl rfl rfl ?_
   refine RL.fin ?_
   cases h174
   exact fun a w st => mid_intro true h175 (St.cut [0, 2] ⟨rfl, rfl, rfl, rfl, trivial⟩ (by decide) rfl st)
  replace h174 := ite_f b183 h174
  refine RL.mv rfl rfl rfl ?_
  refine RL.lenS 3 Try.underlying34 rfl rfl rfl rfl SlOf.own ?_
  refine RL.mv rfl rfl rfl ?_
  refine RL.lenS 0 Try.underlying34 rfl rfl rfl rfl SlOf.imm ?_
  refine RL.binI (v := .bool (((y100.1).length : Int) != ((((List.take ((if (4 : Int) < ((y31).length : Int) then (4 : Int) else ((y31).length : Int)).toNat) y31).drop 0)).length : Int))) rfl rfl rfl rfl rfl ?_
  refine RL.pickF rfl rfl rfl rfl ?_
  refine RL.mv rfl rfl rfl ?_
  refine RL.split (t := 98) rfl (fun b184 => ?_) (fun b184 => ?_)
  ·replace h174 := ite_t b184 h174
   refine RL.skip rfl rfl ?_
   refine RL.skip rfl rfl ?_
   refine RL.skip rfl rfl ?_
   refine RL.skip rfl rfl ?_
   refine RL.pickT rfl rfl rfl rfl ?_
   refine RL.mv rfl rfl rfl ?_
   refine RL.skip rfl rfl ?_
   refine RL.skip rfl rfl ?_
   refine RL.skip rfl rfl ?_
   refine RL.skip rfl rfl ?_
   refine RL.skip rfl rfl ?_
   refine RL.skip rfl rfl ?_
   refine RL.skip rfl rfl ?_
   refine RL.skip rfl rfl ?_
   refine RL.pickT rfl rfl rfl rfl ?_
   refine RL.mv rfl rfl rfl ?_
   refine RL.skip rfl rfl ?_
   refine RL.skip rfl rfl ?_
   refine RL.skip rfl rfl ?_
   refine RL.skip rfl rfl ?_
   refine RL.skip rfl rfl ?_
   refine RL.skip rfl rfl ?_
   refine RL.skip rfl rfl ?_
   refine RL.pickT rfl rfl rfl rfl ?_
   refine RL.fin ?_
   cases h174
   exact fun a w st => mid_intro true h175 (St.cut [0, 2] ⟨rfl, rfl, rfl, rfl, trivial⟩ (by decide) rfl st)
  replace h174 := ite_f b184 h174
  refine RL.mv rfl rfl rfl ?_
  refine RL.mv rfl rfl rfl ?_
  obtain ⟨y185, e186, h174⟩ := bind_some h174
  refine RL.callC (v := .int .i64 y185) (vs := [v39]) Try_fit42 rfl rfl rfl rfl (fun U w hU hW hL => slices_Max_int_int_c U w hU _ _ (hL 0 _ _ rfl Seen.imm) _ e186) ?_
  refine RL.binI (v := .bool (y94.2.1 != y185)) rfl rfl rfl rfl rfl ?_
  refine RL.pickF rfl rfl rfl rfl ?_
  refine RL.mv rfl rfl rfl ?_
  refine RL.split (t := 104) rfl (fun b187 => ?_) (fun b187 => ?_)
  ·replace h174 := ite_t b187 h174
   refine RL.skip rfl rfl ?_
   refine RL.skip rfl rfl ?_
   refine RL.skip rfl rfl ?_
   refine RL.skip rfl rfl ?_
   refine RL.skip rfl rfl ?_
   refine RL.skip rfl rfl ?_
   refine RL.skip rfl rfl ?_
   refine RL.skip rfl rfl ?_
   refine RL.pickT rfl rfl rfl rfl ?_
   refine RL.mv rfl rfl rfl ?_
   refine RL.skip rfl rfl ?_
   refine RL.skip rfl rfl ?_
   refine RL.skip rfl rfl ?_
   refine RL.skip rfl rfl ?_
   refine RL.skip rfl rfl ?_
   refine RL.skip rfl rfl ?_
   refine RL.skip rfl rfl ?_
   refine RL.pickT rfl rfl rfl rfl ?_
   refine RL.fin ?_
   cases h174
   exact fun a w st => mid_intro true h175 (St.cut [0, 2] ⟨rfl, rfl, rfl, rfl, trivial⟩ (by decide) rfl st)
  replace h174 := ite_f b187 h174
  refine RL.mv rfl rfl rfl ?_
  refine RL.binI (v := .bool (decide (y94.2.1 > (0 : Int)))) rfl rfl rfl rfl rfl ?_
  refine RL.mv rfl rfl rfl ?_
  refine RL.split (t := 107) rfl (fun b188 => ?_) (fun b188 => ?_)
  ·replace h174 := ite_t b188 h174
   refine RL.mv rfl rfl rfl ?_
   obtain ⟨y189, e190, h174⟩ := bind_some h174
   refine RL.callC (v := .int .i64 y189) (vs := [v102]) Try_fit43 rfl rfl rfl rfl (fun U w hU hW hL => pk_sum_c U w hU _ _ (hL 3 _ _ rfl Seen.own) _ e190) ?_
   refine RL.mv rfl rfl rfl ?_
   refine RL.binI (v := .bool (y189 != y105.2.1)) rfl rfl rfl rfl rfl ?_
   refine RL.pickT rfl rfl rfl rfl ?_
   refine RL.pickF rfl rfl rfl rfl ?_
   refine RL.mv rfl rfl rfl ?_
   refine RL.split (t := 114) rfl (fun b191 => ?_) (fun b191 => ?_)
   ·replace h174 := ite_t b191 h174
    refine RL.skip rfl rfl ?_
    refine RL.skip rfl rfl ?_
    refine RL.skip rfl rfl ?_
    refine RL.skip rfl rfl ?_
    refine RL.skip rfl rfl ?_
    refine RL.skip rfl rfl ?_
    refine RL.skip rfl rfl ?_
    refine RL.pickT rfl rfl rfl rfl ?_
    refine RL.fin ?_
    cases h174
    exact fun a w st => mid_intro true h175 (St.cut [0, 2] ⟨rfl, rfl, rfl, rfl, trivial⟩ (by decide) rfl st)
   replace h174 := ite_f b191 h174
   refine RL.mv rfl rfl rfl ?_
   refine RL.binI (v := .bool (y94.2.1 == (0 : Int))) rfl rfl rfl rfl rfl ?_
   refine RL.mv rfl rfl rfl ?_
   refine RL.split (t := 117) rfl (fun b192 => ?_) (fun b192 => ?_)
   ·replace h174 := ite_t b192 h174
    refine RL.mv rfl rfl rfl ?_
    obtain ⟨y193, e194, h174⟩ := bind_some h174
    refine RL.callC (v := .int .i64 y193) (vs := [v102]) Try_fit43 rfl rfl rfl rfl (fun U w hU hW hL => pk_sum_c U w hU _ _ (hL 3 _ _ rfl Seen.own) _ e194) ?_
    refine RL.binI (v := .bool (y193 != (0 : Int))) rfl rfl rfl rfl rfl ?_
    refine RL.pickT rfl rfl rfl rfl ?_
    refine RL.pickF rfl rfl rfl rfl ?_
    refine RL.fin ?_
    cases h174
    exact fun a w st => mid_intro (y193 != (0 : Int)) h175 (St.cut [0, 2] ⟨rfl, rfl, rfl, rfl, trivial⟩ (by decide) rfl st)
   replace h174 := ite_f b192 h174
   refine RL.skip rfl rfl ?_
   refine RL.skip rfl rfl ?_
   refine RL.skip rfl rfl ?_
   refine RL.pickF rfl rfl rfl rfl ?_
   refine RL.pickF rfl rfl rfl rfl ?_
   refine RL.fin ?_
   cases h174
   exact fun a w st => mid_intro false h175 (St.cut [0, 2] ⟨rfl, rfl, rfl, rfl, trivial⟩ (by decide) rfl st)
  replace h174 := ite_f b188 h174
  refine RL.skip rfl rfl ?_
  refine RL.skip rfl rfl ?_
  refine RL.skip rfl rfl ?_
  refine RL.skip rfl rfl ?_
  refine RL.pickF rfl rfl rfl rfl ?_
  refine RL.pickF rfl rfl rfl rfl ?_
  refine RL.mv rfl rfl rfl ?_
  refine RL.mv rfl rfl rfl ?_
  refine RL.binI (v := .bool (y94.2.1 == (0 : Int))) rfl rfl rfl rfl rfl ?_
  refine RL.mv rfl rfl rfl ?_
  refine RL.split (t := 117) rfl (fun b195 => ?_) (fun b195 => ?_)
  ·replace h174 := ite_t b195 h174
   refine RL.mv rfl rfl rfl ?_
   obtain ⟨y196, e197, h174⟩ := bind_some h174
   refine RL.callC (v := .int .i64 y196) (vs := [v102]) Try_fit43 rfl rfl rfl rfl (fun U w hU hW hL => pk_sum_c U w hU _ _ (hL 3 _ _ rfl Seen.own) _ e197) ?_
   refine RL.binI (v := .bool (y196 != (0 : Int))) rfl rfl rfl rfl rfl ?_
   refine RL.pickT rfl rfl rfl rfl ?_
   refine RL.pickF rfl rfl rfl rfl ?_
   refine RL.fin ?_
   cases h174
   exact fun a w st => mid_intro (y196 != (0 : Int)) h175 (St.cut [0, 2] ⟨rfl, rfl, rfl, rfl, trivial⟩ (by decide) rfl st)
  replace h174 := ite_f b195 h174
  refine RL.skip rfl rfl ?_
  refine RL.skip rfl rfl ?_
  refine RL.skip rfl rfl ?_
  refine RL.pickF rfl rfl rfl rfl ?_
  refine RL.pickF rfl rfl rfl rfl ?_
  refine RL.fin ?_
  cases h174
  exact fun a w st => mid_intro false h175 (St.cut [0, 2] ⟨rfl, rfl, rfl, rfl, trivial⟩ (by decide) rfl st)
 rintro x171 h198
 have h199 := h176 _ h198
 try dsimp only at h199
 refine GL.weak (env' := [(3, v39), (7, v96), (8, .int .i64 y94.2.1), (122, .bool x171)]) (L' := [imm (TR.sl TR.int) v39 ((List.take ((if (4 : Int) < ((y31).length : Int) then (4 : Int) else ((y31).length : Int)).toNat) y31).drop 0), own 3 TR.int v96 y94.1]) (fun _ _ st => st) ?_
 refine GL.cond rfl (fun b200 => ?_) (fun b200 => ?_)
 ·replace h199 := ite_t b200 h199
  refine GL.seq ?_
  refine GL.region ?_
  refine RL.asg rfl rfl rfl ?_
  refine RL.finG ?_
  have h199 := Option.some.inj h199
  subst h199
  exact GL.ret (Gx.ret (v := .bool false) (res1 rfl rfl) (fun a w st => st.toPostV))
 replace h199 := ite_f b200 h199
 refine GL.skip ?_
 refine GL.seq ?_
 refine GL.seq ?_
 refine GL.region ?_
 refine RL.mv rfl rfl rfl ?_
 refine RL.lenS 1 Try.underlying34 rfl rfl rfl rfl SlOf.own ?_
 refine RL.mv rfl rfl rfl ?_
 refine RL.finG ?_
 refine GL.lenOwn 1 rfl (fun n225 => ?_)
 obtain ⟨y226, K227, h228, h229, h230, h231, h232⟩ := bindR_K h199
 refine GL.join (ι := Unit) (fun (p : Unit) => []) (fun (p : Unit) => []) (fun (p : Unit) => K227 (.nx ())) ?_ ?_
 ·refine GL.block ?_
  refine GL.loop (ι := Nat × Nat) (fun (p : Nat × Nat) => [(3, v39), (8, .int .i64 y94.2.1), (123, v96), (124, .int .i64 ((y94.1).length : Int)), (125, .int .i64 (p.1 : Int))]) (fun (p : Nat × Nat) => [imm (TR.sl TR.int) v39 ((List.take ((if (4 : Int) < ((y31).length : Int) then (4 : Int) else ((y31).length : Int)).toNat) y31).drop 0), own 3 TR.int v96 y94.1]) (fun (p : Nat × Nat) => p.1 + p.2 = (y94.1).length ∧ rangeN (pk_GrovesOne_b2 y94 y31) p.2 p.1 () = some y226) (fun (p : Nat × Nat) => p.2) (0, (y94.1).length) ⟨by simp, h228⟩ (fun a w st => St.cut [0, 1] ⟨rfl, rfl, rfl, rfl, rfl, trivial⟩ (by decide) rfl st) ?_
  rintro ⟨i233, r234⟩ ⟨h239, h238⟩
  try dsimp only at h239 h238
  refine GL.weak (env' := [(3, v39), (8, .int .i64 y94.2.1), (123, v96), (124, .int .i64 ((y94.1).length : Int)), (125, .int .i64 (i233 : Int))]) (L' := [imm (TR.sl TR.int) v39 ((List.take ((if (4 : Int) < ((y31).length : Int) then (4 : Int) else ((y31).length : Int)).toNat) y31).drop 0), own 3 TR.int v96 y94.1]) (fun _ _ st => st) ?_
  refine GL.seq ?_
  refine GL.region ?_
  refine RL.binI (v := .bool (decide ((i233 : Int) < ((y94.1).length : Int)))) rfl rfl rfl rfl rfl ?_
  refine RL.finG ?_
  refine GL.seq ?_
  refine GL.cond rfl (fun b241 => ?_) (fun b241 => ?_)
  ·have h242 : i233 < (y94.1).length := by have := of_decide_eq_true b241; omega
   obtain ⟨r243, hr⟩ : ∃ m, r234 = m + 1 := ⟨r234 - 1, by omega⟩
   subst hr
   obtain ⟨z235, h236, h237⟩ := rangeN_some h238
   unfold pk_GrovesOne_b2 at h236
   try dsimp only at h236
   refine GL.skip ?_
   refine GL.seq ?_
   refine GL.block ?_
   refine GL.seq ?_
   refine GL.region ?_
   refine RL.mv rfl rfl rfl ?_
   obtain ⟨y246, e247, h236⟩ := bind_some h236
   refine RL.idxS (sz := 1) 1 Try.underlying34 Try_ln3 rfl rfl rfl rfl rfl SlOf.own (idx_some e247).1 (idx_some e247).2.1 ?_
   refine RL.ldSx (i := i233) (e' := y246) 1 Ex.ik Try_ln3 rfl rfl rfl rfl SlOf.own (idx_some e247).2.2 Part.self ?_
   refine RL.asg rfl rfl rfl ?_
   refine RL.asg rfl rfl rfl ?_
   refine RL.finG ?_
   refine GL.seq ?_
   obtain ⟨y255, K256, h257, h258, h259, h260, h261⟩ := bindF_K h236
   refine GL.join (ι := Bool) (fun (p : Bool) => [(3, v39), (8, .int .i64 y94.2.1), (123, v96), (124, .int .i64 ((y94.1).length : Int)), (125, .int .i64 (i233 : Int)), (139, .bool p)]) (fun (p : Bool) => [imm (TR.sl TR.int) v39 ((List.take ((if (4 : Int) < ((y31).length : Int) then (4 : Int) else ((y31).length : Int)).toNat) y31).drop 0), own 3 TR.int v96 y94.1]) (fun (p : Bool) => K256 (.nx p)) ?_ ?_
   ·skip
    refine GL.region ?_
    refine RL.mv rfl rfl rfl ?_
    refine RL.binI (v := .bool (y246 == (0 : Int))) rfl rfl rfl rfl rfl ?_
    refine RL.mv rfl rfl rfl ?_
    refine RL.split (t := 132) rfl (fun b262 => ?_) (fun b262 => ?_)
    ·replace h257 := ite_t b262 h257
     refine RL.mv rfl rfl rfl ?_
     refine RL.mv rfl rfl rfl ?_
     obtain ⟨y263, e264, h257⟩ := bind_some h257
     refine RL.idxS (sz := 1) 0 Try.underlying34 Try_ln3 rfl rfl rfl rfl rfl SlOf.imm (idx_some e264).1 (idx_some e264).2.1 ?_
     refine RL.ldSx (i := i233) (e' := y263) 0 Ex.ik Try_ln3 rfl rfl rfl rfl SlOf.imm (idx_some e264).2.2 Part.self ?_
     refine RL.mv rfl rfl rfl ?_
     refine RL.binI (v := .bool (y263 != y94.2.1)) rfl rfl rfl rfl rfl ?_
     refine RL.pickT rfl rfl rfl rfl ?_
     refine RL.fin ?_
     cases h257
     exact fun a w st => mid_intro (y263 != y94.2.1) h258 (St.cut [0, 1] ⟨rfl, rfl, rfl, rfl, rfl, rfl, trivial⟩ (by decide) rfl st)
    replace h257 := ite_f b262 h257
    refine RL.skip rfl rfl ?_
    refine RL.skip rfl rfl ?_
    refine RL.skip rfl rfl ?_
    refine RL.skip rfl rfl ?_
    refine RL.skip rfl rfl ?_
    refine RL.skip rfl rfl ?_
    refine RL.pickF rfl rfl rfl rfl ?_
    refine RL.fin ?_
    cases h257
    exact fun a w st => mid_intro false h258 (St.cut [0, 1] ⟨rfl, rfl, rfl, rfl, rfl, rfl, trivial⟩ (by decide) rfl st)
   rintro x254 h265
   have h266 := h259 _ h265
   try dsimp only at h266
   refine GL.weak (env' := [(3, v39), (8, .int .i64 y94.2.1), (123, v96), (124, .int .i64 ((y94.1).length : Int)), (125, .int .i64 (i233 : Int)), (139, .bool x254)]) (L' := [imm (TR.sl TR.int) v39 ((List.take ((if (4 : Int) < ((y31).length : Int) then (4 : Int) else ((y31).length : Int)).toNat) y31).drop 0), own 3 TR.int v96 y94.1]) (fun _ _ st => st) ?_
   refine GL.cond rfl (fun b267 => ?_) (fun b267 => ?_)
   ·replace h266 := ite_t b267 h266
    refine GL.seq ?_
    refine GL.region ?_
    refine RL.asg rfl rfl rfl ?_
    refine RL.finG ?_
    cases h266
    replace h237 : some (Fl.rt _) = some y226 := h237
    cases h237
    have hh := h231 _ h229
    subst hh
    exact GL.ret (Gx.ret (v := .bool false) (res1 rfl rfl) (fun a w st => st.toPostV))
   replace h266 := ite_f b267 h266
   refine GL.skip ?_
   refine GL.nilB ?_
   refine GL.region ?_
   refine RL.binI (v := .int .i64 ((i233 + 1 : Nat) : Int)) rfl rfl rfl rfl (binI_succ i233 (by omega)) ?_
   refine RL.mv rfl rfl rfl ?_
   refine RL.fin ?_
   cases h266
   exact fun a w st => lop_intro (i233 + 1, r243) ⟨by show i233 + 1 + r243 = (y94.1).length; omega, h237⟩ (by simp) (St.cut [0, 1] ⟨rfl, rfl, rfl, rfl, rfl, trivial⟩ (by decide) rfl st)
  have h242 : ¬ i233 < (y94.1).length := by have := of_decide_eq_false b241; omega
  obtain rfl : r234 = 0 := by omega
  replace h238 : some (Fl.nx _) = some y226 := h238
  cases h238
  exact GL.exit (fun a w st => mid_intro () h229 (St.cut [] trivial (by decide) rfl st))
 rintro ⟨⟩ h268
 have h269 := h230 _ h268
 try dsimp only at h269
 refine GL.weak (env' := []) (L' := []) (fun _ _ st => st) ?_
 refine GL.seq ?_
 refine GL.region ?_
 refine RL.asg rfl rfl rfl ?_
 refine RL.finG ?_
 have h269 := Option.some.inj h269
 subst h269
 exact GL.ret (Gx.ret (v := .bool true) (res1 rfl rfl) (fun a w st => st.toPostV))
end Go.Wk
