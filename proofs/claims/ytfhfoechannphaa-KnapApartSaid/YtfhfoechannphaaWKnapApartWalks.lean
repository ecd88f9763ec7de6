/- Each function comes to what its model says; printed by a program of this repository. -/
import Derived.Test.YtfhfoechannphaaProg
import Derived.Test.YtfhfoechannphaaWKnapApartModels
namespace Go.Wk
open Go.Fw Go.Mo Go.Proofs Go.RowKit
set_option linter.all false
set_option maxRecDepth 100000
theorem loopNx {ρ σ β γ : Type} {body : σ → Option (Fl ρ β σ)} {n : Nat} {s : σ} {y : Fl ρ γ β} (h : stepM body n (.nx s) = some y) : loopM body n s = some y := h
theorem Try_info3 : (Try.prog.info? 3).map (fun i => (i.zero, i.size, i.bytes)) = some (some (.int .i64 0), 1, 8) := by kernel_rfl
theorem Try_ln3 : Ln Try.prog 3 1 false := Ln.of Try_info3 Try.underlying3 rfl
theorem Try_lo3 : LnO Try.prog 3 1 [.int .i64 0] := LnO.of Try_info3 rfl rfl (by decide) (by decide)
theorem Try_info27 : (Try.prog.info? 27).map (fun i => (i.zero, i.size, i.bytes)) = some (some (.slice none 0 0), 1, 24) := by kernel_rfl
theorem Try_ln27 : Ln Try.prog 27 1 false := Ln.of Try_info27 Try.underlying27 rfl
theorem Try_lo27 : LnO Try.prog 27 1 [.slice none 0 0] := LnO.of Try_info27 rfl rfl (by decide) (by decide)
theorem Try_info28 : (Try.prog.info? 28).map (fun i => (i.zero, i.size, i.bytes)) = some (some (.int .i64 0), 1, 8) := by kernel_rfl
theorem Try_ln28 : Ln Try.prog 28 1 false := Ln.of Try_info28 Try.underlying28 rfl
theorem Try_lo28 : LnO Try.prog 28 1 [.int .i64 0] := LnO.of Try_info28 rfl rfl (by decide) (by decide)
theorem Try_info33 : (Try.prog.info? 33).map (fun i => (i.zero, i.size, i.bytes)) = some (some (.agg #[.int .i64 0, .int .i64 0]), 2, 16) := by kernel_rfl
theorem Try_ln33 : Ln Try.prog 33 2 true := Ln.of Try_info33 Try.underlying33 rfl
theorem Try_lo33 : LnO Try.prog 33 2 [.int .i64 0, .int .i64 0] := LnO.of Try_info33 rfl rfl (by decide) (by decide)
theorem Try_info61 : (Try.prog.info? 61).map (fun i => (i.zero, i.size, i.bytes)) = some (some (.agg #[.int .i64 0, .int .i64 0]), 2, 16) := by kernel_rfl
theorem Try_ln61 : Ln Try.prog 61 2 true := Ln.of Try_info61 Try.underlying61 rfl
theorem Try_lo61 : LnO Try.prog 61 2 [.int .i64 0, .int .i64 0] := LnO.of Try_info61 rfl rfl (by decide) (by decide)
theorem Try_bld33 (pv : List (Nat × Value)) : Try.prog.built 33 pv = Instr.fill ((mkPlaces 0 [[.int .i64 0], [.int .i64 0]]).toArray[·]?) (List.flatten [[.int .i64 0], [.int .i64 0]]).toArray pv := by kernel_rfl
theorem Try_fit10 : Fit Try.prog 10 := Fit.of Try.func10 (by kernel_rfl) rfl
theorem Try_fit11 : Fit Try.prog 11 := Fit.of Try.func11 (by kernel_rfl) rfl
theorem Try_fit12 : Fit Try.prog 12 := Fit.of Try.func12 (by kernel_rfl) rfl
theorem Try_fit13 : Fit Try.prog 13 := Fit.of Try.func13 (by kernel_rfl) rfl
theorem Try_fit17 : Fit Try.prog 17 := Fit.of Try.func17 (by kernel_rfl) rfl
theorem Try_fit32 : Fit Try.prog 32 := Fit.of Try.func32 (by kernel_rfl) rfl
theorem Try_fit33 : Fit Try.prog 33 := Fit.of Try.func33 (by kernel_rfl) rfl
theorem Try_fit34 : Fit Try.prog 34 := Fit.of Try.func34 (by kernel_rfl) rfl
theorem Try_fit35 : Fit Try.prog 35 := Fit.of Try.func35 (by kernel_rfl) rfl
theorem Try_fit47 : Fit Try.prog 47 := Fit.of Try.func47 (by kernel_rfl) rfl
theorem Try_fit8 : Fit Try.prog 8 := Fit.of Try.func8 (by kernel_rfl) rfl
theorem Try_fit9 : Fit Try.prog 9 := Fit.of Try.func9 (by kernel_rfl) rfl
theorem Try_fld33_0 (ad : Addr) (w : World) : (Instr.fieldAt 33 (.pointer (some ad)) 0).run Try.prog w = .ok (.pointer (some (ad.add 0))) w := by
  simp [Instr.fieldAt, run_underlying Try.underlying33, Instr.sureAddr, fieldPlace, Fw.run_sizeOf Try_ln3]
theorem Try_fld33_1 (ad : Addr) (w : World) : (Instr.fieldAt 33 (.pointer (some ad)) 1).run Try.prog w = .ok (.pointer (some (ad.add 1))) w := by
  simp [Instr.fieldAt, run_underlying Try.underlying33, Instr.sureAddr, fieldPlace, Fw.run_sizeOf Try_ln3]

set_option maxHeartbeats 4000000 in
theorem knap_Check_c (S : Hp) (w : World) (hS : S.sub w) (v0 : Value) (x0 : (List (Int × Int))) (k0 : ((TR.sl (TR.pair TR.int TR.int))).vrep S v0 x0) (x1 : Int) (res : Int) (hm : knap_Check_m x0 x1 = some res) : Calls Try.prog 33 #[v0, .int .i64 x1] w (PostV w (.int .i64 res)) := by
 refine calls_enter 41 Try.func33 Try.ntmps33 rfl S false [(0, v0), (1, .int .i64 x1)] [imm (TR.sl (TR.pair TR.int TR.int)) v0 x0] rfl ⟨rfl, ⟨rfl, trivial⟩⟩ hS ⟨k0, trivial⟩ ?_
 unfold knap_Check_m at hm
 refine GL.seq ?_
 refine GL.region ?_
 refine RL.asg rfl rfl rfl ?_
 refine RL.finG ?_
 refine GL.seq ?_
 refine GL.seq ?_
 refine GL.region ?_
 refine RL.mv rfl rfl rfl ?_
 refine RL.lenS 0 Try.underlying24 rfl rfl rfl rfl SlOf.imm ?_
 refine RL.binI (v := .bool (decide (((x0).length : Int) > (12 : Int)))) rfl rfl rfl rfl rfl ?_
 refine RL.finG ?_
 refine GL.cond rfl (fun b3 => ?_) (fun b3 => ?_)
 ·replace hm := ite_t b3 hm
  refine GL.seq ?_
  refine GL.region ?_
  refine RL.asg rfl rfl rfl ?_
  refine RL.finG ?_
  have hm := Option.some.inj hm
  subst hm
  exact GL.ret (Gx.ret (v := .int .i64 (2 : Int)) (res1 rfl rfl) (fun a w st => st.toPostV))
 replace hm := ite_f b3 hm
 refine GL.skip ?_
 refine GL.seq ?_
 refine GL.seq ?_
 refine GL.region ?_
 refine RL.mv rfl rfl rfl ?_
 refine RL.lenS 0 Try.underlying24 rfl rfl rfl rfl SlOf.imm ?_
 refine RL.mv rfl rfl rfl ?_
 refine RL.finG ?_
 refine GL.open_ 0 rfl (fun S h => len_imm S h) (fun n32 => ?_)
 obtain ⟨y33, K34, h35, h36, h37, h38, h39⟩ := bindR_K hm
 refine GL.join (ι := Unit) (fun (p : Unit) => [(1, .int .i64 x1)]) (fun (p : Unit) => []) (fun (p : Unit) => K34 (.nx ())) ?_ ?_
 ·refine GL.block ?_
  refine GL.loop (ι := Nat × (List (Int × Int))) (fun (p : Nat × (List (Int × Int))) => [(1, .int .i64 x1), (10, v0), (11, .int .i64 ((x0).length : Int)), (12, .int .i64 (p.1 : Int))]) (fun (p : Nat × (List (Int × Int))) => [imm (TR.sl (TR.pair TR.int TR.int)) v0 x0]) (fun (p : Nat × (List (Int × Int))) => p.1 + p.2.length = (x0).length ∧ List.drop p.1 x0 = p.2 ∧ rangeL knap_Check_b1 p.2 p.1 () = some y33) (fun (p : Nat × (List (Int × Int))) => p.2.length) (0, x0) ⟨by simp, by simp, h35⟩ (fun a w st => St.cut [0] ⟨rfl, rfl, rfl, rfl, trivial⟩ (by decide) rfl st) ?_
  rintro ⟨i40, r41⟩ ⟨h46, h47, h45⟩
  try dsimp only at h46 h47 h45
  refine GL.weak (env' := [(1, .int .i64 x1), (10, v0), (11, .int .i64 ((x0).length : Int)), (12, .int .i64 (i40 : Int))]) (L' := [imm (TR.sl (TR.pair TR.int TR.int)) v0 x0]) (fun _ _ st => st) ?_
  refine GL.seq ?_
  refine GL.region ?_
  refine RL.binI (v := .bool (decide ((i40 : Int) < ((x0).length : Int)))) rfl rfl rfl rfl rfl ?_
  refine RL.finG ?_
  refine GL.seq ?_
  refine GL.cond rfl (fun b48 => ?_) (fun b48 => ?_)
  ·have h49 : i40 < (x0).length := by have := of_decide_eq_true b48; omega
   obtain ⟨y50, r52, hr, e51, h53⟩ := drop_cons h47 rfl h49
   subst hr
   obtain ⟨z42, h43, h44⟩ := rangeL_some h45
   unfold knap_Check_b1 at h43
   try dsimp only at h43
   refine GL.skip ?_
   refine GL.seq ?_
   refine GL.block ?_
   refine GL.seq ?_
   refine GL.region ?_
   refine RL.idxS (sz := 2) 0 Try.underlying24 Try_ln33 rfl rfl rfl rfl rfl SlOf.imm (by omega) (by omega) ?_
   refine RL.ldS (i := i40) (r := (TR.pair TR.int TR.int)) (e' := y50) 0 Try_ln33 rfl rfl rfl rfl SlOf.imm e51 Part.self ?_
   intro v56
   refine RL.alloc (t := (TR.pair TR.int TR.int)) (z := ((0 : Int), (0 : Int))) Try_lo33 (fun S => ⟨[.int .i64 0], _, rfl, rfl, rfl⟩) rfl rfl rfl ?_
   intro v57
   refine RL.reL (L' := [imm (TR.sl (TR.pair TR.int TR.int)) v0 x0, imm (TR.pair TR.int TR.int) v56 y50, obox 33 (TR.pair TR.int TR.int) v57 ((0 : Int), (0 : Int))]) rfl ?_
   refine RL.stP (off := 0) (e' := y50) (d1 := y50) (r := (TR.pair TR.int TR.int)) 2 Try_ln33 rfl rfl (Or.inr ⟨rfl, rfl⟩) rfl (VR.item 1 rfl) rfl Upd.self ?_
   refine RL.finG ?_
   refine GL.seq ?_
   obtain ⟨y65, K66, h67, h68, h69, h70, h71⟩ := bindF_K h43
   refine GL.join (ι := Bool) (fun (p : Bool) => [(1, .int .i64 x1), (10, v0), (11, .int .i64 ((x0).length : Int)), (12, .int .i64 (i40 : Int)), (33, .bool p)]) (fun (p : Bool) => [imm (TR.sl (TR.pair TR.int TR.int)) v0 x0]) (fun (p : Bool) => K66 (.nx p)) ?_ ?_
   ·skip
    refine GL.region ?_
    refine RL.fadr (off := 0) (fo := 0) 2 Try_fld33_0 rfl rfl rfl PtOf.obox (Or.inr ⟨rfl, rfl⟩) ?_
    refine RL.ldPx (off := (0 + 0)) (e' := y50.1) 2 Ex.ik Try_ln3 rfl rfl (Or.inl rfl) rfl PtOf.obox (Part.fst Part.self) ?_
    refine RL.binI (v := .bool (decide (y50.1 < (1 : Int)))) rfl rfl rfl rfl rfl ?_
    refine RL.mv rfl rfl rfl ?_
    refine RL.split (t := 19) rfl (fun b72 => ?_) (fun b72 => ?_)
    ·replace h67 := ite_t b72 h67
     refine RL.skip rfl rfl ?_
     refine RL.skip rfl rfl ?_
     refine RL.skip rfl rfl ?_
     refine RL.pickT rfl rfl rfl rfl ?_
     refine RL.mv rfl rfl rfl ?_
     refine RL.skip rfl rfl ?_
     refine RL.skip rfl rfl ?_
     refine RL.skip rfl rfl ?_
     refine RL.pickT rfl rfl rfl rfl ?_
     refine RL.mv rfl rfl rfl ?_
     refine RL.skip rfl rfl ?_
     refine RL.skip rfl rfl ?_
     refine RL.skip rfl rfl ?_
     refine RL.pickT rfl rfl rfl rfl ?_
     refine RL.fin ?_
     cases h67
     exact fun a w st => mid_intro true h68 (St.cut [0] ⟨rfl, rfl, rfl, rfl, rfl, trivial⟩ (by decide) rfl st)
    replace h67 := ite_f b72 h67
    refine RL.fadr (off := 0) (fo := 0) 2 Try_fld33_0 rfl rfl rfl PtOf.obox (Or.inr ⟨rfl, rfl⟩) ?_
    refine RL.ldPx (off := (0 + 0)) (e' := y50.1) 2 Ex.ik Try_ln3 rfl rfl (Or.inl rfl) rfl PtOf.obox (Part.fst Part.self) ?_
    refine RL.binI (v := .bool (decide (y50.1 > (100 : Int)))) rfl rfl rfl rfl rfl ?_
    refine RL.pickF rfl rfl rfl rfl ?_
    refine RL.mv rfl rfl rfl ?_
    refine RL.split (t := 24) rfl (fun b73 => ?_) (fun b73 => ?_)
    ·replace h67 := ite_t b73 h67
     refine RL.skip rfl rfl ?_
     refine RL.skip rfl rfl ?_
     refine RL.skip rfl rfl ?_
     refine RL.pickT rfl rfl rfl rfl ?_
     refine RL.mv rfl rfl rfl ?_
     refine RL.skip rfl rfl ?_
     refine RL.skip rfl rfl ?_
     refine RL.skip rfl rfl ?_
     refine RL.pickT rfl rfl rfl rfl ?_
     refine RL.fin ?_
     cases h67
     exact fun a w st => mid_intro true h68 (St.cut [0] ⟨rfl, rfl, rfl, rfl, rfl, trivial⟩ (by decide) rfl st)
    replace h67 := ite_f b73 h67
    refine RL.fadr (off := 0) (fo := 1) 2 Try_fld33_1 rfl rfl rfl PtOf.obox (Or.inr ⟨rfl, rfl⟩) ?_
    refine RL.ldPx (off := (0 + 1)) (e' := y50.2) 2 Ex.ik Try_ln3 rfl rfl (Or.inl rfl) rfl PtOf.obox (Part.snd Part.self) ?_
    refine RL.binI (v := .bool (decide (y50.2 < (0 : Int)))) rfl rfl rfl rfl rfl ?_
    refine RL.pickF rfl rfl rfl rfl ?_
    refine RL.mv rfl rfl rfl ?_
    refine RL.split (t := 29) rfl (fun b74 => ?_) (fun b74 => ?_)
    ·replace h67 := ite_t b74 h67
     refine RL.skip rfl rfl ?_
     refine RL.skip rfl rfl ?_
     refine RL.skip rfl rfl ?_
     refine RL.pickT rfl rfl rfl rfl ?_
     refine RL.fin ?_
     cases h67
     exact fun a w st => mid_intro true h68 (St.cut [0] ⟨rfl, rfl, rfl, rfl, rfl, trivial⟩ (by decide) rfl st)
    replace h67 := ite_f b74 h67
    refine RL.fadr (off := 0) (fo := 1) 2 Try_fld33_1 rfl rfl rfl PtOf.obox (Or.inr ⟨rfl, rfl⟩) ?_
    refine RL.ldPx (off := (0 + 1)) (e' := y50.2) 2 Ex.ik Try_ln3 rfl rfl (Or.inl rfl) rfl PtOf.obox (Part.snd Part.self) ?_
    refine RL.binI (v := .bool (decide (y50.2 > (1000000 : Int)))) rfl rfl rfl rfl rfl ?_
    refine RL.pickF rfl rfl rfl rfl ?_
    refine RL.fin ?_
    cases h67
    exact fun a w st => mid_intro (decide (y50.2 > (1000000 : Int))) h68 (St.cut [0] ⟨rfl, rfl, rfl, rfl, rfl, trivial⟩ (by decide) rfl st)
   rintro x64 h75
   have h76 := h69 _ h75
   try dsimp only at h76
   refine GL.weak (env' := [(1, .int .i64 x1), (10, v0), (11, .int .i64 ((x0).length : Int)), (12, .int .i64 (i40 : Int)), (33, .bool x64)]) (L' := [imm (TR.sl (TR.pair TR.int TR.int)) v0 x0]) (fun _ _ st => st) ?_
   refine GL.cond rfl (fun b77 => ?_) (fun b77 => ?_)
   ·replace h76 := ite_t b77 h76
    refine GL.seq ?_
    refine GL.region ?_
    refine RL.asg rfl rfl rfl ?_
    refine RL.finG ?_
    cases h76
    replace h44 : some (Fl.rt _) = some y33 := h44
    cases h44
    have hh := h38 _ h36
    subst hh
    exact GL.ret (Gx.ret (v := .int .i64 (1 : Int)) (res1 rfl rfl) (fun a w st => st.toPostV))
   replace h76 := ite_f b77 h76
   refine GL.skip ?_
   refine GL.nilB ?_
   refine GL.region ?_
   refine RL.binI (v := .int .i64 ((i40 + 1 : Nat) : Int)) rfl rfl rfl rfl (binI_succ i40 (by omega)) ?_
   refine RL.mv rfl rfl rfl ?_
   refine RL.fin ?_
   cases h76
   exact fun a w st => lop_intro (i40 + 1, r52) ⟨by show i40 + 1 + r52.length = (x0).length; simp only [List.length_cons] at h46; omega, h53, h44⟩ (by simp) (St.cut [0] ⟨rfl, rfl, rfl, rfl, trivial⟩ (by decide) rfl st)
  have h49 : ¬ i40 < (x0).length := by have := of_decide_eq_false b48; omega
  obtain rfl : r41 = [] := by rw [← h47]; exact List.drop_of_length_le (by omega)
  replace h45 : some (Fl.nx _) = some y33 := h45
  cases h45
  exact GL.exit (fun a w st => mid_intro () h36 (St.cut [] ⟨rfl, trivial⟩ (by decide) rfl st))
 rintro ⟨⟩ h78
 have h79 := h37 _ h78
 try dsimp only at h79
 refine GL.weak (env' := [(1, .int .i64 x1)]) (L' := []) (fun _ _ st => st) ?_
 refine GL.seq ?_
 refine GL.seq ?_
 obtain ⟨y83, K84, h85, h86, h87, h88, h89⟩ := bindR_K h79
 refine GL.join (ι := Bool) (fun (p : Bool) => [(40, .bool p)]) (fun (p : Bool) => []) (fun (p : Bool) => K84 (.nx p)) ?_ ?_
 ·skip
  refine GL.region ?_
  refine RL.mv rfl rfl rfl ?_
  refine RL.binI (v := .bool (decide (x1 < (0 : Int)))) rfl rfl rfl rfl rfl ?_
  refine RL.mv rfl rfl rfl ?_
  refine RL.split (t := 37) rfl (fun b90 => ?_) (fun b90 => ?_)
  ·replace h85 := ite_t b90 h85
   refine RL.skip rfl rfl ?_
   refine RL.skip rfl rfl ?_
   refine RL.pickT rfl rfl rfl rfl ?_
   refine RL.fin ?_
   cases h85
   exact fun a w st => mid_intro true h86 (St.cut [] ⟨rfl, trivial⟩ (by decide) rfl st)
  replace h85 := ite_f b90 h85
  refine RL.mv rfl rfl rfl ?_
  refine RL.binI (v := .bool (decide (x1 > (1000 : Int)))) rfl rfl rfl rfl rfl ?_
  refine RL.pickF rfl rfl rfl rfl ?_
  refine RL.fin ?_
  cases h85
  exact fun a w st => mid_intro (decide (x1 > (1000 : Int))) h86 (St.cut [] ⟨rfl, trivial⟩ (by decide) rfl st)
 rintro x82 h91
 have h92 := h87 _ h91
 try dsimp only at h92
 refine GL.weak (env' := [(40, .bool x82)]) (L' := []) (fun _ _ st => st) ?_
 refine GL.cond rfl (fun b93 => ?_) (fun b93 => ?_)
 ·replace h92 := ite_t b93 h92
  refine GL.seq ?_
  refine GL.region ?_
  refine RL.asg rfl rfl rfl ?_
  refine RL.finG ?_
  have h92 := Option.some.inj h92
  subst h92
  exact GL.ret (Gx.ret (v := .int .i64 (1 : Int)) (res1 rfl rfl) (fun a w st => st.toPostV))
 replace h92 := ite_f b93 h92
 refine GL.skip ?_
 refine GL.seq ?_
 refine GL.region ?_
 refine RL.asg rfl rfl rfl ?_
 refine RL.finG ?_
 have h92 := Option.some.inj h92
 subst h92
 exact GL.ret (Gx.ret (v := .int .i64 (0 : Int)) (res1 rfl rfl) (fun a w st => st.toPostV))

set_option maxHeartbeats 4000000 in
theorem knap_Most_c (S : Hp) (w : World) (hS : S.sub w) (v0 : Value) (x0 : (List (Int × Int))) (k0 : ((TR.sl (TR.pair TR.int TR.int))).vrep S v0 x0) (x1 : Int) (res : (List Int) × Int × Int) (hm : knap_Most_m x0 x1 = some res) : Calls Try.prog 11 #[v0, .int .i64 x1] w (Post w S (fun (o : Value) => .tuple #[o, .int .i64 res.2.1, .int .i64 res.2.2]) (fun (o : Value) => [own 3 TR.int o res.1])) := by
 refine calls_enter 162 Try.func11 Try.ntmps11 rfl S false [(0, v0), (1, .int .i64 x1)] [imm (TR.sl (TR.pair TR.int TR.int)) v0 x0] rfl ⟨rfl, ⟨rfl, trivial⟩⟩ hS ⟨k0, trivial⟩ ?_
 unfold knap_Most_m at hm
 refine GL.seq ?_
 refine GL.region ?_
 refine RL.asg rfl rfl rfl ?_
 refine RL.asg rfl rfl rfl ?_
 refine RL.asg rfl rfl rfl ?_
 refine RL.finG ?_
 refine GL.seq ?_
 refine GL.seq ?_
 refine GL.region ?_
 refine RL.mv rfl rfl rfl ?_
 refine RL.mv rfl rfl rfl ?_
 obtain ⟨y5, e6, hm⟩ := bind_some hm
 refine RL.callV (v := .int .i64 y5) (vs := [v0, .int .i64 x1]) Try_fit33 rfl (Or.inl rfl) rfl rfl rfl rfl (fun U w hU hW hL => knap_Check_c U w hU _ _ (hL 0 _ _ rfl Seen.imm) x1 _ e6) ?_
 refine RL.asg rfl rfl rfl ?_
 refine RL.finG ?_
 refine GL.seq ?_
 refine GL.region ?_
 refine RL.mv rfl rfl rfl ?_
 refine RL.binI (v := .bool (y5 != (0 : Int))) rfl rfl rfl rfl rfl ?_
 refine RL.finG ?_
 refine GL.cond rfl (fun b7 => ?_) (fun b7 => ?_)
 ·replace hm := ite_t b7 hm
  refine GL.seq ?_
  refine GL.region ?_
  refine RL.mv rfl rfl rfl ?_
  refine RL.asg rfl rfl rfl ?_
  refine RL.asg rfl rfl rfl ?_
  refine RL.asg rfl rfl rfl ?_
  refine RL.finG ?_
  refine GL.weak (fun a w st => st.nilOwn 3 TR.int) ?_
  have hm := Option.some.inj hm
  subst hm
  exact GL.ret (Gx.ret (v := .tuple #[Value.slice none 0 0, .int .i64 (0 : Int), .int .i64 y5]) (res3 rfl rfl rfl rfl) (fun a w st => (st.pick [1] (by decide) rfl).toPost (Value.slice none 0 0)))
 replace hm := ite_f b7 hm
 refine GL.skip ?_
 refine GL.seq ?_
 refine GL.region ?_
 refine RL.mv rfl rfl rfl ?_
 refine RL.lenS 0 Try.underlying24 rfl rfl rfl rfl SlOf.imm ?_
 refine RL.binI (v := .int .i64 (wadd ((x0).length : Int) (1 : Int))) rfl rfl rfl rfl rfl ?_
 obtain ⟨y11, e12, hm⟩ := bind_some hm
 replace e12 := chk_some e12
 refine RL.mkS (t := TR.raw) (z := .slice none 0 0) Try.underlying37 Try_lo27 (fun S => ⟨rfl, rfl⟩) rfl rfl rfl rfl e12.1 e12.2 ?_
 intro v13
 refine RL.weak (fun a w st => st.toRows 3 TR.int 1 rfl) ?_
 refine RL.reL (L' := [imm (TR.sl (TR.pair TR.int TR.int)) v0 x0, own2 27 3 TR.int v13 (List.replicate (wadd ((x0).length : Int) (1 : Int)).toNat (Value.slice none 0 0)) (List.replicate (wadd ((x0).length : Int) (1 : Int)).toNat ([] : (List Int)))]) rfl ?_
 refine RL.asg rfl rfl rfl ?_
 refine RL.finG ?_
 refine GL.seq ?_
 refine GL.region ?_
 refine RL.mv rfl rfl rfl ?_
 refine RL.mv rfl rfl rfl ?_
 refine RL.lenS 0 Try.underlying24 rfl rfl rfl rfl SlOf.imm ?_
 refine RL.mv rfl rfl rfl ?_
 refine RL.binI (v := .int .i64 (wadd x1 (1 : Int))) rfl rfl rfl rfl rfl ?_
 obtain ⟨y19, e20, hm⟩ := bind_some hm
 replace e20 := chk_some e20
 refine RL.mkS (t := TR.int) (z := (0 : Int)) Try.underlying27 Try_lo3 (fun S => rfl) rfl rfl rfl rfl e20.1 e20.2 ?_
 intro v21
 obtain ⟨y22, e23, hm⟩ := bind_some hm
 refine RL.idxR 1 Try.underlying37 Try_ln27 rfl rfl rfl rfl rfl (idx_some e23).1 (idx_some e23).2.1 ?_
 refine RL.stSp (i := (((x0).length : Int)).toNat) (r0 := y22) 1 2 (by decide) Try_ln27 rfl rfl rfl rfl rfl rfl (idx_some e23).2.2 ?_
 refine RL.reL (L' := [imm (TR.sl (TR.pair TR.int TR.int)) v0 x0, own2 27 3 TR.int v13 (List.set (List.replicate (wadd ((x0).length : Int) (1 : Int)).toNat (Value.slice none 0 0)) ((((x0).length : Int)).toNat) v21) (List.set (List.replicate (wadd ((x0).length : Int) (1 : Int)).toNat ([] : (List Int))) ((((x0).length : Int)).toNat) (List.replicate (wadd x1 (1 : Int)).toNat (0 : Int))), gone]) rfl ?_
 refine RL.finG ?_
 refine GL.seq ?_
 refine GL.seq ?_
 refine GL.region ?_
 refine RL.mv rfl rfl rfl ?_
 refine RL.lenS 0 Try.underlying24 rfl rfl rfl rfl SlOf.imm ?_
 refine RL.binI (v := .int .i64 (wsub ((x0).length : Int) (1 : Int))) rfl rfl rfl rfl rfl ?_
 refine RL.asg rfl rfl rfl ?_
 refine RL.finG ?_
 obtain ⟨y402, K403, h404, h405, h406, h407, h408⟩ := bindR_K hm
 refine GL.join (ι := (List (List Int)) × Int × (List Value)) (fun (p : (List (List Int)) × Int × (List Value)) => [(0, v0), (1, .int .i64 x1), (8, v13)]) (fun (p : (List (List Int)) × Int × (List Value)) => [imm (TR.sl (TR.pair TR.int TR.int)) v0 x0, own2 27 3 TR.int v13 p.2.2 p.1]) (fun (p : (List (List Int)) × Int × (List Value)) => K403 (.nx (p.1, p.2.1))) ?_ ?_
 ·refine GL.block ?_
  refine GL.loop (ι := Nat × (List (List Int)) × Int × (List Value)) (fun (p : Nat × (List (List Int)) × Int × (List Value)) => [(0, v0), (1, .int .i64 x1), (8, v13), (9, .int .i64 p.2.2.1)]) (fun (p : Nat × (List (List Int)) × Int × (List Value)) => [imm (TR.sl (TR.pair TR.int TR.int)) v0 x0, own2 27 3 TR.int v13 p.2.2.2 p.2.1]) (fun (p : Nat × (List (List Int)) × Int × (List Value)) => loopM (knap_Most_b1 x1 x0) p.1 (p.2.1, p.2.2.1) = some y402) (fun (p : Nat × (List (List Int)) × Int × (List Value)) => p.1) (1048576, (List.set (List.replicate (wadd ((x0).length : Int) (1 : Int)).toNat ([] : (List Int))) ((((x0).length : Int)).toNat) (List.replicate (wadd x1 (1 : Int)).toNat (0 : Int))), wsub ((x0).length : Int) (1 : Int), (List.set (List.replicate (wadd ((x0).length : Int) (1 : Int)).toNat (Value.slice none 0 0)) ((((x0).length : Int)).toNat) v21)) h404 (fun a w st => St.cut [0, 1] ⟨rfl, rfl, rfl, rfl, trivial⟩ (by decide) rfl st) ?_
  rintro ⟨r410, l212, x214, V213⟩ h414
  try dsimp only at h414
  refine GL.weak (env' := [(0, v0), (1, .int .i64 x1), (8, v13), (9, .int .i64 x214)]) (L' := [imm (TR.sl (TR.pair TR.int TR.int)) v0 x0, own2 27 3 TR.int v13 V213 l212]) (fun _ _ st => st) ?_
  obtain ⟨r417, z411, hr, h412, h413⟩ := loopM_some h414
  subst hr
  unfold knap_Most_b1 at h412
  try dsimp only at h412
  refine GL.seq ?_
  refine GL.seq ?_
  refine GL.region ?_
  refine RL.mv rfl rfl rfl ?_
  refine RL.binI (v := .bool (decide (x214 ≥ (0 : Int)))) rfl rfl rfl rfl rfl ?_
  refine RL.finG ?_
  refine GL.cond rfl (fun b418 => ?_) (fun b418 => ?_)
  ·replace h412 := ite_t b418 h412
   refine GL.skip ?_
   refine GL.seq ?_
   refine GL.block ?_
   refine GL.seq ?_
   refine GL.region ?_
   refine RL.mv rfl rfl rfl ?_
   refine RL.mv rfl rfl rfl ?_
   refine RL.mv rfl rfl rfl ?_
   refine RL.binI (v := .int .i64 (wadd x1 (1 : Int))) rfl rfl rfl rfl rfl ?_
   obtain ⟨y424, e425, h412⟩ := bind_some h412
   replace e425 := chk_some e425
   refine RL.mkS (t := TR.int) (z := (0 : Int)) Try.underlying27 Try_lo3 (fun S => rfl) rfl rfl rfl rfl e425.1 e425.2 ?_
   intro v426
   obtain ⟨y427, e428, h412⟩ := bind_some h412
   refine RL.idxR 1 Try.underlying37 Try_ln27 rfl rfl rfl rfl rfl (idx_some e428).1 (idx_some e428).2.1 ?_
   refine RL.stSp (i := (x214).toNat) (r0 := y427) 1 2 (by decide) Try_ln27 rfl rfl rfl rfl rfl rfl (idx_some e428).2.2 ?_
   refine RL.reL (L' := [imm (TR.sl (TR.pair TR.int TR.int)) v0 x0, own2 27 3 TR.int v13 (List.set V213 ((x214).toNat) v426) (List.set l212 ((x214).toNat) (List.replicate (wadd x1 (1 : Int)).toNat (0 : Int))), gone]) rfl ?_
   refine RL.finG ?_
   refine GL.seq ?_
   refine GL.region ?_
   refine RL.mv rfl rfl rfl ?_
   refine RL.mv rfl rfl rfl ?_
   obtain ⟨y431, e432, h412⟩ := bind_some h412
   refine RL.idxR 1 Try.underlying37 Try_ln27 rfl rfl rfl rfl rfl (idx_some e432).1 (idx_some e432).2.1 ?_
   refine RL.ldR (i := (x214).toNat) (r := y431) 1 Try_ln27 rfl rfl rfl rfl (idx_some e432).2.2 ?_
   refine RL.lenS 1 Try.underlying27 rfl rfl rfl rfl (SlOf.row (idx_some e432).2.2) ?_
   refine RL.mv rfl rfl rfl ?_
   refine RL.finG ?_
   obtain ⟨y534, e535, h412⟩ := bind_some h412
   replace e535 := chk_some e535
   obtain ⟨y536, K537, h538, h539, h540, h541, h542⟩ := bindF_K h412
   refine GL.join (ι := (List (List Int)) × (List Value)) (fun (p : (List (List Int)) × (List Value)) => [(0, v0), (1, .int .i64 x1), (8, v13), (9, .int .i64 x214)]) (fun (p : (List (List Int)) × (List Value)) => [imm (TR.sl (TR.pair TR.int TR.int)) v0 x0, own2 27 3 TR.int v13 p.2 p.1]) (fun (p : (List (List Int)) × (List Value)) => K537 (.nx p.1)) ?_ ?_
   ·refine GL.block ?_
    refine GL.loop (ι := Nat × Nat × (List (List Int)) × (List Value)) (fun (p : Nat × Nat × (List (List Int)) × (List Value)) => [(0, v0), (1, .int .i64 x1), (8, v13), (9, .int .i64 x214), (50, .int .i64 ((y431).length : Int)), (51, .int .i64 (p.1 : Int))]) (fun (p : Nat × Nat × (List (List Int)) × (List Value)) => [imm (TR.sl (TR.pair TR.int TR.int)) v0 x0, own2 27 3 TR.int v13 p.2.2.2 p.2.2.1]) (fun (p : Nat × Nat × (List (List Int)) × (List Value)) => p.1 + p.2.1 = (((y431).length : Int)).toNat ∧ rangeN (knap_Most_b2 x214 x0) p.2.1 p.1 p.2.2.1 = some y536) (fun (p : Nat × Nat × (List (List Int)) × (List Value)) => p.2.1) (0, (((y431).length : Int)).toNat, (List.set l212 ((x214).toNat) (List.replicate (wadd x1 (1 : Int)).toNat (0 : Int))), (List.set V213 ((x214).toNat) v426)) ⟨by simp, h538⟩ (fun a w st => St.cut [0, 1] ⟨rfl, rfl, rfl, rfl, rfl, rfl, trivial⟩ (by decide) rfl st) ?_
    rintro ⟨i543, r544, l482, V483⟩ ⟨h549, h548⟩
    try dsimp only at h549 h548
    refine GL.weak (env' := [(0, v0), (1, .int .i64 x1), (8, v13), (9, .int .i64 x214), (50, .int .i64 ((y431).length : Int)), (51, .int .i64 (i543 : Int))]) (L' := [imm (TR.sl (TR.pair TR.int TR.int)) v0 x0, own2 27 3 TR.int v13 V483 l482]) (fun _ _ st => st) ?_
    refine GL.seq ?_
    refine GL.region ?_
    refine RL.binI (v := .bool (decide ((i543 : Int) < ((y431).length : Int)))) rfl rfl rfl rfl rfl ?_
    refine RL.finG ?_
    refine GL.seq ?_
    refine GL.cond rfl (fun b551 => ?_) (fun b551 => ?_)
    ·have h552 : i543 < (((y431).length : Int)).toNat := by have := of_decide_eq_true b551; omega
     obtain ⟨r553, hr⟩ : ∃ m, r544 = m + 1 := ⟨r544 - 1, by omega⟩
     subst hr
     obtain ⟨z545, h546, h547⟩ := rangeN_some h548
     unfold knap_Most_b2 at h546
     try dsimp only at h546
     refine GL.skip ?_
     refine GL.seq ?_
     refine GL.block ?_
     refine GL.seq ?_
     refine GL.region ?_
     refine RL.mv rfl rfl rfl ?_
     refine RL.asg rfl rfl rfl ?_
     refine RL.finG ?_
     refine GL.seq ?_
     refine GL.regionH 14 rfl rfl (by kernel_rfl) ?_
     simp only [List.take_succ_cons, List.take_zero, List.drop_succ_cons, List.drop_zero]
     refine RL.mv rfl rfl rfl ?_
     refine RL.mv rfl rfl rfl ?_
     obtain ⟨y562, e563, h546⟩ := bind_some h546
     refine RL.idxR 1 Try.underlying37 Try_ln27 rfl rfl rfl rfl rfl (idx_some e563).1 (idx_some e563).2.1 ?_
     refine RL.ldR (i := (x214).toNat) (r := y562) 1 Try_ln27 rfl rfl rfl rfl (idx_some e563).2.2 ?_
     refine RL.mv rfl rfl rfl ?_
     refine RL.mv rfl rfl rfl ?_
     refine RL.mv rfl rfl rfl ?_
     refine RL.binI (v := .int .i64 (wadd x214 (1 : Int))) rfl rfl rfl rfl rfl ?_
     obtain ⟨y564, e565, h546⟩ := bind_some h546
     refine RL.idxR 1 Try.underlying37 Try_ln27 rfl rfl rfl rfl rfl (idx_some e565).1 (idx_some e565).2.1 ?_
     refine RL.ldR (i := (wadd x214 (1 : Int)).toNat) (r := y564) 1 Try_ln27 rfl rfl rfl rfl (idx_some e565).2.2 ?_
     refine RL.mv rfl rfl rfl ?_
     obtain ⟨y566, e567, h546⟩ := bind_some h546
     refine RL.idxS (sz := 1) 1 Try.underlying27 Try_ln3 rfl rfl rfl rfl rfl (SlOf.row (idx_some e565).2.2) (idx_some e567).1 (idx_some e567).2.1 ?_
     refine RL.ldSx (i := i543) (e' := y566) 1 Ex.ik Try_ln3 rfl rfl rfl rfl (SlOf.row (idx_some e565).2.2) (idx_some e567).2.2 Part.self ?_
     obtain ⟨y568, e569, h546⟩ := bind_some h546
     refine RL.idxS (sz := 1) 1 Try.underlying27 Try_ln3 rfl rfl rfl rfl rfl (SlOf.row (idx_some e563).2.2) (idx_some e569).1 (idx_some e569).2.1 ?_
     refine RL.finH ?_
     refine RL.stR (i := (x214).toNat) (j := i543) (row := y562) (e' := y566) (e1 := y566) (r := TR.int) 1 Try_ln3 rfl rfl rfl rfl VR.int rfl (idx_some e563).2.2 (idx_some e569).2.2 Upd.self ?_
     refine RL.finG ?_
     refine GL.seq ?_
     refine GL.region ?_
     refine RL.mv rfl rfl rfl ?_
     refine RL.mv rfl rfl rfl ?_
     obtain ⟨y574, e575, h546⟩ := bind_some h546
     refine RL.idxS (sz := 2) 0 Try.underlying24 Try_ln33 rfl rfl rfl rfl rfl SlOf.imm (idx_some e575).1 (idx_some e575).2.1 ?_
     refine RL.ldS (i := (x214).toNat) (r := (TR.pair TR.int TR.int)) (e' := y574) 0 Try_ln33 rfl rfl rfl rfl SlOf.imm (idx_some e575).2.2 Part.self ?_
     intro v576
     refine RL.reL (L' := [imm (TR.sl (TR.pair TR.int TR.int)) v0 x0, own2 27 3 TR.int v13 V483 (List.set l482 ((x214).toNat) (List.set y562 i543 y566)), imm (TR.pair TR.int TR.int) v576 y574]) rfl ?_
     refine RL.alloc (t := (TR.pair TR.int TR.int)) (z := ((0 : Int), (0 : Int))) Try_lo33 (fun S => ⟨[.int .i64 0], _, rfl, rfl, rfl⟩) rfl rfl rfl ?_
     intro v577
     refine RL.stP (off := 0) (e' := y574) (d1 := y574) (r := (TR.pair TR.int TR.int)) 3 Try_ln33 rfl rfl (Or.inr ⟨rfl, rfl⟩) rfl (VR.item 2 rfl) rfl Upd.self ?_
     refine RL.reL (L' := [imm (TR.sl (TR.pair TR.int TR.int)) v0 x0, own2 27 3 TR.int v13 V483 (List.set l482 ((x214).toNat) (List.set y562 i543 y566)), imm (TR.pair TR.int TR.int) v576 y574, obox 33 (TR.pair TR.int TR.int) v577 y574]) rfl ?_
     refine RL.finG ?_
     refine GL.seq ?_
     refine GL.region ?_
     refine RL.fadr (off := 0) (fo := 0) 3 Try_fld33_0 rfl rfl rfl PtOf.obox (Or.inr ⟨rfl, rfl⟩) ?_
     refine RL.ldPx (off := (0 + 0)) (e' := y574.1) 3 Ex.ik Try_ln3 rfl rfl (Or.inl rfl) rfl PtOf.obox (Part.fst Part.self) ?_
     refine RL.mv rfl rfl rfl ?_
     refine RL.binI (v := .bool (decide (y574.1 ≤ (i543 : Int)))) rfl rfl rfl rfl rfl ?_
     refine RL.finG ?_
     refine GL.cond rfl (fun b578 => ?_) (fun b578 => ?_)
     ·replace h546 := ite_t b578 h546
      refine GL.regionH 28 rfl rfl (by kernel_rfl) ?_
      simp only [List.take_succ_cons, List.take_zero, List.drop_succ_cons, List.drop_zero]
      refine RL.mv rfl rfl rfl ?_
      refine RL.mv rfl rfl rfl ?_
      obtain ⟨y591, e592, h546⟩ := bind_some h546
      refine RL.idxR 1 Try.underlying37 Try_ln27 rfl rfl rfl rfl rfl (idx_some e592).1 (idx_some e592).2.1 ?_
      refine RL.ldR (i := (x214).toNat) (r := y591) 1 Try_ln27 rfl rfl rfl rfl (idx_some e592).2.2 ?_
      refine RL.mv rfl rfl rfl ?_
      refine RL.mv rfl rfl rfl ?_
      refine RL.mv rfl rfl rfl ?_
      obtain ⟨y593, e594, h546⟩ := bind_some h546
      refine RL.idxR 1 Try.underlying37 Try_ln27 rfl rfl rfl rfl rfl (idx_some e594).1 (idx_some e594).2.1 ?_
      refine RL.ldR (i := (x214).toNat) (r := y593) 1 Try_ln27 rfl rfl rfl rfl (idx_some e594).2.2 ?_
      refine RL.mv rfl rfl rfl ?_
      obtain ⟨y595, e596, h546⟩ := bind_some h546
      refine RL.idxS (sz := 1) 1 Try.underlying27 Try_ln3 rfl rfl rfl rfl rfl (SlOf.row (idx_some e594).2.2) (idx_some e596).1 (idx_some e596).2.1 ?_
      refine RL.ldSx (i := i543) (e' := y595) 1 Ex.ik Try_ln3 rfl rfl rfl rfl (SlOf.row (idx_some e594).2.2) (idx_some e596).2.2 Part.self ?_
      refine RL.fadr (off := 0) (fo := 1) 3 Try_fld33_1 rfl rfl rfl PtOf.obox (Or.inr ⟨rfl, rfl⟩) ?_
      refine RL.ldPx (off := (0 + 1)) (e' := y574.2) 3 Ex.ik Try_ln3 rfl rfl (Or.inl rfl) rfl PtOf.obox (Part.snd Part.self) ?_
      refine RL.mv rfl rfl rfl ?_
      refine RL.mv rfl rfl rfl ?_
      refine RL.binI (v := .int .i64 (wadd x214 (1 : Int))) rfl rfl rfl rfl rfl ?_
      obtain ⟨y597, e598, h546⟩ := bind_some h546
      refine RL.idxR 1 Try.underlying37 Try_ln27 rfl rfl rfl rfl rfl (idx_some e598).1 (idx_some e598).2.1 ?_
      refine RL.ldR (i := (wadd x214 (1 : Int)).toNat) (r := y597) 1 Try_ln27 rfl rfl rfl rfl (idx_some e598).2.2 ?_
      refine RL.mv rfl rfl rfl ?_
      refine RL.fadr (off := 0) (fo := 0) 3 Try_fld33_0 rfl rfl rfl PtOf.obox (Or.inr ⟨rfl, rfl⟩) ?_
      refine RL.ldPx (off := (0 + 0)) (e' := y574.1) 3 Ex.ik Try_ln3 rfl rfl (Or.inl rfl) rfl PtOf.obox (Part.fst Part.self) ?_
      refine RL.binI (v := .int .i64 (wsub (i543 : Int) y574.1)) rfl rfl rfl rfl rfl ?_
      obtain ⟨y599, e600, h546⟩ := bind_some h546
      refine RL.idxS (sz := 1) 1 Try.underlying27 Try_ln3 rfl rfl rfl rfl rfl (SlOf.row (idx_some e598).2.2) (idx_some e600).1 (idx_some e600).2.1 ?_
      refine RL.ldSx (i := (wsub (i543 : Int) y574.1).toNat) (e' := y599) 1 Ex.ik Try_ln3 rfl rfl rfl rfl (SlOf.row (idx_some e598).2.2) (idx_some e600).2.2 Part.self ?_
      refine RL.binI (v := .int .i64 (wadd y574.2 y599)) rfl rfl rfl rfl rfl ?_
      refine RL.maxI rfl rfl rfl rfl ?_
      obtain ⟨y601, e602, h546⟩ := bind_some h546
      refine RL.idxS (sz := 1) 1 Try.underlying27 Try_ln3 rfl rfl rfl rfl rfl (SlOf.row (idx_some e592).2.2) (idx_some e602).1 (idx_some e602).2.1 ?_
      refine RL.finH ?_
      refine RL.stR (i := (x214).toNat) (j := i543) (row := y591) (e' := if (wadd y574.2 y599) > y595 then wadd y574.2 y599 else y595) (e1 := if (wadd y574.2 y599) > y595 then wadd y574.2 y599 else y595) (r := TR.int) 1 Try_ln3 rfl rfl rfl rfl VR.int rfl (idx_some e592).2.2 (idx_some e602).2.2 Upd.self ?_
      refine RL.finG ?_
      refine GL.weak (env' := [(0, v0), (1, .int .i64 x1), (8, v13), (9, .int .i64 x214), (50, .int .i64 ((y431).length : Int)), (51, .int .i64 (i543 : Int))]) (L' := [imm (TR.sl (TR.pair TR.int TR.int)) v0 x0, own2 27 3 TR.int v13 V483 (List.set (List.set l482 ((x214).toNat) (List.set y562 i543 y566)) ((x214).toNat) (List.set y591 i543 (if (wadd y574.2 y599) > y595 then wadd y574.2 y599 else y595)))]) (fun a w st => St.cut [0, 1] ⟨rfl, rfl, rfl, rfl, rfl, rfl, trivial⟩ (by decide) rfl st) ?_
      refine GL.nilB ?_
      refine GL.region ?_
      refine RL.binI (v := .int .i64 ((i543 + 1 : Nat) : Int)) rfl rfl rfl rfl (binI_succ i543 (by omega)) ?_
      refine RL.mv rfl rfl rfl ?_
      refine RL.fin ?_
      cases h546
      exact fun a w st => lop_intro (i543 + 1, r553, (List.set (List.set l482 ((x214).toNat) (List.set y562 i543 y566)) ((x214).toNat) (List.set y591 i543 (if (wadd y574.2 y599) > y595 then wadd y574.2 y599 else y595))), V483) ⟨by show i543 + 1 + r553 = (((y431).length : Int)).toNat; omega, h547⟩ (by simp) (St.cut [0, 1] ⟨rfl, rfl, rfl, rfl, rfl, rfl, trivial⟩ (by decide) rfl st)
     replace h546 := ite_f b578 h546
     refine GL.skip ?_
     refine GL.nilB ?_
     refine GL.region ?_
     refine RL.binI (v := .int .i64 ((i543 + 1 : Nat) : Int)) rfl rfl rfl rfl (binI_succ i543 (by omega)) ?_
     refine RL.mv rfl rfl rfl ?_
     refine RL.fin ?_
     cases h546
     exact fun a w st => lop_intro (i543 + 1, r553, (List.set l482 ((x214).toNat) (List.set y562 i543 y566)), V483) ⟨by show i543 + 1 + r553 = (((y431).length : Int)).toNat; omega, h547⟩ (by simp) (St.cut [0, 1] ⟨rfl, rfl, rfl, rfl, rfl, rfl, trivial⟩ (by decide) rfl st)
    have h552 : ¬ i543 < (((y431).length : Int)).toNat := by have := of_decide_eq_false b551; omega
    obtain rfl : r544 = 0 := by omega
    replace h548 : some (Fl.nx _) = some y536 := h548
    cases h548
    exact GL.exit (fun a w st => mid_intro (l482, V483) h539 (St.cut [0, 1] ⟨rfl, rfl, rfl, rfl, trivial⟩ (by decide) rfl st))
   rintro ⟨l482, V483⟩ h603
   have h604 := h540 _ h603
   try dsimp only at h604
   refine GL.weak (env' := [(0, v0), (1, .int .i64 x1), (8, v13), (9, .int .i64 x214)]) (L' := [imm (TR.sl (TR.pair TR.int TR.int)) v0 x0, own2 27 3 TR.int v13 V483 l482]) (fun _ _ st => st) ?_
   refine GL.nilB ?_
   refine GL.region ?_
   refine RL.mv rfl rfl rfl ?_
   refine RL.binI (v := .int .i64 (wsub x214 (1 : Int))) rfl rfl rfl rfl rfl ?_
   refine RL.asg rfl rfl rfl ?_
   refine RL.finG ?_
   cases h604
   exact fun a w st => lop_intro (r417, l482, wsub x214 (1 : Int), V483) (by exact h413) (by simp) (St.cut [0, 1] ⟨rfl, rfl, rfl, rfl, trivial⟩ (by decide) rfl st)
  replace h412 := ite_f b418 h412
  cases h412
  replace h413 : some (Fl.nx _) = some y402 := h413
  cases h413
  exact GL.exit (fun a w st => mid_intro (l212, x214, V213) h405 (St.cut [0, 1] ⟨rfl, rfl, rfl, trivial⟩ (by decide) rfl st))
 rintro ⟨l212, x214, V213⟩ h605
 have h606 := h406 _ h605
 try dsimp only at h606
 refine GL.weak (env' := [(0, v0), (1, .int .i64 x1), (8, v13)]) (L' := [imm (TR.sl (TR.pair TR.int TR.int)) v0 x0, own2 27 3 TR.int v13 V213 l212]) (fun _ _ st => st) ?_
 refine GL.seq ?_
 refine GL.region ?_
 refine RL.asg rfl rfl rfl ?_
 refine RL.finG ?_
 refine GL.seq ?_
 refine GL.region ?_
 refine RL.mv rfl rfl rfl ?_
 refine RL.asg rfl rfl rfl ?_
 refine RL.finG ?_
 refine GL.seq ?_
 refine GL.seq ?_
 refine GL.region ?_
 refine RL.mv rfl rfl rfl ?_
 refine RL.lenS 0 Try.underlying24 rfl rfl rfl rfl SlOf.imm ?_
 refine RL.mv rfl rfl rfl ?_
 refine RL.finG ?_
 refine GL.weak (fun a w st => st.nilOwn 3 TR.int) ?_
 refine GL.open_ 0 rfl (fun S h => len_imm S h) (fun n667 => ?_)
 obtain ⟨y668, K669, h670, h671, h672, h673, h674⟩ := bindR_K h606
 refine GL.join (ι := (List Int) × Int × Value) (fun (p : (List Int) × Int × Value) => [(1, .int .i64 x1), (8, v13), (12, p.2.2)]) (fun (p : (List Int) × Int × Value) => [own2 27 3 TR.int v13 V213 l212, own 3 TR.int p.2.2 p.1]) (fun (p : (List Int) × Int × Value) => K669 (.nx (p.1, p.2.1))) ?_ ?_
 ·refine GL.block ?_
  refine GL.loop (ι := Nat × (List (Int × Int)) × (List Int) × Int × Value) (fun (p : Nat × (List (Int × Int)) × (List Int) × Int × Value) => [(1, .int .i64 x1), (8, v13), (12, p.2.2.2.2), (13, .int .i64 p.2.2.2.1), (106, v0), (107, .int .i64 ((x0).length : Int)), (108, .int .i64 (p.1 : Int))]) (fun (p : Nat × (List (Int × Int)) × (List Int) × Int × Value) => [own2 27 3 TR.int v13 V213 l212, own 3 TR.int p.2.2.2.2 p.2.2.1, imm (TR.sl (TR.pair TR.int TR.int)) v0 x0]) (fun (p : Nat × (List (Int × Int)) × (List Int) × Int × Value) => p.1 + p.2.1.length = (x0).length ∧ List.drop p.1 x0 = p.2.1 ∧ rangeL (knap_Most_b3 l212) p.2.1 p.1 (p.2.2.1, p.2.2.2.1) = some y668) (fun (p : Nat × (List (Int × Int)) × (List Int) × Int × Value) => p.2.1.length) (0, x0, [], x1, Value.slice none 0 0) ⟨by simp, by simp, h670⟩ (fun a w st => St.cut [1, 2, 0] ⟨rfl, rfl, rfl, rfl, rfl, rfl, rfl, trivial⟩ (by decide) rfl st) ?_
  rintro ⟨i675, r676, l607, x609, v608⟩ ⟨h681, h682, h680⟩
  try dsimp only at h681 h682 h680
  refine GL.weak (env' := [(1, .int .i64 x1), (8, v13), (12, v608), (13, .int .i64 x609), (106, v0), (107, .int .i64 ((x0).length : Int)), (108, .int .i64 (i675 : Int))]) (L' := [own2 27 3 TR.int v13 V213 l212, own 3 TR.int v608 l607, imm (TR.sl (TR.pair TR.int TR.int)) v0 x0]) (fun _ _ st => st) ?_
  refine GL.seq ?_
  refine GL.region ?_
  refine RL.binI (v := .bool (decide ((i675 : Int) < ((x0).length : Int)))) rfl rfl rfl rfl rfl ?_
  refine RL.finG ?_
  refine GL.seq ?_
  refine GL.cond rfl (fun b683 => ?_) (fun b683 => ?_)
  ·have h684 : i675 < (x0).length := by have := of_decide_eq_true b683; omega
   obtain ⟨y685, r687, hr, e686, h688⟩ := drop_cons h682 rfl h684
   subst hr
   obtain ⟨z677, h678, h679⟩ := rangeL_some h680
   unfold knap_Most_b3 at h678
   try dsimp only at h678
   refine GL.skip ?_
   refine GL.seq ?_
   refine GL.block ?_
   refine GL.seq ?_
   refine GL.region ?_
   refine RL.mv rfl rfl rfl ?_
   refine RL.idxS (sz := 2) 2 Try.underlying24 Try_ln33 rfl rfl rfl rfl rfl SlOf.imm (by omega) (by omega) ?_
   refine RL.ldS (i := i675) (r := (TR.pair TR.int TR.int)) (e' := y685) 2 Try_ln33 rfl rfl rfl rfl SlOf.imm e686 Part.self ?_
   intro v691
   refine RL.alloc (t := (TR.pair TR.int TR.int)) (z := ((0 : Int), (0 : Int))) Try_lo33 (fun S => ⟨[.int .i64 0], _, rfl, rfl, rfl⟩) rfl rfl rfl ?_
   intro v692
   refine RL.reL (L' := [own2 27 3 TR.int v13 V213 l212, own 3 TR.int v608 l607, imm (TR.sl (TR.pair TR.int TR.int)) v0 x0, imm (TR.pair TR.int TR.int) v691 y685, obox 33 (TR.pair TR.int TR.int) v692 ((0 : Int), (0 : Int))]) rfl ?_
   refine RL.asg rfl rfl rfl ?_
   refine RL.stP (off := 0) (e' := y685) (d1 := y685) (r := (TR.pair TR.int TR.int)) 4 Try_ln33 rfl rfl (Or.inr ⟨rfl, rfl⟩) rfl (VR.item 3 rfl) rfl Upd.self ?_
   refine RL.finG ?_
   refine GL.seq ?_
   obtain ⟨y714, K715, h716, h717, h718, h719, h720⟩ := bindF_K h678
   refine GL.join (ι := Bool) (fun (p : Bool) => [(1, .int .i64 x1), (8, v13), (12, v608), (13, .int .i64 x609), (14, .int .i64 (i675 : Int)), (15, v692), (106, v0), (107, .int .i64 ((x0).length : Int)), (108, .int .i64 (i675 : Int)), (145, .bool p)]) (fun (p : Bool) => [own2 27 3 TR.int v13 V213 l212, own 3 TR.int v608 l607, obox 33 (TR.pair TR.int TR.int) v692 y685, imm (TR.sl (TR.pair TR.int TR.int)) v0 x0]) (fun (p : Bool) => K715 (.nx p)) ?_ ?_
   ·skip
    refine GL.regionQ rfl rfl (by kernel_rfl) ?_
    refine RL.fadr (off := 0) (fo := 0) 4 Try_fld33_0 rfl rfl rfl PtOf.obox (Or.inr ⟨rfl, rfl⟩) ?_
    refine RL.ldPx (off := (0 + 0)) (e' := y685.1) 4 Ex.ik Try_ln3 rfl rfl (Or.inl rfl) rfl PtOf.obox (Part.fst Part.self) ?_
    refine RL.mv rfl rfl rfl ?_
    refine RL.binI (v := .bool (decide (y685.1 ≤ x609))) rfl rfl rfl rfl rfl ?_
    refine RL.mv rfl rfl rfl ?_
    refine RL.split (t := 117) rfl (fun b721 => ?_) (fun b721 => ?_)
    ·replace h716 := ite_t b721 h716
     refine RL.fadr (off := 0) (fo := 1) 4 Try_fld33_1 rfl rfl rfl PtOf.obox (Or.inr ⟨rfl, rfl⟩) ?_
     refine RL.ldPx (off := (0 + 1)) (e' := y685.2) 4 Ex.ik Try_ln3 rfl rfl (Or.inl rfl) rfl PtOf.obox (Part.snd Part.self) ?_
     refine RL.binI (v := .bool (decide (y685.2 > (0 : Int)))) rfl rfl rfl rfl rfl ?_
     refine RL.pickT rfl rfl rfl rfl ?_
     refine RL.mv rfl rfl rfl ?_
     refine RL.split (t := 122) rfl (fun b722 => ?_) (fun b722 => ?_)
     ·replace h716 := ite_t b722 h716
      refine RL.fadr (off := 0) (fo := 1) 4 Try_fld33_1 rfl rfl rfl PtOf.obox (Or.inr ⟨rfl, rfl⟩) ?_
      refine RL.ldPx (off := (0 + 1)) (e' := y685.2) 4 Ex.ik Try_ln3 rfl rfl (Or.inl rfl) rfl PtOf.obox (Part.snd Part.self) ?_
      refine RL.mv rfl rfl rfl ?_
      refine RL.mv rfl rfl rfl ?_
      refine RL.binI (v := .int .i64 (wadd (i675 : Int) (1 : Int))) rfl rfl rfl rfl rfl ?_
      obtain ⟨y723, e724, h716⟩ := bind_some h716
      refine RL.idxR 0 Try.underlying37 Try_ln27 rfl rfl rfl rfl rfl (idx_some e724).1 (idx_some e724).2.1 ?_
      refine RL.ldR (i := (wadd (i675 : Int) (1 : Int)).toNat) (r := y723) 0 Try_ln27 rfl rfl rfl rfl (idx_some e724).2.2 ?_
      refine RL.mv rfl rfl rfl ?_
      refine RL.fadr (off := 0) (fo := 0) 4 Try_fld33_0 rfl rfl rfl PtOf.obox (Or.inr ⟨rfl, rfl⟩) ?_
      refine RL.ldPx (off := (0 + 0)) (e' := y685.1) 4 Ex.ik Try_ln3 rfl rfl (Or.inl rfl) rfl PtOf.obox (Part.fst Part.self) ?_
      refine RL.binI (v := .int .i64 (wsub x609 y685.1)) rfl rfl rfl rfl rfl ?_
      obtain ⟨y725, e726, h716⟩ := bind_some h716
      refine RL.idxS (sz := 1) 0 Try.underlying27 Try_ln3 rfl rfl rfl rfl rfl (SlOf.row (idx_some e724).2.2) (idx_some e726).1 (idx_some e726).2.1 ?_
      refine RL.ldSx (i := (wsub x609 y685.1).toNat) (e' := y725) 0 Ex.ik Try_ln3 rfl rfl rfl rfl (SlOf.row (idx_some e724).2.2) (idx_some e726).2.2 Part.self ?_
      refine RL.binI (v := .int .i64 (wadd y685.2 y725)) rfl rfl rfl rfl rfl ?_
      refine RL.mv rfl rfl rfl ?_
      refine RL.mv rfl rfl rfl ?_
      obtain ⟨y727, e728, h716⟩ := bind_some h716
      refine RL.idxR 0 Try.underlying37 Try_ln27 rfl rfl rfl rfl rfl (idx_some e728).1 (idx_some e728).2.1 ?_
      refine RL.ldR (i := i675) (r := y727) 0 Try_ln27 rfl rfl rfl rfl (idx_some e728).2.2 ?_
      refine RL.mv rfl rfl rfl ?_
      obtain ⟨y729, e730, h716⟩ := bind_some h716
      refine RL.idxS (sz := 1) 0 Try.underlying27 Try_ln3 rfl rfl rfl rfl rfl (SlOf.row (idx_some e728).2.2) (idx_some e730).1 (idx_some e730).2.1 ?_
      refine RL.ldSx (i := (x609).toNat) (e' := y729) 0 Ex.ik Try_ln3 rfl rfl rfl rfl (SlOf.row (idx_some e728).2.2) (idx_some e730).2.2 Part.self ?_
      refine RL.binI (v := .bool ((wadd y685.2 y725) == y729)) rfl rfl rfl rfl rfl ?_
      refine RL.pickT rfl rfl rfl rfl ?_
      refine RL.finQ ?_
      cases h716
      exact fun a w st => mid_intro ((wadd y685.2 y725) == y729) h717 (St.cut [0, 1, 4, 2] ⟨rfl, rfl, rfl, rfl, rfl, rfl, rfl, rfl, rfl, rfl, trivial⟩ (by decide) rfl st)
     replace h716 := ite_f b722 h716
     refine RL.skip rfl rfl ?_
     refine RL.skip rfl rfl ?_
     refine RL.skip rfl rfl ?_
     refine RL.skip rfl rfl ?_
     refine RL.skip rfl rfl ?_
     refine RL.skip rfl rfl ?_
     refine RL.skip rfl rfl ?_
     refine RL.skip rfl rfl ?_
     refine RL.skip rfl rfl ?_
     refine RL.skip rfl rfl ?_
     refine RL.skip rfl rfl ?_
     refine RL.skip rfl rfl ?_
     refine RL.skip rfl rfl ?_
     refine RL.skip rfl rfl ?_
     refine RL.skip rfl rfl ?_
     refine RL.skip rfl rfl ?_
     refine RL.skip rfl rfl ?_
     refine RL.skip rfl rfl ?_
     refine RL.skip rfl rfl ?_
     refine RL.skip rfl rfl ?_
     refine RL.skip rfl rfl ?_
     refine RL.skip rfl rfl ?_
     refine RL.pickF rfl rfl rfl rfl ?_
     refine RL.finQ ?_
     cases h716
     exact fun a w st => mid_intro false h717 (St.cut [0, 1, 4, 2] ⟨rfl, rfl, rfl, rfl, rfl, rfl, rfl, rfl, rfl, rfl, trivial⟩ (by decide) rfl st)
    replace h716 := ite_f b721 h716
    refine RL.skip rfl rfl ?_
    refine RL.skip rfl rfl ?_
    refine RL.skip rfl rfl ?_
    refine RL.pickF rfl rfl rfl rfl ?_
    refine RL.mv rfl rfl rfl ?_
    refine RL.skip rfl rfl ?_
    refine RL.skip rfl rfl ?_
    refine RL.skip rfl rfl ?_
    refine RL.skip rfl rfl ?_
    refine RL.skip rfl rfl ?_
    refine RL.skip rfl rfl ?_
    refine RL.skip rfl rfl ?_
    refine RL.skip rfl rfl ?_
    refine RL.skip rfl rfl ?_
    refine RL.skip rfl rfl ?_
    refine RL.skip rfl rfl ?_
    refine RL.skip rfl rfl ?_
    refine RL.skip rfl rfl ?_
    refine RL.skip rfl rfl ?_
    refine RL.skip rfl rfl ?_
    refine RL.skip rfl rfl ?_
    refine RL.skip rfl rfl ?_
    refine RL.skip rfl rfl ?_
    refine RL.skip rfl rfl ?_
    refine RL.skip rfl rfl ?_
    refine RL.skip rfl rfl ?_
    refine RL.skip rfl rfl ?_
    refine RL.pickF rfl rfl rfl rfl ?_
    refine RL.finQ ?_
    cases h716
    exact fun a w st => mid_intro false h717 (St.cut [0, 1, 4, 2] ⟨rfl, rfl, rfl, rfl, rfl, rfl, rfl, rfl, rfl, rfl, trivial⟩ (by decide) rfl st)
   rintro x713 h731
   have h732 := h718 _ h731
   try dsimp only at h732
   refine GL.weak (env' := [(1, .int .i64 x1), (8, v13), (12, v608), (13, .int .i64 x609), (14, .int .i64 (i675 : Int)), (15, v692), (106, v0), (107, .int .i64 ((x0).length : Int)), (108, .int .i64 (i675 : Int)), (145, .bool x713)]) (L' := [own2 27 3 TR.int v13 V213 l212, own 3 TR.int v608 l607, obox 33 (TR.pair TR.int TR.int) v692 y685, imm (TR.sl (TR.pair TR.int TR.int)) v0 x0]) (fun _ _ st => st) ?_
   refine GL.cond rfl (fun b733 => ?_) (fun b733 => ?_)
   ·replace h732 := ite_t b733 h732
    refine GL.seq ?_
    refine GL.region ?_
    refine RL.mv rfl rfl rfl ?_
    refine RL.mv rfl rfl rfl ?_
    refine RL.bS (t := TR.int) (vs := [.int .i64 (i675 : Int)]) ([(i675 : Int)] : (List Int)) Try.underlying27 Try_lo3 rfl rfl rfl rfl ⟨VR.int, trivial⟩ rfl (by decide) ?_
    intro v738
    obtain ⟨y739, e740, h732⟩ := bind_some h732
    replace e740 := chk_some e740
    refine RL.app 1 4 Try.underlying27 Try_lo3 rfl rfl rfl rfl rfl rfl rfl SlOf.own e740 ?_
    intro v741
    refine RL.reL (L' := [own2 27 3 TR.int v13 V213 l212, own 3 TR.int v741 (l607 ++ ([(i675 : Int)] : (List Int))), obox 33 (TR.pair TR.int TR.int) v692 y685, imm (TR.sl (TR.pair TR.int TR.int)) v0 x0, own 3 TR.int v738 ([(i675 : Int)] : (List Int))]) rfl ?_
    refine RL.asg rfl rfl rfl ?_
    refine RL.finG ?_
    refine GL.region ?_
    refine RL.mv rfl rfl rfl ?_
    refine RL.fadr (off := 0) (fo := 0) 2 Try_fld33_0 rfl rfl rfl PtOf.obox (Or.inr ⟨rfl, rfl⟩) ?_
    refine RL.ldPx (off := (0 + 0)) (e' := y685.1) 2 Ex.ik Try_ln3 rfl rfl (Or.inl rfl) rfl PtOf.obox (Part.fst Part.self) ?_
    refine RL.binI (v := .int .i64 (wsub x609 y685.1)) rfl rfl rfl rfl rfl ?_
    refine RL.asg rfl rfl rfl ?_
    refine RL.finG ?_
    refine GL.nilB ?_
    refine GL.region ?_
    refine RL.binI (v := .int .i64 ((i675 + 1 : Nat) : Int)) rfl rfl rfl rfl (binI_succ i675 (by omega)) ?_
    refine RL.mv rfl rfl rfl ?_
    refine RL.fin ?_
    cases h732
    exact fun a w st => lop_intro (i675 + 1, r687, (l607 ++ ([(i675 : Int)] : (List Int))), wsub x609 y685.1, v741) ⟨by show i675 + 1 + r687.length = (x0).length; simp only [List.length_cons] at h681; omega, h688, h679⟩ (by simp) (St.cut [0, 1, 3] ⟨rfl, rfl, rfl, rfl, rfl, rfl, rfl, trivial⟩ (by decide) rfl st)
   replace h732 := ite_f b733 h732
   refine GL.skip ?_
   refine GL.nilB ?_
   refine GL.region ?_
   refine RL.binI (v := .int .i64 ((i675 + 1 : Nat) : Int)) rfl rfl rfl rfl (binI_succ i675 (by omega)) ?_
   refine RL.mv rfl rfl rfl ?_
   refine RL.fin ?_
   cases h732
   exact fun a w st => lop_intro (i675 + 1, r687, l607, x609, v608) ⟨by show i675 + 1 + r687.length = (x0).length; simp only [List.length_cons] at h681; omega, h688, h679⟩ (by simp) (St.cut [0, 1, 3] ⟨rfl, rfl, rfl, rfl, rfl, rfl, rfl, trivial⟩ (by decide) rfl st)
  have h684 : ¬ i675 < (x0).length := by have := of_decide_eq_false b683; omega
  obtain rfl : r676 = [] := by rw [← h682]; exact List.drop_of_length_le (by omega)
  replace h680 : some (Fl.nx _) = some y668 := h680
  cases h680
  exact GL.exit (fun a w st => mid_intro (l607, x609, v608) h671 (St.cut [0, 1] ⟨rfl, rfl, rfl, trivial⟩ (by decide) rfl st))
 rintro ⟨l607, x609, v608⟩ h742
 have h743 := h672 _ h742
 try dsimp only at h743
 refine GL.weak (env' := [(1, .int .i64 x1), (8, v13), (12, v608)]) (L' := [own2 27 3 TR.int v13 V213 l212, own 3 TR.int v608 l607]) (fun _ _ st => st) ?_
 refine GL.seq ?_
 refine GL.regionQ rfl rfl (by kernel_rfl) ?_
 refine RL.mv rfl rfl rfl ?_
 refine RL.mv rfl rfl rfl ?_
 obtain ⟨y748, e749, h743⟩ := bind_some h743
 refine RL.idxR 0 Try.underlying37 Try_ln27 rfl rfl rfl rfl rfl (idx_some e749).1 (idx_some e749).2.1 ?_
 refine RL.ldR (i := ((0 : Int)).toNat) (r := y748) 0 Try_ln27 rfl rfl rfl rfl (idx_some e749).2.2 ?_
 refine RL.mv rfl rfl rfl ?_
 obtain ⟨y750, e751, h743⟩ := bind_some h743
 refine RL.idxS (sz := 1) 0 Try.underlying27 Try_ln3 rfl rfl rfl rfl rfl (SlOf.row (idx_some e749).2.2) (idx_some e751).1 (idx_some e751).2.1 ?_
 refine RL.ldSx (i := (x1).toNat) (e' := y750) 0 Ex.ik Try_ln3 rfl rfl rfl rfl (SlOf.row (idx_some e749).2.2) (idx_some e751).2.2 Part.self ?_
 refine RL.asg rfl rfl rfl ?_
 refine RL.asg rfl rfl rfl ?_
 refine RL.asg rfl rfl rfl ?_
 refine RL.finQG ?_
 have h743 := Option.some.inj h743
 subst h743
 exact GL.ret (Gx.ret (v := .tuple #[v608, .int .i64 y750, .int .i64 (0 : Int)]) (res3 rfl rfl rfl rfl) (fun a w st => (st.pick [1] (by decide) rfl).toPost v608))

set_option maxHeartbeats 4000000 in
theorem slices_Equal_int_int_c (S : Hp) (w : World) (hS : S.sub w) (v0 : Value) (x0 : (List Int)) (k0 : ((TR.sl TR.int)).vrep S v0 x0) (v1 : Value) (x1 : (List Int)) (k1 : ((TR.sl TR.int)).vrep S v1 x1) (res : Bool) (hm : slices_Equal_int_int_m x0 x1 = some res) : Calls Try.prog 17 #[v0, v1] w (PostV w (.bool res)) := by
 refine calls_enter 26 Try.func17 Try.ntmps17 rfl S false [(0, v0), (1, v1)] [imm (TR.sl TR.int) v0 x0, imm (TR.sl TR.int) v1 x1] rfl ⟨rfl, ⟨rfl, trivial⟩⟩ hS ⟨k0, ⟨k1, trivial⟩⟩ ?_
 unfold slices_Equal_int_int_m at hm
 refine GL.seq ?_
 refine GL.region ?_
 refine RL.asg rfl rfl rfl ?_
 refine RL.finG ?_
 refine GL.seq ?_
 refine GL.seq ?_
 refine GL.region ?_
 refine RL.mv rfl rfl rfl ?_
 refine RL.lenS 0 Try.underlying27 rfl rfl rfl rfl SlOf.imm ?_
 refine RL.mv rfl rfl rfl ?_
 refine RL.lenS 1 Try.underlying27 rfl rfl rfl rfl SlOf.imm ?_
 refine RL.binI (v := .bool (((x0).length : Int) != ((x1).length : Int))) rfl rfl rfl rfl rfl ?_
 refine RL.finG ?_
 refine GL.cond rfl (fun b3 => ?_) (fun b3 => ?_)
 ·replace hm := ite_t b3 hm
  refine GL.seq ?_
  refine GL.region ?_
  refine RL.asg rfl rfl rfl ?_
  refine RL.finG ?_
  have hm := Option.some.inj hm
  subst hm
  exact GL.ret (Gx.ret (v := .bool false) (res1 rfl rfl) (fun a w st => st.toPostV))
 replace hm := ite_f b3 hm
 refine GL.skip ?_
 refine GL.seq ?_
 refine GL.seq ?_
 refine GL.region ?_
 refine RL.mv rfl rfl rfl ?_
 refine RL.lenS 0 Try.underlying27 rfl rfl rfl rfl SlOf.imm ?_
 refine RL.mv rfl rfl rfl ?_
 refine RL.finG ?_
 refine GL.open_ 0 rfl (fun S h => len_imm S h) (fun n13 => ?_)
 obtain ⟨y14, K15, h16, h17, h18, h19, h20⟩ := bindR_K hm
 refine GL.join (ι := Unit) (fun (p : Unit) => []) (fun (p : Unit) => []) (fun (p : Unit) => K15 (.nx ())) ?_ ?_
 ·refine GL.block ?_
  refine GL.loop (ι := Nat × (List Int)) (fun (p : Nat × (List Int)) => [(0, v0), (1, v1), (12, .int .i64 ((x0).length : Int)), (13, .int .i64 (p.1 : Int))]) (fun (p : Nat × (List Int)) => [imm (TR.sl TR.int) v0 x0, imm (TR.sl TR.int) v1 x1]) (fun (p : Nat × (List Int)) => p.1 + p.2.length = (x0).length ∧ List.drop p.1 x0 = p.2 ∧ rangeL (slices_Equal_int_int_b1 x1) p.2 p.1 () = some y14) (fun (p : Nat × (List Int)) => p.2.length) (0, x0) ⟨by simp, by simp, h16⟩ (fun a w st => St.cut [0, 1] ⟨rfl, rfl, rfl, rfl, trivial⟩ (by decide) rfl st) ?_
  rintro ⟨i21, r22⟩ ⟨h27, h28, h26⟩
  try dsimp only at h27 h28 h26
  refine GL.weak (env' := [(0, v0), (1, v1), (12, .int .i64 ((x0).length : Int)), (13, .int .i64 (i21 : Int))]) (L' := [imm (TR.sl TR.int) v0 x0, imm (TR.sl TR.int) v1 x1]) (fun _ _ st => st) ?_
  refine GL.seq ?_
  refine GL.region ?_
  refine RL.binI (v := .bool (decide ((i21 : Int) < ((x0).length : Int)))) rfl rfl rfl rfl rfl ?_
  refine RL.finG ?_
  refine GL.seq ?_
  refine GL.cond rfl (fun b29 => ?_) (fun b29 => ?_)
  ·have h30 : i21 < (x0).length := by have := of_decide_eq_true b29; omega
   obtain ⟨y31, r33, hr, e32, h34⟩ := drop_cons h28 rfl h30
   subst hr
   obtain ⟨z23, h24, h25⟩ := rangeL_some h26
   unfold slices_Equal_int_int_b1 at h24
   try dsimp only at h24
   refine GL.skip ?_
   refine GL.seq ?_
   refine GL.block ?_
   refine GL.seq ?_
   refine GL.region ?_
   refine RL.mv rfl rfl rfl ?_
   refine RL.asg rfl rfl rfl ?_
   refine RL.finG ?_
   refine GL.seq ?_
   refine GL.regionQ rfl rfl (by kernel_rfl) ?_
   refine RL.mv rfl rfl rfl ?_
   refine RL.mv rfl rfl rfl ?_
   refine RL.idxS (sz := 1) 0 Try.underlying27 Try_ln3 rfl rfl rfl rfl rfl SlOf.imm (by omega) (by omega) ?_
   refine RL.ldSx (i := i21) (e' := y31) 0 Ex.ik Try_ln3 rfl rfl rfl rfl SlOf.imm e32 Part.self ?_
   refine RL.mv rfl rfl rfl ?_
   refine RL.mv rfl rfl rfl ?_
   obtain ⟨y37, e38, h24⟩ := bind_some h24
   refine RL.idxS (sz := 1) 1 Try.underlying27 Try_ln3 rfl rfl rfl rfl rfl SlOf.imm (idx_some e38).1 (idx_some e38).2.1 ?_
   refine RL.ldSx (i := i21) (e' := y37) 1 Ex.ik Try_ln3 rfl rfl rfl rfl SlOf.imm (idx_some e38).2.2 Part.self ?_
   refine RL.binI (v := .bool (y31 != y37)) rfl rfl rfl rfl rfl ?_
   refine RL.finQG ?_
   refine GL.cond rfl (fun b39 => ?_) (fun b39 => ?_)
   ·replace h24 := ite_t b39 h24
    refine GL.seq ?_
    refine GL.region ?_
    refine RL.asg rfl rfl rfl ?_
    refine RL.finG ?_
    cases h24
    replace h25 : some (Fl.rt _) = some y14 := h25
    cases h25
    have hh := h19 _ h17
    subst hh
    exact GL.ret (Gx.ret (v := .bool false) (res1 rfl rfl) (fun a w st => st.toPostV))
   replace h24 := ite_f b39 h24
   refine GL.skip ?_
   refine GL.nilB ?_
   refine GL.region ?_
   refine RL.binI (v := .int .i64 ((i21 + 1 : Nat) : Int)) rfl rfl rfl rfl (binI_succ i21 (by omega)) ?_
   refine RL.mv rfl rfl rfl ?_
   refine RL.fin ?_
   cases h24
   exact fun a w st => lop_intro (i21 + 1, r33) ⟨by show i21 + 1 + r33.length = (x0).length; simp only [List.length_cons] at h27; omega, h34, h25⟩ (by simp) (St.cut [0, 1] ⟨rfl, rfl, rfl, rfl, trivial⟩ (by decide) rfl st)
  have h30 : ¬ i21 < (x0).length := by have := of_decide_eq_false b29; omega
  obtain rfl : r22 = [] := by rw [← h28]; exact List.drop_of_length_le (by omega)
  replace h26 : some (Fl.nx _) = some y14 := h26
  cases h26
  exact GL.exit (fun a w st => mid_intro () h17 (St.cut [] trivial (by decide) rfl st))
 rintro ⟨⟩ h40
 have h41 := h18 _ h40
 try dsimp only at h41
 refine GL.weak (env' := []) (L' := []) (fun _ _ st => st) ?_
 refine GL.seq ?_
 refine GL.region ?_
 refine RL.asg rfl rfl rfl ?_
 refine RL.finG ?_
 have h41 := Option.some.inj h41
 subst h41
 exact GL.ret (Gx.ret (v := .bool true) (res1 rfl rfl) (fun a w st => st.toPostV))

set_option maxHeartbeats 4000000 in
theorem pk_knaps_c (S : Hp) (w : World) (hS : S.sub w)  (res : Bool) (hm : pk_knaps_m = some res) : Calls Try.prog 8 #[] w (PostV w (.bool res)) := by
 refine calls_enter 24 Try.func8 Try.ntmps8 rfl S false [] [] rfl trivial hS trivial ?_
 unfold pk_knaps_m at hm
 refine GL.seq ?_
 refine GL.region ?_
 refine RL.asg rfl rfl rfl ?_
 refine RL.finG ?_
 refine GL.seq ?_
 refine GL.region ?_
 refine RL.bld (t := (TR.pair TR.int TR.int)) (d0 := (((2 : Int), (3 : Int)) : (Int × Int))) (pv := [(0, .int .i64 (2 : Int)), (1, .int .i64 (3 : Int))]) rfl Try_bld33 rfl rfl rfl ⟨⟨_, _, TR.int, (2 : Int), rfl, rfl, VR.int⟩, ⟨⟨_, _, TR.int, (3 : Int), rfl, rfl, VR.int⟩, trivial⟩⟩ (fun S f hi => by
   obtain ⟨c0, e0, r0⟩ := cells_vrep (t := TR.int) (u := .int .i64 (2 : Int)) (e := (2 : Int)) (VR.int S f hi)
   obtain ⟨c1, e1, r1⟩ := cells_vrep (t := TR.int) (u := .int .i64 (3 : Int)) (e := (3 : Int)) (VR.int S f hi)
   show TR.rep (TR.pair TR.int TR.int) S (List.flatten [(.int .i64 (2 : Int) : Value).cells.toList, (.int .i64 (3 : Int) : Value).cells.toList]) _
   simp only [e0, e1,  List.flatten_cons, List.flatten_nil, List.append_nil]
   exact ⟨_, _, rfl, r0, r1⟩) ?_
 intro v8
 refine RL.bld (t := (TR.pair TR.int TR.int)) (d0 := (((3 : Int), (4 : Int)) : (Int × Int))) (pv := [(0, .int .i64 (3 : Int)), (1, .int .i64 (4 : Int))]) rfl Try_bld33 rfl rfl rfl ⟨⟨_, _, TR.int, (3 : Int), rfl, rfl, VR.int⟩, ⟨⟨_, _, TR.int, (4 : Int), rfl, rfl, VR.int⟩, trivial⟩⟩ (fun S f hi => by
   obtain ⟨c0, e0, r0⟩ := cells_vrep (t := TR.int) (u := .int .i64 (3 : Int)) (e := (3 : Int)) (VR.int S f hi)
   obtain ⟨c1, e1, r1⟩ := cells_vrep (t := TR.int) (u := .int .i64 (4 : Int)) (e := (4 : Int)) (VR.int S f hi)
   show TR.rep (TR.pair TR.int TR.int) S (List.flatten [(.int .i64 (3 : Int) : Value).cells.toList, (.int .i64 (4 : Int) : Value).cells.toList]) _
   simp only [e0, e1,  List.flatten_cons, List.flatten_nil, List.append_nil]
   exact ⟨_, _, rfl, r0, r1⟩) ?_
 intro v9
 refine RL.reL (L' := [imm (TR.pair TR.int TR.int) v8 (((2 : Int), (3 : Int)) : (Int × Int)), imm (TR.pair TR.int TR.int) v9 (((3 : Int), (4 : Int)) : (Int × Int))]) rfl ?_
 refine RL.bld (t := (TR.pair TR.int TR.int)) (d0 := (((4 : Int), (6 : Int)) : (Int × Int))) (pv := [(0, .int .i64 (4 : Int)), (1, .int .i64 (6 : Int))]) rfl Try_bld33 rfl rfl rfl ⟨⟨_, _, TR.int, (4 : Int), rfl, rfl, VR.int⟩, ⟨⟨_, _, TR.int, (6 : Int), rfl, rfl, VR.int⟩, trivial⟩⟩ (fun S f hi => by
   obtain ⟨c0, e0, r0⟩ := cells_vrep (t := TR.int) (u := .int .i64 (4 : Int)) (e := (4 : Int)) (VR.int S f hi)
   obtain ⟨c1, e1, r1⟩ := cells_vrep (t := TR.int) (u := .int .i64 (6 : Int)) (e := (6 : Int)) (VR.int S f hi)
   show TR.rep (TR.pair TR.int TR.int) S (List.flatten [(.int .i64 (4 : Int) : Value).cells.toList, (.int .i64 (6 : Int) : Value).cells.toList]) _
   simp only [e0, e1,  List.flatten_cons, List.flatten_nil, List.append_nil]
   exact ⟨_, _, rfl, r0, r1⟩) ?_
 intro v10
 refine RL.bS (t := (TR.pair TR.int TR.int)) (vs := [v8, v9, v10]) ([(((2 : Int), (3 : Int)) : (Int × Int)), (((3 : Int), (4 : Int)) : (Int × Int)), (((4 : Int), (6 : Int)) : (Int × Int))] : (List (Int × Int))) Try.underlying24 Try_lo33 rfl rfl rfl rfl ⟨(VR.item 0 rfl), ⟨(VR.item 1 rfl), ⟨(VR.item 2 rfl), trivial⟩⟩⟩ rfl (by decide) ?_
 intro v11
 refine RL.reL (L' := [imm (TR.pair TR.int TR.int) v8 (((2 : Int), (3 : Int)) : (Int × Int)), imm (TR.pair TR.int TR.int) v9 (((3 : Int), (4 : Int)) : (Int × Int)), imm (TR.pair TR.int TR.int) v10 (((4 : Int), (6 : Int)) : (Int × Int)), own 33 (TR.pair TR.int TR.int) v11 ([(((2 : Int), (3 : Int)) : (Int × Int)), (((3 : Int), (4 : Int)) : (Int × Int)), (((4 : Int), (6 : Int)) : (Int × Int))] : (List (Int × Int)))]) rfl ?_
 obtain ⟨y12, e13, hm⟩ := bind_some hm
 refine RL.callU (vs := [v11, .int .i64 (5 : Int)]) (LR := fun (o : Value) => [own 3 TR.int o y12.1]) (fun o => ⟨Loc.own TR.flatT_ik, trivial⟩) Try_fit11 rfl rfl rfl rfl rfl (fun U w hU hW hL => knap_Most_c U w hU _ _ (hL 3 _ _ rfl Seen.own) (5 : Int) _ e13) ?_
 intro v14
 refine RL.mv rfl rfl rfl ?_
 refine RL.ext rfl rfl rfl rfl ?_
 refine RL.ext rfl rfl rfl rfl ?_
 refine RL.ext rfl rfl rfl rfl ?_
 refine RL.asg rfl rfl rfl ?_
 refine RL.asg rfl rfl rfl ?_
 refine RL.asg rfl rfl rfl ?_
 refine RL.finG ?_
 refine GL.seq ?_
 obtain ⟨y26, K27, h28, h29, h30, h31, h32⟩ := bindR_K hm
 refine GL.join (ι := Bool) (fun (p : Bool) => [(0, .bool p)]) (fun (p : Bool) => []) (fun (p : Bool) => K27 (.nx p)) ?_ ?_
 ·skip
  refine GL.region ?_
  refine RL.mv rfl rfl rfl ?_
  refine RL.binI (v := .bool (y12.2.2 == (0 : Int))) rfl rfl rfl rfl rfl ?_
  refine RL.mv rfl rfl rfl ?_
  refine RL.split (t := 15) rfl (fun b33 => ?_) (fun b33 => ?_)
  ·replace h28 := ite_t b33 h28
   refine RL.mv rfl rfl rfl ?_
   refine RL.binI (v := .bool (y12.2.1 == (7 : Int))) rfl rfl rfl rfl rfl ?_
   refine RL.pickT rfl rfl rfl rfl ?_
   refine RL.mv rfl rfl rfl ?_
   refine RL.split (t := 19) rfl (fun b34 => ?_) (fun b34 => ?_)
   ·replace h28 := ite_t b34 h28
    refine RL.mv rfl rfl rfl ?_
    refine RL.bS (t := TR.int) (vs := [.int .i64 (0 : Int), .int .i64 (1 : Int)]) ([(0 : Int), (1 : Int)] : (List Int)) Try.underlying27 Try_lo3 rfl rfl rfl rfl ⟨VR.int, ⟨VR.int, trivial⟩⟩ rfl (by decide) ?_
    intro v35
    obtain ⟨y36, e37, h28⟩ := bind_some h28
    refine RL.callV (v := .bool y36) (vs := [v14, v35]) Try_fit17 rfl (Or.inl rfl) rfl rfl rfl rfl (fun U w hU hW hL => slices_Equal_int_int_c U w hU _ _ (hL 4 _ _ rfl Seen.own) _ _ (hL 5 _ _ rfl Seen.own) _ e37) ?_
    refine RL.pickT rfl rfl rfl rfl ?_
    refine RL.asg rfl rfl rfl ?_
    refine RL.fin ?_
    cases h28
    exact fun a w st => mid_intro y36 h29 (St.cut [] ⟨rfl, trivial⟩ (by decide) rfl st)
   replace h28 := ite_f b34 h28
   refine RL.skip rfl rfl ?_
   refine RL.skip rfl rfl ?_
   refine RL.skip rfl rfl ?_
   refine RL.pickF rfl rfl rfl rfl ?_
   refine RL.asg rfl rfl rfl ?_
   refine RL.fin ?_
   cases h28
   exact fun a w st => mid_intro false h29 (St.cut [] ⟨rfl, trivial⟩ (by decide) rfl st)
  replace h28 := ite_f b33 h28
  refine RL.skip rfl rfl ?_
  refine RL.skip rfl rfl ?_
  refine RL.pickF rfl rfl rfl rfl ?_
  refine RL.mv rfl rfl rfl ?_
  refine RL.skip rfl rfl ?_
  refine RL.skip rfl rfl ?_
  refine RL.skip rfl rfl ?_
  refine RL.pickF rfl rfl rfl rfl ?_
  refine RL.asg rfl rfl rfl ?_
  refine RL.fin ?_
  cases h28
  exact fun a w st => mid_intro false h29 (St.cut [] ⟨rfl, trivial⟩ (by decide) rfl st)
 rintro x25 h38
 have h39 := h30 _ h38
 try dsimp only at h39
 refine GL.weak (env' := [(0, .bool x25)]) (L' := []) (fun _ _ st => st) ?_
 have h39 := Option.some.inj h39
 subst h39
 exact GL.ret (Gx.ret (v := .bool x25) (res1 rfl rfl) (fun a w st => st.toPostV))

set_option maxHeartbeats 4000000 in
theorem ref_Rest_c (S : Hp) (w : World) (hS : S.sub w) (x0 : Int) (x1 : Int) (res : Int) (hm : ref_Rest_m x0 x1 = some res) : Calls Try.prog 32 #[.int .i64 x0, .int .i64 x1] w (PostC w (.int .i64 res)) := by
 refine calls_enter 14 Try.func32 Try.ntmps32 rfl S true [(0, .int .i64 x0), (1, .int .i64 x1)] [] rfl ⟨rfl, ⟨rfl, trivial⟩⟩ hS trivial ?_
 unfold ref_Rest_m at hm
 refine GL.seq ?_
 refine GL.region ?_
 refine RL.asg rfl rfl rfl ?_
 refine RL.finG ?_
 refine GL.seq ?_
 refine GL.region ?_
 refine RL.mv rfl rfl rfl ?_
 refine RL.mv rfl rfl rfl ?_
 obtain ⟨y5, e6, hm⟩ := bind_some hm
 replace e6 := chk_some e6
 refine RL.rem rfl rfl rfl rfl e6 ?_
 refine RL.asg rfl rfl rfl ?_
 refine RL.finG ?_
 refine GL.seq ?_
 refine GL.seq ?_
 refine GL.region ?_
 refine RL.mv rfl rfl rfl ?_
 refine RL.binI (v := .bool (decide ((Int.tmod x0 x1) < (0 : Int)))) rfl rfl rfl rfl rfl ?_
 refine RL.finG ?_
 obtain ⟨y9, K10, h11, h12, h13, h14, h15⟩ := bindR_K hm
 refine GL.join (ι := Int) (fun (p : Int) => [(0, .int .i64 p)]) (fun (p : Int) => []) (fun (p : Int) => K10 (.nx p)) ?_ ?_
 ·skip
  refine GL.cond rfl (fun b16 => ?_) (fun b16 => ?_)
  ·replace h11 := ite_t b16 h11
   refine GL.region ?_
   refine RL.mv rfl rfl rfl ?_
   refine RL.mv rfl rfl rfl ?_
   refine RL.binI (v := .int .i64 (wadd (Int.tmod x0 x1) x1)) rfl rfl rfl rfl rfl ?_
   refine RL.asg rfl rfl rfl ?_
   refine RL.finG ?_
   cases h11
   exact fun a w st => mid_intro (wadd (Int.tmod x0 x1) x1) h12 (St.cut [] ⟨rfl, trivial⟩ (by decide) rfl st)
  replace h11 := ite_f b16 h11
  refine GL.skip ?_
  cases h11
  exact fun a w st => mid_intro (Int.tmod x0 x1) h12 (St.cut [] ⟨rfl, trivial⟩ (by decide) rfl st)
 rintro x8 h17
 have h18 := h13 _ h17
 try dsimp only at h18
 refine GL.weak (env' := [(0, .int .i64 x8)]) (L' := []) (fun _ _ st => st) ?_
 refine GL.seq ?_
 refine GL.region ?_
 refine RL.mv rfl rfl rfl ?_
 refine RL.asg rfl rfl rfl ?_
 refine RL.finG ?_
 have h18 := Option.some.inj h18
 subst h18
 exact GL.ret (Gx.ret (v := .int .i64 x8) (res1 rfl rfl) (fun a w st => st.toPostC rfl))

set_option maxHeartbeats 4000000 in
theorem pk_Within_c (S : Hp) (w : World) (hS : S.sub w) (x0 : Int) (x1 : Int) (res : Int) (hm : pk_Within_m x0 x1 = some res) : Calls Try.prog 10 #[.int .i64 x0, .int .i64 x1] w (PostC w (.int .i64 res)) := by
 refine calls_enter 8 Try.func10 Try.ntmps10 rfl S true [(0, .int .i64 x0), (1, .int .i64 x1)] [] rfl ⟨rfl, ⟨rfl, trivial⟩⟩ hS trivial ?_
 unfold pk_Within_m at hm
 refine GL.seq ?_
 refine GL.region ?_
 refine RL.asg rfl rfl rfl ?_
 refine RL.finG ?_
 refine GL.seq ?_
 refine GL.region ?_
 refine RL.mv rfl rfl rfl ?_
 refine RL.mv rfl rfl rfl ?_
 obtain ⟨y5, e6, hm⟩ := bind_some hm
 refine RL.callC (v := .int .i64 y5) (vs := [.int .i64 x0, .int .i64 x1]) Try_fit32 rfl rfl rfl rfl (fun U w hU hW hL => ref_Rest_c U w hU x0 x1 _ e6) ?_
 refine RL.asg rfl rfl rfl ?_
 refine RL.finG ?_
 have hm := Option.some.inj hm
 subst hm
 exact GL.ret (Gx.ret (v := .int .i64 y5) (res1 rfl rfl) (fun a w st => st.toPostC rfl))

set_option maxHeartbeats 4000000 in
theorem pk_ItemsOf_c (S : Hp) (w : World) (hS : S.sub w) (v0 : Value) (x0 : (List (List Int))) (k0 : ((TR.sl (TR.arr 2 TR.int))).vrep S v0 x0) (res : (List (Int × Int))) (hm : pk_ItemsOf_m x0 = some res) : Calls Try.prog 9 #[v0] w (Post w S (fun (o : Value) => o) (fun (o : Value) => [own 33 (TR.pair TR.int TR.int) o res])) := by
 refine calls_enter 29 Try.func9 Try.ntmps9 rfl S false [(0, v0)] [imm (TR.sl (TR.arr 2 TR.int)) v0 x0] rfl ⟨rfl, trivial⟩ hS ⟨k0, trivial⟩ ?_
 unfold pk_ItemsOf_m at hm
 refine GL.seq ?_
 refine GL.region ?_
 refine RL.asg rfl rfl rfl ?_
 refine RL.finG ?_
 refine GL.seq ?_
 refine GL.region ?_
 refine RL.asg rfl rfl rfl ?_
 refine RL.finG ?_
 refine GL.seq ?_
 refine GL.seq ?_
 refine GL.region ?_
 refine RL.mv rfl rfl rfl ?_
 refine RL.mv rfl rfl rfl ?_
 refine RL.lenS 0 Try.underlying22 rfl rfl rfl rfl SlOf.imm ?_
 refine RL.minI rfl rfl rfl rfl ?_
 obtain ⟨y5, e6, hm⟩ := bind_some hm
 replace e6 := chk_some e6
 refine RL.slc (t := (TR.arr 2 TR.int)) (i := 0) (j := (if (12 : Int) < ((x0).length : Int) then (12 : Int) else ((x0).length : Int)).toNat) (sz := 2) 0 Try.underlying22 Try_ln61 rfl rfl rfl rfl (Or.inl ⟨rfl, rfl⟩) (Or.inr ⟨_, _, rfl, by rw [Int.toNat_of_nonneg (by omega)]; rfl⟩) rfl (by omega) (by omega) ?_
 intro v7
 refine RL.lenS 1 Try.underlying22 rfl rfl rfl rfl SlOf.imm ?_
 refine RL.mv rfl rfl rfl ?_
 refine RL.finG ?_
 refine GL.weak (fun a w st => st.nilOwn 33 (TR.pair TR.int TR.int)) ?_
 refine GL.open_ 1 rfl (fun S h => len_imm S h) (fun n44 => ?_)
 obtain ⟨y45, K46, h47, h48, h49, h50, h51⟩ := bindR_K hm
 refine GL.join (ι := (List (Int × Int)) × Value) (fun (p : (List (Int × Int)) × Value) => [(3, p.2)]) (fun (p : (List (Int × Int)) × Value) => [own 33 (TR.pair TR.int TR.int) p.2 p.1]) (fun (p : (List (Int × Int)) × Value) => K46 (.nx p.1)) ?_ ?_
 ·refine GL.block ?_
  refine GL.loop (ι := Nat × (List (List Int)) × (List (Int × Int)) × Value) (fun (p : Nat × (List (List Int)) × (List (Int × Int)) × Value) => [(3, p.2.2.2), (10, v7), (11, .int .i64 ((((List.take ((if (12 : Int) < ((x0).length : Int) then (12 : Int) else ((x0).length : Int)).toNat) x0).drop 0)).length : Int)), (12, .int .i64 (p.1 : Int))]) (fun (p : Nat × (List (List Int)) × (List (Int × Int)) × Value) => [own 33 (TR.pair TR.int TR.int) p.2.2.2 p.2.2.1, imm (TR.sl (TR.arr 2 TR.int)) v7 ((List.take ((if (12 : Int) < ((x0).length : Int) then (12 : Int) else ((x0).length : Int)).toNat) x0).drop 0)]) (fun (p : Nat × (List (List Int)) × (List (Int × Int)) × Value) => p.1 + p.2.1.length = (((List.take ((if (12 : Int) < ((x0).length : Int) then (12 : Int) else ((x0).length : Int)).toNat) x0).drop 0)).length ∧ List.drop p.1 ((List.take ((if (12 : Int) < ((x0).length : Int) then (12 : Int) else ((x0).length : Int)).toNat) x0).drop 0) = p.2.1 ∧ rangeL pk_ItemsOf_b1 p.2.1 p.1 p.2.2.1 = some y45) (fun (p : Nat × (List (List Int)) × (List (Int × Int)) × Value) => p.2.1.length) (0, ((List.take ((if (12 : Int) < ((x0).length : Int) then (12 : Int) else ((x0).length : Int)).toNat) x0).drop 0), [], Value.slice none 0 0) ⟨by simp, by simp, h47⟩ (fun a w st => St.cut [2, 1] ⟨rfl, rfl, rfl, rfl, trivial⟩ (by decide) rfl st) ?_
  rintro ⟨i52, r53, l8, v9⟩ ⟨h58, h59, h57⟩
  try dsimp only at h58 h59 h57
  refine GL.weak (env' := [(3, v9), (10, v7), (11, .int .i64 ((((List.take ((if (12 : Int) < ((x0).length : Int) then (12 : Int) else ((x0).length : Int)).toNat) x0).drop 0)).length : Int)), (12, .int .i64 (i52 : Int))]) (L' := [own 33 (TR.pair TR.int TR.int) v9 l8, imm (TR.sl (TR.arr 2 TR.int)) v7 ((List.take ((if (12 : Int) < ((x0).length : Int) then (12 : Int) else ((x0).length : Int)).toNat) x0).drop 0)]) (fun _ _ st => st) ?_
  refine GL.seq ?_
  refine GL.region ?_
  refine RL.binI (v := .bool (decide ((i52 : Int) < ((((List.take ((if (12 : Int) < ((x0).length : Int) then (12 : Int) else ((x0).length : Int)).toNat) x0).drop 0)).length : Int)))) rfl rfl rfl rfl rfl ?_
  refine RL.finG ?_
  refine GL.seq ?_
  refine GL.cond rfl (fun b60 => ?_) (fun b60 => ?_)
  ·have h61 : i52 < (((List.take ((if (12 : Int) < ((x0).length : Int) then (12 : Int) else ((x0).length : Int)).toNat) x0).drop 0)).length := by have := of_decide_eq_true b60; omega
   obtain ⟨y62, r64, hr, e63, h65⟩ := drop_cons h59 rfl h61
   subst hr
   obtain ⟨z54, h55, h56⟩ := rangeL_some h57
   unfold pk_ItemsOf_b1 at h55
   try dsimp only at h55
   refine GL.skip ?_
   refine GL.seq ?_
   refine GL.block ?_
   refine GL.seq ?_
   refine GL.region ?_
   refine RL.idxS (sz := 2) 1 Try.underlying22 Try_ln61 rfl rfl rfl rfl rfl SlOf.imm (by omega) (by omega) ?_
   refine RL.ldS (i := i52) (r := (TR.arr 2 TR.int)) (e' := y62) 1 Try_ln61 rfl rfl rfl rfl SlOf.imm e63 Part.self ?_
   intro v68
   refine RL.alloc (t := (TR.arr 2 TR.int)) (z := (List.replicate 2 (0 : Int))) Try_lo61 (fun S => ⟨rfl, ⟨_, _, rfl, rfl, ⟨_, _, rfl, rfl, rfl⟩⟩⟩) rfl rfl rfl ?_
   intro v69
   refine RL.reL (L' := [own 33 (TR.pair TR.int TR.int) v9 l8, imm (TR.sl (TR.arr 2 TR.int)) v7 ((List.take ((if (12 : Int) < ((x0).length : Int) then (12 : Int) else ((x0).length : Int)).toNat) x0).drop 0), imm (TR.arr 2 TR.int) v68 y62, obox 61 (TR.arr 2 TR.int) v69 (List.replicate 2 (0 : Int))]) rfl ?_
   refine RL.stP (off := 0) (e' := y62) (d1 := y62) (r := (TR.arr 2 TR.int)) 3 Try_ln61 rfl rfl (Or.inr ⟨rfl, rfl⟩) rfl (VR.item 2 rfl) rfl Upd.self ?_
   refine RL.finG ?_
   refine GL.regionA rfl rfl ?_
   refine RA.mv 0 rfl (by kernel_rfl) rfl rfl rfl ?_
   refine RA.still (le := #[true, true, true, true, true, true, true, true, true, false, false, false]) (f := 3) [1, 2, 3, 4, 5, 6, 7, 8] 9 rfl (by kernel_rfl) ?_
   simp only [pickOps, List.getElem?_toArray, List.getElem?_cons_succ, List.getElem?_cons_zero]
   obtain ⟨y83, e84, h55⟩ := bind_some h55
   refine RL.idxA0 (sz := 1) (t' := TR.int) 3 Try.underlying61 Try_ln3 rfl rfl rfl PtOf.obox rfl rfl Part.self (idx_some e84).1 (idx_some e84).2.1 ?_
   refine RL.ldPx (off := (((0 : Int)).toNat * 1)) (e' := y83) 3 Ex.ik Try_ln3 rfl rfl (Or.inl rfl) rfl PtOf.obox (Part.arr (idx_some e84).2.2 Part.self) ?_
   obtain ⟨y85, e86, h55⟩ := bind_some h55
   refine RL.callC (v := .int .i64 y85) (vs := [.int .i64 y83, .int .i64 (20 : Int)]) Try_fit10 rfl rfl rfl rfl (fun U w hU hW hL => pk_Within_c U w hU y83 (20 : Int) _ e86) ?_
   refine RL.binI (v := .int .i64 (wadd (1 : Int) y85)) rfl rfl rfl rfl rfl ?_
   obtain ⟨y87, e88, h55⟩ := bind_some h55
   refine RL.idxA0 (sz := 1) (t' := TR.int) 3 Try.underlying61 Try_ln3 rfl rfl rfl PtOf.obox rfl rfl Part.self (idx_some e88).1 (idx_some e88).2.1 ?_
   refine RL.ldPx (off := (((1 : Int)).toNat * 1)) (e' := y87) 3 Ex.ik Try_ln3 rfl rfl (Or.inl rfl) rfl PtOf.obox (Part.arr (idx_some e88).2.2 Part.self) ?_
   obtain ⟨y89, e90, h55⟩ := bind_some h55
   refine RL.callC (v := .int .i64 y89) (vs := [.int .i64 y87, .int .i64 (50 : Int)]) Try_fit10 rfl rfl rfl rfl (fun U w hU hW hL => pk_Within_c U w hU y87 (50 : Int) _ e90) ?_
   refine RL.bld (t := (TR.pair TR.int TR.int)) (d0 := ((wadd (1 : Int) y85, y89) : (Int × Int))) (pv := [(0, .int .i64 (wadd (1 : Int) y85)), (1, .int .i64 y89)]) rfl Try_bld33 rfl rfl rfl ⟨⟨_, _, TR.int, wadd (1 : Int) y85, rfl, rfl, VR.int⟩, ⟨⟨_, _, TR.int, y89, rfl, rfl, VR.int⟩, trivial⟩⟩ (fun S f hi => by
     obtain ⟨c0, e0, r0⟩ := cells_vrep (t := TR.int) (u := .int .i64 (wadd (1 : Int) y85)) (e := wadd (1 : Int) y85) (VR.int S f hi)
     obtain ⟨c1, e1, r1⟩ := cells_vrep (t := TR.int) (u := .int .i64 y89) (e := y89) (VR.int S f hi)
     show TR.rep (TR.pair TR.int TR.int) S (List.flatten [(.int .i64 (wadd (1 : Int) y85) : Value).cells.toList, (.int .i64 y89 : Value).cells.toList]) _
     simp only [e0, e1,  List.flatten_cons, List.flatten_nil, List.append_nil]
     exact ⟨_, _, rfl, r0, r1⟩) ?_
   intro v91
   refine RL.finH ?_
   refine RL.fin ?_
   refine RA.next ?_
   refine RA.seq 9 rfl (by kernel_rfl) ?_
   refine RL.bS (t := (TR.pair TR.int TR.int)) (vs := [v91]) ([((wadd (1 : Int) y85, y89) : (Int × Int))] : (List (Int × Int))) Try.underlying24 Try_lo33 rfl rfl rfl rfl ⟨(VR.item 4 rfl), trivial⟩ rfl (by decide) ?_
   intro v92
   refine RL.fin ?_
   refine RA.next ?_
   refine RA.seq 10 rfl (by kernel_rfl) ?_
   obtain ⟨y93, e94, h55⟩ := bind_some h55
   replace e94 := chk_some e94
   refine RL.app 0 5 Try.underlying24 Try_lo33 rfl rfl rfl rfl rfl rfl rfl SlOf.own e94 ?_
   intro v95
   refine RL.fin ?_
   refine RA.next ?_
   refine RA.quiet 11 rfl rfl (by kernel_rfl) ?_
   simp only [List.drop_succ_cons, List.drop_zero]
   refine RL.asg rfl rfl rfl ?_
   refine RL.finQ ?_
   refine RA.outQ ?_
   refine GL.weak (env' := [(3, v95), (10, v7), (11, .int .i64 ((((List.take ((if (12 : Int) < ((x0).length : Int) then (12 : Int) else ((x0).length : Int)).toNat) x0).drop 0)).length : Int)), (12, .int .i64 (i52 : Int))]) (L' := [own 33 (TR.pair TR.int TR.int) v95 (l8 ++ ([((wadd (1 : Int) y85, y89) : (Int × Int))] : (List (Int × Int)))), imm (TR.sl (TR.arr 2 TR.int)) v7 ((List.take ((if (12 : Int) < ((x0).length : Int) then (12 : Int) else ((x0).length : Int)).toNat) x0).drop 0)]) (fun a w st => St.cut [0, 1] ⟨rfl, rfl, rfl, rfl, trivial⟩ (by decide) rfl st) ?_
   refine GL.nilB ?_
   refine GL.region ?_
   refine RL.binI (v := .int .i64 ((i52 + 1 : Nat) : Int)) rfl rfl rfl rfl (binI_succ i52 (by omega)) ?_
   refine RL.mv rfl rfl rfl ?_
   refine RL.fin ?_
   cases h55
   exact fun a w st => lop_intro (i52 + 1, r64, (l8 ++ ([((wadd (1 : Int) y85, y89) : (Int × Int))] : (List (Int × Int)))), v95) ⟨by show i52 + 1 + r64.length = (((List.take ((if (12 : Int) < ((x0).length : Int) then (12 : Int) else ((x0).length : Int)).toNat) x0).drop 0)).length; simp only [List.length_cons] at h58; omega, h65, h56⟩ (by simp) (St.cut [0, 1] ⟨rfl, rfl, rfl, rfl, trivial⟩ (by decide) rfl st)
  have h61 : ¬ i52 < (((List.take ((if (12 : Int) < ((x0).length : Int) then (12 : Int) else ((x0).length : Int)).toNat) x0).drop 0)).length := by have := of_decide_eq_false b60; omega
  obtain rfl : r53 = [] := by rw [← h59]; exact List.drop_of_length_le (by omega)
  replace h57 : some (Fl.nx _) = some y45 := h57
  cases h57
  exact GL.exit (fun a w st => mid_intro (l8, v9) h48 (St.cut [0] ⟨rfl, trivial⟩ (by decide) rfl st))
 rintro ⟨l8, v9⟩ h96
 have h97 := h49 _ h96
 try dsimp only at h97
 refine GL.weak (env' := [(3, v9)]) (L' := [own 33 (TR.pair TR.int TR.int) v9 l8]) (fun _ _ st => st) ?_
 refine GL.seq ?_
 refine GL.region ?_
 refine RL.mv rfl rfl rfl ?_
 refine RL.asg rfl rfl rfl ?_
 refine RL.finG ?_
 have h97 := Option.some.inj h97
 subst h97
 exact GL.ret (Gx.ret (v := v9) (res1 rfl rfl) (fun a w st => (st.pick [0] (by decide) rfl).toPost v9))

set_option maxHeartbeats 4000000 in
theorem slices_Clone_api_Item_api_Item_c (S : Hp) (w : World) (hS : S.sub w) (v0 : Value) (x0 : List (Int × Int)) (k0 : (TR.sl (TR.pair TR.int TR.int)).vrep S v0 x0) (res : List (Int × Int)) (hm : slices_Clone_api_Item_api_Item_m x0 = some res) : Calls Try.prog 12 #[v0] w (Post w S (fun (o : Value) => o) (fun (o : Value) => [own 33 (TR.pair TR.int TR.int) o res])) := by
  refine calls_enter 8 Try.func12 Try.ntmps12 rfl S false [(0, v0)] [imm (TR.sl (TR.pair TR.int TR.int)) v0 x0] rfl ⟨rfl, trivial⟩ hS ⟨k0, trivial⟩ ?_
  unfold slices_Clone_api_Item_api_Item_m at hm
  obtain ⟨_, hc, hm⟩ := bind_some hm
  replace hc := chk_some hc
  have hm := Option.some.inj hm
  subst hm
  refine GL.seq (GL.region (RL.asg rfl rfl rfl (RL.finG (GL.seq (GL.seq (GL.region ?_))))))
  refine RL.mv rfl rfl rfl ?_
  refine RL.eqNil 0 Try.underlying24 rfl rfl rfl rfl rfl SlOf.imm (fun b hb => ?_)
  refine RL.finG (GL.cond rfl (fun h => ?_) (fun h => ?_))
  · have := hb h
    subst this
    refine GL.seq (GL.region (RL.asg rfl rfl rfl (RL.finG ?_)))
    refine GL.weak (fun a w st => st.nilOwn 33 (TR.pair TR.int TR.int)) ?_
    exact GL.ret (Gx.ret (v := Value.slice none 0 0) (res1 rfl rfl) (fun a w st => (st.pick [1] (by decide) rfl).toPost (Value.slice none 0 0)))
  · refine GL.skip (GL.seq (GL.region ?_))
    refine RL.bS (t := (TR.pair TR.int TR.int)) (vs := []) ([] : List (Int × Int)) Try.underlying24 Try_lo33 rfl rfl rfl rfl trivial rfl (by decide) ?_
    intro v1
    refine RL.mv rfl rfl rfl ?_
    refine RL.app 1 0 Try.underlying24 Try_lo33 rfl rfl rfl rfl rfl rfl rfl SlOf.imm (by simpa using hc) ?_
    intro v2
    refine RL.asg rfl rfl rfl (RL.finG ?_)
    exact GL.ret (Gx.ret (v := v2) (res1 rfl rfl) (fun a w st => (st.pick [1] (by decide) rfl).toPost v2))

set_option maxHeartbeats 4000000 in
theorem slices_IndexFunc_api_Errno_api_Errno_c (S : Hp) (w : World) (hS : S.sub w) (v0 : Value) (x0 : (List Int)) (k0 : ((TR.sl TR.int)).vrep S v0 x0) (f1 : FuncId) (c1 : Array Value) (t1 : Fit Try.prog f1) (g1 : Int → Option Bool) (k1 : ∀ (U : Hp) (w' : World), Hp.le S U → U.sub w' → ∀ (a0 : Int) (rr : Bool), g1 a0 = some rr → Calls Try.prog f1 (#[.int .i64 a0] ++ c1) w' (PostV w' (.bool rr))) (res : Int) (hm : slices_IndexFunc_api_Errno_api_Errno_m x0 g1 = some res) : Calls Try.prog 47 #[v0, .func (.func f1) #[] c1] w (PostV w (.int .i64 res)) := by
 refine calls_enter 19 Try.func47 Try.ntmps47 rfl S false [(0, v0), (1, .func (.func f1) #[] c1)] [imm (TR.sl TR.int) v0 x0] rfl ⟨rfl, ⟨rfl, trivial⟩⟩ hS ⟨k0, trivial⟩ ?_
 unfold slices_IndexFunc_api_Errno_api_Errno_m at hm
 refine GL.seq ?_
 refine GL.region ?_
 refine RL.asg rfl rfl rfl ?_
 refine RL.finG ?_
 refine GL.seq ?_
 refine GL.seq ?_
 refine GL.region ?_
 refine RL.mv rfl rfl rfl ?_
 refine RL.lenS 0 Try.underlying64 rfl rfl rfl rfl SlOf.imm ?_
 refine RL.mv rfl rfl rfl ?_
 refine RL.finG ?_
 refine GL.open_ 0 rfl (fun S h => len_imm S h) (fun n12 => ?_)
 obtain ⟨y13, K14, h15, h16, h17, h18, h19⟩ := bindR_K hm
 refine GL.join (ι := Unit) (fun (p : Unit) => []) (fun (p : Unit) => []) (fun (p : Unit) => K14 (.nx ())) ?_ ?_
 ·refine GL.block ?_
  refine GL.loop (ι := Nat × (List Int)) (fun (p : Nat × (List Int)) => [(0, v0), (1, .func (.func f1) #[] c1), (7, .int .i64 ((x0).length : Int)), (8, .int .i64 (p.1 : Int))]) (fun (p : Nat × (List Int)) => [imm (TR.sl TR.int) v0 x0]) (fun (p : Nat × (List Int)) => p.1 + p.2.length = (x0).length ∧ List.drop p.1 x0 = p.2 ∧ rangeL (slices_IndexFunc_api_Errno_api_Errno_b1 g1) p.2 p.1 () = some y13) (fun (p : Nat × (List Int)) => p.2.length) (0, x0) ⟨by simp, by simp, h15⟩ (fun a w st => St.cut [0] ⟨rfl, rfl, rfl, rfl, trivial⟩ (by decide) rfl st) ?_
  rintro ⟨i20, r21⟩ ⟨h26, h27, h25⟩
  try dsimp only at h26 h27 h25
  refine GL.weak (env' := [(0, v0), (1, .func (.func f1) #[] c1), (7, .int .i64 ((x0).length : Int)), (8, .int .i64 (i20 : Int))]) (L' := [imm (TR.sl TR.int) v0 x0]) (fun _ _ st => st) ?_
  refine GL.seq ?_
  refine GL.region ?_
  refine RL.binI (v := .bool (decide ((i20 : Int) < ((x0).length : Int)))) rfl rfl rfl rfl rfl ?_
  refine RL.finG ?_
  refine GL.seq ?_
  refine GL.cond rfl (fun b28 => ?_) (fun b28 => ?_)
  ·have h29 : i20 < (x0).length := by have := of_decide_eq_true b28; omega
   obtain ⟨y30, r32, hr, e31, h33⟩ := drop_cons h27 rfl h29
   subst hr
   obtain ⟨z22, h23, h24⟩ := rangeL_some h25
   unfold slices_IndexFunc_api_Errno_api_Errno_b1 at h23
   try dsimp only at h23
   refine GL.skip ?_
   refine GL.seq ?_
   refine GL.block ?_
   refine GL.seq ?_
   refine GL.region ?_
   refine RL.mv rfl rfl rfl ?_
   refine RL.asg rfl rfl rfl ?_
   refine RL.finG ?_
   refine GL.seq ?_
   refine GL.region ?_
   refine RL.mv rfl rfl rfl ?_
   refine RL.mv rfl rfl rfl ?_
   refine RL.mv rfl rfl rfl ?_
   refine RL.idxS (sz := 1) 0 Try.underlying64 Try_ln28 rfl rfl rfl rfl rfl SlOf.imm (by omega) (by omega) ?_
   refine RL.ldSx (i := i20) (e' := y30) 0 Ex.ik Try_ln28 rfl rfl rfl rfl SlOf.imm e31 Part.self ?_
   obtain ⟨y36, e37, h23⟩ := bind_some h23
   refine RL.callV (v := .bool y36) (vs := [.int .i64 y30]) t1 rfl (Or.inl rfl) rfl rfl rfl rfl (fun U w hU hW hL => k1 U w hW hU y30 _ e37) ?_
   refine RL.finG ?_
   refine GL.cond rfl (fun b38 => ?_) (fun b38 => ?_)
   ·replace h23 := ite_t b38 h23
    refine GL.seq ?_
    refine GL.region ?_
    refine RL.mv rfl rfl rfl ?_
    refine RL.asg rfl rfl rfl ?_
    refine RL.finG ?_
    cases h23
    replace h24 : some (Fl.rt _) = some y13 := h24
    cases h24
    have hh := h18 _ h16
    subst hh
    exact GL.ret (Gx.ret (v := .int .i64 (i20 : Int)) (res1 rfl rfl) (fun a w st => st.toPostV))
   replace h23 := ite_f b38 h23
   refine GL.skip ?_
   refine GL.nilB ?_
   refine GL.region ?_
   refine RL.binI (v := .int .i64 ((i20 + 1 : Nat) : Int)) rfl rfl rfl rfl (binI_succ i20 (by omega)) ?_
   refine RL.mv rfl rfl rfl ?_
   refine RL.fin ?_
   cases h23
   exact fun a w st => lop_intro (i20 + 1, r32) ⟨by show i20 + 1 + r32.length = (x0).length; simp only [List.length_cons] at h26; omega, h33, h24⟩ (by simp) (St.cut [0] ⟨rfl, rfl, rfl, rfl, trivial⟩ (by decide) rfl st)
  have h29 : ¬ i20 < (x0).length := by have := of_decide_eq_false b28; omega
  obtain rfl : r21 = [] := by rw [← h27]; exact List.drop_of_length_le (by omega)
  replace h25 : some (Fl.nx _) = some y13 := h25
  cases h25
  exact GL.exit (fun a w st => mid_intro () h16 (St.cut [] trivial (by decide) rfl st))
 rintro ⟨⟩ h39
 have h40 := h17 _ h39
 try dsimp only at h40
 refine GL.weak (env' := []) (L' := []) (fun _ _ st => st) ?_
 refine GL.seq ?_
 refine GL.region ?_
 refine RL.asg rfl rfl rfl ?_
 refine RL.finG ?_
 have h40 := Option.some.inj h40
 subst h40
 exact GL.ret (Gx.ret (v := .int .i64 (-1 : Int)) (res1 rfl rfl) (fun a w st => st.toPostV))

set_option maxHeartbeats 4000000 in
theorem slices_ContainsFunc_api_Errno_api_Errno_c (S : Hp) (w : World) (hS : S.sub w) (v0 : Value) (x0 : (List Int)) (k0 : ((TR.sl TR.int)).vrep S v0 x0) (f1 : FuncId) (c1 : Array Value) (t1 : Fit Try.prog f1) (g1 : Int → Option Bool) (k1 : ∀ (U : Hp) (w' : World), Hp.le S U → U.sub w' → ∀ (a0 : Int) (rr : Bool), g1 a0 = some rr → Calls Try.prog f1 (#[.int .i64 a0] ++ c1) w' (PostV w' (.bool rr))) (res : Bool) (hm : slices_ContainsFunc_api_Errno_api_Errno_m x0 g1 = some res) : Calls Try.prog 34 #[v0, .func (.func f1) #[] c1] w (PostV w (.bool res)) := by
 refine calls_enter 9 Try.func34 Try.ntmps34 rfl S false [(0, v0), (1, .func (.func f1) #[] c1)] [imm (TR.sl TR.int) v0 x0] rfl ⟨rfl, ⟨rfl, trivial⟩⟩ hS ⟨k0, trivial⟩ ?_
 unfold slices_ContainsFunc_api_Errno_api_Errno_m at hm
 refine GL.seq ?_
 refine GL.region ?_
 refine RL.asg rfl rfl rfl ?_
 refine RL.finG ?_
 refine GL.seq ?_
 refine GL.region ?_
 refine RL.mv rfl rfl rfl ?_
 refine RL.mv rfl rfl rfl ?_
 obtain ⟨y5, e6, hm⟩ := bind_some hm
 refine RL.callV (v := .int .i64 y5) (vs := [v0, .func (.func f1) #[] c1]) Try_fit47 rfl (Or.inl rfl) rfl rfl rfl rfl (fun U w hU hW hL => slices_IndexFunc_api_Errno_api_Errno_c U w hU _ _ (hL 0 _ _ rfl Seen.imm) f1 c1 t1 g1 (fun U' w' hle => k1 U' w' (Hp.le_trans hW hle)) _ e6) ?_
 refine RL.binI (v := .bool (decide (y5 ≥ (0 : Int)))) rfl rfl rfl rfl rfl ?_
 refine RL.asg rfl rfl rfl ?_
 refine RL.finG ?_
 have hm := Option.some.inj hm
 subst hm
 exact GL.ret (Gx.ret (v := .bool (decide (y5 ≥ (0 : Int)))) (res1 rfl rfl) (fun a w st => st.toPostV))

set_option maxHeartbeats 4000000 in
theorem pk_good_1_c (S : Hp) (w : World) (hS : S.sub w) (x0 : Int) (res : Bool) (hm : pk_good_1_m x0 = some res) : Calls Try.prog 35 #[.int .i64 x0] w (PostC w (.bool res)) := by
 refine calls_enter 5 Try.func35 Try.ntmps35 rfl S true [(0, .int .i64 x0)] [] rfl ⟨rfl, trivial⟩ hS trivial ?_
 unfold pk_good_1_m at hm
 refine GL.seq ?_
 refine GL.region ?_
 refine RL.asg rfl rfl rfl ?_
 refine RL.finG ?_
 refine GL.seq ?_
 refine GL.region ?_
 refine RL.mv rfl rfl rfl ?_
 refine RL.binI (v := .bool (x0 != (0 : Int))) rfl rfl rfl rfl rfl ?_
 refine RL.asg rfl rfl rfl ?_
 refine RL.finG ?_
 have hm := Option.some.inj hm
 subst hm
 exact GL.ret (Gx.ret (v := .bool (x0 != (0 : Int))) (res1 rfl rfl) (fun a w st => st.toPostC rfl))

set_option maxHeartbeats 4000000 in
theorem pk_good_c (S : Hp) (w : World) (hS : S.sub w) (v0 : Value) (x0 : (List Int)) (k0 : ((TR.sl TR.int)).vrep S v0 x0) (res : Bool) (hm : pk_good_m x0 = some res) : Calls Try.prog 13 #[v0] w (PostV w (.bool res)) := by
 refine calls_enter 6 Try.func13 Try.ntmps13 rfl S false [(0, v0)] [imm (TR.sl TR.int) v0 x0] rfl ⟨rfl, trivial⟩ hS ⟨k0, trivial⟩ ?_
 unfold pk_good_m at hm
 refine GL.seq ?_
 refine GL.region ?_
 refine RL.asg rfl rfl rfl ?_
 refine RL.finG ?_
 refine GL.seq ?_
 refine GL.region ?_
 refine RL.mv rfl rfl rfl ?_
 obtain ⟨y4, e5, hm⟩ := bind_some hm
 refine RL.callV (v := .bool y4) (vs := [v0, .func (.func 35) #[] #[]]) Try_fit34 rfl (Or.inl rfl) rfl rfl rfl rfl (fun U w hU hW hL => slices_ContainsFunc_api_Errno_api_Errno_c U w hU _ _ (hL 0 _ _ rfl Seen.imm) 35 #[] Try_fit35 (fun a0 => pk_good_1_m a0) (fun U' w' hle hU' a0 rr hr => (pk_good_1_c U' w' hU' a0 rr hr).mono (fun _ _ z => z.toV)) _ e5) ?_
 refine RL.notB rfl rfl rfl ?_
 refine RL.asg rfl rfl rfl ?_
 refine RL.finG ?_
 have hm := Option.some.inj hm
 subst hm
 exact GL.ret (Gx.ret (v := .bool (!y4)) (res1 rfl rfl) (fun a w st => st.toPostV))

set_option maxHeartbeats 4000000 in
theorem pk_KnapApart_c (S : Hp) (w : World) (hS : S.sub w) (v0 : Value) (x0 : (List (List Int))) (k0 : ((TR.sl (TR.arr 2 TR.int))).vrep S v0 x0) (v1 : Value) (x1 : (List (List Int))) (k1 : ((TR.sl (TR.arr 2 TR.int))).vrep S v1 x1) (x2 : Int) (res : Bool) (hm : pk_KnapApart_m x0 x1 x2 = some res) : Calls Try.prog 3 #[v0, v1, .int .i64 x2] w (PostV w (.bool res)) := by
 refine calls_enter 87 Try.func3 Try.ntmps3 rfl S false [(0, v0), (1, v1), (2, .int .i64 x2)] [imm (TR.sl (TR.arr 2 TR.int)) v0 x0, imm (TR.sl (TR.arr 2 TR.int)) v1 x1] rfl ⟨rfl, ⟨rfl, ⟨rfl, trivial⟩⟩⟩ hS ⟨k0, ⟨k1, trivial⟩⟩ ?_
 unfold pk_KnapApart_m at hm
 refine GL.seq ?_
 refine GL.region ?_
 refine RL.asg rfl rfl rfl ?_
 refine RL.finG ?_
 refine GL.seq ?_
 refine GL.seq ?_
 refine GL.region ?_
 obtain ⟨y6, e7, hm⟩ := bind_some hm
 refine RL.callV (v := .bool y6) (vs := []) Try_fit8 rfl (Or.inl rfl) rfl rfl rfl rfl (fun U w hU hW hL => pk_knaps_c U w hU  _ e7) ?_
 refine RL.notB rfl rfl rfl ?_
 refine RL.finG ?_
 refine GL.cond rfl (fun b8 => ?_) (fun b8 => ?_)
 ·replace hm := ite_t b8 hm
  refine GL.seq ?_
  refine GL.region ?_
  refine RL.asg rfl rfl rfl ?_
  refine RL.finG ?_
  have hm := Option.some.inj hm
  subst hm
  exact GL.ret (Gx.ret (v := .bool false) (res1 rfl rfl) (fun a w st => st.toPostV))
 replace hm := ite_f b8 hm
 refine GL.skip ?_
 refine GL.seq ?_
 refine GL.region ?_
 refine RL.mv rfl rfl rfl ?_
 obtain ⟨y15, e16, hm⟩ := bind_some hm
 refine RL.call (vs := [v0]) Try_fit9 rfl rfl rfl rfl rfl (fun S f w hS hW hi => pk_ItemsOf_c S w hS _ _ (hi 0 _ rfl) _ e16) ?_
 intro v17
 refine RL.mv rfl rfl rfl ?_
 obtain ⟨y18, e19, hm⟩ := bind_some hm
 refine RL.call (vs := [v1]) Try_fit9 rfl rfl rfl rfl rfl (fun S f w hS hW hi => pk_ItemsOf_c S w hS _ _ (hi 1 _ rfl) _ e19) ?_
 intro v20
 refine RL.reL (L' := [imm (TR.sl (TR.arr 2 TR.int)) v0 x0, imm (TR.sl (TR.arr 2 TR.int)) v1 x1, own 33 (TR.pair TR.int TR.int) v17 y15, own 33 (TR.pair TR.int TR.int) v20 y18]) rfl ?_
 refine RL.asg rfl rfl rfl ?_
 refine RL.asg rfl rfl rfl ?_
 refine RL.finG ?_
 refine GL.seq ?_
 refine GL.weak (fun a w st => st.freeze 2 rfl) ?_
 refine GL.weak (fun a w st => st.freeze 3 rfl) ?_
 refine GL.regionQ rfl rfl (by kernel_rfl) ?_
 refine RL.mv rfl rfl rfl ?_
 refine RL.mv rfl rfl rfl ?_
 refine RL.lenS 2 Try.underlying24 rfl rfl rfl rfl SlOf.imm ?_
 refine RL.minI rfl rfl rfl rfl ?_
 obtain ⟨y27, e28, hm⟩ := bind_some hm
 replace e28 := chk_some e28
 refine RL.slc (t := (TR.pair TR.int TR.int)) (i := 0) (j := (if (6 : Int) < ((y15).length : Int) then (6 : Int) else ((y15).length : Int)).toNat) (sz := 2) 2 Try.underlying24 Try_ln33 rfl rfl rfl rfl (Or.inl ⟨rfl, rfl⟩) (Or.inr ⟨_, _, rfl, by rw [Int.toNat_of_nonneg (by omega)]; rfl⟩) rfl (by omega) (by omega) ?_
 intro v29
 refine RL.mv rfl rfl rfl ?_
 refine RL.mv rfl rfl rfl ?_
 refine RL.lenS 3 Try.underlying24 rfl rfl rfl rfl SlOf.imm ?_
 refine RL.minI rfl rfl rfl rfl ?_
 obtain ⟨y30, e31, hm⟩ := bind_some hm
 replace e31 := chk_some e31
 refine RL.slc (t := (TR.pair TR.int TR.int)) (i := 0) (j := (if (6 : Int) < ((y18).length : Int) then (6 : Int) else ((y18).length : Int)).toNat) (sz := 2) 3 Try.underlying24 Try_ln33 rfl rfl rfl rfl (Or.inl ⟨rfl, rfl⟩) (Or.inr ⟨_, _, rfl, by rw [Int.toNat_of_nonneg (by omega)]; rfl⟩) rfl (by omega) (by omega) ?_
 intro v32
 refine RL.reL (L' := [imm (TR.sl (TR.arr 2 TR.int)) v0 x0, imm (TR.sl (TR.arr 2 TR.int)) v1 x1, imm (TR.sl (TR.pair TR.int TR.int)) v17 y15, imm (TR.sl (TR.pair TR.int TR.int)) v20 y18, imm (TR.sl (TR.pair TR.int TR.int)) v29 ((List.take ((if (6 : Int) < ((y15).length : Int) then (6 : Int) else ((y15).length : Int)).toNat) y15).drop 0), imm (TR.sl (TR.pair TR.int TR.int)) v32 ((List.take ((if (6 : Int) < ((y18).length : Int) then (6 : Int) else ((y18).length : Int)).toNat) y18).drop 0)]) rfl ?_
 refine RL.asg rfl rfl rfl ?_
 refine RL.asg rfl rfl rfl ?_
 refine RL.finQG ?_
 refine GL.seq ?_
 refine GL.region ?_
 refine RL.mv rfl rfl rfl ?_
 obtain ⟨y35, e36, hm⟩ := bind_some hm
 refine RL.callC (v := .int .i64 y35) (vs := [.int .i64 x2, .int .i64 (60 : Int)]) Try_fit10 rfl rfl rfl rfl (fun U w hU hW hL => pk_Within_c U w hU x2 (60 : Int) _ e36) ?_
 refine RL.asg rfl rfl rfl ?_
 refine RL.finG ?_
 refine GL.seq ?_
 refine GL.region ?_
 refine RL.mv rfl rfl rfl ?_
 obtain ⟨y46, e47, hm⟩ := bind_some hm
 refine RL.call (vs := [v29]) Try_fit12 rfl rfl rfl rfl rfl (fun S f w hS hW hi => slices_Clone_api_Item_api_Item_c S w hS _ _ (hi 4 _ rfl) _ e47) ?_
 intro v48
 refine RL.mv rfl rfl rfl ?_
 obtain ⟨y49, e50, hm⟩ := bind_some hm
 replace e50 := chk_some e50
 refine RL.app 6 5 Try.underlying24 Try_lo33 rfl rfl rfl rfl rfl rfl rfl SlOf.imm e50 ?_
 intro v51
 refine RL.reL (L' := [imm (TR.sl (TR.arr 2 TR.int)) v0 x0, imm (TR.sl (TR.arr 2 TR.int)) v1 x1, imm (TR.sl (TR.pair TR.int TR.int)) v17 y15, imm (TR.sl (TR.pair TR.int TR.int)) v20 y18, imm (TR.sl (TR.pair TR.int TR.int)) v29 ((List.take ((if (6 : Int) < ((y15).length : Int) then (6 : Int) else ((y15).length : Int)).toNat) y15).drop 0), imm (TR.sl (TR.pair TR.int TR.int)) v32 ((List.take ((if (6 : Int) < ((y18).length : Int) then (6 : Int) else ((y18).length : Int)).toNat) y18).drop 0), own 33 (TR.pair TR.int TR.int) v51 (y46 ++ ((List.take ((if (6 : Int) < ((y18).length : Int) then (6 : Int) else ((y18).length : Int)).toNat) y18).drop 0))]) rfl ?_
 refine RL.mv rfl rfl rfl ?_
 obtain ⟨y52, e53, hm⟩ := bind_some hm
 refine RL.callU (vs := [v51, .int .i64 y35]) (LR := fun (o : Value) => [own 3 TR.int o y52.1]) (fun o => ⟨Loc.own TR.flatT_ik, trivial⟩) Try_fit11 rfl rfl rfl rfl rfl (fun U w hU hW hL => knap_Most_c U w hU _ _ (hL 6 _ _ rfl Seen.own) y35 _ e53) ?_
 intro v54
 refine RL.mv rfl rfl rfl ?_
 refine RL.ext rfl rfl rfl rfl ?_
 refine RL.ext rfl rfl rfl rfl ?_
 refine RL.ext rfl rfl rfl rfl ?_
 refine RL.asg rfl rfl rfl ?_
 refine RL.asg rfl rfl rfl ?_
 refine RL.asg rfl rfl rfl ?_
 refine RL.finG ?_
 refine GL.seq ?_
 refine GL.region ?_
 refine RL.asg rfl rfl rfl ?_
 refine RL.finG ?_
 refine GL.seq ?_
 refine GL.seq ?_
 refine GL.region ?_
 refine RL.mv rfl rfl rfl ?_
 refine RL.binI (v := .int .i64 (wadd y35 (1 : Int))) rfl rfl rfl rfl rfl ?_
 refine RL.mv rfl rfl rfl ?_
 refine RL.finG ?_
 obtain ⟨y76, e77, hm⟩ := bind_some hm
 replace e77 := chk_some e77
 obtain ⟨y78, K79, h80, h81, h82, h83, h84⟩ := bindR_K hm
 refine GL.join (ι := Int) (fun (p : Int) => [(10, .int .i64 y52.2.1), (11, .int .i64 y52.2.2), (12, .int .i64 p)]) (fun (p : Int) => []) (fun (p : Int) => K79 (.nx p)) ?_ ?_
 ·refine GL.block ?_
  refine GL.loop (ι := Nat × Nat × Int) (fun (p : Nat × Nat × Int) => [(2, .int .i64 y35), (7, v29), (8, v32), (10, .int .i64 y52.2.1), (11, .int .i64 y52.2.2), (12, .int .i64 p.2.2), (49, .int .i64 (wadd y35 (1 : Int))), (50, .int .i64 (p.1 : Int))]) (fun (p : Nat × Nat × Int) => [imm (TR.sl (TR.pair TR.int TR.int)) v29 ((List.take ((if (6 : Int) < ((y15).length : Int) then (6 : Int) else ((y15).length : Int)).toNat) y15).drop 0), imm (TR.sl (TR.pair TR.int TR.int)) v32 ((List.take ((if (6 : Int) < ((y18).length : Int) then (6 : Int) else ((y18).length : Int)).toNat) y18).drop 0)]) (fun (p : Nat × Nat × Int) => p.1 + p.2.1 = (wadd y35 (1 : Int)).toNat ∧ rangeN (pk_KnapApart_b1 y15 y18 y35) p.2.1 p.1 p.2.2 = some y78) (fun (p : Nat × Nat × Int) => p.2.1) (0, (wadd y35 (1 : Int)).toNat, (0 : Int)) ⟨by simp, h80⟩ (fun a w st => St.cut [4, 5] ⟨rfl, rfl, rfl, rfl, rfl, rfl, rfl, rfl, trivial⟩ (by decide) rfl st) ?_
  rintro ⟨i85, r86, x55⟩ ⟨h91, h90⟩
  try dsimp only at h91 h90
  refine GL.weak (env' := [(2, .int .i64 y35), (7, v29), (8, v32), (10, .int .i64 y52.2.1), (11, .int .i64 y52.2.2), (12, .int .i64 x55), (49, .int .i64 (wadd y35 (1 : Int))), (50, .int .i64 (i85 : Int))]) (L' := [imm (TR.sl (TR.pair TR.int TR.int)) v29 ((List.take ((if (6 : Int) < ((y15).length : Int) then (6 : Int) else ((y15).length : Int)).toNat) y15).drop 0), imm (TR.sl (TR.pair TR.int TR.int)) v32 ((List.take ((if (6 : Int) < ((y18).length : Int) then (6 : Int) else ((y18).length : Int)).toNat) y18).drop 0)]) (fun _ _ st => st) ?_
  refine GL.seq ?_
  refine GL.region ?_
  refine RL.binI (v := .bool (decide ((i85 : Int) < wadd y35 (1 : Int)))) rfl rfl rfl rfl rfl ?_
  refine RL.finG ?_
  refine GL.seq ?_
  refine GL.cond rfl (fun b93 => ?_) (fun b93 => ?_)
  ·have h94 : i85 < (wadd y35 (1 : Int)).toNat := by have := of_decide_eq_true b93; omega
   obtain ⟨r95, hr⟩ : ∃ m, r86 = m + 1 := ⟨r86 - 1, by omega⟩
   subst hr
   obtain ⟨z87, h88, h89⟩ := rangeN_some h90
   unfold pk_KnapApart_b1 at h88
   try dsimp only at h88
   refine GL.skip ?_
   refine GL.seq ?_
   refine GL.block ?_
   refine GL.seq ?_
   refine GL.region ?_
   refine RL.mv rfl rfl rfl ?_
   refine RL.asg rfl rfl rfl ?_
   refine RL.finG ?_
   refine GL.seq ?_
   refine GL.region ?_
   refine RL.mv rfl rfl rfl ?_
   refine RL.mv rfl rfl rfl ?_
   obtain ⟨y99, e100, h88⟩ := bind_some h88
   refine RL.call (vs := [v29, .int .i64 (i85 : Int)]) Try_fit11 rfl rfl rfl rfl rfl (fun S f w hS hW hi => knap_Most_c S w hS _ _ (hi 0 _ rfl) (i85 : Int) _ e100) ?_
   intro v101
   refine RL.mv rfl rfl rfl ?_
   refine RL.ext rfl rfl rfl rfl ?_
   refine RL.ext rfl rfl rfl rfl ?_
   refine RL.ext rfl rfl rfl rfl ?_
   refine RL.asg rfl rfl rfl ?_
   refine RL.asg rfl rfl rfl ?_
   refine RL.asg rfl rfl rfl ?_
   refine RL.finG ?_
   refine GL.seq ?_
   refine GL.region ?_
   refine RL.mv rfl rfl rfl ?_
   refine RL.mv rfl rfl rfl ?_
   refine RL.mv rfl rfl rfl ?_
   refine RL.binI (v := .int .i64 (wsub y35 (i85 : Int))) rfl rfl rfl rfl rfl ?_
   obtain ⟨y105, e106, h88⟩ := bind_some h88
   refine RL.call (vs := [v32, .int .i64 (wsub y35 (i85 : Int))]) Try_fit11 rfl rfl rfl rfl rfl (fun S f w hS hW hi => knap_Most_c S w hS _ _ (hi 1 _ rfl) (wsub y35 (i85 : Int)) _ e106) ?_
   intro v107
   refine RL.reL (L' := [imm (TR.sl (TR.pair TR.int TR.int)) v29 ((List.take ((if (6 : Int) < ((y15).length : Int) then (6 : Int) else ((y15).length : Int)).toNat) y15).drop 0), imm (TR.sl (TR.pair TR.int TR.int)) v32 ((List.take ((if (6 : Int) < ((y18).length : Int) then (6 : Int) else ((y18).length : Int)).toNat) y18).drop 0), own 3 TR.int v101 y99.1, own 3 TR.int v107 y105.1]) rfl ?_
   refine RL.mv rfl rfl rfl ?_
   refine RL.ext rfl rfl rfl rfl ?_
   refine RL.ext rfl rfl rfl rfl ?_
   refine RL.ext rfl rfl rfl rfl ?_
   refine RL.asg rfl rfl rfl ?_
   refine RL.asg rfl rfl rfl ?_
   refine RL.asg rfl rfl rfl ?_
   refine RL.finG ?_
   refine GL.seq ?_
   refine GL.seq ?_
   refine GL.region ?_
   refine RL.mv rfl rfl rfl ?_
   refine RL.mv rfl rfl rfl ?_
   refine RL.bS (t := TR.int) (vs := [.int .i64 y99.2.2, .int .i64 y105.2.2]) ([y99.2.2, y105.2.2] : (List Int)) Try.underlying64 Try_lo28 rfl rfl rfl rfl ⟨VR.int, ⟨VR.int, trivial⟩⟩ rfl (by decide) ?_
   intro v111
   obtain ⟨y112, e113, h88⟩ := bind_some h88
   refine RL.callV (v := .bool y112) (vs := [v111]) Try_fit13 rfl (Or.inl rfl) rfl rfl rfl rfl (fun U w hU hW hL => pk_good_c U w hU _ _ (hL 4 _ _ rfl Seen.own) _ e113) ?_
   refine RL.notB rfl rfl rfl ?_
   refine RL.finG ?_
   refine GL.cond rfl (fun b114 => ?_) (fun b114 => ?_)
   ·replace h88 := ite_t b114 h88
    refine GL.seq ?_
    refine GL.region ?_
    refine RL.asg rfl rfl rfl ?_
    refine RL.finG ?_
    cases h88
    replace h89 : some (Fl.rt _) = some y78 := h89
    cases h89
    have hh := h83 _ h81
    subst hh
    exact GL.ret (Gx.ret (v := .bool false) (res1 rfl rfl) (fun a w st => st.toPostV))
   replace h88 := ite_f b114 h88
   refine GL.skip ?_
   refine GL.region ?_
   refine RL.mv rfl rfl rfl ?_
   refine RL.mv rfl rfl rfl ?_
   refine RL.mv rfl rfl rfl ?_
   refine RL.binI (v := .int .i64 (wadd y99.2.1 y105.2.1)) rfl rfl rfl rfl rfl ?_
   refine RL.maxI rfl rfl rfl rfl ?_
   refine RL.asg rfl rfl rfl ?_
   refine RL.finG ?_
   refine GL.nilB ?_
   refine GL.region ?_
   refine RL.binI (v := .int .i64 ((i85 + 1 : Nat) : Int)) rfl rfl rfl rfl (binI_succ i85 (by omega)) ?_
   refine RL.mv rfl rfl rfl ?_
   refine RL.fin ?_
   cases h88
   exact fun a w st => lop_intro (i85 + 1, r95, if (wadd y99.2.1 y105.2.1) > x55 then wadd y99.2.1 y105.2.1 else x55) ⟨by show i85 + 1 + r95 = (wadd y35 (1 : Int)).toNat; omega, h89⟩ (by simp) (St.cut [0, 1] ⟨rfl, rfl, rfl, rfl, rfl, rfl, rfl, rfl, trivial⟩ (by decide) rfl st)
  have h94 : ¬ i85 < (wadd y35 (1 : Int)).toNat := by have := of_decide_eq_false b93; omega
  obtain rfl : r86 = 0 := by omega
  replace h90 : some (Fl.nx _) = some y78 := h90
  cases h90
  exact GL.exit (fun a w st => mid_intro x55 h81 (St.cut [] ⟨rfl, rfl, rfl, trivial⟩ (by decide) rfl st))
 rintro x55 h115
 have h116 := h82 _ h115
 try dsimp only at h116
 refine GL.weak (env' := [(10, .int .i64 y52.2.1), (11, .int .i64 y52.2.2), (12, .int .i64 x55)]) (L' := []) (fun _ _ st => st) ?_
 refine GL.seq ?_
 obtain ⟨y120, K121, h122, h123, h124, h125, h126⟩ := bindR_K h116
 refine GL.join (ι := Bool) (fun (p : Bool) => [(6, .bool p)]) (fun (p : Bool) => []) (fun (p : Bool) => K121 (.nx p)) ?_ ?_
 ·skip
  refine GL.region ?_
  refine RL.mv rfl rfl rfl ?_
  refine RL.binI (v := .bool (y52.2.2 == (0 : Int))) rfl rfl rfl rfl rfl ?_
  refine RL.mv rfl rfl rfl ?_
  refine RL.split (t := 82) rfl (fun b127 => ?_) (fun b127 => ?_)
  ·replace h122 := ite_t b127 h122
   refine RL.mv rfl rfl rfl ?_
   refine RL.mv rfl rfl rfl ?_
   refine RL.binI (v := .bool (y52.2.1 == x55)) rfl rfl rfl rfl rfl ?_
   refine RL.pickT rfl rfl rfl rfl ?_
   refine RL.asg rfl rfl rfl ?_
   refine RL.fin ?_
   cases h122
   exact fun a w st => mid_intro (y52.2.1 == x55) h123 (St.cut [] ⟨rfl, trivial⟩ (by decide) rfl st)
  replace h122 := ite_f b127 h122
  refine RL.skip rfl rfl ?_
  refine RL.skip rfl rfl ?_
  refine RL.skip rfl rfl ?_
  refine RL.pickF rfl rfl rfl rfl ?_
  refine RL.asg rfl rfl rfl ?_
  refine RL.fin ?_
  cases h122
  exact fun a w st => mid_intro false h123 (St.cut [] ⟨rfl, trivial⟩ (by decide) rfl st)
 rintro x119 h128
 have h129 := h124 _ h128
 try dsimp only at h129
 refine GL.weak (env' := [(6, .bool x119)]) (L' := []) (fun _ _ st => st) ?_
 have h129 := Option.some.inj h129
 subst h129
 exact GL.ret (Gx.ret (v := .bool x119) (res1 rfl rfl) (fun a w st => st.toPostV))
end Go.Wk
