/- Each function comes to what its model says; printed by a program of this repository. -/
import Derived.Test.YtmaldmoldknehaaProg
import Derived.Test.YtmaldmoldknehaaWTopTreeModels
import Derived.Test.YtmaldmoldknehaaFwU
namespace Go.Wk
open Go.Fw Go.Mo Go.Proofs Go.RowKit
set_option linter.all false
set_option maxRecDepth 100000
theorem loopNx {ρ σ β γ : Type} {body : σ → Option (Fl ρ β σ)} {n : Nat} {s : σ} {y : Fl ρ γ β} (h : stepM body n (.nx s) = some y) : loopM body n s = some y := h
theorem Try_info3 : (Try.prog.info? 3).map (fun i => (i.zero, i.size, i.bytes)) = some (some (.int .i64 0), 1, 8) := by kernel_rfl
theorem Try_ln3 : Ln Try.prog 3 1 false := Ln.of Try_info3 Try.underlying3 rfl
theorem Try_lo3 : LnO Try.prog 3 1 [.int .i64 0] := LnO.of Try_info3 rfl rfl (by decide) (by decide)
theorem Try_info4 : (Try.prog.info? 4).map (fun i => (i.zero, i.size, i.bytes)) = some (some (.bool false), 1, 1) := by kernel_rfl
theorem Try_ln4 : Ln Try.prog 4 1 false := Ln.of Try_info4 Try.underlying4 rfl
theorem Try_lo4 : LnO Try.prog 4 1 [.bool false] := LnO.of Try_info4 rfl rfl (by decide) (by decide)
theorem Try_info22 : (Try.prog.info? 22).map (fun i => (i.zero, i.size, i.bytes)) = some (some (.slice none 0 0), 1, 24) := by kernel_rfl
theorem Try_ln22 : Ln Try.prog 22 1 false := Ln.of Try_info22 Try.underlying22 rfl
theorem Try_lo22 : LnO Try.prog 22 1 [.slice none 0 0] := LnO.of Try_info22 rfl rfl (by decide) (by decide)
theorem Try_info26 : (Try.prog.info? 26).map (fun i => (i.zero, i.size, i.bytes)) = some (some (.agg #[.int .i64 0, .slice none 0 0, .slice none 0 0]), 3, 56) := by kernel_rfl
theorem Try_ln26 : Ln Try.prog 26 3 true := Ln.of Try_info26 Try.underlying26 rfl
theorem Try_lo26 : LnO Try.prog 26 3 [.int .i64 0, .slice none 0 0, .slice none 0 0] := LnO.of Try_info26 rfl rfl (by decide) (by decide)
theorem Try_info28 : (Try.prog.info? 28).map (fun i => (i.zero, i.size, i.bytes)) = some (some (.int .i64 0), 1, 8) := by kernel_rfl
theorem Try_ln28 : Ln Try.prog 28 1 false := Ln.of Try_info28 Try.underlying28 rfl
theorem Try_lo28 : LnO Try.prog 28 1 [.int .i64 0] := LnO.of Try_info28 rfl rfl (by decide) (by decide)
theorem Try_info38 : (Try.prog.info? 38).map (fun i => (i.zero, i.size, i.bytes)) = some (some (.agg #[.bool false, .bool false, .bool false, .bool false, .bool false, .bool false, .bool false]), 7, 7) := by kernel_rfl
theorem Try_ln38 : Ln Try.prog 38 7 true := Ln.of Try_info38 Try.underlying38 rfl
theorem Try_lo38 : LnO Try.prog 38 7 [.bool false, .bool false, .bool false, .bool false, .bool false, .bool false, .bool false] := LnO.of Try_info38 rfl rfl (by decide) (by decide)
theorem Try_info49 : (Try.prog.info? 49).map (fun i => (i.zero, i.size, i.bytes)) = some (some (.agg #[.bool false, .bool false, .bool false, .bool false, .bool false, .bool false]), 6, 6) := by kernel_rfl
theorem Try_ln49 : Ln Try.prog 49 6 true := Ln.of Try_info49 Try.underlying49 rfl
theorem Try_lo49 : LnO Try.prog 49 6 [.bool false, .bool false, .bool false, .bool false, .bool false, .bool false] := LnO.of Try_info49 rfl rfl (by decide) (by decide)
theorem Try_bld26 (pv : List (Nat × Value)) : Try.prog.built 26 pv = Instr.fill ((mkPlaces 0 [[.int .i64 0], [.slice none 0 0], [.slice none 0 0]]).toArray[·]?) (List.flatten [[.int .i64 0], [.slice none 0 0], [.slice none 0 0]]).toArray pv := by kernel_rfl
theorem Try_fit10 : Fit Try.prog 10 := Fit.of Try.func10 (by kernel_rfl) rfl
theorem Try_fit11 : Fit Try.prog 11 := Fit.of Try.func11 (by kernel_rfl) rfl
theorem Try_fit12 : Fit Try.prog 12 := Fit.of Try.func12 (by kernel_rfl) rfl
theorem Try_fit13 : Fit Try.prog 13 := Fit.of Try.func13 (by kernel_rfl) rfl
theorem Try_fit14 : Fit Try.prog 14 := Fit.of Try.func14 (by kernel_rfl) rfl
theorem Try_fit15 : Fit Try.prog 15 := Fit.of Try.func15 (by kernel_rfl) rfl
theorem Try_fit16 : Fit Try.prog 16 := Fit.of Try.func16 (by kernel_rfl) rfl
theorem Try_fit17 : Fit Try.prog 17 := Fit.of Try.func17 (by kernel_rfl) rfl
theorem Try_fit18 : Fit Try.prog 18 := Fit.of Try.func18 (by kernel_rfl) rfl
theorem Try_fit19 : Fit Try.prog 19 := Fit.of Try.func19 (by kernel_rfl) rfl
theorem Try_fit20 : Fit Try.prog 20 := Fit.of Try.func20 (by kernel_rfl) rfl
theorem Try_fit21 : Fit Try.prog 21 := Fit.of Try.func21 (by kernel_rfl) rfl
theorem Try_fit4 : Fit Try.prog 4 := Fit.of Try.func4 (by kernel_rfl) rfl
theorem Try_fit5 : Fit Try.prog 5 := Fit.of Try.func5 (by kernel_rfl) rfl
theorem Try_fit6 : Fit Try.prog 6 := Fit.of Try.func6 (by kernel_rfl) rfl
theorem Try_fit7 : Fit Try.prog 7 := Fit.of Try.func7 (by kernel_rfl) rfl
theorem Try_fit8 : Fit Try.prog 8 := Fit.of Try.func8 (by kernel_rfl) rfl
theorem Try_fit9 : Fit Try.prog 9 := Fit.of Try.func9 (by kernel_rfl) rfl
theorem Try_fld26_0 (ad : Addr) (w : World) : (Instr.fieldAt 26 (.pointer (some ad)) 0).run Try.prog w = .ok (.pointer (some (ad.add 0))) w := by
  simp [Instr.fieldAt, run_underlying Try.underlying26, Instr.sureAddr, fieldPlace, Fw.run_sizeOf Try_ln3]
theorem Try_fld26_1 (ad : Addr) (w : World) : (Instr.fieldAt 26 (.pointer (some ad)) 1).run Try.prog w = .ok (.pointer (some (ad.add 1))) w := by
  simp [Instr.fieldAt, run_underlying Try.underlying26, Instr.sureAddr, fieldPlace, Fw.run_sizeOf Try_ln22]
theorem Try_fld26_2 (ad : Addr) (w : World) : (Instr.fieldAt 26 (.pointer (some ad)) 2).run Try.prog w = .ok (.pointer (some (ad.add 2))) w := by
  simp [Instr.fieldAt, run_underlying Try.underlying26, Instr.sureAddr, fieldPlace, Fw.run_sizeOf Try_ln22]

set_option maxHeartbeats 4000000 in
theorem ref_Rest_c (S : Hp) (w : World) (hS : S.sub w) (x0 : Int) (x1 : Int) (res : Int) (hm : ref_Rest_m x0 x1 = some res) : Calls Try.prog 9 #[.int .i64 x0, .int .i64 x1] w (PostC w (.int .i64 res)) := by
 refine calls_enter 14 Try.func9 Try.ntmps9 rfl S true [(0, .int .i64 x0), (1, .int .i64 x1)] [] rfl ⟨rfl, ⟨rfl, trivial⟩⟩ hS trivial ?_
 unfold ref_Rest_m at hm
 refine GL.seq ?_
 refine GL.region ?_
 refine RL.asg rfl rfl rfl ?_
 refine RL.finG ?_
 refine GL.seq ?_
 refine GL.region ?_
 refine RL.mv rfl rfl rfl ?_
 refine RL.mv rfl rfl rfl ?_
 obtain ⟨y5, e6, hm⟩ := bind_some hm
 replace e6 := chk_some e6
 refine RL.rem rfl rfl rfl rfl e6 ?_
 refine RL.asg rfl rfl rfl ?_
 refine RL.finG ?_
 refine GL.seq ?_
 refine GL.seq ?_
 refine GL.region ?_
 refine RL.mv rfl rfl rfl ?_
 refine RL.binI (v := .bool (decide ((Int.tmod x0 x1) < (0 : Int)))) rfl rfl rfl rfl rfl ?_
 refine RL.finG ?_
 obtain ⟨y9, K10, h11, h12, h13, h14, h15⟩ := bindR_K hm
 refine GL.join (ι := Int) (fun (p : Int) => [(0, .int .i64 p)]) (fun (p : Int) => []) (fun (p : Int) => K10 (.nx p)) ?_ ?_
 ·skip
  refine GL.cond rfl (fun b16 => ?_) (fun b16 => ?_)
  ·replace h11 := ite_t b16 h11
   refine GL.region ?_
   refine RL.mv rfl rfl rfl ?_
   refine RL.mv rfl rfl rfl ?_
   refine RL.binI (v := .int .i64 (wadd (Int.tmod x0 x1) x1)) rfl rfl rfl rfl rfl ?_
   refine RL.asg rfl rfl rfl ?_
   refine RL.finG ?_
   cases h11
   exact fun a w st => mid_intro (wadd (Int.tmod x0 x1) x1) h12 (St.cut [] ⟨rfl, trivial⟩ (by decide) rfl st)
  replace h11 := ite_f b16 h11
  refine GL.skip ?_
  cases h11
  exact fun a w st => mid_intro (Int.tmod x0 x1) h12 (St.cut [] ⟨rfl, trivial⟩ (by decide) rfl st)
 rintro x8 h17
 have h18 := h13 _ h17
 try dsimp only at h18
 refine GL.weak (env' := [(0, .int .i64 x8)]) (L' := []) (fun _ _ st => st) ?_
 refine GL.seq ?_
 refine GL.region ?_
 refine RL.mv rfl rfl rfl ?_
 refine RL.asg rfl rfl rfl ?_
 refine RL.finG ?_
 have h18 := Option.some.inj h18
 subst h18
 exact GL.ret (Gx.ret (v := .int .i64 x8) (res1 rfl rfl) (fun a w st => st.toPostC rfl))

set_option maxHeartbeats 4000000 in
theorem pk_Within_c (S : Hp) (w : World) (hS : S.sub w) (x0 : Int) (x1 : Int) (res : Int) (hm : pk_Within_m x0 x1 = some res) : Calls Try.prog 4 #[.int .i64 x0, .int .i64 x1] w (PostC w (.int .i64 res)) := by
 refine calls_enter 8 Try.func4 Try.ntmps4 rfl S true [(0, .int .i64 x0), (1, .int .i64 x1)] [] rfl ⟨rfl, ⟨rfl, trivial⟩⟩ hS trivial ?_
 unfold pk_Within_m at hm
 refine GL.seq ?_
 refine GL.region ?_
 refine RL.asg rfl rfl rfl ?_
 refine RL.finG ?_
 refine GL.seq ?_
 refine GL.region ?_
 refine RL.mv rfl rfl rfl ?_
 refine RL.mv rfl rfl rfl ?_
 obtain ⟨y5, e6, hm⟩ := bind_some hm
 refine RL.callC (v := .int .i64 y5) (vs := [.int .i64 x0, .int .i64 x1]) Try_fit9 rfl rfl rfl rfl (fun U w hU hW hL => ref_Rest_c U w hU x0 x1 _ e6) ?_
 refine RL.asg rfl rfl rfl ?_
 refine RL.finG ?_
 have hm := Option.some.inj hm
 subst hm
 exact GL.ret (Gx.ret (v := .int .i64 y5) (res1 rfl rfl) (fun a w st => st.toPostC rfl))

set_option maxHeartbeats 4000000 in
theorem tree_Check_c (S : Hp) (w : World) (hS : S.sub w) (x0 : Int) (v1 : Value) (x1 : (List (Int × ((List Int) × (List Int))))) (k1 : ((TR.sl (TR.pair TR.int (TR.pair (TR.sl TR.int) (TR.sl TR.int))))).vrep S v1 x1) (res : Int) (hm : tree_Check_m x0 x1 = some res) : Calls Try.prog 10 #[.int .i64 x0, v1] w (PostV w (.int .i64 res)) := by
 refine calls_enter 103 Try.func10 Try.ntmps10 rfl S false [(0, .int .i64 x0), (1, v1)] [imm (TR.sl (TR.pair TR.int (TR.pair (TR.sl TR.int) (TR.sl TR.int)))) v1 x1] rfl ⟨rfl, ⟨rfl, trivial⟩⟩ hS ⟨k1, trivial⟩ ?_
 unfold tree_Check_m at hm
 refine GL.seq ?_
 refine GL.region ?_
 refine RL.asg rfl rfl rfl ?_
 refine RL.finG ?_
 refine GL.seq ?_
 refine GL.seq ?_
 obtain ⟨y6, K7, h8, h9, h10, h11, h12⟩ := bindR_K hm
 refine GL.join (ι := Bool) (fun (p : Bool) => [(0, .int .i64 x0), (1, v1), (16, .bool p)]) (fun (p : Bool) => [imm (TR.sl (TR.pair TR.int (TR.pair (TR.sl TR.int) (TR.sl TR.int)))) v1 x1]) (fun (p : Bool) => K7 (.nx p)) ?_ ?_
 ·skip
  refine GL.region ?_
  refine RL.mv rfl rfl rfl ?_
  refine RL.binI (v := .bool (decide (x0 < (1 : Int)))) rfl rfl rfl rfl rfl ?_
  refine RL.mv rfl rfl rfl ?_
  refine RL.split (t := 13) rfl (fun b13 => ?_) (fun b13 => ?_)
  ·replace h8 := ite_t b13 h8
   refine RL.skip rfl rfl ?_
   refine RL.skip rfl rfl ?_
   refine RL.pickT rfl rfl rfl rfl ?_
   refine RL.fin ?_
   cases h8
   exact fun a w st => mid_intro true h9 (St.cut [0] ⟨rfl, rfl, rfl, trivial⟩ (by decide) rfl st)
  replace h8 := ite_f b13 h8
  refine RL.mv rfl rfl rfl ?_
  refine RL.binI (v := .bool (decide (x0 > (6 : Int)))) rfl rfl rfl rfl rfl ?_
  refine RL.pickF rfl rfl rfl rfl ?_
  refine RL.fin ?_
  cases h8
  exact fun a w st => mid_intro (decide (x0 > (6 : Int))) h9 (St.cut [0] ⟨rfl, rfl, rfl, trivial⟩ (by decide) rfl st)
 rintro x5 h14
 have h15 := h10 _ h14
 try dsimp only at h15
 refine GL.weak (env' := [(0, .int .i64 x0), (1, v1), (16, .bool x5)]) (L' := [imm (TR.sl (TR.pair TR.int (TR.pair (TR.sl TR.int) (TR.sl TR.int)))) v1 x1]) (fun _ _ st => st) ?_
 refine GL.cond rfl (fun b16 => ?_) (fun b16 => ?_)
 ·replace h15 := ite_t b16 h15
  refine GL.seq ?_
  refine GL.region ?_
  refine RL.asg rfl rfl rfl ?_
  refine RL.finG ?_
  have h15 := Option.some.inj h15
  subst h15
  exact GL.ret (Gx.ret (v := .int .i64 (1 : Int)) (res1 rfl rfl) (fun a w st => st.toPostV))
 replace h15 := ite_f b16 h15
 refine GL.skip ?_
 refine GL.seq ?_
 refine GL.seq ?_
 obtain ⟨y20, K21, h22, h23, h24, h25, h26⟩ := bindR_K h15
 refine GL.join (ι := Bool) (fun (p : Bool) => [(0, .int .i64 x0), (1, v1), (24, .bool p)]) (fun (p : Bool) => [imm (TR.sl (TR.pair TR.int (TR.pair (TR.sl TR.int) (TR.sl TR.int)))) v1 x1]) (fun (p : Bool) => K21 (.nx p)) ?_ ?_
 ·skip
  refine GL.region ?_
  refine RL.mv rfl rfl rfl ?_
  refine RL.lenS 0 Try.underlying24 rfl rfl rfl rfl SlOf.imm ?_
  refine RL.binI (v := .bool (decide (((x1).length : Int) < (1 : Int)))) rfl rfl rfl rfl rfl ?_
  refine RL.mv rfl rfl rfl ?_
  refine RL.split (t := 20) rfl (fun b27 => ?_) (fun b27 => ?_)
  ·replace h22 := ite_t b27 h22
   refine RL.skip rfl rfl ?_
   refine RL.skip rfl rfl ?_
   refine RL.skip rfl rfl ?_
   refine RL.pickT rfl rfl rfl rfl ?_
   refine RL.fin ?_
   cases h22
   exact fun a w st => mid_intro true h23 (St.cut [0] ⟨rfl, rfl, rfl, trivial⟩ (by decide) rfl st)
  replace h22 := ite_f b27 h22
  refine RL.mv rfl rfl rfl ?_
  refine RL.lenS 0 Try.underlying24 rfl rfl rfl rfl SlOf.imm ?_
  refine RL.binI (v := .bool (decide (((x1).length : Int) > (30 : Int)))) rfl rfl rfl rfl rfl ?_
  refine RL.pickF rfl rfl rfl rfl ?_
  refine RL.fin ?_
  cases h22
  exact fun a w st => mid_intro (decide (((x1).length : Int) > (30 : Int))) h23 (St.cut [0] ⟨rfl, rfl, rfl, trivial⟩ (by decide) rfl st)
 rintro x19 h28
 have h29 := h24 _ h28
 try dsimp only at h29
 refine GL.weak (env' := [(0, .int .i64 x0), (1, v1), (24, .bool x19)]) (L' := [imm (TR.sl (TR.pair TR.int (TR.pair (TR.sl TR.int) (TR.sl TR.int)))) v1 x1]) (fun _ _ st => st) ?_
 refine GL.cond rfl (fun b30 => ?_) (fun b30 => ?_)
 ·replace h29 := ite_t b30 h29
  refine GL.seq ?_
  refine GL.region ?_
  refine RL.asg rfl rfl rfl ?_
  refine RL.finG ?_
  have h29 := Option.some.inj h29
  subst h29
  exact GL.ret (Gx.ret (v := .int .i64 (2 : Int)) (res1 rfl rfl) (fun a w st => st.toPostV))
 replace h29 := ite_f b30 h29
 refine GL.skip ?_
 refine GL.seq ?_
 refine GL.seq ?_
 refine GL.region ?_
 refine RL.mv rfl rfl rfl ?_
 refine RL.lenS 0 Try.underlying24 rfl rfl rfl rfl SlOf.imm ?_
 refine RL.mv rfl rfl rfl ?_
 refine RL.finG ?_
 refine GL.open_ 0 rfl (fun S h => len_imm S h) (fun n216 => ?_)
 obtain ⟨y217, K218, h219, h220, h221, h222, h223⟩ := bindR_K h29
 refine GL.join (ι := Unit) (fun (p : Unit) => []) (fun (p : Unit) => []) (fun (p : Unit) => K218 (.nx ())) ?_ ?_
 ·refine GL.block ?_
  refine GL.loop (ι := Nat × (List (Int × ((List Int) × (List Int))))) (fun (p : Nat × (List (Int × ((List Int) × (List Int))))) => [(0, .int .i64 x0), (1, v1), (25, v1), (26, .int .i64 ((x1).length : Int)), (27, .int .i64 (p.1 : Int))]) (fun (p : Nat × (List (Int × ((List Int) × (List Int))))) => [imm (TR.sl (TR.pair TR.int (TR.pair (TR.sl TR.int) (TR.sl TR.int)))) v1 x1]) (fun (p : Nat × (List (Int × ((List Int) × (List Int))))) => p.1 + p.2.length = (x1).length ∧ List.drop p.1 x1 = p.2 ∧ rangeL (tree_Check_b1 x0 x1) p.2 p.1 () = some y217) (fun (p : Nat × (List (Int × ((List Int) × (List Int))))) => p.2.length) (0, x1) ⟨by simp, by simp, h219⟩ (fun a w st => St.cut [0] ⟨rfl, rfl, rfl, rfl, rfl, trivial⟩ (by decide) rfl st) ?_
  rintro ⟨i224, r225⟩ ⟨h230, h231, h229⟩
  try dsimp only at h230 h231 h229
  refine GL.weak (env' := [(0, .int .i64 x0), (1, v1), (25, v1), (26, .int .i64 ((x1).length : Int)), (27, .int .i64 (i224 : Int))]) (L' := [imm (TR.sl (TR.pair TR.int (TR.pair (TR.sl TR.int) (TR.sl TR.int)))) v1 x1]) (fun _ _ st => st) ?_
  refine GL.seq ?_
  refine GL.region ?_
  refine RL.binI (v := .bool (decide ((i224 : Int) < ((x1).length : Int)))) rfl rfl rfl rfl rfl ?_
  refine RL.finG ?_
  refine GL.seq ?_
  refine GL.cond rfl (fun b232 => ?_) (fun b232 => ?_)
  ·have h233 : i224 < (x1).length := by have := of_decide_eq_true b232; omega
   obtain ⟨y234, r236, hr, e235, h237⟩ := drop_cons h231 rfl h233
   subst hr
   obtain ⟨z226, h227, h228⟩ := rangeL_some h229
   unfold tree_Check_b1 at h227
   try dsimp only at h227
   refine GL.skip ?_
   refine GL.seq ?_
   refine GL.block ?_
   refine GL.seq ?_
   refine GL.region ?_
   refine RL.mv rfl rfl rfl ?_
   refine RL.idxS (sz := 3) 0 Try.underlying24 Try_ln26 rfl rfl rfl rfl rfl SlOf.imm (by omega) (by omega) ?_
   refine RL.ldS (i := i224) (r := (TR.pair TR.int (TR.pair (TR.sl TR.int) (TR.sl TR.int)))) (e' := y234) 0 Try_ln26 rfl rfl rfl rfl SlOf.imm e235 Part.self ?_
   intro v240
   refine RL.alloc (t := (TR.pair TR.int (TR.pair (TR.sl TR.int) (TR.sl TR.int)))) (z := ((0 : Int), ([] : (List Int)), ([] : (List Int)))) Try_lo26 (fun S => ⟨[.int .i64 0], _, rfl, rfl, ⟨[.slice none 0 0], _, rfl, ⟨_, [], rfl, ⟨none, 0, rfl, Nat.le_refl _, Nat.zero_le _, Or.inl ⟨rfl, rfl⟩⟩, rfl⟩, ⟨_, [], rfl, ⟨none, 0, rfl, Nat.le_refl _, Nat.zero_le _, Or.inl ⟨rfl, rfl⟩⟩, rfl⟩⟩⟩) rfl rfl rfl ?_
   intro v241
   refine RL.reL (L' := [imm (TR.sl (TR.pair TR.int (TR.pair (TR.sl TR.int) (TR.sl TR.int)))) v1 x1, imm (TR.pair TR.int (TR.pair (TR.sl TR.int) (TR.sl TR.int))) v240 y234, obox 26 (TR.pair TR.int (TR.pair (TR.sl TR.int) (TR.sl TR.int))) v241 ((0 : Int), ([] : (List Int)), ([] : (List Int)))]) rfl ?_
   refine RL.asg rfl rfl rfl ?_
   refine RL.stP (off := 0) (e' := y234) (d1 := y234) (r := (TR.pair TR.int (TR.pair (TR.sl TR.int) (TR.sl TR.int)))) 2 Try_ln26 rfl rfl (Or.inr ⟨rfl, rfl⟩) rfl (VR.item 1 rfl) rfl Upd.self ?_
   refine RL.finG ?_
   refine GL.seq ?_
   refine GL.seq ?_
   obtain ⟨y245, K246, h247, h248, h249, h250, h251⟩ := bindF_K h227
   refine GL.join (ι := Bool) (fun (p : Bool) => [(0, .int .i64 x0), (1, v1), (5, .int .i64 (i224 : Int)), (6, v241), (25, v1), (26, .int .i64 ((x1).length : Int)), (27, .int .i64 (i224 : Int)), (40, .bool p)]) (fun (p : Bool) => [imm (TR.sl (TR.pair TR.int (TR.pair (TR.sl TR.int) (TR.sl TR.int)))) v1 x1, obox 26 (TR.pair TR.int (TR.pair (TR.sl TR.int) (TR.sl TR.int))) v241 y234]) (fun (p : Bool) => K246 (.nx p)) ?_ ?_
   ·skip
    refine GL.region ?_
    refine RL.fadr (off := 0) (fo := 0) 2 Try_fld26_0 rfl rfl rfl PtOf.obox (Or.inr ⟨rfl, rfl⟩) ?_
    refine RL.ldPx (off := (0 + 0)) (e' := y234.1) 2 Ex.ik Try_ln3 rfl rfl (Or.inl rfl) rfl PtOf.obox (Part.fst Part.self) ?_
    refine RL.binI (v := .bool (decide (y234.1 < (-1 : Int)))) rfl rfl rfl rfl rfl ?_
    refine RL.mv rfl rfl rfl ?_
    refine RL.split (t := 35) rfl (fun b252 => ?_) (fun b252 => ?_)
    ·replace h247 := ite_t b252 h247
     refine RL.skip rfl rfl ?_
     refine RL.skip rfl rfl ?_
     refine RL.skip rfl rfl ?_
     refine RL.skip rfl rfl ?_
     refine RL.pickT rfl rfl rfl rfl ?_
     refine RL.fin ?_
     cases h247
     exact fun a w st => mid_intro true h248 (St.cut [0, 2] ⟨rfl, rfl, rfl, rfl, rfl, rfl, rfl, rfl, trivial⟩ (by decide) rfl st)
    replace h247 := ite_f b252 h247
    refine RL.fadr (off := 0) (fo := 0) 2 Try_fld26_0 rfl rfl rfl PtOf.obox (Or.inr ⟨rfl, rfl⟩) ?_
    refine RL.ldPx (off := (0 + 0)) (e' := y234.1) 2 Ex.ik Try_ln3 rfl rfl (Or.inl rfl) rfl PtOf.obox (Part.fst Part.self) ?_
    refine RL.mv rfl rfl rfl ?_
    refine RL.binI (v := .bool (decide (y234.1 ≥ x0))) rfl rfl rfl rfl rfl ?_
    refine RL.pickF rfl rfl rfl rfl ?_
    refine RL.fin ?_
    cases h247
    exact fun a w st => mid_intro (decide (y234.1 ≥ x0)) h248 (St.cut [0, 2] ⟨rfl, rfl, rfl, rfl, rfl, rfl, rfl, rfl, trivial⟩ (by decide) rfl st)
   rintro x244 h253
   have h254 := h249 _ h253
   try dsimp only at h254
   refine GL.weak (env' := [(0, .int .i64 x0), (1, v1), (5, .int .i64 (i224 : Int)), (6, v241), (25, v1), (26, .int .i64 ((x1).length : Int)), (27, .int .i64 (i224 : Int)), (40, .bool x244)]) (L' := [imm (TR.sl (TR.pair TR.int (TR.pair (TR.sl TR.int) (TR.sl TR.int)))) v1 x1, obox 26 (TR.pair TR.int (TR.pair (TR.sl TR.int) (TR.sl TR.int))) v241 y234]) (fun _ _ st => st) ?_
   refine GL.cond rfl (fun b255 => ?_) (fun b255 => ?_)
   ·replace h254 := ite_t b255 h254
    refine GL.seq ?_
    refine GL.region ?_
    refine RL.asg rfl rfl rfl ?_
    refine RL.finG ?_
    cases h254
    replace h228 : some (Fl.rt _) = some y217 := h228
    cases h228
    have hh := h222 _ h220
    subst hh
    exact GL.ret (Gx.ret (v := .int .i64 (1 : Int)) (res1 rfl rfl) (fun a w st => st.toPostV))
   replace h254 := ite_f b255 h254
   refine GL.skip ?_
   refine GL.seq ?_
   refine GL.seq ?_
   refine GL.region ?_
   refine RL.fadr (off := 0) (fo := 0) 1 Try_fld26_0 rfl rfl rfl PtOf.obox (Or.inr ⟨rfl, rfl⟩) ?_
   refine RL.ldPx (off := (0 + 0)) (e' := y234.1) 1 Ex.ik Try_ln3 rfl rfl (Or.inl rfl) rfl PtOf.obox (Part.fst Part.self) ?_
   refine RL.binI (v := .bool (decide (y234.1 < (0 : Int)))) rfl rfl rfl rfl rfl ?_
   refine RL.finG ?_
   refine GL.cond rfl (fun b256 => ?_) (fun b256 => ?_)
   ·replace h254 := ite_t b256 h254
    refine GL.seq ?_
    refine GL.seq ?_
    obtain ⟨y264, K265, h266, h267, h268, h269, h270⟩ := bindF_K h254
    refine GL.join (ι := Bool) (fun (p : Bool) => [(0, .int .i64 x0), (1, v1), (6, v241), (25, v1), (26, .int .i64 ((x1).length : Int)), (27, .int .i64 (i224 : Int)), (54, .bool p)]) (fun (p : Bool) => [imm (TR.sl (TR.pair TR.int (TR.pair (TR.sl TR.int) (TR.sl TR.int)))) v1 x1, obox 26 (TR.pair TR.int (TR.pair (TR.sl TR.int) (TR.sl TR.int))) v241 y234]) (fun (p : Bool) => K265 (.nx p)) ?_ ?_
    ·skip
     refine GL.region ?_
     refine RL.fadr (off := 0) (fo := 1) 1 Try_fld26_1 rfl rfl rfl PtOf.obox (Or.inr ⟨rfl, rfl⟩) ?_
     refine RL.ldP (off := (0 + 1)) (r := (TR.sl TR.int)) (e' := y234.2.1) 1 Try_ln22 rfl rfl (Or.inl rfl) rfl PtOf.obox (Part.snd (Part.fst Part.self)) ?_
     intro v271
     refine RL.lenS 2 Try.underlying22 rfl rfl rfl rfl SlOf.imm ?_
     refine RL.binI (v := .bool (decide (((y234.2.1).length : Int) > (0 : Int)))) rfl rfl rfl rfl rfl ?_
     refine RL.mv rfl rfl rfl ?_
     refine RL.split (t := 48) rfl (fun b272 => ?_) (fun b272 => ?_)
     ·replace h266 := ite_t b272 h266
      refine RL.skip rfl rfl ?_
      refine RL.skip rfl rfl ?_
      refine RL.skip rfl rfl ?_
      refine RL.skip rfl rfl ?_
      refine RL.skip rfl rfl ?_
      refine RL.pickT rfl rfl rfl rfl ?_
      refine RL.fin ?_
      cases h266
      exact fun a w st => mid_intro true h267 (St.cut [0, 1] ⟨rfl, rfl, rfl, rfl, rfl, rfl, rfl, trivial⟩ (by decide) rfl st)
     replace h266 := ite_f b272 h266
     refine RL.fadr (off := 0) (fo := 2) 1 Try_fld26_2 rfl rfl rfl PtOf.obox (Or.inr ⟨rfl, rfl⟩) ?_
     refine RL.ldP (off := (0 + 2)) (r := (TR.sl TR.int)) (e' := y234.2.2) 1 Try_ln22 rfl rfl (Or.inl rfl) rfl PtOf.obox (Part.snd (Part.snd Part.self)) ?_
     intro v273
     refine RL.reL (L' := [imm (TR.sl (TR.pair TR.int (TR.pair (TR.sl TR.int) (TR.sl TR.int)))) v1 x1, obox 26 (TR.pair TR.int (TR.pair (TR.sl TR.int) (TR.sl TR.int))) v241 y234, imm (TR.sl TR.int) v271 y234.2.1, imm (TR.sl TR.int) v273 y234.2.2]) rfl ?_
     refine RL.lenS 3 Try.underlying22 rfl rfl rfl rfl SlOf.imm ?_
     refine RL.mv rfl rfl rfl ?_
     refine RL.binI (v := .bool (((y234.2.2).length : Int) != x0)) rfl rfl rfl rfl rfl ?_
     refine RL.pickF rfl rfl rfl rfl ?_
     refine RL.fin ?_
     cases h266
     exact fun a w st => mid_intro (((y234.2.2).length : Int) != x0) h267 (St.cut [0, 1] ⟨rfl, rfl, rfl, rfl, rfl, rfl, rfl, trivial⟩ (by decide) rfl st)
    rintro x263 h274
    have h275 := h268 _ h274
    try dsimp only at h275
    refine GL.weak (env' := [(0, .int .i64 x0), (1, v1), (6, v241), (25, v1), (26, .int .i64 ((x1).length : Int)), (27, .int .i64 (i224 : Int)), (54, .bool x263)]) (L' := [imm (TR.sl (TR.pair TR.int (TR.pair (TR.sl TR.int) (TR.sl TR.int)))) v1 x1, obox 26 (TR.pair TR.int (TR.pair (TR.sl TR.int) (TR.sl TR.int))) v241 y234]) (fun _ _ st => st) ?_
    refine GL.cond rfl (fun b276 => ?_) (fun b276 => ?_)
    ·replace h275 := ite_t b276 h275
     refine GL.seq ?_
     refine GL.region ?_
     refine RL.asg rfl rfl rfl ?_
     refine RL.finG ?_
     cases h275
     replace h228 : some (Fl.rt _) = some y217 := h228
     cases h228
     have hh := h222 _ h220
     subst hh
     exact GL.ret (Gx.ret (v := .int .i64 (3 : Int)) (res1 rfl rfl) (fun a w st => st.toPostV))
    replace h275 := ite_f b276 h275
    refine GL.skip ?_
    refine GL.seq ?_
    refine GL.seq ?_
    refine GL.region ?_
    refine RL.fadr (off := 0) (fo := 2) 1 Try_fld26_2 rfl rfl rfl PtOf.obox (Or.inr ⟨rfl, rfl⟩) ?_
    refine RL.ldP (off := (0 + 2)) (r := (TR.sl TR.int)) (e' := y234.2.2) 1 Try_ln22 rfl rfl (Or.inl rfl) rfl PtOf.obox (Part.snd (Part.snd Part.self)) ?_
    intro v278
    refine RL.lenS 2 Try.underlying22 rfl rfl rfl rfl SlOf.imm ?_
    refine RL.mv rfl rfl rfl ?_
    refine RL.finG ?_
    refine GL.open_ 2 rfl (fun S h => len_imm S h) (fun n297 => ?_)
    obtain ⟨y298, K299, h300, h301, h302, h303, h304⟩ := bindF_K h275
    refine GL.join (ι := Unit) (fun (p : Unit) => [(0, .int .i64 x0), (1, v1), (25, v1), (26, .int .i64 ((x1).length : Int)), (27, .int .i64 (i224 : Int))]) (fun (p : Unit) => [imm (TR.sl (TR.pair TR.int (TR.pair (TR.sl TR.int) (TR.sl TR.int)))) v1 x1]) (fun (p : Unit) => K299 (.nx ())) ?_ ?_
    ·refine GL.block ?_
     refine GL.loop (ι := Nat × (List Int)) (fun (p : Nat × (List Int)) => [(0, .int .i64 x0), (1, v1), (25, v1), (26, .int .i64 ((x1).length : Int)), (27, .int .i64 (i224 : Int)), (56, v278), (57, .int .i64 ((y234.2.2).length : Int)), (58, .int .i64 (p.1 : Int))]) (fun (p : Nat × (List Int)) => [imm (TR.sl (TR.pair TR.int (TR.pair (TR.sl TR.int) (TR.sl TR.int)))) v1 x1, imm (TR.sl TR.int) v278 y234.2.2]) (fun (p : Nat × (List Int)) => p.1 + p.2.length = (y234.2.2).length ∧ List.drop p.1 y234.2.2 = p.2 ∧ rangeL tree_Check_b2 p.2 p.1 () = some y298) (fun (p : Nat × (List Int)) => p.2.length) (0, y234.2.2) ⟨by simp, by simp, h300⟩ (fun a w st => St.cut [0, 2] ⟨rfl, rfl, rfl, rfl, rfl, rfl, rfl, rfl, trivial⟩ (by decide) rfl st) ?_
     rintro ⟨i305, r306⟩ ⟨h311, h312, h310⟩
     try dsimp only at h311 h312 h310
     refine GL.weak (env' := [(0, .int .i64 x0), (1, v1), (25, v1), (26, .int .i64 ((x1).length : Int)), (27, .int .i64 (i224 : Int)), (56, v278), (57, .int .i64 ((y234.2.2).length : Int)), (58, .int .i64 (i305 : Int))]) (L' := [imm (TR.sl (TR.pair TR.int (TR.pair (TR.sl TR.int) (TR.sl TR.int)))) v1 x1, imm (TR.sl TR.int) v278 y234.2.2]) (fun _ _ st => st) ?_
     refine GL.seq ?_
     refine GL.region ?_
     refine RL.binI (v := .bool (decide ((i305 : Int) < ((y234.2.2).length : Int)))) rfl rfl rfl rfl rfl ?_
     refine RL.finG ?_
     refine GL.seq ?_
     refine GL.cond rfl (fun b313 => ?_) (fun b313 => ?_)
     ·have h314 : i305 < (y234.2.2).length := by have := of_decide_eq_true b313; omega
      obtain ⟨y315, r317, hr, e316, h318⟩ := drop_cons h312 rfl h314
      subst hr
      obtain ⟨z307, h308, h309⟩ := rangeL_some h310
      unfold tree_Check_b2 at h308
      try dsimp only at h308
      refine GL.skip ?_
      refine GL.seq ?_
      refine GL.block ?_
      refine GL.seq ?_
      refine GL.region ?_
      refine RL.idxS (sz := 1) 1 Try.underlying22 Try_ln3 rfl rfl rfl rfl rfl SlOf.imm (by omega) (by omega) ?_
      refine RL.ldSx (i := i305) (e' := y315) 1 Ex.ik Try_ln3 rfl rfl rfl rfl SlOf.imm e316 Part.self ?_
      refine RL.asg rfl rfl rfl ?_
      refine RL.finG ?_
      refine GL.seq ?_
      obtain ⟨y322, K323, h324, h325, h326, h327, h328⟩ := bindF_K h308
      refine GL.join (ι := Bool) (fun (p : Bool) => [(0, .int .i64 x0), (1, v1), (25, v1), (26, .int .i64 ((x1).length : Int)), (27, .int .i64 (i224 : Int)), (56, v278), (57, .int .i64 ((y234.2.2).length : Int)), (58, .int .i64 (i305 : Int)), (67, .bool p)]) (fun (p : Bool) => [imm (TR.sl (TR.pair TR.int (TR.pair (TR.sl TR.int) (TR.sl TR.int)))) v1 x1, imm (TR.sl TR.int) v278 y234.2.2]) (fun (p : Bool) => K323 (.nx p)) ?_ ?_
      ·skip
       refine GL.region ?_
       refine RL.mv rfl rfl rfl ?_
       refine RL.binI (v := .bool (decide (y315 < (-1000 : Int)))) rfl rfl rfl rfl rfl ?_
       refine RL.mv rfl rfl rfl ?_
       refine RL.split (t := 64) rfl (fun b329 => ?_) (fun b329 => ?_)
       ·replace h324 := ite_t b329 h324
        refine RL.skip rfl rfl ?_
        refine RL.skip rfl rfl ?_
        refine RL.pickT rfl rfl rfl rfl ?_
        refine RL.fin ?_
        cases h324
        exact fun a w st => mid_intro true h325 (St.cut [0, 1] ⟨rfl, rfl, rfl, rfl, rfl, rfl, rfl, rfl, rfl, trivial⟩ (by decide) rfl st)
       replace h324 := ite_f b329 h324
       refine RL.mv rfl rfl rfl ?_
       refine RL.binI (v := .bool (decide (y315 > (1000 : Int)))) rfl rfl rfl rfl rfl ?_
       refine RL.pickF rfl rfl rfl rfl ?_
       refine RL.fin ?_
       cases h324
       exact fun a w st => mid_intro (decide (y315 > (1000 : Int))) h325 (St.cut [0, 1] ⟨rfl, rfl, rfl, rfl, rfl, rfl, rfl, rfl, rfl, trivial⟩ (by decide) rfl st)
      rintro x321 h330
      have h331 := h326 _ h330
      try dsimp only at h331
      refine GL.weak (env' := [(0, .int .i64 x0), (1, v1), (25, v1), (26, .int .i64 ((x1).length : Int)), (27, .int .i64 (i224 : Int)), (56, v278), (57, .int .i64 ((y234.2.2).length : Int)), (58, .int .i64 (i305 : Int)), (67, .bool x321)]) (L' := [imm (TR.sl (TR.pair TR.int (TR.pair (TR.sl TR.int) (TR.sl TR.int)))) v1 x1, imm (TR.sl TR.int) v278 y234.2.2]) (fun _ _ st => st) ?_
      refine GL.cond rfl (fun b332 => ?_) (fun b332 => ?_)
      ·replace h331 := ite_t b332 h331
       refine GL.seq ?_
       refine GL.region ?_
       refine RL.asg rfl rfl rfl ?_
       refine RL.finG ?_
       cases h331
       replace h309 : some (Fl.rt _) = some y298 := h309
       cases h309
       have hh := h303 _ h301
       subst hh
       replace h228 : some (Fl.rt _) = some y217 := h228
       cases h228
       have hh := h222 _ h220
       subst hh
       exact GL.ret (Gx.ret (v := .int .i64 (1 : Int)) (res1 rfl rfl) (fun a w st => st.toPostV))
      replace h331 := ite_f b332 h331
      refine GL.skip ?_
      refine GL.nilB ?_
      refine GL.region ?_
      refine RL.binI (v := .int .i64 ((i305 + 1 : Nat) : Int)) rfl rfl rfl rfl (binI_succ i305 (by omega)) ?_
      refine RL.mv rfl rfl rfl ?_
      refine RL.fin ?_
      cases h331
      exact fun a w st => lop_intro (i305 + 1, r317) ⟨by show i305 + 1 + r317.length = (y234.2.2).length; simp only [List.length_cons] at h311; omega, h318, h309⟩ (by simp) (St.cut [0, 1] ⟨rfl, rfl, rfl, rfl, rfl, rfl, rfl, rfl, trivial⟩ (by decide) rfl st)
     have h314 : ¬ i305 < (y234.2.2).length := by have := of_decide_eq_false b313; omega
     obtain rfl : r306 = [] := by rw [← h312]; exact List.drop_of_length_le (by omega)
     replace h310 : some (Fl.nx _) = some y298 := h310
     cases h310
     exact GL.exit (fun a w st => mid_intro () h301 (St.cut [0] ⟨rfl, rfl, rfl, rfl, rfl, trivial⟩ (by decide) rfl st))
    rintro ⟨⟩ h333
    have h334 := h302 _ h333
    try dsimp only at h334
    refine GL.weak (env' := [(0, .int .i64 x0), (1, v1), (25, v1), (26, .int .i64 ((x1).length : Int)), (27, .int .i64 (i224 : Int))]) (L' := [imm (TR.sl (TR.pair TR.int (TR.pair (TR.sl TR.int) (TR.sl TR.int)))) v1 x1]) (fun _ _ st => st) ?_
    refine GL.exit ?_
    refine Gx.here ?_
    refine GL.region ?_
    refine RL.binI (v := .int .i64 ((i224 + 1 : Nat) : Int)) rfl rfl rfl rfl (binI_succ i224 (by omega)) ?_
    refine RL.mv rfl rfl rfl ?_
    refine RL.fin ?_
    cases h334
    exact fun a w st => lop_intro (i224 + 1, r236) ⟨by show i224 + 1 + r236.length = (x1).length; simp only [List.length_cons] at h230; omega, h237, h228⟩ (by simp) (St.cut [0] ⟨rfl, rfl, rfl, rfl, rfl, trivial⟩ (by decide) rfl st)
   replace h254 := ite_f b256 h254
   refine GL.skip ?_
   refine GL.seq ?_
   refine GL.seq ?_
   obtain ⟨y346, K347, h348, h349, h350, h351, h352⟩ := bindF_K h254
   refine GL.join (ι := Bool) (fun (p : Bool) => [(0, .int .i64 x0), (1, v1), (5, .int .i64 (i224 : Int)), (6, v241), (25, v1), (26, .int .i64 ((x1).length : Int)), (27, .int .i64 (i224 : Int)), (84, .bool p)]) (fun (p : Bool) => [imm (TR.sl (TR.pair TR.int (TR.pair (TR.sl TR.int) (TR.sl TR.int)))) v1 x1, obox 26 (TR.pair TR.int (TR.pair (TR.sl TR.int) (TR.sl TR.int))) v241 y234]) (fun (p : Bool) => K347 (.nx p)) ?_ ?_
   ·skip
    refine GL.region ?_
    refine RL.fadr (off := 0) (fo := 1) 1 Try_fld26_1 rfl rfl rfl PtOf.obox (Or.inr ⟨rfl, rfl⟩) ?_
    refine RL.ldP (off := (0 + 1)) (r := (TR.sl TR.int)) (e' := y234.2.1) 1 Try_ln22 rfl rfl (Or.inl rfl) rfl PtOf.obox (Part.snd (Part.fst Part.self)) ?_
    intro v353
    refine RL.lenS 2 Try.underlying22 rfl rfl rfl rfl SlOf.imm ?_
    refine RL.binI (v := .bool (decide (((y234.2.1).length : Int) < (1 : Int)))) rfl rfl rfl rfl rfl ?_
    refine RL.mv rfl rfl rfl ?_
    refine RL.split (t := 73) rfl (fun b354 => ?_) (fun b354 => ?_)
    ·replace h348 := ite_t b354 h348
     refine RL.skip rfl rfl ?_
     refine RL.skip rfl rfl ?_
     refine RL.skip rfl rfl ?_
     refine RL.skip rfl rfl ?_
     refine RL.pickT rfl rfl rfl rfl ?_
     refine RL.mv rfl rfl rfl ?_
     refine RL.skip rfl rfl ?_
     refine RL.skip rfl rfl ?_
     refine RL.skip rfl rfl ?_
     refine RL.skip rfl rfl ?_
     refine RL.pickT rfl rfl rfl rfl ?_
     refine RL.fin ?_
     cases h348
     exact fun a w st => mid_intro true h349 (St.cut [0, 1] ⟨rfl, rfl, rfl, rfl, rfl, rfl, rfl, rfl, trivial⟩ (by decide) rfl st)
    replace h348 := ite_f b354 h348
    refine RL.fadr (off := 0) (fo := 1) 1 Try_fld26_1 rfl rfl rfl PtOf.obox (Or.inr ⟨rfl, rfl⟩) ?_
    refine RL.ldP (off := (0 + 1)) (r := (TR.sl TR.int)) (e' := y234.2.1) 1 Try_ln22 rfl rfl (Or.inl rfl) rfl PtOf.obox (Part.snd (Part.fst Part.self)) ?_
    intro v355
    refine RL.reL (L' := [imm (TR.sl (TR.pair TR.int (TR.pair (TR.sl TR.int) (TR.sl TR.int)))) v1 x1, obox 26 (TR.pair TR.int (TR.pair (TR.sl TR.int) (TR.sl TR.int))) v241 y234, imm (TR.sl TR.int) v353 y234.2.1, imm (TR.sl TR.int) v355 y234.2.1]) rfl ?_
    refine RL.lenS 3 Try.underlying22 rfl rfl rfl rfl SlOf.imm ?_
    refine RL.binI (v := .bool (decide (((y234.2.1).length : Int) > (6 : Int)))) rfl rfl rfl rfl rfl ?_
    refine RL.pickF rfl rfl rfl rfl ?_
    refine RL.mv rfl rfl rfl ?_
    refine RL.split (t := 79) rfl (fun b356 => ?_) (fun b356 => ?_)
    ·replace h348 := ite_t b356 h348
     refine RL.skip rfl rfl ?_
     refine RL.skip rfl rfl ?_
     refine RL.skip rfl rfl ?_
     refine RL.skip rfl rfl ?_
     refine RL.pickT rfl rfl rfl rfl ?_
     refine RL.fin ?_
     cases h348
     exact fun a w st => mid_intro true h349 (St.cut [0, 1] ⟨rfl, rfl, rfl, rfl, rfl, rfl, rfl, rfl, trivial⟩ (by decide) rfl st)
    replace h348 := ite_f b356 h348
    refine RL.fadr (off := 0) (fo := 2) 1 Try_fld26_2 rfl rfl rfl PtOf.obox (Or.inr ⟨rfl, rfl⟩) ?_
    refine RL.ldP (off := (0 + 2)) (r := (TR.sl TR.int)) (e' := y234.2.2) 1 Try_ln22 rfl rfl (Or.inl rfl) rfl PtOf.obox (Part.snd (Part.snd Part.self)) ?_
    intro v357
    refine RL.lenS 4 Try.underlying22 rfl rfl rfl rfl SlOf.imm ?_
    refine RL.binI (v := .bool (decide (((y234.2.2).length : Int) > (0 : Int)))) rfl rfl rfl rfl rfl ?_
    refine RL.pickF rfl rfl rfl rfl ?_
    refine RL.fin ?_
    cases h348
    exact fun a w st => mid_intro (decide (((y234.2.2).length : Int) > (0 : Int))) h349 (St.cut [0, 1] ⟨rfl, rfl, rfl, rfl, rfl, rfl, rfl, rfl, trivial⟩ (by decide) rfl st)
   rintro x345 h358
   have h359 := h350 _ h358
   try dsimp only at h359
   refine GL.weak (env' := [(0, .int .i64 x0), (1, v1), (5, .int .i64 (i224 : Int)), (6, v241), (25, v1), (26, .int .i64 ((x1).length : Int)), (27, .int .i64 (i224 : Int)), (84, .bool x345)]) (L' := [imm (TR.sl (TR.pair TR.int (TR.pair (TR.sl TR.int) (TR.sl TR.int)))) v1 x1, obox 26 (TR.pair TR.int (TR.pair (TR.sl TR.int) (TR.sl TR.int))) v241 y234]) (fun _ _ st => st) ?_
   refine GL.cond rfl (fun b360 => ?_) (fun b360 => ?_)
   ·replace h359 := ite_t b360 h359
    refine GL.seq ?_
    refine GL.region ?_
    refine RL.asg rfl rfl rfl ?_
    refine RL.finG ?_
    cases h359
    replace h228 : some (Fl.rt _) = some y217 := h228
    cases h228
    have hh := h222 _ h220
    subst hh
    exact GL.ret (Gx.ret (v := .int .i64 (3 : Int)) (res1 rfl rfl) (fun a w st => st.toPostV))
   replace h359 := ite_f b360 h359
   refine GL.skip ?_
   refine GL.seq ?_
   refine GL.region ?_
   refine RL.fadr (off := 0) (fo := 1) 1 Try_fld26_1 rfl rfl rfl PtOf.obox (Or.inr ⟨rfl, rfl⟩) ?_
   refine RL.ldP (off := (0 + 1)) (r := (TR.sl TR.int)) (e' := y234.2.1) 1 Try_ln22 rfl rfl (Or.inl rfl) rfl PtOf.obox (Part.snd (Part.fst Part.self)) ?_
   intro v362
   refine RL.lenS 2 Try.underlying22 rfl rfl rfl rfl SlOf.imm ?_
   refine RL.mv rfl rfl rfl ?_
   refine RL.finG ?_
   refine GL.open_ 2 rfl (fun S h => len_imm S h) (fun n381 => ?_)
   obtain ⟨y382, K383, h384, h385, h386, h387, h388⟩ := bindF_K h359
   refine GL.join (ι := Unit) (fun (p : Unit) => [(0, .int .i64 x0), (1, v1), (25, v1), (26, .int .i64 ((x1).length : Int)), (27, .int .i64 (i224 : Int))]) (fun (p : Unit) => [imm (TR.sl (TR.pair TR.int (TR.pair (TR.sl TR.int) (TR.sl TR.int)))) v1 x1]) (fun (p : Unit) => K383 (.nx ())) ?_ ?_
   ·refine GL.block ?_
    refine GL.loop (ι := Nat × (List Int)) (fun (p : Nat × (List Int)) => [(0, .int .i64 x0), (1, v1), (5, .int .i64 (i224 : Int)), (25, v1), (26, .int .i64 ((x1).length : Int)), (27, .int .i64 (i224 : Int)), (86, v362), (87, .int .i64 ((y234.2.1).length : Int)), (88, .int .i64 (p.1 : Int))]) (fun (p : Nat × (List Int)) => [imm (TR.sl (TR.pair TR.int (TR.pair (TR.sl TR.int) (TR.sl TR.int)))) v1 x1, imm (TR.sl TR.int) v362 y234.2.1]) (fun (p : Nat × (List Int)) => p.1 + p.2.length = (y234.2.1).length ∧ List.drop p.1 y234.2.1 = p.2 ∧ rangeL (tree_Check_b3 i224 x1) p.2 p.1 () = some y382) (fun (p : Nat × (List Int)) => p.2.length) (0, y234.2.1) ⟨by simp, by simp, h384⟩ (fun a w st => St.cut [0, 2] ⟨rfl, rfl, rfl, rfl, rfl, rfl, rfl, rfl, rfl, trivial⟩ (by decide) rfl st) ?_
    rintro ⟨i389, r390⟩ ⟨h395, h396, h394⟩
    try dsimp only at h395 h396 h394
    refine GL.weak (env' := [(0, .int .i64 x0), (1, v1), (5, .int .i64 (i224 : Int)), (25, v1), (26, .int .i64 ((x1).length : Int)), (27, .int .i64 (i224 : Int)), (86, v362), (87, .int .i64 ((y234.2.1).length : Int)), (88, .int .i64 (i389 : Int))]) (L' := [imm (TR.sl (TR.pair TR.int (TR.pair (TR.sl TR.int) (TR.sl TR.int)))) v1 x1, imm (TR.sl TR.int) v362 y234.2.1]) (fun _ _ st => st) ?_
    refine GL.seq ?_
    refine GL.region ?_
    refine RL.binI (v := .bool (decide ((i389 : Int) < ((y234.2.1).length : Int)))) rfl rfl rfl rfl rfl ?_
    refine RL.finG ?_
    refine GL.seq ?_
    refine GL.cond rfl (fun b397 => ?_) (fun b397 => ?_)
    ·have h398 : i389 < (y234.2.1).length := by have := of_decide_eq_true b397; omega
     obtain ⟨y399, r401, hr, e400, h402⟩ := drop_cons h396 rfl h398
     subst hr
     obtain ⟨z391, h392, h393⟩ := rangeL_some h394
     unfold tree_Check_b3 at h392
     try dsimp only at h392
     refine GL.skip ?_
     refine GL.seq ?_
     refine GL.block ?_
     refine GL.seq ?_
     refine GL.region ?_
     refine RL.idxS (sz := 1) 1 Try.underlying22 Try_ln3 rfl rfl rfl rfl rfl SlOf.imm (by omega) (by omega) ?_
     refine RL.ldSx (i := i389) (e' := y399) 1 Ex.ik Try_ln3 rfl rfl rfl rfl SlOf.imm e400 Part.self ?_
     refine RL.asg rfl rfl rfl ?_
     refine RL.finG ?_
     refine GL.seq ?_
     obtain ⟨y406, K407, h408, h409, h410, h411, h412⟩ := bindF_K h392
     refine GL.join (ι := Bool) (fun (p : Bool) => [(0, .int .i64 x0), (1, v1), (5, .int .i64 (i224 : Int)), (25, v1), (26, .int .i64 ((x1).length : Int)), (27, .int .i64 (i224 : Int)), (86, v362), (87, .int .i64 ((y234.2.1).length : Int)), (88, .int .i64 (i389 : Int)), (100, .bool p)]) (fun (p : Bool) => [imm (TR.sl (TR.pair TR.int (TR.pair (TR.sl TR.int) (TR.sl TR.int)))) v1 x1, imm (TR.sl TR.int) v362 y234.2.1]) (fun (p : Bool) => K407 (.nx p)) ?_ ?_
     ·skip
      refine GL.region ?_
      refine RL.mv rfl rfl rfl ?_
      refine RL.mv rfl rfl rfl ?_
      refine RL.binI (v := .bool (decide (y399 ≤ (i224 : Int)))) rfl rfl rfl rfl rfl ?_
      refine RL.mv rfl rfl rfl ?_
      refine RL.split (t := 95) rfl (fun b413 => ?_) (fun b413 => ?_)
      ·replace h408 := ite_t b413 h408
       refine RL.skip rfl rfl ?_
       refine RL.skip rfl rfl ?_
       refine RL.skip rfl rfl ?_
       refine RL.skip rfl rfl ?_
       refine RL.pickT rfl rfl rfl rfl ?_
       refine RL.fin ?_
       cases h408
       exact fun a w st => mid_intro true h409 (St.cut [0, 1] ⟨rfl, rfl, rfl, rfl, rfl, rfl, rfl, rfl, rfl, rfl, trivial⟩ (by decide) rfl st)
      replace h408 := ite_f b413 h408
      refine RL.mv rfl rfl rfl ?_
      refine RL.mv rfl rfl rfl ?_
      refine RL.lenS 0 Try.underlying24 rfl rfl rfl rfl SlOf.imm ?_
      refine RL.binI (v := .bool (decide (y399 ≥ ((x1).length : Int)))) rfl rfl rfl rfl rfl ?_
      refine RL.pickF rfl rfl rfl rfl ?_
      refine RL.fin ?_
      cases h408
      exact fun a w st => mid_intro (decide (y399 ≥ ((x1).length : Int))) h409 (St.cut [0, 1] ⟨rfl, rfl, rfl, rfl, rfl, rfl, rfl, rfl, rfl, rfl, trivial⟩ (by decide) rfl st)
     rintro x405 h414
     have h415 := h410 _ h414
     try dsimp only at h415
     refine GL.weak (env' := [(0, .int .i64 x0), (1, v1), (5, .int .i64 (i224 : Int)), (25, v1), (26, .int .i64 ((x1).length : Int)), (27, .int .i64 (i224 : Int)), (86, v362), (87, .int .i64 ((y234.2.1).length : Int)), (88, .int .i64 (i389 : Int)), (100, .bool x405)]) (L' := [imm (TR.sl (TR.pair TR.int (TR.pair (TR.sl TR.int) (TR.sl TR.int)))) v1 x1, imm (TR.sl TR.int) v362 y234.2.1]) (fun _ _ st => st) ?_
     refine GL.cond rfl (fun b416 => ?_) (fun b416 => ?_)
     ·replace h415 := ite_t b416 h415
      refine GL.seq ?_
      refine GL.region ?_
      refine RL.asg rfl rfl rfl ?_
      refine RL.finG ?_
      cases h415
      replace h393 : some (Fl.rt _) = some y382 := h393
      cases h393
      have hh := h387 _ h385
      subst hh
      replace h228 : some (Fl.rt _) = some y217 := h228
      cases h228
      have hh := h222 _ h220
      subst hh
      exact GL.ret (Gx.ret (v := .int .i64 (4 : Int)) (res1 rfl rfl) (fun a w st => st.toPostV))
     replace h415 := ite_f b416 h415
     refine GL.skip ?_
     refine GL.nilB ?_
     refine GL.region ?_
     refine RL.binI (v := .int .i64 ((i389 + 1 : Nat) : Int)) rfl rfl rfl rfl (binI_succ i389 (by omega)) ?_
     refine RL.mv rfl rfl rfl ?_
     refine RL.fin ?_
     cases h415
     exact fun a w st => lop_intro (i389 + 1, r401) ⟨by show i389 + 1 + r401.length = (y234.2.1).length; simp only [List.length_cons] at h395; omega, h402, h393⟩ (by simp) (St.cut [0, 1] ⟨rfl, rfl, rfl, rfl, rfl, rfl, rfl, rfl, rfl, trivial⟩ (by decide) rfl st)
    have h398 : ¬ i389 < (y234.2.1).length := by have := of_decide_eq_false b397; omega
    obtain rfl : r390 = [] := by rw [← h396]; exact List.drop_of_length_le (by omega)
    replace h394 : some (Fl.nx _) = some y382 := h394
    cases h394
    exact GL.exit (fun a w st => mid_intro () h385 (St.cut [0] ⟨rfl, rfl, rfl, rfl, rfl, trivial⟩ (by decide) rfl st))
   rintro ⟨⟩ h417
   have h418 := h386 _ h417
   try dsimp only at h418
   refine GL.weak (env' := [(0, .int .i64 x0), (1, v1), (25, v1), (26, .int .i64 ((x1).length : Int)), (27, .int .i64 (i224 : Int))]) (L' := [imm (TR.sl (TR.pair TR.int (TR.pair (TR.sl TR.int) (TR.sl TR.int)))) v1 x1]) (fun _ _ st => st) ?_
   refine GL.nilB ?_
   refine GL.region ?_
   refine RL.binI (v := .int .i64 ((i224 + 1 : Nat) : Int)) rfl rfl rfl rfl (binI_succ i224 (by omega)) ?_
   refine RL.mv rfl rfl rfl ?_
   refine RL.fin ?_
   cases h418
   exact fun a w st => lop_intro (i224 + 1, r236) ⟨by show i224 + 1 + r236.length = (x1).length; simp only [List.length_cons] at h230; omega, h237, h228⟩ (by simp) (St.cut [0] ⟨rfl, rfl, rfl, rfl, rfl, trivial⟩ (by decide) rfl st)
  have h233 : ¬ i224 < (x1).length := by have := of_decide_eq_false b232; omega
  obtain rfl : r225 = [] := by rw [← h231]; exact List.drop_of_length_le (by omega)
  replace h229 : some (Fl.nx _) = some y217 := h229
  cases h229
  exact GL.exit (fun a w st => mid_intro () h220 (St.cut [] trivial (by decide) rfl st))
 rintro ⟨⟩ h419
 have h420 := h221 _ h419
 try dsimp only at h420
 refine GL.weak (env' := []) (L' := []) (fun _ _ st => st) ?_
 refine GL.seq ?_
 refine GL.region ?_
 refine RL.asg rfl rfl rfl ?_
 refine RL.finG ?_
 have h420 := Option.some.inj h420
 subst h420
 exact GL.ret (Gx.ret (v := .int .i64 (0 : Int)) (res1 rfl rfl) (fun a w st => st.toPostV))

set_option maxHeartbeats 4000000 in
theorem tree_Solve_c (S : Hp) (w : World) (hS : S.sub w) (x0 : Int) (v1 : Value) (x1 : (List (Int × ((List Int) × (List Int))))) (k1 : ((TR.sl (TR.pair TR.int (TR.pair (TR.sl TR.int) (TR.sl TR.int))))).vrep S v1 x1) (res : (List Int) × (List (List Int)) × Int) (hm : tree_Solve_m x0 x1 = some res) : Calls Try.prog 5 #[.int .i64 x0, v1] w (Post w S (fun (o : Value × Value) => .tuple #[o.1, o.2, .int .i64 res.2.2]) (fun (o : Value × Value) => [own 3 TR.int o.1 res.1, own 22 (TR.sl TR.int) o.2 res.2.1])) := by
 refine calls_enter 101 Try.func5 Try.ntmps5 rfl S false [(0, .int .i64 x0), (1, v1)] [imm (TR.sl (TR.pair TR.int (TR.pair (TR.sl TR.int) (TR.sl TR.int)))) v1 x1] rfl ⟨rfl, ⟨rfl, trivial⟩⟩ hS ⟨k1, trivial⟩ ?_
 unfold tree_Solve_m at hm
 refine GL.seq ?_
 refine GL.region ?_
 refine RL.asg rfl rfl rfl ?_
 refine RL.asg rfl rfl rfl ?_
 refine RL.asg rfl rfl rfl ?_
 refine RL.finG ?_
 refine GL.seq ?_
 refine GL.seq ?_
 refine GL.region ?_
 refine RL.mv rfl rfl rfl ?_
 refine RL.mv rfl rfl rfl ?_
 obtain ⟨y5, e6, hm⟩ := bind_some hm
 refine RL.callV (v := .int .i64 y5) (vs := [.int .i64 x0, v1]) Try_fit10 rfl (Or.inl rfl) rfl rfl rfl rfl (fun U w hU hW hL => tree_Check_c U w hU x0 _ _ (hL 0 _ _ rfl Seen.imm) _ e6) ?_
 refine RL.asg rfl rfl rfl ?_
 refine RL.finG ?_
 refine GL.seq ?_
 refine GL.region ?_
 refine RL.mv rfl rfl rfl ?_
 refine RL.binI (v := .bool (y5 != (0 : Int))) rfl rfl rfl rfl rfl ?_
 refine RL.finG ?_
 refine GL.cond rfl (fun b7 => ?_) (fun b7 => ?_)
 ·replace hm := ite_t b7 hm
  refine GL.seq ?_
  refine GL.region ?_
  refine RL.mv rfl rfl rfl ?_
  refine RL.asg rfl rfl rfl ?_
  refine RL.asg rfl rfl rfl ?_
  refine RL.asg rfl rfl rfl ?_
  refine RL.finG ?_
  refine GL.weak (fun a w st => st.nilOwn 3 TR.int) ?_
  refine GL.weak (fun a w st => st.nilOwn 22 (TR.sl TR.int)) ?_
  have hm := Option.some.inj hm
  subst hm
  exact GL.ret (Gx.ret (v := .tuple #[Value.slice none 0 0, Value.slice none 0 0, .int .i64 y5]) (res3 rfl rfl rfl rfl) (fun a w st => (st.pick [1, 2] (by decide) rfl).toPost (Value.slice none 0 0, Value.slice none 0 0)))
 replace hm := ite_f b7 hm
 refine GL.skip ?_
 refine GL.seq ?_
 refine GL.region ?_
 refine RL.mv rfl rfl rfl ?_
 refine RL.lenS 0 Try.underlying24 rfl rfl rfl rfl SlOf.imm ?_
 obtain ⟨y11, e12, hm⟩ := bind_some hm
 replace e12 := chk_some e12
 refine RL.mkS (t := TR.int) (z := (0 : Int)) Try.underlying22 Try_lo3 (fun S => rfl) rfl rfl rfl rfl e12.1 e12.2 ?_
 intro v13
 refine RL.asg rfl rfl rfl ?_
 refine RL.finG ?_
 refine GL.seq ?_
 refine GL.region ?_
 refine RL.mv rfl rfl rfl ?_
 refine RL.lenS 0 Try.underlying24 rfl rfl rfl rfl SlOf.imm ?_
 obtain ⟨y17, e18, hm⟩ := bind_some hm
 replace e18 := chk_some e18
 refine RL.mkS (t := (TR.sl TR.int)) (z := ([] : (List Int))) Try.underlying27 Try_lo22 (fun S => ⟨_, [], rfl, ⟨none, 0, rfl, Nat.le_refl _, Nat.zero_le _, Or.inl ⟨rfl, rfl⟩⟩, rfl⟩) rfl rfl rfl rfl e18.1 e18.2 ?_
 intro v19
 refine RL.reL (L' := [imm (TR.sl (TR.pair TR.int (TR.pair (TR.sl TR.int) (TR.sl TR.int)))) v1 x1, own 3 TR.int v13 (List.replicate (((x1).length : Int)).toNat (0 : Int)), own 22 (TR.sl TR.int) v19 (List.replicate (((x1).length : Int)).toNat ([] : (List Int)))]) rfl ?_
 refine RL.asg rfl rfl rfl ?_
 refine RL.finG ?_
 refine GL.seq ?_
 refine GL.seq ?_
 refine GL.region ?_
 refine RL.mv rfl rfl rfl ?_
 refine RL.lenS 0 Try.underlying24 rfl rfl rfl rfl SlOf.imm ?_
 refine RL.binI (v := .int .i64 (wsub ((x1).length : Int) (1 : Int))) rfl rfl rfl rfl rfl ?_
 refine RL.asg rfl rfl rfl ?_
 refine RL.finG ?_
 obtain ⟨y306, K307, h308, h309, h310, h311, h312⟩ := bindR_K hm
 refine GL.join (ι := (List Int) × (List (List Int)) × Int) (fun (p : (List Int) × (List (List Int)) × Int) => [(8, v13), (9, v19)]) (fun (p : (List Int) × (List (List Int)) × Int) => [own 3 TR.int v13 p.1, own 22 (TR.sl TR.int) v19 p.2.1]) (fun (p : (List Int) × (List (List Int)) × Int) => K307 (.nx (p.1, p.2.1, p.2.2))) ?_ ?_
 ·refine GL.block ?_
  refine GL.loop (ι := Nat × (List Int) × (List (List Int)) × Int) (fun (p : Nat × (List Int) × (List (List Int)) × Int) => [(1, v1), (8, v13), (9, v19), (10, .int .i64 p.2.2.2)]) (fun (p : Nat × (List Int) × (List (List Int)) × Int) => [imm (TR.sl (TR.pair TR.int (TR.pair (TR.sl TR.int) (TR.sl TR.int)))) v1 x1, own 3 TR.int v13 p.2.1, own 22 (TR.sl TR.int) v19 p.2.2.1]) (fun (p : Nat × (List Int) × (List (List Int)) × Int) => loopM (tree_Solve_b1 x1) p.1 (p.2.1, p.2.2.1, p.2.2.2) = some y306) (fun (p : Nat × (List Int) × (List (List Int)) × Int) => p.1) (1048576, (List.replicate (((x1).length : Int)).toNat (0 : Int)), (List.replicate (((x1).length : Int)).toNat ([] : (List Int))), wsub ((x1).length : Int) (1 : Int)) h308 (fun a w st => St.cut [0, 1, 2] ⟨rfl, rfl, rfl, rfl, trivial⟩ (by decide) rfl st) ?_
  rintro ⟨r314, l162, l163, x164⟩ h318
  try dsimp only at h318
  refine GL.weak (env' := [(1, v1), (8, v13), (9, v19), (10, .int .i64 x164)]) (L' := [imm (TR.sl (TR.pair TR.int (TR.pair (TR.sl TR.int) (TR.sl TR.int)))) v1 x1, own 3 TR.int v13 l162, own 22 (TR.sl TR.int) v19 l163]) (fun _ _ st => st) ?_
  obtain ⟨r321, z315, hr, h316, h317⟩ := loopM_some h318
  subst hr
  unfold tree_Solve_b1 at h316
  try dsimp only at h316
  refine GL.seq ?_
  refine GL.seq ?_
  refine GL.region ?_
  refine RL.mv rfl rfl rfl ?_
  refine RL.binI (v := .bool (decide (x164 ≥ (0 : Int)))) rfl rfl rfl rfl rfl ?_
  refine RL.finG ?_
  refine GL.cond rfl (fun b322 => ?_) (fun b322 => ?_)
  ·replace h316 := ite_t b322 h316
   refine GL.skip ?_
   refine GL.seq ?_
   refine GL.block ?_
   refine GL.seq ?_
   refine GL.region ?_
   refine RL.mv rfl rfl rfl ?_
   refine RL.mv rfl rfl rfl ?_
   obtain ⟨y327, e328, h316⟩ := bind_some h316
   refine RL.idxS (sz := 3) 0 Try.underlying24 Try_ln26 rfl rfl rfl rfl rfl SlOf.imm (idx_some e328).1 (idx_some e328).2.1 ?_
   refine RL.ldS (i := (x164).toNat) (r := (TR.pair TR.int (TR.pair (TR.sl TR.int) (TR.sl TR.int)))) (e' := y327) 0 Try_ln26 rfl rfl rfl rfl SlOf.imm (idx_some e328).2.2 Part.self ?_
   intro v329
   refine RL.alloc (t := (TR.pair TR.int (TR.pair (TR.sl TR.int) (TR.sl TR.int)))) (z := ((0 : Int), ([] : (List Int)), ([] : (List Int)))) Try_lo26 (fun S => ⟨[.int .i64 0], _, rfl, rfl, ⟨[.slice none 0 0], _, rfl, ⟨_, [], rfl, ⟨none, 0, rfl, Nat.le_refl _, Nat.zero_le _, Or.inl ⟨rfl, rfl⟩⟩, rfl⟩, ⟨_, [], rfl, ⟨none, 0, rfl, Nat.le_refl _, Nat.zero_le _, Or.inl ⟨rfl, rfl⟩⟩, rfl⟩⟩⟩) rfl rfl rfl ?_
   intro v330
   refine RL.reL (L' := [imm (TR.sl (TR.pair TR.int (TR.pair (TR.sl TR.int) (TR.sl TR.int)))) v1 x1, own 3 TR.int v13 l162, own 22 (TR.sl TR.int) v19 l163, imm (TR.pair TR.int (TR.pair (TR.sl TR.int) (TR.sl TR.int))) v329 y327, obox 26 (TR.pair TR.int (TR.pair (TR.sl TR.int) (TR.sl TR.int))) v330 ((0 : Int), ([] : (List Int)), ([] : (List Int)))]) rfl ?_
   refine RL.stP (off := 0) (e' := y327) (d1 := y327) (r := (TR.pair TR.int (TR.pair (TR.sl TR.int) (TR.sl TR.int)))) 4 Try_ln26 rfl rfl (Or.inr ⟨rfl, rfl⟩) rfl (VR.item 3 rfl) rfl Upd.self ?_
   refine RL.finG ?_
   refine GL.seq ?_
   refine GL.seq ?_
   refine GL.region ?_
   refine RL.fadr (off := 0) (fo := 0) 4 Try_fld26_0 rfl rfl rfl PtOf.obox (Or.inr ⟨rfl, rfl⟩) ?_
   refine RL.ldPx (off := (0 + 0)) (e' := y327.1) 4 Ex.ik Try_ln3 rfl rfl (Or.inl rfl) rfl PtOf.obox (Part.fst Part.self) ?_
   refine RL.binI (v := .bool (decide (y327.1 < (0 : Int)))) rfl rfl rfl rfl rfl ?_
   refine RL.finG ?_
   refine GL.cond rfl (fun b331 => ?_) (fun b331 => ?_)
   ·replace h316 := ite_t b331 h316
    refine GL.seq ?_
    refine GL.region ?_
    refine RL.mv rfl rfl rfl ?_
    refine RL.mv rfl rfl rfl ?_
    refine RL.bS (t := TR.int) (vs := []) ([] : (List Int)) Try.underlying22 Try_lo3 rfl rfl rfl rfl trivial rfl (by decide) ?_
    intro v339
    refine RL.reL (L' := [imm (TR.sl (TR.pair TR.int (TR.pair (TR.sl TR.int) (TR.sl TR.int)))) v1 x1, own 3 TR.int v13 l162, own 22 (TR.sl TR.int) v19 l163, imm (TR.pair TR.int (TR.pair (TR.sl TR.int) (TR.sl TR.int))) v329 y327, obox 26 (TR.pair TR.int (TR.pair (TR.sl TR.int) (TR.sl TR.int))) v330 y327, own 3 TR.int v339 ([] : (List Int))]) rfl ?_
    refine RL.fadr (off := 0) (fo := 2) 4 Try_fld26_2 rfl rfl rfl PtOf.obox (Or.inr ⟨rfl, rfl⟩) ?_
    refine RL.ldP (off := (0 + 2)) (r := (TR.sl TR.int)) (e' := y327.2.2) 4 Try_ln22 rfl rfl (Or.inl rfl) rfl PtOf.obox (Part.snd (Part.snd Part.self)) ?_
    intro v340
    obtain ⟨y341, e342, h316⟩ := bind_some h316
    replace e342 := chk_some e342
    refine RL.app 5 6 Try.underlying22 Try_lo3 rfl rfl rfl rfl rfl rfl rfl SlOf.imm e342 ?_
    intro v343
    refine RL.reL (L' := [imm (TR.sl (TR.pair TR.int (TR.pair (TR.sl TR.int) (TR.sl TR.int)))) v1 x1, own 3 TR.int v13 l162, own 22 (TR.sl TR.int) v19 l163, imm (TR.pair TR.int (TR.pair (TR.sl TR.int) (TR.sl TR.int))) v329 y327, obox 26 (TR.pair TR.int (TR.pair (TR.sl TR.int) (TR.sl TR.int))) v330 y327, own 3 TR.int v343 (([] : (List Int)) ++ y327.2.2), imm (TR.sl TR.int) v340 y327.2.2]) rfl ?_
    obtain ⟨y344, e345, h316⟩ := bind_some h316
    refine RL.idxS (sz := 1) 2 Try.underlying27 Try_ln22 rfl rfl rfl rfl rfl SlOf.own (idx_some e345).1 (idx_some e345).2.1 ?_
    refine RL.weak (fun a w st => st.freeze 5 rfl) ?_
    refine RL.stS (i := (x164).toNat) (e' := (([] : (List Int)) ++ y327.2.2)) (e1 := (([] : (List Int)) ++ y327.2.2)) (r := (TR.sl TR.int)) 2 Try_ln22 rfl rfl rfl rfl (VR.item 5 rfl) rfl (idx_some e345).2.2 Upd.self ?_
    refine RL.reL (L' := [imm (TR.sl (TR.pair TR.int (TR.pair (TR.sl TR.int) (TR.sl TR.int)))) v1 x1, own 3 TR.int v13 l162, own 22 (TR.sl TR.int) v19 (List.set l163 ((x164).toNat) (([] : (List Int)) ++ y327.2.2)), imm (TR.pair TR.int (TR.pair (TR.sl TR.int) (TR.sl TR.int))) v329 y327, obox 26 (TR.pair TR.int (TR.pair (TR.sl TR.int) (TR.sl TR.int))) v330 y327, imm (TR.sl TR.int) v343 (([] : (List Int)) ++ y327.2.2), imm (TR.sl TR.int) v340 y327.2.2]) rfl ?_
    refine RL.finG ?_
    refine GL.seq ?_
    refine GL.region ?_
    refine RL.mv rfl rfl rfl ?_
    refine RL.mv rfl rfl rfl ?_
    obtain ⟨y348, e349, h316⟩ := bind_some h316
    refine RL.idxS (sz := 1) 1 Try.underlying22 Try_ln3 rfl rfl rfl rfl rfl SlOf.own (idx_some e349).1 (idx_some e349).2.1 ?_
    refine RL.stS (i := (x164).toNat) (e' := (-1 : Int)) (e1 := (-1 : Int)) (r := TR.int) 1 Try_ln3 rfl rfl rfl rfl VR.int rfl (idx_some e349).2.2 Upd.self ?_
    refine RL.finG ?_
    refine GL.exit ?_
    refine Gx.here ?_
    refine GL.region ?_
    refine RL.mv rfl rfl rfl ?_
    refine RL.binI (v := .int .i64 (wsub x164 (1 : Int))) rfl rfl rfl rfl rfl ?_
    refine RL.asg rfl rfl rfl ?_
    refine RL.finG ?_
    cases h316
    exact fun a w st => lop_intro (r321, (List.set l162 ((x164).toNat) (-1 : Int)), (List.set l163 ((x164).toNat) (([] : (List Int)) ++ y327.2.2)), wsub x164 (1 : Int)) (by exact h317) (by simp) (St.cut [0, 1, 2] ⟨rfl, rfl, rfl, rfl, trivial⟩ (by decide) rfl st)
   replace h316 := ite_f b331 h316
   refine GL.skip ?_
   refine GL.seq ?_
   refine GL.region ?_
   refine RL.asg rfl rfl rfl ?_
   refine RL.finG ?_
   refine GL.seq ?_
   refine GL.seq ?_
   refine GL.region ?_
   refine RL.fadr (off := 0) (fo := 1) 4 Try_fld26_1 rfl rfl rfl PtOf.obox (Or.inr ⟨rfl, rfl⟩) ?_
   refine RL.ldP (off := (0 + 1)) (r := (TR.sl TR.int)) (e' := y327.2.1) 4 Try_ln22 rfl rfl (Or.inl rfl) rfl PtOf.obox (Part.snd (Part.fst Part.self)) ?_
   intro v351
   refine RL.reL (L' := [imm (TR.sl (TR.pair TR.int (TR.pair (TR.sl TR.int) (TR.sl TR.int)))) v1 x1, own 3 TR.int v13 l162, own 22 (TR.sl TR.int) v19 l163, imm (TR.pair TR.int (TR.pair (TR.sl TR.int) (TR.sl TR.int))) v329 y327, obox 26 (TR.pair TR.int (TR.pair (TR.sl TR.int) (TR.sl TR.int))) v330 y327, imm (TR.sl TR.int) v351 y327.2.1]) rfl ?_
   refine RL.lenS 5 Try.underlying22 rfl rfl rfl rfl SlOf.imm ?_
   refine RL.mv rfl rfl rfl ?_
   refine RL.finG ?_
   refine GL.open_ 5 rfl (fun S h => len_imm S h) (fun n384 => ?_)
   obtain ⟨y385, K386, h387, h388, h389, h390, h391⟩ := bindF_K h316
   refine GL.join (ι := Int) (fun (p : Int) => [(1, v1), (8, v13), (9, v19), (10, .int .i64 x164), (11, v330), (12, .int .i64 p)]) (fun (p : Int) => [imm (TR.sl (TR.pair TR.int (TR.pair (TR.sl TR.int) (TR.sl TR.int)))) v1 x1, own 3 TR.int v13 l162, own 22 (TR.sl TR.int) v19 l163, obox 26 (TR.pair TR.int (TR.pair (TR.sl TR.int) (TR.sl TR.int))) v330 y327]) (fun (p : Int) => K386 (.nx p)) ?_ ?_
   ·refine GL.block ?_
    refine GL.loop (ι := Nat × (List Int) × Int) (fun (p : Nat × (List Int) × Int) => [(1, v1), (8, v13), (9, v19), (10, .int .i64 x164), (11, v330), (12, .int .i64 p.2.2), (52, v351), (53, .int .i64 ((y327.2.1).length : Int)), (54, .int .i64 (p.1 : Int))]) (fun (p : Nat × (List Int) × Int) => [imm (TR.sl (TR.pair TR.int (TR.pair (TR.sl TR.int) (TR.sl TR.int)))) v1 x1, own 3 TR.int v13 l162, own 22 (TR.sl TR.int) v19 l163, obox 26 (TR.pair TR.int (TR.pair (TR.sl TR.int) (TR.sl TR.int))) v330 y327, imm (TR.sl TR.int) v351 y327.2.1]) (fun (p : Nat × (List Int) × Int) => p.1 + p.2.1.length = (y327.2.1).length ∧ List.drop p.1 y327.2.1 = p.2.1 ∧ rangeL (tree_Solve_b2 l163 y327) p.2.1 p.1 p.2.2 = some y385) (fun (p : Nat × (List Int) × Int) => p.2.1.length) (0, y327.2.1, (0 : Int)) ⟨by simp, by simp, h387⟩ (fun a w st => St.cut [0, 1, 2, 4, 5] ⟨rfl, rfl, rfl, rfl, rfl, rfl, rfl, rfl, rfl, trivial⟩ (by decide) rfl st) ?_
    rintro ⟨i392, r393, x352⟩ ⟨h398, h399, h397⟩
    try dsimp only at h398 h399 h397
    refine GL.weak (env' := [(1, v1), (8, v13), (9, v19), (10, .int .i64 x164), (11, v330), (12, .int .i64 x352), (52, v351), (53, .int .i64 ((y327.2.1).length : Int)), (54, .int .i64 (i392 : Int))]) (L' := [imm (TR.sl (TR.pair TR.int (TR.pair (TR.sl TR.int) (TR.sl TR.int)))) v1 x1, own 3 TR.int v13 l162, own 22 (TR.sl TR.int) v19 l163, obox 26 (TR.pair TR.int (TR.pair (TR.sl TR.int) (TR.sl TR.int))) v330 y327, imm (TR.sl TR.int) v351 y327.2.1]) (fun _ _ st => st) ?_
    refine GL.seq ?_
    refine GL.region ?_
    refine RL.binI (v := .bool (decide ((i392 : Int) < ((y327.2.1).length : Int)))) rfl rfl rfl rfl rfl ?_
    refine RL.finG ?_
    refine GL.seq ?_
    refine GL.cond rfl (fun b400 => ?_) (fun b400 => ?_)
    ·have h401 : i392 < (y327.2.1).length := by have := of_decide_eq_true b400; omega
     obtain ⟨y402, r404, hr, e403, h405⟩ := drop_cons h399 rfl h401
     subst hr
     obtain ⟨z394, h395, h396⟩ := rangeL_some h397
     unfold tree_Solve_b2 at h395
     try dsimp only at h395
     refine GL.skip ?_
     refine GL.seq ?_
     refine GL.block ?_
     refine GL.seq ?_
     refine GL.region ?_
     refine RL.mv rfl rfl rfl ?_
     refine RL.idxS (sz := 1) 4 Try.underlying22 Try_ln3 rfl rfl rfl rfl rfl SlOf.imm (by omega) (by omega) ?_
     refine RL.ldSx (i := i392) (e' := y402) 4 Ex.ik Try_ln3 rfl rfl rfl rfl SlOf.imm e403 Part.self ?_
     refine RL.asg rfl rfl rfl ?_
     refine RL.asg rfl rfl rfl ?_
     refine RL.finG ?_
     refine GL.seq ?_
     refine GL.regionQ rfl rfl (by kernel_rfl) ?_
     refine RL.mv rfl rfl rfl ?_
     refine RL.mv rfl rfl rfl ?_
     obtain ⟨y419, e420, h395⟩ := bind_some h395
     refine RL.idxS (sz := 1) 2 Try.underlying27 Try_ln22 rfl rfl rfl rfl rfl SlOf.own (idx_some e420).1 (idx_some e420).2.1 ?_
     refine RL.ldS (i := (y402).toNat) (r := (TR.sl TR.int)) (e' := y419) 2 Try_ln22 rfl rfl rfl rfl SlOf.own (idx_some e420).2.2 Part.self ?_
     intro v421
     refine RL.fadr (off := 0) (fo := 0) 3 Try_fld26_0 rfl rfl rfl PtOf.obox (Or.inr ⟨rfl, rfl⟩) ?_
     refine RL.ldPx (off := (0 + 0)) (e' := y327.1) 3 Ex.ik Try_ln3 rfl rfl (Or.inl rfl) rfl PtOf.obox (Part.fst Part.self) ?_
     obtain ⟨y422, e423, h395⟩ := bind_some h395
     refine RL.idxS (sz := 1) 5 Try.underlying22 Try_ln3 rfl rfl rfl rfl rfl SlOf.imm (idx_some e423).1 (idx_some e423).2.1 ?_
     refine RL.ldSx (i := (y327.1).toNat) (e' := y422) 5 Ex.ik Try_ln3 rfl rfl rfl rfl SlOf.imm (idx_some e423).2.2 Part.self ?_
     refine RL.mv rfl rfl rfl ?_
     refine RL.fadr (off := 0) (fo := 1) 3 Try_fld26_1 rfl rfl rfl PtOf.obox (Or.inr ⟨rfl, rfl⟩) ?_
     refine RL.ldP (off := (0 + 1)) (r := (TR.sl TR.int)) (e' := y327.2.1) 3 Try_ln22 rfl rfl (Or.inl rfl) rfl PtOf.obox (Part.snd (Part.fst Part.self)) ?_
     intro v424
     refine RL.reL (L' := [imm (TR.sl (TR.pair TR.int (TR.pair (TR.sl TR.int) (TR.sl TR.int)))) v1 x1, own 3 TR.int v13 l162, own 22 (TR.sl TR.int) v19 l163, obox 26 (TR.pair TR.int (TR.pair (TR.sl TR.int) (TR.sl TR.int))) v330 y327, imm (TR.sl TR.int) v351 y327.2.1, imm (TR.sl TR.int) v421 y419, imm (TR.sl TR.int) v424 y327.2.1]) rfl ?_
     refine RL.mv rfl rfl rfl ?_
     obtain ⟨y425, e426, h395⟩ := bind_some h395
     refine RL.idxS (sz := 1) 6 Try.underlying22 Try_ln3 rfl rfl rfl rfl rfl SlOf.imm (idx_some e426).1 (idx_some e426).2.1 ?_
     refine RL.ldSx (i := (x352).toNat) (e' := y425) 6 Ex.ik Try_ln3 rfl rfl rfl rfl SlOf.imm (idx_some e426).2.2 Part.self ?_
     obtain ⟨y427, e428, h395⟩ := bind_some h395
     refine RL.idxS (sz := 1) 2 Try.underlying27 Try_ln22 rfl rfl rfl rfl rfl SlOf.own (idx_some e428).1 (idx_some e428).2.1 ?_
     refine RL.ldS (i := (y425).toNat) (r := (TR.sl TR.int)) (e' := y427) 2 Try_ln22 rfl rfl rfl rfl SlOf.own (idx_some e428).2.2 Part.self ?_
     intro v429
     refine RL.fadr (off := 0) (fo := 0) 3 Try_fld26_0 rfl rfl rfl PtOf.obox (Or.inr ⟨rfl, rfl⟩) ?_
     refine RL.ldPx (off := (0 + 0)) (e' := y327.1) 3 Ex.ik Try_ln3 rfl rfl (Or.inl rfl) rfl PtOf.obox (Part.fst Part.self) ?_
     obtain ⟨y430, e431, h395⟩ := bind_some h395
     refine RL.idxS (sz := 1) 7 Try.underlying22 Try_ln3 rfl rfl rfl rfl rfl SlOf.imm (idx_some e431).1 (idx_some e431).2.1 ?_
     refine RL.ldSx (i := (y327.1).toNat) (e' := y430) 7 Ex.ik Try_ln3 rfl rfl rfl rfl SlOf.imm (idx_some e431).2.2 Part.self ?_
     refine RL.binI (v := .bool (decide (y422 > y430))) rfl rfl rfl rfl rfl ?_
     refine RL.finQG ?_
     refine GL.weak (env' := [(1, v1), (8, v13), (9, v19), (10, .int .i64 x164), (11, v330), (12, .int .i64 x352), (13, .int .i64 (i392 : Int)), (52, v351), (53, .int .i64 ((y327.2.1).length : Int)), (54, .int .i64 (i392 : Int)), (79, .bool (decide (y422 > y430)))]) (L' := [imm (TR.sl (TR.pair TR.int (TR.pair (TR.sl TR.int) (TR.sl TR.int)))) v1 x1, own 3 TR.int v13 l162, own 22 (TR.sl TR.int) v19 l163, obox 26 (TR.pair TR.int (TR.pair (TR.sl TR.int) (TR.sl TR.int))) v330 y327, imm (TR.sl TR.int) v351 y327.2.1]) (fun a w st => St.cut [0, 1, 2, 3, 4] ⟨rfl, rfl, rfl, rfl, rfl, rfl, rfl, rfl, rfl, rfl, rfl, trivial⟩ (by decide) rfl st) ?_
     refine GL.cond rfl (fun b432 => ?_) (fun b432 => ?_)
     ·replace h395 := ite_t b432 h395
      refine GL.region ?_
      refine RL.mv rfl rfl rfl ?_
      refine RL.asg rfl rfl rfl ?_
      refine RL.finG ?_
      refine GL.nilB ?_
      refine GL.region ?_
      refine RL.binI (v := .int .i64 ((i392 + 1 : Nat) : Int)) rfl rfl rfl rfl (binI_succ i392 (by omega)) ?_
      refine RL.mv rfl rfl rfl ?_
      refine RL.fin ?_
      cases h395
      exact fun a w st => lop_intro (i392 + 1, r404, (i392 : Int)) ⟨by show i392 + 1 + r404.length = (y327.2.1).length; simp only [List.length_cons] at h398; omega, h405, h396⟩ (by simp) (St.cut [0, 1, 2, 3, 4] ⟨rfl, rfl, rfl, rfl, rfl, rfl, rfl, rfl, rfl, trivial⟩ (by decide) rfl st)
     replace h395 := ite_f b432 h395
     refine GL.skip ?_
     refine GL.nilB ?_
     refine GL.region ?_
     refine RL.binI (v := .int .i64 ((i392 + 1 : Nat) : Int)) rfl rfl rfl rfl (binI_succ i392 (by omega)) ?_
     refine RL.mv rfl rfl rfl ?_
     refine RL.fin ?_
     cases h395
     exact fun a w st => lop_intro (i392 + 1, r404, x352) ⟨by show i392 + 1 + r404.length = (y327.2.1).length; simp only [List.length_cons] at h398; omega, h405, h396⟩ (by simp) (St.cut [0, 1, 2, 3, 4] ⟨rfl, rfl, rfl, rfl, rfl, rfl, rfl, rfl, rfl, trivial⟩ (by decide) rfl st)
    have h401 : ¬ i392 < (y327.2.1).length := by have := of_decide_eq_false b400; omega
    obtain rfl : r393 = [] := by rw [← h399]; exact List.drop_of_length_le (by omega)
    replace h397 : some (Fl.nx _) = some y385 := h397
    cases h397
    exact GL.exit (fun a w st => mid_intro x352 h388 (St.cut [0, 1, 2, 3] ⟨rfl, rfl, rfl, rfl, rfl, rfl, trivial⟩ (by decide) rfl st))
   rintro x352 h433
   have h434 := h389 _ h433
   try dsimp only at h434
   refine GL.weak (env' := [(1, v1), (8, v13), (9, v19), (10, .int .i64 x164), (11, v330), (12, .int .i64 x352)]) (L' := [imm (TR.sl (TR.pair TR.int (TR.pair (TR.sl TR.int) (TR.sl TR.int)))) v1 x1, own 3 TR.int v13 l162, own 22 (TR.sl TR.int) v19 l163, obox 26 (TR.pair TR.int (TR.pair (TR.sl TR.int) (TR.sl TR.int))) v330 y327]) (fun _ _ st => st) ?_
   refine GL.seq ?_
   refine GL.region ?_
   refine RL.mv rfl rfl rfl ?_
   refine RL.mv rfl rfl rfl ?_
   refine RL.mv rfl rfl rfl ?_
   obtain ⟨y437, e438, h434⟩ := bind_some h434
   refine RL.idxS (sz := 1) 1 Try.underlying22 Try_ln3 rfl rfl rfl rfl rfl SlOf.own (idx_some e438).1 (idx_some e438).2.1 ?_
   refine RL.stS (i := (x164).toNat) (e' := x352) (e1 := x352) (r := TR.int) 1 Try_ln3 rfl rfl rfl rfl VR.int rfl (idx_some e438).2.2 Upd.self ?_
   refine RL.finG ?_
   refine GL.region ?_
   refine RL.mv rfl rfl rfl ?_
   refine RL.mv rfl rfl rfl ?_
   refine RL.bS (t := TR.int) (vs := []) ([] : (List Int)) Try.underlying22 Try_lo3 rfl rfl rfl rfl trivial rfl (by decide) ?_
   intro v451
   refine RL.reL (L' := [imm (TR.sl (TR.pair TR.int (TR.pair (TR.sl TR.int) (TR.sl TR.int)))) v1 x1, own 3 TR.int v13 (List.set l162 ((x164).toNat) x352), own 22 (TR.sl TR.int) v19 l163, obox 26 (TR.pair TR.int (TR.pair (TR.sl TR.int) (TR.sl TR.int))) v330 y327, own 3 TR.int v451 ([] : (List Int))]) rfl ?_
   refine RL.mv rfl rfl rfl ?_
   refine RL.fadr (off := 0) (fo := 1) 3 Try_fld26_1 rfl rfl rfl PtOf.obox (Or.inr ⟨rfl, rfl⟩) ?_
   refine RL.ldP (off := (0 + 1)) (r := (TR.sl TR.int)) (e' := y327.2.1) 3 Try_ln22 rfl rfl (Or.inl rfl) rfl PtOf.obox (Part.snd (Part.fst Part.self)) ?_
   intro v452
   refine RL.mv rfl rfl rfl ?_
   obtain ⟨y453, e454, h434⟩ := bind_some h434
   refine RL.idxS (sz := 1) 5 Try.underlying22 Try_ln3 rfl rfl rfl rfl rfl SlOf.imm (idx_some e454).1 (idx_some e454).2.1 ?_
   refine RL.ldSx (i := (x352).toNat) (e' := y453) 5 Ex.ik Try_ln3 rfl rfl rfl rfl SlOf.imm (idx_some e454).2.2 Part.self ?_
   obtain ⟨y455, e456, h434⟩ := bind_some h434
   refine RL.idxS (sz := 1) 2 Try.underlying27 Try_ln22 rfl rfl rfl rfl rfl SlOf.own (idx_some e456).1 (idx_some e456).2.1 ?_
   refine RL.ldS (i := (y453).toNat) (r := (TR.sl TR.int)) (e' := y455) 2 Try_ln22 rfl rfl rfl rfl SlOf.own (idx_some e456).2.2 Part.self ?_
   intro v457
   refine RL.reL (L' := [imm (TR.sl (TR.pair TR.int (TR.pair (TR.sl TR.int) (TR.sl TR.int)))) v1 x1, own 3 TR.int v13 (List.set l162 ((x164).toNat) x352), own 22 (TR.sl TR.int) v19 l163, obox 26 (TR.pair TR.int (TR.pair (TR.sl TR.int) (TR.sl TR.int))) v330 y327, own 3 TR.int v451 ([] : (List Int)), imm (TR.sl TR.int) v452 y327.2.1, imm (TR.sl TR.int) v457 y455]) rfl ?_
   obtain ⟨y458, e459, h434⟩ := bind_some h434
   replace e459 := chk_some e459
   refine RL.app 4 6 Try.underlying22 Try_lo3 rfl rfl rfl rfl rfl rfl rfl SlOf.imm e459 ?_
   intro v460
   obtain ⟨y461, e462, h434⟩ := bind_some h434
   refine RL.idxS (sz := 1) 2 Try.underlying27 Try_ln22 rfl rfl rfl rfl rfl SlOf.own (idx_some e462).1 (idx_some e462).2.1 ?_
   refine RL.weak (fun a w st => st.freeze 4 rfl) ?_
   refine RL.stS (i := (x164).toNat) (e' := (([] : (List Int)) ++ y455)) (e1 := (([] : (List Int)) ++ y455)) (r := (TR.sl TR.int)) 2 Try_ln22 rfl rfl rfl rfl (VR.item 4 rfl) rfl (idx_some e462).2.2 Upd.self ?_
   refine RL.reL (L' := [imm (TR.sl (TR.pair TR.int (TR.pair (TR.sl TR.int) (TR.sl TR.int)))) v1 x1, own 3 TR.int v13 (List.set l162 ((x164).toNat) x352), own 22 (TR.sl TR.int) v19 (List.set l163 ((x164).toNat) (([] : (List Int)) ++ y455)), obox 26 (TR.pair TR.int (TR.pair (TR.sl TR.int) (TR.sl TR.int))) v330 y327, imm (TR.sl TR.int) v460 (([] : (List Int)) ++ y455), imm (TR.sl TR.int) v452 y327.2.1, imm (TR.sl TR.int) v457 y455]) rfl ?_
   refine RL.finG ?_
   refine GL.nilB ?_
   refine GL.region ?_
   refine RL.mv rfl rfl rfl ?_
   refine RL.binI (v := .int .i64 (wsub x164 (1 : Int))) rfl rfl rfl rfl rfl ?_
   refine RL.asg rfl rfl rfl ?_
   refine RL.finG ?_
   cases h434
   exact fun a w st => lop_intro (r321, (List.set l162 ((x164).toNat) x352), (List.set l163 ((x164).toNat) (([] : (List Int)) ++ y455)), wsub x164 (1 : Int)) (by exact h317) (by simp) (St.cut [0, 1, 2] ⟨rfl, rfl, rfl, rfl, trivial⟩ (by decide) rfl st)
  replace h316 := ite_f b322 h316
  cases h316
  replace h317 : some (Fl.nx _) = some y306 := h317
  cases h317
  exact GL.exit (fun a w st => mid_intro (l162, l163, x164) h309 (St.cut [1, 2] ⟨rfl, rfl, trivial⟩ (by decide) rfl st))
 rintro ⟨l162, l163, x164⟩ h463
 have h464 := h310 _ h463
 try dsimp only at h464
 refine GL.weak (env' := [(8, v13), (9, v19)]) (L' := [own 3 TR.int v13 l162, own 22 (TR.sl TR.int) v19 l163]) (fun _ _ st => st) ?_
 refine GL.seq ?_
 refine GL.region ?_
 refine RL.mv rfl rfl rfl ?_
 refine RL.mv rfl rfl rfl ?_
 refine RL.asg rfl rfl rfl ?_
 refine RL.asg rfl rfl rfl ?_
 refine RL.asg rfl rfl rfl ?_
 refine RL.finG ?_
 have h464 := Option.some.inj h464
 subst h464
 exact GL.ret (Gx.ret (v := .tuple #[v13, v19, .int .i64 (0 : Int)]) (res3 rfl rfl rfl rfl) (fun a w st => (st.pick [0, 1] (by decide) rfl).toPost (v13, v19)))

set_option maxHeartbeats 4000000 in
theorem piles_Table_c (S : Hp) (w : World) (hS : S.sub w) (x0 : Int) (v1 : Value) (x1 : (List Int)) (k1 : ((TR.sl TR.int)).vrep S v1 x1) (res : (List Int) × Int) (hm : piles_Table_m x0 x1 = some res) : Calls Try.prog 6 #[.int .i64 x0, v1] w (Post w S (fun (o : Value) => .tuple #[o, .int .i64 res.2]) (fun (o : Value) => [own 3 TR.int o res.1])) := by
 refine calls_enter 74 Try.func6 Try.ntmps6 rfl S false [(0, .int .i64 x0), (1, v1)] [imm (TR.sl TR.int) v1 x1] rfl ⟨rfl, ⟨rfl, trivial⟩⟩ hS ⟨k1, trivial⟩ ?_
 unfold piles_Table_m at hm
 refine GL.seq ?_
 refine GL.region ?_
 refine RL.asg rfl rfl rfl ?_
 refine RL.asg rfl rfl rfl ?_
 refine RL.finG ?_
 refine GL.seq ?_
 refine GL.seq ?_
 obtain ⟨y6, K7, h8, h9, h10, h11, h12⟩ := bindR_K hm
 refine GL.join (ι := Bool) (fun (p : Bool) => [(0, .int .i64 x0), (1, v1), (18, .bool p)]) (fun (p : Bool) => [imm (TR.sl TR.int) v1 x1]) (fun (p : Bool) => K7 (.nx p)) ?_ ?_
 ·skip
  refine GL.region ?_
  refine RL.mv rfl rfl rfl ?_
  refine RL.binI (v := .bool (decide (x0 < (0 : Int)))) rfl rfl rfl rfl rfl ?_
  refine RL.mv rfl rfl rfl ?_
  refine RL.split (t := 15) rfl (fun b13 => ?_) (fun b13 => ?_)
  ·replace h8 := ite_t b13 h8
   refine RL.skip rfl rfl ?_
   refine RL.skip rfl rfl ?_
   refine RL.pickT rfl rfl rfl rfl ?_
   refine RL.fin ?_
   cases h8
   exact fun a w st => mid_intro true h9 (St.cut [0] ⟨rfl, rfl, rfl, trivial⟩ (by decide) rfl st)
  replace h8 := ite_f b13 h8
  refine RL.mv rfl rfl rfl ?_
  refine RL.binI (v := .bool (decide (x0 > (40 : Int)))) rfl rfl rfl rfl rfl ?_
  refine RL.pickF rfl rfl rfl rfl ?_
  refine RL.fin ?_
  cases h8
  exact fun a w st => mid_intro (decide (x0 > (40 : Int))) h9 (St.cut [0] ⟨rfl, rfl, rfl, trivial⟩ (by decide) rfl st)
 rintro x5 h14
 have h15 := h10 _ h14
 try dsimp only at h15
 refine GL.weak (env' := [(0, .int .i64 x0), (1, v1), (18, .bool x5)]) (L' := [imm (TR.sl TR.int) v1 x1]) (fun _ _ st => st) ?_
 refine GL.cond rfl (fun b16 => ?_) (fun b16 => ?_)
 ·replace h15 := ite_t b16 h15
  refine GL.seq ?_
  refine GL.region ?_
  refine RL.asg rfl rfl rfl ?_
  refine RL.asg rfl rfl rfl ?_
  refine RL.finG ?_
  refine GL.weak (fun a w st => st.nilOwn 3 TR.int) ?_
  have h15 := Option.some.inj h15
  subst h15
  exact GL.ret (Gx.ret (v := .tuple #[Value.slice none 0 0, .int .i64 (1 : Int)]) (res2 rfl rfl rfl) (fun a w st => (st.pick [1] (by decide) rfl).toPost (Value.slice none 0 0)))
 replace h15 := ite_f b16 h15
 refine GL.skip ?_
 refine GL.seq ?_
 refine GL.seq ?_
 refine GL.region ?_
 refine RL.mv rfl rfl rfl ?_
 refine RL.lenS 0 Try.underlying22 rfl rfl rfl rfl SlOf.imm ?_
 refine RL.binI (v := .bool (decide (((x1).length : Int) > (6 : Int)))) rfl rfl rfl rfl rfl ?_
 refine RL.finG ?_
 refine GL.cond rfl (fun b17 => ?_) (fun b17 => ?_)
 ·replace h15 := ite_t b17 h15
  refine GL.seq ?_
  refine GL.region ?_
  refine RL.asg rfl rfl rfl ?_
  refine RL.asg rfl rfl rfl ?_
  refine RL.finG ?_
  refine GL.weak (fun a w st => st.nilOwn 3 TR.int) ?_
  have h15 := Option.some.inj h15
  subst h15
  exact GL.ret (Gx.ret (v := .tuple #[Value.slice none 0 0, .int .i64 (2 : Int)]) (res2 rfl rfl rfl) (fun a w st => (st.pick [1] (by decide) rfl).toPost (Value.slice none 0 0)))
 replace h15 := ite_f b17 h15
 refine GL.skip ?_
 refine GL.seq ?_
 refine GL.seq ?_
 refine GL.region ?_
 refine RL.mv rfl rfl rfl ?_
 refine RL.lenS 0 Try.underlying22 rfl rfl rfl rfl SlOf.imm ?_
 refine RL.mv rfl rfl rfl ?_
 refine RL.finG ?_
 refine GL.open_ 0 rfl (fun S h => len_imm S h) (fun n36 => ?_)
 obtain ⟨y37, K38, h39, h40, h41, h42, h43⟩ := bindR_K h15
 refine GL.join (ι := Unit) (fun (p : Unit) => [(0, .int .i64 x0), (1, v1)]) (fun (p : Unit) => [imm (TR.sl TR.int) v1 x1]) (fun (p : Unit) => K38 (.nx ())) ?_ ?_
 ·refine GL.block ?_
  refine GL.loop (ι := Nat × (List Int)) (fun (p : Nat × (List Int)) => [(0, .int .i64 x0), (1, v1), (22, v1), (23, .int .i64 ((x1).length : Int)), (24, .int .i64 (p.1 : Int))]) (fun (p : Nat × (List Int)) => [imm (TR.sl TR.int) v1 x1]) (fun (p : Nat × (List Int)) => p.1 + p.2.length = (x1).length ∧ List.drop p.1 x1 = p.2 ∧ rangeL piles_Table_b1 p.2 p.1 () = some y37) (fun (p : Nat × (List Int)) => p.2.length) (0, x1) ⟨by simp, by simp, h39⟩ (fun a w st => St.cut [0] ⟨rfl, rfl, rfl, rfl, rfl, trivial⟩ (by decide) rfl st) ?_
  rintro ⟨i44, r45⟩ ⟨h50, h51, h49⟩
  try dsimp only at h50 h51 h49
  refine GL.weak (env' := [(0, .int .i64 x0), (1, v1), (22, v1), (23, .int .i64 ((x1).length : Int)), (24, .int .i64 (i44 : Int))]) (L' := [imm (TR.sl TR.int) v1 x1]) (fun _ _ st => st) ?_
  refine GL.seq ?_
  refine GL.region ?_
  refine RL.binI (v := .bool (decide ((i44 : Int) < ((x1).length : Int)))) rfl rfl rfl rfl rfl ?_
  refine RL.finG ?_
  refine GL.seq ?_
  refine GL.cond rfl (fun b52 => ?_) (fun b52 => ?_)
  ·have h53 : i44 < (x1).length := by have := of_decide_eq_true b52; omega
   obtain ⟨y54, r56, hr, e55, h57⟩ := drop_cons h51 rfl h53
   subst hr
   obtain ⟨z46, h47, h48⟩ := rangeL_some h49
   unfold piles_Table_b1 at h47
   try dsimp only at h47
   refine GL.skip ?_
   refine GL.seq ?_
   refine GL.block ?_
   refine GL.seq ?_
   refine GL.region ?_
   refine RL.idxS (sz := 1) 0 Try.underlying22 Try_ln3 rfl rfl rfl rfl rfl SlOf.imm (by omega) (by omega) ?_
   refine RL.ldSx (i := i44) (e' := y54) 0 Ex.ik Try_ln3 rfl rfl rfl rfl SlOf.imm e55 Part.self ?_
   refine RL.asg rfl rfl rfl ?_
   refine RL.finG ?_
   refine GL.seq ?_
   obtain ⟨y61, K62, h63, h64, h65, h66, h67⟩ := bindF_K h47
   refine GL.join (ι := Bool) (fun (p : Bool) => [(0, .int .i64 x0), (1, v1), (22, v1), (23, .int .i64 ((x1).length : Int)), (24, .int .i64 (i44 : Int)), (33, .bool p)]) (fun (p : Bool) => [imm (TR.sl TR.int) v1 x1]) (fun (p : Bool) => K62 (.nx p)) ?_ ?_
   ·skip
    refine GL.region ?_
    refine RL.mv rfl rfl rfl ?_
    refine RL.binI (v := .bool (decide (y54 < (1 : Int)))) rfl rfl rfl rfl rfl ?_
    refine RL.mv rfl rfl rfl ?_
    refine RL.split (t := 30) rfl (fun b68 => ?_) (fun b68 => ?_)
    ·replace h63 := ite_t b68 h63
     refine RL.skip rfl rfl ?_
     refine RL.skip rfl rfl ?_
     refine RL.pickT rfl rfl rfl rfl ?_
     refine RL.fin ?_
     cases h63
     exact fun a w st => mid_intro true h64 (St.cut [0] ⟨rfl, rfl, rfl, rfl, rfl, rfl, trivial⟩ (by decide) rfl st)
    replace h63 := ite_f b68 h63
    refine RL.mv rfl rfl rfl ?_
    refine RL.binI (v := .bool (decide (y54 > (40 : Int)))) rfl rfl rfl rfl rfl ?_
    refine RL.pickF rfl rfl rfl rfl ?_
    refine RL.fin ?_
    cases h63
    exact fun a w st => mid_intro (decide (y54 > (40 : Int))) h64 (St.cut [0] ⟨rfl, rfl, rfl, rfl, rfl, rfl, trivial⟩ (by decide) rfl st)
   rintro x60 h69
   have h70 := h65 _ h69
   try dsimp only at h70
   refine GL.weak (env' := [(0, .int .i64 x0), (1, v1), (22, v1), (23, .int .i64 ((x1).length : Int)), (24, .int .i64 (i44 : Int)), (33, .bool x60)]) (L' := [imm (TR.sl TR.int) v1 x1]) (fun _ _ st => st) ?_
   refine GL.cond rfl (fun b71 => ?_) (fun b71 => ?_)
   ·replace h70 := ite_t b71 h70
    refine GL.seq ?_
    refine GL.region ?_
    refine RL.asg rfl rfl rfl ?_
    refine RL.asg rfl rfl rfl ?_
    refine RL.finG ?_
    refine GL.weak (fun a w st => st.nilOwn 3 TR.int) ?_
    cases h70
    replace h48 : some (Fl.rt _) = some y37 := h48
    cases h48
    have hh := h42 _ h40
    subst hh
    exact GL.ret (Gx.ret (v := .tuple #[Value.slice none 0 0, .int .i64 (3 : Int)]) (res2 rfl rfl rfl) (fun a w st => (st.pick [1] (by decide) rfl).toPost (Value.slice none 0 0)))
   replace h70 := ite_f b71 h70
   refine GL.skip ?_
   refine GL.nilB ?_
   refine GL.region ?_
   refine RL.binI (v := .int .i64 ((i44 + 1 : Nat) : Int)) rfl rfl rfl rfl (binI_succ i44 (by omega)) ?_
   refine RL.mv rfl rfl rfl ?_
   refine RL.fin ?_
   cases h70
   exact fun a w st => lop_intro (i44 + 1, r56) ⟨by show i44 + 1 + r56.length = (x1).length; simp only [List.length_cons] at h50; omega, h57, h48⟩ (by simp) (St.cut [0] ⟨rfl, rfl, rfl, rfl, rfl, trivial⟩ (by decide) rfl st)
  have h53 : ¬ i44 < (x1).length := by have := of_decide_eq_false b52; omega
  obtain rfl : r45 = [] := by rw [← h51]; exact List.drop_of_length_le (by omega)
  replace h49 : some (Fl.nx _) = some y37 := h49
  cases h49
  exact GL.exit (fun a w st => mid_intro () h40 (St.cut [0] ⟨rfl, rfl, trivial⟩ (by decide) rfl st))
 rintro ⟨⟩ h72
 have h73 := h41 _ h72
 try dsimp only at h73
 refine GL.weak (env' := [(0, .int .i64 x0), (1, v1)]) (L' := [imm (TR.sl TR.int) v1 x1]) (fun _ _ st => st) ?_
 refine GL.seq ?_
 refine GL.region ?_
 refine RL.mv rfl rfl rfl ?_
 refine RL.binI (v := .int .i64 (wadd x0 (1 : Int))) rfl rfl rfl rfl rfl ?_
 obtain ⟨y77, e78, h73⟩ := bind_some h73
 replace e78 := chk_some e78
 refine RL.mkS (t := TR.int) (z := (0 : Int)) Try.underlying22 Try_lo3 (fun S => rfl) rfl rfl rfl rfl e78.1 e78.2 ?_
 intro v79
 refine RL.asg rfl rfl rfl ?_
 refine RL.finG ?_
 refine GL.seq ?_
 refine GL.seq ?_
 refine GL.region ?_
 refine RL.mv rfl rfl rfl ?_
 refine RL.lenS 1 Try.underlying22 rfl rfl rfl rfl SlOf.own ?_
 refine RL.mv rfl rfl rfl ?_
 refine RL.finG ?_
 refine GL.lenOwn 1 rfl (fun n345 => ?_)
 obtain ⟨y346, K347, h348, h349, h350, h351, h352⟩ := bindR_K h73
 refine GL.join (ι := (List Int)) (fun (p : (List Int)) => [(8, v79)]) (fun (p : (List Int)) => [own 3 TR.int v79 p]) (fun (p : (List Int)) => K347 (.nx p)) ?_ ?_
 ·refine GL.block ?_
  refine GL.loop (ι := Nat × Nat × (List Int)) (fun (p : Nat × Nat × (List Int)) => [(1, v1), (8, v79), (39, .int .i64 (((List.replicate (wadd x0 (1 : Int)).toNat (0 : Int))).length : Int)), (40, .int .i64 (p.1 : Int))]) (fun (p : Nat × Nat × (List Int)) => [imm (TR.sl TR.int) v1 x1, own 3 TR.int v79 p.2.2]) (fun (p : Nat × Nat × (List Int)) => p.1 + p.2.1 = ((List.replicate (wadd x0 (1 : Int)).toNat (0 : Int))).length ∧ rangeN (piles_Table_b2 x1) p.2.1 p.1 p.2.2 = some y346) (fun (p : Nat × Nat × (List Int)) => p.2.1) (0, ((List.replicate (wadd x0 (1 : Int)).toNat (0 : Int))).length, (List.replicate (wadd x0 (1 : Int)).toNat (0 : Int))) ⟨by simp, h348⟩ (fun a w st => St.cut [0, 1] ⟨rfl, rfl, rfl, rfl, trivial⟩ (by decide) rfl st) ?_
  rintro ⟨i353, r354, l212⟩ ⟨h359, h358⟩
  try dsimp only at h359 h358
  refine GL.weak (env' := [(1, v1), (8, v79), (39, .int .i64 (((List.replicate (wadd x0 (1 : Int)).toNat (0 : Int))).length : Int)), (40, .int .i64 (i353 : Int))]) (L' := [imm (TR.sl TR.int) v1 x1, own 3 TR.int v79 l212]) (fun _ _ st => st) ?_
  refine GL.seq ?_
  refine GL.region ?_
  refine RL.binI (v := .bool (decide ((i353 : Int) < (((List.replicate (wadd x0 (1 : Int)).toNat (0 : Int))).length : Int)))) rfl rfl rfl rfl rfl ?_
  refine RL.finG ?_
  refine GL.seq ?_
  refine GL.cond rfl (fun b361 => ?_) (fun b361 => ?_)
  ·have h362 : i353 < ((List.replicate (wadd x0 (1 : Int)).toNat (0 : Int))).length := by have := of_decide_eq_true b361; omega
   obtain ⟨r363, hr⟩ : ∃ m, r354 = m + 1 := ⟨r354 - 1, by omega⟩
   subst hr
   obtain ⟨z355, h356, h357⟩ := rangeN_some h358
   unfold piles_Table_b2 at h356
   try dsimp only at h356
   refine GL.skip ?_
   refine GL.seq ?_
   refine GL.block ?_
   refine GL.seq ?_
   refine GL.region ?_
   refine RL.mv rfl rfl rfl ?_
   refine RL.asg rfl rfl rfl ?_
   refine RL.finG ?_
   refine GL.seq ?_
   refine GL.region ?_
   refine RL.alloc (t := (TR.arr 7 TR.bool)) (z := (List.replicate 7 false)) Try_lo38 (fun S => ⟨rfl, ⟨_, _, rfl, rfl, ⟨_, _, rfl, rfl, ⟨_, _, rfl, rfl, ⟨_, _, rfl, rfl, ⟨_, _, rfl, rfl, ⟨_, _, rfl, rfl, ⟨_, _, rfl, rfl, rfl⟩⟩⟩⟩⟩⟩⟩⟩) rfl rfl rfl ?_
   intro v365
   refine RL.finG ?_
   refine GL.seq ?_
   refine GL.seq ?_
   refine GL.region ?_
   refine RL.mv rfl rfl rfl ?_
   refine RL.lenS 0 Try.underlying22 rfl rfl rfl rfl SlOf.imm ?_
   refine RL.mv rfl rfl rfl ?_
   refine RL.finG ?_
   refine GL.open_ 0 rfl (fun S h => len_imm S h) (fun n393 => ?_)
   obtain ⟨y394, K395, h396, h397, h398, h399, h400⟩ := bindF_K h356
   refine GL.join (ι := (List Bool)) (fun (p : (List Bool)) => [(1, v1), (8, v79), (9, .int .i64 (i353 : Int)), (10, v365), (39, .int .i64 (((List.replicate (wadd x0 (1 : Int)).toNat (0 : Int))).length : Int)), (40, .int .i64 (i353 : Int))]) (fun (p : (List Bool)) => [imm (TR.sl TR.int) v1 x1, own 3 TR.int v79 l212, obox 38 (TR.arr 7 TR.bool) v365 p]) (fun (p : (List Bool)) => K395 (.nx p)) ?_ ?_
   ·refine GL.block ?_
    refine GL.loop (ι := Nat × (List Int) × (List Bool)) (fun (p : Nat × (List Int) × (List Bool)) => [(1, v1), (8, v79), (9, .int .i64 (i353 : Int)), (10, v365), (39, .int .i64 (((List.replicate (wadd x0 (1 : Int)).toNat (0 : Int))).length : Int)), (40, .int .i64 (i353 : Int)), (43, v1), (44, .int .i64 ((x1).length : Int)), (45, .int .i64 (p.1 : Int))]) (fun (p : Nat × (List Int) × (List Bool)) => [imm (TR.sl TR.int) v1 x1, own 3 TR.int v79 l212, obox 38 (TR.arr 7 TR.bool) v365 p.2.2]) (fun (p : Nat × (List Int) × (List Bool)) => p.1 + p.2.1.length = (x1).length ∧ List.drop p.1 x1 = p.2.1 ∧ rangeL (piles_Table_b3 i353 l212) p.2.1 p.1 p.2.2 = some y394) (fun (p : Nat × (List Int) × (List Bool)) => p.2.1.length) (0, x1, (List.replicate 7 false)) ⟨by simp, by simp, h396⟩ (fun a w st => St.cut [0, 1, 2] ⟨rfl, rfl, rfl, rfl, rfl, rfl, rfl, rfl, rfl, trivial⟩ (by decide) rfl st) ?_
    rintro ⟨i401, r402, l379⟩ ⟨h407, h408, h406⟩
    try dsimp only at h407 h408 h406
    refine GL.weak (env' := [(1, v1), (8, v79), (9, .int .i64 (i353 : Int)), (10, v365), (39, .int .i64 (((List.replicate (wadd x0 (1 : Int)).toNat (0 : Int))).length : Int)), (40, .int .i64 (i353 : Int)), (43, v1), (44, .int .i64 ((x1).length : Int)), (45, .int .i64 (i401 : Int))]) (L' := [imm (TR.sl TR.int) v1 x1, own 3 TR.int v79 l212, obox 38 (TR.arr 7 TR.bool) v365 l379]) (fun _ _ st => st) ?_
    refine GL.seq ?_
    refine GL.region ?_
    refine RL.binI (v := .bool (decide ((i401 : Int) < ((x1).length : Int)))) rfl rfl rfl rfl rfl ?_
    refine RL.finG ?_
    refine GL.seq ?_
    refine GL.cond rfl (fun b409 => ?_) (fun b409 => ?_)
    ·have h410 : i401 < (x1).length := by have := of_decide_eq_true b409; omega
     obtain ⟨y411, r413, hr, e412, h414⟩ := drop_cons h408 rfl h410
     subst hr
     obtain ⟨z403, h404, h405⟩ := rangeL_some h406
     unfold piles_Table_b3 at h404
     try dsimp only at h404
     refine GL.skip ?_
     refine GL.seq ?_
     refine GL.block ?_
     refine GL.seq ?_
     refine GL.region ?_
     refine RL.idxS (sz := 1) 0 Try.underlying22 Try_ln3 rfl rfl rfl rfl rfl SlOf.imm (by omega) (by omega) ?_
     refine RL.ldSx (i := i401) (e' := y411) 0 Ex.ik Try_ln3 rfl rfl rfl rfl SlOf.imm e412 Part.self ?_
     refine RL.asg rfl rfl rfl ?_
     refine RL.finG ?_
     refine GL.seq ?_
     refine GL.region ?_
     refine RL.mv rfl rfl rfl ?_
     refine RL.mv rfl rfl rfl ?_
     refine RL.binI (v := .bool (decide (y411 ≤ (i353 : Int)))) rfl rfl rfl rfl rfl ?_
     refine RL.finG ?_
     refine GL.cond rfl (fun b415 => ?_) (fun b415 => ?_)
     ·replace h404 := ite_t b415 h404
      refine GL.region ?_
      refine RL.mv rfl rfl rfl ?_
      refine RL.mv rfl rfl rfl ?_
      refine RL.mv rfl rfl rfl ?_
      refine RL.binI (v := .int .i64 (wsub (i353 : Int) y411)) rfl rfl rfl rfl rfl ?_
      obtain ⟨y420, e421, h404⟩ := bind_some h404
      refine RL.idxS (sz := 1) 1 Try.underlying22 Try_ln3 rfl rfl rfl rfl rfl SlOf.own (idx_some e421).1 (idx_some e421).2.1 ?_
      refine RL.ldSx (i := (wsub (i353 : Int) y411).toNat) (e' := y420) 1 Ex.ik Try_ln3 rfl rfl rfl rfl SlOf.own (idx_some e421).2.2 Part.self ?_
      obtain ⟨y422, e423, h404⟩ := bind_some h404
      refine RL.idxA0 (sz := 1) (t' := TR.bool) 2 Try.underlying38 Try_ln4 rfl rfl rfl PtOf.obox rfl rfl Part.self (idx_some e423).1 (idx_some e423).2.1 ?_
      refine RL.stP (off := ((y420).toNat * 1)) (e' := true) (d1 := (List.set l379 ((y420).toNat) true)) (r := TR.bool) 2 Try_ln4 rfl rfl (Or.inl rfl) rfl VR.bool rfl (Upd.arr (idx_some e423).2.2 Upd.self) ?_
      refine RL.finG ?_
      refine GL.nilB ?_
      refine GL.region ?_
      refine RL.binI (v := .int .i64 ((i401 + 1 : Nat) : Int)) rfl rfl rfl rfl (binI_succ i401 (by omega)) ?_
      refine RL.mv rfl rfl rfl ?_
      refine RL.fin ?_
      cases h404
      exact fun a w st => lop_intro (i401 + 1, r413, (List.set l379 ((y420).toNat) true)) ⟨by show i401 + 1 + r413.length = (x1).length; simp only [List.length_cons] at h407; omega, h414, h405⟩ (by simp) (St.cut [0, 1, 2] ⟨rfl, rfl, rfl, rfl, rfl, rfl, rfl, rfl, rfl, trivial⟩ (by decide) rfl st)
     replace h404 := ite_f b415 h404
     refine GL.skip ?_
     refine GL.nilB ?_
     refine GL.region ?_
     refine RL.binI (v := .int .i64 ((i401 + 1 : Nat) : Int)) rfl rfl rfl rfl (binI_succ i401 (by omega)) ?_
     refine RL.mv rfl rfl rfl ?_
     refine RL.fin ?_
     cases h404
     exact fun a w st => lop_intro (i401 + 1, r413, l379) ⟨by show i401 + 1 + r413.length = (x1).length; simp only [List.length_cons] at h407; omega, h414, h405⟩ (by simp) (St.cut [0, 1, 2] ⟨rfl, rfl, rfl, rfl, rfl, rfl, rfl, rfl, rfl, trivial⟩ (by decide) rfl st)
    have h410 : ¬ i401 < (x1).length := by have := of_decide_eq_false b409; omega
    obtain rfl : r402 = [] := by rw [← h408]; exact List.drop_of_length_le (by omega)
    replace h406 : some (Fl.nx _) = some y394 := h406
    cases h406
    exact GL.exit (fun a w st => mid_intro l379 h397 (St.cut [0, 1, 2] ⟨rfl, rfl, rfl, rfl, rfl, rfl, trivial⟩ (by decide) rfl st))
   rintro l379 h424
   have h425 := h398 _ h424
   try dsimp only at h425
   refine GL.weak (env' := [(1, v1), (8, v79), (9, .int .i64 (i353 : Int)), (10, v365), (39, .int .i64 (((List.replicate (wadd x0 (1 : Int)).toNat (0 : Int))).length : Int)), (40, .int .i64 (i353 : Int))]) (L' := [imm (TR.sl TR.int) v1 x1, own 3 TR.int v79 l212, obox 38 (TR.arr 7 TR.bool) v365 l379]) (fun _ _ st => st) ?_
   obtain ⟨y461, K462, h463, h464, h465, h466, h467⟩ := bindF_K h425
   refine GL.join (ι := (List Int)) (fun (p : (List Int)) => [(1, v1), (8, v79), (39, .int .i64 (((List.replicate (wadd x0 (1 : Int)).toNat (0 : Int))).length : Int)), (40, .int .i64 (i353 : Int))]) (fun (p : (List Int)) => [imm (TR.sl TR.int) v1 x1, own 3 TR.int v79 p]) (fun (p : (List Int)) => K462 (.nx p)) ?_ ?_
   ·refine GL.block ?_
    refine GL.loop (ι := Nat × (List Int)) (fun (p : Nat × (List Int)) => [(1, v1), (8, v79), (9, .int .i64 (i353 : Int)), (10, v365), (39, .int .i64 (((List.replicate (wadd x0 (1 : Int)).toNat (0 : Int))).length : Int)), (40, .int .i64 (i353 : Int))]) (fun (p : Nat × (List Int)) => [imm (TR.sl TR.int) v1 x1, own 3 TR.int v79 p.2, obox 38 (TR.arr 7 TR.bool) v365 l379]) (fun (p : Nat × (List Int)) => loopM (piles_Table_b4 i353 l379) p.1 p.2 = some y461) (fun (p : Nat × (List Int)) => p.1) (1048576, l212) h463 (fun a w st => St.cut [0, 1, 2] ⟨rfl, rfl, rfl, rfl, rfl, rfl, trivial⟩ (by decide) rfl st) ?_
    rintro ⟨r469, l443⟩ h473
    try dsimp only at h473
    refine GL.weak (env' := [(1, v1), (8, v79), (9, .int .i64 (i353 : Int)), (10, v365), (39, .int .i64 (((List.replicate (wadd x0 (1 : Int)).toNat (0 : Int))).length : Int)), (40, .int .i64 (i353 : Int))]) (L' := [imm (TR.sl TR.int) v1 x1, own 3 TR.int v79 l443, obox 38 (TR.arr 7 TR.bool) v365 l379]) (fun _ _ st => st) ?_
    obtain ⟨r476, z470, hr, h471, h472⟩ := loopM_some h473
    subst hr
    unfold piles_Table_b4 at h471
    try dsimp only at h471
    refine GL.seq ?_
    refine GL.seq ?_
    refine GL.region ?_
    refine RL.mv rfl rfl rfl ?_
    refine RL.mv rfl rfl rfl ?_
    obtain ⟨y481, e482, h471⟩ := bind_some h471
    refine RL.idxS (sz := 1) 1 Try.underlying22 Try_ln3 rfl rfl rfl rfl rfl SlOf.own (idx_some e482).1 (idx_some e482).2.1 ?_
    refine RL.ldSx (i := i353) (e' := y481) 1 Ex.ik Try_ln3 rfl rfl rfl rfl SlOf.own (idx_some e482).2.2 Part.self ?_
    obtain ⟨y483, e484, h471⟩ := bind_some h471
    refine RL.idxA0 (sz := 1) (t' := TR.bool) 2 Try.underlying38 Try_ln4 rfl rfl rfl PtOf.obox rfl rfl Part.self (idx_some e484).1 (idx_some e484).2.1 ?_
    refine RL.ldPx (off := ((y481).toNat * 1)) (e' := y483) 2 Ex.bool Try_ln4 rfl rfl (Or.inl rfl) rfl PtOf.obox (Part.arr (idx_some e484).2.2 Part.self) ?_
    refine RL.finG ?_
    refine GL.cond rfl (fun b485 => ?_) (fun b485 => ?_)
    ·replace h471 := ite_t b485 h471
     refine GL.skip ?_
     refine GL.block ?_
     refine GL.region ?_
     refine RL.mv rfl rfl rfl ?_
     refine RL.mv rfl rfl rfl ?_
     obtain ⟨y490, e491, h471⟩ := bind_some h471
     refine RL.idxS (sz := 1) 1 Try.underlying22 Try_ln3 rfl rfl rfl rfl rfl SlOf.own (idx_some e491).1 (idx_some e491).2.1 ?_
     refine RL.ldSx (i := i353) (e' := y490) 1 Ex.ik Try_ln3 rfl rfl rfl rfl SlOf.own (idx_some e491).2.2 Part.self ?_
     refine RL.binI (v := .int .i64 (wadd y490 (1 : Int))) rfl rfl rfl rfl rfl ?_
     obtain ⟨y492, e493, h471⟩ := bind_some h471
     refine RL.idxS (sz := 1) 1 Try.underlying22 Try_ln3 rfl rfl rfl rfl rfl SlOf.own (idx_some e493).1 (idx_some e493).2.1 ?_
     refine RL.stS (i := i353) (e' := wadd y490 (1 : Int)) (e1 := wadd y490 (1 : Int)) (r := TR.int) 1 Try_ln3 rfl rfl rfl rfl VR.int rfl (idx_some e493).2.2 Upd.self ?_
     refine RL.finG ?_
     refine GL.nilB ?_
     cases h471
     exact fun a w st => lop_intro (r476, (List.set l443 i353 (wadd y490 (1 : Int)))) (by exact h472) (by simp) (St.cut [0, 1, 2] ⟨rfl, rfl, rfl, rfl, rfl, rfl, trivial⟩ (by decide) rfl st)
    replace h471 := ite_f b485 h471
    cases h471
    replace h472 : some (Fl.nx _) = some y461 := h472
    cases h472
    exact GL.exit (fun a w st => mid_intro l443 h464 (St.cut [0, 1] ⟨rfl, rfl, rfl, rfl, trivial⟩ (by decide) rfl st))
   rintro l443 h494
   have h495 := h465 _ h494
   try dsimp only at h495
   refine GL.weak (env' := [(1, v1), (8, v79), (39, .int .i64 (((List.replicate (wadd x0 (1 : Int)).toNat (0 : Int))).length : Int)), (40, .int .i64 (i353 : Int))]) (L' := [imm (TR.sl TR.int) v1 x1, own 3 TR.int v79 l443]) (fun _ _ st => st) ?_
   refine GL.nilB ?_
   refine GL.region ?_
   refine RL.binI (v := .int .i64 ((i353 + 1 : Nat) : Int)) rfl rfl rfl rfl (binI_succ i353 (by omega)) ?_
   refine RL.mv rfl rfl rfl ?_
   refine RL.fin ?_
   cases h495
   exact fun a w st => lop_intro (i353 + 1, r363, l443) ⟨by show i353 + 1 + r363 = ((List.replicate (wadd x0 (1 : Int)).toNat (0 : Int))).length; omega, h357⟩ (by simp) (St.cut [0, 1] ⟨rfl, rfl, rfl, rfl, trivial⟩ (by decide) rfl st)
  have h362 : ¬ i353 < ((List.replicate (wadd x0 (1 : Int)).toNat (0 : Int))).length := by have := of_decide_eq_false b361; omega
  obtain rfl : r354 = 0 := by omega
  replace h358 : some (Fl.nx _) = some y346 := h358
  cases h358
  exact GL.exit (fun a w st => mid_intro l212 h349 (St.cut [1] ⟨rfl, trivial⟩ (by decide) rfl st))
 rintro l212 h496
 have h497 := h350 _ h496
 try dsimp only at h497
 refine GL.weak (env' := [(8, v79)]) (L' := [own 3 TR.int v79 l212]) (fun _ _ st => st) ?_
 refine GL.seq ?_
 refine GL.region ?_
 refine RL.mv rfl rfl rfl ?_
 refine RL.asg rfl rfl rfl ?_
 refine RL.asg rfl rfl rfl ?_
 refine RL.finG ?_
 have h497 := Option.some.inj h497
 subst h497
 exact GL.ret (Gx.ret (v := .tuple #[v79, .int .i64 (0 : Int)]) (res2 rfl rfl rfl) (fun a w st => (st.pick [0] (by decide) rfl).toPost v79))

set_option maxHeartbeats 4000000 in
theorem order_Check_c (S : Hp) (w : World) (hS : S.sub w) (x0 : Int) (v1 : Value) (x1 : (List Int)) (k1 : ((TR.sl TR.int)).vrep S v1 x1) (res : Int) (hm : order_Check_m x0 x1 = some res) : Calls Try.prog 16 #[.int .i64 x0, v1] w (PostV w (.int .i64 res)) := by
 refine calls_enter 39 Try.func16 Try.ntmps16 rfl S false [(0, .int .i64 x0), (1, v1)] [imm (TR.sl TR.int) v1 x1] rfl ⟨rfl, ⟨rfl, trivial⟩⟩ hS ⟨k1, trivial⟩ ?_
 unfold order_Check_m at hm
 refine GL.seq ?_
 refine GL.region ?_
 refine RL.asg rfl rfl rfl ?_
 refine RL.finG ?_
 refine GL.seq ?_
 refine GL.seq ?_
 obtain ⟨y6, K7, h8, h9, h10, h11, h12⟩ := bindR_K hm
 refine GL.join (ι := Bool) (fun (p : Bool) => [(0, .int .i64 x0), (1, v1), (13, .bool p)]) (fun (p : Bool) => [imm (TR.sl TR.int) v1 x1]) (fun (p : Bool) => K7 (.nx p)) ?_ ?_
 ·skip
  refine GL.region ?_
  refine RL.mv rfl rfl rfl ?_
  refine RL.binI (v := .bool (decide (x0 < (1 : Int)))) rfl rfl rfl rfl rfl ?_
  refine RL.mv rfl rfl rfl ?_
  refine RL.split (t := 10) rfl (fun b13 => ?_) (fun b13 => ?_)
  ·replace h8 := ite_t b13 h8
   refine RL.skip rfl rfl ?_
   refine RL.skip rfl rfl ?_
   refine RL.pickT rfl rfl rfl rfl ?_
   refine RL.fin ?_
   cases h8
   exact fun a w st => mid_intro true h9 (St.cut [0] ⟨rfl, rfl, rfl, trivial⟩ (by decide) rfl st)
  replace h8 := ite_f b13 h8
  refine RL.mv rfl rfl rfl ?_
  refine RL.binI (v := .bool (decide (x0 > (6 : Int)))) rfl rfl rfl rfl rfl ?_
  refine RL.pickF rfl rfl rfl rfl ?_
  refine RL.fin ?_
  cases h8
  exact fun a w st => mid_intro (decide (x0 > (6 : Int))) h9 (St.cut [0] ⟨rfl, rfl, rfl, trivial⟩ (by decide) rfl st)
 rintro x5 h14
 have h15 := h10 _ h14
 try dsimp only at h15
 refine GL.weak (env' := [(0, .int .i64 x0), (1, v1), (13, .bool x5)]) (L' := [imm (TR.sl TR.int) v1 x1]) (fun _ _ st => st) ?_
 refine GL.cond rfl (fun b16 => ?_) (fun b16 => ?_)
 ·replace h15 := ite_t b16 h15
  refine GL.seq ?_
  refine GL.region ?_
  refine RL.asg rfl rfl rfl ?_
  refine RL.finG ?_
  have h15 := Option.some.inj h15
  subst h15
  exact GL.ret (Gx.ret (v := .int .i64 (1 : Int)) (res1 rfl rfl) (fun a w st => st.toPostV))
 replace h15 := ite_f b16 h15
 refine GL.skip ?_
 refine GL.seq ?_
 refine GL.region ?_
 refine RL.alloc (t := (TR.arr 6 TR.bool)) (z := (List.replicate 6 false)) Try_lo49 (fun S => ⟨rfl, ⟨_, _, rfl, rfl, ⟨_, _, rfl, rfl, ⟨_, _, rfl, rfl, ⟨_, _, rfl, rfl, ⟨_, _, rfl, rfl, ⟨_, _, rfl, rfl, rfl⟩⟩⟩⟩⟩⟩⟩) rfl rfl rfl ?_
 intro v18
 refine RL.finG ?_
 refine GL.seq ?_
 refine GL.seq ?_
 refine GL.region ?_
 refine RL.mv rfl rfl rfl ?_
 refine RL.lenS 0 Try.underlying22 rfl rfl rfl rfl SlOf.imm ?_
 refine RL.mv rfl rfl rfl ?_
 refine RL.finG ?_
 refine GL.open_ 0 rfl (fun S h => len_imm S h) (fun n82 => ?_)
 obtain ⟨y83, K84, h85, h86, h87, h88, h89⟩ := bindR_K h15
 refine GL.join (ι := (List Bool)) (fun (p : (List Bool)) => [(0, .int .i64 x0), (1, v1)]) (fun (p : (List Bool)) => [imm (TR.sl TR.int) v1 x1]) (fun (p : (List Bool)) => K84 (.nx p)) ?_ ?_
 ·refine GL.block ?_
  refine GL.loop (ι := Nat × (List Int) × (List Bool)) (fun (p : Nat × (List Int) × (List Bool)) => [(0, .int .i64 x0), (1, v1), (5, v18), (14, v1), (15, .int .i64 ((x1).length : Int)), (16, .int .i64 (p.1 : Int))]) (fun (p : Nat × (List Int) × (List Bool)) => [imm (TR.sl TR.int) v1 x1, obox 49 (TR.arr 6 TR.bool) v18 p.2.2]) (fun (p : Nat × (List Int) × (List Bool)) => p.1 + p.2.1.length = (x1).length ∧ List.drop p.1 x1 = p.2.1 ∧ rangeL (order_Check_b1 x0) p.2.1 p.1 p.2.2 = some y83) (fun (p : Nat × (List Int) × (List Bool)) => p.2.1.length) (0, x1, (List.replicate 6 false)) ⟨by simp, by simp, h85⟩ (fun a w st => St.cut [0, 1] ⟨rfl, rfl, rfl, rfl, rfl, rfl, trivial⟩ (by decide) rfl st) ?_
  rintro ⟨i90, r91, l50⟩ ⟨h96, h97, h95⟩
  try dsimp only at h96 h97 h95
  refine GL.weak (env' := [(0, .int .i64 x0), (1, v1), (5, v18), (14, v1), (15, .int .i64 ((x1).length : Int)), (16, .int .i64 (i90 : Int))]) (L' := [imm (TR.sl TR.int) v1 x1, obox 49 (TR.arr 6 TR.bool) v18 l50]) (fun _ _ st => st) ?_
  refine GL.seq ?_
  refine GL.region ?_
  refine RL.binI (v := .bool (decide ((i90 : Int) < ((x1).length : Int)))) rfl rfl rfl rfl rfl ?_
  refine RL.finG ?_
  refine GL.seq ?_
  refine GL.cond rfl (fun b98 => ?_) (fun b98 => ?_)
  ·have h99 : i90 < (x1).length := by have := of_decide_eq_true b98; omega
   obtain ⟨y100, r102, hr, e101, h103⟩ := drop_cons h97 rfl h99
   subst hr
   obtain ⟨z92, h93, h94⟩ := rangeL_some h95
   unfold order_Check_b1 at h93
   try dsimp only at h93
   refine GL.skip ?_
   refine GL.seq ?_
   refine GL.block ?_
   refine GL.seq ?_
   refine GL.region ?_
   refine RL.idxS (sz := 1) 0 Try.underlying22 Try_ln3 rfl rfl rfl rfl rfl SlOf.imm (by omega) (by omega) ?_
   refine RL.ldSx (i := i90) (e' := y100) 0 Ex.ik Try_ln3 rfl rfl rfl rfl SlOf.imm e101 Part.self ?_
   refine RL.asg rfl rfl rfl ?_
   refine RL.finG ?_
   refine GL.seq ?_
   refine GL.seq ?_
   obtain ⟨y113, K114, h115, h116, h117, h118, h119⟩ := bindF_K h93
   refine GL.join (ι := Bool) (fun (p : Bool) => [(0, .int .i64 x0), (1, v1), (5, v18), (7, .int .i64 y100), (14, v1), (15, .int .i64 ((x1).length : Int)), (16, .int .i64 (i90 : Int)), (31, .bool p)]) (fun (p : Bool) => [imm (TR.sl TR.int) v1 x1, obox 49 (TR.arr 6 TR.bool) v18 l50]) (fun (p : Bool) => K114 (.nx p)) ?_ ?_
   ·skip
    refine GL.region ?_
    refine RL.mv rfl rfl rfl ?_
    refine RL.binI (v := .bool (decide (y100 < (0 : Int)))) rfl rfl rfl rfl rfl ?_
    refine RL.mv rfl rfl rfl ?_
    refine RL.split (t := 22) rfl (fun b120 => ?_) (fun b120 => ?_)
    ·replace h115 := ite_t b120 h115
     refine RL.skip rfl rfl ?_
     refine RL.skip rfl rfl ?_
     refine RL.skip rfl rfl ?_
     refine RL.pickT rfl rfl rfl rfl ?_
     refine RL.mv rfl rfl rfl ?_
     refine RL.skip rfl rfl ?_
     refine RL.skip rfl rfl ?_
     refine RL.skip rfl rfl ?_
     refine RL.pickT rfl rfl rfl rfl ?_
     refine RL.fin ?_
     cases h115
     exact fun a w st => mid_intro true h116 (St.cut [0, 1] ⟨rfl, rfl, rfl, rfl, rfl, rfl, rfl, rfl, trivial⟩ (by decide) rfl st)
    replace h115 := ite_f b120 h115
    refine RL.mv rfl rfl rfl ?_
    refine RL.mv rfl rfl rfl ?_
    refine RL.binI (v := .bool (decide (y100 ≥ x0))) rfl rfl rfl rfl rfl ?_
    refine RL.pickF rfl rfl rfl rfl ?_
    refine RL.mv rfl rfl rfl ?_
    refine RL.split (t := 27) rfl (fun b121 => ?_) (fun b121 => ?_)
    ·replace h115 := ite_t b121 h115
     refine RL.skip rfl rfl ?_
     refine RL.skip rfl rfl ?_
     refine RL.skip rfl rfl ?_
     refine RL.pickT rfl rfl rfl rfl ?_
     refine RL.fin ?_
     cases h115
     exact fun a w st => mid_intro true h116 (St.cut [0, 1] ⟨rfl, rfl, rfl, rfl, rfl, rfl, rfl, rfl, trivial⟩ (by decide) rfl st)
    replace h115 := ite_f b121 h115
    refine RL.mv rfl rfl rfl ?_
    obtain ⟨y122, e123, h115⟩ := bind_some h115
    refine RL.idxA0 (sz := 1) (t' := TR.bool) 1 Try.underlying49 Try_ln4 rfl rfl rfl PtOf.obox rfl rfl Part.self (idx_some e123).1 (idx_some e123).2.1 ?_
    refine RL.ldPx (off := ((y100).toNat * 1)) (e' := y122) 1 Ex.bool Try_ln4 rfl rfl (Or.inl rfl) rfl PtOf.obox (Part.arr (idx_some e123).2.2 Part.self) ?_
    refine RL.pickF rfl rfl rfl rfl ?_
    refine RL.fin ?_
    cases h115
    exact fun a w st => mid_intro y122 h116 (St.cut [0, 1] ⟨rfl, rfl, rfl, rfl, rfl, rfl, rfl, rfl, trivial⟩ (by decide) rfl st)
   rintro x112 h124
   have h125 := h117 _ h124
   try dsimp only at h125
   refine GL.weak (env' := [(0, .int .i64 x0), (1, v1), (5, v18), (7, .int .i64 y100), (14, v1), (15, .int .i64 ((x1).length : Int)), (16, .int .i64 (i90 : Int)), (31, .bool x112)]) (L' := [imm (TR.sl TR.int) v1 x1, obox 49 (TR.arr 6 TR.bool) v18 l50]) (fun _ _ st => st) ?_
   refine GL.cond rfl (fun b126 => ?_) (fun b126 => ?_)
   ·replace h125 := ite_t b126 h125
    refine GL.seq ?_
    refine GL.region ?_
    refine RL.asg rfl rfl rfl ?_
    refine RL.finG ?_
    cases h125
    replace h94 : some (Fl.rt _) = some y83 := h94
    cases h94
    have hh := h88 _ h86
    subst hh
    exact GL.ret (Gx.ret (v := .int .i64 (3 : Int)) (res1 rfl rfl) (fun a w st => st.toPostV))
   replace h125 := ite_f b126 h125
   refine GL.skip ?_
   refine GL.region ?_
   refine RL.mv rfl rfl rfl ?_
   obtain ⟨y129, e130, h125⟩ := bind_some h125
   refine RL.idxA0 (sz := 1) (t' := TR.bool) 1 Try.underlying49 Try_ln4 rfl rfl rfl PtOf.obox rfl rfl Part.self (idx_some e130).1 (idx_some e130).2.1 ?_
   refine RL.stP (off := ((y100).toNat * 1)) (e' := true) (d1 := (List.set l50 ((y100).toNat) true)) (r := TR.bool) 1 Try_ln4 rfl rfl (Or.inl rfl) rfl VR.bool rfl (Upd.arr (idx_some e130).2.2 Upd.self) ?_
   refine RL.finG ?_
   refine GL.nilB ?_
   refine GL.region ?_
   refine RL.binI (v := .int .i64 ((i90 + 1 : Nat) : Int)) rfl rfl rfl rfl (binI_succ i90 (by omega)) ?_
   refine RL.mv rfl rfl rfl ?_
   refine RL.fin ?_
   cases h125
   exact fun a w st => lop_intro (i90 + 1, r102, (List.set l50 ((y100).toNat) true)) ⟨by show i90 + 1 + r102.length = (x1).length; simp only [List.length_cons] at h96; omega, h103, h94⟩ (by simp) (St.cut [0, 1] ⟨rfl, rfl, rfl, rfl, rfl, rfl, trivial⟩ (by decide) rfl st)
  have h99 : ¬ i90 < (x1).length := by have := of_decide_eq_false b98; omega
  obtain rfl : r91 = [] := by rw [← h97]; exact List.drop_of_length_le (by omega)
  replace h95 : some (Fl.nx _) = some y83 := h95
  cases h95
  exact GL.exit (fun a w st => mid_intro l50 h86 (St.cut [0] ⟨rfl, rfl, trivial⟩ (by decide) rfl st))
 rintro l50 h131
 have h132 := h87 _ h131
 try dsimp only at h132
 refine GL.weak (env' := [(0, .int .i64 x0), (1, v1)]) (L' := [imm (TR.sl TR.int) v1 x1]) (fun _ _ st => st) ?_
 refine GL.seq ?_
 refine GL.seq ?_
 refine GL.region ?_
 refine RL.mv rfl rfl rfl ?_
 refine RL.lenS 0 Try.underlying22 rfl rfl rfl rfl SlOf.imm ?_
 refine RL.mv rfl rfl rfl ?_
 refine RL.binI (v := .bool (((x1).length : Int) != x0)) rfl rfl rfl rfl rfl ?_
 refine RL.finG ?_
 refine GL.cond rfl (fun b133 => ?_) (fun b133 => ?_)
 ·replace h132 := ite_t b133 h132
  refine GL.seq ?_
  refine GL.region ?_
  refine RL.asg rfl rfl rfl ?_
  refine RL.finG ?_
  have h132 := Option.some.inj h132
  subst h132
  exact GL.ret (Gx.ret (v := .int .i64 (3 : Int)) (res1 rfl rfl) (fun a w st => st.toPostV))
 replace h132 := ite_f b133 h132
 refine GL.skip ?_
 refine GL.seq ?_
 refine GL.region ?_
 refine RL.asg rfl rfl rfl ?_
 refine RL.finG ?_
 have h132 := Option.some.inj h132
 subst h132
 exact GL.ret (Gx.ret (v := .int .i64 (0 : Int)) (res1 rfl rfl) (fun a w st => st.toPostV))

set_option maxHeartbeats 4000000 in
theorem slices_Index_int_int_c (S : Hp) (w : World) (hS : S.sub w) (v0 : Value) (x0 : (List Int)) (k0 : ((TR.sl TR.int)).vrep S v0 x0) (x1 : Int) (res : Int) (hm : slices_Index_int_int_m x0 x1 = some res) : Calls Try.prog 17 #[v0, .int .i64 x1] w (PostC w (.int .i64 res)) := by
 refine calls_enter 19 Try.func17 Try.ntmps17 rfl S true [(0, v0), (1, .int .i64 x1)] [imm (TR.sl TR.int) v0 x0] rfl ⟨rfl, ⟨rfl, trivial⟩⟩ hS ⟨k0, trivial⟩ ?_
 unfold slices_Index_int_int_m at hm
 refine GL.seq ?_
 refine GL.region ?_
 refine RL.asg rfl rfl rfl ?_
 refine RL.finG ?_
 refine GL.seq ?_
 refine GL.seq ?_
 refine GL.region ?_
 refine RL.mv rfl rfl rfl ?_
 refine RL.lenS 0 Try.underlying22 rfl rfl rfl rfl SlOf.imm ?_
 refine RL.mv rfl rfl rfl ?_
 refine RL.finG ?_
 refine GL.open_ 0 rfl (fun S h => len_imm S h) (fun n8 => ?_)
 obtain ⟨y9, K10, h11, h12, h13, h14, h15⟩ := bindR_K hm
 refine GL.join (ι := Unit) (fun (p : Unit) => []) (fun (p : Unit) => []) (fun (p : Unit) => K10 (.nx ())) ?_ ?_
 ·refine GL.block ?_
  refine GL.loop (ι := Nat × (List Int)) (fun (p : Nat × (List Int)) => [(0, v0), (1, .int .i64 x1), (7, .int .i64 ((x0).length : Int)), (8, .int .i64 (p.1 : Int))]) (fun (p : Nat × (List Int)) => [imm (TR.sl TR.int) v0 x0]) (fun (p : Nat × (List Int)) => p.1 + p.2.length = (x0).length ∧ List.drop p.1 x0 = p.2 ∧ rangeL (slices_Index_int_int_b1 x1) p.2 p.1 () = some y9) (fun (p : Nat × (List Int)) => p.2.length) (0, x0) ⟨by simp, by simp, h11⟩ (fun a w st => St.cut [0] ⟨rfl, rfl, rfl, rfl, trivial⟩ (by decide) rfl st) ?_
  rintro ⟨i17, r18⟩ ⟨h23, h24, h22⟩
  try dsimp only at h23 h24 h22
  refine GL.weak (env' := [(0, v0), (1, .int .i64 x1), (7, .int .i64 ((x0).length : Int)), (8, .int .i64 (i17 : Int))]) (L' := [imm (TR.sl TR.int) v0 x0]) (fun _ _ st => st) ?_
  refine GL.seq ?_
  refine GL.region ?_
  refine RL.binI (v := .bool (decide ((i17 : Int) < ((x0).length : Int)))) rfl rfl rfl rfl rfl ?_
  refine RL.finG ?_
  refine GL.seq ?_
  refine GL.cond rfl (fun b25 => ?_) (fun b25 => ?_)
  ·have h26 : i17 < (x0).length := by have := of_decide_eq_true b25; omega
   obtain ⟨y27, r29, hr, e28, h30⟩ := drop_cons h24 rfl h26
   subst hr
   obtain ⟨z19, h20, h21⟩ := rangeL_some h22
   unfold slices_Index_int_int_b1 at h20
   try dsimp only at h20
   refine GL.skip ?_
   refine GL.seq ?_
   refine GL.block ?_
   refine GL.seq ?_
   refine GL.region ?_
   refine RL.mv rfl rfl rfl ?_
   refine RL.asg rfl rfl rfl ?_
   refine RL.finG ?_
   refine GL.seq ?_
   refine GL.region ?_
   refine RL.mv rfl rfl rfl ?_
   refine RL.mv rfl rfl rfl ?_
   refine RL.mv rfl rfl rfl ?_
   refine RL.idxS (sz := 1) 0 Try.underlying22 Try_ln3 rfl rfl rfl rfl rfl SlOf.imm (by omega) (by omega) ?_
   refine RL.ldSx (i := i17) (e' := y27) 0 Ex.ik Try_ln3 rfl rfl rfl rfl SlOf.imm e28 Part.self ?_
   refine RL.binI (v := .bool (x1 == y27)) rfl rfl rfl rfl rfl ?_
   refine RL.finG ?_
   refine GL.cond rfl (fun b31 => ?_) (fun b31 => ?_)
   ·replace h20 := ite_t b31 h20
    refine GL.seq ?_
    refine GL.region ?_
    refine RL.mv rfl rfl rfl ?_
    refine RL.asg rfl rfl rfl ?_
    refine RL.finG ?_
    cases h20
    replace h21 : some (Fl.rt _) = some y9 := h21
    cases h21
    have hh := h14 _ h12
    subst hh
    exact GL.ret (Gx.ret (v := .int .i64 (i17 : Int)) (res1 rfl rfl) (fun a w st => st.toPostC rfl))
   replace h20 := ite_f b31 h20
   refine GL.skip ?_
   refine GL.nilB ?_
   refine GL.region ?_
   refine RL.binI (v := .int .i64 ((i17 + 1 : Nat) : Int)) rfl rfl rfl rfl (binI_succ i17 (by omega)) ?_
   refine RL.mv rfl rfl rfl ?_
   refine RL.fin ?_
   cases h20
   exact fun a w st => lop_intro (i17 + 1, r29) ⟨by show i17 + 1 + r29.length = (x0).length; simp only [List.length_cons] at h23; omega, h30, h21⟩ (by simp) (St.cut [0] ⟨rfl, rfl, rfl, rfl, trivial⟩ (by decide) rfl st)
  have h26 : ¬ i17 < (x0).length := by have := of_decide_eq_false b25; omega
  obtain rfl : r18 = [] := by rw [← h24]; exact List.drop_of_length_le (by omega)
  replace h22 : some (Fl.nx _) = some y9 := h22
  cases h22
  exact GL.exit (fun a w st => mid_intro () h12 (St.cut [] trivial (by decide) rfl st))
 rintro ⟨⟩ h32
 have h33 := h13 _ h32
 try dsimp only at h33
 refine GL.weak (env' := []) (L' := []) (fun _ _ st => st) ?_
 refine GL.seq ?_
 refine GL.region ?_
 refine RL.asg rfl rfl rfl ?_
 refine RL.finG ?_
 have h33 := Option.some.inj h33
 subst h33
 exact GL.ret (Gx.ret (v := .int .i64 (-1 : Int)) (res1 rfl rfl) (fun a w st => st.toPostC rfl))

set_option maxHeartbeats 4000000 in
theorem order_Far_c (S : Hp) (w : World) (hS : S.sub w) (v0 : Value) (x0 : (List Int)) (k0 : ((TR.sl TR.int)).vrep S v0 x0) (v1 : Value) (x1 : (List Int)) (k1 : ((TR.sl TR.int)).vrep S v1 x1) (res : Int × Int) (hm : order_Far_m x0 x1 = some res) : Calls Try.prog 11 #[v0, v1] w (PostV w (.tuple #[.int .i64 res.1, .int .i64 res.2])) := by
 refine calls_enter 55 Try.func11 Try.ntmps11 rfl S false [(0, v0), (1, v1)] [imm (TR.sl TR.int) v0 x0, imm (TR.sl TR.int) v1 x1] rfl ⟨rfl, ⟨rfl, trivial⟩⟩ hS ⟨k0, ⟨k1, trivial⟩⟩ ?_
 unfold order_Far_m at hm
 refine GL.seq ?_
 refine GL.region ?_
 refine RL.asg rfl rfl rfl ?_
 refine RL.asg rfl rfl rfl ?_
 refine RL.finG ?_
 refine GL.seq ?_
 refine GL.seq ?_
 refine GL.region ?_
 refine RL.mv rfl rfl rfl ?_
 refine RL.lenS 0 Try.underlying22 rfl rfl rfl rfl SlOf.imm ?_
 refine RL.mv rfl rfl rfl ?_
 obtain ⟨y5, e6, hm⟩ := bind_some hm
 refine RL.callV (v := .int .i64 y5) (vs := [.int .i64 ((x0).length : Int), v0]) Try_fit16 rfl (Or.inl rfl) rfl rfl rfl rfl (fun U w hU hW hL => order_Check_c U w hU ((x0).length : Int) _ _ (hL 0 _ _ rfl Seen.imm) _ e6) ?_
 refine RL.asg rfl rfl rfl ?_
 refine RL.finG ?_
 refine GL.seq ?_
 refine GL.region ?_
 refine RL.mv rfl rfl rfl ?_
 refine RL.binI (v := .bool (y5 != (0 : Int))) rfl rfl rfl rfl rfl ?_
 refine RL.finG ?_
 refine GL.cond rfl (fun b7 => ?_) (fun b7 => ?_)
 ·replace hm := ite_t b7 hm
  refine GL.seq ?_
  refine GL.region ?_
  refine RL.mv rfl rfl rfl ?_
  refine RL.asg rfl rfl rfl ?_
  refine RL.asg rfl rfl rfl ?_
  refine RL.finG ?_
  have hm := Option.some.inj hm
  subst hm
  exact GL.ret (Gx.ret (v := .tuple #[.int .i64 (0 : Int), .int .i64 y5]) (res2 rfl rfl rfl) (fun a w st => st.toPostV))
 replace hm := ite_f b7 hm
 refine GL.skip ?_
 refine GL.seq ?_
 refine GL.seq ?_
 refine GL.region ?_
 refine RL.mv rfl rfl rfl ?_
 refine RL.lenS 0 Try.underlying22 rfl rfl rfl rfl SlOf.imm ?_
 refine RL.mv rfl rfl rfl ?_
 obtain ⟨y10, e11, hm⟩ := bind_some hm
 refine RL.callV (v := .int .i64 y10) (vs := [.int .i64 ((x0).length : Int), v1]) Try_fit16 rfl (Or.inl rfl) rfl rfl rfl rfl (fun U w hU hW hL => order_Check_c U w hU ((x0).length : Int) _ _ (hL 1 _ _ rfl Seen.imm) _ e11) ?_
 refine RL.asg rfl rfl rfl ?_
 refine RL.finG ?_
 refine GL.seq ?_
 refine GL.region ?_
 refine RL.mv rfl rfl rfl ?_
 refine RL.binI (v := .bool (y10 != (0 : Int))) rfl rfl rfl rfl rfl ?_
 refine RL.finG ?_
 refine GL.cond rfl (fun b12 => ?_) (fun b12 => ?_)
 ·replace hm := ite_t b12 hm
  refine GL.seq ?_
  refine GL.region ?_
  refine RL.mv rfl rfl rfl ?_
  refine RL.asg rfl rfl rfl ?_
  refine RL.asg rfl rfl rfl ?_
  refine RL.finG ?_
  have hm := Option.some.inj hm
  subst hm
  exact GL.ret (Gx.ret (v := .tuple #[.int .i64 (0 : Int), .int .i64 y10]) (res2 rfl rfl rfl) (fun a w st => st.toPostV))
 replace hm := ite_f b12 hm
 refine GL.skip ?_
 refine GL.seq ?_
 refine GL.region ?_
 refine RL.asg rfl rfl rfl ?_
 refine RL.finG ?_
 refine GL.seq ?_
 refine GL.seq ?_
 refine GL.region ?_
 refine RL.mv rfl rfl rfl ?_
 refine RL.lenS 0 Try.underlying22 rfl rfl rfl rfl SlOf.imm ?_
 refine RL.mv rfl rfl rfl ?_
 refine RL.finG ?_
 refine GL.open_ 0 rfl (fun S h => len_imm S h) (fun n71 => ?_)
 obtain ⟨y72, K73, h74, h75, h76, h77, h78⟩ := bindR_K hm
 refine GL.join (ι := Int) (fun (p : Int) => [(8, .int .i64 p)]) (fun (p : Int) => []) (fun (p : Int) => K73 (.nx p)) ?_ ?_
 ·refine GL.block ?_
  refine GL.loop (ι := Nat × (List Int) × Int) (fun (p : Nat × (List Int) × Int) => [(0, v0), (1, v1), (8, .int .i64 p.2.2), (27, v0), (28, .int .i64 ((x0).length : Int)), (29, .int .i64 (p.1 : Int))]) (fun (p : Nat × (List Int) × Int) => [imm (TR.sl TR.int) v0 x0, imm (TR.sl TR.int) v1 x1]) (fun (p : Nat × (List Int) × Int) => p.1 + p.2.1.length = (x0).length ∧ List.drop p.1 x0 = p.2.1 ∧ rangeL (order_Far_b1 x0 x1) p.2.1 p.1 p.2.2 = some y72) (fun (p : Nat × (List Int) × Int) => p.2.1.length) (0, x0, (0 : Int)) ⟨by simp, by simp, h74⟩ (fun a w st => St.cut [0, 1] ⟨rfl, rfl, rfl, rfl, rfl, rfl, trivial⟩ (by decide) rfl st) ?_
  rintro ⟨i79, r80, x13⟩ ⟨h85, h86, h84⟩
  try dsimp only at h85 h86 h84
  refine GL.weak (env' := [(0, v0), (1, v1), (8, .int .i64 x13), (27, v0), (28, .int .i64 ((x0).length : Int)), (29, .int .i64 (i79 : Int))]) (L' := [imm (TR.sl TR.int) v0 x0, imm (TR.sl TR.int) v1 x1]) (fun _ _ st => st) ?_
  refine GL.seq ?_
  refine GL.region ?_
  refine RL.binI (v := .bool (decide ((i79 : Int) < ((x0).length : Int)))) rfl rfl rfl rfl rfl ?_
  refine RL.finG ?_
  refine GL.seq ?_
  refine GL.cond rfl (fun b87 => ?_) (fun b87 => ?_)
  ·have h88 : i79 < (x0).length := by have := of_decide_eq_true b87; omega
   obtain ⟨y89, r91, hr, e90, h92⟩ := drop_cons h86 rfl h88
   subst hr
   obtain ⟨z81, h82, h83⟩ := rangeL_some h84
   unfold order_Far_b1 at h82
   try dsimp only at h82
   refine GL.skip ?_
   refine GL.seq ?_
   refine GL.block ?_
   refine GL.seq ?_
   refine GL.region ?_
   refine RL.mv rfl rfl rfl ?_
   refine RL.idxS (sz := 1) 0 Try.underlying22 Try_ln3 rfl rfl rfl rfl rfl SlOf.imm (by omega) (by omega) ?_
   refine RL.ldSx (i := i79) (e' := y89) 0 Ex.ik Try_ln3 rfl rfl rfl rfl SlOf.imm e90 Part.self ?_
   refine RL.asg rfl rfl rfl ?_
   refine RL.asg rfl rfl rfl ?_
   refine RL.finG ?_
   refine GL.seq ?_
   refine GL.region ?_
   refine RL.mv rfl rfl rfl ?_
   refine RL.mv rfl rfl rfl ?_
   refine RL.binI (v := .int .i64 (wadd (i79 : Int) (1 : Int))) rfl rfl rfl rfl rfl ?_
   obtain ⟨y96, e97, h82⟩ := bind_some h82
   replace e97 := chk_some e97
   refine RL.slc (t := TR.int) (i := (wadd (i79 : Int) (1 : Int)).toNat) (j := (x0).length) (sz := 1) 0 Try.underlying22 Try_ln3 rfl rfl rfl rfl (Or.inr ⟨_, _, rfl, by rw [Int.toNat_of_nonneg (by omega)]; rfl⟩) (Or.inl ⟨rfl, rfl⟩) rfl (by omega) (by omega) ?_
   intro v98
   refine RL.lenS 2 Try.underlying22 rfl rfl rfl rfl SlOf.imm ?_
   refine RL.mv rfl rfl rfl ?_
   refine RL.finG ?_
   refine GL.open_ 2 rfl (fun S h => len_imm S h) (fun n113 => ?_)
   obtain ⟨y114, K115, h116, h117, h118, h119, h120⟩ := bindF_K h82
   refine GL.join (ι := Int) (fun (p : Int) => [(0, v0), (1, v1), (8, .int .i64 p), (27, v0), (28, .int .i64 ((x0).length : Int)), (29, .int .i64 (i79 : Int))]) (fun (p : Int) => [imm (TR.sl TR.int) v0 x0, imm (TR.sl TR.int) v1 x1]) (fun (p : Int) => K115 (.nx p)) ?_ ?_
   ·refine GL.block ?_
    refine GL.loop (ι := Nat × (List Int) × Int) (fun (p : Nat × (List Int) × Int) => [(0, v0), (1, v1), (8, .int .i64 p.2.2), (10, .int .i64 y89), (27, v0), (28, .int .i64 ((x0).length : Int)), (29, .int .i64 (i79 : Int)), (37, v98), (38, .int .i64 ((((List.take ((x0).length) x0).drop ((wadd (i79 : Int) (1 : Int)).toNat))).length : Int)), (39, .int .i64 (p.1 : Int))]) (fun (p : Nat × (List Int) × Int) => [imm (TR.sl TR.int) v0 x0, imm (TR.sl TR.int) v1 x1, imm (TR.sl TR.int) v98 ((List.take ((x0).length) x0).drop ((wadd (i79 : Int) (1 : Int)).toNat))]) (fun (p : Nat × (List Int) × Int) => p.1 + p.2.1.length = (((List.take ((x0).length) x0).drop ((wadd (i79 : Int) (1 : Int)).toNat))).length ∧ List.drop p.1 ((List.take ((x0).length) x0).drop ((wadd (i79 : Int) (1 : Int)).toNat)) = p.2.1 ∧ rangeL (order_Far_b2 x1 y89) p.2.1 p.1 p.2.2 = some y114) (fun (p : Nat × (List Int) × Int) => p.2.1.length) (0, ((List.take ((x0).length) x0).drop ((wadd (i79 : Int) (1 : Int)).toNat)), x13) ⟨by simp, by simp, h116⟩ (fun a w st => St.cut [0, 1, 2] ⟨rfl, rfl, rfl, rfl, rfl, rfl, rfl, rfl, rfl, rfl, trivial⟩ (by decide) rfl st) ?_
    rintro ⟨i121, r122, x99⟩ ⟨h127, h128, h126⟩
    try dsimp only at h127 h128 h126
    refine GL.weak (env' := [(0, v0), (1, v1), (8, .int .i64 x99), (10, .int .i64 y89), (27, v0), (28, .int .i64 ((x0).length : Int)), (29, .int .i64 (i79 : Int)), (37, v98), (38, .int .i64 ((((List.take ((x0).length) x0).drop ((wadd (i79 : Int) (1 : Int)).toNat))).length : Int)), (39, .int .i64 (i121 : Int))]) (L' := [imm (TR.sl TR.int) v0 x0, imm (TR.sl TR.int) v1 x1, imm (TR.sl TR.int) v98 ((List.take ((x0).length) x0).drop ((wadd (i79 : Int) (1 : Int)).toNat))]) (fun _ _ st => st) ?_
    refine GL.seq ?_
    refine GL.region ?_
    refine RL.binI (v := .bool (decide ((i121 : Int) < ((((List.take ((x0).length) x0).drop ((wadd (i79 : Int) (1 : Int)).toNat))).length : Int)))) rfl rfl rfl rfl rfl ?_
    refine RL.finG ?_
    refine GL.seq ?_
    refine GL.cond rfl (fun b129 => ?_) (fun b129 => ?_)
    ·have h130 : i121 < (((List.take ((x0).length) x0).drop ((wadd (i79 : Int) (1 : Int)).toNat))).length := by have := of_decide_eq_true b129; omega
     obtain ⟨y131, r133, hr, e132, h134⟩ := drop_cons h128 rfl h130
     subst hr
     obtain ⟨z123, h124, h125⟩ := rangeL_some h126
     unfold order_Far_b2 at h124
     try dsimp only at h124
     refine GL.skip ?_
     refine GL.seq ?_
     refine GL.block ?_
     refine GL.seq ?_
     refine GL.region ?_
     refine RL.idxS (sz := 1) 2 Try.underlying22 Try_ln3 rfl rfl rfl rfl rfl SlOf.imm (by omega) (by omega) ?_
     refine RL.ldSx (i := i121) (e' := y131) 2 Ex.ik Try_ln3 rfl rfl rfl rfl SlOf.imm e132 Part.self ?_
     refine RL.asg rfl rfl rfl ?_
     refine RL.finG ?_
     refine GL.seq ?_
     refine GL.region ?_
     refine RL.mv rfl rfl rfl ?_
     refine RL.mv rfl rfl rfl ?_
     obtain ⟨y139, e140, h124⟩ := bind_some h124
     refine RL.callC (v := .int .i64 y139) (vs := [v1, .int .i64 y89]) Try_fit17 rfl rfl rfl rfl (fun U w hU hW hL => slices_Index_int_int_c U w hU _ _ (hL 1 _ _ rfl Seen.imm) y89 _ e140) ?_
     refine RL.mv rfl rfl rfl ?_
     refine RL.mv rfl rfl rfl ?_
     obtain ⟨y141, e142, h124⟩ := bind_some h124
     refine RL.callC (v := .int .i64 y141) (vs := [v1, .int .i64 y131]) Try_fit17 rfl rfl rfl rfl (fun U w hU hW hL => slices_Index_int_int_c U w hU _ _ (hL 1 _ _ rfl Seen.imm) y131 _ e142) ?_
     refine RL.binI (v := .bool (decide (y139 > y141))) rfl rfl rfl rfl rfl ?_
     refine RL.finG ?_
     refine GL.cond rfl (fun b143 => ?_) (fun b143 => ?_)
     ·replace h124 := ite_t b143 h124
      refine GL.region ?_
      refine RL.mv rfl rfl rfl ?_
      refine RL.binI (v := .int .i64 (wadd x99 (1 : Int))) rfl rfl rfl rfl rfl ?_
      refine RL.asg rfl rfl rfl ?_
      refine RL.finG ?_
      refine GL.nilB ?_
      refine GL.region ?_
      refine RL.binI (v := .int .i64 ((i121 + 1 : Nat) : Int)) rfl rfl rfl rfl (binI_succ i121 (by omega)) ?_
      refine RL.mv rfl rfl rfl ?_
      refine RL.fin ?_
      cases h124
      exact fun a w st => lop_intro (i121 + 1, r133, wadd x99 (1 : Int)) ⟨by show i121 + 1 + r133.length = (((List.take ((x0).length) x0).drop ((wadd (i79 : Int) (1 : Int)).toNat))).length; simp only [List.length_cons] at h127; omega, h134, h125⟩ (by simp) (St.cut [0, 1, 2] ⟨rfl, rfl, rfl, rfl, rfl, rfl, rfl, rfl, rfl, rfl, trivial⟩ (by decide) rfl st)
     replace h124 := ite_f b143 h124
     refine GL.skip ?_
     refine GL.nilB ?_
     refine GL.region ?_
     refine RL.binI (v := .int .i64 ((i121 + 1 : Nat) : Int)) rfl rfl rfl rfl (binI_succ i121 (by omega)) ?_
     refine RL.mv rfl rfl rfl ?_
     refine RL.fin ?_
     cases h124
     exact fun a w st => lop_intro (i121 + 1, r133, x99) ⟨by show i121 + 1 + r133.length = (((List.take ((x0).length) x0).drop ((wadd (i79 : Int) (1 : Int)).toNat))).length; simp only [List.length_cons] at h127; omega, h134, h125⟩ (by simp) (St.cut [0, 1, 2] ⟨rfl, rfl, rfl, rfl, rfl, rfl, rfl, rfl, rfl, rfl, trivial⟩ (by decide) rfl st)
    have h130 : ¬ i121 < (((List.take ((x0).length) x0).drop ((wadd (i79 : Int) (1 : Int)).toNat))).length := by have := of_decide_eq_false b129; omega
    obtain rfl : r122 = [] := by rw [← h128]; exact List.drop_of_length_le (by omega)
    replace h126 : some (Fl.nx _) = some y114 := h126
    cases h126
    exact GL.exit (fun a w st => mid_intro x99 h117 (St.cut [0, 1] ⟨rfl, rfl, rfl, rfl, rfl, rfl, trivial⟩ (by decide) rfl st))
   rintro x99 h144
   have h145 := h118 _ h144
   try dsimp only at h145
   refine GL.weak (env' := [(0, v0), (1, v1), (8, .int .i64 x99), (27, v0), (28, .int .i64 ((x0).length : Int)), (29, .int .i64 (i79 : Int))]) (L' := [imm (TR.sl TR.int) v0 x0, imm (TR.sl TR.int) v1 x1]) (fun _ _ st => st) ?_
   refine GL.nilB ?_
   refine GL.region ?_
   refine RL.binI (v := .int .i64 ((i79 + 1 : Nat) : Int)) rfl rfl rfl rfl (binI_succ i79 (by omega)) ?_
   refine RL.mv rfl rfl rfl ?_
   refine RL.fin ?_
   cases h145
   exact fun a w st => lop_intro (i79 + 1, r91, x99) ⟨by show i79 + 1 + r91.length = (x0).length; simp only [List.length_cons] at h85; omega, h92, h83⟩ (by simp) (St.cut [0, 1] ⟨rfl, rfl, rfl, rfl, rfl, rfl, trivial⟩ (by decide) rfl st)
  have h88 : ¬ i79 < (x0).length := by have := of_decide_eq_false b87; omega
  obtain rfl : r80 = [] := by rw [← h86]; exact List.drop_of_length_le (by omega)
  replace h84 : some (Fl.nx _) = some y72 := h84
  cases h84
  exact GL.exit (fun a w st => mid_intro x13 h75 (St.cut [] ⟨rfl, trivial⟩ (by decide) rfl st))
 rintro x13 h146
 have h147 := h76 _ h146
 try dsimp only at h147
 refine GL.weak (env' := [(8, .int .i64 x13)]) (L' := []) (fun _ _ st => st) ?_
 refine GL.seq ?_
 refine GL.region ?_
 refine RL.mv rfl rfl rfl ?_
 refine RL.asg rfl rfl rfl ?_
 refine RL.asg rfl rfl rfl ?_
 refine RL.finG ?_
 have h147 := Option.some.inj h147
 subst h147
 exact GL.ret (Gx.ret (v := .tuple #[.int .i64 x13, .int .i64 (0 : Int)]) (res2 rfl rfl rfl) (fun a w st => st.toPostV))

set_option maxHeartbeats 4000000 in
theorem worth_Check_c (S : Hp) (w : World) (hS : S.sub w) (x0 : Int) (v1 : Value) (x1 : (List Int)) (k1 : ((TR.sl TR.int)).vrep S v1 x1) (res : Int) (hm : worth_Check_m x0 x1 = some res) : Calls Try.prog 18 #[.int .i64 x0, v1] w (PostC w (.int .i64 res)) := by
 refine calls_enter 35 Try.func18 Try.ntmps18 rfl S true [(0, .int .i64 x0), (1, v1)] [imm (TR.sl TR.int) v1 x1] rfl ⟨rfl, ⟨rfl, trivial⟩⟩ hS ⟨k1, trivial⟩ ?_
 unfold worth_Check_m at hm
 refine GL.seq ?_
 refine GL.region ?_
 refine RL.asg rfl rfl rfl ?_
 refine RL.finG ?_
 refine GL.seq ?_
 refine GL.seq ?_
 obtain ⟨y6, K7, h8, h9, h10, h11, h12⟩ := bindR_K hm
 refine GL.join (ι := Bool) (fun (p : Bool) => [(0, .int .i64 x0), (1, v1), (12, .bool p)]) (fun (p : Bool) => [imm (TR.sl TR.int) v1 x1]) (fun (p : Bool) => K7 (.nx p)) ?_ ?_
 ·skip
  refine GL.region ?_
  refine RL.mv rfl rfl rfl ?_
  refine RL.binI (v := .bool (decide (x0 < (1 : Int)))) rfl rfl rfl rfl rfl ?_
  refine RL.mv rfl rfl rfl ?_
  refine RL.split (t := 9) rfl (fun b13 => ?_) (fun b13 => ?_)
  ·replace h8 := ite_t b13 h8
   refine RL.skip rfl rfl ?_
   refine RL.skip rfl rfl ?_
   refine RL.pickT rfl rfl rfl rfl ?_
   refine RL.fin ?_
   cases h8
   exact fun a w st => mid_intro true h9 (St.cut [0] ⟨rfl, rfl, rfl, trivial⟩ (by decide) rfl st)
  replace h8 := ite_f b13 h8
  refine RL.mv rfl rfl rfl ?_
  refine RL.binI (v := .bool (decide (x0 > (6 : Int)))) rfl rfl rfl rfl rfl ?_
  refine RL.pickF rfl rfl rfl rfl ?_
  refine RL.fin ?_
  cases h8
  exact fun a w st => mid_intro (decide (x0 > (6 : Int))) h9 (St.cut [0] ⟨rfl, rfl, rfl, trivial⟩ (by decide) rfl st)
 rintro x5 h14
 have h15 := h10 _ h14
 try dsimp only at h15
 refine GL.weak (env' := [(0, .int .i64 x0), (1, v1), (12, .bool x5)]) (L' := [imm (TR.sl TR.int) v1 x1]) (fun _ _ st => st) ?_
 refine GL.cond rfl (fun b16 => ?_) (fun b16 => ?_)
 ·replace h15 := ite_t b16 h15
  refine GL.seq ?_
  refine GL.region ?_
  refine RL.asg rfl rfl rfl ?_
  refine RL.finG ?_
  have h15 := Option.some.inj h15
  subst h15
  exact GL.ret (Gx.ret (v := .int .i64 (1 : Int)) (res1 rfl rfl) (fun a w st => st.toPostC rfl))
 replace h15 := ite_f b16 h15
 refine GL.skip ?_
 refine GL.seq ?_
 refine GL.seq ?_
 refine GL.region ?_
 refine RL.mv rfl rfl rfl ?_
 refine RL.lenS 0 Try.underlying22 rfl rfl rfl rfl SlOf.imm ?_
 refine RL.mv rfl rfl rfl ?_
 obtain ⟨y19, e20, h15⟩ := bind_some h15
 replace e20 := chk_some e20
 refine RL.sh (by simp) rfl rfl rfl rfl e20 ?_
 refine RL.binI (v := .bool (((x1).length : Int) != (IntKind.wrap .i64 ((1 : Int) * 2 ^ (min x0.toNat (IntKind.bits .i64)))))) rfl rfl rfl rfl rfl ?_
 refine RL.finG ?_
 refine GL.cond rfl (fun b21 => ?_) (fun b21 => ?_)
 ·replace h15 := ite_t b21 h15
  refine GL.seq ?_
  refine GL.region ?_
  refine RL.asg rfl rfl rfl ?_
  refine RL.finG ?_
  have h15 := Option.some.inj h15
  subst h15
  exact GL.ret (Gx.ret (v := .int .i64 (3 : Int)) (res1 rfl rfl) (fun a w st => st.toPostC rfl))
 replace h15 := ite_f b21 h15
 refine GL.skip ?_
 refine GL.seq ?_
 refine GL.seq ?_
 refine GL.region ?_
 refine RL.mv rfl rfl rfl ?_
 refine RL.lenS 0 Try.underlying22 rfl rfl rfl rfl SlOf.imm ?_
 refine RL.mv rfl rfl rfl ?_
 refine RL.finG ?_
 refine GL.open_ 0 rfl (fun S h => len_imm S h) (fun n40 => ?_)
 obtain ⟨y41, K42, h43, h44, h45, h46, h47⟩ := bindR_K h15
 refine GL.join (ι := Unit) (fun (p : Unit) => [(1, v1)]) (fun (p : Unit) => [imm (TR.sl TR.int) v1 x1]) (fun (p : Unit) => K42 (.nx ())) ?_ ?_
 ·refine GL.block ?_
  refine GL.loop (ι := Nat × (List Int)) (fun (p : Nat × (List Int)) => [(1, v1), (18, v1), (19, .int .i64 ((x1).length : Int)), (20, .int .i64 (p.1 : Int))]) (fun (p : Nat × (List Int)) => [imm (TR.sl TR.int) v1 x1]) (fun (p : Nat × (List Int)) => p.1 + p.2.length = (x1).length ∧ List.drop p.1 x1 = p.2 ∧ rangeL worth_Check_b1 p.2 p.1 () = some y41) (fun (p : Nat × (List Int)) => p.2.length) (0, x1) ⟨by simp, by simp, h43⟩ (fun a w st => St.cut [0] ⟨rfl, rfl, rfl, rfl, trivial⟩ (by decide) rfl st) ?_
  rintro ⟨i48, r49⟩ ⟨h54, h55, h53⟩
  try dsimp only at h54 h55 h53
  refine GL.weak (env' := [(1, v1), (18, v1), (19, .int .i64 ((x1).length : Int)), (20, .int .i64 (i48 : Int))]) (L' := [imm (TR.sl TR.int) v1 x1]) (fun _ _ st => st) ?_
  refine GL.seq ?_
  refine GL.region ?_
  refine RL.binI (v := .bool (decide ((i48 : Int) < ((x1).length : Int)))) rfl rfl rfl rfl rfl ?_
  refine RL.finG ?_
  refine GL.seq ?_
  refine GL.cond rfl (fun b56 => ?_) (fun b56 => ?_)
  ·have h57 : i48 < (x1).length := by have := of_decide_eq_true b56; omega
   obtain ⟨y58, r60, hr, e59, h61⟩ := drop_cons h55 rfl h57
   subst hr
   obtain ⟨z50, h51, h52⟩ := rangeL_some h53
   unfold worth_Check_b1 at h51
   try dsimp only at h51
   refine GL.skip ?_
   refine GL.seq ?_
   refine GL.block ?_
   refine GL.seq ?_
   refine GL.region ?_
   refine RL.idxS (sz := 1) 0 Try.underlying22 Try_ln3 rfl rfl rfl rfl rfl SlOf.imm (by omega) (by omega) ?_
   refine RL.ldSx (i := i48) (e' := y58) 0 Ex.ik Try_ln3 rfl rfl rfl rfl SlOf.imm e59 Part.self ?_
   refine RL.asg rfl rfl rfl ?_
   refine RL.finG ?_
   refine GL.seq ?_
   obtain ⟨y65, K66, h67, h68, h69, h70, h71⟩ := bindF_K h51
   refine GL.join (ι := Bool) (fun (p : Bool) => [(1, v1), (18, v1), (19, .int .i64 ((x1).length : Int)), (20, .int .i64 (i48 : Int)), (29, .bool p)]) (fun (p : Bool) => [imm (TR.sl TR.int) v1 x1]) (fun (p : Bool) => K66 (.nx p)) ?_ ?_
   ·skip
    refine GL.region ?_
    refine RL.mv rfl rfl rfl ?_
    refine RL.binI (v := .bool (decide (y58 < (-1000000 : Int)))) rfl rfl rfl rfl rfl ?_
    refine RL.mv rfl rfl rfl ?_
    refine RL.split (t := 26) rfl (fun b72 => ?_) (fun b72 => ?_)
    ·replace h67 := ite_t b72 h67
     refine RL.skip rfl rfl ?_
     refine RL.skip rfl rfl ?_
     refine RL.pickT rfl rfl rfl rfl ?_
     refine RL.fin ?_
     cases h67
     exact fun a w st => mid_intro true h68 (St.cut [0] ⟨rfl, rfl, rfl, rfl, rfl, trivial⟩ (by decide) rfl st)
    replace h67 := ite_f b72 h67
    refine RL.mv rfl rfl rfl ?_
    refine RL.binI (v := .bool (decide (y58 > (1000000 : Int)))) rfl rfl rfl rfl rfl ?_
    refine RL.pickF rfl rfl rfl rfl ?_
    refine RL.fin ?_
    cases h67
    exact fun a w st => mid_intro (decide (y58 > (1000000 : Int))) h68 (St.cut [0] ⟨rfl, rfl, rfl, rfl, rfl, trivial⟩ (by decide) rfl st)
   rintro x64 h73
   have h74 := h69 _ h73
   try dsimp only at h74
   refine GL.weak (env' := [(1, v1), (18, v1), (19, .int .i64 ((x1).length : Int)), (20, .int .i64 (i48 : Int)), (29, .bool x64)]) (L' := [imm (TR.sl TR.int) v1 x1]) (fun _ _ st => st) ?_
   refine GL.cond rfl (fun b75 => ?_) (fun b75 => ?_)
   ·replace h74 := ite_t b75 h74
    refine GL.seq ?_
    refine GL.region ?_
    refine RL.asg rfl rfl rfl ?_
    refine RL.finG ?_
    cases h74
    replace h52 : some (Fl.rt _) = some y41 := h52
    cases h52
    have hh := h46 _ h44
    subst hh
    exact GL.ret (Gx.ret (v := .int .i64 (1 : Int)) (res1 rfl rfl) (fun a w st => st.toPostC rfl))
   replace h74 := ite_f b75 h74
   refine GL.skip ?_
   refine GL.nilB ?_
   refine GL.region ?_
   refine RL.binI (v := .int .i64 ((i48 + 1 : Nat) : Int)) rfl rfl rfl rfl (binI_succ i48 (by omega)) ?_
   refine RL.mv rfl rfl rfl ?_
   refine RL.fin ?_
   cases h74
   exact fun a w st => lop_intro (i48 + 1, r60) ⟨by show i48 + 1 + r60.length = (x1).length; simp only [List.length_cons] at h54; omega, h61, h52⟩ (by simp) (St.cut [0] ⟨rfl, rfl, rfl, rfl, trivial⟩ (by decide) rfl st)
  have h57 : ¬ i48 < (x1).length := by have := of_decide_eq_false b56; omega
  obtain rfl : r49 = [] := by rw [← h55]; exact List.drop_of_length_le (by omega)
  replace h53 : some (Fl.nx _) = some y41 := h53
  cases h53
  exact GL.exit (fun a w st => mid_intro () h44 (St.cut [0] ⟨rfl, trivial⟩ (by decide) rfl st))
 rintro ⟨⟩ h76
 have h77 := h45 _ h76
 try dsimp only at h77
 refine GL.weak (env' := [(1, v1)]) (L' := [imm (TR.sl TR.int) v1 x1]) (fun _ _ st => st) ?_
 refine GL.seq ?_
 refine GL.seq ?_
 refine GL.region ?_
 refine RL.mv rfl rfl rfl ?_
 obtain ⟨y80, e81, h77⟩ := bind_some h77
 refine RL.idxS (sz := 1) 0 Try.underlying22 Try_ln3 rfl rfl rfl rfl rfl SlOf.imm (idx_some e81).1 (idx_some e81).2.1 ?_
 refine RL.ldSx (i := ((0 : Int)).toNat) (e' := y80) 0 Ex.ik Try_ln3 rfl rfl rfl rfl SlOf.imm (idx_some e81).2.2 Part.self ?_
 refine RL.binI (v := .bool (y80 != (0 : Int))) rfl rfl rfl rfl rfl ?_
 refine RL.finG ?_
 refine GL.cond rfl (fun b82 => ?_) (fun b82 => ?_)
 ·replace h77 := ite_t b82 h77
  refine GL.seq ?_
  refine GL.region ?_
  refine RL.asg rfl rfl rfl ?_
  refine RL.finG ?_
  have h77 := Option.some.inj h77
  subst h77
  exact GL.ret (Gx.ret (v := .int .i64 (3 : Int)) (res1 rfl rfl) (fun a w st => st.toPostC rfl))
 replace h77 := ite_f b82 h77
 refine GL.skip ?_
 refine GL.seq ?_
 refine GL.region ?_
 refine RL.asg rfl rfl rfl ?_
 refine RL.finG ?_
 have h77 := Option.some.inj h77
 subst h77
 exact GL.ret (Gx.ret (v := .int .i64 (0 : Int)) (res1 rfl rfl) (fun a w st => st.toPostC rfl))

set_option maxHeartbeats 4000000 in
theorem worth_size_c (S : Hp) (w : World) (hS : S.sub w) (x0 : Int) (res : Int) (hm : worth_size_m x0 = some res) : Calls Try.prog 19 #[.int .i64 x0] w (PostC w (.int .i64 res)) := by
 refine calls_enter 13 Try.func19 Try.ntmps19 rfl S true [(0, .int .i64 x0)] [] rfl ⟨rfl, trivial⟩ hS trivial ?_
 unfold worth_size_m at hm
 refine GL.seq ?_
 refine GL.region ?_
 refine RL.asg rfl rfl rfl ?_
 refine RL.finG ?_
 refine GL.seq ?_
 refine GL.region ?_
 refine RL.asg rfl rfl rfl ?_
 refine RL.finG ?_
 refine GL.seq ?_
 obtain ⟨y13, K14, h15, h16, h17, h18, h19⟩ := bindR_K hm
 refine GL.join (ι := Int × Int) (fun (p : Int × Int) => [(3, .int .i64 p.2)]) (fun (p : Int × Int) => []) (fun (p : Int × Int) => K14 (.nx (p.1, p.2))) ?_ ?_
 ·refine GL.block ?_
  refine GL.loop (ι := Nat × Int × Int) (fun (p : Nat × Int × Int) => [(0, .int .i64 p.2.1), (3, .int .i64 p.2.2)]) (fun (p : Nat × Int × Int) => []) (fun (p : Nat × Int × Int) => loopM worth_size_b1 p.1 (p.2.1, p.2.2) = some y13) (fun (p : Nat × Int × Int) => p.1) (1048576, x0, (0 : Int)) h15 (fun a w st => St.cut [] ⟨rfl, rfl, trivial⟩ (by decide) rfl st) ?_
  rintro ⟨r21, x2, x3⟩ h25
  try dsimp only at h25
  refine GL.weak (env' := [(0, .int .i64 x2), (3, .int .i64 x3)]) (L' := []) (fun _ _ st => st) ?_
  obtain ⟨r28, z22, hr, h23, h24⟩ := loopM_some h25
  subst hr
  unfold worth_size_b1 at h23
  try dsimp only at h23
  refine GL.seq ?_
  refine GL.seq ?_
  refine GL.region ?_
  refine RL.mv rfl rfl rfl ?_
  refine RL.binI (v := .bool (decide (x2 > (0 : Int)))) rfl rfl rfl rfl rfl ?_
  refine RL.finG ?_
  refine GL.cond rfl (fun b29 => ?_) (fun b29 => ?_)
  ·replace h23 := ite_t b29 h23
   refine GL.skip ?_
   refine GL.seq ?_
   refine GL.block ?_
   refine GL.region ?_
   refine RL.mv rfl rfl rfl ?_
   refine RL.mv rfl rfl rfl ?_
   obtain ⟨y32, e33, h23⟩ := bind_some h23
   replace e33 := chk_some e33
   refine RL.rem rfl rfl rfl rfl e33 ?_
   refine RL.binI (v := .int .i64 (wadd x3 (Int.tmod x2 (2 : Int)))) rfl rfl rfl rfl rfl ?_
   refine RL.asg rfl rfl rfl ?_
   refine RL.finG ?_
   refine GL.nilB ?_
   refine GL.region ?_
   refine RL.mv rfl rfl rfl ?_
   obtain ⟨y36, e37, h23⟩ := bind_some h23
   replace e37 := chk_some e37
   refine RL.quo rfl rfl rfl rfl e37 ?_
   refine RL.asg rfl rfl rfl ?_
   refine RL.finG ?_
   cases h23
   exact fun a w st => lop_intro (r28, IntKind.wrap .i64 (Int.tdiv x2 (2 : Int)), wadd x3 (Int.tmod x2 (2 : Int))) (by exact h24) (by simp) (St.cut [] ⟨rfl, rfl, trivial⟩ (by decide) rfl st)
  replace h23 := ite_f b29 h23
  cases h23
  replace h24 : some (Fl.nx _) = some y13 := h24
  cases h24
  exact GL.exit (fun a w st => mid_intro (x2, x3) h16 (St.cut [] ⟨rfl, trivial⟩ (by decide) rfl st))
 rintro ⟨x2, x3⟩ h38
 have h39 := h17 _ h38
 try dsimp only at h39
 refine GL.weak (env' := [(3, .int .i64 x3)]) (L' := []) (fun _ _ st => st) ?_
 refine GL.seq ?_
 refine GL.region ?_
 refine RL.mv rfl rfl rfl ?_
 refine RL.asg rfl rfl rfl ?_
 refine RL.finG ?_
 have h39 := Option.some.inj h39
 subst h39
 exact GL.ret (Gx.ret (v := .int .i64 x3) (res1 rfl rfl) (fun a w st => st.toPostC rfl))

set_option maxHeartbeats 4000000 in
theorem worth_factorial_c (S : Hp) (w : World) (hS : S.sub w) (x0 : Int) (res : Int) (hm : worth_factorial_m x0 = some res) : Calls Try.prog 20 #[.int .i64 x0] w (PostC w (.int .i64 res)) := by
 refine calls_enter 14 Try.func20 Try.ntmps20 rfl S true [(0, .int .i64 x0)] [] rfl ⟨rfl, trivial⟩ hS trivial ?_
 unfold worth_factorial_m at hm
 refine GL.seq ?_
 refine GL.region ?_
 refine RL.asg rfl rfl rfl ?_
 refine RL.finG ?_
 refine GL.seq ?_
 refine GL.region ?_
 refine RL.asg rfl rfl rfl ?_
 refine RL.finG ?_
 refine GL.seq ?_
 refine GL.seq ?_
 refine GL.region ?_
 refine RL.asg rfl rfl rfl ?_
 refine RL.finG ?_
 obtain ⟨y5, K6, h7, h8, h9, h10, h11⟩ := bindR_K hm
 refine GL.join (ι := Int × Int) (fun (p : Int × Int) => [(3, .int .i64 p.1)]) (fun (p : Int × Int) => []) (fun (p : Int × Int) => K6 (.nx (p.1, p.2))) ?_ ?_
 ·refine GL.block ?_
  refine GL.loop (ι := Nat × Int × Int) (fun (p : Nat × Int × Int) => [(0, .int .i64 x0), (3, .int .i64 p.2.1), (4, .int .i64 p.2.2)]) (fun (p : Nat × Int × Int) => []) (fun (p : Nat × Int × Int) => loopM (worth_factorial_b1 x0) p.1 (p.2.1, p.2.2) = some y5) (fun (p : Nat × Int × Int) => p.1) (1048576, (1 : Int), (2 : Int)) h7 (fun a w st => St.cut [] ⟨rfl, rfl, rfl, trivial⟩ (by decide) rfl st) ?_
  rintro ⟨r13, x2, x3⟩ h17
  try dsimp only at h17
  refine GL.weak (env' := [(0, .int .i64 x0), (3, .int .i64 x2), (4, .int .i64 x3)]) (L' := []) (fun _ _ st => st) ?_
  obtain ⟨r20, z14, hr, h15, h16⟩ := loopM_some h17
  subst hr
  unfold worth_factorial_b1 at h15
  try dsimp only at h15
  refine GL.seq ?_
  refine GL.seq ?_
  refine GL.region ?_
  refine RL.mv rfl rfl rfl ?_
  refine RL.mv rfl rfl rfl ?_
  refine RL.binI (v := .bool (decide (x3 ≤ x0))) rfl rfl rfl rfl rfl ?_
  refine RL.finG ?_
  refine GL.cond rfl (fun b21 => ?_) (fun b21 => ?_)
  ·replace h15 := ite_t b21 h15
   refine GL.skip ?_
   refine GL.seq ?_
   refine GL.block ?_
   refine GL.region ?_
   refine RL.mv rfl rfl rfl ?_
   refine RL.mv rfl rfl rfl ?_
   refine RL.binI (v := .int .i64 (wmul x2 x3)) rfl rfl rfl rfl rfl ?_
   refine RL.asg rfl rfl rfl ?_
   refine RL.finG ?_
   refine GL.nilB ?_
   refine GL.region ?_
   refine RL.mv rfl rfl rfl ?_
   refine RL.binI (v := .int .i64 (wadd x3 (1 : Int))) rfl rfl rfl rfl rfl ?_
   refine RL.asg rfl rfl rfl ?_
   refine RL.finG ?_
   cases h15
   exact fun a w st => lop_intro (r20, wmul x2 x3, wadd x3 (1 : Int)) (by exact h16) (by simp) (St.cut [] ⟨rfl, rfl, rfl, trivial⟩ (by decide) rfl st)
  replace h15 := ite_f b21 h15
  cases h15
  replace h16 : some (Fl.nx _) = some y5 := h16
  cases h16
  exact GL.exit (fun a w st => mid_intro (x2, x3) h8 (St.cut [] ⟨rfl, trivial⟩ (by decide) rfl st))
 rintro ⟨x2, x3⟩ h22
 have h23 := h9 _ h22
 try dsimp only at h23
 refine GL.weak (env' := [(3, .int .i64 x2)]) (L' := []) (fun _ _ st => st) ?_
 refine GL.seq ?_
 refine GL.region ?_
 refine RL.mv rfl rfl rfl ?_
 refine RL.asg rfl rfl rfl ?_
 refine RL.finG ?_
 have h23 := Option.some.inj h23
 subst h23
 exact GL.ret (Gx.ret (v := .int .i64 x2) (res1 rfl rfl) (fun a w st => st.toPostC rfl))

set_option maxHeartbeats 4000000 in
theorem worth_Share_c (S : Hp) (w : World) (hS : S.sub w) (x0 : Int) (v1 : Value) (x1 : (List Int)) (k1 : ((TR.sl TR.int)).vrep S v1 x1) (res : (List Int) × Int) (hm : worth_Share_m x0 x1 = some res) : Calls Try.prog 12 #[.int .i64 x0, v1] w (Post w S (fun (o : Value) => .tuple #[o, .int .i64 res.2]) (fun (o : Value) => [own 3 TR.int o res.1])) := by
 refine calls_enter 65 Try.func12 Try.ntmps12 rfl S false [(0, .int .i64 x0), (1, v1)] [imm (TR.sl TR.int) v1 x1] rfl ⟨rfl, ⟨rfl, trivial⟩⟩ hS ⟨k1, trivial⟩ ?_
 unfold worth_Share_m at hm
 refine GL.seq ?_
 refine GL.region ?_
 refine RL.asg rfl rfl rfl ?_
 refine RL.asg rfl rfl rfl ?_
 refine RL.finG ?_
 refine GL.seq ?_
 refine GL.seq ?_
 refine GL.region ?_
 refine RL.mv rfl rfl rfl ?_
 refine RL.mv rfl rfl rfl ?_
 obtain ⟨y5, e6, hm⟩ := bind_some hm
 refine RL.callC (v := .int .i64 y5) (vs := [.int .i64 x0, v1]) Try_fit18 rfl rfl rfl rfl (fun U w hU hW hL => worth_Check_c U w hU x0 _ _ (hL 0 _ _ rfl Seen.imm) _ e6) ?_
 refine RL.asg rfl rfl rfl ?_
 refine RL.finG ?_
 refine GL.seq ?_
 refine GL.region ?_
 refine RL.mv rfl rfl rfl ?_
 refine RL.binI (v := .bool (y5 != (0 : Int))) rfl rfl rfl rfl rfl ?_
 refine RL.finG ?_
 refine GL.cond rfl (fun b7 => ?_) (fun b7 => ?_)
 ·replace hm := ite_t b7 hm
  refine GL.seq ?_
  refine GL.region ?_
  refine RL.mv rfl rfl rfl ?_
  refine RL.asg rfl rfl rfl ?_
  refine RL.asg rfl rfl rfl ?_
  refine RL.finG ?_
  refine GL.weak (fun a w st => st.nilOwn 3 TR.int) ?_
  have hm := Option.some.inj hm
  subst hm
  exact GL.ret (Gx.ret (v := .tuple #[Value.slice none 0 0, .int .i64 y5]) (res2 rfl rfl rfl) (fun a w st => (st.pick [1] (by decide) rfl).toPost (Value.slice none 0 0)))
 replace hm := ite_f b7 hm
 refine GL.skip ?_
 refine GL.seq ?_
 refine GL.region ?_
 refine RL.mv rfl rfl rfl ?_
 obtain ⟨y11, e12, hm⟩ := bind_some hm
 replace e12 := chk_some e12
 refine RL.mkS (t := TR.int) (z := (0 : Int)) Try.underlying22 Try_lo3 (fun S => rfl) rfl rfl rfl rfl e12.1 e12.2 ?_
 intro v13
 refine RL.asg rfl rfl rfl ?_
 refine RL.finG ?_
 refine GL.seq ?_
 refine GL.seq ?_
 refine GL.region ?_
 refine RL.mv rfl rfl rfl ?_
 refine RL.lenS 0 Try.underlying22 rfl rfl rfl rfl SlOf.imm ?_
 refine RL.mv rfl rfl rfl ?_
 refine RL.finG ?_
 refine GL.open_ 0 rfl (fun S h => len_imm S h) (fun n285 => ?_)
 obtain ⟨y286, K287, h288, h289, h290, h291, h292⟩ := bindR_K hm
 refine GL.join (ι := (List Int)) (fun (p : (List Int)) => [(7, v13)]) (fun (p : (List Int)) => [own 3 TR.int v13 p]) (fun (p : (List Int)) => K287 (.nx p)) ?_ ?_
 ·refine GL.block ?_
  refine GL.loop (ι := Nat × (List Int) × (List Int)) (fun (p : Nat × (List Int) × (List Int)) => [(0, .int .i64 x0), (1, v1), (7, v13), (20, .int .i64 ((x1).length : Int)), (21, .int .i64 (p.1 : Int))]) (fun (p : Nat × (List Int) × (List Int)) => [imm (TR.sl TR.int) v1 x1, own 3 TR.int v13 p.2.2]) (fun (p : Nat × (List Int) × (List Int)) => p.1 + p.2.1.length = (x1).length ∧ List.drop p.1 x1 = p.2.1 ∧ rangeL (worth_Share_b1 x0 x1) p.2.1 p.1 p.2.2 = some y286) (fun (p : Nat × (List Int) × (List Int)) => p.2.1.length) (0, x1, (List.replicate (x0).toNat (0 : Int))) ⟨by simp, by simp, h288⟩ (fun a w st => St.cut [0, 1] ⟨rfl, rfl, rfl, rfl, rfl, trivial⟩ (by decide) rfl st) ?_
  rintro ⟨i293, r294, l149⟩ ⟨h299, h300, h298⟩
  try dsimp only at h299 h300 h298
  refine GL.weak (env' := [(0, .int .i64 x0), (1, v1), (7, v13), (20, .int .i64 ((x1).length : Int)), (21, .int .i64 (i293 : Int))]) (L' := [imm (TR.sl TR.int) v1 x1, own 3 TR.int v13 l149]) (fun _ _ st => st) ?_
  refine GL.seq ?_
  refine GL.region ?_
  refine RL.binI (v := .bool (decide ((i293 : Int) < ((x1).length : Int)))) rfl rfl rfl rfl rfl ?_
  refine RL.finG ?_
  refine GL.seq ?_
  refine GL.cond rfl (fun b301 => ?_) (fun b301 => ?_)
  ·have h302 : i293 < (x1).length := by have := of_decide_eq_true b301; omega
   obtain ⟨y303, r305, hr, e304, h306⟩ := drop_cons h300 rfl h302
   subst hr
   obtain ⟨z295, h296, h297⟩ := rangeL_some h298
   unfold worth_Share_b1 at h296
   try dsimp only at h296
   refine GL.skip ?_
   refine GL.seq ?_
   refine GL.block ?_
   refine GL.seq ?_
   refine GL.region ?_
   refine RL.mv rfl rfl rfl ?_
   refine RL.asg rfl rfl rfl ?_
   refine RL.finG ?_
   refine GL.seq ?_
   refine GL.region ?_
   refine RL.mv rfl rfl rfl ?_
   refine RL.mv rfl rfl rfl ?_
   refine RL.finG ?_
   obtain ⟨y375, e376, h296⟩ := bind_some h296
   replace e376 := chk_some e376
   obtain ⟨y377, K378, h379, h380, h381, h382, h383⟩ := bindF_K h296
   refine GL.join (ι := (List Int)) (fun (p : (List Int)) => [(0, .int .i64 x0), (1, v1), (7, v13), (20, .int .i64 ((x1).length : Int)), (21, .int .i64 (i293 : Int))]) (fun (p : (List Int)) => [imm (TR.sl TR.int) v1 x1, own 3 TR.int v13 p]) (fun (p : (List Int)) => K378 (.nx p)) ?_ ?_
   ·refine GL.block ?_
    refine GL.loop (ι := Nat × Nat × (List Int)) (fun (p : Nat × Nat × (List Int)) => [(0, .int .i64 x0), (1, v1), (7, v13), (8, .int .i64 (i293 : Int)), (20, .int .i64 ((x1).length : Int)), (21, .int .i64 (i293 : Int)), (24, .int .i64 x0), (25, .int .i64 (p.1 : Int))]) (fun (p : Nat × Nat × (List Int)) => [imm (TR.sl TR.int) v1 x1, own 3 TR.int v13 p.2.2]) (fun (p : Nat × Nat × (List Int)) => p.1 + p.2.1 = (x0).toNat ∧ rangeN (worth_Share_b2 i293 x0 x1 y303) p.2.1 p.1 p.2.2 = some y377) (fun (p : Nat × Nat × (List Int)) => p.2.1) (0, (x0).toNat, l149) ⟨by simp, h379⟩ (fun a w st => St.cut [0, 1] ⟨rfl, rfl, rfl, rfl, rfl, rfl, rfl, rfl, trivial⟩ (by decide) rfl st) ?_
    rintro ⟨i384, r385, l340⟩ ⟨h390, h389⟩
    try dsimp only at h390 h389
    refine GL.weak (env' := [(0, .int .i64 x0), (1, v1), (7, v13), (8, .int .i64 (i293 : Int)), (20, .int .i64 ((x1).length : Int)), (21, .int .i64 (i293 : Int)), (24, .int .i64 x0), (25, .int .i64 (i384 : Int))]) (L' := [imm (TR.sl TR.int) v1 x1, own 3 TR.int v13 l340]) (fun _ _ st => st) ?_
    refine GL.seq ?_
    refine GL.region ?_
    refine RL.binI (v := .bool (decide ((i384 : Int) < x0))) rfl rfl rfl rfl rfl ?_
    refine RL.finG ?_
    refine GL.seq ?_
    refine GL.cond rfl (fun b392 => ?_) (fun b392 => ?_)
    ·have h393 : i384 < (x0).toNat := by have := of_decide_eq_true b392; omega
     obtain ⟨r394, hr⟩ : ∃ m, r385 = m + 1 := ⟨r385 - 1, by omega⟩
     subst hr
     obtain ⟨z386, h387, h388⟩ := rangeN_some h389
     unfold worth_Share_b2 at h387
     try dsimp only at h387
     refine GL.skip ?_
     refine GL.seq ?_
     refine GL.block ?_
     refine GL.seq ?_
     refine GL.region ?_
     refine RL.mv rfl rfl rfl ?_
     refine RL.asg rfl rfl rfl ?_
     refine RL.finG ?_
     refine GL.seq ?_
     refine GL.region ?_
     refine RL.mv rfl rfl rfl ?_
     refine RL.mv rfl rfl rfl ?_
     obtain ⟨y397, e398, h387⟩ := bind_some h387
     replace e398 := chk_some e398
     refine RL.sh (by simp) rfl rfl rfl rfl e398 ?_
     refine RL.binI (v := .int .i64 (bits .and .i64 (Int.fdiv (i293 : Int) (2 ^ (min (i384 : Int).toNat (IntKind.bits .i64)))) (1 : Int))) rfl rfl rfl rfl rfl ?_
     refine RL.binI (v := .bool ((bits .and .i64 (Int.fdiv (i293 : Int) (2 ^ (min (i384 : Int).toNat (IntKind.bits .i64)))) (1 : Int)) == (0 : Int))) rfl rfl rfl rfl rfl ?_
     refine RL.finG ?_
     refine GL.cond rfl (fun b399 => ?_) (fun b399 => ?_)
     ·replace h387 := ite_t b399 h387
      refine GL.seq ?_
      refine GL.region ?_
      refine RL.mv rfl rfl rfl ?_
      obtain ⟨y402, e403, h387⟩ := bind_some h387
      refine RL.callC (v := .int .i64 y402) (vs := [.int .i64 (i293 : Int)]) Try_fit19 rfl rfl rfl rfl (fun U w hU hW hL => worth_size_c U w hU (i293 : Int) _ e403) ?_
      refine RL.asg rfl rfl rfl ?_
      refine RL.finG ?_
      refine GL.regionH 27 rfl rfl (by kernel_rfl) ?_
      simp only [List.take_succ_cons, List.take_zero, List.drop_succ_cons, List.drop_zero]
      refine RL.mv rfl rfl rfl ?_
      refine RL.mv rfl rfl rfl ?_
      obtain ⟨y416, e417, h387⟩ := bind_some h387
      refine RL.idxS (sz := 1) 1 Try.underlying22 Try_ln3 rfl rfl rfl rfl rfl SlOf.own (idx_some e417).1 (idx_some e417).2.1 ?_
      refine RL.ldSx (i := i384) (e' := y416) 1 Ex.ik Try_ln3 rfl rfl rfl rfl SlOf.own (idx_some e417).2.2 Part.self ?_
      refine RL.mv rfl rfl rfl ?_
      obtain ⟨y418, e419, h387⟩ := bind_some h387
      refine RL.callC (v := .int .i64 y418) (vs := [.int .i64 y402]) Try_fit20 rfl rfl rfl rfl (fun U w hU hW hL => worth_factorial_c U w hU y402 _ e419) ?_
      refine RL.mv rfl rfl rfl ?_
      refine RL.binI (v := .int .i64 (wsub x0 (1 : Int))) rfl rfl rfl rfl rfl ?_
      refine RL.mv rfl rfl rfl ?_
      refine RL.binI (v := .int .i64 (wsub (wsub x0 (1 : Int)) y402)) rfl rfl rfl rfl rfl ?_
      obtain ⟨y420, e421, h387⟩ := bind_some h387
      refine RL.callC (v := .int .i64 y420) (vs := [.int .i64 (wsub (wsub x0 (1 : Int)) y402)]) Try_fit20 rfl rfl rfl rfl (fun U w hU hW hL => worth_factorial_c U w hU (wsub (wsub x0 (1 : Int)) y402) _ e421) ?_
      refine RL.binI (v := .int .i64 (wmul y418 y420)) rfl rfl rfl rfl rfl ?_
      refine RL.mv rfl rfl rfl ?_
      refine RL.mv rfl rfl rfl ?_
      refine RL.mv rfl rfl rfl ?_
      obtain ⟨y422, e423, h387⟩ := bind_some h387
      replace e423 := chk_some e423
      refine RL.sh (by simp) rfl rfl rfl rfl e423 ?_
      refine RL.binI (v := .int .i64 (bits .or .i64 (i293 : Int) (IntKind.wrap .i64 ((1 : Int) * 2 ^ (min (i384 : Int).toNat (IntKind.bits .i64)))))) rfl rfl rfl rfl rfl ?_
      obtain ⟨y424, e425, h387⟩ := bind_some h387
      refine RL.idxS (sz := 1) 0 Try.underlying22 Try_ln3 rfl rfl rfl rfl rfl SlOf.imm (idx_some e425).1 (idx_some e425).2.1 ?_
      refine RL.ldSx (i := (bits .or .i64 (i293 : Int) (IntKind.wrap .i64 ((1 : Int) * 2 ^ (min (i384 : Int).toNat (IntKind.bits .i64))))).toNat) (e' := y424) 0 Ex.ik Try_ln3 rfl rfl rfl rfl SlOf.imm (idx_some e425).2.2 Part.self ?_
      refine RL.mv rfl rfl rfl ?_
      refine RL.mv rfl rfl rfl ?_
      refine RL.idxS (sz := 1) 0 Try.underlying22 Try_ln3 rfl rfl rfl rfl rfl SlOf.imm (by omega) (by omega) ?_
      refine RL.ldSx (i := i293) (e' := y303) 0 Ex.ik Try_ln3 rfl rfl rfl rfl SlOf.imm e304 Part.self ?_
      refine RL.binI (v := .int .i64 (wsub y424 y303)) rfl rfl rfl rfl rfl ?_
      refine RL.binI (v := .int .i64 (wmul (wmul y418 y420) (wsub y424 y303))) rfl rfl rfl rfl rfl ?_
      refine RL.binI (v := .int .i64 (wadd y416 (wmul (wmul y418 y420) (wsub y424 y303)))) rfl rfl rfl rfl rfl ?_
      obtain ⟨y426, e427, h387⟩ := bind_some h387
      refine RL.idxS (sz := 1) 1 Try.underlying22 Try_ln3 rfl rfl rfl rfl rfl SlOf.own (idx_some e427).1 (idx_some e427).2.1 ?_
      refine RL.finH ?_
      refine RL.stS (i := i384) (e' := wadd y416 (wmul (wmul y418 y420) (wsub y424 y303))) (e1 := wadd y416 (wmul (wmul y418 y420) (wsub y424 y303))) (r := TR.int) 1 Try_ln3 rfl rfl rfl rfl VR.int rfl (idx_some e427).2.2 Upd.self ?_
      refine RL.finG ?_
      refine GL.weak (env' := [(0, .int .i64 x0), (1, v1), (7, v13), (8, .int .i64 (i293 : Int)), (20, .int .i64 ((x1).length : Int)), (21, .int .i64 (i293 : Int)), (24, .int .i64 x0), (25, .int .i64 (i384 : Int))]) (L' := [imm (TR.sl TR.int) v1 x1, own 3 TR.int v13 (List.set l340 i384 (wadd y416 (wmul (wmul y418 y420) (wsub y424 y303))))]) (fun a w st => St.cut [0, 1] ⟨rfl, rfl, rfl, rfl, rfl, rfl, rfl, rfl, trivial⟩ (by decide) rfl st) ?_
      refine GL.nilB ?_
      refine GL.region ?_
      refine RL.binI (v := .int .i64 ((i384 + 1 : Nat) : Int)) rfl rfl rfl rfl (binI_succ i384 (by omega)) ?_
      refine RL.mv rfl rfl rfl ?_
      refine RL.fin ?_
      cases h387
      exact fun a w st => lop_intro (i384 + 1, r394, (List.set l340 i384 (wadd y416 (wmul (wmul y418 y420) (wsub y424 y303))))) ⟨by show i384 + 1 + r394 = (x0).toNat; omega, h388⟩ (by simp) (St.cut [0, 1] ⟨rfl, rfl, rfl, rfl, rfl, rfl, rfl, rfl, trivial⟩ (by decide) rfl st)
     replace h387 := ite_f b399 h387
     refine GL.skip ?_
     refine GL.nilB ?_
     refine GL.region ?_
     refine RL.binI (v := .int .i64 ((i384 + 1 : Nat) : Int)) rfl rfl rfl rfl (binI_succ i384 (by omega)) ?_
     refine RL.mv rfl rfl rfl ?_
     refine RL.fin ?_
     cases h387
     exact fun a w st => lop_intro (i384 + 1, r394, l340) ⟨by show i384 + 1 + r394 = (x0).toNat; omega, h388⟩ (by simp) (St.cut [0, 1] ⟨rfl, rfl, rfl, rfl, rfl, rfl, rfl, rfl, trivial⟩ (by decide) rfl st)
    have h393 : ¬ i384 < (x0).toNat := by have := of_decide_eq_false b392; omega
    obtain rfl : r385 = 0 := by omega
    replace h389 : some (Fl.nx _) = some y377 := h389
    cases h389
    exact GL.exit (fun a w st => mid_intro l340 h380 (St.cut [0, 1] ⟨rfl, rfl, rfl, rfl, rfl, trivial⟩ (by decide) rfl st))
   rintro l340 h428
   have h429 := h381 _ h428
   try dsimp only at h429
   refine GL.weak (env' := [(0, .int .i64 x0), (1, v1), (7, v13), (20, .int .i64 ((x1).length : Int)), (21, .int .i64 (i293 : Int))]) (L' := [imm (TR.sl TR.int) v1 x1, own 3 TR.int v13 l340]) (fun _ _ st => st) ?_
   refine GL.nilB ?_
   refine GL.region ?_
   refine RL.binI (v := .int .i64 ((i293 + 1 : Nat) : Int)) rfl rfl rfl rfl (binI_succ i293 (by omega)) ?_
   refine RL.mv rfl rfl rfl ?_
   refine RL.fin ?_
   cases h429
   exact fun a w st => lop_intro (i293 + 1, r305, l340) ⟨by show i293 + 1 + r305.length = (x1).length; simp only [List.length_cons] at h299; omega, h306, h297⟩ (by simp) (St.cut [0, 1] ⟨rfl, rfl, rfl, rfl, rfl, trivial⟩ (by decide) rfl st)
  have h302 : ¬ i293 < (x1).length := by have := of_decide_eq_false b301; omega
  obtain rfl : r294 = [] := by rw [← h300]; exact List.drop_of_length_le (by omega)
  replace h298 : some (Fl.nx _) = some y286 := h298
  cases h298
  exact GL.exit (fun a w st => mid_intro l149 h289 (St.cut [1] ⟨rfl, trivial⟩ (by decide) rfl st))
 rintro l149 h430
 have h431 := h290 _ h430
 try dsimp only at h431
 refine GL.weak (env' := [(7, v13)]) (L' := [own 3 TR.int v13 l149]) (fun _ _ st => st) ?_
 refine GL.seq ?_
 refine GL.region ?_
 refine RL.mv rfl rfl rfl ?_
 refine RL.asg rfl rfl rfl ?_
 refine RL.asg rfl rfl rfl ?_
 refine RL.finG ?_
 have h431 := Option.some.inj h431
 subst h431
 exact GL.ret (Gx.ret (v := .tuple #[v13, .int .i64 (0 : Int)]) (res2 rfl rfl rfl) (fun a w st => (st.pick [0] (by decide) rfl).toPost v13))

set_option maxHeartbeats 4000000 in
theorem slices_Equal_int_int_c (S : Hp) (w : World) (hS : S.sub w) (v0 : Value) (x0 : (List Int)) (k0 : ((TR.sl TR.int)).vrep S v0 x0) (v1 : Value) (x1 : (List Int)) (k1 : ((TR.sl TR.int)).vrep S v1 x1) (res : Bool) (hm : slices_Equal_int_int_m x0 x1 = some res) : Calls Try.prog 13 #[v0, v1] w (PostV w (.bool res)) := by
 refine calls_enter 26 Try.func13 Try.ntmps13 rfl S false [(0, v0), (1, v1)] [imm (TR.sl TR.int) v0 x0, imm (TR.sl TR.int) v1 x1] rfl ⟨rfl, ⟨rfl, trivial⟩⟩ hS ⟨k0, ⟨k1, trivial⟩⟩ ?_
 unfold slices_Equal_int_int_m at hm
 refine GL.seq ?_
 refine GL.region ?_
 refine RL.asg rfl rfl rfl ?_
 refine RL.finG ?_
 refine GL.seq ?_
 refine GL.seq ?_
 refine GL.region ?_
 refine RL.mv rfl rfl rfl ?_
 refine RL.lenS 0 Try.underlying22 rfl rfl rfl rfl SlOf.imm ?_
 refine RL.mv rfl rfl rfl ?_
 refine RL.lenS 1 Try.underlying22 rfl rfl rfl rfl SlOf.imm ?_
 refine RL.binI (v := .bool (((x0).length : Int) != ((x1).length : Int))) rfl rfl rfl rfl rfl ?_
 refine RL.finG ?_
 refine GL.cond rfl (fun b3 => ?_) (fun b3 => ?_)
 ·replace hm := ite_t b3 hm
  refine GL.seq ?_
  refine GL.region ?_
  refine RL.asg rfl rfl rfl ?_
  refine RL.finG ?_
  have hm := Option.some.inj hm
  subst hm
  exact GL.ret (Gx.ret (v := .bool false) (res1 rfl rfl) (fun a w st => st.toPostV))
 replace hm := ite_f b3 hm
 refine GL.skip ?_
 refine GL.seq ?_
 refine GL.seq ?_
 refine GL.region ?_
 refine RL.mv rfl rfl rfl ?_
 refine RL.lenS 0 Try.underlying22 rfl rfl rfl rfl SlOf.imm ?_
 refine RL.mv rfl rfl rfl ?_
 refine RL.finG ?_
 refine GL.open_ 0 rfl (fun S h => len_imm S h) (fun n13 => ?_)
 obtain ⟨y14, K15, h16, h17, h18, h19, h20⟩ := bindR_K hm
 refine GL.join (ι := Unit) (fun (p : Unit) => []) (fun (p : Unit) => []) (fun (p : Unit) => K15 (.nx ())) ?_ ?_
 ·refine GL.block ?_
  refine GL.loop (ι := Nat × (List Int)) (fun (p : Nat × (List Int)) => [(0, v0), (1, v1), (12, .int .i64 ((x0).length : Int)), (13, .int .i64 (p.1 : Int))]) (fun (p : Nat × (List Int)) => [imm (TR.sl TR.int) v0 x0, imm (TR.sl TR.int) v1 x1]) (fun (p : Nat × (List Int)) => p.1 + p.2.length = (x0).length ∧ List.drop p.1 x0 = p.2 ∧ rangeL (slices_Equal_int_int_b1 x1) p.2 p.1 () = some y14) (fun (p : Nat × (List Int)) => p.2.length) (0, x0) ⟨by simp, by simp, h16⟩ (fun a w st => St.cut [0, 1] ⟨rfl, rfl, rfl, rfl, trivial⟩ (by decide) rfl st) ?_
  rintro ⟨i21, r22⟩ ⟨h27, h28, h26⟩
  try dsimp only at h27 h28 h26
  refine GL.weak (env' := [(0, v0), (1, v1), (12, .int .i64 ((x0).length : Int)), (13, .int .i64 (i21 : Int))]) (L' := [imm (TR.sl TR.int) v0 x0, imm (TR.sl TR.int) v1 x1]) (fun _ _ st => st) ?_
  refine GL.seq ?_
  refine GL.region ?_
  refine RL.binI (v := .bool (decide ((i21 : Int) < ((x0).length : Int)))) rfl rfl rfl rfl rfl ?_
  refine RL.finG ?_
  refine GL.seq ?_
  refine GL.cond rfl (fun b29 => ?_) (fun b29 => ?_)
  ·have h30 : i21 < (x0).length := by have := of_decide_eq_true b29; omega
   obtain ⟨y31, r33, hr, e32, h34⟩ := drop_cons h28 rfl h30
   subst hr
   obtain ⟨z23, h24, h25⟩ := rangeL_some h26
   unfold slices_Equal_int_int_b1 at h24
   try dsimp only at h24
   refine GL.skip ?_
   refine GL.seq ?_
   refine GL.block ?_
   refine GL.seq ?_
   refine GL.region ?_
   refine RL.mv rfl rfl rfl ?_
   refine RL.asg rfl rfl rfl ?_
   refine RL.finG ?_
   refine GL.seq ?_
   refine GL.regionQ rfl rfl (by kernel_rfl) ?_
   refine RL.mv rfl rfl rfl ?_
   refine RL.mv rfl rfl rfl ?_
   refine RL.idxS (sz := 1) 0 Try.underlying22 Try_ln3 rfl rfl rfl rfl rfl SlOf.imm (by omega) (by omega) ?_
   refine RL.ldSx (i := i21) (e' := y31) 0 Ex.ik Try_ln3 rfl rfl rfl rfl SlOf.imm e32 Part.self ?_
   refine RL.mv rfl rfl rfl ?_
   refine RL.mv rfl rfl rfl ?_
   obtain ⟨y37, e38, h24⟩ := bind_some h24
   refine RL.idxS (sz := 1) 1 Try.underlying22 Try_ln3 rfl rfl rfl rfl rfl SlOf.imm (idx_some e38).1 (idx_some e38).2.1 ?_
   refine RL.ldSx (i := i21) (e' := y37) 1 Ex.ik Try_ln3 rfl rfl rfl rfl SlOf.imm (idx_some e38).2.2 Part.self ?_
   refine RL.binI (v := .bool (y31 != y37)) rfl rfl rfl rfl rfl ?_
   refine RL.finQG ?_
   refine GL.cond rfl (fun b39 => ?_) (fun b39 => ?_)
   ·replace h24 := ite_t b39 h24
    refine GL.seq ?_
    refine GL.region ?_
    refine RL.asg rfl rfl rfl ?_
    refine RL.finG ?_
    cases h24
    replace h25 : some (Fl.rt _) = some y14 := h25
    cases h25
    have hh := h19 _ h17
    subst hh
    exact GL.ret (Gx.ret (v := .bool false) (res1 rfl rfl) (fun a w st => st.toPostV))
   replace h24 := ite_f b39 h24
   refine GL.skip ?_
   refine GL.nilB ?_
   refine GL.region ?_
   refine RL.binI (v := .int .i64 ((i21 + 1 : Nat) : Int)) rfl rfl rfl rfl (binI_succ i21 (by omega)) ?_
   refine RL.mv rfl rfl rfl ?_
   refine RL.fin ?_
   cases h24
   exact fun a w st => lop_intro (i21 + 1, r33) ⟨by show i21 + 1 + r33.length = (x0).length; simp only [List.length_cons] at h27; omega, h34, h25⟩ (by simp) (St.cut [0, 1] ⟨rfl, rfl, rfl, rfl, trivial⟩ (by decide) rfl st)
  have h30 : ¬ i21 < (x0).length := by have := of_decide_eq_false b29; omega
  obtain rfl : r22 = [] := by rw [← h28]; exact List.drop_of_length_le (by omega)
  replace h26 : some (Fl.nx _) = some y14 := h26
  cases h26
  exact GL.exit (fun a w st => mid_intro () h17 (St.cut [] trivial (by decide) rfl st))
 rintro ⟨⟩ h40
 have h41 := h18 _ h40
 try dsimp only at h41
 refine GL.weak (env' := []) (L' := []) (fun _ _ st => st) ?_
 refine GL.seq ?_
 refine GL.region ?_
 refine RL.asg rfl rfl rfl ?_
 refine RL.finG ?_
 have h41 := Option.some.inj h41
 subst h41
 exact GL.ret (Gx.ret (v := .bool true) (res1 rfl rfl) (fun a w st => st.toPostV))

set_option maxHeartbeats 4000000 in
theorem top_works_c (S : Hp) (w : World) (hS : S.sub w)  (res : Bool) (hm : top_works_m = some res) : Calls Try.prog 7 #[] w (PostV w (.bool res)) := by
 refine calls_enter 31 Try.func7 Try.ntmps7 rfl S false [] [] rfl trivial hS trivial ?_
 unfold top_works_m at hm
 refine GL.seq ?_
 refine GL.region ?_
 refine RL.asg rfl rfl rfl ?_
 refine RL.finG ?_
 refine GL.seq ?_
 refine GL.region ?_
 refine RL.bS (t := TR.int) (vs := [.int .i64 (0 : Int), .int .i64 (1 : Int), .int .i64 (2 : Int)]) ([(0 : Int), (1 : Int), (2 : Int)] : (List Int)) Try.underlying22 Try_lo3 rfl rfl rfl rfl ⟨VR.int, ⟨VR.int, ⟨VR.int, trivial⟩⟩⟩ rfl (by decide) ?_
 intro v5
 refine RL.bS (t := TR.int) (vs := [.int .i64 (2 : Int), .int .i64 (0 : Int), .int .i64 (1 : Int)]) ([(2 : Int), (0 : Int), (1 : Int)] : (List Int)) Try.underlying22 Try_lo3 rfl rfl rfl rfl ⟨VR.int, ⟨VR.int, ⟨VR.int, trivial⟩⟩⟩ rfl (by decide) ?_
 intro v6
 refine RL.reL (L' := [own 3 TR.int v5 ([(0 : Int), (1 : Int), (2 : Int)] : (List Int)), own 3 TR.int v6 ([(2 : Int), (0 : Int), (1 : Int)] : (List Int))]) rfl ?_
 obtain ⟨y7, e8, hm⟩ := bind_some hm
 refine RL.callV (v := .tuple #[.int .i64 y7.1, .int .i64 y7.2]) (vs := [v5, v6]) Try_fit11 rfl (Or.inl rfl) rfl rfl rfl rfl (fun U w hU hW hL => order_Far_c U w hU _ _ (hL 0 _ _ rfl Seen.own) _ _ (hL 1 _ _ rfl Seen.own) _ e8) ?_
 refine RL.mv rfl rfl rfl ?_
 refine RL.ext rfl rfl rfl rfl ?_
 refine RL.ext rfl rfl rfl rfl ?_
 refine RL.asg rfl rfl rfl ?_
 refine RL.asg rfl rfl rfl ?_
 refine RL.finG ?_
 refine GL.seq ?_
 refine GL.region ?_
 refine RL.bS (t := TR.int) (vs := [.int .i64 (0 : Int), .int .i64 (0 : Int), .int .i64 (2 : Int), .int .i64 (6 : Int)]) ([(0 : Int), (0 : Int), (2 : Int), (6 : Int)] : (List Int)) Try.underlying22 Try_lo3 rfl rfl rfl rfl ⟨VR.int, ⟨VR.int, ⟨VR.int, ⟨VR.int, trivial⟩⟩⟩⟩ rfl (by decide) ?_
 intro v13
 obtain ⟨y14, e15, hm⟩ := bind_some hm
 refine RL.callU (vs := [.int .i64 (2 : Int), v13]) (LR := fun (o : Value) => [own 3 TR.int o y14.1]) (fun o => ⟨Loc.own TR.flatT_ik, trivial⟩) Try_fit12 rfl rfl rfl rfl rfl (fun U w hU hW hL => worth_Share_c U w hU (2 : Int) _ _ (hL 2 _ _ rfl Seen.own) _ e15) ?_
 intro v16
 refine RL.mv rfl rfl rfl ?_
 refine RL.ext rfl rfl rfl rfl ?_
 refine RL.ext rfl rfl rfl rfl ?_
 refine RL.asg rfl rfl rfl ?_
 refine RL.asg rfl rfl rfl ?_
 refine RL.finG ?_
 refine GL.seq ?_
 obtain ⟨y30, K31, h32, h33, h34, h35, h36⟩ := bindR_K hm
 refine GL.join (ι := Bool) (fun (p : Bool) => [(0, .bool p)]) (fun (p : Bool) => []) (fun (p : Bool) => K31 (.nx p)) ?_ ?_
 ·skip
  refine GL.region ?_
  refine RL.mv rfl rfl rfl ?_
  refine RL.binI (v := .bool (y7.2 == (0 : Int))) rfl rfl rfl rfl rfl ?_
  refine RL.mv rfl rfl rfl ?_
  refine RL.split (t := 18) rfl (fun b37 => ?_) (fun b37 => ?_)
  ·replace h32 := ite_t b37 h32
   refine RL.mv rfl rfl rfl ?_
   refine RL.binI (v := .bool (y14.2 == (0 : Int))) rfl rfl rfl rfl rfl ?_
   refine RL.pickT rfl rfl rfl rfl ?_
   refine RL.mv rfl rfl rfl ?_
   refine RL.split (t := 22) rfl (fun b38 => ?_) (fun b38 => ?_)
   ·replace h32 := ite_t b38 h32
    refine RL.mv rfl rfl rfl ?_
    refine RL.binI (v := .bool (y7.1 == (2 : Int))) rfl rfl rfl rfl rfl ?_
    refine RL.pickT rfl rfl rfl rfl ?_
    refine RL.mv rfl rfl rfl ?_
    refine RL.split (t := 26) rfl (fun b39 => ?_) (fun b39 => ?_)
    ·replace h32 := ite_t b39 h32
     refine RL.mv rfl rfl rfl ?_
     refine RL.bS (t := TR.int) (vs := [.int .i64 (4 : Int), .int .i64 (8 : Int)]) ([(4 : Int), (8 : Int)] : (List Int)) Try.underlying22 Try_lo3 rfl rfl rfl rfl ⟨VR.int, ⟨VR.int, trivial⟩⟩ rfl (by decide) ?_
     intro v40
     refine RL.reL (L' := [own 3 TR.int v5 ([(0 : Int), (1 : Int), (2 : Int)] : (List Int)), own 3 TR.int v6 ([(2 : Int), (0 : Int), (1 : Int)] : (List Int)), own 3 TR.int v13 ([(0 : Int), (0 : Int), (2 : Int), (6 : Int)] : (List Int)), own 3 TR.int v16 y14.1, own 3 TR.int v40 ([(4 : Int), (8 : Int)] : (List Int))]) rfl ?_
     obtain ⟨y41, e42, h32⟩ := bind_some h32
     refine RL.callV (v := .bool y41) (vs := [v16, v40]) Try_fit13 rfl (Or.inl rfl) rfl rfl rfl rfl (fun U w hU hW hL => slices_Equal_int_int_c U w hU _ _ (hL 3 _ _ rfl Seen.own) _ _ (hL 4 _ _ rfl Seen.own) _ e42) ?_
     refine RL.pickT rfl rfl rfl rfl ?_
     refine RL.asg rfl rfl rfl ?_
     refine RL.fin ?_
     cases h32
     exact fun a w st => mid_intro y41 h33 (St.cut [] ⟨rfl, trivial⟩ (by decide) rfl st)
    replace h32 := ite_f b39 h32
    refine RL.skip rfl rfl ?_
    refine RL.skip rfl rfl ?_
    refine RL.skip rfl rfl ?_
    refine RL.pickF rfl rfl rfl rfl ?_
    refine RL.asg rfl rfl rfl ?_
    refine RL.fin ?_
    cases h32
    exact fun a w st => mid_intro false h33 (St.cut [] ⟨rfl, trivial⟩ (by decide) rfl st)
   replace h32 := ite_f b38 h32
   refine RL.skip rfl rfl ?_
   refine RL.skip rfl rfl ?_
   refine RL.pickF rfl rfl rfl rfl ?_
   refine RL.mv rfl rfl rfl ?_
   refine RL.skip rfl rfl ?_
   refine RL.skip rfl rfl ?_
   refine RL.skip rfl rfl ?_
   refine RL.pickF rfl rfl rfl rfl ?_
   refine RL.asg rfl rfl rfl ?_
   refine RL.fin ?_
   cases h32
   exact fun a w st => mid_intro false h33 (St.cut [] ⟨rfl, trivial⟩ (by decide) rfl st)
  replace h32 := ite_f b37 h32
  refine RL.skip rfl rfl ?_
  refine RL.skip rfl rfl ?_
  refine RL.pickF rfl rfl rfl rfl ?_
  refine RL.mv rfl rfl rfl ?_
  refine RL.skip rfl rfl ?_
  refine RL.skip rfl rfl ?_
  refine RL.pickF rfl rfl rfl rfl ?_
  refine RL.mv rfl rfl rfl ?_
  refine RL.skip rfl rfl ?_
  refine RL.skip rfl rfl ?_
  refine RL.skip rfl rfl ?_
  refine RL.pickF rfl rfl rfl rfl ?_
  refine RL.asg rfl rfl rfl ?_
  refine RL.fin ?_
  cases h32
  exact fun a w st => mid_intro false h33 (St.cut [] ⟨rfl, trivial⟩ (by decide) rfl st)
 rintro x29 h43
 have h44 := h34 _ h43
 try dsimp only at h44
 refine GL.weak (env' := [(0, .bool x29)]) (L' := []) (fun _ _ st => st) ?_
 have h44 := Option.some.inj h44
 subst h44
 exact GL.ret (Gx.ret (v := .bool x29) (res1 rfl rfl) (fun a w st => st.toPostV))

set_option maxHeartbeats 4000000 in
theorem slices_IndexFunc_api_Errno_api_Errno_c (S : Hp) (w : World) (hS : S.sub w) (v0 : Value) (x0 : (List Int)) (k0 : ((TR.sl TR.int)).vrep S v0 x0) (f1 : FuncId) (c1 : Array Value) (t1 : Fit Try.prog f1) (g1 : Int → Option Bool) (k1 : ∀ (U : Hp) (w' : World), Hp.le S U → U.sub w' → ∀ (a0 : Int) (rr : Bool), g1 a0 = some rr → Calls Try.prog f1 (#[.int .i64 a0] ++ c1) w' (PostV w' (.bool rr))) (res : Int) (hm : slices_IndexFunc_api_Errno_api_Errno_m x0 g1 = some res) : Calls Try.prog 21 #[v0, .func (.func f1) #[] c1] w (PostV w (.int .i64 res)) := by
 refine calls_enter 19 Try.func21 Try.ntmps21 rfl S false [(0, v0), (1, .func (.func f1) #[] c1)] [imm (TR.sl TR.int) v0 x0] rfl ⟨rfl, ⟨rfl, trivial⟩⟩ hS ⟨k0, trivial⟩ ?_
 unfold slices_IndexFunc_api_Errno_api_Errno_m at hm
 refine GL.seq ?_
 refine GL.region ?_
 refine RL.asg rfl rfl rfl ?_
 refine RL.finG ?_
 refine GL.seq ?_
 refine GL.seq ?_
 refine GL.region ?_
 refine RL.mv rfl rfl rfl ?_
 refine RL.lenS 0 Try.underlying42 rfl rfl rfl rfl SlOf.imm ?_
 refine RL.mv rfl rfl rfl ?_
 refine RL.finG ?_
 refine GL.open_ 0 rfl (fun S h => len_imm S h) (fun n12 => ?_)
 obtain ⟨y13, K14, h15, h16, h17, h18, h19⟩ := bindR_K hm
 refine GL.join (ι := Unit) (fun (p : Unit) => []) (fun (p : Unit) => []) (fun (p : Unit) => K14 (.nx ())) ?_ ?_
 ·refine GL.block ?_
  refine GL.loop (ι := Nat × (List Int)) (fun (p : Nat × (List Int)) => [(0, v0), (1, .func (.func f1) #[] c1), (7, .int .i64 ((x0).length : Int)), (8, .int .i64 (p.1 : Int))]) (fun (p : Nat × (List Int)) => [imm (TR.sl TR.int) v0 x0]) (fun (p : Nat × (List Int)) => p.1 + p.2.length = (x0).length ∧ List.drop p.1 x0 = p.2 ∧ rangeL (slices_IndexFunc_api_Errno_api_Errno_b1 g1) p.2 p.1 () = some y13) (fun (p : Nat × (List Int)) => p.2.length) (0, x0) ⟨by simp, by simp, h15⟩ (fun a w st => St.cut [0] ⟨rfl, rfl, rfl, rfl, trivial⟩ (by decide) rfl st) ?_
  rintro ⟨i20, r21⟩ ⟨h26, h27, h25⟩
  try dsimp only at h26 h27 h25
  refine GL.weak (env' := [(0, v0), (1, .func (.func f1) #[] c1), (7, .int .i64 ((x0).length : Int)), (8, .int .i64 (i20 : Int))]) (L' := [imm (TR.sl TR.int) v0 x0]) (fun _ _ st => st) ?_
  refine GL.seq ?_
  refine GL.region ?_
  refine RL.binI (v := .bool (decide ((i20 : Int) < ((x0).length : Int)))) rfl rfl rfl rfl rfl ?_
  refine RL.finG ?_
  refine GL.seq ?_
  refine GL.cond rfl (fun b28 => ?_) (fun b28 => ?_)
  ·have h29 : i20 < (x0).length := by have := of_decide_eq_true b28; omega
   obtain ⟨y30, r32, hr, e31, h33⟩ := drop_cons h27 rfl h29
   subst hr
   obtain ⟨z22, h23, h24⟩ := rangeL_some h25
   unfold slices_IndexFunc_api_Errno_api_Errno_b1 at h23
   try dsimp only at h23
   refine GL.skip ?_
   refine GL.seq ?_
   refine GL.block ?_
   refine GL.seq ?_
   refine GL.region ?_
   refine RL.mv rfl rfl rfl ?_
   refine RL.asg rfl rfl rfl ?_
   refine RL.finG ?_
   refine GL.seq ?_
   refine GL.region ?_
   refine RL.mv rfl rfl rfl ?_
   refine RL.mv rfl rfl rfl ?_
   refine RL.mv rfl rfl rfl ?_
   refine RL.idxS (sz := 1) 0 Try.underlying42 Try_ln28 rfl rfl rfl rfl rfl SlOf.imm (by omega) (by omega) ?_
   refine RL.ldSx (i := i20) (e' := y30) 0 Ex.ik Try_ln28 rfl rfl rfl rfl SlOf.imm e31 Part.self ?_
   obtain ⟨y36, e37, h23⟩ := bind_some h23
   refine RL.callV (v := .bool y36) (vs := [.int .i64 y30]) t1 rfl (Or.inl rfl) rfl rfl rfl rfl (fun U w hU hW hL => k1 U w hW hU y30 _ e37) ?_
   refine RL.finG ?_
   refine GL.cond rfl (fun b38 => ?_) (fun b38 => ?_)
   ·replace h23 := ite_t b38 h23
    refine GL.seq ?_
    refine GL.region ?_
    refine RL.mv rfl rfl rfl ?_
    refine RL.asg rfl rfl rfl ?_
    refine RL.finG ?_
    cases h23
    replace h24 : some (Fl.rt _) = some y13 := h24
    cases h24
    have hh := h18 _ h16
    subst hh
    exact GL.ret (Gx.ret (v := .int .i64 (i20 : Int)) (res1 rfl rfl) (fun a w st => st.toPostV))
   replace h23 := ite_f b38 h23
   refine GL.skip ?_
   refine GL.nilB ?_
   refine GL.region ?_
   refine RL.binI (v := .int .i64 ((i20 + 1 : Nat) : Int)) rfl rfl rfl rfl (binI_succ i20 (by omega)) ?_
   refine RL.mv rfl rfl rfl ?_
   refine RL.fin ?_
   cases h23
   exact fun a w st => lop_intro (i20 + 1, r32) ⟨by show i20 + 1 + r32.length = (x0).length; simp only [List.length_cons] at h26; omega, h33, h24⟩ (by simp) (St.cut [0] ⟨rfl, rfl, rfl, rfl, trivial⟩ (by decide) rfl st)
  have h29 : ¬ i20 < (x0).length := by have := of_decide_eq_false b28; omega
  obtain rfl : r21 = [] := by rw [← h27]; exact List.drop_of_length_le (by omega)
  replace h25 : some (Fl.nx _) = some y13 := h25
  cases h25
  exact GL.exit (fun a w st => mid_intro () h16 (St.cut [] trivial (by decide) rfl st))
 rintro ⟨⟩ h39
 have h40 := h17 _ h39
 try dsimp only at h40
 refine GL.weak (env' := []) (L' := []) (fun _ _ st => st) ?_
 refine GL.seq ?_
 refine GL.region ?_
 refine RL.asg rfl rfl rfl ?_
 refine RL.finG ?_
 have h40 := Option.some.inj h40
 subst h40
 exact GL.ret (Gx.ret (v := .int .i64 (-1 : Int)) (res1 rfl rfl) (fun a w st => st.toPostV))

set_option maxHeartbeats 4000000 in
theorem slices_ContainsFunc_api_Errno_api_Errno_c (S : Hp) (w : World) (hS : S.sub w) (v0 : Value) (x0 : (List Int)) (k0 : ((TR.sl TR.int)).vrep S v0 x0) (f1 : FuncId) (c1 : Array Value) (t1 : Fit Try.prog f1) (g1 : Int → Option Bool) (k1 : ∀ (U : Hp) (w' : World), Hp.le S U → U.sub w' → ∀ (a0 : Int) (rr : Bool), g1 a0 = some rr → Calls Try.prog f1 (#[.int .i64 a0] ++ c1) w' (PostV w' (.bool rr))) (res : Bool) (hm : slices_ContainsFunc_api_Errno_api_Errno_m x0 g1 = some res) : Calls Try.prog 14 #[v0, .func (.func f1) #[] c1] w (PostV w (.bool res)) := by
 refine calls_enter 9 Try.func14 Try.ntmps14 rfl S false [(0, v0), (1, .func (.func f1) #[] c1)] [imm (TR.sl TR.int) v0 x0] rfl ⟨rfl, ⟨rfl, trivial⟩⟩ hS ⟨k0, trivial⟩ ?_
 unfold slices_ContainsFunc_api_Errno_api_Errno_m at hm
 refine GL.seq ?_
 refine GL.region ?_
 refine RL.asg rfl rfl rfl ?_
 refine RL.finG ?_
 refine GL.seq ?_
 refine GL.region ?_
 refine RL.mv rfl rfl rfl ?_
 refine RL.mv rfl rfl rfl ?_
 obtain ⟨y5, e6, hm⟩ := bind_some hm
 refine RL.callV (v := .int .i64 y5) (vs := [v0, .func (.func f1) #[] c1]) Try_fit21 rfl (Or.inl rfl) rfl rfl rfl rfl (fun U w hU hW hL => slices_IndexFunc_api_Errno_api_Errno_c U w hU _ _ (hL 0 _ _ rfl Seen.imm) f1 c1 t1 g1 (fun U' w' hle => k1 U' w' (Hp.le_trans hW hle)) _ e6) ?_
 refine RL.binI (v := .bool (decide (y5 ≥ (0 : Int)))) rfl rfl rfl rfl rfl ?_
 refine RL.asg rfl rfl rfl ?_
 refine RL.finG ?_
 have hm := Option.some.inj hm
 subst hm
 exact GL.ret (Gx.ret (v := .bool (decide (y5 ≥ (0 : Int)))) (res1 rfl rfl) (fun a w st => st.toPostV))

set_option maxHeartbeats 4000000 in
theorem top_good_1_c (S : Hp) (w : World) (hS : S.sub w) (x0 : Int) (res : Bool) (hm : top_good_1_m x0 = some res) : Calls Try.prog 15 #[.int .i64 x0] w (PostC w (.bool res)) := by
 refine calls_enter 5 Try.func15 Try.ntmps15 rfl S true [(0, .int .i64 x0)] [] rfl ⟨rfl, trivial⟩ hS trivial ?_
 unfold top_good_1_m at hm
 refine GL.seq ?_
 refine GL.region ?_
 refine RL.asg rfl rfl rfl ?_
 refine RL.finG ?_
 refine GL.seq ?_
 refine GL.region ?_
 refine RL.mv rfl rfl rfl ?_
 refine RL.binI (v := .bool (x0 != (0 : Int))) rfl rfl rfl rfl rfl ?_
 refine RL.asg rfl rfl rfl ?_
 refine RL.finG ?_
 have hm := Option.some.inj hm
 subst hm
 exact GL.ret (Gx.ret (v := .bool (x0 != (0 : Int))) (res1 rfl rfl) (fun a w st => st.toPostC rfl))

set_option maxHeartbeats 4000000 in
theorem top_good_c (S : Hp) (w : World) (hS : S.sub w) (v0 : Value) (x0 : (List Int)) (k0 : ((TR.sl TR.int)).vrep S v0 x0) (res : Bool) (hm : top_good_m x0 = some res) : Calls Try.prog 8 #[v0] w (PostV w (.bool res)) := by
 refine calls_enter 6 Try.func8 Try.ntmps8 rfl S false [(0, v0)] [imm (TR.sl TR.int) v0 x0] rfl ⟨rfl, trivial⟩ hS ⟨k0, trivial⟩ ?_
 unfold top_good_m at hm
 refine GL.seq ?_
 refine GL.region ?_
 refine RL.asg rfl rfl rfl ?_
 refine RL.finG ?_
 refine GL.seq ?_
 refine GL.region ?_
 refine RL.mv rfl rfl rfl ?_
 obtain ⟨y4, e5, hm⟩ := bind_some hm
 refine RL.callV (v := .bool y4) (vs := [v0, .func (.func 15) #[] #[]]) Try_fit14 rfl (Or.inl rfl) rfl rfl rfl rfl (fun U w hU hW hL => slices_ContainsFunc_api_Errno_api_Errno_c U w hU _ _ (hL 0 _ _ rfl Seen.imm) 15 #[] Try_fit15 (fun a0 => top_good_1_m a0) (fun U' w' hle hU' a0 rr hr => (top_good_1_c U' w' hU' a0 rr hr).mono (fun _ _ z => z.toV)) _ e5) ?_
 refine RL.notB rfl rfl rfl ?_
 refine RL.asg rfl rfl rfl ?_
 refine RL.finG ?_
 have hm := Option.some.inj hm
 subst hm
 exact GL.ret (Gx.ret (v := .bool (!y4)) (res1 rfl rfl) (fun a w st => st.toPostV))

set_option maxHeartbeats 4000000 in
theorem top_TopTree_c (S : Hp) (w : World) (hS : S.sub w) (x0 : Int) (v1 : Value) (x1 : (List Int)) (k1 : ((TR.sl TR.int)).vrep S v1 x1) (res : Bool) (hm : top_TopTree_m x0 x1 = some res) : Calls Try.prog 3 #[.int .i64 x0, v1] w (PostV w (.bool res)) := by
 refine calls_enter 158 Try.func3 Try.ntmps3 rfl S false [(0, .int .i64 x0), (1, v1)] [imm (TR.sl TR.int) v1 x1] rfl ⟨rfl, ⟨rfl, trivial⟩⟩ hS ⟨k1, trivial⟩ ?_
 unfold top_TopTree_m at hm
 refine GL.seq ?_
 refine GL.region ?_
 refine RL.asg rfl rfl rfl ?_
 refine RL.finG ?_
 refine GL.seq ?_
 refine GL.region ?_
 refine RL.mv rfl rfl rfl ?_
 obtain ⟨y5, e6, hm⟩ := bind_some hm
 refine RL.callC (v := .int .i64 y5) (vs := [.int .i64 x0, .int .i64 (14 : Int)]) Try_fit4 rfl rfl rfl rfl (fun U w hU hW hL => pk_Within_c U w hU x0 (14 : Int) _ e6) ?_
 refine RL.asg rfl rfl rfl ?_
 refine RL.finG ?_
 refine GL.seq ?_
 refine GL.region ?_
 refine RL.asg rfl rfl rfl ?_
 refine RL.finG ?_
 refine GL.seq ?_
 refine GL.seq ?_
 refine GL.region ?_
 refine RL.mv rfl rfl rfl ?_
 refine RL.mv rfl rfl rfl ?_
 refine RL.lenS 0 Try.underlying22 rfl rfl rfl rfl SlOf.imm ?_
 refine RL.minI rfl rfl rfl rfl ?_
 obtain ⟨y10, e11, hm⟩ := bind_some hm
 replace e11 := chk_some e11
 refine RL.slc (t := TR.int) (i := 0) (j := (if (6 : Int) < ((x1).length : Int) then (6 : Int) else ((x1).length : Int)).toNat) (sz := 1) 0 Try.underlying22 Try_ln3 rfl rfl rfl rfl (Or.inl ⟨rfl, rfl⟩) (Or.inr ⟨_, _, rfl, by rw [Int.toNat_of_nonneg (by omega)]; rfl⟩) rfl (by omega) (by omega) ?_
 intro v12
 refine RL.lenS 1 Try.underlying22 rfl rfl rfl rfl SlOf.imm ?_
 refine RL.mv rfl rfl rfl ?_
 refine RL.finG ?_
 refine GL.weak (fun a w st => st.nilOwn 3 TR.int) ?_
 refine GL.open_ 1 rfl (fun S h => len_imm S h) (fun n31 => ?_)
 obtain ⟨y32, K33, h34, h35, h36, h37, h38⟩ := bindR_K hm
 refine GL.join (ι := (List Int) × Value) (fun (p : (List Int) × Value) => [(0, .int .i64 y5), (5, p.2)]) (fun (p : (List Int) × Value) => [own 3 TR.int p.2 p.1]) (fun (p : (List Int) × Value) => K33 (.nx p.1)) ?_ ?_
 ·refine GL.block ?_
  refine GL.loop (ι := Nat × (List Int) × (List Int) × Value) (fun (p : Nat × (List Int) × (List Int) × Value) => [(0, .int .i64 y5), (5, p.2.2.2), (25, v12), (26, .int .i64 ((((List.take ((if (6 : Int) < ((x1).length : Int) then (6 : Int) else ((x1).length : Int)).toNat) x1).drop 0)).length : Int)), (27, .int .i64 (p.1 : Int))]) (fun (p : Nat × (List Int) × (List Int) × Value) => [own 3 TR.int p.2.2.2 p.2.2.1, imm (TR.sl TR.int) v12 ((List.take ((if (6 : Int) < ((x1).length : Int) then (6 : Int) else ((x1).length : Int)).toNat) x1).drop 0)]) (fun (p : Nat × (List Int) × (List Int) × Value) => p.1 + p.2.1.length = (((List.take ((if (6 : Int) < ((x1).length : Int) then (6 : Int) else ((x1).length : Int)).toNat) x1).drop 0)).length ∧ List.drop p.1 ((List.take ((if (6 : Int) < ((x1).length : Int) then (6 : Int) else ((x1).length : Int)).toNat) x1).drop 0) = p.2.1 ∧ rangeL top_TopTree_b1 p.2.1 p.1 p.2.2.1 = some y32) (fun (p : Nat × (List Int) × (List Int) × Value) => p.2.1.length) (0, ((List.take ((if (6 : Int) < ((x1).length : Int) then (6 : Int) else ((x1).length : Int)).toNat) x1).drop 0), [], Value.slice none 0 0) ⟨by simp, by simp, h34⟩ (fun a w st => St.cut [2, 1] ⟨rfl, rfl, rfl, rfl, rfl, trivial⟩ (by decide) rfl st) ?_
  rintro ⟨i39, r40, l13, v14⟩ ⟨h45, h46, h44⟩
  try dsimp only at h45 h46 h44
  refine GL.weak (env' := [(0, .int .i64 y5), (5, v14), (25, v12), (26, .int .i64 ((((List.take ((if (6 : Int) < ((x1).length : Int) then (6 : Int) else ((x1).length : Int)).toNat) x1).drop 0)).length : Int)), (27, .int .i64 (i39 : Int))]) (L' := [own 3 TR.int v14 l13, imm (TR.sl TR.int) v12 ((List.take ((if (6 : Int) < ((x1).length : Int) then (6 : Int) else ((x1).length : Int)).toNat) x1).drop 0)]) (fun _ _ st => st) ?_
  refine GL.seq ?_
  refine GL.region ?_
  refine RL.binI (v := .bool (decide ((i39 : Int) < ((((List.take ((if (6 : Int) < ((x1).length : Int) then (6 : Int) else ((x1).length : Int)).toNat) x1).drop 0)).length : Int)))) rfl rfl rfl rfl rfl ?_
  refine RL.finG ?_
  refine GL.seq ?_
  refine GL.cond rfl (fun b47 => ?_) (fun b47 => ?_)
  ·have h48 : i39 < (((List.take ((if (6 : Int) < ((x1).length : Int) then (6 : Int) else ((x1).length : Int)).toNat) x1).drop 0)).length := by have := of_decide_eq_true b47; omega
   obtain ⟨y49, r51, hr, e50, h52⟩ := drop_cons h46 rfl h48
   subst hr
   obtain ⟨z41, h42, h43⟩ := rangeL_some h44
   unfold top_TopTree_b1 at h42
   try dsimp only at h42
   refine GL.skip ?_
   refine GL.seq ?_
   refine GL.block ?_
   refine GL.seq ?_
   refine GL.region ?_
   refine RL.idxS (sz := 1) 1 Try.underlying22 Try_ln3 rfl rfl rfl rfl rfl SlOf.imm (by omega) (by omega) ?_
   refine RL.ldSx (i := i39) (e' := y49) 1 Ex.ik Try_ln3 rfl rfl rfl rfl SlOf.imm e50 Part.self ?_
   refine RL.asg rfl rfl rfl ?_
   refine RL.finG ?_
   refine GL.region ?_
   refine RL.mv rfl rfl rfl ?_
   refine RL.mv rfl rfl rfl ?_
   obtain ⟨y59, e60, h42⟩ := bind_some h42
   refine RL.callC (v := .int .i64 y59) (vs := [.int .i64 y49, .int .i64 (6 : Int)]) Try_fit4 rfl rfl rfl rfl (fun U w hU hW hL => pk_Within_c U w hU y49 (6 : Int) _ e60) ?_
   refine RL.binI (v := .int .i64 (wadd (1 : Int) y59)) rfl rfl rfl rfl rfl ?_
   refine RL.bS (t := TR.int) (vs := [.int .i64 (wadd (1 : Int) y59)]) ([wadd (1 : Int) y59] : (List Int)) Try.underlying22 Try_lo3 rfl rfl rfl rfl ⟨VR.int, trivial⟩ rfl (by decide) ?_
   intro v61
   obtain ⟨y62, e63, h42⟩ := bind_some h42
   replace e63 := chk_some e63
   refine RL.app 0 2 Try.underlying22 Try_lo3 rfl rfl rfl rfl rfl rfl rfl SlOf.own e63 ?_
   intro v64
   refine RL.reL (L' := [own 3 TR.int v64 (l13 ++ ([wadd (1 : Int) y59] : (List Int))), imm (TR.sl TR.int) v12 ((List.take ((if (6 : Int) < ((x1).length : Int) then (6 : Int) else ((x1).length : Int)).toNat) x1).drop 0), own 3 TR.int v61 ([wadd (1 : Int) y59] : (List Int))]) rfl ?_
   refine RL.asg rfl rfl rfl ?_
   refine RL.finG ?_
   refine GL.nilB ?_
   refine GL.region ?_
   refine RL.binI (v := .int .i64 ((i39 + 1 : Nat) : Int)) rfl rfl rfl rfl (binI_succ i39 (by omega)) ?_
   refine RL.mv rfl rfl rfl ?_
   refine RL.fin ?_
   cases h42
   exact fun a w st => lop_intro (i39 + 1, r51, (l13 ++ ([wadd (1 : Int) y59] : (List Int))), v64) ⟨by show i39 + 1 + r51.length = (((List.take ((if (6 : Int) < ((x1).length : Int) then (6 : Int) else ((x1).length : Int)).toNat) x1).drop 0)).length; simp only [List.length_cons] at h45; omega, h52, h43⟩ (by simp) (St.cut [0, 1] ⟨rfl, rfl, rfl, rfl, rfl, trivial⟩ (by decide) rfl st)
  have h48 : ¬ i39 < (((List.take ((if (6 : Int) < ((x1).length : Int) then (6 : Int) else ((x1).length : Int)).toNat) x1).drop 0)).length := by have := of_decide_eq_false b47; omega
  obtain rfl : r40 = [] := by rw [← h46]; exact List.drop_of_length_le (by omega)
  replace h44 : some (Fl.nx _) = some y32 := h44
  cases h44
  exact GL.exit (fun a w st => mid_intro (l13, v14) h35 (St.cut [0] ⟨rfl, rfl, trivial⟩ (by decide) rfl st))
 rintro ⟨l13, v14⟩ h65
 have h66 := h36 _ h65
 try dsimp only at h66
 refine GL.weak (env' := [(0, .int .i64 y5), (5, v14)]) (L' := [own 3 TR.int v14 l13]) (fun _ _ st => st) ?_
 refine GL.seq ?_
 refine GL.region ?_
 refine RL.asg rfl rfl rfl ?_
 refine RL.finG ?_
 refine GL.seq ?_
 refine GL.seq ?_
 refine GL.region ?_
 refine RL.mv rfl rfl rfl ?_
 refine RL.binI (v := .int .i64 (wadd y5 (1 : Int))) rfl rfl rfl rfl rfl ?_
 refine RL.mv rfl rfl rfl ?_
 refine RL.finG ?_
 refine GL.weak (fun a w st => st.nilOwn 26 (TR.pair TR.int (TR.pair (TR.sl TR.int) (TR.sl TR.int)))) ?_
 obtain ⟨y289, e290, h66⟩ := bind_some h66
 replace e290 := chk_some e290
 obtain ⟨y291, K292, h293, h294, h295, h296, h297⟩ := bindR_K h66
 refine GL.join (ι := (List (Int × ((List Int) × (List Int)))) × Value) (fun (p : (List (Int × ((List Int) × (List Int)))) × Value) => [(0, .int .i64 y5), (5, v14), (8, p.2)]) (fun (p : (List (Int × ((List Int) × (List Int)))) × Value) => [own 3 TR.int v14 l13, own 26 (TR.pair TR.int (TR.pair (TR.sl TR.int) (TR.sl TR.int))) p.2 p.1]) (fun (p : (List (Int × ((List Int) × (List Int)))) × Value) => K292 (.nx p.1)) ?_ ?_
 ·refine GL.block ?_
  refine GL.loop (ι := Nat × Nat × (List (Int × ((List Int) × (List Int)))) × Value) (fun (p : Nat × Nat × (List (Int × ((List Int) × (List Int)))) × Value) => [(0, .int .i64 y5), (5, v14), (8, p.2.2.2), (39, .int .i64 (wadd y5 (1 : Int))), (40, .int .i64 (p.1 : Int))]) (fun (p : Nat × Nat × (List (Int × ((List Int) × (List Int)))) × Value) => [own 3 TR.int v14 l13, own 26 (TR.pair TR.int (TR.pair (TR.sl TR.int) (TR.sl TR.int))) p.2.2.2 p.2.2.1]) (fun (p : Nat × Nat × (List (Int × ((List Int) × (List Int)))) × Value) => p.1 + p.2.1 = (wadd y5 (1 : Int)).toNat ∧ rangeN (top_TopTree_b2 l13 y5) p.2.1 p.1 p.2.2.1 = some y291) (fun (p : Nat × Nat × (List (Int × ((List Int) × (List Int)))) × Value) => p.2.1) (0, (wadd y5 (1 : Int)).toNat, [], Value.slice none 0 0) ⟨by simp, h293⟩ (fun a w st => St.cut [0, 1] ⟨rfl, rfl, rfl, rfl, rfl, trivial⟩ (by decide) rfl st) ?_
  rintro ⟨i298, r299, l67, v68⟩ ⟨h304, h303⟩
  try dsimp only at h304 h303
  refine GL.weak (env' := [(0, .int .i64 y5), (5, v14), (8, v68), (39, .int .i64 (wadd y5 (1 : Int))), (40, .int .i64 (i298 : Int))]) (L' := [own 3 TR.int v14 l13, own 26 (TR.pair TR.int (TR.pair (TR.sl TR.int) (TR.sl TR.int))) v68 l67]) (fun _ _ st => st) ?_
  refine GL.seq ?_
  refine GL.region ?_
  refine RL.binI (v := .bool (decide ((i298 : Int) < wadd y5 (1 : Int)))) rfl rfl rfl rfl rfl ?_
  refine RL.finG ?_
  refine GL.seq ?_
  refine GL.cond rfl (fun b306 => ?_) (fun b306 => ?_)
  ·have h307 : i298 < (wadd y5 (1 : Int)).toNat := by have := of_decide_eq_true b306; omega
   obtain ⟨r308, hr⟩ : ∃ m, r299 = m + 1 := ⟨r299 - 1, by omega⟩
   subst hr
   obtain ⟨z300, h301, h302⟩ := rangeN_some h303
   unfold top_TopTree_b2 at h301
   try dsimp only at h301
   refine GL.skip ?_
   refine GL.seq ?_
   refine GL.block ?_
   refine GL.seq ?_
   refine GL.region ?_
   refine RL.mv rfl rfl rfl ?_
   refine RL.asg rfl rfl rfl ?_
   refine RL.finG ?_
   refine GL.seq ?_
   refine GL.region ?_
   refine RL.mv rfl rfl rfl ?_
   refine RL.finG ?_
   obtain ⟨y411, K412, h413, h414, h415, h416, h417⟩ := bindF_K h301
   refine GL.join (ι := (List (Int × ((List Int) × (List Int)))) × Int × Value) (fun (p : (List (Int × ((List Int) × (List Int)))) × Int × Value) => [(0, .int .i64 y5), (5, v14), (8, p.2.2), (39, .int .i64 (wadd y5 (1 : Int))), (40, .int .i64 (i298 : Int))]) (fun (p : (List (Int × ((List Int) × (List Int)))) × Int × Value) => [own 3 TR.int v14 l13, own 26 (TR.pair TR.int (TR.pair (TR.sl TR.int) (TR.sl TR.int))) p.2.2 p.1]) (fun (p : (List (Int × ((List Int) × (List Int)))) × Int × Value) => K412 (.nx (p.1, p.2.1))) ?_ ?_
   ·refine GL.block ?_
    refine GL.loop (ι := Nat × (List (Int × ((List Int) × (List Int)))) × Int × Value) (fun (p : Nat × (List (Int × ((List Int) × (List Int)))) × Int × Value) => [(0, .int .i64 y5), (5, v14), (8, p.2.2.2), (9, .int .i64 (i298 : Int)), (39, .int .i64 (wadd y5 (1 : Int))), (40, .int .i64 (i298 : Int)), (43, .int .i64 p.2.2.1)]) (fun (p : Nat × (List (Int × ((List Int) × (List Int)))) × Int × Value) => [own 3 TR.int v14 l13, own 26 (TR.pair TR.int (TR.pair (TR.sl TR.int) (TR.sl TR.int))) p.2.2.2 p.2.1]) (fun (p : Nat × (List (Int × ((List Int) × (List Int)))) × Int × Value) => loopM (top_TopTree_b3 l13 y5 i298) p.1 (p.2.1, p.2.2.1) = some y411) (fun (p : Nat × (List (Int × ((List Int) × (List Int)))) × Int × Value) => p.1) (1048576, l67, (0 : Int), v68) h413 (fun a w st => St.cut [0, 1] ⟨rfl, rfl, rfl, rfl, rfl, rfl, rfl, trivial⟩ (by decide) rfl st) ?_
    rintro ⟨r419, l309, x311, v310⟩ h423
    try dsimp only at h423
    refine GL.weak (env' := [(0, .int .i64 y5), (5, v14), (8, v310), (9, .int .i64 (i298 : Int)), (39, .int .i64 (wadd y5 (1 : Int))), (40, .int .i64 (i298 : Int)), (43, .int .i64 x311)]) (L' := [own 3 TR.int v14 l13, own 26 (TR.pair TR.int (TR.pair (TR.sl TR.int) (TR.sl TR.int))) v310 l309]) (fun _ _ st => st) ?_
    obtain ⟨r426, z420, hr, h421, h422⟩ := loopM_some h423
    subst hr
    unfold top_TopTree_b3 at h421
    try dsimp only at h421
    refine GL.seq ?_
    refine GL.region ?_
    refine RL.binI (v := .bool (decide (x311 < (2 : Int)))) rfl rfl rfl rfl rfl ?_
    refine RL.finG ?_
    refine GL.seq ?_
    refine GL.cond rfl (fun b427 => ?_) (fun b427 => ?_)
    ·replace h421 := ite_t b427 h421
     refine GL.skip ?_
     refine GL.seq ?_
     refine GL.block ?_
     refine GL.seq ?_
     refine GL.region ?_
     refine RL.mv rfl rfl rfl ?_
     refine RL.asg rfl rfl rfl ?_
     refine RL.finG ?_
     refine GL.seq ?_
     refine GL.region ?_
     refine RL.mv rfl rfl rfl ?_
     refine RL.bld (t := (TR.pair TR.int (TR.pair TR.raw (TR.sl TR.int)))) (d0 := ((x311, Value.slice none 0 0, ([] : (List Int))) : Int × Value × (List Int))) (pv := [(0, .int .i64 x311)]) rfl Try_bld26 rfl rfl rfl ⟨⟨_, _, TR.int, x311, rfl, rfl, VR.int⟩, trivial⟩ (fun S f hi => by
       obtain ⟨c0, e0, r0⟩ := cells_vrep (t := TR.int) (u := .int .i64 x311) (e := x311) (VR.int S f hi)
       show TR.rep (TR.pair TR.int (TR.pair TR.raw (TR.sl TR.int))) S (List.flatten [(.int .i64 x311 : Value).cells.toList, [.slice none 0 0], [.slice none 0 0]]) _
       simp only [e0,  List.flatten_cons, List.flatten_nil, List.append_nil]
       exact ⟨_, _, rfl, r0, ⟨_, _, rfl, ⟨rfl, rfl⟩, ⟨_, [], rfl, ⟨none, 0, rfl, Nat.le_refl _, Nat.zero_le _, Or.inl ⟨rfl, rfl⟩⟩, rfl⟩⟩⟩) ?_
     intro v431
     refine RL.alloc (t := (TR.pair TR.int (TR.pair (TR.sl TR.int) (TR.sl TR.int)))) (z := ((0 : Int), ([] : (List Int)), ([] : (List Int)))) Try_lo26 (fun S => ⟨[.int .i64 0], _, rfl, rfl, ⟨[.slice none 0 0], _, rfl, ⟨_, [], rfl, ⟨none, 0, rfl, Nat.le_refl _, Nat.zero_le _, Or.inl ⟨rfl, rfl⟩⟩, rfl⟩, ⟨_, [], rfl, ⟨none, 0, rfl, Nat.le_refl _, Nat.zero_le _, Or.inl ⟨rfl, rfl⟩⟩, rfl⟩⟩⟩) rfl rfl rfl ?_
     intro v432
     refine RL.reL (L' := [own 3 TR.int v14 l13, own 26 (TR.pair TR.int (TR.pair (TR.sl TR.int) (TR.sl TR.int))) v310 l309, imm (TR.pair TR.int (TR.pair TR.raw (TR.sl TR.int))) v431 (((x311, ([] : (List Int)), ([] : (List Int))) : (Int × ((List Int) × (List Int)))).1, (Value.slice none 0 0, ((x311, ([] : (List Int)), ([] : (List Int))) : (Int × ((List Int) × (List Int)))).2.2)), obox 26 (TR.pair TR.int (TR.pair (TR.sl TR.int) (TR.sl TR.int))) v432 ((0 : Int), ([] : (List Int)), ([] : (List Int)))]) rfl ?_
     refine RL.rawB (t' := (TR.pair TR.int (TR.pair TR.raw (TR.sl TR.int)))) (mk := fun u => (((0 : Int), ([] : (List Int)), ([] : (List Int))).1, (u, ((0 : Int), ([] : (List Int)), ([] : (List Int))).2.2))) 3 rfl (Rawed.snd (Rawed.fst Rawed.sl)) ?_
     intro u433
     refine RL.stP (off := 0) (e' := (((x311, ([] : (List Int)), ([] : (List Int))) : (Int × ((List Int) × (List Int)))).1, (Value.slice none 0 0, ((x311, ([] : (List Int)), ([] : (List Int))) : (Int × ((List Int) × (List Int)))).2.2))) (d1 := (((x311, ([] : (List Int)), ([] : (List Int))) : (Int × ((List Int) × (List Int)))).1, (Value.slice none 0 0, ((x311, ([] : (List Int)), ([] : (List Int))) : (Int × ((List Int) × (List Int)))).2.2))) (r := (TR.pair TR.int (TR.pair TR.raw (TR.sl TR.int)))) 3 Try_ln26 rfl rfl (Or.inr ⟨rfl, rfl⟩) rfl (VR.item 2 rfl) rfl Upd.self ?_
     refine RL.weak (fun a w st => st.nilOwn 3 TR.int) ?_
     refine RL.reL (L' := [own 3 TR.int v14 l13, own 26 (TR.pair TR.int (TR.pair (TR.sl TR.int) (TR.sl TR.int))) v310 l309, imm (TR.pair TR.int (TR.pair TR.raw (TR.sl TR.int))) v431 (((x311, ([] : (List Int)), ([] : (List Int))) : (Int × ((List Int) × (List Int)))).1, (Value.slice none 0 0, ((x311, ([] : (List Int)), ([] : (List Int))) : (Int × ((List Int) × (List Int)))).2.2)), obox 26 (TR.pair TR.int (TR.pair TR.raw (TR.sl TR.int))) v432 (((x311, ([] : (List Int)), ([] : (List Int))) : (Int × ((List Int) × (List Int)))).1, (Value.slice none 0 0, ((x311, ([] : (List Int)), ([] : (List Int))) : (Int × ((List Int) × (List Int)))).2.2)), own 3 TR.int (Value.slice none 0 0) ([])]) rfl ?_
     refine RL.finG ?_
     refine GL.seq ?_
     refine GL.seq ?_
     refine GL.region ?_
     refine RL.mv rfl rfl rfl ?_
     refine RL.lenS 0 Try.underlying22 rfl rfl rfl rfl SlOf.own ?_
     refine RL.mv rfl rfl rfl ?_
     refine RL.finG ?_
     refine GL.lenOwn 0 rfl (fun n462 => ?_)
     obtain ⟨y463, K464, h465, h466, h467, h468, h469⟩ := bindF_K h421
     refine GL.join (ι := (List Int) × Value) (fun (p : (List Int) × Value) => [(0, .int .i64 y5), (5, v14), (8, v310), (9, .int .i64 (i298 : Int)), (10, .int .i64 x311), (11, v432), (39, .int .i64 (wadd y5 (1 : Int))), (40, .int .i64 (i298 : Int)), (43, .int .i64 x311)]) (fun (p : (List Int) × Value) => [own 3 TR.int v14 l13, own 26 (TR.pair TR.int (TR.pair (TR.sl TR.int) (TR.sl TR.int))) v310 l309, obox 26 (TR.pair TR.int (TR.pair TR.raw (TR.sl TR.int))) v432 (((x311, ([] : (List Int)), ([] : (List Int))) : (Int × ((List Int) × (List Int)))).1, (p.2, ((x311, ([] : (List Int)), ([] : (List Int))) : (Int × ((List Int) × (List Int)))).2.2)), own 3 TR.int p.2 p.1]) (fun (p : (List Int) × Value) => K464 (.nx p.1)) ?_ ?_
     ·refine GL.block ?_
      refine GL.loop (ι := Nat × Nat × (List Int) × Value) (fun (p : Nat × Nat × (List Int) × Value) => [(0, .int .i64 y5), (5, v14), (8, v310), (9, .int .i64 (i298 : Int)), (10, .int .i64 x311), (11, v432), (39, .int .i64 (wadd y5 (1 : Int))), (40, .int .i64 (i298 : Int)), (43, .int .i64 x311), (48, v14), (49, .int .i64 ((l13).length : Int)), (50, .int .i64 (p.1 : Int))]) (fun (p : Nat × Nat × (List Int) × Value) => [own 3 TR.int v14 l13, own 26 (TR.pair TR.int (TR.pair (TR.sl TR.int) (TR.sl TR.int))) v310 l309, own 3 TR.int p.2.2.2 p.2.2.1, obox 26 (TR.pair TR.int (TR.pair TR.raw (TR.sl TR.int))) v432 (((x311, ([] : (List Int)), ([] : (List Int))) : (Int × ((List Int) × (List Int)))).1, (p.2.2.2, ((x311, ([] : (List Int)), ([] : (List Int))) : (Int × ((List Int) × (List Int)))).2.2))]) (fun (p : Nat × Nat × (List Int) × Value) => p.1 + p.2.1 = (l13).length ∧ rangeN (top_TopTree_b4 l13 y5 i298 x311) p.2.1 p.1 p.2.2.1 = some y463) (fun (p : Nat × Nat × (List Int) × Value) => p.2.1) (0, (l13).length, [], Value.slice none 0 0) ⟨by simp, h465⟩ (fun a w st => St.cut [0, 1, 4, 3] ⟨rfl, rfl, rfl, rfl, rfl, rfl, rfl, rfl, rfl, rfl, rfl, rfl, trivial⟩ (by decide) rfl st) ?_
      rintro ⟨i470, r471, l447, v448⟩ ⟨h476, h475⟩
      try dsimp only at h476 h475
      refine GL.weak (env' := [(0, .int .i64 y5), (5, v14), (8, v310), (9, .int .i64 (i298 : Int)), (10, .int .i64 x311), (11, v432), (39, .int .i64 (wadd y5 (1 : Int))), (40, .int .i64 (i298 : Int)), (43, .int .i64 x311), (48, v14), (49, .int .i64 ((l13).length : Int)), (50, .int .i64 (i470 : Int))]) (L' := [own 3 TR.int v14 l13, own 26 (TR.pair TR.int (TR.pair (TR.sl TR.int) (TR.sl TR.int))) v310 l309, own 3 TR.int v448 l447, obox 26 (TR.pair TR.int (TR.pair TR.raw (TR.sl TR.int))) v432 (((x311, ([] : (List Int)), ([] : (List Int))) : (Int × ((List Int) × (List Int)))).1, (v448, ((x311, ([] : (List Int)), ([] : (List Int))) : (Int × ((List Int) × (List Int)))).2.2))]) (fun _ _ st => st) ?_
      refine GL.seq ?_
      refine GL.region ?_
      refine RL.binI (v := .bool (decide ((i470 : Int) < ((l13).length : Int)))) rfl rfl rfl rfl rfl ?_
      refine RL.finG ?_
      refine GL.seq ?_
      refine GL.cond rfl (fun b478 => ?_) (fun b478 => ?_)
      ·have h479 : i470 < (l13).length := by have := of_decide_eq_true b478; omega
       obtain ⟨r480, hr⟩ : ∃ m, r471 = m + 1 := ⟨r471 - 1, by omega⟩
       subst hr
       obtain ⟨z472, h473, h474⟩ := rangeN_some h475
       unfold top_TopTree_b4 at h473
       try dsimp only at h473
       refine GL.skip ?_
       refine GL.seq ?_
       refine GL.block ?_
       refine GL.seq ?_
       refine GL.region ?_
       obtain ⟨y483, e484, h473⟩ := bind_some h473
       refine RL.idxS (sz := 1) 0 Try.underlying22 Try_ln3 rfl rfl rfl rfl rfl SlOf.own (idx_some e484).1 (idx_some e484).2.1 ?_
       refine RL.ldSx (i := i470) (e' := y483) 0 Ex.ik Try_ln3 rfl rfl rfl rfl SlOf.own (idx_some e484).2.2 Part.self ?_
       refine RL.asg rfl rfl rfl ?_
       refine RL.finG ?_
       refine GL.seq ?_
       refine GL.region ?_
       refine RL.mv rfl rfl rfl ?_
       refine RL.mv rfl rfl rfl ?_
       refine RL.mv rfl rfl rfl ?_
       refine RL.binI (v := .int .i64 (wsub y5 (i298 : Int))) rfl rfl rfl rfl rfl ?_
       refine RL.binI (v := .bool (decide (y483 ≤ (wsub y5 (i298 : Int))))) rfl rfl rfl rfl rfl ?_
       refine RL.finG ?_
       refine GL.cond rfl (fun b485 => ?_) (fun b485 => ?_)
       ·replace h473 := ite_t b485 h473
        refine GL.region ?_
        refine RL.fadr (off := 0) (fo := 1) 3 Try_fld26_1 rfl rfl rfl PtOf.obox (Or.inr ⟨rfl, rfl⟩) ?_
        refine RL.ldPx (off := (0 + 1)) (e' := v448) 3 Ex.raw Try_ln22 rfl rfl (Or.inl rfl) rfl PtOf.obox (Part.snd (Part.fst Part.self)) ?_
        refine RL.mv rfl rfl rfl ?_
        refine RL.mv rfl rfl rfl ?_
        refine RL.binI (v := .int .i64 (wadd (i298 : Int) y483)) rfl rfl rfl rfl rfl ?_
        refine RL.binI (v := .int .i64 (wmul (2 : Int) (wadd (i298 : Int) y483))) rfl rfl rfl rfl rfl ?_
        refine RL.binI (v := .int .i64 (wadd (wmul (2 : Int) (wadd (i298 : Int) y483)) (1 : Int))) rfl rfl rfl rfl rfl ?_
        refine RL.mv rfl rfl rfl ?_
        refine RL.binI (v := .int .i64 (wsub (wadd (wmul (2 : Int) (wadd (i298 : Int) y483)) (1 : Int)) x311)) rfl rfl rfl rfl rfl ?_
        refine RL.bS (t := TR.int) (vs := [.int .i64 (wsub (wadd (wmul (2 : Int) (wadd (i298 : Int) y483)) (1 : Int)) x311)]) ([wsub (wadd (wmul (2 : Int) (wadd (i298 : Int) y483)) (1 : Int)) x311] : (List Int)) Try.underlying22 Try_lo3 rfl rfl rfl rfl ⟨VR.int, trivial⟩ rfl (by decide) ?_
        intro v490
        obtain ⟨y491, e492, h473⟩ := bind_some h473
        replace e492 := chk_some e492
        refine RL.app 2 4 Try.underlying22 Try_lo3 rfl rfl rfl rfl rfl rfl rfl SlOf.own e492 ?_
        intro v493
        refine RL.reL (L' := [own 3 TR.int v14 l13, own 26 (TR.pair TR.int (TR.pair (TR.sl TR.int) (TR.sl TR.int))) v310 l309, own 3 TR.int v493 (l447 ++ ([wsub (wadd (wmul (2 : Int) (wadd (i298 : Int) y483)) (1 : Int)) x311] : (List Int))), obox 26 (TR.pair TR.int (TR.pair TR.raw (TR.sl TR.int))) v432 (((x311, ([] : (List Int)), ([] : (List Int))) : (Int × ((List Int) × (List Int)))).1, (v448, ((x311, ([] : (List Int)), ([] : (List Int))) : (Int × ((List Int) × (List Int)))).2.2)), own 3 TR.int v490 ([wsub (wadd (wmul (2 : Int) (wadd (i298 : Int) y483)) (1 : Int)) x311] : (List Int))]) rfl ?_
        refine RL.fadr (off := 0) (fo := 1) 3 Try_fld26_1 rfl rfl rfl PtOf.obox (Or.inr ⟨rfl, rfl⟩) ?_
        refine RL.stP (off := (0 + 1)) (e' := v493) (d1 := (((x311, ([] : (List Int)), ([] : (List Int))) : (Int × ((List Int) × (List Int)))).1, (v493, ((x311, ([] : (List Int)), ([] : (List Int))) : (Int × ((List Int) × (List Int)))).2.2))) (r := TR.raw) 3 Try_ln22 rfl rfl (Or.inl rfl) rfl (VR.rawOf 2 rfl SlOf.own) rfl (Upd.snd (Upd.fst Upd.self)) ?_
        refine RL.reL (L' := [own 3 TR.int v14 l13, own 26 (TR.pair TR.int (TR.pair (TR.sl TR.int) (TR.sl TR.int))) v310 l309, own 3 TR.int v493 (l447 ++ ([wsub (wadd (wmul (2 : Int) (wadd (i298 : Int) y483)) (1 : Int)) x311] : (List Int))), obox 26 (TR.pair TR.int (TR.pair TR.raw (TR.sl TR.int))) v432 (((x311, ([] : (List Int)), ([] : (List Int))) : (Int × ((List Int) × (List Int)))).1, (v493, ((x311, ([] : (List Int)), ([] : (List Int))) : (Int × ((List Int) × (List Int)))).2.2)), own 3 TR.int v490 ([wsub (wadd (wmul (2 : Int) (wadd (i298 : Int) y483)) (1 : Int)) x311] : (List Int))]) rfl ?_
        refine RL.finG ?_
        refine GL.nilB ?_
        refine GL.region ?_
        refine RL.binI (v := .int .i64 ((i470 + 1 : Nat) : Int)) rfl rfl rfl rfl (binI_succ i470 (by omega)) ?_
        refine RL.mv rfl rfl rfl ?_
        refine RL.fin ?_
        cases h473
        exact fun a w st => lop_intro (i470 + 1, r480, (l447 ++ ([wsub (wadd (wmul (2 : Int) (wadd (i298 : Int) y483)) (1 : Int)) x311] : (List Int))), v493) ⟨by show i470 + 1 + r480 = (l13).length; omega, h474⟩ (by simp) (St.cut [0, 1, 2, 3] ⟨rfl, rfl, rfl, rfl, rfl, rfl, rfl, rfl, rfl, rfl, rfl, rfl, trivial⟩ (by decide) rfl st)
       replace h473 := ite_f b485 h473
       refine GL.skip ?_
       refine GL.nilB ?_
       refine GL.region ?_
       refine RL.binI (v := .int .i64 ((i470 + 1 : Nat) : Int)) rfl rfl rfl rfl (binI_succ i470 (by omega)) ?_
       refine RL.mv rfl rfl rfl ?_
       refine RL.fin ?_
       cases h473
       exact fun a w st => lop_intro (i470 + 1, r480, l447, v448) ⟨by show i470 + 1 + r480 = (l13).length; omega, h474⟩ (by simp) (St.cut [0, 1, 2, 3] ⟨rfl, rfl, rfl, rfl, rfl, rfl, rfl, rfl, rfl, rfl, rfl, rfl, trivial⟩ (by decide) rfl st)
      have h479 : ¬ i470 < (l13).length := by have := of_decide_eq_false b478; omega
      obtain rfl : r471 = 0 := by omega
      replace h475 : some (Fl.nx _) = some y463 := h475
      cases h475
      exact GL.exit (fun a w st => mid_intro (l447, v448) h466 (St.cut [0, 1, 3, 2] ⟨rfl, rfl, rfl, rfl, rfl, rfl, rfl, rfl, rfl, trivial⟩ (by decide) rfl st))
     rintro ⟨l447, v448⟩ h494
     have h495 := h467 _ h494
     try dsimp only at h495
     refine GL.weak (env' := [(0, .int .i64 y5), (5, v14), (8, v310), (9, .int .i64 (i298 : Int)), (10, .int .i64 x311), (11, v432), (39, .int .i64 (wadd y5 (1 : Int))), (40, .int .i64 (i298 : Int)), (43, .int .i64 x311)]) (L' := [own 3 TR.int v14 l13, own 26 (TR.pair TR.int (TR.pair (TR.sl TR.int) (TR.sl TR.int))) v310 l309, obox 26 (TR.pair TR.int (TR.pair TR.raw (TR.sl TR.int))) v432 (((x311, ([] : (List Int)), ([] : (List Int))) : (Int × ((List Int) × (List Int)))).1, (v448, ((x311, ([] : (List Int)), ([] : (List Int))) : (Int × ((List Int) × (List Int)))).2.2)), own 3 TR.int v448 l447]) (fun _ _ st => st) ?_
     refine GL.seq ?_
     refine GL.seq ?_
     refine GL.region ?_
     refine RL.fadr (off := 0) (fo := 1) 2 Try_fld26_1 rfl rfl rfl PtOf.obox (Or.inr ⟨rfl, rfl⟩) ?_
     refine RL.ldPx (off := (0 + 1)) (e' := v448) 2 Ex.raw Try_ln22 rfl rfl (Or.inl rfl) rfl PtOf.obox (Part.snd (Part.fst Part.self)) ?_
     refine RL.lenS 3 Try.underlying22 rfl rfl rfl rfl SlOf.own ?_
     refine RL.binI (v := .bool (((l447).length : Int) == (0 : Int))) rfl rfl rfl rfl rfl ?_
     refine RL.finG ?_
     refine GL.weak (fun a w st => st.freeze 3 rfl) ?_
     refine GL.weak (fun a w st => st.heldB 2 3 rfl rfl (Helded.snd (Helded.fst Helded.sl))) ?_
     obtain ⟨y502, K503, h504, h505, h506, h507, h508⟩ := bindF_K h495
     refine GL.join (ι := (Int × ((List Int) × (List Int)))) (fun (p : (Int × ((List Int) × (List Int)))) => [(0, .int .i64 y5), (5, v14), (8, v310), (9, .int .i64 (i298 : Int)), (11, v432), (39, .int .i64 (wadd y5 (1 : Int))), (40, .int .i64 (i298 : Int)), (43, .int .i64 x311)]) (fun (p : (Int × ((List Int) × (List Int)))) => [own 3 TR.int v14 l13, own 26 (TR.pair TR.int (TR.pair (TR.sl TR.int) (TR.sl TR.int))) v310 l309, obox 26 (TR.pair TR.int (TR.pair (TR.sl TR.int) (TR.sl TR.int))) v432 p]) (fun (p : (Int × ((List Int) × (List Int)))) => K503 (.nx p)) ?_ ?_
     ·skip
      refine GL.cond rfl (fun b509 => ?_) (fun b509 => ?_)
      ·replace h504 := ite_t b509 h504
       refine GL.region ?_
       refine RL.mv rfl rfl rfl ?_
       refine RL.binI (v := .int .i64 (wmul (2 : Int) x311)) rfl rfl rfl rfl rfl ?_
       refine RL.binI (v := .int .i64 (wsub (wmul (2 : Int) x311) (1 : Int))) rfl rfl rfl rfl rfl ?_
       refine RL.mv rfl rfl rfl ?_
       refine RL.binI (v := .int .i64 (wmul (2 : Int) x311)) rfl rfl rfl rfl rfl ?_
       refine RL.binI (v := .int .i64 (wsub (1 : Int) (wmul (2 : Int) x311))) rfl rfl rfl rfl rfl ?_
       refine RL.bS (t := TR.int) (vs := [.int .i64 (wsub (wmul (2 : Int) x311) (1 : Int)), .int .i64 (wsub (1 : Int) (wmul (2 : Int) x311))]) ([wsub (wmul (2 : Int) x311) (1 : Int), wsub (1 : Int) (wmul (2 : Int) x311)] : (List Int)) Try.underlying22 Try_lo3 rfl rfl rfl rfl ⟨VR.int, ⟨VR.int, trivial⟩⟩ rfl (by decide) ?_
       intro v512
       refine RL.weak (fun a w st => st.freeze 4 rfl) ?_
       refine RL.bld (t := (TR.pair TR.int (TR.pair (TR.sl TR.int) (TR.sl TR.int)))) (d0 := (((-1 : Int), ([] : (List Int)), ([wsub (wmul (2 : Int) x311) (1 : Int), wsub (1 : Int) (wmul (2 : Int) x311)] : (List Int))) : (Int × ((List Int) × (List Int))))) (pv := [(0, .int .i64 (-1 : Int)), (2, v512)]) rfl Try_bld26 rfl rfl rfl ⟨⟨_, _, TR.int, (-1 : Int), rfl, rfl, VR.int⟩, ⟨⟨_, _, (TR.sl TR.int), ([wsub (wmul (2 : Int) x311) (1 : Int), wsub (1 : Int) (wmul (2 : Int) x311)] : (List Int)), rfl, rfl, (VR.item 4 rfl)⟩, trivial⟩⟩ (fun S f hi => by
         obtain ⟨c0, e0, r0⟩ := cells_vrep (t := TR.int) (u := .int .i64 (-1 : Int)) (e := (-1 : Int)) (VR.int S f hi)
         obtain ⟨c2, e2, r2⟩ := cells_vrep (t := (TR.sl TR.int)) (u := v512) (e := ([wsub (wmul (2 : Int) x311) (1 : Int), wsub (1 : Int) (wmul (2 : Int) x311)] : (List Int))) ((VR.item 4 rfl) S f hi)
         show TR.rep (TR.pair TR.int (TR.pair (TR.sl TR.int) (TR.sl TR.int))) S (List.flatten [(.int .i64 (-1 : Int) : Value).cells.toList, [.slice none 0 0], (v512 : Value).cells.toList]) _
         simp only [e0, e2,  List.flatten_cons, List.flatten_nil, List.append_nil]
         exact ⟨_, _, rfl, r0, ⟨_, _, rfl, ⟨_, [], rfl, ⟨none, 0, rfl, Nat.le_refl _, Nat.zero_le _, Or.inl ⟨rfl, rfl⟩⟩, rfl⟩, r2⟩⟩) ?_
       intro v513
       refine RL.reL (L' := [own 3 TR.int v14 l13, own 26 (TR.pair TR.int (TR.pair (TR.sl TR.int) (TR.sl TR.int))) v310 l309, obox 26 (TR.pair TR.int (TR.pair (TR.sl TR.int) (TR.sl TR.int))) v432 (((x311, ([] : (List Int)), ([] : (List Int))) : (Int × ((List Int) × (List Int)))).1, (l447, ((x311, ([] : (List Int)), ([] : (List Int))) : (Int × ((List Int) × (List Int)))).2.2)), imm (TR.sl TR.int) v448 l447, imm (TR.sl TR.int) v512 ([wsub (wmul (2 : Int) x311) (1 : Int), wsub (1 : Int) (wmul (2 : Int) x311)] : (List Int)), imm (TR.pair TR.int (TR.pair (TR.sl TR.int) (TR.sl TR.int))) v513 (((-1 : Int), ([] : (List Int)), ([wsub (wmul (2 : Int) x311) (1 : Int), wsub (1 : Int) (wmul (2 : Int) x311)] : (List Int))) : (Int × ((List Int) × (List Int))))]) rfl ?_
       refine RL.stP (off := 0) (e' := (((-1 : Int), ([] : (List Int)), ([wsub (wmul (2 : Int) x311) (1 : Int), wsub (1 : Int) (wmul (2 : Int) x311)] : (List Int))) : (Int × ((List Int) × (List Int))))) (d1 := (((-1 : Int), ([] : (List Int)), ([wsub (wmul (2 : Int) x311) (1 : Int), wsub (1 : Int) (wmul (2 : Int) x311)] : (List Int))) : (Int × ((List Int) × (List Int))))) (r := (TR.pair TR.int (TR.pair (TR.sl TR.int) (TR.sl TR.int)))) 2 Try_ln26 rfl rfl (Or.inr ⟨rfl, rfl⟩) rfl (VR.item 5 rfl) rfl Upd.self ?_
       refine RL.finG ?_
       cases h504
       exact fun a w st => mid_intro (((-1 : Int), ([] : (List Int)), ([wsub (wmul (2 : Int) x311) (1 : Int), wsub (1 : Int) (wmul (2 : Int) x311)] : (List Int))) : (Int × ((List Int) × (List Int)))) h505 (St.cut [0, 1, 2] ⟨rfl, rfl, rfl, rfl, rfl, rfl, rfl, rfl, trivial⟩ (by decide) rfl st)
      replace h504 := ite_f b509 h504
      refine GL.skip ?_
      cases h504
      exact fun a w st => mid_intro (((x311, ([] : (List Int)), ([] : (List Int))) : (Int × ((List Int) × (List Int)))).1, (l447, ((x311, ([] : (List Int)), ([] : (List Int))) : (Int × ((List Int) × (List Int)))).2.2)) h505 (St.cut [0, 1, 2] ⟨rfl, rfl, rfl, rfl, rfl, rfl, rfl, rfl, trivial⟩ (by decide) rfl st)
     rintro l501 h514
     have h515 := h506 _ h514
     try dsimp only at h515
     refine GL.weak (env' := [(0, .int .i64 y5), (5, v14), (8, v310), (9, .int .i64 (i298 : Int)), (11, v432), (39, .int .i64 (wadd y5 (1 : Int))), (40, .int .i64 (i298 : Int)), (43, .int .i64 x311)]) (L' := [own 3 TR.int v14 l13, own 26 (TR.pair TR.int (TR.pair (TR.sl TR.int) (TR.sl TR.int))) v310 l309, obox 26 (TR.pair TR.int (TR.pair (TR.sl TR.int) (TR.sl TR.int))) v432 l501]) (fun _ _ st => st) ?_
     refine GL.region ?_
     refine RL.mv rfl rfl rfl ?_
     refine RL.ldP (off := 0) (r := (TR.pair TR.int (TR.pair (TR.sl TR.int) (TR.sl TR.int)))) (e' := l501) 2 Try_ln26 rfl rfl (Or.inr ⟨rfl, rfl⟩) rfl PtOf.obox Part.self ?_
     intro v521
     refine RL.bS (t := (TR.pair TR.int (TR.pair (TR.sl TR.int) (TR.sl TR.int)))) (vs := [v521]) ([l501] : (List (Int × ((List Int) × (List Int))))) Try.underlying24 Try_lo26 rfl rfl rfl rfl ⟨(VR.item 3 rfl), trivial⟩ rfl (by decide) ?_
     intro v522
     refine RL.reL (L' := [own 3 TR.int v14 l13, own 26 (TR.pair TR.int (TR.pair (TR.sl TR.int) (TR.sl TR.int))) v310 l309, obox 26 (TR.pair TR.int (TR.pair (TR.sl TR.int) (TR.sl TR.int))) v432 l501, imm (TR.pair TR.int (TR.pair (TR.sl TR.int) (TR.sl TR.int))) v521 l501, own 26 (TR.pair TR.int (TR.pair (TR.sl TR.int) (TR.sl TR.int))) v522 ([l501] : (List (Int × ((List Int) × (List Int)))))]) rfl ?_
     obtain ⟨y523, e524, h515⟩ := bind_some h515
     replace e524 := chk_some e524
     refine RL.app 1 4 Try.underlying24 Try_lo26 rfl rfl rfl rfl rfl rfl rfl SlOf.own e524 ?_
     intro v525
     refine RL.asg rfl rfl rfl ?_
     refine RL.finG ?_
     refine GL.nilB ?_
     refine GL.region ?_
     refine RL.binI (v := .int .i64 (wadd x311 (1 : Int))) rfl rfl rfl rfl rfl ?_
     refine RL.mv rfl rfl rfl ?_
     refine RL.finG ?_
     cases h515
     exact fun a w st => lop_intro (r426, (l309 ++ ([l501] : (List (Int × ((List Int) × (List Int)))))), wadd x311 (1 : Int), v525) (by exact h422) (by simp) (St.cut [0, 1] ⟨rfl, rfl, rfl, rfl, rfl, rfl, rfl, trivial⟩ (by decide) rfl st)
    replace h421 := ite_f b427 h421
    cases h421
    replace h422 : some (Fl.nx _) = some y411 := h422
    cases h422
    exact GL.exit (fun a w st => mid_intro (l309, x311, v310) h414 (St.cut [0, 1] ⟨rfl, rfl, rfl, rfl, rfl, trivial⟩ (by decide) rfl st))
   rintro ⟨l309, x311, v310⟩ h526
   have h527 := h415 _ h526
   try dsimp only at h527
   refine GL.weak (env' := [(0, .int .i64 y5), (5, v14), (8, v310), (39, .int .i64 (wadd y5 (1 : Int))), (40, .int .i64 (i298 : Int))]) (L' := [own 3 TR.int v14 l13, own 26 (TR.pair TR.int (TR.pair (TR.sl TR.int) (TR.sl TR.int))) v310 l309]) (fun _ _ st => st) ?_
   refine GL.nilB ?_
   refine GL.region ?_
   refine RL.binI (v := .int .i64 ((i298 + 1 : Nat) : Int)) rfl rfl rfl rfl (binI_succ i298 (by omega)) ?_
   refine RL.mv rfl rfl rfl ?_
   refine RL.fin ?_
   cases h527
   exact fun a w st => lop_intro (i298 + 1, r308, l309, v310) ⟨by show i298 + 1 + r308 = (wadd y5 (1 : Int)).toNat; omega, h302⟩ (by simp) (St.cut [0, 1] ⟨rfl, rfl, rfl, rfl, rfl, trivial⟩ (by decide) rfl st)
  have h307 : ¬ i298 < (wadd y5 (1 : Int)).toNat := by have := of_decide_eq_false b306; omega
  obtain rfl : r299 = 0 := by omega
  replace h303 : some (Fl.nx _) = some y291 := h303
  cases h303
  exact GL.exit (fun a w st => mid_intro (l67, v68) h294 (St.cut [0, 1] ⟨rfl, rfl, rfl, trivial⟩ (by decide) rfl st))
 rintro ⟨l67, v68⟩ h528
 have h529 := h295 _ h528
 try dsimp only at h529
 refine GL.weak (env' := [(0, .int .i64 y5), (5, v14), (8, v68)]) (L' := [own 3 TR.int v14 l13, own 26 (TR.pair TR.int (TR.pair (TR.sl TR.int) (TR.sl TR.int))) v68 l67]) (fun _ _ st => st) ?_
 refine GL.seq ?_
 refine GL.region ?_
 refine RL.mv rfl rfl rfl ?_
 refine RL.weak (fun a w st => st.freeze 1 rfl) ?_
 obtain ⟨y534, e535, h529⟩ := bind_some h529
 refine RL.call (vs := [.int .i64 (2 : Int), v68]) Try_fit5 rfl rfl rfl rfl rfl (fun S f w hS hW hi => tree_Solve_c S w hS (2 : Int) _ _ (hi 1 _ rfl) _ e535) ?_
 intro ⟨v536, v537⟩
 refine RL.reL (L' := [own 3 TR.int v14 l13, imm (TR.sl (TR.pair TR.int (TR.pair (TR.sl TR.int) (TR.sl TR.int)))) v68 l67, own 3 TR.int v536 y534.1, own 22 (TR.sl TR.int) v537 y534.2.1]) rfl ?_
 refine RL.mv rfl rfl rfl ?_
 refine RL.ext rfl rfl rfl rfl ?_
 refine RL.ext rfl rfl rfl rfl ?_
 refine RL.ext rfl rfl rfl rfl ?_
 refine RL.asg rfl rfl rfl ?_
 refine RL.asg rfl rfl rfl ?_
 refine RL.asg rfl rfl rfl ?_
 refine RL.finG ?_
 refine GL.seq ?_
 refine GL.region ?_
 refine RL.mv rfl rfl rfl ?_
 refine RL.mv rfl rfl rfl ?_
 obtain ⟨y541, e542, h529⟩ := bind_some h529
 refine RL.callU (vs := [.int .i64 y5, v14]) (LR := fun (o : Value) => [own 3 TR.int o y541.1]) (fun o => ⟨Loc.own TR.flatT_ik, trivial⟩) Try_fit6 rfl rfl rfl rfl rfl (fun U w hU hW hL => piles_Table_c U w hU y5 _ _ (hL 0 _ _ rfl Seen.own) _ e542) ?_
 intro v543
 refine RL.mv rfl rfl rfl ?_
 refine RL.ext rfl rfl rfl rfl ?_
 refine RL.ext rfl rfl rfl rfl ?_
 refine RL.asg rfl rfl rfl ?_
 refine RL.asg rfl rfl rfl ?_
 refine RL.finG ?_
 refine GL.seq ?_
 refine GL.seq ?_
 obtain ⟨y569, K570, h571, h572, h573, h574, h575⟩ := bindR_K h529
 refine GL.join (ι := Bool) (fun (p : Bool) => [(0, .int .i64 y5), (15, v537), (17, v543), (131, .bool p)]) (fun (p : Bool) => [own 22 (TR.sl TR.int) v537 y534.2.1, own 3 TR.int v543 y541.1]) (fun (p : Bool) => K570 (.nx p)) ?_ ?_
 ·skip
  refine GL.region ?_
  obtain ⟨y576, e577, h571⟩ := bind_some h571
  refine RL.callV (v := .bool y576) (vs := []) Try_fit7 rfl (Or.inl rfl) rfl rfl rfl rfl (fun U w hU hW hL => top_works_c U w hU  _ e577) ?_
  refine RL.notB rfl rfl rfl ?_
  refine RL.mv rfl rfl rfl ?_
  refine RL.split (t := 104) rfl (fun b578 => ?_) (fun b578 => ?_)
  ·replace h571 := ite_t b578 h571
   refine RL.skip rfl rfl ?_
   refine RL.skip rfl rfl ?_
   refine RL.skip rfl rfl ?_
   refine RL.skip rfl rfl ?_
   refine RL.skip rfl rfl ?_
   refine RL.pickT rfl rfl rfl rfl ?_
   refine RL.mv rfl rfl rfl ?_
   refine RL.skip rfl rfl ?_
   refine RL.skip rfl rfl ?_
   refine RL.skip rfl rfl ?_
   refine RL.skip rfl rfl ?_
   refine RL.skip rfl rfl ?_
   refine RL.pickT rfl rfl rfl rfl ?_
   refine RL.mv rfl rfl rfl ?_
   refine RL.skip rfl rfl ?_
   refine RL.skip rfl rfl ?_
   refine RL.skip rfl rfl ?_
   refine RL.skip rfl rfl ?_
   refine RL.skip rfl rfl ?_
   refine RL.pickT rfl rfl rfl rfl ?_
   refine RL.mv rfl rfl rfl ?_
   refine RL.skip rfl rfl ?_
   refine RL.skip rfl rfl ?_
   refine RL.skip rfl rfl ?_
   refine RL.skip rfl rfl ?_
   refine RL.skip rfl rfl ?_
   refine RL.pickT rfl rfl rfl rfl ?_
   refine RL.fin ?_
   cases h571
   exact fun a w st => mid_intro true h572 (St.cut [3, 4] ⟨rfl, rfl, rfl, rfl, trivial⟩ (by decide) rfl st)
  replace h571 := ite_f b578 h571
  refine RL.mv rfl rfl rfl ?_
  refine RL.mv rfl rfl rfl ?_
  refine RL.bS (t := TR.int) (vs := [.int .i64 y534.2.2, .int .i64 y541.2]) ([y534.2.2, y541.2] : (List Int)) Try.underlying42 Try_lo28 rfl rfl rfl rfl ⟨VR.int, ⟨VR.int, trivial⟩⟩ rfl (by decide) ?_
  intro v579
  obtain ⟨y580, e581, h571⟩ := bind_some h571
  refine RL.callV (v := .bool y580) (vs := [v579]) Try_fit8 rfl (Or.inl rfl) rfl rfl rfl rfl (fun U w hU hW hL => top_good_c U w hU _ _ (hL 5 _ _ rfl Seen.own) _ e581) ?_
  refine RL.notB rfl rfl rfl ?_
  refine RL.pickF rfl rfl rfl rfl ?_
  refine RL.mv rfl rfl rfl ?_
  refine RL.split (t := 111) rfl (fun b582 => ?_) (fun b582 => ?_)
  ·replace h571 := ite_t b582 h571
   refine RL.skip rfl rfl ?_
   refine RL.skip rfl rfl ?_
   refine RL.skip rfl rfl ?_
   refine RL.skip rfl rfl ?_
   refine RL.skip rfl rfl ?_
   refine RL.pickT rfl rfl rfl rfl ?_
   refine RL.mv rfl rfl rfl ?_
   refine RL.skip rfl rfl ?_
   refine RL.skip rfl rfl ?_
   refine RL.skip rfl rfl ?_
   refine RL.skip rfl rfl ?_
   refine RL.skip rfl rfl ?_
   refine RL.pickT rfl rfl rfl rfl ?_
   refine RL.mv rfl rfl rfl ?_
   refine RL.skip rfl rfl ?_
   refine RL.skip rfl rfl ?_
   refine RL.skip rfl rfl ?_
   refine RL.skip rfl rfl ?_
   refine RL.skip rfl rfl ?_
   refine RL.pickT rfl rfl rfl rfl ?_
   refine RL.fin ?_
   cases h571
   exact fun a w st => mid_intro true h572 (St.cut [3, 4] ⟨rfl, rfl, rfl, rfl, trivial⟩ (by decide) rfl st)
  replace h571 := ite_f b582 h571
  refine RL.mv rfl rfl rfl ?_
  refine RL.lenS 3 Try.underlying27 rfl rfl rfl rfl SlOf.own ?_
  refine RL.mv rfl rfl rfl ?_
  refine RL.lenS 1 Try.underlying24 rfl rfl rfl rfl SlOf.imm ?_
  refine RL.binI (v := .bool (((y534.2.1).length : Int) != ((l67).length : Int))) rfl rfl rfl rfl rfl ?_
  refine RL.pickF rfl rfl rfl rfl ?_
  refine RL.mv rfl rfl rfl ?_
  refine RL.split (t := 118) rfl (fun b583 => ?_) (fun b583 => ?_)
  ·replace h571 := ite_t b583 h571
   refine RL.skip rfl rfl ?_
   refine RL.skip rfl rfl ?_
   refine RL.skip rfl rfl ?_
   refine RL.skip rfl rfl ?_
   refine RL.skip rfl rfl ?_
   refine RL.pickT rfl rfl rfl rfl ?_
   refine RL.mv rfl rfl rfl ?_
   refine RL.skip rfl rfl ?_
   refine RL.skip rfl rfl ?_
   refine RL.skip rfl rfl ?_
   refine RL.skip rfl rfl ?_
   refine RL.skip rfl rfl ?_
   refine RL.pickT rfl rfl rfl rfl ?_
   refine RL.fin ?_
   cases h571
   exact fun a w st => mid_intro true h572 (St.cut [3, 4] ⟨rfl, rfl, rfl, rfl, trivial⟩ (by decide) rfl st)
  replace h571 := ite_f b583 h571
  refine RL.mv rfl rfl rfl ?_
  obtain ⟨y584, e585, h571⟩ := bind_some h571
  refine RL.idxS (sz := 1) 3 Try.underlying27 Try_ln22 rfl rfl rfl rfl rfl SlOf.own (idx_some e585).1 (idx_some e585).2.1 ?_
  refine RL.ldS (i := ((0 : Int)).toNat) (r := (TR.sl TR.int)) (e' := y584) 3 Try_ln22 rfl rfl rfl rfl SlOf.own (idx_some e585).2.2 Part.self ?_
  intro v586
  refine RL.reL (L' := [own 3 TR.int v14 l13, imm (TR.sl (TR.pair TR.int (TR.pair (TR.sl TR.int) (TR.sl TR.int)))) v68 l67, own 3 TR.int v536 y534.1, own 22 (TR.sl TR.int) v537 y534.2.1, own 3 TR.int v543 y541.1, own 28 TR.int v579 ([y534.2.2, y541.2] : (List Int)), imm (TR.sl TR.int) v586 y584]) rfl ?_
  refine RL.lenS 6 Try.underlying22 rfl rfl rfl rfl SlOf.imm ?_
  refine RL.binI (v := .bool (((y584).length : Int) != (2 : Int))) rfl rfl rfl rfl rfl ?_
  refine RL.pickF rfl rfl rfl rfl ?_
  refine RL.mv rfl rfl rfl ?_
  refine RL.split (t := 125) rfl (fun b587 => ?_) (fun b587 => ?_)
  ·replace h571 := ite_t b587 h571
   refine RL.skip rfl rfl ?_
   refine RL.skip rfl rfl ?_
   refine RL.skip rfl rfl ?_
   refine RL.skip rfl rfl ?_
   refine RL.skip rfl rfl ?_
   refine RL.pickT rfl rfl rfl rfl ?_
   refine RL.fin ?_
   cases h571
   exact fun a w st => mid_intro true h572 (St.cut [3, 4] ⟨rfl, rfl, rfl, rfl, trivial⟩ (by decide) rfl st)
  replace h571 := ite_f b587 h571
  refine RL.mv rfl rfl rfl ?_
  refine RL.lenS 4 Try.underlying22 rfl rfl rfl rfl SlOf.own ?_
  refine RL.mv rfl rfl rfl ?_
  refine RL.binI (v := .int .i64 (wadd y5 (1 : Int))) rfl rfl rfl rfl rfl ?_
  refine RL.binI (v := .bool (((y541.1).length : Int) != (wadd y5 (1 : Int)))) rfl rfl rfl rfl rfl ?_
  refine RL.pickF rfl rfl rfl rfl ?_
  refine RL.fin ?_
  cases h571
  exact fun a w st => mid_intro (((y541.1).length : Int) != (wadd y5 (1 : Int))) h572 (St.cut [3, 4] ⟨rfl, rfl, rfl, rfl, trivial⟩ (by decide) rfl st)
 rintro x568 h588
 have h589 := h573 _ h588
 try dsimp only at h589
 refine GL.weak (env' := [(0, .int .i64 y5), (15, v537), (17, v543), (131, .bool x568)]) (L' := [own 22 (TR.sl TR.int) v537 y534.2.1, own 3 TR.int v543 y541.1]) (fun _ _ st => st) ?_
 refine GL.cond rfl (fun b590 => ?_) (fun b590 => ?_)
 ·replace h589 := ite_t b590 h589
  refine GL.seq ?_
  refine GL.region ?_
  refine RL.asg rfl rfl rfl ?_
  refine RL.finG ?_
  have h589 := Option.some.inj h589
  subst h589
  exact GL.ret (Gx.ret (v := .bool false) (res1 rfl rfl) (fun a w st => st.toPostV))
 replace h589 := ite_f b590 h589
 refine GL.skip ?_
 refine GL.seq ?_
 obtain ⟨y628, K629, h630, h631, h632, h633, h634⟩ := bindR_K h589
 refine GL.join (ι := Bool) (fun (p : Bool) => [(4, .bool p)]) (fun (p : Bool) => []) (fun (p : Bool) => K629 (.nx p)) ?_ ?_
 ·skip
  refine GL.regionQ rfl rfl (by kernel_rfl) ?_
  refine RL.mv rfl rfl rfl ?_
  obtain ⟨y635, e636, h630⟩ := bind_some h630
  refine RL.idxS (sz := 1) 0 Try.underlying27 Try_ln22 rfl rfl rfl rfl rfl SlOf.own (idx_some e636).1 (idx_some e636).2.1 ?_
  refine RL.ldS (i := ((0 : Int)).toNat) (r := (TR.sl TR.int)) (e' := y635) 0 Try_ln22 rfl rfl rfl rfl SlOf.own (idx_some e636).2.2 Part.self ?_
  intro v637
  obtain ⟨y638, e639, h630⟩ := bind_some h630
  refine RL.idxS (sz := 1) 2 Try.underlying22 Try_ln3 rfl rfl rfl rfl rfl SlOf.imm (idx_some e639).1 (idx_some e639).2.1 ?_
  refine RL.ldSx (i := ((0 : Int)).toNat) (e' := y638) 2 Ex.ik Try_ln3 rfl rfl rfl rfl SlOf.imm (idx_some e639).2.2 Part.self ?_
  refine RL.binI (v := .bool (y638 == (1 : Int))) rfl rfl rfl rfl rfl ?_
  refine RL.mv rfl rfl rfl ?_
  refine RL.mv rfl rfl rfl ?_
  obtain ⟨y640, e641, h630⟩ := bind_some h630
  refine RL.idxS (sz := 1) 1 Try.underlying22 Try_ln3 rfl rfl rfl rfl rfl SlOf.own (idx_some e641).1 (idx_some e641).2.1 ?_
  refine RL.ldSx (i := (y5).toNat) (e' := y640) 1 Ex.ik Try_ln3 rfl rfl rfl rfl SlOf.own (idx_some e641).2.2 Part.self ?_
  refine RL.binI (v := .bool (y640 != (0 : Int))) rfl rfl rfl rfl rfl ?_
  refine RL.eqB Try.underlying4 rfl rfl rfl rfl ?_
  refine RL.mv rfl rfl rfl ?_
  refine RL.split (t := 144) rfl (fun b642 => ?_) (fun b642 => ?_)
  ·replace h630 := ite_t b642 h630
   refine RL.mv rfl rfl rfl ?_
   obtain ⟨y643, e644, h630⟩ := bind_some h630
   refine RL.idxS (sz := 1) 0 Try.underlying27 Try_ln22 rfl rfl rfl rfl rfl SlOf.own (idx_some e644).1 (idx_some e644).2.1 ?_
   refine RL.ldS (i := ((0 : Int)).toNat) (r := (TR.sl TR.int)) (e' := y643) 0 Try_ln22 rfl rfl rfl rfl SlOf.own (idx_some e644).2.2 Part.self ?_
   intro v645
   refine RL.reL (L' := [own 22 (TR.sl TR.int) v537 y534.2.1, own 3 TR.int v543 y541.1, imm (TR.sl TR.int) v637 y635, imm (TR.sl TR.int) v645 y643]) rfl ?_
   obtain ⟨y646, e647, h630⟩ := bind_some h630
   refine RL.idxS (sz := 1) 3 Try.underlying22 Try_ln3 rfl rfl rfl rfl rfl SlOf.imm (idx_some e647).1 (idx_some e647).2.1 ?_
   refine RL.ldSx (i := ((0 : Int)).toNat) (e' := y646) 3 Ex.ik Try_ln3 rfl rfl rfl rfl SlOf.imm (idx_some e647).2.2 Part.self ?_
   refine RL.mv rfl rfl rfl ?_
   obtain ⟨y648, e649, h630⟩ := bind_some h630
   refine RL.idxS (sz := 1) 0 Try.underlying27 Try_ln22 rfl rfl rfl rfl rfl SlOf.own (idx_some e649).1 (idx_some e649).2.1 ?_
   refine RL.ldS (i := ((0 : Int)).toNat) (r := (TR.sl TR.int)) (e' := y648) 0 Try_ln22 rfl rfl rfl rfl SlOf.own (idx_some e649).2.2 Part.self ?_
   intro v650
   obtain ⟨y651, e652, h630⟩ := bind_some h630
   refine RL.idxS (sz := 1) 4 Try.underlying22 Try_ln3 rfl rfl rfl rfl rfl SlOf.imm (idx_some e652).1 (idx_some e652).2.1 ?_
   refine RL.ldSx (i := ((1 : Int)).toNat) (e' := y651) 4 Ex.ik Try_ln3 rfl rfl rfl rfl SlOf.imm (idx_some e652).2.2 Part.self ?_
   refine RL.negI rfl rfl rfl ?_
   refine RL.binI (v := .bool (y646 == (wsub 0 y651))) rfl rfl rfl rfl rfl ?_
   refine RL.pickT rfl rfl rfl rfl ?_
   refine RL.asg rfl rfl rfl ?_
   refine RL.finQ ?_
   cases h630
   exact fun a w st => mid_intro (y646 == (wsub 0 y651)) h631 (St.cut [] ⟨rfl, trivial⟩ (by decide) rfl st)
  replace h630 := ite_f b642 h630
  refine RL.skip rfl rfl ?_
  refine RL.skip rfl rfl ?_
  refine RL.skip rfl rfl ?_
  refine RL.skip rfl rfl ?_
  refine RL.skip rfl rfl ?_
  refine RL.skip rfl rfl ?_
  refine RL.skip rfl rfl ?_
  refine RL.skip rfl rfl ?_
  refine RL.skip rfl rfl ?_
  refine RL.skip rfl rfl ?_
  refine RL.skip rfl rfl ?_
  refine RL.skip rfl rfl ?_
  refine RL.pickF rfl rfl rfl rfl ?_
  refine RL.asg rfl rfl rfl ?_
  refine RL.finQ ?_
  cases h630
  exact fun a w st => mid_intro false h631 (St.cut [] ⟨rfl, trivial⟩ (by decide) rfl st)
 rintro x627 h653
 have h654 := h632 _ h653
 try dsimp only at h654
 refine GL.weak (env' := [(4, .bool x627)]) (L' := []) (fun _ _ st => st) ?_
 have h654 := Option.some.inj h654
 subst h654
 exact GL.ret (Gx.ret (v := .bool x627) (res1 rfl rfl) (fun a w st => st.toPostV))
end Go.Wk
